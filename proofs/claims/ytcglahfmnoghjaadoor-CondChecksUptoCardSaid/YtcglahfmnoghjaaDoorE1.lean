/- The engine's words: symbolic values, what they stand for, and a function that turns code into what is to be proved of it.
   Conditions: none; this text holds definitions alone. -/
import Derived.WalkKit
namespace Go.Eng
open Go

/-- What an entry of the symbolic heap is in memory. -/
inductive Wit where
  | dead
  | blk (b : Nat)
  | sl (v : Value)
  | ro (v : Value)

/-- What an entry may become. -/
def Wit.le (x y : Wit) : Prop := y = x ∨ y = .dead ∨ ∃ v, x = .sl v ∧ y = .ro v
theorem Wit.le.refl (x : Wit) : x.le x := .inl rfl
theorem Wit.le.trans {x y z : Wit} (h : x.le y) (k : y.le z) : x.le z := by
  rcases h with rfl | rfl | ⟨v, rfl, rfl⟩
  · exact k
  · rcases k with rfl | rfl | ⟨v, h, _⟩
    · exact .inr (.inl rfl)
    · exact .inr (.inl rfl)
    · cases h
  · rcases k with rfl | rfl | ⟨v, h, _⟩
    · exact .inr (.inr ⟨v, rfl, rfl⟩)
    · exact .inr (.inl rfl)
    · cases h

variable {A : Nat → Type}

mutual
/-- A symbolic value. 'A' names, for the number of a type of elements, the data that such an element is read as. -/
inductive SV (A : Nat → Type) : Type
  | junk
  | undef
  | val (v : Value)
  | int (k : IntKind) (n : Int)
  | lit (k : IntKind) (n : Int)
  | bl (b : Bool)
  | sb (id : Nat) (b : Bool)
  | ptr (i off : Nat)
  | aptr (i off n j : Nat)
  | asl (i off n : Nat)
  | rptr (cs : SL A) (off : Nat)
  | rints (k : IntKind) (xs : List Int)
  | rseq (t : Nat) (xs : List (A t))
  | vec (i : Nat)
  | vptr (i j size off : Nat)
  | iface (t : TypeId) (v : SV A)
  | err (t : TypeId) (n : Int)
  | fn (f : Fn) (first captured : SL A)
  | agg (cs : SL A)
  | tup (vs : SL A)
/-- Cells, one behind the other. -/
inductive SL (A : Nat → Type) : Type
  | nil
  | cell (v : SV A) (r : SL A)
  | run (k : IntKind) (n : Nat) (xs : List Int) (r : SL A)
end

/-- An object of the symbolic heap. -/
inductive SO (A : Nat → Type) : Type
  | dead
  | cells (elem : TypeId) (cs : SL A)
  | ivec (elem : TypeId) (k : IntKind) (xs : List Int)
  | svec (elem : TypeId) (xs : List (A elem))
  | fr (v : SV A)

/-- How the data of an element lie in cells, and how many these are. -/
structure Enc (A : Nat → Type) where
  enc : (t : Nat) → A t → SL A
  size : Nat → Nat

def SL.len : SL A → Nat
  | .nil => 0
  | .cell _ r => r.len + 1
  | .run _ n _ r => n + r.len

def SL.app : SL A → SL A → SL A
  | .nil, d => d
  | .cell v r, d => .cell v (r.app d)
  | .run k n xs r, d => .run k n xs (r.app d)

/-- The first n cells. -/
def SL.take : SL A → Nat → Option (SL A)
  | _, 0 => some .nil
  | .nil, _ + 1 => none
  | .cell v r, n + 1 => match r.take n with
    | some x => some (.cell v x)
    | none => none
  | .run k m xs r, n + 1 => if m ≤ n + 1 then (match r.take (n + 1 - m) with
    | some x => some (.run k m xs x)
    | none => none) else some (.run k (n + 1) (xs.take (n + 1)) .nil)

/-- All but the first n cells. -/
def SL.drop : SL A → Nat → Option (SL A)
  | cs, 0 => some cs
  | .nil, _ + 1 => none
  | .cell _ r, n + 1 => r.drop n
  | .run k m xs r, n + 1 => if m ≤ n + 1 then r.drop (n + 1 - m) else some (.run k (m - (n + 1)) (xs.drop (n + 1)) r)

/-- The cell at a place. -/
def SL.one : SL A → Nat → Option (SV A)
  | .nil, _ => none
  | .cell v _, 0 => some v
  | .cell _ r, o + 1 => r.one o
  | .run k m xs r, o => if o < m then some (.int k (xs.getD o 0)) else r.one (o - m)

/-- n cells from a place on. -/
def SL.sub (cs : SL A) (o n : Nat) : Option (SL A) := match cs.drop o with
  | some d => d.take n
  | none => none

/-- Cells laid over others. -/
def SL.put (cs : SL A) (o : Nat) (d : SL A) : Option (SL A) := match cs.take o with
  | some a => match cs.drop (o + d.len) with
    | some b => some (a.app (d.app b))
    | none => none
  | none => none

/-- One integer of the run that begins at a place. -/
def SL.runAt : SL A → Nat → Option (IntKind × Nat × List Int)
  | .nil, _ => none
  | .cell _ _, 0 => none
  | .cell _ r, o + 1 => r.runAt o
  | .run k m xs r, o => if o < m then (if o = 0 then some (k, m, xs) else none) else r.runAt (o - m)
def SL.runSet : SL A → Nat → List Int → SL A
  | .nil, _, _ => .nil
  | .cell v r, 0, _ => .cell v r
  | .cell v r, o + 1, ys => .cell v (r.runSet o ys)
  | .run k m xs r, o, ys => if o < m then .run k m ys r else .run k m xs (r.runSet (o - m) ys)

def nth {α : Type _} : List α → Nat → Option α
  | [], _ => none
  | x :: _, 0 => some x
  | _ :: l, n + 1 => nth l n
def setNth {α : Type _} : List α → Nat → α → List α
  | [], _, _ => []
  | _ :: l, 0, y => y :: l
  | x :: l, n + 1, y => x :: setNth l n y
def snoc {α : Type _} : List α → α → List α
  | [], y => [y]
  | x :: l, y => x :: snoc l y
def cnt {α : Type _} : List α → Nat
  | [] => 0
  | _ :: l => cnt l + 1

/-! ## What they stand for -/
section
variable (O : Nat → Prop) (env : List Wit) (w : World)

def Wit.owns : Wit → Nat → Prop
  | .dead, _ => False
  | .blk b, x => x = b
  | .sl v, x => v.ownBlock = some x
  | .ro _, _ => False
def owned (b : Nat) : Prop := ∃ i : Nat, ∃ x : Wit, env[i]? = some x ∧ x.owns b

/-- These values are read at an address, and nobody here writes there. -/
def ROat (A : Option Addr) (vs : List Value) : Prop :=
  vs = [] ∨ ∃ b o, A = some ⟨b, o, none⟩ ∧ ¬ O b ∧ ¬ owned env b ∧ ∀ (j : Nat) u, vs[j]? = some u → w.cell? ⟨b, o + j, none⟩ = some u

/-- The block of an entry, if it lives. -/
def blkAt (i : Nat) (P : Nat → Prop) : Prop := match env[i]? with
  | some (.blk b) => P b
  | some .dead => True
  | _ => False
def slAt (i : Nat) (P : Value → Prop) : Prop := match env[i]? with
  | some (.sl v) => P v
  | some (.ro v) => P v
  | some .dead => True
  | _ => False

variable (C : Enc A)
mutual
inductive Rep : SV A → Value → Prop
  | junk {v : Value} : Rep .junk v
  | undef : Rep .undef Go.undef
  | val {v : Value} : Rep (.val v) v
  | int {k : IntKind} {n : Int} : Rep (.int k n) (.int k n)
  | lit {k : IntKind} {n : Int} : Rep (.lit k n) (.int k n)
  | bl {b : Bool} : Rep (.bl b) (.bool b)
  | sb {i : Nat} {b : Bool} : Rep (.sb i b) (.bool b)
  | ptr {i off : Nat} {v : Value} (h : blkAt env i fun b => v = .pointer (some ⟨b, off, none⟩)) : Rep (.ptr i off) v
  | aptr {i off n j : Nat} {v : Value} (h : blkAt env i fun b => v = .pointer (some ⟨b, off + j, none⟩) ∧ j < n) : Rep (.aptr i off n j) v
  | asl {i off n : Nat} {v : Value} (h : blkAt env i fun b => ∃ c, v = .slice (some ⟨b, off, none⟩) n c ∧ n ≤ c ∧ c ≤ maxLen) : Rep (.asl i off n) v
  | rptr {cs : SL A} {off : Nat} (b o : Nat) (vs : List Value) (hO : ¬ O b) (he : ¬ owned env b) (hb : b < w.heap.size)
      (hc : ∀ (j : Nat) u, vs[j]? = some u → w.cell? ⟨b, o + j, none⟩ = some u) (h : RepL cs vs) : Rep (.rptr cs off) (.pointer (some ⟨b, o + off, none⟩))
  | rints {k : IntKind} {xs : List Int} (a : Option Addr) (c : Nat) (h1 : xs.length ≤ c) (h2 : c ≤ maxLen) (h : ROat O env w a (xs.map (Value.int k))) : Rep (.rints k xs) (.slice a xs.length c)
  | rseq {t : Nat} {xs : List (A t)} (a : Option Addr) (c : Nat) (vs : List Value) (h1 : xs.length ≤ c) (h2 : c ≤ maxLen) (h3 : vs.length = xs.length * C.size t) (h : ROat O env w a vs)
      (hx : ∀ (j : Nat) (x : A t), xs[j]? = some x → RepL (C.enc t x) ((vs.drop (j * C.size t)).take (C.size t))) : Rep (.rseq t xs) (.slice a xs.length c)
  | vec {i : Nat} {v : Value} (h : slAt env i fun u => v = u) : Rep (.vec i) v
  | vptr {i j size off : Nat} {v : Value} (h : slAt env i fun u => ∃ b n c, u = .slice (some ⟨b, 0, none⟩) n c ∧ v = .pointer (some ⟨b, j * size + off, none⟩)) : Rep (.vptr i j size off) v
  | iface {t : TypeId} {s : SV A} {u : Value} (h : Rep s u) : Rep (.iface t s) (.iface t u)
  | err {t : TypeId} {n : Int} {v : Value} (h : n = 0 ∧ v = .nilIface ∨ n ≠ 0 ∧ v = .iface t (.int .i64 n)) : Rep (.err t n) v
  | fn {f : Fn} {a b : SL A} (us vs : List Value) (ha : RepL a us) (hb : RepL b vs) : Rep (.fn f a b) (.func f us.toArray vs.toArray)
  | agg {cs : SL A} (vs : List Value) (h : RepL cs vs) : Rep (.agg cs) (.agg vs.toArray)
  | tup {cs : SL A} (vs : List Value) (h : RepL cs vs) : Rep (.tup cs) (.tuple vs.toArray)
inductive RepL : SL A → List Value → Prop
  | nil : RepL .nil []
  | cell {s : SV A} {r : SL A} {u : Value} {us : List Value} (h : Rep s u) (hr : RepL r us) : RepL (.cell s r) (u :: us)
  | run {k : IntKind} {n : Nat} {xs : List Int} {r : SL A} {us : List Value} (hn : xs.length = n) (hr : RepL r us) : RepL (.run k n xs r) (xs.map (Value.int k) ++ us)
end
end

/-- From a world to a later one: what nobody here owns is as it was. -/
structure Step (env : List Wit) (w : World) (env' : List Wit) (w' : World) : Prop where
  os : w'.os = w.os
  tape : w'.tape = w.tape
  output : w'.output = w.output
  size : w.heap.size ≤ w'.heap.size
  elen : env.length ≤ env'.length
  keep : ∀ (i : Nat) x, env[i]? = some x → ∃ y, env'[i]? = some y ∧ x.le y
  fresh : ∀ b, owned env' b → owned env b ∨ w.heap.size ≤ b
  cells : ∀ b, b < w.heap.size → ¬ owned env b → w'.heap[b]? = w.heap[b]?

theorem Step.refl (env : List Wit) (w : World) : Step env w env w :=
  ⟨rfl, rfl, rfl, Nat.le_refl _, Nat.le_refl _, fun _ x h => ⟨x, h, .refl x⟩, fun _ h => .inl h, fun _ _ _ => rfl⟩

theorem Step.trans {e e1 e2 : List Wit} {w w1 w2 : World} (h : Step e w e1 w1) (k : Step e1 w1 e2 w2) : Step e w e2 w2 where
  os := k.os.trans h.os
  tape := k.tape.trans h.tape
  output := k.output.trans h.output
  size := Nat.le_trans h.size k.size
  elen := Nat.le_trans h.elen k.elen
  keep := fun i x hx => by
    obtain ⟨y, h1, h2⟩ := h.keep i x hx
    obtain ⟨z, h3, h4⟩ := k.keep i y h1
    exact ⟨z, h3, h2.trans h4⟩
  fresh := fun b hb => by
    rcases k.fresh b hb with h1 | h1
    · exact h.fresh b h1
    · exact .inr (Nat.le_trans h.size h1)
  cells := fun b hb hn => by
    have hn1 : ¬ owned e1 b := fun h1 => (h.fresh b h1).elim hn (fun h2 => by omega)
    exact (k.cells b (Nat.lt_of_lt_of_le hb h.size) hn1).trans (h.cells b hb hn)

section
variable {O : Nat → Prop} {env env' : List Wit} {w w' : World} {C : Enc A}

theorem cell_lt {w : World} {b o : Nat} {u : Value} (h : w.cell? ⟨b, o, none⟩ = some u) : b < w.heap.size :=
  World.block_lt_of_cell? w ⟨b, o, none⟩ h

theorem ROat.step (hs : Step env w env' w') {a : Option Addr} {vs : List Value} (h : ROat O env w a vs) : ROat O env' w' a vs := by
  rcases h with h | ⟨b, o, ha, hO, he, hc⟩
  · exact .inl h
  · cases vs with
    | nil => exact .inl rfl
    | cons u us =>
      have hb : b < w.heap.size := cell_lt (hc 0 u rfl)
      refine .inr ⟨b, o, ha, hO, fun h1 => (hs.fresh b h1).elim he (fun h2 => by omega), fun j x hx => ?_⟩
      have h1 := hc j x hx
      have h2 := hs.cells b hb he
      simp only [World.cell?, h2] at h1 ⊢
      exact h1

theorem blkAt.le {i : Nat} {P : Nat → Prop} {env env' : List Wit} (hk : ∀ x, env[i]? = some x → ∃ y, env'[i]? = some y ∧ x.le y) (h : blkAt env i P) : blkAt env' i P := by
  unfold blkAt at *
  cases hx : env[i]? with
  | none => simp [hx] at h
  | some x =>
    rw [hx] at h
    obtain ⟨y, h1, h2⟩ := hk x hx
    rw [h1]
    rcases h2 with rfl | rfl | ⟨v, rfl, rfl⟩
    · exact h
    · trivial
    · exact h.elim
theorem slAt.le {i : Nat} {P : Value → Prop} {env env' : List Wit} (hk : ∀ x, env[i]? = some x → ∃ y, env'[i]? = some y ∧ x.le y) (h : slAt env i P) : slAt env' i P := by
  unfold slAt at *
  cases hx : env[i]? with
  | none => simp [hx] at h
  | some x =>
    rw [hx] at h
    obtain ⟨y, h1, h2⟩ := hk x hx
    rw [h1]
    rcases h2 with rfl | rfl | ⟨v, rfl, rfl⟩
    · exact h
    · trivial
    · exact h
theorem blkAt.step (hs : Step env w env' w') {i : Nat} {P : Nat → Prop} (h : blkAt env i P) : blkAt env' i P := h.le (hs.keep i)
theorem slAt.step (hs : Step env w env' w') {i : Nat} {P : Value → Prop} (h : slAt env i P) : slAt env' i P := h.le (hs.keep i)

mutual
theorem Rep.step (hs : Step env w env' w') : ∀ {s : SV A} {v : Value}, Rep O env w C s v → Rep O env' w' C s v
  | _, _, .junk => .junk
  | _, _, .undef => .undef
  | _, _, .val => .val
  | _, _, .int => .int
  | _, _, .lit => .lit
  | _, _, .bl => .bl
  | _, _, .sb => .sb
  | _, _, .ptr h => .ptr (h.step hs)
  | _, _, .aptr h => .aptr (h.step hs)
  | _, _, .asl h => .asl (h.step hs)
  | _, _, .rptr b o vs hO he hb hc h => .rptr b o vs hO (fun h1 => (hs.fresh b h1).elim he (fun h2 => by omega)) (Nat.lt_of_lt_of_le hb hs.size)
      (fun j u hu => by
        have h1 := hc j u hu
        have h2 := hs.cells b hb he
        simp only [World.cell?, h2] at h1 ⊢
        exact h1) (RepL.step hs h)
  | _, _, .rints a c h1 h2 h => .rints a c h1 h2 (h.step hs)
  | _, _, .rseq a c vs h1 h2 h3 h hx => .rseq a c vs h1 h2 h3 (h.step hs) (fun j x hj => RepL.step hs (hx j x hj))
  | _, _, .vec h => .vec (h.step hs)
  | _, _, .vptr h => .vptr (h.step hs)
  | _, _, .iface h => .iface (Rep.step hs h)
  | _, _, .err h => .err h
  | _, _, .fn us vs ha hb => .fn us vs (RepL.step hs ha) (RepL.step hs hb)
  | _, _, .agg vs h => .agg vs (RepL.step hs h)
  | _, _, .tup vs h => .tup vs (RepL.step hs h)
theorem RepL.step (hs : Step env w env' w') : ∀ {cs : SL A} {vs : List Value}, RepL O env w C cs vs → RepL O env' w' C cs vs
  | _, _, .nil => .nil
  | _, _, .cell h hr => .cell (Rep.step hs h) (RepL.step hs hr)
  | _, _, .run hn hr => .run hn (RepL.step hs hr)
end
end
end Go.Eng
