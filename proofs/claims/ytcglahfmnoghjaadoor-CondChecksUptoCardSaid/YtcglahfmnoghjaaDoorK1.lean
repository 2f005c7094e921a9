/- The engine for this program: its data, its table of contracts. Conditions: none. -/
import Derived.Test.YtcglahfmnoghjaaDoorE24
import Derived.Test.YtcglahfmnoghjaaDoorProg
namespace Go.Proofs.YtcglahfmnoghjaaDoor
open Go Go.Eng Go.Proofs.Tryd

structure Br where
  keys : List Int
  lock : List Int
  after : Int
  older : Int

def AA (t : Nat) : Type := cond (Nat.beq t 48) Br (cond (Nat.beq t 93) Br Unit)

def encBr (b : Br) : SL AA := .cell (.rints .i64 b.keys) (.run .u8 32 b.lock (.cell (.int .i64 b.after) (.cell (.int .i64 b.older) .nil)))
def asI : SV AA → Option Int
  | .int .i64 n => some n
  | .lit .i64 n => some n
  | _ => none
def asIs (k : IntKind) : SV AA → Option (List Int)
  | .rints k' ks => if k' = k then some ks else none
  | .val (.slice none 0 0) => some []
  | _ => none
def decBr : SL AA → Option Br
  | .cell ks (.run .u8 n l (.cell x (.cell y .nil))) => if n = 32 then (match asIs .i64 ks, asI x, asI y with
    | some ks, some a, some o => some ⟨ks, l, a, o⟩
    | _, _, _ => none) else none
  | _ => none
theorem asI_eqv {x : SV AA} {n : Int} (h : asI x = some n) : eqv (.int .i64 n) x := by
  unfold asI at h
  split at h
  · cases h; simp [eqv]
  · cases h; simp [eqv]
  · cases h
theorem asIs_eqv {x : SV AA} {k : IntKind} {ks : List Int} (h : asIs k x = some ks) : eqv (.rints k ks) x := by
  unfold asIs at h
  split at h
  · split at h
    · rename_i e; subst e; cases h; simp [eqv]
    · cases h
  · cases h; simp [eqv]
  · cases h
theorem decBr_eqv {cs : SL AA} {b : Br} (h : decBr cs = some b) : eqvL (encBr b) cs := by
  unfold decBr at h
  split at h
  · split at h
    · rename_i e
      subst e
      split at h
      · rename_i h1 h2 h3
        cases h
        simp only [encBr, eqvL, if_true, true_and, and_true]
        exact ⟨asIs_eqv h1, asI_eqv h2, asI_eqv h3⟩
      · cases h
    · cases h
  · cases h
def encA (t : Nat) (y : AA t) : SL AA := if h : t = 48 then encBr (show AA 48 from h ▸ y) else if h : t = 93 then encBr (show AA 93 from h ▸ y) else .nil
def sizeA (t : Nat) : Nat := cond (Nat.beq t 48) 35 (cond (Nat.beq t 93) 35 0)
def decA (t : Nat) (cs : SL AA) : Option (AA t) := if h : t = 48 then (show Option (AA 48) from decBr cs).map (fun y => h ▸ y) else if h : t = 93 then (show Option (AA 93) from decBr cs).map (fun y => h ▸ y) else none

theorem encA_cases (t : Nat) (y : AA t) : (∃ b, encA t y = encBr b ∧ sizeA t = 35) ∨ (encA t y = .nil ∧ sizeA t = 0) := by
  unfold encA
  split
  · rename_i h; subst h; exact .inl ⟨_, rfl, rfl⟩
  · split
    · rename_i h; subst h; exact .inl ⟨_, rfl, rfl⟩
    · rename_i h1 h2
      refine .inr ⟨rfl, ?_⟩
      have e1 : Nat.beq t 48 = false := by cases h : Nat.beq t 48; rfl; exact absurd (Nat.eq_of_beq_eq_true h) h1
      have e2 : Nat.beq t 93 = false := by cases h : Nat.beq t 93; rfl; exact absurd (Nat.eq_of_beq_eq_true h) h2
      simp [sizeA, e1, e2]

def CC : Enc AA := ⟨encA, sizeA⟩
/-- What the package-level variables hold: the first one is errors.errorType. -/
def GG (g : Nat) : Option (SL AA) := cond (Nat.beq g 0) (some (.cell (.val (.iface 179 (.agg #[.pointer (some ⟨3, 34, none⟩)]))) .nil)) none
theorem GG_below : ∀ g cs, GG g = some cs → belowL 0 cs = true := by
  intro g cs h
  unfold GG at h
  cases e : Nat.beq g 0 with
  | true => rw [e] at h; cases h; rfl
  | false => rw [e] at h; cases h

def ttOf : List (Nat × SpecT AA) → Nat → SpecT AA
  | [], _ => fun _ _ _ => False
  | p :: l, g => cond (Nat.beq g p.1) p.2 (ttOf l g)

/-- These types' values are held against each other. -/
def eqList : List Nat := [44, 81, 87]
def eqA (P : Program) (t : Nat) : Bool := if inL t eqList then (if P.stoodInHeld t then false else (if P.eqGuardType P.depth t then false else true)) else false
theorem eqA_ok {P : Program} {t : Nat} (h : eqA P t = true) : P.stoodInHeld t = false ∧ P.eqGuardType P.depth t = false := by
  unfold eqA at h
  split at h
  · split at h
    · cases h
    · rename_i h1
      split at h
      · cases h
      · rename_i h2
        exact ⟨by simpa using h1, by simpa using h2⟩
  · cases h
/-- These write in the memory that they are lent. -/
def loud : List Nat := [54, 55, 46, 88, 48, 130, 114, 90, 91, 116, 57, 58, 104, 97, 60, 77, 78, 79, 80, 107, 108, 109, 110, 129]
def qfA (g : Nat) : Bool := if inL g loud then false else true

noncomputable def EE (P : Program) (l : List (Nat × SpecT AA)) : Eng AA where
  P := P
  TT := ttOf l
  GL := GG
  C := CC
  dec := decA
  qf := qfA
  eqT := eqA P
  eqOk := fun _ h => eqA_ok h
  encOk := fun t y => by
    rcases encA_cases t y with ⟨b, h, _⟩ | ⟨h, _⟩
    · show storable _ (encA t y) = true
      rw [h]; rfl
    · show storable _ (encA t y) = true
      rw [h]; rfl
  encLen := fun t y => by
    rcases encA_cases t y with ⟨b, h, h2⟩ | ⟨h, h2⟩
    · show (encA t y).len = sizeA t
      rw [h, h2]; rfl
    · show (encA t y).len = sizeA t
      rw [h, h2]; rfl

/-- These contracts are met. -/
structure Known (P : Program) (l : List (Nat × SpecT AA)) : Prop where
  ok : ∀ g, Meets P CC GG (qfA g) g (ttOf l g)
section
variable {P : Program}
theorem Known.nil : Known P [] := ⟨fun _ _ _ _ h => h.elim⟩
theorem _root_.Go.Eng.Meets.any {C : Enc AA} {GL : Nat → Option (SL AA)} {n : Nat} {T : SpecT AA} (h : Meets P C GL true n T) (q : Bool) : Meets P C GL q n T := by
  intro args sh K hk O env w vs ha hh hg o a next Q hn
  refine h args sh K hk O env w vs ha hh hg o a next Q (fun v w' ⟨s, sh', env', h1, h2, h3, h4, h5⟩ => hn v w' ⟨s, sh', env', h1, h2, h3, fun _ => h4 rfl, h5⟩)
theorem Known.add {l : List (Nat × SpecT AA)} {n : Nat} {T : SpecT AA} (h : Meets P CC GG (qfA n) n T) (k : Known P l) : Known P ((n, T) :: l) := ⟨fun g => by
  show Meets P CC GG (qfA g) g (cond (Nat.beq g n) T (ttOf l g))
  cases e : Nat.beq g n with
  | true => have := Nat.eq_of_beq_eq_true e; subst this; exact h
  | false => exact k.ok g⟩
theorem Known.cons {l : List (Nat × SpecT AA)} {n : Nat} {T : SpecT AA} (h : Meets P CC GG true n T) (k : Known P l) : Known P ((n, T) :: l) := .add (h.any _) k

theorem sound {l : List (Nat × SpecT AA)} (hm : P.follows .mixedOrders = true) (k : Known P l) : Sound (EE P l) where
  tt := k.ok
  below := fun n t y => by
    show belowL n (encA t y) = true
    rcases encA_cases t y with ⟨b, h, _⟩ | ⟨h, _⟩
    · rw [h]; rfl
    · rw [h]; rfl
  mixed := hm

/-- A function is as its contract says. -/
structure Fits (E : Eng AA) (fn : Func) (body : Code) (L : LS AA) (ann : L.X → Anns AA) : Prop where
  fits : fnS E fn body L ann

/-- One more contract. -/
theorem Known.more {l : List (Nat × SpecT AA)} (k : Known P l) (hm : P.follows .mixedOrders = true) {f : FuncId} {fn : Func} {body : Code} (hf : P.funcs[f]? = some fn) (hname : (fn.name == "runtime.NumGoroutine") = false) (hb : fn.body = some body) {L : LS AA} {ann : L.X → Anns AA} {get : List (SV AA) → Option L.X}
    {E : Eng AA} (hE : E = EE P l) (hL : Fits E fn body L ann) (hp : Pure L get) : Known P ((f, tOf L get) :: l) := by
  subst hE
  exact .cons (meets_pure (E := EE P l) (sound hm k) GG_below hf hname hb hL.fits hp true) k
theorem Known.more2 {l : List (Nat × SpecT AA)} (k : Known P l) (hm : P.follows .mixedOrders = true) {f : FuncId} {fn : Func} {body : Code} (hf : P.funcs[f]? = some fn) (hname : (fn.name == "runtime.NumGoroutine") = false) (hb : fn.body = some body) {L : LS2 AA} {ann ann' : L.X → Anns AA} {get : List (SV AA) → Option L.X}
    {E : Eng AA} (hE : E = EE P l) (h1 : Fits E fn body (L.one true) ann) (h2 : Fits E fn body (L.one false) ann') (got : ∀ args x, get args = some x → eqva (L.args x) args) (closed : ∀ x, belowVs 0 (L.args x) = true) : Known P ((f, tIf L get) :: l) := by
  subst hE
  exact .cons (meets_if (meets_pure (E := EE P l) (sound hm k) GG_below hf hname hb h1.fits ⟨fun _ => rfl, got, closed⟩ true) (meets_pure (E := EE P l) (sound hm k) GG_below hf hname hb h2.fits ⟨fun _ => rfl, got, closed⟩ true)) k
end

/-- A function's body, by its number. -/
structure Has (P : Program) (f : FuncId) (fn : Func) (body : Code) : Prop where
  is : P.funcs[f]? = some fn
  name : (fn.name == "runtime.NumGoroutine") = false
  body : fn.body = some body
/-- One more contract, with memory that is lent. -/
theorem Known.lent {P : Program} {l : List (Nat × SpecT AA)} (k : Known P l) (hm : P.follows .mixedOrders = true) {f : FuncId} {fn : Func} {body : Code} (hf : Has P f fn body) {L : LS AA} {ann : L.X → Anns AA} {get : List (SV AA) → List (SO AA) → Option L.X}
    {E : Eng AA} (hE : E = EE P l) (hL : Fits E fn body L ann) (hle : ∀ x, L.pre x → (L.hin x).length ≤ (L.hout x).length) (hq : qfA f = true → ∀ x, L.hin x = []) : Known P ((f, tLent L get) :: l) := by
  subst hE
  exact .add (meets_lent (E := EE P l) (sound hm k) GG_below hf.is hf.name hf.body hL.fits hle (qfA f) hq) k
/-- A function that is walked where it is called. -/
theorem Known.inl {P : Program} {l : List (Nat × SpecT AA)} (k : Known P l) (hm : P.follows .mixedOrders = true) {f : FuncId} {fn : Func} {body : Code} (hf : Has P f fn body) {ann : Anns AA}
    {E : Eng AA} (hE : E = EE P l) (hq : qfA f = false) : Known P ((f, tInline E fn body ann) :: l) := by
  subst hE
  refine .add ?_ k
  rw [hq]
  exact meets_inline (E := EE P l) (sound hm k) hf.is hf.name hf.body

theorem mixed : prog.follows .mixedOrders = true := by kernel_rfl
noncomputable def E0 : Eng AA := EE prog []
def bodyOf (f : Func) : Code := match f.body with
  | some c => c
  | none => .skip
end Go.Proofs.YtcglahfmnoghjaaDoor
