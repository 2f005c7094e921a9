/- What the engine's words mean in memory: heaps, frames, calls; and small laws of them. Conditions: none. -/
import Derived.Test.YtcglahfmnoghjaaDoorE3
import Derived.Orders
import Derived.Laws.AppendOwn
import Derived.Laws.Rows
namespace Go.Eng
open Go
variable {A : Nat → Type}

theorem nth_eq {α : Type _} : ∀ (l : List α) (i : Nat), nth l i = l[i]?
  | [], _ => by simp [nth]
  | _ :: _, 0 => by simp [nth]
  | _ :: l, n + 1 => by simp [nth, nth_eq l n]
theorem setNth_eq {α : Type _} : ∀ (l : List α) (i : Nat) (y : α), setNth l i y = l.set i y
  | [], _, _ => by simp [setNth]
  | _ :: _, 0, _ => by simp [setNth]
  | _ :: l, n + 1, y => by simp [setNth, setNth_eq l n y]
theorem snoc_eq {α : Type _} : ∀ (l : List α) (y : α), snoc l y = l ++ [y]
  | [], _ => rfl
  | x :: l, y => by simp [snoc, snoc_eq l y]
theorem cnt_eq {α : Type _} : ∀ (l : List α), cnt l = l.length
  | [] => rfl
  | _ :: l => by simp [cnt, cnt_eq l]

section
variable (O : Nat → Prop) (env : List Wit) (w : World) (C : Enc A)

/-- An object of the heap, as it lies in memory. -/
def ORep : SO A → Wit → Prop
  | .dead, x => x = .dead
  | .cells e cs, .blk b => ∃ vs : List Value, w.heap[b]? = some (.cells vs.toArray e (0, 0)) ∧ RepL O env w C cs vs
  | .ivec e k xs, .sl v => w.ownsRow 0 e 1 v xs.length (xs.map (Value.int k))
  | .svec e xs, .sl v => ∃ vs : List Value, w.ownsRow 0 e (C.size e) v xs.length vs ∧
      ∀ (j : Nat) (x : A e), xs[j]? = some x → RepL O env w C (C.enc e x) ((vs.drop (j * C.size e)).take (C.size e))
  | .fr s, .ro v => Rep O env w C s v
  | _, _ => False

structure HR (sh : List (SO A)) : Prop where
  len : sh.length = env.length
  rep : ∀ (i : Nat) so x, sh[i]? = some so → env[i]? = some x → ORep O env w C so x
  disj : ∀ (i j : Nat) x y b, env[i]? = some x → env[j]? = some y → x.owns b → y.owns b → i = j
  out : ∀ b, owned env b → ¬ O b
  lt : ∀ b, owned env b → b < w.heap.size
  olt : ∀ b, O b → b < w.heap.size
end

def Glob (GL : Nat → Option (SL A)) (O : Nat → Prop) (env : List Wit) (w : World) (C : Enc A) : Prop :=
  ∀ g cs, GL g = some cs → Rep O env w C (.rptr cs 0) (.pointer (some ⟨g, 0, none⟩))

structure Rel (E : Eng A) (O : Nat → Prop) (ts : List (SV A)) (sh : List (SO A)) (env : List Wit) (a : Act) (w : World) : Prop where
  defers : a.defers = []
  tsz : a.tmps.size = ts.length
  tmps : ∀ (t : Nat) s, ts[t]? = some s → ∃ v, a.tmps[t]? = some v ∧ Rep O env w E.C s v
  heap : HR O env w E.C sh
  glob : Glob E.GL O env w E.C

/-- A call, as an operation meets it. -/
def CallR (P : Program) (f : FuncId) (vs : Array Value) (w : World) (R : Value → World → Prop) : Prop :=
  ∀ (o : Oper) (a : Act) (next : Act → World → Prop) (Q : Exit → Act → World → Prop),
    (∀ v w', R v w' → next (a.put o.dst v) w') → o.upon P a next Q ((callFunc f vs).run P w)

/-- What a call leaves. -/
def Left (O : Nat → Prop) (C : Enc A) (q : Bool) (env : List Wit) (w : World) (K : Pred A) (v : Value) (w' : World) : Prop :=
  ∃ s sh' env', Rep O env' w' C s v ∧ HR O env' w' C sh' ∧ Step env w env' w' ∧ (q = true → w.heap.size ≤ w'.heap.size ∧ ∀ b, b < w.heap.size → w'.heap[b]? = w.heap[b]?) ∧ K s sh'

def ArgsR (O : Nat → Prop) (env : List Wit) (w : World) (C : Enc A) : List (SV A) → List Value → Prop
  | [], vs => vs = []
  | s :: l, vs => ∃ u us, vs = u :: us ∧ Rep O env w C s u ∧ ArgsR O env w C l us

/-- A function meets what the engine takes of it. -/
def Meets (P : Program) (C : Enc A) (GL : Nat → Option (SL A)) (q : Bool) (f : FuncId) (T : SpecT A) : Prop :=
  ∀ args sh K, T args sh K → ∀ O env w vs, ArgsR O env w C args vs → HR O env w C sh → Glob GL O env w C →
    CallR P f vs.toArray w (Left O C q env w K)

def exOf : Exit → Option Ex
  | .normal => some .normal
  | .exit id => some (.exit id)
  | .ret => some .ret
  | _ => none

def PostR (E : Eng A) (O : Nat → Prop) (Q : Post A) (env : List Wit) (w : World) (e : Exit) (a' : Act) (w' : World) : Prop :=
  ∃ x ts' sh' env' nid', exOf e = some x ∧ Rel E O ts' sh' env' a' w' ∧ Step env w env' w' ∧ Q x ts' sh' nid'

theorem Glob.step {GL : Nat → Option (SL A)} {O : Nat → Prop} {env env' : List Wit} {w w' : World} {C : Enc A} (hs : Step env w env' w') (h : Glob GL O env w C) : Glob GL O env' w' C :=
  fun g cs hg => (h g cs hg).step hs

section
variable {E : Eng A} {O : Nat → Prop} {ts : List (SV A)} {sh : List (SO A)} {env : List Wit} {a : Act} {w : World}

theorem rep_ofConst (v : Value) : Rep O env w E.C (ofConst v) v := by
  cases v <;> constructor

theorem ev_rep (h : Rel E O ts sh env a w) (x : Operand) : Rep O env w E.C (ev E ts x) (a.eval x) := by
  cases x with
  | tmp t =>
    simp only [ev, nth_eq]
    cases hs : ts[t]? with
    | none => exact .junk
    | some s =>
      obtain ⟨v, hv, hr⟩ := h.tmps t s hs
      simp only [Act.eval, Array.getD_eq_getD_getElem?, hv, Option.getD_some]
      exact hr
  | const v => exact rep_ofConst v
  | global g =>
    simp only [ev]
    cases hg : E.GL g with
    | none => exact .junk
    | some cs => exact h.glob g cs hg
  | func f => exact .fn [] [] .nil .nil

theorem rep_rsl {O : Nat → Prop} {env : List Wit} {w : World} {C : Enc A} {sh : List (SO A)} (h : HR O env w C sh) {s : SV A} {v : Value} (hr : Rep O env w C s v) : Rep O env w C (rsl sh s) v := by
  unfold rsl
  split
  · rename_i i
    split
    · rename_i s hs
      rw [nth_eq] at hs
      obtain ⟨x, hx⟩ : ∃ x, env[i]? = some x := by
        have h1 := (List.getElem?_eq_some_iff.1 hs).1
        rw [h.len] at h1
        exact ⟨_, List.getElem?_eq_getElem h1⟩
      have ho := h.rep i _ x hs hx
      cases x with
      | ro u =>
        cases hr with
        | vec h2 =>
          simp only [slAt, hx] at h2
          subst h2
          exact ho
      | dead => cases ho
      | sl v => cases ho
      | blk b => cases ho
    · exact hr
  · exact hr
theorem rep_rslL {O : Nat → Prop} {env : List Wit} {w : World} {C : Enc A} {sh : List (SO A)} (h : HR O env w C sh) : ∀ {cs : SL A} {vs : List Value}, RepL O env w C cs vs → RepL O env w C (rslL sh cs) vs
  | _, _, .nil => .nil
  | _, _, .cell h1 h2 => .cell (rep_rsl h h1) (rep_rslL h h2)
  | _, _, .run h1 h2 => .run h1 (rep_rslL h h2)
theorem rslL_len (sh : List (SO A)) : ∀ cs : SL A, (rslL sh cs).len = cs.len
  | .nil => rfl
  | .cell _ r => by simp [rslL, SL.len, rslL_len sh r]
  | .run _ _ _ r => by simp [rslL, SL.len, rslL_len sh r]
theorem evr_rep (h : Rel E O ts sh env a w) (x : Operand) : Rep O env w E.C (evr E ts sh x) (a.eval x) := rep_rsl h.heap (ev_rep h x)

theorem rel_put {ts : List (SV A)} {sh sh' : List (SO A)} {env env' : List Wit} {a : Act} {w w' : World} (h : Rel E O ts sh env a w) (hs : Step env w env' w') (hh : HR O env' w' E.C sh')
    {s : SV A} {v : Value} (hr : Rep O env' w' E.C s v) (d : Option Tmp) : Rel E O (setDst ts d s) sh' env' (a.put d v) w' := by
  refine ⟨?_, ?_, ?_, hh, h.glob.step hs⟩
  · cases d <;> exact h.defers
  · cases d with
    | none => exact h.tsz
    | some d => simp [Act.put, setDst, setNth_eq, h.tsz]
  · intro t s' ht
    cases d with
    | none =>
      obtain ⟨v', hv, hr'⟩ := h.tmps t s' ht
      exact ⟨v', hv, hr'.step hs⟩
    | some d =>
      simp only [setDst, setNth_eq] at ht
      by_cases e : d = t
      · subst e
        have hl : d < ts.length := by
          have := (List.getElem?_eq_some_iff.1 ht).1
          simpa using this
        rw [List.getElem?_set_self hl] at ht
        cases ht
        refine ⟨v, ?_, hr⟩
        simp only [Act.put]
        rw [Array.getElem?_setIfInBounds_self_of_lt (by rw [h.tsz]; exact hl)]
      · rw [List.getElem?_set_ne e] at ht
        obtain ⟨v', hv, hr'⟩ := h.tmps t s' ht
        refine ⟨v', ?_, hr'.step hs⟩
        simp only [Act.put]
        rw [Array.getElem?_setIfInBounds_ne e]
        exact hv

theorem rep_named {O : Nat → Prop} {env : List Wit} {w : World} {C : Enc A} {s : SV A} {v : Value} (n : Nat) (h : Rep O env w C s v) : Rep O env w C (named n s) v := by
  unfold named
  split
  · cases h; exact .sb
  · exact h

/-- All that was there is as it was. -/
structure Old (w w' : World) : Prop where
  size : w.heap.size ≤ w'.heap.size
  same : ∀ b, b < w.heap.size → w'.heap[b]? = w.heap[b]?
theorem Old.refl (w : World) : Old w w := ⟨Nat.le_refl _, fun _ _ => rfl⟩
theorem Old.trans {a b c : World} (h : Old a b) (k : Old b c) : Old a c := ⟨Nat.le_trans h.size k.size, fun i hi => (k.same i (Nat.lt_of_lt_of_le hi h.size)).trans (h.same i hi)⟩
theorem Old.alloc (w : World) (o : Obj) : Old w (w.alloc o) := ⟨by simp, fun b hb => heap_alloc_old w o hb⟩

/-- One operation, as its region meets it. -/
def OpOK (E : Eng A) (O : Nat → Prop) (o : Oper) (_sh : List (SO A)) (env : List Wit) (a : Act) (w : World) (K : Pred A) : Prop :=
  ∀ (next : Act → World → Prop) (Q : Exit → Act → World → Prop),
    (∀ v s sh' env' w', Rep O env' w' E.C s v → HR O env' w' E.C sh' → Step env w env' w' → (quietOp E o.op = true → Old w w') → K s sh' → next (a.put o.dst v) w') → o.wp E.P a w next Q

/-- It yields a value, and leaves memory. -/
theorem opOK_of_run {o : Oper} {K : Pred A} {v : Value} {w' : World} {s : SV A} {sh' : List (SO A)} {env' : List Wit}
    (hrun : (execOp a.eval o).run E.P w = .ok (.value v) w') (hr : Rep O env' w' E.C s v) (hh : HR O env' w' E.C sh') (hs : Step env w env' w') (hold : quietOp E o.op = true → Old w w') (hk : K s sh') :
    OpOK E O o sh env a w K := by
  intro next Q h
  unfold Oper.wp
  rw [hrun]
  exact h v s sh' env' w' hr hh hs hold hk

theorem opOK_same {o : Oper} {K : Pred A} {v : Value} {s : SV A}
    (hrun : (execOp a.eval o).run E.P w = .ok (.value v) w) (hr : Rep O env w E.C s v) (h : Rel E O ts sh env a w) (hk : K s sh) : OpOK E O o sh env a w K :=
  opOK_of_run hrun hr h.heap (Step.refl _ _) (fun _ => Old.refl _) hk

/-- It yields a value, whatever the world. -/
def OpY (E : Eng A) (O : Nat → Prop) (o : Oper) (sh : List (SO A)) (env : List Wit) (a : Act) (w : World) (K : Pred A) : Prop :=
  ∃ v s, (∀ w', (execOp a.eval o).run E.P w' = .ok (.value v) w') ∧ Rep O env w E.C s v ∧ K s sh
theorem opY_same {o : Oper} {K : Pred A} {v : Value} {s : SV A}
    (hrun : ∀ w', (execOp a.eval o).run E.P w' = .ok (.value v) w') (hr : Rep O env w E.C s v) (hk : K s sh) : OpY E O o sh env a w K := ⟨v, s, hrun, hr, hk⟩
theorem OpY.ok {o : Oper} {K : Pred A} (hy : OpY E O o sh env a w K) (h : Rel E O ts sh env a w) : OpOK E O o sh env a w K := by
  obtain ⟨v, s, h1, h2, h3⟩ := hy
  exact opOK_same (h1 w) h2 h h3
end

/-! ## The heap's changes -/
section
variable {O : Nat → Prop} {env env' : List Wit} {w w' : World} {C : Enc A} {sh : List (SO A)}

theorem ORep.step (hs : Step env w env' w') {so : SO A} {x : Wit} (hk : ∀ b, x.owns b → w'.heap[b]? = w.heap[b]?) (h : ORep O env w C so x) : ORep O env' w' C so x := by
  cases so with
  | dead => exact h
  | cells e cs =>
    cases x with
    | blk b =>
      obtain ⟨vs, h1, h2⟩ := h
      exact ⟨vs, (hk b rfl).trans h1, h2.step hs⟩
    | dead => exact h
    | sl v => exact h
    | ro v => exact h
  | fr s =>
    cases x with
    | ro v => exact Rep.step hs h
    | dead => exact h
    | sl v => exact h
    | blk b => exact h
  | ivec e k xs =>
    cases x with
    | sl v =>
      refine ⟨h.1, ?_⟩
      rcases h.2 with h2 | ⟨g, cap, cur, h2, h3, h4, h5⟩
      · exact .inl h2
      · exact .inr ⟨g, cap, cur, h2, h3, (hk g (by simp [Wit.owns, h2, Value.ownBlock])).trans h4, h5⟩
    | dead => exact h
    | ro v => exact h
    | blk b => exact h
  | svec e xs =>
    cases x with
    | ro v => exact h
    | sl v =>
      obtain ⟨vs, h, hx⟩ := h
      refine ⟨vs, ⟨h.1, ?_⟩, fun j x hj => (hx j x hj).step hs⟩
      rcases h.2 with h2 | ⟨g, cap, cur, h2, h3, h4, h5⟩
      · exact .inl h2
      · exact .inr ⟨g, cap, cur, h2, h3, (hk g (by simp [Wit.owns, h2, Value.ownBlock])).trans h4, h5⟩
    | dead => exact h
    | blk b => exact h

theorem owned_snoc {x : Wit} {b : Nat} : owned (env ++ [x]) b ↔ owned env b ∨ x.owns b := by
  constructor
  · rintro ⟨i, y, hi, ho⟩
    rcases Nat.lt_or_ge i env.length with h | h
    · rw [List.getElem?_append_left h] at hi
      exact .inl ⟨i, y, hi, ho⟩
    · rw [List.getElem?_append_right h] at hi
      cases hj : i - env.length with
      | zero => rw [hj] at hi; simp at hi; subst hi; exact .inr ho
      | succ n => rw [hj] at hi; simp at hi
  · rintro (⟨i, y, hi, ho⟩ | h)
    · have hl : i < env.length := (List.getElem?_eq_some_iff.1 hi).1
      exact ⟨i, y, by rw [List.getElem?_append_left hl]; exact hi, ho⟩
    · exact ⟨env.length, x, by simp, h⟩

/-- A new block. -/
theorem HR.new (h : HR O env w C sh) (e : TypeId) (cs : SL A) (vs : List Value) (hr : RepL O env w C cs vs) :
    HR O (env ++ [.blk w.heap.size]) (w.alloc (.cells vs.toArray e)) C (sh ++ [.cells e cs]) ∧ Step env w (env ++ [.blk w.heap.size]) (w.alloc (.cells vs.toArray e)) := by
  have hsz : (w.alloc (.cells vs.toArray e)).heap.size = w.heap.size + 1 := by simp
  have hs : Step env w (env ++ [.blk w.heap.size]) (w.alloc (.cells vs.toArray e)) := by
    refine ⟨rfl, rfl, rfl, by rw [hsz]; omega, by simp, fun i x hi => ⟨x, ?_, .refl x⟩, fun b hb => ?_, fun b hb _ => heap_alloc_old w _ hb⟩
    · rw [List.getElem?_append_left (List.getElem?_eq_some_iff.1 hi).1]; exact hi
    · rcases owned_snoc.1 hb with h1 | h1
      · exact .inl h1
      · exact .inr (by simp only [Wit.owns] at h1; omega)
  refine ⟨⟨by simp [h.len], ?_, ?_, ?_, ?_, ?_⟩, hs⟩
  · intro i so x h1 h2
    rcases Nat.lt_or_ge i env.length with hi | hi
    · rw [List.getElem?_append_left (by rw [h.len]; exact hi)] at h1
      rw [List.getElem?_append_left hi] at h2
      exact (h.rep i so x h1 h2).step hs (fun b hb => heap_alloc_old w _ (h.lt b ⟨i, x, h2, hb⟩))
    · rw [List.getElem?_append_right (by rw [h.len]; exact hi)] at h1
      rw [List.getElem?_append_right hi] at h2
      rw [h.len] at h1
      cases hj : i - env.length with
      | zero =>
        rw [hj] at h1 h2
        simp at h1 h2
        subst h1; subst h2
        exact ⟨vs, heap_alloc_new w _, hr.step hs⟩
      | succ n => rw [hj] at h1; simp at h1
  · intro i j x y b hx hy hxb hyb
    have key : ∀ (i : Nat) x, (env ++ [Wit.blk w.heap.size])[i]? = some x → x.owns b → (i < env.length ∧ env[i]? = some x) ∨ (i = env.length ∧ b = w.heap.size) := by
      intro i x hx hb
      rcases Nat.lt_or_ge i env.length with hi | hi
      · rw [List.getElem?_append_left hi] at hx; exact .inl ⟨hi, hx⟩
      · rw [List.getElem?_append_right hi] at hx
        cases hj : i - env.length with
        | zero => rw [hj] at hx; simp at hx; subst hx; exact .inr ⟨by omega, hb⟩
        | succ n => rw [hj] at hx; simp at hx
    rcases key i x hx hxb with ⟨h1, h2⟩ | ⟨h1, h2⟩ <;> rcases key j y hy hyb with ⟨h3, h4⟩ | ⟨h3, h4⟩
    · exact h.disj i j x y b h2 h4 hxb hyb
    · have := h.lt b ⟨i, x, h2, hxb⟩; omega
    · have := h.lt b ⟨j, y, h4, hyb⟩; omega
    · omega
  · intro b hb
    rcases owned_snoc.1 hb with h1 | h1
    · exact h.out b h1
    · intro h2; have := h.olt b h2; simp only [Wit.owns] at h1; omega
  · intro b hb
    rw [hsz]
    rcases owned_snoc.1 hb with h1 | h1
    · have := h.lt b h1; omega
    · simp only [Wit.owns] at h1; omega
  · intro b hb; rw [hsz]; have := h.olt b hb; omega
end
end Go.Eng
