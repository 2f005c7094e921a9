/- The engine is right: calls, operations, regions, code. Conditions: none. -/
import Derived.Test.YtcglahfmnoghjaaDoorE17
namespace Go.Eng
open Go
variable {A : Nat → Type}

section
variable {E : Eng A} {O : Nat → Prop} {ts : List (SV A)} {sh : List (SO A)} {env : List Wit} {a : Act} {w : World} {o : Oper} {K : Pred A} {C : Enc A}

theorem unL_args : ∀ {cs : SL A} {l : List (SV A)} {vs : List Value}, unL cs = some l → RepL O env w C cs vs → ArgsR O env w C l vs
  | .nil, l, vs, h, hr => by
    simp only [unL, Option.some.injEq] at h
    subst h
    exact hr.inv_nil
  | .cell s r, l, vs, h, hr => by
    simp only [unL] at h
    split at h
    · rename_i l' hl
      cases h
      obtain ⟨u, us, rfl, h1, h2⟩ := hr.inv_cell
      exact ⟨u, us, rfl, h1, unL_args hl h2⟩
    · cases h
  | .run _ _ _ _, l, vs, h, hr => by simp [unL] at h

theorem argsR_append : ∀ {l m : List (SV A)} {us vs : List Value}, ArgsR O env w C l us → ArgsR O env w C m vs → ArgsR O env w C (l ++ m) (us ++ vs)
  | [], m, us, vs, h, k => by
    have : us = [] := h
    subst this; exact k
  | s :: l, m, us, vs, h, k => by
    obtain ⟨u, us', rfl, h1, h2⟩ := h
    exact ⟨u, us' ++ vs, rfl, h1, argsR_append h2 k⟩

theorem argsR_ev (h : Rel E O ts sh env a w) : ∀ (l : List Operand), ArgsR O env w E.C (l.map (evr E ts sh)) (l.map a.eval)
  | [] => rfl
  | x :: l => ⟨_, _, rfl, evr_rep h x, argsR_ev h l⟩

theorem op_callFn {c : Call} {f : Operand} (hTT : ∀ g, Meets E.P E.C E.GL (E.qf g) g (E.TT g)) (ho : o.op = .call c) (hc : c.callee = .value f) (h : Rel E O ts sh env a w)
    (hk : match evr E ts sh f with
      | .fn (.func g) a b => match unL a, unL b with
        | some xs, some ys => E.TT g (xs ++ c.args.toList.map (evr E ts sh) ++ ys) sh K
        | _, _ => False
      | _ => False) : OpOK E O o sh env a w K := by
  have hf := evr_rep h f
  split at hk
  · rename_i g p q e
    rw [e] at hf
    obtain ⟨us, vs, hv, h1, h2⟩ := hf.inv_fn
    split at hk
    · rename_i xs ys hx hy
      have hargs := argsR_append (argsR_append (unL_args hx h1) (argsR_ev h c.args.toList)) (unL_args hy h2)
      have hm := hTT g _ _ _ hk O env w _ hargs h.heap h.glob
      intro next Q hn
      unfold Oper.wp
      have hrun : (execOp a.eval o).run E.P w = (callFunc g ((us ++ c.args.toList.map a.eval ++ vs).toArray)).run E.P w := by
        simp only [execOp, ho, resolve, hc, hv, Deferred.ofValue, Sem.run_bind, Sem.run_pure, Result.andThen_ok, Go.invoke]
        congr 2
        apply Array.toList_inj.1
        simp
      rw [hrun]
      exact hm o a next Q (fun v w' ⟨s, sh', env', h3, h4, h5, h7, h6⟩ => hn v s sh' env' w' h3 h4 h5 (fun hq => by
        have hq' : E.qf g = true := by
          simp only [quietOp, ho, hc] at hq
          cases f <;> simp at hq
          simp only [evr, ev, rsl, SV.fn.injEq, Fn.func.injEq] at e
          rw [← e.1]; exact hq
        exact ⟨(h7 hq').1, (h7 hq').2⟩) h6)
    · exact hk.elim
  · exact hk.elim

theorem toList_one {α : Type} {x : Array α} {a : α} (h : x.toList = [a]) : x = #[a] := by
  apply Array.toList_inj.1; simpa using h
theorem toList_two {α : Type} {x : Array α} {a b : α} (h : x.toList = [a, b]) : x = #[a, b] := by
  apply Array.toList_inj.1; simpa using h
theorem map_one {α β : Type} {f : α → β} {l : List α} {b : β} (h : l.map f = [b]) : ∃ a, l = [a] ∧ f a = b := by
  match l, h with
  | [a], h => exact ⟨a, rfl, by simpa using h⟩
theorem map_two {α β : Type} {f : α → β} {l : List α} {b c : β} (h : l.map f = [b, c]) : ∃ a a', l = [a, a'] ∧ f a = b ∧ f a' = c := by
  match l, h with
  | [a, a'], h => exact ⟨a, a', rfl, by simpa using h⟩

theorem op_builtin {c : Call} {b : Builtin} (ho : o.op = .call c) (hc : c.callee = .builtin b) (h : Rel E O ts sh env a w)
    (hk : builtinS E b c.argTypes.toList (c.args.toList.map (evr E ts sh)) sh K) : OpOK E O o sh env a w K := by
  have hk' := hk
  unfold builtinS at hk
  split at hk
  · rename_i t x hat har
    obtain ⟨y, hy, hyx⟩ := map_one har
    rw [hat, har, ← hyx] at hk'
    exact (op_len ho hc (toList_one hat) (toList_one hy) h hk').ok h
  · rename_i t u x y hat har
    obtain ⟨p, q, hpq, hp, hq⟩ := map_two har
    split at hk
    · rename_i e
      subst e
      rw [← hp, ← hq] at hk
      exact op_append ho hc (toList_two hat) (toList_two hpq) h hk
    · exact hk.elim
  · rename_i t u x y hat har
    obtain ⟨p, q, hpq, hp, hq⟩ := map_two har
    rw [← hp, ← hq] at hk
    exact op_copy ho hc (toList_two (b := _) hat) (toList_two hpq) h hk
  · rename_i x y har
    obtain ⟨p, q, hpq, hp, hq⟩ := map_two har
    rw [har, ← hp, ← hq] at hk'
    exact op_min ho hc (toList_two hpq) h hk'
  · rename_i x y har
    obtain ⟨p, q, hpq, hp, hq⟩ := map_two har
    rw [har, ← hp, ← hq] at hk'
    exact op_max ho hc (toList_two hpq) h hk'
  · exact hk.elim

/-- Every operation that the engine knows. -/
theorem stepOp_sound (hTT : ∀ g, Meets E.P E.C E.GL (E.qf g) g (E.TT g)) (h : Rel E O ts sh env a w) (hk : stepOp E o.op ts sh K) : OpOK E O o sh env a w K := by
  cases ho : o.op <;> rw [ho] at hk <;> try (exact hk.elim)
  case move x => exact (op_move ho h hk).ok h
  case assign x => exact (op_assign ho h hk).ok h
  case pick c x y => exact (op_pick ho h hk).ok h
  case alloc t => exact op_alloc ho h hk
  case box t x => exact op_box ho h hk
  case build t ps => exact op_build ho h hk
  case buildSlice t n ps => exact op_buildSlice ho h hk
  case load t x => exact op_load ho h hk
  case store t x y => exact op_store ho h hk
  case nilCheck x => exact (op_nilCheck ho h hk).ok h
  case binOp op t x y t' => exact (op_binOp ho h hk).ok h
  case unOp op t x => exact (op_unOp ho h hk).ok h
  case convert s d x => exact (op_convert ho h hk).ok h
  case makeInterface t x => exact (op_makeInterface ho h hk).ok h
  case makeFunc f x y => exact (op_makeFunc ho h hk).ok h
  case slice t x lo hi mx => exact op_slice ho h hk
  case fieldAddr s x f => exact (op_fieldAddr ho h hk).ok h
  case field s x f => exact (op_field ho h hk).ok h
  case indexAddr t x y => exact (op_indexAddr ho h hk).ok h
  case extract x i => exact (op_extract ho h hk).ok h
  case call c =>
    simp only [stepOp] at hk
    split at hk
    · rename_i f hc
      exact op_callFn hTT ho hc h hk
    · rename_i b hc
      exact op_builtin ho hc h hk
    · exact hk.elim

/-! ## Regions -/
/-- Truths of one name are one. -/
structure WF (ts : List (SV A)) (n : Nat) : Prop where
  lt : ∀ (t : Nat) i c, ts[t]? = some (.sb i c) → i < n
  one : ∀ (t t' : Nat) i c c', ts[t]? = some (.sb i c) → ts[t']? = some (.sb i c') → c = c'

theorem know_get (i : Nat) (b : Bool) : ∀ (l : List (SV A)) (t : Nat) (s : SV A), (know i b l)[t]? = some s → (l[t]? = some s ∧ ∀ c, s ≠ .sb i c) ∨ ∃ c, l[t]? = some (.sb i c) ∧ s = .bl b
  | [], t, s, h => by simp [know] at h
  | x :: l, 0, s, h => by
    cases x
    case sb j c =>
      simp only [know, List.getElem?_cons_zero, Option.some.injEq] at h ⊢
      split at h
      · rename_i e; subst e; exact .inr ⟨c, rfl, h.symm⟩
      · rename_i e
        subst h
        exact .inl ⟨rfl, fun c' e' => by cases e'; exact e rfl⟩
    all_goals
      simp only [know, List.getElem?_cons_zero, Option.some.injEq] at h ⊢
      subst h
      exact .inl ⟨rfl, fun c' e' => by cases e'⟩
  | x :: l, t + 1, s, h => by
    have e : (know i b (x :: l))[t + 1]? = (know i b l)[t]? := by cases x <;> simp [know]
    rw [e] at h
    simpa using know_get i b l t s h

theorem know_len (i : Nat) (b : Bool) : ∀ l : List (SV A), (know i b l).length = l.length
  | [] => rfl
  | s :: l => by cases s <;> simp [know, know_len i b l]

theorem WF.know {n : Nat} (h : WF ts n) (i : Nat) (b : Bool) : WF (know i b ts) n where
  lt := fun t j c ht => by
    rcases know_get i b ts t _ ht with ⟨h1, _⟩ | ⟨c', _, h2⟩
    · exact h.lt t j c h1
    · cases h2
  one := fun t t' j c c' h1 h2 => by
    rcases know_get i b ts t _ h1 with ⟨h3, _⟩ | ⟨_, _, h3⟩
    · rcases know_get i b ts t' _ h2 with ⟨h4, _⟩ | ⟨_, _, h4⟩
      · exact h.one t t' j c c' h3 h4
      · cases h4
    · cases h3

theorem rel_know {n : Nat} (hw : WF ts n) {t0 i : Nat} {b : Bool} (ht : ts[t0]? = some (.sb i b)) (h : Rel E O ts sh env a w) : Rel E O (know i b ts) sh env a w := by
  refine ⟨h.defers, by rw [know_len]; exact h.tsz, fun t s hs => ?_, h.heap, h.glob⟩
  rcases know_get i b ts t s hs with ⟨h1, _⟩ | ⟨c, h1, rfl⟩
  · exact h.tmps t s h1
  · obtain ⟨v, hv, hr⟩ := h.tmps t _ h1
    have := hw.one t t0 i c b h1 ht
    subst this
    exact ⟨v, hv, by rw [hr.inv_sb]; exact .bl⟩

theorem get_setDst {d : Option Tmp} {v s : SV A} {t : Nat} (h : (setDst ts d v)[t]? = some s) : (d = some t ∧ s = v) ∨ (d ≠ some t ∧ ts[t]? = some s) := by
  cases d with
  | none => exact .inr ⟨by simp, h⟩
  | some d =>
    simp only [setDst, setNth_eq] at h
    by_cases e : d = t
    · subst e
      have hl : d < ts.length := by have := (List.getElem?_eq_some_iff.1 h).1; simpa using this
      rw [List.getElem?_set_self hl] at h
      cases h; exact .inl ⟨rfl, rfl⟩
    · rw [List.getElem?_set_ne e] at h
      exact .inr ⟨by simpa using e, h⟩

theorem WF.put_new {n : Nat} (h : WF ts n) (d : Option Tmp) (v : SV A) : WF (setDst ts d (named n v)) (n + 1) where
  lt := fun t i c ht => by
    rcases get_setDst ht with ⟨_, h1⟩ | ⟨_, h1⟩
    · unfold named at h1
      split at h1
      · cases h1; omega
      · rename_i hn; exact absurd h1.symm (hn i c)
    · have := h.lt t i c h1; omega
  one := fun t t' i c c' h1 h2 => by
    have key : ∀ i c, SV.sb i c = named n v → i = n := by
      intro i c e
      unfold named at e
      split at e
      · cases e; rfl
      · rename_i hn; exact absurd e.symm (hn i c)
    rcases get_setDst h1 with ⟨_, h3⟩ | ⟨_, h3⟩ <;> rcases get_setDst h2 with ⟨_, h4⟩ | ⟨_, h4⟩
    · have e := h3.trans h4.symm
      cases e; rfl
    · have := key i c h3; have := h.lt t' i c' h4; omega
    · have := key i c' h4; have := h.lt t i c h3; omega
    · exact h.one t t' i c c' h3 h4

theorem WF.put_old {n : Nat} (h : WF ts n) (d : Option Tmp) (v : SV A) (hv : (∃ t : Nat, ts[t]? = some v) ∨ ∀ i c, v ≠ .sb i c) : WF (setDst ts d v) n where
  lt := fun t i c ht => by
    rcases get_setDst ht with ⟨_, h1⟩ | ⟨_, h1⟩
    · rcases hv with ⟨t', h2⟩ | h2
      · rw [← h1] at h2; exact h.lt t' i c h2
      · exact absurd h1.symm (h2 i c)
    · exact h.lt t i c h1
  one := fun t t' i c c' h1 h2 => by
    have key : ∀ i c, SV.sb i c = v → ∃ t : Nat, ts[t]? = some (.sb i c) := by
      intro i c e
      rcases hv with ⟨t', h2⟩ | h2
      · exact ⟨t', by rw [e]; exact h2⟩
      · exact absurd e.symm (h2 i c)
    rcases get_setDst h1 with ⟨_, h3⟩ | ⟨_, h3⟩ <;> rcases get_setDst h2 with ⟨_, h4⟩ | ⟨_, h4⟩
    · obtain ⟨p, hp⟩ := key i c h3
      obtain ⟨q, hq⟩ := key i c' h4
      exact h.one p q i c c' hp hq
    · obtain ⟨p, hp⟩ := key i c h3
      exact h.one p t' i c c' hp h4
    · obtain ⟨q, hq⟩ := key i c' h4
      exact h.one t q i c c' h3 hq
    · exact h.one t t' i c c' h3 h4

theorem ev_old (x : Operand) : (∃ t : Nat, ts[t]? = some (ev E ts x)) ∨ ∀ i c, ev E ts x ≠ .sb i c := by
  cases x with
  | tmp t =>
    simp only [ev, nth_eq]
    cases hs : ts[t]? with
    | none => exact .inr (fun i c e => by cases e)
    | some s => exact .inl ⟨t, hs⟩
  | const v => right; intro i c e; cases v <;> simp [ev, ofConst] at e
  | global g =>
    right; intro i c e
    simp only [ev] at e
    split at e <;> cases e
  | func f => right; intro i c e; cases e

/-- One operation of a region, its guard met. -/
theorem runOp_sound (hTT : ∀ g, Meets E.P E.C E.GL (E.qf g) g (E.TT g)) {n : Nat} (hw : WF ts n) (h : Rel E O ts sh env a w) {K : List (SV A) → List (SO A) → Nat → Prop} (hk : runOp E o ts sh n K)
    {next : Act → World → Prop} {Q : Exit → Act → World → Prop}
    (hn : ∀ ts' sh' n' env' v w', WF ts' n' → Rel E O ts' sh' env' (a.put o.dst v) w' → Step env w env' w' → (quietOp E o.op = true → Old w w') → K ts' sh' n' → next (a.put o.dst v) w') : o.wp E.P a w next Q := by
  unfold runOp at hk
  split at hk
  · rename_i x ho
    have := (op_move (K := fun s sh' => s = ev E ts x ∧ sh' = sh) ho h ⟨rfl, rfl⟩).ok h
    refine this next Q (fun v s sh' env' w' hr hh hs hold ⟨h1, h2⟩ => ?_)
    subst h1; subst h2
    exact hn _ _ _ _ _ _ (hw.put_old o.dst _ (ev_old x)) (rel_put h hs hh hr o.dst) hs hold hk
  · rename_i x ho
    have := (op_assign (K := fun s sh' => s = ev E ts x ∧ sh' = sh) ho h ⟨rfl, rfl⟩).ok h
    refine this next Q (fun v s sh' env' w' hr hh hs hold ⟨h1, h2⟩ => ?_)
    subst h1; subst h2
    exact hn _ _ _ _ _ _ (hw.put_old o.dst _ (ev_old x)) (rel_put h hs hh hr o.dst) hs hold hk
  · have := stepOp_sound hTT h hk
    refine this next Q (fun v s sh' env' w' hr hh hs hold hK => ?_)
    exact hn _ _ _ _ _ _ (hw.put_new o.dst s) (rel_put h hs hh (rep_named n hr) o.dst) hs hold hK

theorem rel_undef (h : Rel E O ts sh env a w) (d : Option Tmp) : Rel E O (setDst ts d .undef) sh env (a.put d Go.undef) w :=
  rel_put h (Step.refl _ _) h.heap .undef d

/-- An operation as it comes up: wanted, or passed over. -/
theorem guard_cases {n : Nat} (hw : WF ts n) (h : Rel E O ts sh env a w) {ops : Array Oper} {K : List (SV A) → List (SO A) → Nat → Prop} (hk : guarded E ops.toList o ts sh n K) :
    (Region.wanted o (yielded ops a.tmps) = true ∧ ∃ ts', WF ts' n ∧ Rel E O ts' sh env a w ∧ runOp E o ts' sh n K) ∨
    (Region.wanted o (yielded ops a.tmps) = false ∧ ∃ ts', WF ts' n ∧ Rel E O ts' sh env a w ∧ K (setDst ts' o.dst .undef) sh n) := by
  unfold guarded at hk
  split at hk
  · rename_i hg
    exact .inl ⟨by simp [Region.wanted, hg], ts, hw, h, hk⟩
  · rename_i j want hg
    have hyield : ∀ s, guardOf ops.toList ts j = s → s ≠ .junk → ∃ (d : Nat) (v : Value), ts[d]? = some s ∧ Rep O env w E.C s v ∧ yielded ops a.tmps j = (match v with | .bool b => some b | _ => none) := by
      intro s hs hne
      unfold guardOf at hs
      rw [nth_eq, Array.getElem?_toList] at hs
      cases ho : ops[j]? with
      | none => rw [ho] at hs; exact absurd hs.symm hne
      | some oj =>
        rw [ho] at hs
        simp only at hs
        cases hd : oj.dst with
        | none => rw [hd] at hs; exact absurd hs.symm hne
        | some d =>
          rw [hd] at hs
          simp only [nth_eq] at hs
          cases ht : ts[d]? with
          | none => rw [ht] at hs; exact absurd hs.symm hne
          | some s' =>
            rw [ht] at hs
            simp only at hs
            subst hs
            obtain ⟨v, hv, hr⟩ := h.tmps d _ ht
            refine ⟨d, v, ht, hr, ?_⟩
            simp only [yielded, ho, Option.bind_some, hd, hv]
            cases v <;> rfl
    split at hk
    · rename_i hs
      obtain ⟨d, v, _, hr, hy⟩ := hyield _ hs (by simp)
      rw [hr.inv_undef] at hy
      exact .inr ⟨by simp [Region.wanted, hg, hy, Go.undef], ts, hw, h, hk⟩
    · rename_i b hs
      obtain ⟨d, v, _, hr, hy⟩ := hyield _ hs (by simp)
      rw [hr.inv_bl] at hy
      split at hk
      · rename_i e
        subst e
        exact .inl ⟨by simp [Region.wanted, hg, hy], ts, hw, h, hk⟩
      · rename_i e
        exact .inr ⟨by simp [Region.wanted, hg, hy, e], ts, hw, h, hk⟩
    · rename_i i b hs
      obtain ⟨d, v, hd, hr, hy⟩ := hyield _ hs (by simp)
      rw [hr.inv_sb] at hy
      cases b with
      | true =>
        have hw' := hw.know i true
        have h' := rel_know hw hd h
        have hk := hk.1 rfl
        cases want
        · exact .inr ⟨by simp [Region.wanted, hg, hy], _, hw', h', hk⟩
        · exact .inl ⟨by simp [Region.wanted, hg, hy], _, hw', h', hk⟩
      | false =>
        have hw' := hw.know i false
        have h' := rel_know hw hd h
        have hk := hk.2 rfl
        cases want
        · exact .inl ⟨by simp [Region.wanted, hg, hy], _, hw', h', hk⟩
        · exact .inr ⟨by simp [Region.wanted, hg, hy], _, hw', h', hk⟩
    · exact hk.elim

theorem WF.undef {n : Nat} (hw : WF ts n) (d : Option Tmp) : WF (setDst ts d (.undef : SV A)) n := hw.put_old d _ (.inr fun i c e => by cases e)

theorem guarded_sound (hTT : ∀ g, Meets E.P E.C E.GL (E.qf g) g (E.TT g)) {n : Nat} (hw : WF ts n) (h : Rel E O ts sh env a w) {ops : Array Oper} {K : List (SV A) → List (SO A) → Nat → Prop} (hk : guarded E ops.toList o ts sh n K)
    {next : Act → World → Prop} {Q : Exit → Act → World → Prop}
    (hn : ∀ ts' sh' n' env' v w', WF ts' n' → Rel E O ts' sh' env' (a.put o.dst v) w' → Step env w env' w' → (quietOp E o.op = true → Old w w') → K ts' sh' n' → next (a.put o.dst v) w') :
    if Region.wanted o (yielded ops a.tmps) then o.wp E.P a w next Q else next (a.put o.dst Go.undef) w := by
  rcases guard_cases hw h hk with ⟨h1, ts', h2, h3, h4⟩ | ⟨h1, ts', h2, h3, h4⟩
  · rw [if_pos h1]
    exact runOp_sound hTT h2 h3 h4 hn
  · rw [h1]
    exact hn _ _ _ _ _ _ (h2.undef o.dst) (rel_undef h3 o.dst) (Step.refl _ _) (fun _ => Old.refl _) h4

/-- Two frames are the same but in some slots. -/
structure Same (W : List Nat) (a a' : Act) : Prop where
  size : a'.tmps.size = a.tmps.size
  get : ∀ t, t ∉ W → a'.tmps[t]? = a.tmps[t]?
theorem Same.refl (W : List Nat) (a : Act) : Same W a a := ⟨rfl, fun _ _ => rfl⟩
theorem Same.trans {W : List Nat} {a b c : Act} (h : Same W a b) (k : Same W b c) : Same W a c := ⟨k.size.trans h.size, fun t ht => (k.get t ht).trans (h.get t ht)⟩
theorem Same.mono {W W' : List Nat} {a b : Act} (h : Same W a b) (hs : ∀ t, t ∈ W → t ∈ W') : Same W' a b := ⟨h.size, fun t ht => h.get t (fun h1 => ht (hs t h1))⟩
theorem Same.put (a : Act) (d : Option Tmp) (v : Value) {W : List Nat} (hd : ∀ t, d = some t → t ∈ W) : Same W a (a.put d v) := by
  refine ⟨by cases d <;> simp [Act.put], fun t ht => ?_⟩
  cases d with
  | none => rfl
  | some d =>
    have : d ≠ t := fun e => ht (e ▸ hd d rfl)
    simp only [Act.put]
    rw [Array.getElem?_setIfInBounds_ne this]

theorem dsts_mem : ∀ {l : List Oper} {o : Oper} {t : Nat}, o ∈ l → o.dst = some t → t ∈ dsts l
  | [], _, _, h, _ => by cases h
  | x :: l, o, t, h, ht => by
    rcases List.mem_cons.1 h with e | h
    · subst e; simp [dsts, ht]
    · have := dsts_mem h ht
      simp only [dsts]
      split
      · exact List.mem_cons_of_mem _ this
      · exact this

/-- A region in the order of the text. -/
theorem opsS_sound (hTT : ∀ g, Meets E.P E.C E.GL (E.qf g) g (E.TT g)) {ops : Array Oper} {Q : Exit → Act → World → Prop} {W : List Nat} : ∀ {l : List Oper} {ts : List (SV A)} {sh : List (SO A)} {n : Nat} {env : List Wit} {a : Act} {w : World} {K : List (SV A) → List (SO A) → Nat → Prop},
    (∀ o ∈ l, ∀ t, o.dst = some t → t ∈ W) → WF ts n → Rel E O ts sh env a w → opsS E ops.toList l ts sh n K → (∀ ts' sh' n' env' a' w', WF ts' n' → Rel E O ts' sh' env' a' w' → Step env w env' w' → Same W a a' → K ts' sh' n' → Q .normal a' w') → wpList E.P ops Q l a w
  | [], ts, sh, n, env, a, w, K, _, hw, h, hk, hq => hq _ _ _ _ _ _ hw h (Step.refl _ _) (Same.refl _ _) hk
  | o :: l, ts, sh, n, env, a, w, K, hW, hw, h, hk, hq => by
    have := guarded_sound (next := wpList E.P ops Q l) (Q := Q) hTT hw h hk (fun ts' sh' n' env' v w' hw' h' hs _ hk' =>
      opsS_sound hTT (fun o ho => hW o (List.mem_cons_of_mem _ ho)) hw' h' hk' (fun ts2 sh2 n2 env2 a2 w2 hw2 h2 hs2 hsm hk2 => hq _ _ _ _ _ _ hw2 h2 (hs.trans hs2) ((Same.put a o.dst v (hW o List.mem_cons_self)).trans hsm) hk2))
    unfold wpList
    split
    · rename_i hwnt; rw [if_pos hwnt] at this; exact .inl this
    · rename_i hwnt; rw [if_neg hwnt] at this; exact this
end
end Go.Eng
