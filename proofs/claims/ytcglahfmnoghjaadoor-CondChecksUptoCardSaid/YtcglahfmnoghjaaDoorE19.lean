/- The engine is right: regions whose order is open. Conditions: none. -/
import Derived.Test.YtcglahfmnoghjaaDoorE18
import Derived.OrdersHeld
namespace Go.Eng
open Go
variable {A : Nat → Type}

section
variable {P : Program} {ops : Array Oper} {Q : Exit → Act → World → Prop} {qo : Nat → Bool}

/-- Whatever order is picked; behind an operation that leaves alone what was there, all is as it was. -/
def wpAnyO (P : Program) (ops : Array Oper) (Q : Exit → Act → World → Prop) (qo : Nat → Bool) : Nat → Array Bool → Act → World → Prop
  | 0, listed, a, w => Region.ready .any ops listed = [] ∧ Q .normal a w
  | fuel + 1, listed, a, w =>
    (Region.ready .any ops listed = [] → Q .normal a w) ∧
    ∀ i ∈ Region.ready .any ops listed, wpOp P ops Q i (fun a' w' => (qo i = true → Old w w') ∧ wpAnyO P ops Q qo fuel (listed.setIfInBounds i true) a' w') a w

theorem wpAny_of_O : ∀ (fuel : Nat) (listed : Array Bool) (a : Act) (w : World), wpAnyO P ops Q qo fuel listed a w → wpAny P .any ops Q fuel listed a w
  | 0, _, _, _, h => h
  | fuel + 1, _, _, _, h => ⟨h.1, fun i hi => wpOp_mono (fun a' w' h' => wpAny_of_O fuel _ a' w' h'.2) (h.2 i hi)⟩

/-- j waits for i. -/
inductive Waits (ops : Array Oper) (i : Nat) : Nat → Prop
  | now {j : Nat} {o : Oper} {e : Edge} (ho : ops[j]? = some o) (he : e ∈ o.after) (hb : Region.binds .any e = true) (h : e.on = i) : Waits ops i j
  | more {j : Nat} {o : Oper} {e : Edge} (ho : ops[j]? = some o) (he : e ∈ o.after) (hb : Region.binds .any e = true) (h : Waits ops i e.on) : Waits ops i j

/-- What has come up waits for nothing that has not. -/
def DC (ops : Array Oper) (listed : Array Bool) : Prop := ∀ (k : Nat) ok, ops[k]? = some ok → listed.getD k false = true → ∀ e ∈ ok.after, Region.binds .any e = true → listed.getD e.on false = true

theorem waits_listed {listed : Array Bool} (hdc : DC ops listed) {i j : Nat} (h : Waits ops i j) (hl : listed.getD j false = true) : listed.getD i false = true := by
  induction h with
  | now ho he hb h => rw [← h]; exact hdc _ _ ho hl _ he hb
  | more ho he hb h ih => exact ih (hdc _ _ ho hl _ he hb)

theorem waits_ready {listed : Array Bool} (hdc : DC ops listed) {i j : Nat} (h : Waits ops i j) (hr : j ∈ Region.ready .any ops listed) : listed.getD i false = true := by
  obtain ⟨_, o, ho, hall⟩ := mem_ready.1 hr
  cases h with
  | now ho' he hb h => rw [ho] at ho'; cases ho'; rw [← h]; exact hall _ he hb
  | more ho' he hb h => rw [ho] at ho'; cases ho'; exact waits_listed hdc h (hall _ he hb)

theorem DC.set {listed : Array Bool} (hdc : DC ops listed) {j : Nat} (hr : j ∈ Region.ready .any ops listed) : DC ops (listed.setIfInBounds j true) := by
  intro k ok hok hk e he hb
  by_cases hkj : j = k
  · subst hkj
    obtain ⟨_, o, ho, hall⟩ := mem_ready.1 hr
    rw [ho] at hok; cases hok
    exact getD_set_true (hall e he hb)
  · rw [getD_set_ne false hkj] at hk
    exact getD_set_true (hdc k ok hok hk e he hb)

theorem listed_conflict {listed : Array Bool} {i : Nat} (h1 : listed.getD i true = false) (h2 : listed.getD i false = true) : False := by
  rcases Nat.lt_or_ge i listed.size with h' | h'
  · simp [h'] at h1 h2; rw [h1] at h2; cases h2
  · simp [Array.getElem?_eq_none h'] at h2

theorem wpAnyO_first {i : Nat} {oi : Oper} {v : Value} {lo : Bool} (hi : ops[i]? = some oi) (hsel : ∀ (j : Nat) (o : Oper) cs b, ops[j]? = some o → o.op ≠ .select cs b)
    (hQ : ∀ c a w, ¬ Q (.panic c) a w) :
    ∀ (fuel : Nat) (listed : Array Bool) (a : Act) (w : World), DC ops listed →
      (∀ j oj, ops[j]? = some oj → j ≠ i → listed.getD j true = false → (∀ e ∈ oj.after, Region.binds .any e = true → e.on ≠ i) → oi.apart ops oj = true) →
      (lo = true → ∀ j oj, ops[j]? = some oj → j ≠ i → listed.getD j true = false → qo j = false → Waits ops i j) →
      i ∈ Region.ready .any ops listed → YieldsIf P ops (fun w' => lo = true → Old w w') oi v a →
      wpAnyO P ops Q qo fuel (listed.setIfInBounds i true) (a.put oi.dst v) w → wpAnyO P ops Q qo (fuel + 1) listed a w := by
  intro fuel
  induction fuel with
  | zero =>
    intro listed a w hdc _ _ hr hy H
    refine ⟨fun h => (by rw [h] at hr; cases hr), fun j hj => ?_⟩
    by_cases hji : j = i
    · subst hji; exact hy.wpOp hi (fun _ => Old.refl _) ⟨fun _ => Old.refl _, H⟩
    · have := ready_mono hj hji
      rw [H.1] at this
      cases this
  | succ fuel ih =>
    intro listed a w hdc hfree hwait hr hy H
    refine ⟨fun h => (by rw [h] at hr; cases hr), fun j hj => ?_⟩
    by_cases hji : j = i
    · subst hji; exact hy.wpOp hi (fun _ => Old.refl _) ⟨fun _ => Old.refl _, H⟩
    · have h1 := H.2 j (ready_mono hj hji)
      obtain ⟨hjun, oj, hoj, hall⟩ := mem_ready.1 hj
      have hiun := (mem_ready.1 hr).1
      have hnot : ∀ e ∈ oj.after, Region.binds .any e = true → e.on ≠ i := fun e he hb heq => by
        have h1 := hall e he hb
        rw [heq] at h1
        exact listed_conflict hiun h1
      have hquiet : lo = true → qo j = true := fun hlo => by
        cases hq : qo j with
        | true => rfl
        | false => exact (listed_conflict hiun (waits_ready hdc (hwait hlo j oj hoj hji hjun hq) hj)).elim
      have h2 := wpOp_putIf hoj (hfree j oj hoj hji hjun hnot) (fun cs b => hsel i oi cs b hi) (fun cs b => hsel j oj cs b hoj) (fun c a w h => (hQ c _ w h).elim) hy h1
      refine wpOp_mono (fun a' w' h' => ?_) h2
      obtain ⟨hy', hold, H'⟩ := h'
      refine ⟨hold, ih (listed.setIfInBounds j true) a' w' (hdc.set hj) (fun k ok hok hki hun hno => ?_) (fun hlo k ok hok hki hun hq => ?_) (ready_mono hr (Ne.symm hji)) ?_ ?_⟩
      · refine hfree k ok hok hki ?_ hno
        by_cases hkj : j = k
        · subst hkj; exact hjun
        · rwa [getD_set_ne true hkj] at hun
      · refine hwait hlo k ok hok hki ?_ hq
        by_cases hkj : j = k
        · subst hkj; exact hjun
        · rwa [getD_set_ne true hkj] at hun
      · rcases hy' with ⟨hw, hv⟩ | hu
        · exact .inl ⟨hw, fun w'' hw'' => hv w'' (fun hlo => (hold (hquiet hlo)).trans (hw'' hlo))⟩
        · exact .inr hu
      · rw [Array.setIfInBounds_comm _ _ hji]
        exact H'
end

section
variable {E : Eng A} {O : Nat → Prop} {ts : List (SV A)} {sh : List (SO A)} {env : List Wit} {a : Act} {w : World} {o : Oper}

theorem inL_iff : ∀ {x : Nat} {l : List Nat}, inL x l = true ↔ x ∈ l
  | x, [] => by simp [inL]
  | x, y :: l => by
    simp only [inL]
    split
    · rename_i h; simp [h]
    · rename_i h; simp [h, inL_iff (l := l)]

/-- What has come up, as a list and as an array. -/
structure DR (ops : Array Oper) (done : List Nat) (listed : Array Bool) : Prop where
  size : listed.size = ops.size
  get : ∀ k, k < ops.size → listed[k]? = some (inL k done)
  lt : ∀ k, k ∈ done → k < ops.size

theorem DR.getD {ops : Array Oper} {done : List Nat} {listed : Array Bool} (h : DR ops done listed) (k : Nat) (hk : k < ops.size) (d : Bool) : listed.getD k d = inL k done := by
  simp [h.get k hk]
theorem DR.out {ops : Array Oper} {done : List Nat} {listed : Array Bool} (h : DR ops done listed) (k : Nat) (hk : ¬ k < ops.size) (d : Bool) : listed.getD k d = d := by
  have : listed[k]? = none := Array.getElem?_eq_none (by rw [h.size]; omega)
  simp [this]

theorem DR.set {ops : Array Oper} {done : List Nat} {listed : Array Bool} (h : DR ops done listed) (i : Nat) (hi : i < ops.size) : DR ops (i :: done) (listed.setIfInBounds i true) := by
  refine ⟨by simp [h.size], fun k hk => ?_, fun k hk => ?_⟩
  · by_cases e : i = k
    · subst e
      rw [Array.getElem?_setIfInBounds_self_of_lt (by rw [h.size]; exact hk)]
      simp [inL]
    · rw [Array.getElem?_setIfInBounds_ne e, h.get k hk]
      simp [inL, Ne.symm e]
  · rcases List.mem_cons.1 hk with e | hk
    · rw [e]; exact hi
    · exact h.lt k hk

theorem isReady_iff {done : List Nat} {o : Oper} : ∀ {l : List Edge}, isReady done o l = true ↔ ∀ e ∈ l, Region.binds .any e = true → inL e.on done = true
  | [] => by simp [isReady]
  | e :: l => by
    simp only [isReady]
    split
    · rename_i hb
      split
      · rename_i hi
        rw [isReady_iff (l := l)]
        simp [hb, hi]
      · rename_i hi
        simp only [Bool.false_eq_true, false_iff]
        intro h
        exact hi (h e (List.mem_cons_self) hb)
    · rename_i hb
      rw [isReady_iff (l := l)]
      simp [hb]

theorem mem_readyFrom {done : List Nat} : ∀ {l : List Oper} {i k : Nat}, k ∈ readyFrom done i l ↔ ∃ j o, k = i + j ∧ l[j]? = some o ∧ inL k done = false ∧ isReady done o o.after.toList = true
  | [], i, k => by simp [readyFrom]
  | o :: l, i, k => by
    have ih := mem_readyFrom (done := done) (l := l) (i := i + 1) (k := k)
    have tail : (∃ j o', k = i + 1 + j ∧ l[j]? = some o' ∧ inL k done = false ∧ isReady done o' o'.after.toList = true) → ∃ j o', k = i + j ∧ (o :: l)[j]? = some o' ∧ inL k done = false ∧ isReady done o' o'.after.toList = true := by
      rintro ⟨j, o', h1, h2, h3, h4⟩
      exact ⟨j + 1, o', by omega, by simpa using h2, h3, h4⟩
    have back : k ≠ i → (∃ j o', k = i + j ∧ (o :: l)[j]? = some o' ∧ inL k done = false ∧ isReady done o' o'.after.toList = true) → ∃ j o', k = i + 1 + j ∧ l[j]? = some o' ∧ inL k done = false ∧ isReady done o' o'.after.toList = true := by
      rintro hne ⟨j, o', h1, h2, h3, h4⟩
      cases j with
      | zero => exact absurd h1 (by simpa using hne)
      | succ j => exact ⟨j, o', by omega, by simpa using h2, h3, h4⟩
    simp only [readyFrom]
    split
    · rename_i hd
      rw [ih]
      refine ⟨tail, fun h => back (fun e => ?_) h⟩
      obtain ⟨_, _, _, _, h3, _⟩ := h
      rw [e, hd] at h3; cases h3
    · rename_i hd
      split
      · rename_i hr
        rw [List.mem_cons, ih]
        constructor
        · rintro (h | h)
          · exact ⟨0, o, by omega, rfl, by rw [h]; simpa using hd, hr⟩
          · exact tail h
        · intro h
          by_cases e : k = i
          · exact .inl e
          · exact .inr (back e h)
      · rename_i hr
        rw [ih]
        refine ⟨tail, fun h => back (fun e => ?_) h⟩
        obtain ⟨j, o', h1, h2, _, h4⟩ := h
        have : j = 0 := by omega
        subst this
        simp at h2
        subst h2
        exact hr h4

theorem ready_iff {ops : Array Oper} {done : List Nat} {listed : Array Bool} (h : DR ops done listed) {k : Nat} : k ∈ Region.ready .any ops listed ↔ k ∈ readyFrom done 0 ops.toList := by
  rw [mem_ready, mem_readyFrom]
  constructor
  · rintro ⟨h1, o, ho, h2⟩
    have hk : k < ops.size := (Array.getElem?_eq_some_iff.1 ho).1
    refine ⟨k, o, by omega, by rw [Array.getElem?_toList]; exact ho, by rw [← h.getD k hk true]; exact h1, isReady_iff.2 fun e he hb => ?_⟩
    have h3 := h2 e (Array.mem_toList_iff.1 he) hb
    by_cases hon : e.on < ops.size
    · rw [← h.getD e.on hon false]; exact h3
    · rw [h.out e.on hon] at h3; cases h3
  · rintro ⟨j, o, h1, h2, h3, h4⟩
    have hj : j = k := by omega
    subst hj
    rw [Array.getElem?_toList] at h2
    have hk : j < ops.size := (Array.getElem?_eq_some_iff.1 h2).1
    refine ⟨by rw [h.getD j hk true]; exact h3, o, h2, fun e he hb => ?_⟩
    have h5 := isReady_iff.1 h4 e (Array.mem_toList_iff.2 he) hb
    by_cases hon : e.on < ops.size
    · rw [h.getD e.on hon false]; exact h5
    · exact absurd (h.lt _ (inL_iff.1 h5)) hon

theorem anyE_spec {i : Nat} {rec : Nat → Bool} : ∀ {l : List Edge}, anyE i rec l = true → ∃ e ∈ l, Region.binds .any e = true ∧ (e.on = i ∨ rec e.on = true)
  | [], h => by simp [anyE] at h
  | e :: l, h => by
    simp only [anyE] at h
    split at h
    · rename_i hb
      split at h
      · rename_i he
        exact ⟨e, List.mem_cons_self, hb, .inl he⟩
      · split at h
        · rename_i hr
          exact ⟨e, List.mem_cons_self, hb, .inr hr⟩
        · obtain ⟨e', h1, h2, h3⟩ := anyE_spec h
          exact ⟨e', List.mem_cons_of_mem _ h1, h2, h3⟩
    · obtain ⟨e', h1, h2, h3⟩ := anyE_spec h
      exact ⟨e', List.mem_cons_of_mem _ h1, h2, h3⟩

theorem waits_spec {ops : Array Oper} {i : Nat} : ∀ {f j : Nat}, waits ops.toList i f j = true → Waits ops i j
  | 0, _, h => by simp [waits] at h
  | f + 1, j, h => by
    simp only [waits, nth_eq, Array.getElem?_toList] at h
    split at h
    · rename_i o ho
      obtain ⟨e, h1, h2, h3⟩ := anyE_spec h
      rcases h3 with h3 | h3
      · exact .now ho (Array.mem_toList_iff.1 h1) h2 h3
      · exact .more ho (Array.mem_toList_iff.1 h1) h2 (waits_spec h3)
    · cases h

theorem allWait_spec {ops : List Oper} {done : List Nat} {i : Nat} : ∀ {l : List Oper} {k : Nat}, allWait E ops done i k l = true →
    ∀ (j : Nat) o, l[j]? = some o → inL (k + j) done = false → k + j ≠ i → quietOp E o.op = false → waits ops i (cnt ops) (k + j) = true
  | [], _, _, j, o, h, _, _, _ => by simp at h
  | x :: l, k, h, j, o, hj, hd, hne, hq => by
    simp only [allWait] at h
    have rest : allWait E ops done i (k + 1) l = true → (j ≠ 0 → waits ops i (cnt ops) (k + j) = true) := by
      intro h hj0
      obtain ⟨j', rfl⟩ : ∃ j', j = j' + 1 := ⟨j - 1, by omega⟩
      have := allWait_spec h j' o (by simpa using hj) (by rw [show k + 1 + j' = k + (j' + 1) from by omega]; exact hd) (by omega) hq
      rwa [show k + 1 + j' = k + (j' + 1) from by omega] at this
    by_cases hj0 : j = 0
    · subst hj0
      simp at hj
      subst hj
      rw [Nat.add_zero] at hd hne ⊢
      rw [if_neg (by simp [hd]), if_neg hne, if_neg (by simp [hq])] at h
      split at h
      · assumption
      · cases h
    · refine rest ?_ hj0
      split at h
      · exact h
      · split at h
        · exact h
        · split at h
          · exact h
          · split at h
            · exact h
            · cases h

theorem directly_spec {i : Nat} : ∀ {l : List Edge}, directly i l = true → ∃ e ∈ l, Region.binds .any e = true ∧ e.on = i
  | [], h => by simp [directly] at h
  | e :: l, h => by
    simp only [directly] at h
    split at h
    · rename_i hb
      split at h
      · rename_i he
        exact ⟨e, List.mem_cons_self, hb, he⟩
      · obtain ⟨e', h1, h2, h3⟩ := directly_spec h
        exact ⟨e', List.mem_cons_of_mem _ h1, h2, h3⟩
    · obtain ⟨e', h1, h2, h3⟩ := directly_spec h
      exact ⟨e', List.mem_cons_of_mem _ h1, h2, h3⟩

theorem allApart_spec {ops : List Oper} {done : List Nat} {i : Nat} {oi : Oper} : ∀ {l : List Oper} {k : Nat}, allApart ops done i oi k l = true →
    ∀ (j : Nat) o, l[j]? = some o → inL (k + j) done = false → k + j ≠ i → directly i o.after.toList = true ∨ oi.apart ops.toArray o = true
  | [], _, _, j, o, h, _, _ => by simp at h
  | x :: l, k, h, j, o, hj, hd, hne => by
    simp only [allApart] at h
    have rest : allApart ops done i oi (k + 1) l = true → (j ≠ 0 → directly i o.after.toList = true ∨ oi.apart ops.toArray o = true) := by
      intro h hj0
      obtain ⟨j', rfl⟩ : ∃ j', j = j' + 1 := ⟨j - 1, by omega⟩
      exact allApart_spec h j' o (by simpa using hj) (by rw [show k + 1 + j' = k + (j' + 1) from by omega]; exact hd) (by omega)
    by_cases hj0 : j = 0
    · subst hj0
      simp at hj
      subst hj
      rw [Nat.add_zero] at hd hne
      rw [if_neg (by simp [hd]), if_neg hne] at h
      split at h
      · rename_i h1; exact .inl h1
      · split at h
        · rename_i h1; exact .inr h1
        · cases h
    · refine rest ?_ hj0
      split at h
      · exact h
      · split at h
        · exact h
        · split at h
          · exact h
          · split at h
            · exact h
            · cases h

/-- An operation that may be taken first yields its value, whatever else comes up ahead of it. -/
theorem early_sound (_hTT : ∀ g, Meets E.P E.C E.GL (E.qf g) g (E.TT g)) {n : Nat} (hw : WF ts n) (h : Rel E O ts sh env a w) {ops : Array Oper} {K : List (SV A) → List (SO A) → Nat → Prop} (hk : guarded E ops.toList o ts sh n K)
    (hearly : regOnly o.op = true ∨ isLoad o.op = true) :
    ∃ v ts' n', YieldsIf E.P ops (fun w' => isLoad o.op = true → Old w w') o v a ∧ WF ts' n' ∧ Rel E O ts' sh env (a.put o.dst v) w ∧ K ts' sh n' := by
  rcases guard_cases hw h hk with ⟨h1, ts1, h2, h3, h4⟩ | ⟨h1, ts1, h2, h3, h4⟩
  · have fin : ∀ {K' : Pred A}, OpY E O o sh env a w K' → (∀ s, K' s sh → ∃ ts' n' , WF ts' n' ∧ (∀ v, Rep O env w E.C s v → Rel E O ts' sh env (a.put o.dst v) w) ∧ K ts' sh n') →
        ∃ v ts' n', YieldsIf E.P ops (fun w' => isLoad o.op = true → Old w w') o v a ∧ WF ts' n' ∧ Rel E O ts' sh env (a.put o.dst v) w ∧ K ts' sh n' := by
      rintro K' ⟨v, s, h5, h6, h7⟩ hh
      obtain ⟨ts', n', h8, h9, h10⟩ := hh s h7
      exact ⟨v, ts', n', .inl ⟨h1, fun w' _ => h5 w'⟩, h8, h9 v h6, h10⟩
    unfold runOp at h4
    split at h4
    · rename_i x ho
      exact fin (op_move (K := fun s sh' => s = ev E ts1 x ∧ sh' = sh) ho h3 ⟨rfl, rfl⟩) (fun s hs => by
        obtain ⟨rfl, _⟩ := hs
        exact ⟨_, n, h2.put_old o.dst _ (ev_old x), fun v hr => rel_put h3 (Step.refl _ _) h3.heap hr o.dst, h4⟩)
    · rename_i x ho
      exact fin (op_assign (K := fun s sh' => s = ev E ts1 x ∧ sh' = sh) ho h3 ⟨rfl, rfl⟩) (fun s hs => by
        obtain ⟨rfl, _⟩ := hs
        exact ⟨_, n, h2.put_old o.dst _ (ev_old x), fun v hr => rel_put h3 (Step.refl _ _) h3.heap hr o.dst, h4⟩)
    · rename_i hnm hna
      have fin2 : OpY E O o sh env a w (fun v sh' => K (setDst ts1 o.dst (named n v)) sh' (n + 1)) → ∃ v ts' n', YieldsIf E.P ops (fun w' => isLoad o.op = true → Old w w') o v a ∧ WF ts' n' ∧ Rel E O ts' sh env (a.put o.dst v) w ∧ K ts' sh n' :=
        fun hy => fin hy (fun s hs => ⟨_, n + 1, h2.put_new o.dst s, fun v hr => rel_put h3 (Step.refl _ _) h3.heap (rep_named n hr) o.dst, hs⟩)
      obtain ⟨op, ho⟩ : ∃ op, o.op = op := ⟨_, rfl⟩
      rw [ho] at h4 hearly
      cases op <;> simp [regOnly, isLoad] at hearly
      case move x => exact (hnm x ho).elim
      case assign x => exact (hna x ho).elim
      case pick c x y => exact fin2 (op_pick ho h3 h4)
      case load t x =>
        obtain ⟨ad, v, s, h5, h6, h7, h8⟩ := run_loadS h3 h4
        refine ⟨v, _, n + 1, .inl ⟨h1, fun w' hw' => ?_⟩, h2.put_new o.dst s, rel_put h3 (Step.refl _ _) h3.heap (rep_named n h7) o.dst, h8⟩
        simp only [execOp, ho, h5, Instr.loadAt, Instr.sureAddr]
        simp [h6 w' (hw' (by simp [isLoad, ho]))]
      case nilCheck x => exact fin2 (op_nilCheck ho h3 h4)
      case binOp op t x y t' => exact fin2 (op_binOp ho h3 h4)
      case unOp op t x => exact fin2 (op_unOp ho h3 h4)
      case convert s d x => exact fin2 (op_convert ho h3 h4)
      case makeInterface t x => exact fin2 (op_makeInterface ho h3 h4)
      case makeFunc f x y => exact fin2 (op_makeFunc ho h3 h4)
      case fieldAddr s x f => exact fin2 (op_fieldAddr ho h3 h4)
      case field s x f => exact fin2 (op_field ho h3 h4)
      case indexAddr t x y => exact fin2 (op_indexAddr ho h3 h4)
      case extract x i => exact fin2 (op_extract ho h3 h4)
      case call c =>
        simp only [stepOp] at h4
        split at hearly
        · rename_i hc
          rw [hc] at h4
          simp only at h4
          obtain ⟨t, x, hat, har⟩ : ∃ t x, c.argTypes.toList = [t] ∧ c.args.toList = [x] := by
            unfold builtinS at h4
            split at h4
            all_goals first
              | (rename_i hat har; obtain ⟨y, hy, _⟩ := map_one har; exact ⟨_, y, hat, hy⟩)
              | contradiction
              | exact h4.elim
          rw [hat, har] at h4
          exact fin2 (op_len ho hc (toList_one hat) (toList_one har) h3 h4)
        · cases hearly
  · exact ⟨Go.undef, _, n, .inr ⟨h1, rfl⟩, h2.undef o.dst, rel_undef h3 o.dst, h4⟩

theorem noSel_spec : ∀ {l : List Oper}, noSel l = true → ∀ (j : Nat) (o : Oper) cs b, l[j]? = some o → o.op ≠ .select cs b
  | [], _, j, o, _, _, h => by simp at h
  | x :: l, h, j, o, cs, b, hj => by
    simp only [noSel] at h
    split at h
    · cases h
    · rename_i hx
      cases j with
      | zero => simp at hj; subst hj; exact hx cs b
      | succ j => exact noSel_spec h j o cs b (by simpa using hj)

theorem allOf_spec {f : Nat → Prop} : ∀ {l : List Nat}, allOf f l → ∀ i ∈ l, f i
  | [], _, i, h => by cases h
  | [j], h, i, hi => by
    simp at hi; subst hi; exact h
  | j :: k :: l, h, i, hi => by
    rcases List.mem_cons.1 hi with e | hi
    · rw [e]; exact h.1
    · exact allOf_spec (l := k :: l) h.2 i hi

theorem firstEarly_spec {ops : List Oper} {done : List Nat} : ∀ {l : List Nat} {i : Nat}, firstEarly E ops done l = some i → i ∈ l ∧ ∃ o, ops[i]? = some o ∧ mayFirst E ops done i o = true
  | [], i, h => by simp [firstEarly] at h
  | j :: l, i, h => by
    simp only [firstEarly, nth_eq] at h
    split at h
    · rename_i o ho
      split at h
      · rename_i hm
        cases h
        exact ⟨List.mem_cons_self, o, ho, hm⟩
      · obtain ⟨h1, h2⟩ := firstEarly_spec h
        exact ⟨List.mem_cons_of_mem _ h1, h2⟩
    · obtain ⟨h1, h2⟩ := firstEarly_spec h
      exact ⟨List.mem_cons_of_mem _ h1, h2⟩

def quietAt (E : Eng A) (ops : Array Oper) (j : Nat) : Bool := match ops[j]? with
  | some o => quietOp E o.op
  | none => true

/-- A region whose order is open, from some of its operations on. -/
theorem draw_sound (hTT : ∀ g, Meets E.P E.C E.GL (E.qf g) g (E.TT g)) {ops : Array Oper} (hsel : noSel ops.toList = true) {Q : Exit → Act → World → Prop} (hQ : ∀ c a w, ¬ Q (.panic c) a w) :
    ∀ {f : Nat} {done : List Nat} {listed : Array Bool} {ts : List (SV A)} {sh : List (SO A)} {n : Nat} {env : List Wit} {a : Act} {w : World} {K : List (SV A) → List (SO A) → Nat → Prop},
    DR ops done listed → DC ops listed → WF ts n → Rel E O ts sh env a w → drawS E ops.toList f done ts sh n K →
    (∀ ts' sh' n' env' a' w', WF ts' n' → Rel E O ts' sh' env' a' w' → Step env w env' w' → Same (dsts ops.toList) a a' → K ts' sh' n' → Q .normal a' w') → wpAnyO E.P ops Q (quietAt E ops) f listed a w
  | 0, done, listed, ts, sh, n, env, a, w, K, hd, hdc, hw, h, hk, hq => by
    simp only [drawS] at hk
    split at hk
    · rename_i hr
      refine ⟨List.eq_nil_iff_forall_not_mem.2 fun i hi => ?_, hq _ _ _ _ _ _ hw h (Step.refl _ _) (Same.refl _ _) hk⟩
      have := (ready_iff hd).1 hi
      rw [hr] at this; cases this
    · exact hk.elim
  | f + 1, done, listed, ts, sh, n, env, a, w, K, hd, hdc, hw, h, hk, hq => by
    simp only [drawS] at hk
    split at hk
    · exact hk.elim
    · rename_i hrne
      split at hk
      · rename_i i hfe
        obtain ⟨h1, o, ho, h2⟩ := firstEarly_spec hfe
        rw [nth_eq, ho] at hk
        simp only at hk
        have hready := (ready_iff hd).2 h1
        rw [Array.getElem?_toList] at ho
        have hi : i < ops.size := (Array.getElem?_eq_some_iff.1 ho).1
        have hearly : (regOnly o.op = true ∨ isLoad o.op = true) ∧ allApart ops.toList done i o 0 ops.toList = true ∧ (regOnly o.op = false → allWait E ops.toList done i 0 ops.toList = true) := by
          unfold mayFirst at h2
          split at h2
          · rename_i hr; exact ⟨.inl hr, h2, fun e => by rw [hr] at e; cases e⟩
          · split at h2
            · rename_i hl
              split at h2
              · rename_i haw; exact ⟨.inr hl, h2, fun _ => haw⟩
              · cases h2
            · cases h2
        obtain ⟨v, ts', n', hy, hw', h', hk'⟩ := early_sound hTT hw h hk hearly.1
        have hsame : Same (dsts ops.toList) a (a.put o.dst v) := Same.put a o.dst v (fun t ht => dsts_mem (Array.mem_toList_iff.2 (Array.mem_of_getElem? ho)) ht)
        have hrec := draw_sound hTT hsel hQ (hd.set i hi) (hdc.set hready) hw' h' hk' (fun ts2 sh2 n2 env2 a2 w2 hw2 h2 hs2 hsm hk2 => hq _ _ _ _ _ _ hw2 h2 hs2 (hsame.trans hsm) hk2)
        refine wpAnyO_first (lo := isLoad o.op) ho (fun j o cs b hj => noSel_spec hsel j o cs b (by rw [Array.getElem?_toList]; exact hj)) hQ f listed a w hdc (fun j oj hj hji hun hno => ?_) (fun hlo j oj hj hji hun hq => ?_) hready hy hrec
        · have hjl : j < ops.size := (Array.getElem?_eq_some_iff.1 hj).1
          have := allApart_spec hearly.2.1 j oj (by rw [Array.getElem?_toList]; exact hj) (by rw [Nat.zero_add, ← hd.getD j hjl true]; exact hun) (by omega)
          rcases this with h3 | h3
          · obtain ⟨e, he, hb, hon⟩ := directly_spec h3
            exact absurd hon (hno e (Array.mem_toList_iff.1 he) hb)
          · simpa using h3
        · have hjl : j < ops.size := (Array.getElem?_eq_some_iff.1 hj).1
          have hnr : regOnly o.op = false := by
            cases hop : o.op <;> rw [hop] at hlo <;> simp [isLoad] at hlo
            simp [regOnly]
          have hq' : quietOp E oj.op = false := by simpa [quietAt, hj] using hq
          have := allWait_spec (hearly.2.2 hnr) j oj (by rw [Array.getElem?_toList]; exact hj) (by rw [Nat.zero_add, ← hd.getD j hjl true]; exact hun) (by omega) hq'
          rw [Nat.zero_add] at this
          exact waits_spec this
      · have hall := allOf_spec hk
        refine ⟨fun he => (hrne (by
          have : readyFrom done 0 ops.toList = [] := List.eq_nil_iff_forall_not_mem.2 fun i hi => by
            have := (ready_iff hd).2 hi
            rw [he] at this; cases this
          exact this)).elim, fun i hi => ?_⟩
        have h1 := hall i ((ready_iff hd).1 hi)
        obtain ⟨_, o, ho, _⟩ := mem_ready.1 hi
        rw [nth_eq, Array.getElem?_toList, ho] at h1
        simp only at h1
        have hil : i < ops.size := (Array.getElem?_eq_some_iff.1 ho).1
        have := guarded_sound (next := fun a' w' => (quietAt E ops i = true → Old w w') ∧ wpAnyO E.P ops Q (quietAt E ops) f (listed.setIfInBounds i true) a' w') (Q := Q) hTT hw h h1 (fun ts' sh' n' env' v w' hw' h' hs hold hk' =>
          ⟨fun hqa => hold (by simpa [quietAt, ho] using hqa), draw_sound hTT hsel hQ (hd.set i hil) (hdc.set hi) hw' h' hk' (fun ts2 sh2 n2 env2 a2 w2 hw2 h2 hs2 hsm hk2 => hq _ _ _ _ _ _ hw2 h2 (hs.trans hs2) ((Same.put a o.dst v (fun t ht => dsts_mem (Array.mem_toList_iff.2 (Array.mem_of_getElem? ho)) ht)).trans hsm) hk2)⟩)
        unfold wpOp
        rw [ho]
        simp only
        split
        · rename_i hwnt; rw [if_pos hwnt] at this; exact .inl this
        · rename_i hwnt; rw [if_neg hwnt] at this; exact this

theorem rel_drew (h : Rel E O ts sh env a w) : Rel E O ts sh env a w.drew ∧ Step env w env w.drew := by
  have hs : Step env w env w.drew := ⟨rfl, rfl, rfl, Nat.le_refl _, Nat.le_refl _, fun _ x h => ⟨x, h, .refl x⟩, fun _ h => .inl h, fun _ _ _ => rfl⟩
  refine ⟨⟨h.defers, h.tsz, fun t s ht => ?_, ⟨h.heap.len, fun i so x h1 h2 => (h.heap.rep i so x h1 h2).step hs (fun _ _ => rfl), h.heap.disj, h.heap.out, h.heap.lt, h.heap.olt⟩, h.glob.step hs⟩, hs⟩
  obtain ⟨v, h1, h2⟩ := h.tmps t s ht
  exact ⟨v, h1, h2.step hs⟩

/-- A region whose order is open. -/
theorem region_drawn (hm : E.P.follows .mixedOrders = true) (hTT : ∀ g, Meets E.P E.C E.GL (E.qf g) g (E.TT g)) {ops : Array Oper} (hsel : noSel ops.toList = true) {Q : Exit → Act → World → Prop} (hQ : ∀ c a w, ¬ Q (.panic c) a w) {id n : Nat} {K : List (SV A) → List (SO A) → Nat → Prop}
    (hw : WF ts n) (h : Rel E O ts sh env a w) (hk : drawS E ops.toList (cnt ops.toList) [] ts sh n K)
    (hq : ∀ ts' sh' n' env' a' w', WF ts' n' → Rel E O ts' sh' env' a' w' → Step env w env' w' → Same (dsts ops.toList) a a' → K ts' sh' n' → Q .normal a' w') : (Code.region id ops true).wp E.P Q a w := by
  refine wp_region_any hm (wpAny_of_O (qo := quietAt E ops) _ _ _ _ ?_)
  obtain ⟨h1, h2⟩ := rel_drew h
  rw [cnt_eq, Array.length_toList] at hk
  refine draw_sound hTT hsel hQ (ts := ts) (sh := sh) (env := env) (K := K) ⟨by simp, fun k hk => by simp [hk, inL], fun k hk => by cases hk⟩ (fun k ok hok hk => ?_) hw h1 hk (fun ts2 sh2 n2 env2 a2 w2 hw2 h3 hs2 hsm hk2 => hq _ _ _ _ _ _ hw2 h3 (h2.trans hs2) hsm hk2)
  exfalso
  simp [Array.getElem?_replicate] at hk
  split at hk <;> simp at hk
end
end Go.Eng
