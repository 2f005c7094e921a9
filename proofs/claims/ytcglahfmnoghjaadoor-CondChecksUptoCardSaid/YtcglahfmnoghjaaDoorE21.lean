/- The engine is right: code with its loops; functions. Conditions: none. -/
import Derived.Test.YtcglahfmnoghjaaDoorE20
namespace Go.Eng
open Go
variable {A : Nat → Type}

structure Sound (E : Eng A) : Prop where
  tt : ∀ g, Meets E.P E.C E.GL (E.qf g) g (E.TT g)
  below : ∀ n t y, belowL n (E.C.enc t y) = true
  mixed : E.P.follows .mixedOrders = true

/-- What code leaves, seen from where it began. -/
def PostW (E : Eng A) (O : Nat → Prop) (W : List Nat) (Q : Post A) (env : List Wit) (a : Act) (w : World) (e : Exit) (a' : Act) (w' : World) : Prop :=
  ∃ x ts' sh' env' n', exOf e = some x ∧ Rel E O ts' sh' env' a' w' ∧ Step env w env' w' ∧ WF ts' n' ∧ Same W a a' ∧ Q x ts' sh' n'

section
variable {E : Eng A} {O : Nat → Prop}

theorem exOf_normal {e : Exit} (h : exOf e = some .normal) : e = .normal := by
  cases e <;> simp [exOf] at h; rfl

theorem PostW.mono {W W' : List Nat} {Q : Post A} {env env1 : List Wit} {a a1 : Act} {w w1 : World} (hW : ∀ t, t ∈ W → t ∈ W') (hs : Step env w env1 w1) (hsm : Same W' a a1) {e : Exit} {a' : Act} {w' : World}
    (h : PostW E O W Q env1 a1 w1 e a' w') : PostW E O W' Q env a w e a' w' := by
  obtain ⟨x, ts', sh', env', n', h1, h2, h3, h4, h5, h6⟩ := h
  exact ⟨x, ts', sh', env', n', h1, h2, hs.trans h3, h4, hsm.trans (h5.mono hW), h6⟩

theorem rounds_succ_mono {P : Program} {c : Code} {Q : Exit → Act → World → Prop} : ∀ {n : Nat} {a : Act} {w : World}, Code.rounds P c Q n a w → Code.rounds P c Q (n + 1) a w
  | 0, _, _, h => h.elim
  | n + 1, a, w, h => by
    rw [rounds_succ] at h ⊢
    refine wp_mono h (fun e a' w' he => ?_)
    cases e <;> first | exact rounds_succ_mono he | exact he
theorem rounds_mono {P : Program} {c : Code} {Q : Exit → Act → World → Prop} {n m : Nat} (h : n ≤ m) {a : Act} {w : World} (hr : Code.rounds P c Q n a w) : Code.rounds P c Q m a w := by
  induction h with
  | refl => exact hr
  | step _ ih => exact rounds_succ_mono ih

theorem wp_loop_meas {P : Program} {c : Code} {Q : Exit → Act → World → Prop} (I : Nat → Act → World → Prop) (round : ∀ n a w, I n a w → c.wp P (Exit.then (fun a' w' => ∃ m, m < n ∧ I m a' w') Q) a w) {n : Nat} {a : Act} {w : World} (h : I n a w) :
    (Code.loop c).wp P Q a w := by
  have key : ∀ n a w, I n a w → Code.rounds P c Q (n + 1) a w := by
    intro n
    induction n using Nat.strongRecOn with
    | _ n ih =>
      intro a w hI
      rw [rounds_succ]
      refine wp_mono (round n a w hI) (fun e a' w' he => ?_)
      cases e
      case normal =>
        obtain ⟨m, hm, hIm⟩ := he
        exact rounds_mono hm (ih m hm a' w' hIm)
      all_goals exact he
  exact wp_loop_rounds (n + 1) (key n a w h)

/-! ### What a loop's head is like -/
theorem junkAll_get {ts : List (SV A)} : ∀ {l : List Nat} {t : Nat} {s : SV A}, (junkAll ts l)[t]? = some s → s = .junk ∨ (t ∉ l ∧ ts[t]? = some s) := by
  intro l
  induction l generalizing ts with
  | nil => intro t s h; exact .inr ⟨by simp, h⟩
  | cons x l ih =>
    intro t s h
    simp only [junkAll] at h
    rcases ih h with h1 | ⟨h1, h2⟩
    · exact .inl h1
    · rw [setNth_eq] at h2
      by_cases e : x = t
      · subst e
        have hl : x < ts.length := by have := (List.getElem?_eq_some_iff.1 h2).1; simpa using this
        rw [List.getElem?_set_self hl] at h2
        cases h2; exact .inl rfl
      · rw [List.getElem?_set_ne e] at h2
        exact .inr ⟨by simp [h1, Ne.symm e], h2⟩
theorem junkAll_len {ts : List (SV A)} : ∀ {l : List Nat}, (junkAll ts l).length = ts.length := by
  intro l
  induction l generalizing ts with
  | nil => rfl
  | cons x l ih => simp [junkAll, ih, setNth_eq]

theorem laySlots_len {n : Nat} {ts : List (SV A)} : ∀ {l : List (Nat × SV A)}, (laySlots n ts l).length = ts.length := by
  intro l
  induction l generalizing ts n with
  | nil => rfl
  | cons x l ih => simp [laySlots, ih, setNth_eq]

theorem laySlots_get {n : Nat} {ts : List (SV A)} : ∀ {l : List (Nat × SV A)} {t : Nat} {s : SV A}, (laySlots n ts l)[t]? = some s → (∃ p ∈ l, p.1 = t ∧ ∃ m, s = named m p.2) ∨ ts[t]? = some s := by
  intro l
  induction l generalizing ts n with
  | nil => intro t s h; exact .inr h
  | cons x l ih =>
    intro t s h
    simp only [laySlots] at h
    rcases ih h with ⟨p, hp, h1, h2⟩ | h1
    · exact .inl ⟨p, List.mem_cons_of_mem _ hp, h1, h2⟩
    · rw [setNth_eq] at h1
      by_cases e : x.1 = t
      · subst e
        have hl : x.1 < ts.length := by have := (List.getElem?_eq_some_iff.1 h1).1; simpa using this
        rw [List.getElem?_set_self hl] at h1
        cases h1; exact .inl ⟨x, List.mem_cons_self, rfl, n, rfl⟩
      · rw [List.getElem?_set_ne e] at h1
        exact .inr h1

theorem WF.laySlots {n : Nat} {ts : List (SV A)} (h : WF ts n) : ∀ {l : List (Nat × SV A)}, WF (laySlots n ts l) (n + cnt l) := by
  intro l
  induction l generalizing ts n with
  | nil => exact h
  | cons x l ih =>
    have h1 := h.put_new (some x.1) x.2
    have h2 := ih h1
    simp only [Eng.laySlots, cnt]
    rw [show n + (cnt l + 1) = n + 1 + cnt l from by omega]
    exact h2

theorem WF.junk {n : Nat} {ts : List (SV A)} (h : WF ts n) : ∀ {l : List Nat}, WF (junkAll ts l) n := by
  intro l
  induction l generalizing ts with
  | nil => exact h
  | cons x l ih =>
    exact ih (h.put_old (some x) .junk (.inr fun i c e => by cases e))

theorem slotsAre_get {n : Nat} {σ : List (SV A)} {ts : List (SV A)} {sh : List (SO A)} : ∀ {l : List (Nat × SV A)}, slotsAre n σ ts sh l → ∀ p ∈ l, slotIs n σ ts sh p.1 p.2
  | [], _, p, hp => by cases hp
  | [q], h, p, hp => by simp at hp; subst hp; exact h
  | q :: r :: l, h, p, hp => by
    rcases List.mem_cons.1 hp with e | hp
    · subst e; exact h.1
    · exact slotsAre_get (l := r :: l) h.2 p hp

theorem okSlots_get {n : Nat} {σ : List (SV A)} : ∀ {l : List (Nat × SV A)}, okSlots n σ l = true → ∀ p ∈ l, okV n σ p.2 = true
  | [], _, p, hp => by cases hp
  | q :: l, h, p, hp => by
    simp only [okSlots] at h
    rcases List.mem_cons.1 hp with e | hp
    · subst e; exact (ite_and h).1
    · exact okSlots_get (ite_and h).2 p hp

/-- What an arrival comes to. -/
theorem arr_heap {O : Nat → Prop} {C : Enc A} {P M : List (SO A)} {slots : List (Nat × SV A)} {ts : List (SV A)} {sh : List (SO A)} {env : List Wit} {w : World} (hC : ∀ t y, belowL 0 (C.enc t y) = true) (h : HR O env w C sh) (ha : arrS P M slots ts sh) :
    ∃ σ, (∀ p ∈ slots, okV P.length σ p.2 = true) ∧ slotsAre P.length σ ts sh slots ∧ HR O (arrEnv P σ env) w C (P ++ M) ∧ Arr P.length σ env (arrEnv P σ env) := by
  unfold arrS at ha
  split at ha
  case h_2 => exact ha.elim
  rename_i σ _
  split at ha
  case isFalse => exact ha.elim
  split at ha
  case isFalse => exact ha.elim
  split at ha
  case isFalse => exact ha.elim
  split at ha
  case isFalse => exact ha.elim
  rename_i h1 h2 h3 h4
  rw [cnt_eq] at *
  obtain ⟨h5, h6⟩ := heap_arr hC h h4 h1 h2 ha.2.1 ha.2.2
  exact ⟨σ, okSlots_get h3, ha.1, h5, h6⟩

/-- From where code stands to a loop's head. -/
theorem rel_head {hS : Sound E} {ts ts0 : List (SV A)} {sh sh0 : List (SO A)} {env env0 : List Wit} {a a0 : Act} {w w0 : World} {n : Nat} {Wr : List Nat} {slots : List (Nat × SV A)} {P M : List (SO A)}
    (h0 : Rel E O ts0 sh0 env0 a0 w0) (h : Rel E O ts sh env a w) (hs : Step env0 w0 env w) (hsm : Same Wr a0 a) (hwl : P.length = sh0.length)
    (harr : arrS P M slots ts sh) :
    ∃ env', Rel E O (laySlots n (junkAll ts0 Wr) slots) (joinL P M) env' a w ∧ Step env0 w0 env' w := by
  obtain ⟨σ, hbs, hsl, hh, hcut⟩ := arr_heap (hS.below 0) h.heap harr
  have hst : Step env0 w0 (arrEnv P σ env) w := hs.arr (n := P.length) (by rw [hwl, h0.heap.len]; exact Nat.le_refl _) (by rw [← hh.len]; simp) hcut
  rw [joinL_eq]
  refine ⟨_, ⟨h.defers, ?_, fun t s hts => ?_, hh, h0.glob.step hst⟩, hst⟩
  · rw [laySlots_len, junkAll_len]
    have h1 : a.tmps.size = a0.tmps.size := hsm.size
    rw [h1]; exact h0.tsz
  · rcases laySlots_get hts with ⟨p, hp, rfl, m, rfl⟩ | h1
    · have := slotsAre_get hsl p hp
      unfold slotIs at this
      split at this
      · rename_i s' hs'
        rw [nth_eq] at hs'
        obtain ⟨v, hv, hr⟩ := h.tmps _ _ hs'
        exact ⟨v, hv, rep_named m ((eqv_rep this (rslV_rep h.heap hr)).arr (hS.below 0) hcut _ (hbs p hp))⟩
      · exact this.elim
    · rcases junkAll_get h1 with h2 | ⟨h2, h3⟩
      · subst h2
        have hl : t < ts0.length := by
          have := (List.getElem?_eq_some_iff.1 hts).1
          rw [laySlots_len, junkAll_len] at this; exact this
        have hl2 : t < a.tmps.size := by rw [hsm.size, h0.tsz]; exact hl
        exact ⟨_, Array.getElem?_eq_getElem hl2, .junk⟩
      · obtain ⟨v, hv, hr⟩ := h0.tmps t s h3
        exact ⟨v, by rw [hsm.get t h2]; exact hv, hr.step hst⟩

theorem layHeap_len {sh : List (SO A)} : ∀ {l : List (Nat × SO A)}, (layHeap sh l).length = sh.length := by
  intro l
  induction l generalizing sh with
  | nil => rfl
  | cons x l ih => simp [layHeap, ih, setNth_eq]

/-- Code comes to what the engine makes of it. -/
theorem codeS_sound (hS : Sound E) {ann : Anns A} : ∀ {c : Code} {Q : Post A} {ts : List (SV A)} {sh : List (SO A)} {n : Nat} {env : List Wit} {a : Act} {w : World},
    WF ts n → Rel E O ts sh env a w → codeS E ann c Q ts sh n → c.wp E.P (PostW E O (written c) Q env a w) a w := by
  intro c
  induction c with
  | skip =>
    intro Q ts sh n env a w hw h hk
    exact wp_skip ⟨_, ts, sh, env, n, rfl, h, Step.refl _ _, hw, Same.refl _ _, hk⟩
  | region id ops d =>
    intro Q ts sh n env a w hw h hk
    cases d with
    | false =>
      simp only [codeS] at hk
      refine wp_region_list (opsS_sound (W := dsts ops.toList) hS.tt (fun o ho t ht => dsts_mem ho ht) hw h hk (fun ts' sh' n' env' a' w' hw' h' hs hsm hk' => ?_))
      exact ⟨_, ts', sh', env', n', rfl, h', hs, hw', hsm, hk'⟩
    | true =>
      simp only [codeS] at hk
      split at hk
      case isFalse => exact hk.elim
      rename_i hsel
      refine region_drawn hS.mixed hS.tt hsel (fun c a w hq => ?_) hw h hk (fun ts' sh' n' env' a' w' hw' h' hs hsm hk' => ?_)
      · obtain ⟨x, _, _, _, _, h1, _⟩ := hq
        simp [exOf] at h1
      · exact ⟨_, ts', sh', env', n', rfl, h', hs, hw', hsm, hk'⟩
  | seq x y ihx ihy =>
    intro Q ts sh n env a w hw h hk
    simp only [codeS] at hk
    refine wp_seq (wp_mono (ihx hw h hk) (fun e a1 w1 he => ?_))
    obtain ⟨ex, ts1, sh1, env1, n1, h1, h2, h3, h4, h5, h6⟩ := he
    have hsm : Same (written (.seq x y)) a a1 := h5.mono (fun t ht => List.mem_append_left _ ht)
    cases ex with
    | normal =>
      have := exOf_normal h1
      subst this
      exact wp_mono (ihy h4 h2 h6) (fun e a2 w2 he => PostW.mono (fun t ht => List.mem_append_right _ ht) h3 hsm he)
    | exit id =>
      cases e <;> simp [exOf] at h1
      subst h1
      exact ⟨_, ts1, sh1, env1, n1, rfl, h2, h3, h4, hsm, h6⟩
    | ret =>
      cases e <;> simp [exOf] at h1
      exact ⟨_, ts1, sh1, env1, n1, rfl, h2, h3, h4, hsm, h6⟩
  | cond c x y ihx ihy =>
    intro Q ts sh n env a w hw h hk
    simp only [codeS] at hk
    have hc := ev_rep h c
    split at hk
    · rename_i e; rw [e] at hc
      exact wp_cond_true hc.inv_bl (wp_mono (ihx hw h hk) (fun e a2 w2 he => PostW.mono (fun t ht => List.mem_append_left _ ht) (Step.refl _ _) (Same.refl _ _) he))
    · rename_i e; rw [e] at hc
      exact wp_cond_false hc.inv_bl (wp_mono (ihy hw h hk) (fun e a2 w2 he => PostW.mono (fun t ht => List.mem_append_right _ ht) (Step.refl _ _) (Same.refl _ _) he))
    · rename_i i v e; rw [e] at hc
      have hold := ev_old (E := E) (ts := ts) c
      rw [e] at hold
      obtain ⟨t0, ht0⟩ : ∃ t : Nat, ts[t]? = some (.sb i v) := by
        rcases hold with h1 | h1
        · exact h1
        · exact absurd rfl (h1 i v)
      cases v with
      | true => exact wp_cond_true hc.inv_sb (wp_mono (ihx (hw.know i true) (rel_know hw ht0 h) (hk.1 rfl)) (fun e a2 w2 he => PostW.mono (fun t ht => List.mem_append_left _ ht) (Step.refl _ _) (Same.refl _ _) he))
      | false => exact wp_cond_false hc.inv_sb (wp_mono (ihy (hw.know i false) (rel_know hw ht0 h) (hk.2 rfl)) (fun e a2 w2 he => PostW.mono (fun t ht => List.mem_append_right _ ht) (Step.refl _ _) (Same.refl _ _) he))
    · exact hk.elim
  | block id c ih =>
    intro Q ts sh n env a w hw h hk
    simp only [codeS] at hk
    refine wp_block (wp_mono (ih hw h hk) (fun e a1 w1 he => ?_))
    obtain ⟨ex, ts1, sh1, env1, n1, h1, h2, h3, h4, h5, h6⟩ := he
    cases ex with
    | normal =>
      have := exOf_normal h1
      subst this
      exact ⟨_, ts1, sh1, env1, n1, rfl, h2, h3, h4, h5, h6⟩
    | exit i =>
      cases e <;> simp [exOf] at h1
      subst h1
      simp only [Exit.inBlock]
      simp only at h6
      split
      · rename_i e; rw [if_pos e] at h6; exact ⟨_, ts1, sh1, env1, n1, rfl, h2, h3, h4, h5, h6⟩
      · rename_i e; rw [if_neg e] at h6; exact ⟨_, ts1, sh1, env1, n1, rfl, h2, h3, h4, h5, h6⟩
    | ret =>
      cases e <;> simp [exOf] at h1
      exact ⟨_, ts1, sh1, env1, n1, rfl, h2, h3, h4, h5, h6⟩
  | loop c ih =>
    intro Q ts sh n env a w hw h hk
    simp only [codeS] at hk
    split at hk
    · exact hk.elim
    · rename_i L hL
      obtain ⟨⟨x0, hi0, harr0⟩, hround⟩ := hk
      refine wp_loop_meas (I := fun m a' w' => ∃ x env', L.inv x ∧ L.meas x = m ∧ Rel E O (laySlots n (junkAll ts (written c)) (L.slots x)) (joinL (layHeap sh (L.heap x)) (L.more x)) env' a' w' ∧ Step env w env' w' ∧ Same (written c) a a') ?_ (n := L.meas x0) ?_
      · rintro m a1 w1 ⟨x, env1, h1, h2, h3, h4, h5⟩
        have hwf : WF (laySlots n (junkAll ts (written c)) (L.slots x)) (n + cnt (L.slots x)) := (hw.junk).laySlots
        refine wp_mono (ih hwf h3 (hround x h1)) (fun e a2 w2 he => ?_)
        obtain ⟨ex, ts2, sh2, env2, n2, h6, h7, h8, h9, h10, h11⟩ := he
        cases ex with
        | normal =>
          have := exOf_normal h6
          subst this
          obtain ⟨y, h12, h13, h14⟩ := h11
          obtain ⟨env', h16, h17⟩ := rel_head (hS := hS) (n := n) h h7 (h4.trans h8) (h5.trans h10) layHeap_len h14
          exact ⟨L.meas y, by omega, y, env', h12, rfl, h16, h17, h5.trans h10⟩
        | exit i =>
          cases e <;> simp [exOf] at h6
          subst h6
          exact ⟨_, ts2, sh2, env2, n2, rfl, h7, h4.trans h8, h9, h5.trans h10, h11⟩
        | ret =>
          cases e <;> simp [exOf] at h6
          exact ⟨_, ts2, sh2, env2, n2, rfl, h7, h4.trans h8, h9, h5.trans h10, h11⟩
      · obtain ⟨env', h16, h17⟩ := rel_head (hS := hS) (n := n) h h (Step.refl _ _) (Same.refl (written c) a) layHeap_len harr0
        exact ⟨x0, env', hi0, rfl, h16, h17, Same.refl _ _⟩
  | exit id =>
    intro Q ts sh n env a w hw h hk
    exact wp_exit ⟨_, ts, sh, env, n, rfl, h, Step.refl _ _, hw, Same.refl _ _, hk⟩
  | ret =>
    intro Q ts sh n env a w hw h hk
    exact wp_ret ⟨_, ts, sh, env, n, rfl, h, Step.refl _ _, hw, Same.refl _ _, hk⟩
  | rangeFunc f p x y _ _ => intro Q ts sh n env a w hw h hk; exact hk.elim
  | scope c _ => intro Q ts sh n env a w hw h hk; exact hk.elim
  | label l => intro Q ts sh n env a w hw h hk; exact hk.elim
  | goto l => intro Q ts sh n env a w hw h hk; exact hk.elim
  | refuse s => intro Q ts sh n env a w hw h hk; exact hk.elim
end
end Go.Eng
