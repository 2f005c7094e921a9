/- The engine is right: a function, over the heap that it is handed. Conditions: none. -/
import Derived.Test.YtcglahfmnoghjaaDoorE21
namespace Go.Eng
open Go
variable {A : Nat → Type}

theorem callR_of_calls {P : Program} {f : FuncId} {fn : Func} {c : Code} {vs : Array Value} {w : World} {R : Value → World → Prop} (hf : P.funcs[f]? = some fn) (hname : (fn.name == "runtime.NumGoroutine") = false) (hb : fn.body = some c)
    (h : Calls P f vs w fun | .returned v, w' => R v w' | _, _ => False) : CallR P f vs w R := by
  intro o a next Q hn
  have hrun : (callFunc f vs).run P w = .ok (.enter f vs) w := by
    have h1 : fn.name ≠ "runtime.NumGoroutine" := by simpa using hname
    simp [callFunc, hf, h1, hb]
  rw [hrun, Oper.upon_enter]
  refine h.mono (fun e w' he => ?_)
  cases e with
  | returned v => exact hn v w' he
  | panicked c => exact he.elim
  | outgrown => exact he.elim

theorem nameAll_len (n : Nat) : ∀ l : List (SV A), (nameAll n l).length = l.length
  | [] => rfl
  | _ :: l => by simp [nameAll, nameAll_len (n + 1) l]
theorem padJ_len : ∀ n : Nat, (padJ n : List (SV A)).length = n
  | 0 => rfl
  | n + 1 => by simp [padJ, padJ_len n]
theorem padJ_get : ∀ {n t : Nat} {s : SV A}, (padJ n)[t]? = some s → s = .junk
  | 0, t, s, h => by simp [padJ] at h
  | n + 1, 0, s, h => by simp [padJ] at h; exact h.symm
  | n + 1, t + 1, s, h => by simp [padJ] at h; exact padJ_get h
theorem nameAll_get : ∀ {l : List (SV A)} {n t : Nat} {s : SV A}, (nameAll n l)[t]? = some s → ∃ v, l[t]? = some v ∧ s = named (n + t) v
  | [], n, t, s, h => by simp [nameAll] at h
  | v :: l, n, 0, s, h => by simp [nameAll] at h; exact ⟨v, rfl, h.symm⟩
  | v :: l, n, t + 1, s, h => by
    simp [nameAll] at h
    obtain ⟨u, h1, h2⟩ := nameAll_get h
    exact ⟨u, by simpa using h1, by rw [h2]; congr 1; omega⟩
theorem named_sb {n i : Nat} {c : Bool} {v : SV A} (h : SV.sb i c = named n v) : i = n := by
  unfold named at h
  split at h
  · cases h; rfl
  · rename_i hn; exact absurd h.symm (hn i c)
theorem start_get {l : List (SV A)} {m t i : Nat} {c : Bool} (h : (nameAll 0 l ++ padJ m)[t]? = some (.sb i c)) : i = t ∧ t < l.length := by
  rcases Nat.lt_or_ge t l.length with ht | ht
  · rw [List.getElem?_append_left (by rw [nameAll_len]; exact ht)] at h
    obtain ⟨v, _, h2⟩ := nameAll_get h
    have := named_sb h2
    exact ⟨by omega, ht⟩
  · rw [List.getElem?_append_right (by rw [nameAll_len]; exact ht)] at h
    have := padJ_get h
    cases this
theorem WF.start (l : List (SV A)) (m : Nat) : WF (nameAll 0 l ++ padJ m) (cnt l) where
  lt := fun t i c h => by
    have := start_get h
    rw [cnt_eq]; omega
  one := fun t t' i c c' h h' => by
    have h1 := start_get h
    have h2 := start_get h'
    have e : t = t' := by omega
    subst e
    rw [h] at h'
    cases h'; rfl

section
variable {E : Eng A} {O : Nat → Prop} {ts : List (SV A)} {sh : List (SO A)} {env : List Wit} {a : Act} {w : World}

theorem argsR_get {O : Nat → Prop} {env : List Wit} {w : World} {C : Enc A} : ∀ {l : List (SV A)} {vs : List Value}, ArgsR O env w C l vs → l.length = vs.length ∧ ∀ (t : Nat) s, l[t]? = some s → ∃ v, vs[t]? = some v ∧ Rep O env w C s v
  | [], vs, h => by
    have : vs = [] := h
    subst this
    exact ⟨rfl, fun t s h => by simp at h⟩
  | s :: l, vs, h => by
    obtain ⟨u, us, rfl, h1, h2⟩ := h
    obtain ⟨h3, h4⟩ := argsR_get h2
    refine ⟨by simp [h3], fun t s' ht => ?_⟩
    cases t with
    | zero => simp at ht; subst ht; exact ⟨u, rfl, h1⟩
    | succ t => simpa using h4 t s' (by simpa using ht)

theorem rel_start {l : List (SV A)} {vs : List Value} {n : Nat} (ha : ArgsR O env w E.C l vs) (hh : HR O env w E.C sh) (hg : Glob E.GL O env w E.C) :
    Rel E O (nameAll 0 l ++ padJ (n - cnt l)) sh env { tmps := vs.toArray ++ Array.replicate (n - vs.toArray.size) undef, defers := [] } w := by
  obtain ⟨h1, h2⟩ := argsR_get ha
  refine ⟨rfl, ?_, fun t s ht => ?_, hh, hg⟩
  · simp [nameAll_len, padJ_len, cnt_eq, h1]
  · rcases Nat.lt_or_ge t l.length with hl | hl
    · rw [List.getElem?_append_left (by rw [nameAll_len]; exact hl)] at ht
      obtain ⟨v, h3, rfl⟩ := nameAll_get ht
      obtain ⟨u, h4, h5⟩ := h2 t v h3
      refine ⟨u, ?_, rep_named _ h5⟩
      simp only
      rw [Array.getElem?_append_left (by simp; omega)]
      simpa using h4
    · rw [List.getElem?_append_right (by rw [nameAll_len]; exact hl)] at ht
      have hlt := (List.getElem?_eq_some_iff.1 ht).1
      have := padJ_get ht
      subst this
      rw [nameAll_len, padJ_len, cnt_eq] at hlt
      simp only
      rw [Array.getElem?_append_right (by simp; omega)]
      refine ⟨undef, ?_, .junk⟩
      rw [Array.getElem?_replicate, if_pos (by simp; omega)]

def resM (tmps : Array Value) : ResultVar → Sem Value
  | .tmp t => pure (tmps.getD t undef)
  | .cell a t => do loadVar t (← asAddr (tmps.getD a undef))
theorem results_eq (fn : Func) (tmps : Array Value) : results fn tmps = (do
    let vs ← fn.results.mapM (resM tmps)
    pure (if h : vs.size = 1 then vs[0] else .tuple vs)) := by
  unfold results
  congr 1

/-- What is handed back, in memory. -/
theorem resS_rep (h : Rel E O ts sh env a w) : ∀ {l : List ResultVar} {K : List (SV A) → Prop}, resS E ts sh l K → ∃ (ss : List (SV A)) (vs : List Value), K ss ∧ ArgsR O env w E.C ss vs ∧
    (l.mapM (resM a.tmps)).run E.P w = .ok vs w
  | [], K, hr => ⟨[], [], hr, rfl, by simp⟩
  | .tmp t :: l, K, hr => by
    simp only [resS] at hr
    split at hr
    · rename_i s hs
      rw [nth_eq] at hs
      obtain ⟨v, hv, h1⟩ := h.tmps t s hs
      obtain ⟨ss, vs, hK, h2, h4⟩ := resS_rep h hr
      refine ⟨s :: ss, v :: vs, hK, ⟨v, vs, rfl, h1, h2⟩, ?_⟩
      have hd : a.tmps.getD t undef = v := by simp [Array.getD_eq_getD_getElem?, hv]
      simp [List.mapM_cons, resM, hd, h4]
    · exact hr.elim
  | .cell x t :: l, K, hr => by
    simp only [resS] at hr
    obtain ⟨ad, v, s, hx, h1, h2, h3⟩ := run_loadS h hr
    obtain ⟨ss, vs, hK, h5, h4⟩ := resS_rep h h3
    refine ⟨s :: ss, v :: vs, hK, ⟨v, vs, rfl, h2, h5⟩, ?_⟩
    have hd : a.tmps.getD x undef = .pointer (some ad) := hx
    simp [List.mapM_cons, resM, hd, h4, asAddr, h1 w (Old.refl _)]

theorem run_results {fn : Func} (h : Rel E O ts sh env a w) {K : List (SV A) → Prop} (hr : resS E ts sh fn.results.toList K) :
    ∃ ss v, K ss ∧ (results fn a.tmps).run E.P w = .ok v w ∧ ∃ vs : List Value, ArgsR O env w E.C ss vs ∧ v = (if h : vs.toArray.size = 1 then vs.toArray[0] else .tuple vs.toArray) := by
  obtain ⟨ss, vs, hK, h1, h3⟩ := resS_rep h hr
  refine ⟨ss, _, hK, ?_, vs, h1, rfl⟩
  rw [results_eq, Array.mapM_eq_mapM_toList]
  simp [h3]

theorem argsR_mkL {O : Nat → Prop} {env : List Wit} {w : World} {C : Enc A} : ∀ {l : List (SV A)} {vs : List Value}, ArgsR O env w C l vs → RepL O env w C (mkL l) vs
  | [], _, h => by
    have := h
    simp only [ArgsR] at this
    subst this; exact .nil
  | _ :: _, _, ⟨u, us, e, h1, h2⟩ => by subst e; exact .cell h1 (argsR_mkL h2)
theorem resV_rep {O : Nat → Prop} {env : List Wit} {w : World} {C : Enc A} {ss : List (SV A)} {vs : List Value} (h : ArgsR O env w C ss vs) : Rep O env w C (resV ss) (if h : vs.toArray.size = 1 then vs.toArray[0] else .tuple vs.toArray) := by
  have hl := (argsR_get h).1
  match ss, vs, hl, h with
  | [], [], _, h => simpa [resV, mkL] using Rep.tup [] .nil
  | [s], [v], _, h =>
    obtain ⟨u, us, e, h1, _⟩ := h
    simp at e
    simpa [resV, e.1] using h1
  | a :: b :: l, x :: y :: m, _, h =>
    have := Rep.tup _ (argsR_mkL h)
    simpa [resV] using this

theorem argsR_step {O : Nat → Prop} {env env' : List Wit} {w w' : World} {C : Enc A} (hs : Step env w env' w') : ∀ {l : List (SV A)} {vs : List Value}, ArgsR O env w C l vs → ArgsR O env' w' C l vs
  | [], _, h => h
  | _ :: _, _, ⟨u, us, e, h1, h2⟩ => ⟨u, us, e, h1.step hs, argsR_step hs h2⟩

theorem end1_spec {want have_ v' : SV A} {sh' : List (SO A)} {v : Value} (hh : HR O env w E.C sh) (hk : end1 sh want have_ = some (v', sh')) (hr : Rep O env w E.C have_ v) :
    ∃ env', HR O env' w E.C sh' ∧ Step env w env' w ∧ Rep O env' w E.C v' v := by
  unfold end1 at hk
  split at hk
  · cases hk; exact ⟨env, hh, Step.refl _ _, hr⟩
  · cases hk; exact ⟨env, hh, Step.refl _ _, hr⟩
  · exact letGoV_spec hh hk hr

theorem endS_spec : ∀ {ws l l' : List (SV A)} {vs : List Value} {sh sh' : List (SO A)} {env : List Wit}, HR O env w E.C sh → endS sh ws l = some (l', sh') → ArgsR O env w E.C l vs →
    ∃ env', HR O env' w E.C sh' ∧ Step env w env' w ∧ ArgsR O env' w E.C l' vs
  | [], [], _, vs, sh, _, env, hh, hk, hr => by
    simp only [endS, Option.some.injEq, Prod.mk.injEq] at hk
    obtain ⟨rfl, rfl⟩ := hk
    exact ⟨env, hh, Step.refl _ _, hr⟩
  | s :: r, h :: l, _, vs, sh, _, env, hh, hk, hr => by
    simp only [endS] at hk
    split at hk
    · rename_i v1 sh1 h1
      split at hk
      · rename_i l1 sh2 h2
        cases hk
        obtain ⟨u, us, rfl, h3, h4⟩ := hr
        obtain ⟨env1, h5, h6, h7⟩ := end1_spec hh h1 h3
        obtain ⟨env2, h8, h9, h10⟩ := endS_spec h5 h2 (argsR_step h6 h4)
        exact ⟨env2, h8, h6.trans h9, u, us, rfl, h7.step h9, h10⟩
      · cases hk
    · cases hk
  | [], _ :: _, _, _, _, _, _, _, hk, _ => by simp [endS] at hk
  | _ :: _, [], _, _, _, _, _, _, hk, _ => by simp [endS] at hk

theorem takeN_drop {α : Type _} : ∀ (n : Nat) (l : List α), takeN n l ++ dropN n l = l
  | 0, l => rfl
  | n + 1, [] => rfl
  | n + 1, x :: l => by simp [takeN, dropN, takeN_drop n l]
theorem takeN_len {α : Type _} : ∀ {n : Nat} {l : List α}, n ≤ l.length → (takeN n l).length = n
  | 0, l, _ => rfl
  | n + 1, [], h => by simp at h
  | n + 1, x :: l, h => by simp [takeN, takeN_len (n := n) (l := l) (by simpa using h)]
theorem slotsFrom_get {l : List (SV A)} : ∀ {n : Nat} {k : Nat} {s : SV A}, l[k]? = some s → (n + k, s) ∈ slotsFrom n l := by
  induction l with
  | nil => intro n k s h; simp at h
  | cons x l ih =>
    intro n k s h
    cases k with
    | zero => simp at h; subst h; exact List.mem_cons_self
    | succ k =>
      have := ih (n := n + 1) (k := k) (s := s) (by simpa using h)
      rw [show n + (k + 1) = n + 1 + k from by omega]
      exact List.mem_cons_of_mem _ this

theorem nth_lt {σ : List (SV A)} {k : Nat} {s : SV A} (h : nth σ k = some s) : k < σ.length := by
  rw [nth_eq] at h; exact (List.getElem?_eq_some_iff.1 h).1
theorem ite_of {p : Prop} [Decidable p] (h : p) : (if p then true else false) = true := if_pos h
theorem ite_both {p q : Bool} (h : p = true) (k : q = true) : (if p = true then q else false) = true := by rw [if_pos h]; exact k
mutual
theorem okV_below {n : Nat} {σ : List (SV A)} : ∀ (s : SV A), okV n σ s = true → belowV (n + σ.length) s = true
  | .junk, _ => rfl
  | .undef, _ => rfl
  | .val _, _ => rfl
  | .int _ _, _ => rfl
  | .lit _ _, _ => rfl
  | .bl _, _ => rfl
  | .sb _ _, _ => rfl
  | .err _ _, _ => rfl
  | .rints _ _, _ => rfl
  | .rseq _ _, _ => rfl
  | .ptr i o, h => by
    simp only [okV] at h; simp only [belowV]
    split at h
    · exact ite_of (by omega)
    · unfold ptrSrc at h
      split at h
      · rename_i hj; have := nth_lt hj; exact ite_of (by omega)
      · cases h
  | .vec i, h => by
    simp only [okV] at h; simp only [belowV]
    split at h
    · exact ite_of (by omega)
    · unfold vecSrc at h
      split at h
      · rename_i hj; have := nth_lt hj; exact ite_of (by omega)
      · rename_i hj; have := nth_lt hj; exact ite_of (by omega)
      · cases h
  | .aptr i o m j, h => by simp only [okV] at h; simp only [belowV]; have := ite_tt h; exact ite_of (by omega)
  | .asl i o m, h => by simp only [okV] at h; simp only [belowV]; have := ite_tt h; exact ite_of (by omega)
  | .vptr i j s o, h => by simp only [okV] at h; simp only [belowV]; have := ite_tt h; exact ite_of (by omega)
  | .rptr cs o, h => by simp only [okV] at h; simp only [belowV]; exact okL_below cs h
  | .iface t v, h => by simp only [okV] at h; simp only [belowV]; exact okV_below v h
  | .fn f x y, h => by simp only [okV] at h; simp only [belowV]; exact ite_both (okL_below x (ite_and h).1) (okL_below y (ite_and h).2)
  | .agg cs, h => by simp only [okV] at h; simp only [belowV]; exact okL_below cs h
  | .tup cs, h => by simp only [okV] at h; simp only [belowV]; exact okL_below cs h
theorem okL_below {n : Nat} {σ : List (SV A)} : ∀ (cs : SL A), okL n σ cs = true → belowL (n + σ.length) cs = true
  | .nil, _ => rfl
  | .cell v r, h => by simp only [okL] at h; simp only [belowL]; exact ite_both (okV_below v (ite_and h).1) (okL_below r (ite_and h).2)
  | .run _ _ _ r, h => by simp only [okL] at h; simp only [belowL]; exact okL_below r h
end
theorem okOs_below {n : Nat} {σ : List (SV A)} : ∀ (l : List (SO A)), okOs n σ l = true → belowOs (n + σ.length) l = true
  | [], _ => rfl
  | o :: l, h => by
    simp only [okOs] at h; simp only [belowOs]
    refine ite_both ?_ (okOs_below l (ite_and h).2)
    have h1 := (ite_and h).1
    cases o <;> first | rfl | skip
    · exact okL_below _ h1
    · exact okV_below _ h1
theorem belowVs_of {n : Nat} : ∀ {l : List (SV A)}, (∀ (k : Nat) s, l[k]? = some s → belowV n s = true) → belowL n (mkL l) = true
  | [], _ => rfl
  | s :: l, h => by
    simp only [mkL, belowL]
    exact ite_both (h 0 s rfl) (belowVs_of fun k s hk => h (k + 1) s (by simpa using hk))
theorem belowV_resV {n : Nat} {l : List (SV A)} (h : ∀ (k : Nat) s, l[k]? = some s → belowV n s = true) : belowV n (resV l) = true := by
  match l, h with
  | [s], h => exact h 0 s rfl
  | [], h => rfl
  | a :: b :: l, h => exact belowVs_of h

theorem belowOs_app {n : Nat} : ∀ {l m : List (SO A)}, belowOs n l = true → belowOs n m = true → belowOs n (l ++ m) = true
  | [], _, _, h => h
  | o :: l, m, h, k => by
    simp only [belowOs] at h
    simp only [List.cons_append, belowOs]
    exact ite_both (ite_and h).1 (belowOs_app (ite_and h).2 k)

/-- A function does what its contract says, over the heap that it is handed. -/
theorem fn_calls (hS : Sound E) {f : FuncId} {fn : Func} {body : Code} (hf : E.P.funcs[f]? = some fn) (hb : fn.body = some body) {L : LS A} {ann : L.X → Anns A}
    (hL : fnS E fn body L ann) (hle : ∀ x, L.pre x → (L.hin x).length ≤ (L.hout x).length) {x : L.X} (hx : L.pre x) {vs : List Value} (ha : ArgsR O env w E.C (L.args x) vs) (hh : HR O env w E.C (L.hin x)) (hg : Glob E.GL O env w E.C) :
    Calls E.P f vs.toArray w fun | .returned v, w' => (∃ env', Rep O env' w' E.C (resV (L.res x)) v ∧ HR O env' w' E.C (L.hout x) ∧ Step env w env' w' ∧ belowV (L.hout x).length (resV (L.res x)) = true ∧ belowOs (L.hout x).length (L.hout x) = true) | _, _ => False := by
  refine calls_of_wp hf hb (wp_mono (codeS_sound hS (WF.start _ _) (rel_start ha hh hg) (hL x hx)) (fun e a' w' he => ?_))
  obtain ⟨ex, ts', sh', env', n', h1, h2, h3, h4, h5, h6⟩ := he
  have key : (resS E ts' sh' fn.results.toList fun l => match endS sh' (L.res x) l with
      | some (l', sh') => arrS (takeN (cnt (L.hin x)) (L.hout x)) (dropN (cnt (L.hin x)) (L.hout x)) (slotsFrom 0 (L.res x)) l' sh'
      | none => False) → a'.defers = [] ∧ ∃ v, (results fn a'.tmps).run E.P w' = .ok v w' ∧ ∃ env', Rep O env' w' E.C (resV (L.res x)) v ∧ HR O env' w' E.C (L.hout x) ∧ Step env w env' w' ∧ belowV (L.hout x).length (resV (L.res x)) = true ∧ belowOs (L.hout x).length (L.hout x) = true := by
    intro hk
    obtain ⟨ss, v, hK, hrun, vs, h7, rfl⟩ := run_results h2 hk
    split at hK
    case h_2 => exact hK.elim
    rename_i l' sh2 hend
    obtain ⟨env2, h8, h9, h10⟩ := endS_spec h2.heap hend h7
    obtain ⟨σ, hok, hsl, h12, h13⟩ := arr_heap (hS.below 0) h8 hK
    rw [takeN_drop] at h12
    have hP : (takeN (cnt (L.hin x)) (L.hout x)).length = (L.hin x).length := by rw [cnt_eq]; exact takeN_len (hle x hx)
    have hn : (takeN (cnt (L.hin x)) (L.hout x)).length + σ.length = (L.hout x).length := by
      have h14 := h12.len
      simp only [arrEnv, List.length_append, List.length_map] at h14
      rw [cutEnv_len] at h14
      · exact h14.symm
      · have := h8.len
        unfold arrS at hK
        split at hK
        case h_2 => exact hK.elim
        split at hK
        case isFalse => exact hK.elim
        split at hK
        case isFalse => exact hK.elim
        split at hK
        case isFalse => exact hK.elim
        split at hK
        case isFalse => exact hK.elim
        have := (preIs_get hK.2.1).1
        omega
    have hres : ∀ (k : Nat) s, (L.res x)[k]? = some s → ∃ u, vs[k]? = some u ∧ Rep O (arrEnv (takeN (cnt (L.hin x)) (L.hout x)) σ env2) w' E.C s u ∧ belowV (L.hout x).length s = true := by
      intro k s hk
      have hm := slotsFrom_get (n := 0) hk
      rw [Nat.zero_add] at hm
      have h14 := slotsAre_get hsl _ hm
      unfold slotIs at h14
      split at h14
      · rename_i s' hs'
        rw [nth_eq] at hs'
        obtain ⟨u, hu, hr⟩ := (argsR_get h10).2 k s' hs'
        exact ⟨u, hu, (eqv_rep h14 (rslV_rep h8 hr)).arr (hS.below 0) h13 _ (hok _ hm), by rw [← hn]; exact okV_below _ (hok _ hm)⟩
      · exact h14.elim
    have hlen : (L.res x).length = vs.length := by
      have e1 : ∀ (ws l l' : List (SV A)) (s s' : List (SO A)), endS s ws l = some (l', s') → ws.length = l.length := by
        intro ws
        induction ws with
        | nil => intro l l' s s' h; cases l <;> simp [endS] at h; rfl
        | cons x ws ih =>
          intro l l' s s' h
          cases l with
          | nil => simp [endS] at h
          | cons y l =>
            simp only [endS] at h
            split at h
            · split at h
              · rename_i h2; simp [ih _ _ _ _ h2]
              · cases h
            · cases h
      rw [e1 _ _ _ _ _ hend]; exact (argsR_get h7).1
    have hargs : ArgsR O (arrEnv (takeN (cnt (L.hin x)) (L.hout x)) σ env2) w' E.C (L.res x) vs := by
      generalize L.res x = rs at hres hlen
      clear hrun h7 h10
      induction rs generalizing vs with
      | nil => exact List.eq_nil_of_length_eq_zero hlen.symm
      | cons r rs ih =>
        cases vs with
        | nil => simp at hlen
        | cons u us =>
          obtain ⟨u', hu, h15, _⟩ := hres 0 r rfl
          simp at hu; subst hu
          exact ⟨u, us, rfl, h15, ih us (fun k s hk => by simpa using hres (k + 1) s (by simpa using hk)) (by simpa using hlen)⟩
    have hob : belowOs (L.hout x).length (L.hout x) = true := by
      unfold arrS at hK
      split at hK
      case h_2 => exact hK.elim
      rename_i σ' hσ'
      split at hK
      case isFalse => exact hK.elim
      split at hK
      case isFalse => exact hK.elim
      rename_i hb1 hb2
      split at hK
      case isFalse => exact hK.elim
      split at hK
      case isFalse => exact hK.elim
      have hml := (moreIs_get hK.2.2).1
      have e2 : (takeN (cnt (L.hin x)) (L.hout x)).length + σ'.length = (L.hout x).length := by
        rw [← hml, ← List.length_append, takeN_drop]
      have h16 := belowOs_app (okOs_below _ hb1) (okOs_below _ hb2)
      rw [takeN_drop, cnt_eq (takeN _ _), e2] at h16
      exact h16
    refine ⟨h2.defers, _, hrun, _, resV_rep hargs, h12, (h3.trans h9).arr (n := (takeN (cnt (L.hin x)) (L.hout x)).length) ?_ ?_ h13, belowV_resV (fun k s hk => (hres k s hk).elim fun _ h => h.2.2), hob⟩
    · rw [hP, hh.len]; exact Nat.le_refl _
    · rw [← h12.len]; omega
  cases ex with
  | exit i => exact h6.elim
  | normal =>
    cases e <;> simp [exOf] at h1
    obtain ⟨h7, v, h8, h9⟩ := key h6
    exact ⟨h7, v, h8, h9⟩
  | ret =>
    cases e <;> simp [exOf] at h1
    obtain ⟨h7, v, h8, h9⟩ := key h6
    exact ⟨h7, v, h8, h9⟩
/-- A function does what its contract says, over the heap that it is handed. -/
theorem fn_local (hS : Sound E) {f : FuncId} {fn : Func} {body : Code} (hf : E.P.funcs[f]? = some fn) (hname : (fn.name == "runtime.NumGoroutine") = false) (hb : fn.body = some body) {L : LS A} {ann : L.X → Anns A}
    (hL : fnS E fn body L ann) (hle : ∀ x, L.pre x → (L.hin x).length ≤ (L.hout x).length) {x : L.X} (hx : L.pre x) {vs : List Value} (ha : ArgsR O env w E.C (L.args x) vs) (hh : HR O env w E.C (L.hin x)) (hg : Glob E.GL O env w E.C) :
    CallR E.P f vs.toArray w fun v w' => ∃ env', Rep O env' w' E.C (resV (L.res x)) v ∧ HR O env' w' E.C (L.hout x) ∧ Step env w env' w' ∧ belowV (L.hout x).length (resV (L.res x)) = true ∧ belowOs (L.hout x).length (L.hout x) = true := by
  exact callR_of_calls hf hname hb (fn_calls hS hf hb hL hle hx ha hh hg)
end
end Go.Eng
