/- The engine's operations are right: what is let go, slices and arrays that are written out. Conditions: none. -/
import Derived.Test.YtcglahfmnoghjaaDoorE16
namespace Go.Eng
open Go
variable {A : Nat → Type}

section
variable {O : Nat → Prop} {env : List Wit} {w : World} {C : Enc A} {sh : List (SO A)}

mutual
theorem eqv_rep : ∀ {s s' : SV A} {v : Value}, eqv s s' → Rep O env w C s' v → Rep O env w C s v := by
  intro s s' v h hr
  unfold eqv at h
  split at h
  · split at h
    · rename_i e; subst e; subst h; rw [hr.inv_int]; exact .int
    · exact h.elim
  · split at h
    · rename_i e; subst e; subst h; rw [hr.inv_lit]; exact .int
    · exact h.elim
  · split at h
    · rename_i e; subst e; subst h; rw [hr.inv_int]; exact .lit
    · exact h.elim
  · split at h
    · rename_i e; subst e; subst h; rw [hr.inv_lit]; exact .lit
    · exact h.elim
  · subst h; rw [hr.inv_bl]; exact .bl
  · subst h; rw [hr.inv_sb]; exact .bl
  · subst h; rw [hr.inv_bl]; exact .sb
  · subst h; rw [hr.inv_sb]; exact .sb
  · split at h
    · rename_i e; subst e; exact hr
    · exact h.elim
  · split at h
    · rename_i e; subst e
      split at h
      · rename_i e; subst e; exact hr
      · exact h.elim
    · exact h.elim
  · split at h
    · rename_i e; subst e; subst h; exact hr
    · exact h.elim
  · subst h; rw [hr.inv_val]; exact .rints (xs := []) none 0 (Nat.le_refl _) (by simp [maxLen]) (.inl rfl)
  · split at h
    · rename_i e; subst e; subst h; exact hr
    · exact h.elim
  · subst h; rw [hr.inv_val]; exact .rseq (xs := []) none 0 [] (Nat.le_refl _) (by simp [maxLen]) (by simp) (.inl rfl) (fun j x hj => by simp at hj)
  · obtain ⟨us, hv, h1⟩ := hr.inv_agg
    rw [hv]; exact .agg us (eqvL_rep h h1)
  · obtain ⟨us, hv, h1⟩ := hr.inv_tup
    rw [hv]; exact .tup us (eqvL_rep h h1)
  · split at h
    · rename_i e; subst e
      obtain ⟨u, hv, h1⟩ := hr.inv_iface
      rw [hv]; exact .iface (eqv_rep h h1)
    · exact h.elim
  · split at h
    · rename_i e; subst e; subst h; exact hr
    · exact h.elim
  · subst h; rw [hr.inv_val]; exact .err (.inl ⟨rfl, rfl⟩)
  · split at h
    · rename_i e; subst e; obtain ⟨rfl, h2⟩ := h
      obtain ⟨u, hv, h1⟩ := hr.inv_iface
      rw [hv, h1.inv_int]; exact .err (.inr ⟨h2, rfl⟩)
    · exact h.elim
  · split at h
    · rename_i e; subst e; obtain ⟨rfl, h2⟩ := h
      obtain ⟨u, hv, h1⟩ := hr.inv_iface
      rw [hv, h1.inv_lit]; exact .err (.inr ⟨h2, rfl⟩)
    · exact h.elim
  · obtain ⟨e, h2, h3⟩ := h
    subst e
    obtain ⟨us, vs, hv, h4, h5⟩ := hr.inv_fn
    rw [hv]; exact .fn us vs (eqvL_rep h2 h4) (eqvL_rep h3 h5)
  · exact .junk
  · subst h; exact hr
theorem eqvL_rep : ∀ {s s' : SL A} {vs : List Value}, eqvL s s' → RepL O env w C s' vs → RepL O env w C s vs := by
  intro s s' vs h hr
  unfold eqvL at h
  split at h
  · exact hr
  · obtain ⟨u, us, hv, h1, h2⟩ := hr.inv_cell
    rw [hv]; exact .cell (eqv_rep h.1 h1) (eqvL_rep h.2 h2)
  · split at h
    · rename_i e; subst e
      split at h
      · rename_i e; subst e
        obtain ⟨us, hn, hv, h1⟩ := hr.inv_run
        rw [hv, ← h.1]
        exact .run (by rw [h.1]; exact hn) (eqvL_rep h.2 h1)
      · exact h.elim
    · exact h.elim
  · exact h.elim
end

/-- A vector is let go. -/
theorem letGo_spec (hh : HR O env w C sh) {s s' : SV A} {sh' : List (SO A)} {v : Value} (h : letGo sh s = some (s', sh')) (hr : Rep O env w C s v) :
    ∃ env', HR O env' w C sh' ∧ Step env w env' w ∧ Rep O env' w C s' v := by
  unfold letGo at h
  split at h
  · rename_i i
    split at h
    · rename_i e k xs hi
      cases h
      obtain ⟨u, hb, h1, h2, h3⟩ := hh.freezeI hi
      have hv := slAt_some hr.inv_vec hb
      subst hv
      exact ⟨_, h1, h2, h3⟩
    · rename_i e xs hi
      cases h
      obtain ⟨u, hb, h1, h2, h3⟩ := hh.freezeS hi
      have hv := slAt_some hr.inv_vec hb
      subst hv
      exact ⟨_, h1, h2, h3⟩
    · rename_i s hi
      cases h
      have h1 := rep_rsl hh hr
      simp only [rsl, hi] at h1
      exact ⟨env, hh, Step.refl _ _, h1⟩
    · cases h
  · cases h
    exact ⟨env, hh, Step.refl _ _, hr⟩

theorem letGoL_spec : ∀ {cs cs' : SL A} {sh sh' : List (SO A)} {env : List Wit} {vs : List Value}, HR O env w C sh → letGoL sh cs = some (cs', sh') → RepL O env w C cs vs →
    ∃ env', HR O env' w C sh' ∧ Step env w env' w ∧ RepL O env' w C cs' vs
  | .nil, _, _, _, env, vs, hh, h, hr => by
    simp only [letGoL, Option.some.injEq, Prod.mk.injEq] at h
    obtain ⟨rfl, rfl⟩ := h
    exact ⟨env, hh, Step.refl _ _, hr⟩
  | .cell s r, _, sh, _, env, vs, hh, h, hr => by
    simp only [letGoL] at h
    split at h
    · rename_i s' sh1 h1
      split at h
      · rename_i r' sh2 h2
        cases h
        obtain ⟨u, us, rfl, h3, h4⟩ := hr.inv_cell
        obtain ⟨env1, h5, h6, h7⟩ := letGo_spec hh h1 h3
        obtain ⟨env2, h8, h9, h10⟩ := letGoL_spec h5 h2 (h4.step h6)
        exact ⟨env2, h8, h6.trans h9, .cell (h7.step h9) h10⟩
      · cases h
    · cases h
  | .run k n xs r, _, sh, _, env, vs, hh, h, hr => by
    simp only [letGoL] at h
    split at h
    · rename_i r' sh2 h2
      cases h
      obtain ⟨us, hn, rfl, h4⟩ := hr.inv_run
      obtain ⟨env2, h8, h9, h10⟩ := letGoL_spec hh h2 h4
      exact ⟨env2, h8, h9, .run hn h10⟩
    · cases h

theorem letGoV_spec (hh : HR O env w C sh) {s s' : SV A} {sh' : List (SO A)} {v : Value} (h : letGoV sh s = some (s', sh')) (hr : Rep O env w C s v) :
    ∃ env', HR O env' w C sh' ∧ Step env w env' w ∧ Rep O env' w C s' v := by
  unfold letGoV at h
  split at h
  · split at h
    · rename_i h1
      cases h
      obtain ⟨us, rfl, h2⟩ := hr.inv_agg
      obtain ⟨env', h3, h4, h5⟩ := letGoL_spec hh h1 h2
      exact ⟨env', h3, h4, .agg us h5⟩
    · cases h
  · exact letGo_spec hh h hr

/-- Values, one by one. -/
def RepVs (O : Nat → Prop) (env : List Wit) (w : World) (C : Enc A) (ss : List (SV A)) (vs : List Value) : Prop :=
  ss.length = vs.length ∧ ∀ (j : Nat) s, ss[j]? = some s → ∃ v, vs[j]? = some v ∧ Rep O env w C s v

theorem decAll_spec {E : Eng A} {t : Nat} (hsz : tsize E.P t = E.C.size t) : ∀ {ss : List (SV A)} {sh : List (SO A)} {env : List Wit} {vs : List Value} {K : List (A t) → List (SO A) → Prop},
    HR O env w E.C sh → RepVs O env w E.C ss vs → decAll E t sh ss K → (∀ t y, (E.C.enc t y).len = E.C.size t) →
    ∃ ys sh' env', HR O env' w E.C sh' ∧ Step env w env' w ∧ ys.length = vs.length ∧ (∀ v ∈ vs, v.cells.size = E.C.size t) ∧ Rows O env' w E.C t ys (vs.flatMap fun v => v.cells.toList) ∧ K ys sh'
  | [], sh, env, [], K, hh, hv, h, _ => by
    simp only [decAll] at h
    exact ⟨[], sh, env, hh, Step.refl _ _, rfl, by simp, ⟨by simp, fun j x hj => by simp at hj⟩, h⟩
  | [], sh, env, _ :: _, K, hh, hv, h, _ => by have := hv.1; simp at this
  | s :: ss, sh, env, [], K, hh, hv, h, _ => by have := hv.1; simp at this
  | s :: ss, sh, env, v :: vs, K, hh, hv, h, hlen => by
    simp only [decAll] at h
    split at h
    · rename_i s' sh1 h1
      split at h
      · rename_i cs h2
        split at h
        · rename_i y h3
          obtain ⟨h4, h5⟩ := h
          obtain ⟨v', hv', hr⟩ := hv.2 0 s rfl
          simp only [List.getElem?_cons_zero, Option.some.injEq] at hv'
          subst hv'
          obtain ⟨env1, h6, h7, h8⟩ := letGoV_spec hh h1 hr
          obtain ⟨h9, _⟩ := rep_toSL h6 h2 h8
          have h10 := eqvL_rep h4 h9
          obtain ⟨ys, sh2, env2, h11, h12, h13, h14, h15, h16⟩ := decAll_spec hsz (t := t) (K := fun ys sh2 => K (y :: ys) sh2) h6 (vs := vs) ⟨by have := hv.1; simpa using this, fun j s hj => by
            obtain ⟨v, h17, h18⟩ := hv.2 (j + 1) s (by simpa using hj)
            exact ⟨v, by simpa using h17, h18.step h7⟩⟩ h5 hlen
          have hcl : v.cells.size = E.C.size t := by
            have := h10.length
            rw [hlen] at this
            simpa using this
          refine ⟨y :: ys, sh2, env2, h11, h7.trans h12, by simp [h13], ?_, ?_, h16⟩
          · intro u hu
            rcases List.mem_cons.1 hu with e | hu
            · rw [e]; exact hcl
            · exact h14 u hu
          · have hone : Rows O env2 w E.C t [y] v.cells.toList := ⟨by simp [hcl], fun j x hj => by
              cases j with
              | zero =>
                simp only [List.getElem?_cons_zero, Option.some.injEq] at hj
                subst hj
                rw [Nat.zero_mul, List.drop_zero, List.take_of_length_le (by simp [hcl])]
                exact h10.step h12
              | succ j => simp at hj⟩
            exact hone.append h15
        · exact h.elim
      · exact h.elim
    · exact h.elim

theorem intAll_spec {k : IntKind} : ∀ {ss : List (SV A)} {ns : List Int} {vs : List Value}, intAll k ss = some ns → RepVs O env w C ss vs → vs = ns.map (Value.int k)
  | [], ns, vs, h, hv => by
    simp only [intAll, Option.some.injEq] at h
    subst h
    have := hv.1
    exact List.eq_nil_of_length_eq_zero (by simpa using this.symm)
  | s :: ss, ns, [], h, hv => by have := hv.1; simp at this
  | s :: ss, ns, v :: vs, h, hv => by
    simp only [intAll] at h
    split at h
    · rename_i k' n l ns' h1 h2
      split at h
      · rename_i hk
        cases h
        subst hk
        obtain ⟨v', hv', hr⟩ := hv.2 0 s rfl
        simp only [List.getElem?_cons_zero, Option.some.injEq] at hv'
        subst hv'
        rw [rep_asInt h1 hr, intAll_spec h2 (vs := vs) ⟨by have := hv.1; simpa using this, fun j s hj => by
          obtain ⟨v, h17, h18⟩ := hv.2 (j + 1) s (by simpa using hj)
          exact ⟨v, by simpa using h17, h18⟩⟩]
        rfl
      · cases h
    · cases h

/-- Parts that come in order, and fill all. -/
theorem fill_dense {size : Nat} : ∀ (vs : List Value) (k : Nat) (cells : Array Value), (∀ v ∈ vs, v.cells.size = size) → (k + vs.length) * size ≤ cells.size →
    ∃ cells', Instr.fill (fun i => some (i * size, size)) cells ((vs.zipIdx k).map fun x => (x.2, x.1)) = some cells' ∧
      cells'.toList = cells.toList.take (k * size) ++ ((vs.flatMap fun v => v.cells.toList) ++ cells.toList.drop ((k + vs.length) * size))
  | [], k, cells, _, _ => ⟨cells, rfl, by simp⟩
  | v :: vs, k, cells, hs, hfit => by
    have hv := hs v (List.mem_cons_self)
    have hfit1 : k * size + v.cells.toList.length ≤ cells.size := by
      simp only [Array.length_toList, hv]
      rw [← Nat.succ_mul]
      exact Nat.le_trans (Nat.mul_le_mul_right _ (by simp)) hfit
    have hfp := foldl_put v.cells.toList (k * size) cells hfit1
    have ih := fill_dense (size := size) vs (k + 1) ((v.cells.toList.zipIdx 0).foldl (fun cs (x : Value × Nat) => cs.setIfInBounds (k * size + x.2) x.1) cells) (fun u hu => hs u (List.mem_cons_of_mem _ hu)) (by
      have h1 : ((v.cells.toList.zipIdx 0).foldl (fun cs (x : Value × Nat) => cs.setIfInBounds (k * size + x.2) x.1) cells).size = cells.size := by
        rw [← Array.length_toList, hfp]
        simp only [List.length_append, List.length_take, List.length_drop, Array.length_toList] at hfit1 ⊢
        omega
      rw [h1]
      have : k + 1 + vs.length = k + (v :: vs).length := by simp; omega
      rw [this]; exact hfit)
    obtain ⟨cells', h1, h2⟩ := ih
    refine ⟨cells', ?_, ?_⟩
    · simp only [List.zipIdx_cons, List.map_cons, Instr.fill]
      rw [if_neg (by simp only [Array.length_toList] at hfit1; simp; omega)]
      rw [← h1]
      congr 1
      rw [← Array.foldl_toList, Array.toList_zipIdx]
    · rw [h2, hfp]
      simp only [Array.length_toList, hv]
      have hks : k * size ≤ cells.size := by simp only [Array.length_toList, hv] at hfit1; omega
      have hlen : (cells.toList.take (k * size)).length = k * size := by simp; omega
      rw [Nat.succ_mul]
      rw [List.take_append, List.take_of_length_le (l := cells.toList.take (k * size)) (by omega), hlen, Nat.add_sub_cancel_left]
      rw [List.take_append_of_le_length (by simp [hv]), List.take_of_length_le (l := v.cells.toList) (by simp [hv])]
      rw [List.drop_append, List.drop_of_length_le (l := cells.toList.take (k * size)) (by rw [hlen]; exact Nat.mul_le_mul_right _ (by omega)), List.nil_append, hlen]
      rw [List.drop_append, List.drop_of_length_le (l := v.cells.toList) (by
        simp only [Array.length_toList, hv]
        rw [← Nat.sub_mul]
        have : 1 ≤ k + 1 + vs.length - k := by omega
        calc size = 1 * size := by simp
          _ ≤ _ := Nat.mul_le_mul_right _ this), List.nil_append]
      rw [List.drop_drop]
      simp only [List.flatMap_cons, List.append_assoc]
      congr 3
      congr 1
      simp only [Array.length_toList, hv, List.length_cons]
      rw [← Nat.sub_mul]
      have e1 : k + 1 + vs.length - k = 1 + vs.length := by omega
      rw [e1, Nat.add_mul 1, Nat.one_mul, Nat.add_sub_cancel_left]
      simp only [Nat.add_mul, Nat.one_mul]
      omega

theorem partsInOrder_spec : ∀ {l : List (Nat × SV A)} {k : Nat} {r : List (SV A)}, partsInOrder k l = some r → r = l.map (·.2) ∧ ∀ (j : Nat) p, l[j]? = some p → p.1 = k + j
  | [], k, r, h => by
    simp only [partsInOrder, Option.some.injEq] at h
    exact ⟨h.symm, fun j p hj => by simp at hj⟩
  | (i, s) :: l, k, r, h => by
    simp only [partsInOrder] at h
    split at h
    · rename_i hi
      split at h
      · rename_i r' hr'
        cases h
        obtain ⟨h1, h2⟩ := partsInOrder_spec hr'
        refine ⟨by rw [h1]; rfl, fun j p hj => ?_⟩
        cases j with
        | zero => simp at hj; rw [← hj]; exact hi
        | succ j => have := h2 j p (by simpa using hj); omega
      · cases h
    · cases h

/-- The values of parts that come in order. -/
theorem parts_values {E : Eng A} {ts : List (SV A)} {a : Act} {ps : List (Nat × Operand)} (h : Rel E O ts sh env a w) {r : List (SV A)} (hp : partsInOrder 0 (ps.map fun p => (p.1, evr E ts sh p.2)) = some r) :
    RepVs O env w E.C r (ps.map fun p => a.eval p.2) ∧ (ps.map fun p => (p.1, a.eval p.2)) = ((ps.map fun p => a.eval p.2).zipIdx 0).map fun x => (x.2, x.1) := by
  obtain ⟨h1, h2⟩ := partsInOrder_spec hp
  constructor
  · subst h1
    refine ⟨by simp, fun j s hj => ?_⟩
    simp only [List.map_map, List.getElem?_map] at hj ⊢
    cases hq : ps[j]? with
    | none => rw [hq] at hj; cases hj
    | some q =>
      rw [hq] at hj
      simp only [Option.map_some, Option.some.injEq, Function.comp] at hj
      subst hj
      exact ⟨_, rfl, evr_rep h q.2⟩
  · apply List.ext_getElem?
    intro j
    simp only [List.getElem?_map, List.getElem?_zipIdx]
    cases hq : ps[j]? with
    | none => rfl
    | some q =>
      have := h2 j (q.1, evr E ts sh q.2) (by simp [hq])
      simp only [Nat.zero_add] at this
      simp [this]
end

section
variable {E : Eng A} {O : Nat → Prop} {ts : List (SV A)} {sh : List (SO A)} {env : List Wit} {a : Act} {w : World} {o : Oper} {K : Pred A}

theorem mapParts (ps : Array (Nat × Operand)) (a : Act) : ps.map (fun p => (p.1, a.eval p.2)) = (ps.toList.map fun p => (p.1, a.eval p.2)).toArray := by
  rw [← Array.toList_map, Array.toArray_toList]

theorem run_buildSlice_dense {t e : TypeId} {z : SL A} {n : Nat} {ps : Array (Nat × Operand)} {r : List (SV A)} (hd : desc E.P t = .slice e) (hz : tyZero E.P e = some z) (_hzl : z.len = tsize E.P e) (hne : tsize E.P e ≠ 0)
    (h : Rel E O ts sh env a w) (hp : partsInOrder 0 (ps.toList.map fun p => (p.1, evr E ts sh p.2)) = some r) (hn : r.length = n) (hfit : n * tsize E.P e ≤ 65536)
    (hsz : ∀ v ∈ ps.toList.map (fun p => a.eval p.2), v.cells.size = tsize E.P e) :
    (Instr.buildSlice t n (ps.map fun p => (p.1, a.eval p.2))).run E.P w = .ok (.slice (some ⟨w.heap.size, 0, none⟩) n n) (w.alloc (.cells ((ps.toList.map fun p => a.eval p.2).flatMap fun v => v.cells.toList).toArray e)) := by
  have hu := under_of_desc hd (by simp)
  obtain ⟨i, zv, hi, hiz, hr⟩ := tyZero_spec hz
  obtain ⟨hv, hpe⟩ := parts_values h hp
  have hsize : i.size = tsize E.P e := by simp [tsize, hi]
  have hlen : (ps.toList.map fun p => a.eval p.2).length = n := by rw [← hn]; exact hv.1.symm
  have hfd := fun cells hc => fill_dense (size := tsize E.P e) (ps.toList.map fun p => a.eval p.2) 0 cells hsz hc
  rw [← hpe] at hfd
  simp only [Instr.buildSlice, Sem.run_bind, run_underlying hu, Result.andThen_ok, sizeOf, typeInfo, mapParts]
  have h24 : ¬ (n * i.size > 2 ^ 24) := by rw [hsize]; omega
  by_cases h0 : n * i.size = 0
  · have hn0 : n = 0 := by
      rcases Nat.mul_eq_zero.1 h0 with h1 | h1
      · exact h1
      · omega
    subst hn0
    have hps : ps.toList.map (fun p => a.eval p.2) = [] := List.eq_nil_of_length_eq_zero hlen
    have hps2 : ps.toList.map (fun p => (p.1, a.eval p.2)) = [] := by rw [hpe, hps]; rfl
    rw [hps, hps2]
    have e0 : Array.range 0 = #[] := rfl
    simp [hi, Instr.fill, newRow, e0]
  · obtain ⟨cells', h1, h2⟩ := hfd ((Array.range (n * i.size)).map (zv.cells[· % zv.cells.size]!)) (by simp [hsize, hlen])
    have hcl : cells' = ((ps.toList.map fun p => a.eval p.2).flatMap fun v => v.cells.toList).toArray := by
      apply Array.toList_inj.1
      rw [h2, Nat.zero_mul, List.take_zero, List.nil_append, List.drop_of_length_le (by simp [hsize, hlen]), List.append_nil]
    rw [hcl, ← hsize] at h1
    simp [hi, h24, h0, zeroValue, typeInfo, hiz, h1, newRow]

theorem op_buildSlice {t : TypeId} {n : Nat} {ps : Array (Nat × Operand)} (ho : o.op = .buildSlice t n ps) (h : Rel E O ts sh env a w) (hk : buildSliceS E t n (ps.toList.map fun p => (p.1, evr E ts sh p.2)) sh K) : OpOK E O o sh env a w K := by
  unfold buildSliceS at hk
  split at hk
  case h_2 => exact hk.elim
  rename_i e hd
  split at hk
  · exact hk.elim
  · rename_i z hz
    split at hk
    case isFalse => exact hk.elim
    rename_i hzl
    split at hk
    case h_2 => exact hk.elim
    rename_i r hp
    split at hk
    case isFalse => exact hk.elim
    rename_i hn
    rw [cnt_eq] at hn
    split at hk
    case isFalse => exact hk.elim
    rename_i hfit
    obtain ⟨hv, _⟩ := parts_values h hp
    have hvl : (ps.toList.map fun p => a.eval p.2).length = n := by rw [← hn]; exact hv.1.symm
    have big : n ≤ maxLen ∨ tsize E.P e = 0 := by
      rcases Nat.eq_zero_or_pos (tsize E.P e) with h1 | h1
      · exact .inr h1
      · left
        simp only [maxLen]
        have := Nat.le_mul_of_pos_right n h1
        omega
    split at hk
    · rename_i k hk0
      split at hk
      case isFalse => exact hk.elim
      rename_i hs1
      split at hk
      case h_2 => exact hk.elim
      rename_i ns hns
      have hvs := intAll_spec hns hv
      have hrun := run_buildSlice_dense hd hz hzl (by omega) h hp hn hfit (by rw [hvs, hs1]; intro v hv; obtain ⟨y, _, rfl⟩ := List.mem_map.1 hv; rfl)
      rw [hvs] at hrun hvl
      have hfm : ((ns.map (Value.int k)).flatMap fun v => v.cells.toList) = ns.map (Value.int k) := by
        clear hrun hvl hvs hns hk
        induction ns with
        | nil => rfl
        | cons x l ih => simp only [List.map_cons, List.flatMap_cons, ih]; rfl
      rw [hfm] at hrun
      have hnl : ns.length = n := by simpa using hvl
      obtain ⟨h3, h4, h5⟩ := vec_push h.heap (v' := .slice (some ⟨w.heap.size, 0, none⟩) n n) (World.grownBy_alloc w (.cells (ns.map (Value.int k)).toArray e) none) (.inr rfl) (fun b hb => by
        simp only [Value.ownBlock, Option.some.injEq] at hb; simp [← hb]) (.ivec e k ns) (fun _ => by
        refine ⟨by simp, .inr ⟨w.heap.size, n, _, by rw [hnl], Nat.zero_le _, heap_alloc_new w _, by omega, by rcases big with h | h <;> omega, by simp [hnl], by
          simp only [Nat.mul_one]
          exact List.take_of_length_le (by simp)⟩⟩)
      rw [snoc_eq] at hk
      exact opOK_of_run (v := .slice (some ⟨w.heap.size, 0, none⟩) n n) (by simp only [execOp, ho]; simp [hrun]) h5 h3 h4 (fun _ => Old.alloc _ _) hk
    · split at hk
      case isFalse => exact hk.elim
      rename_i hsz
      split at hk
      · exact hk.elim
      · rename_i hne
        obtain ⟨ys, sh1, env1, h6, h7, h8, h9, h10, h11⟩ := decAll_spec hsz h.heap hv hk E.encLen
        have hrun := run_buildSlice_dense hd hz hzl hne h hp hn hfit (by rw [hsz]; exact h9)
        have hyl : ys.length = n := by rw [h8]; exact hvl
        obtain ⟨h3, h4, h5⟩ := vec_push h6 (v' := .slice (some ⟨w.heap.size, 0, none⟩) n n) (World.grownBy_alloc w (.cells ((ps.toList.map fun p => a.eval p.2).flatMap fun v => v.cells.toList).toArray e) none) (.inr rfl) (fun b hb => by
          simp only [Value.ownBlock, Option.some.injEq] at hb; simp [← hb]) (.svec e ys) (fun hs => by
          have hl := h10.1
          refine ⟨_, ⟨hl, .inr ⟨w.heap.size, n, _, by rw [hyl], Nat.zero_le _, heap_alloc_new w _, by omega, by rcases big with h | h <;> omega, ?_, ?_⟩⟩, (h10.step hs).2⟩
          · rw [List.size_toArray, hl, hyl]
          · rw [← hl, List.take_of_length_le (by simp)])
        rw [snoc_eq] at h11
        exact opOK_of_run (v := .slice (some ⟨w.heap.size, 0, none⟩) n n) (by simp only [execOp, ho]; simp [hrun]) h5 h3 (h7.trans h4) (fun _ => Old.alloc _ _) h11

/-- An array of integers, written out whole. -/
theorem op_build {t : TypeId} {ps : Array (Nat × Operand)} (ho : o.op = .build t ps) (h : Rel E O ts sh env a w) (hk : buildS E t (ps.toList.map fun p => (p.1, evr E ts sh p.2)) sh fun v => K v sh) : OpOK E O o sh env a w K := by
  unfold buildS at hk
  split at hk
  · rename_i cs hcs
    split at hcs
    · rename_i n e hd
      split at hcs
      · rename_i k hk0
        split at hcs
        · cases hcs
        · rename_i hnn
          split at hcs
          · rename_i ns hns
            split at hcs
            · rename_i hok
              cases hcs
              unfold intsParts at hns
              split at hns
              · rename_i r hp
                split at hns
                · rename_i hn
                  rw [cnt_eq] at hn
                  obtain ⟨hv, hpe⟩ := parts_values h hp
                  have hvs := intAll_spec hns hv
                  obtain ⟨hs1, z, hz, hzl⟩ := zeroOk_spec hok
                  obtain ⟨i, zv, hi, hiz, hr⟩ := tyZero_spec hz
                  have hu := under_of_desc hd (by simp)
                  obtain ⟨ei, hei, hes⟩ := info_of_tsize (P := E.P) hs1 (by omega)
                  have hnl : ns.length = n := by
                    have := hv.1
                    rw [hvs] at this
                    simp at this; omega
                  have hzs : zv.cells.size = n := by
                    have := (hr (fun _ => False) [] w E.C).length
                    rw [hzl] at this; simpa using this
                  obtain ⟨cells', h1, h2⟩ := fill_dense (size := 1) (ps.toList.map fun p => a.eval p.2) 0 zv.cells (by rw [hvs]; intro v hv; obtain ⟨y, _, rfl⟩ := List.mem_map.1 hv; rfl) (by rw [hvs]; simp [hzs, hnl])
                  rw [← hpe] at h1
                  have hfm : ((ns.map (Value.int k)).flatMap fun v => v.cells.toList) = ns.map (Value.int k) := by
                    clear hvs hns hk hnl h1 h2
                    induction ns with
                    | nil => rfl
                    | cons x l ih => simp only [List.map_cons, List.flatMap_cons, ih]; rfl
                  rw [hvs, hfm, Nat.zero_mul, List.take_zero, List.nil_append, List.drop_of_length_le (by simp [hzs, hnl]), List.append_nil] at h2
                  have hrl := Rep.agg (O := O) (env := env) (w := w) (C := E.C) _ (RepL.run (k := k) (n := n) (xs := ns) hnl RepL.nil)
                  rw [List.append_nil, ← h2, Array.toArray_toList] at hrl
                  refine opOK_same (v := .agg cells') ?_ hrl h hk
                  have hz0 : (zeroValue t).run E.P w = .ok zv w := by simp [zeroValue, typeInfo, hi, hiz]
                  have hso : (sizeOf e).run E.P w = .ok 1 w := by simp [sizeOf, typeInfo, hei, hes]
                  simp only [execOp, ho, Sem.run_bind, Instr.build, hz0, Result.andThen_ok, run_underlying hu, hso, mapParts, h1, Sem.run_pure]
                · cases hns
              · cases hns
            · cases hcs
          · cases hcs
      · cases hcs
    · cases hcs
  · split at hk
    · rename_i hok
      split at hk
      · rename_i z hz
        split at hk
        · rename_i cs hf
          obtain ⟨cells', h1, h2⟩ := run_fill h hok hz hf
          refine opOK_same (v := .agg cells') (by simp only [execOp, ho]; simp [h1]) (by have := Rep.agg (O := O) (env := env) (w := w) (C := E.C) _ h2; simpa using this) h hk
        · exact hk.elim
      · exact hk.elim
    · exact hk.elim
end
end Go.Eng
