/- The engine's operations are right: lengths, slices, equality. Conditions: none. -/
import Derived.Test.YtcglahfmnoghjaaDoorE12
import Derived.Maps.AppendAt
namespace Go.Eng
open Go
variable {A : Nat → Type}

theorem get_set_ro {env : List Wit} {u : Value} {i j : Nat} {x : Wit} (h : (env.set i (.ro u))[j]? = some x) : (j = i ∧ x = .ro u) ∨ (j ≠ i ∧ env[j]? = some x) := by
  by_cases e : i = j
  · subst e
    have hl : i < env.length := by have := (List.getElem?_eq_some_iff.1 h).1; simpa using this
    rw [List.getElem?_set_self hl] at h
    cases h; exact .inl ⟨rfl, rfl⟩
  · rw [List.getElem?_set_ne e] at h
    exact .inr ⟨fun e' => e e'.symm, h⟩
theorem owned_set_ro {env : List Wit} {u : Value} {i b : Nat} (h : owned (env.set i (.ro u)) b) : owned env b := by
  obtain ⟨j, x, hj, ho⟩ := h
  rcases get_set_ro hj with ⟨_, rfl⟩ | ⟨_, h1⟩
  · exact ho.elim
  · exact ⟨j, x, h1, ho⟩
theorem Step.freeze {env : List Wit} {w : World} {i : Nat} {u : Value} (hi : env[i]? = some (.sl u)) : Step env w (env.set i (.ro u)) w := by
  refine ⟨rfl, rfl, rfl, Nat.le_refl _, by simp, fun j x hj => ?_, fun b hb => .inl (owned_set_ro hb), fun _ _ _ => rfl⟩
  by_cases e : i = j
  · subst e
    rw [hi] at hj; cases hj
    have hl : i < env.length := (List.getElem?_eq_some_iff.1 hi).1
    rw [List.getElem?_set_self hl]; exact ⟨_, rfl, .inr (.inr ⟨u, rfl, rfl⟩)⟩
  · rw [List.getElem?_set_ne e]; exact ⟨_, hj, .refl _⟩
theorem HR.freeze {O : Nat → Prop} {env : List Wit} {w : World} {C : Enc A} {sh : List (SO A)} (h : HR O env w C sh) {i : Nat} {u : Value} {s : SV A} (hi : env[i]? = some (.sl u))
    (hr : Rep O (env.set i (.ro u)) w C s u) : HR O (env.set i (.ro u)) w C (sh.set i (.fr s)) where
  len := by simp [h.len]
  rep := fun j so x h1 h2 => by
    rcases get_set_ro h2 with ⟨rfl, rfl⟩ | ⟨hne, h3⟩
    · have hl : j < sh.length := by have := (List.getElem?_eq_some_iff.1 h1).1; simpa using this
      rw [List.getElem?_set_self hl] at h1
      cases h1; exact hr
    · rw [List.getElem?_set_ne (Ne.symm hne)] at h1
      exact (h.rep j so x h1 h3).step (Step.freeze hi) (fun _ _ => rfl)
  disj := fun p q x y b h1 h2 hx hy => by
    rcases get_set_ro h1 with ⟨_, rfl⟩ | ⟨_, h1⟩
    · exact hx.elim
    · rcases get_set_ro h2 with ⟨_, rfl⟩ | ⟨_, h2⟩
      · exact hy.elim
      · exact h.disj p q x y b h1 h2 hx hy
  out := fun b hb => h.out b (owned_set_ro hb)
  lt := fun b hb => h.lt b (owned_set_ro hb)
  olt := h.olt
theorem HR.freezeI {O : Nat → Prop} {env : List Wit} {w : World} {C : Enc A} {sh : List (SO A)} (hh : HR O env w C sh) {i : Nat} {e : TypeId} {k : IntKind} {xs : List Int} (hi : nth sh i = some (.ivec e k xs)) :
    ∃ u, env[i]? = some (.sl u) ∧ HR O (env.set i (.ro u)) w C (setNth sh i (.fr (.rints k xs))) ∧ Step env w (env.set i (.ro u)) w ∧ Rep O (env.set i (.ro u)) w C (.rints k xs) u := by
  obtain ⟨u, hb, hown⟩ := hh.ivec hi
  have hr : Rep O (env.set i (.ro u)) w C (.rints k xs) u := by
    rcases hown.2 with ⟨h6, h7⟩ | ⟨g, cap, cur, h6, h7, h8, h9, h10, h11, h12⟩
    · have : xs = [] := List.eq_nil_of_length_eq_zero h7
      subst this
      rw [h6]
      exact .rints (xs := []) none 0 (Nat.le_refl _) (by simp [maxLen]) (.inl rfl)
    · subst h6
      refine .rints _ _ h9 h10 (.inr ⟨g, 0, rfl, hh.out g ⟨i, _, hb, by simp [Wit.owns, Value.ownBlock]⟩, fun h13 => ?_, fun j u hu => by rw [Nat.zero_add]; exact own_cell hown j u hu⟩)
      obtain ⟨j, x, hj, hxo⟩ := h13
      rcases get_set_ro hj with ⟨_, rfl⟩ | ⟨hne', h14⟩
      · exact hxo
      · exact hne' (hh.disj j i x _ g h14 hb hxo (by simp [Wit.owns, Value.ownBlock]))
  exact ⟨u, hb, by rw [setNth_eq]; exact hh.freeze hb hr, Step.freeze hb, hr⟩
theorem HR.freezeS {O : Nat → Prop} {env : List Wit} {w : World} {C : Enc A} {sh : List (SO A)} (hh : HR O env w C sh) {i : Nat} {e : TypeId} {xs : List (A e)} (hi : nth sh i = some (.svec e xs)) :
    ∃ u, env[i]? = some (.sl u) ∧ HR O (env.set i (.ro u)) w C (setNth sh i (.fr (.rseq e xs))) ∧ Step env w (env.set i (.ro u)) w ∧ Rep O (env.set i (.ro u)) w C (.rseq e xs) u := by
  obtain ⟨u, vs, hb, hown, hrows⟩ := hh.svec hi
  have hrows' : ∀ (j : Nat) (x : A e), xs[j]? = some x → RepL O (env.set i (.ro u)) w C (C.enc e x) ((vs.drop (j * C.size e)).take (C.size e)) := fun j x hj => (hrows j x hj).step (Step.freeze hb)
  have hr : Rep O (env.set i (.ro u)) w C (.rseq e xs) u := by
    rcases hown.2 with ⟨h6, h7⟩ | ⟨g, cap, cur, h6, h7, h8, h9, h10, h11, h12⟩
    · have hl := hown.1
      rw [h7] at hl
      have : xs = [] := List.eq_nil_of_length_eq_zero h7
      subst this
      have hvs : vs = [] := List.eq_nil_of_length_eq_zero (by simpa using hl)
      subst hvs
      rw [h6] at hrows' ⊢
      exact .rseq (xs := []) none 0 [] (Nat.le_refl _) (by simp [maxLen]) (by simp) (.inl rfl) hrows'
    · subst h6
      refine .rseq _ _ vs h9 h10 hown.1 (.inr ⟨g, 0, rfl, hh.out g ⟨i, _, hb, by simp [Wit.owns, Value.ownBlock]⟩, fun h13 => ?_, fun j u hu => by rw [Nat.zero_add]; exact own_cell hown j u hu⟩) hrows'
      obtain ⟨j, x, hj, hxo⟩ := h13
      rcases get_set_ro hj with ⟨_, rfl⟩ | ⟨hne', h14⟩
      · exact hxo
      · exact hne' (hh.disj j i x _ g h14 hb hxo (by simp [Wit.owns, Value.ownBlock]))
  exact ⟨u, hb, by rw [setNth_eq]; exact hh.freeze hb hr, Step.freeze hb, hr⟩

section
variable {E : Eng A} {O : Nat → Prop} {ts : List (SV A)} {sh : List (SO A)} {env : List Wit} {a : Act} {w : World} {o : Oper} {K : Pred A} {C : Enc A}

theorem own_len {e : TypeId} {size n : Nat} {v : Value} {vs : List Value} (h : w.ownsRow 0 e size v n vs) : ∃ ad c, v = .slice ad n c ∧ n ≤ c ∧ c ≤ maxLen := by
  rcases h.2 with ⟨h1, h2⟩ | ⟨g, cap, cur, h1, _, _, h2, h3, _⟩
  · exact ⟨none, 0, by rw [h1, h2], by omega, by simp [maxLen]⟩
  · exact ⟨_, cap, h1, h2, h3⟩

/-- A slice's length. -/
theorem lenS_slice {s : SV A} {v : Value} {n : Int} {l : Bool} (hh : HR O env w C sh) (hl : lenS sh s = some (n, l)) (h : Rep O env w C s v) :
    (∃ ad m c, v = .slice ad m c ∧ n = (m : Nat) ∧ m ≤ c ∧ c ≤ maxLen) ∨ ∃ str, s = .val (.string str) ∧ v = .string str ∧ n = (str.size : Nat) := by
  unfold lenS at hl
  split at hl
  · cases hl
    obtain ⟨ad, c, hv, h1, h2, _⟩ := h.inv_rints
    exact .inl ⟨_, _, _, hv, rfl, h1, h2⟩
  · cases hl
    obtain ⟨ad, c, vs, hv, h1, h2, _⟩ := h.inv_rseq
    exact .inl ⟨_, _, _, hv, rfl, h1, h2⟩
  · split at hl
    · rename_i hi
      cases hl
      obtain ⟨u, hb, ho⟩ := hh.ivec hi
      have hv := slAt_some h.inv_vec hb
      obtain ⟨ad, c, h1, h2, h3⟩ := own_len ho
      exact .inl ⟨_, _, _, by rw [hv, h1], rfl, h2, h3⟩
    · rename_i hi
      cases hl
      obtain ⟨u, _, hb, ho, _⟩ := hh.svec hi
      have hv := slAt_some h.inv_vec hb
      obtain ⟨ad, c, h1, h2, h3⟩ := own_len ho
      exact .inl ⟨_, _, _, by rw [hv, h1], rfl, h2, h3⟩
    · cases hl
  · rename_i i off n'
    split at hl
    · rename_i hal
      cases hl
      obtain ⟨b, hb, c, hv, h1, h2⟩ := live_ptr hh hal h.inv_asl
      exact .inl ⟨_, _, _, hv, rfl, h1, h2⟩
    · cases hl
  · cases hl
    exact .inl ⟨_, _, _, h.inv_val, rfl, Nat.le_refl _, by simp [maxLen]⟩
  · cases hl
    exact .inr ⟨_, rfl, h.inv_val, rfl⟩
  · cases hl

theorem run_sliceBounds {len c : Nat} {lv hv : Option Value} {l h : Int} (hl : (lv = none ∧ l = 0) ∨ ∃ k, lv = some (.int k l)) (hh : (hv = none ∧ h = (len : Nat)) ∨ ∃ k, hv = some (.int k h))
    (h0 : 0 ≤ l) (h1 : l ≤ h) (h2 : h ≤ (len : Nat)) (hc : len ≤ c) : (Instr.sliceBounds true len c lv hv none).run E.P w = .ok (l.toNat, h.toNat, c) w := by
  rcases hl with ⟨rfl, rfl⟩ | ⟨k1, rfl⟩ <;> rcases hh with ⟨rfl, rfl⟩ | ⟨k2, rfl⟩
  · simp [Instr.sliceBounds]
  · have : h ≤ (c : Nat) := by omega
    simp [Instr.sliceBounds, Instr.sliceBound, Go.asIntOf, h1, this]
  · simp [Instr.sliceBounds, Instr.sliceBound, Go.asIntOf, h0, h1]
  · have h3 : h ≤ (c : Nat) := by omega
    have h4 : 0 ≤ h := by omega
    have h5 : l ≤ h := h1
    simp only [Instr.sliceBounds, Instr.sliceBound, Go.asIntOf]
    simp [h0, h3, h4]
    omega

theorem bound_rep {x : Option Operand} {d i : Int} (h : Rel E O ts sh env a w) (hb : boundS (evr E ts sh) x d = some i) : (x.map a.eval = none ∧ i = d) ∨ ∃ k, x.map a.eval = some (.int k i) := by
  unfold boundS at hb
  split at hb
  · cases hb; exact .inl ⟨rfl, rfl⟩
  · rename_i o
    split at hb
    · rename_i k i' l hi
      cases hb
      exact .inr ⟨k, by rw [Option.map_some, rep_asInt hi (evr_rep h o)]⟩
    · cases hb

theorem run_slice_slice {t e : TypeId} {ad : Option Addr} {len c : Nat} {lv hv : Option Value} {l h : Int} (hd : desc E.P t = .slice e) (hne : tsize E.P e ≠ 0)
    (hl : (lv = none ∧ l = 0) ∨ ∃ k, lv = some (.int k l)) (hh : (hv = none ∧ h = (len : Nat)) ∨ ∃ k, hv = some (.int k h)) (h0 : 0 ≤ l) (h1 : l ≤ h) (h2 : h ≤ (len : Nat)) (hc : len ≤ c) :
    (Instr.sliceAt t (.slice ad len c) lv hv none).run E.P w = .ok (.slice (if c = l.toNat then ad else ad.map (·.add (l.toNat * tsize E.P e))) (h.toNat - l.toNat) (c - l.toNat)) w := by
  have hu := under_of_desc hd (by simp)
  obtain ⟨x, hi, hsz⟩ := info_of_tsize (P := E.P) (t := e) rfl hne
  have hb := run_sliceBounds (E := E) (w := w) hl hh h0 h1 h2 hc
  simp only [Instr.sliceAt, Sem.run_bind, run_underlying hu, Result.andThen_ok, Instr.slice, hb, sizeOf, typeInfo]
  simp [hi, hsz]

theorem ROat.slice {ad : Option Addr} {vs : List Value} {c l h size : Nat} (hr : ROat O env w ad vs) (hlc : vs.length ≤ c * size) (hl : l ≤ h) (_hsz : 0 < size) :
    ROat O env w (if c = l then ad else ad.map (·.add (l * size))) ((vs.take (h * size)).drop (l * size)) := by
  rcases hr with hr | ⟨b, o', had, hO, he, hc⟩
  · exact .inl (by simp [hr])
  · split
    · rename_i hcl
      refine .inl ?_
      apply List.drop_of_length_le
      rw [List.length_take]
      subst hcl
      omega
    · refine .inr ⟨b, o' + l * size, by rw [had, Option.map_some, Addr.add_lit], hO, he, fun j u hu => ?_⟩
      rw [List.getElem?_drop, List.getElem?_take] at hu
      split at hu
      · rw [Nat.add_assoc]; exact hc _ u hu
      · cases hu

theorem op_slice {t : TypeId} {x : Operand} {lo hi mx : Option Operand} (ho : o.op = .slice t x lo hi mx) (h : Rel E O ts sh env a w) (hk : sliceS E (evr E ts sh) t x lo hi mx sh K) : OpOK E O o sh env a w K := by
  have hx := evr_rep h x
  have key : ∀ (v : Value) (s : SV A) (sh' : List (SO A)) (env' : List Wit), (Instr.sliceAt t (a.eval x) (lo.map a.eval) (hi.map a.eval) (mx.map a.eval)).run E.P w = .ok v w → Rep O env' w E.C s v → HR O env' w E.C sh' → Step env w env' w → K s sh' → OpOK E O o sh env a w K := by
    intro v s sh' env' hrun hr hh hs hK
    exact opOK_of_run (v := v) (by simp only [execOp, ho]; simp [hrun]) hr hh hs (fun _ => Old.refl _) hK
  unfold sliceS at hk
  split at hk
  · exact hk.elim
  · split at hk
    · rename_i e hd
      split at hk
      · exact hk.elim
      · rename_i hne
        split at hk
        · exact hk.elim
        · rename_i n l0 hlen
          split at hk
          · rename_i l h' hbl hbh
            have hl := bound_rep h hbl
            have hh := bound_rep h hbh
            split at hk
            · rename_i k xs e1
              rw [e1] at hx hlen
              simp only [lenS, Option.some.injEq, Prod.mk.injEq] at hlen
              obtain ⟨hn, _⟩ := hlen
              split at hk
              · rename_i hsz
                obtain ⟨h0, h1, h2, hK⟩ := hk
                obtain ⟨ad, c, hv, h3, h4, h5⟩ := hx.inv_rints
                rw [hv] at key
                have hrun := run_slice_slice (E := E) (w := w) (ad := ad) (c := c) hd hne hl (by rw [hn]; exact hh) h0 h1 (by rw [hn]; exact h2) h3
                refine key _ _ _ _ hrun ?_ h.heap (Step.refl _ _) hK
                have hlen2 : ((xs.take h'.toNat).drop l.toNat).length = h'.toNat - l.toNat := by simp; omega
                have := Rep.rints (O := O) (env := env) (w := w) (C := E.C) (k := k) (xs := (xs.take h'.toNat).drop l.toNat) (if c = l.toNat then ad else ad.map (·.add (l.toNat * tsize E.P e))) (c - l.toNat) (by omega) (by omega) (by
                  have h6 := h5.slice (c := c) (l := l.toNat) (h := h'.toNat) (size := 1) (by simpa using h3) (by omega) (by omega)
                  rw [hsz]
                  simpa [List.map_drop, List.map_take] using h6)
                rw [hlen2] at this
                exact this
              · exact hk.elim
            · rename_i u xs e1
              rw [e1] at hx hlen
              simp only [lenS, Option.some.injEq, Prod.mk.injEq] at hlen
              obtain ⟨hn, _⟩ := hlen
              split at hk
              · rename_i hsz
                obtain ⟨h0, h1, h2, hK⟩ := hk
                obtain ⟨ad, c, vs, hv, h3, h4, h7, h5, h8⟩ := hx.inv_rseq
                rw [hv] at key
                have hrun := run_slice_slice (E := E) (w := w) (ad := ad) (c := c) hd hne hl (by rw [hn]; exact hh) h0 h1 (by rw [hn]; exact h2) h3
                refine key _ _ _ _ hrun ?_ h.heap (Step.refl _ _) hK
                have hlen2 : ((xs.take h'.toNat).drop l.toNat).length = h'.toNat - l.toNat := by simp; omega
                have hmul : h'.toNat * E.C.size u ≤ xs.length * E.C.size u := Nat.mul_le_mul_right _ (by omega)
                have := Rep.rseq (O := O) (env := env) (w := w) (C := E.C) (xs := (xs.take h'.toNat).drop l.toNat) (if c = l.toNat then ad else ad.map (·.add (l.toNat * tsize E.P e))) (c - l.toNat) ((vs.take (h'.toNat * E.C.size u)).drop (l.toNat * E.C.size u)) (by omega) (by omega)
                  (by rw [hlen2, List.length_drop, List.length_take, h7, Nat.min_eq_left hmul, Nat.sub_mul])
                  (by rw [hsz]; exact h5.slice (by rw [h7]; exact Nat.mul_le_mul_right _ h3) (by omega) (by omega))
                  (fun j y hj => by
                    rw [List.getElem?_drop, List.getElem?_take] at hj
                    split at hj
                    · rename_i hj2
                      have h9 := h8 _ y hj
                      rw [List.drop_drop, ← Nat.add_mul, List.drop_take]
                      rw [List.take_take]
                      have : (l.toNat + j) * E.C.size u + E.C.size u ≤ h'.toNat * E.C.size u := by
                        rw [← Nat.succ_mul]; exact Nat.mul_le_mul_right _ (by omega)
                      rw [Nat.min_eq_left (by omega)]
                      exact h9
                    · cases hj)
                rw [hlen2] at this
                exact this
              · exact hk.elim
            · rename_i i e1
              rw [e1] at hx hlen
              split at hk
              · rename_i e' k xs hi'
                split at hk
                · rename_i hsz
                  obtain ⟨h0, h2, hK⟩ := hk
                  simp only [lenS, hi', Option.some.injEq, Prod.mk.injEq] at hlen
                  obtain ⟨hn, _⟩ := hlen
                  obtain ⟨u, hb, hown⟩ := h.heap.ivec hi'
                  have hv := slAt_some hx.inv_vec hb
                  obtain ⟨ad, c, h3, h4, h5⟩ := own_len hown
                  have hl0 : l = 0 := by simp [boundS] at hbl; exact hbl.symm
                  subst hl0
                  rw [hv, h3] at key
                  have hrun := run_slice_slice (E := E) (w := w) (ad := ad) (c := c) hd hne hl (by rw [hn]; exact hh) (Int.le_refl _) h0 (by rw [hn]; exact h2) h4
                  have hsame : (if c = (0 : Int).toNat then ad else ad.map (·.add ((0 : Int).toNat * tsize E.P e))) = ad := by
                    split
                    · rfl
                    · cases ad <;> simp [Addr.add]
                  rw [hsame] at hrun
                  simp only [Int.toNat_zero, Nat.sub_zero] at hrun
                  rw [setNth_eq, snoc_eq, cnt_eq] at hK
                  have hnext := h.heap.next i none ⟨rfl, rfl, rfl, Nat.le_refl _, fun _ _ _ => rfl⟩ (fun k hk => by cases hk) (.sl (.slice ad h'.toNat c)) (fun b hb' => by
                      refine .inl ⟨_, hb, ?_⟩
                      rw [h3]; simp only [Wit.owns] at hb' ⊢
                      cases ad <;> first | (simp [Value.ownBlock] at hb'; done) | simpa [Value.ownBlock] using hb') (fun b hb' => by
                      refine h.heap.lt b ⟨i, _, hb, ?_⟩
                      rw [h3]; simp only [Wit.owns] at hb' ⊢
                      cases ad <;> first | (simp [Value.ownBlock] at hb'; done) | simpa [Value.ownBlock] using hb') (.ivec e' k (xs.take h'.toNat)) (fun hs => by
                    subst h3
                    have hmin : (xs.take h'.toNat).length = h'.toNat := by simp; omega
                    refine ⟨by simp, ?_⟩
                    rcases hown.2 with ⟨h6, h7⟩ | ⟨g, cap, cur, h6, h7, h8, h9, h10, h11, h12⟩
                    · simp only [Value.slice.injEq] at h6
                      obtain ⟨rfl, _, rfl⟩ := h6
                      refine .inl ⟨?_, by omega⟩
                      have : h'.toNat = 0 := by omega
                      rw [this]
                    · simp only [Value.slice.injEq] at h6
                      obtain ⟨rfl, _, rfl⟩ := h6
                      refine .inr ⟨g, _, cur, by rw [hmin], h7, h8, by omega, h10, h11, ?_⟩
                      rw [hmin, List.map_take, ← h12, List.take_take]
                      congr 1
                      omega)
                  refine key _ _ _ _ hrun (.vec ?_) hnext.1 hnext.2 hK
                  have : (setNth sh i SO.dead).length = (env.set i Wit.dead).length := by simp [setNth_eq, h.heap.len]
                  rw [setNth_eq] at this
                  rw [this]
                  simp [slAt]
                · exact hk.elim
              · rename_i lo' e' k xs hi'
                split at hk
                · rename_i hsz
                  obtain ⟨h0, h1, h2, hK⟩ := hk
                  simp only [lenS, hi', Option.some.injEq, Prod.mk.injEq] at hlen
                  obtain ⟨hn, _⟩ := hlen
                  obtain ⟨u, hb, hfh, hfs, hfr⟩ := h.heap.freezeI hi'
                  have hv := slAt_some hx.inv_vec hb
                  obtain ⟨ad, c, h3, h4, h5, hro⟩ := hfr.inv_rints
                  rw [hv, h3] at key
                  have hrun := run_slice_slice (E := E) (w := w) (ad := ad) (c := c) hd hne hl (by rw [hn]; exact hh) h0 h1 (by rw [hn]; exact h2) h4
                  refine key _ _ _ _ hrun ?_ hfh hfs hK
                  have hlen2 : ((xs.take h'.toNat).drop l.toNat).length = h'.toNat - l.toNat := by simp; omega
                  have := Rep.rints (O := O) (env := env.set i (.ro u)) (w := w) (C := E.C) (k := k) (xs := (xs.take h'.toNat).drop l.toNat) (if c = l.toNat then ad else ad.map (·.add (l.toNat * tsize E.P e))) (c - l.toNat) (by omega) (by omega) (by
                    have h6 := hro.slice (c := c) (l := l.toNat) (h := h'.toNat) (size := 1) (by simpa using h4) (by omega) (by omega)
                    rw [hsz]
                    simpa [List.map_drop, List.map_take] using h6)
                  rw [hlen2] at this
                  exact this
                · exact hk.elim
              · exact hk.elim
            · exact hk.elim
          · exact hk.elim
    · rename_i n e hd
      split at hk
      · rename_i b off e1
        split at hk
        · rename_i hsz
          split at hk
          · rename_i hn
            split at hk
            · rename_i hal
              rw [e1] at hx
              obtain ⟨g, hb, hv⟩ := live_ptr h.heap hal hx.inv_ptr
              have hu := under_of_desc hd (by simp)
              obtain ⟨x', hi', hs'⟩ := info_of_tsize (P := E.P) (t := e) hsz (by omega)
              refine key (.slice (some ⟨g, off, none⟩) n n) _ _ _ ?_ (.asl (by simp only [blkAt, hb]; exact ⟨n, rfl, Nat.le_refl _, by simp only [maxLen]; omega⟩)) h.heap (Step.refl _ _) hk
              simp only [Instr.sliceAt, Sem.run_bind, run_underlying hu, Result.andThen_ok, hv, Instr.sureAddr, Sem.run_pure, Option.map_none, Instr.sliceBounds, sizeOf, typeInfo]
              simp [hi', hs', Addr.add_lit]
            · exact hk.elim
          · exact hk.elim
        · exact hk.elim
      · exact hk.elim
    · exact hk.elim
end
end Go.Eng
