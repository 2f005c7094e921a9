/- A condition's opening, and the first law: they hold. Conditions: none. -/
import Derived.Test.YtcglahfmnoghjaaDoorK15
namespace Go.Proofs.YtcglahfmnoghjaaDoor
open Go Go.Eng Go.Proofs.Tryd

theorem checkN_zero {bs : List Br} : checkN bs = 0 ↔ fineB bs = true := by
  unfold checkN
  cases fineB bs <;> simp
theorem checkN_fine {bs : List Br} (h : fineB bs = true) : checkN bs = 0 := checkN_zero.2 h
theorem checkN_not {bs : List Br} (h : ¬ Fine bs) : checkN bs = 1 := by
  have : fineB bs = false := fineB_not.2 h
  simp [checkN, this]
def checkEVC : Prop := ∀ (x : List Br),
  True →
    (↑x.length : Int) ≤ (9223372036854775807 : Int) →
      (decide ((↑x.length : Int) < (1 : Int)) = true → (checkN x = (1 : Int) ∧ (1 : Int) ≠ (0 : Int)) ∧ True ∧ True) ∧
        (decide ((↑x.length : Int) < (1 : Int)) = false →
          (↑x.length : Int) ≤ (9223372036854775807 : Int) →
            (decide ((↑x.length : Int) > (8 : Int)) = true →
                (checkN x = (1 : Int) ∧ (1 : Int) ≠ (0 : Int)) ∧ True ∧ True) ∧
              (decide ((↑x.length : Int) > (8 : Int)) = false →
                True ∧
                  (decide (firstOdd x (0 : Nat) ≥ (0 : Int)) = true →
                      (checkN x = (1 : Int) ∧ (1 : Int) ≠ (0 : Int)) ∧ True ∧ True) ∧
                    (decide (firstOdd x (0 : Nat) ≥ (0 : Int)) = false → checkN x = (0 : Int) ∧ True ∧ True)))

theorem checkE_eq : checkEVC = fnS E19 f16 (bodyOf f16) checkELS noAnn := by kernel_rfl
theorem checkE_vc : checkEVC := by
  intro bs _ hl
  refine ⟨fun h1 => ⟨⟨checkN_not fun hf => ?_, by decide⟩, trivial, trivial⟩, fun h1 _ => ⟨fun h2 => ⟨⟨checkN_not fun hf => ?_, by decide⟩, trivial, trivial⟩, fun h2 => ⟨trivial, fun h3 => ⟨⟨checkN_not fun hf => ?_, by decide⟩, trivial, trivial⟩, fun h3 => ⟨checkN_fine (fineB_iff.2 ?_), trivial, trivial⟩⟩⟩⟩
  all_goals simp only [decide_eq_true_eq, decide_eq_false_iff_not] at *
  · have := hf.1; omega
  · have := hf.2.1; omega
  · have := hf.2.2; omega
  · exact ⟨by omega, by omega, by omega⟩
theorem checkE_ok : Fits E19 f16 (bodyOf f16) checkELS noAnn := by
  constructor
  rw [← checkE_eq]
  exact checkE_vc
theorem f16_has : Has prog 16 f16 (bodyOf f16) := ⟨by kernel_rfl, by kernel_rfl, by kernel_rfl⟩
theorem known19c : Known prog L19c := by
  unfold L19c
  exact known19.lent mixed f16_has E19_eq checkE_ok (fun _ _ => Nat.le_refl _) (fun _ _ => rfl)

theorem E19c_eq : E19c = EE prog L19c := by
  unfold E19c
  rfl
theorem opensN_fine {H : List Int → List Int} {bs : List Br} {br : Int} {s : Sn} (h : fineB bs = true) : opensN H bs br s = if br < 0 ∨ (bs.length : Int) ≤ br then 4 else match bs[br.toNat]? with
    | none => 4
    | some b => if missIdx s.signed b.keys 0 ≥ 0 then 21 else if b.lock ≠ zeros32 ∧ b.lock ≠ H s.secret then 22 else if s.height < b.after ∨ s.age < b.older then 23 else 0 := by
  unfold opensN
  rw [h]
  rfl
theorem opensN_not {H : List Int → List Int} {bs : List Br} {br : Int} {s : Sn} (h : fineB bs = false) : opensN H bs br s = 1 := by
  unfold opensN
  rw [h]
  rfl
def opens0VC : Prop := ∀ (x : List Br × Int × Sn),
  (∀ (b : Br), b ∈ x.fst → b.lock = zeros32) →
    (x.fst = x.fst ∧ True) ∧
      True ∧
        True ∧
          ((!checkN x.fst == (0 : Int)) = true →
              opensN (fun _ => []) x.fst x.snd.fst x.snd.snd = checkN x.fst ∧ True ∧ True) ∧
            ((!checkN x.fst == (0 : Int)) = false →
              (decide (x.snd.fst < (0 : Int)) = true →
                  (opensN (fun _ => []) x.fst x.snd.fst x.snd.snd = (4 : Int) ∧ (4 : Int) ≠ (0 : Int)) ∧ True ∧ True) ∧
                (decide (x.snd.fst < (0 : Int)) = false →
                  (↑x.fst.length : Int) ≤ (9223372036854775807 : Int) →
                    (decide (x.snd.fst ≥ (↑x.fst.length : Int)) = true →
                        (opensN (fun _ => []) x.fst x.snd.fst x.snd.snd = (4 : Int) ∧ (4 : Int) ≠ (0 : Int)) ∧
                          True ∧ True) ∧
                      (decide (x.snd.fst ≥ (↑x.fst.length : Int)) = false →
                        (0 : Int) ≤ x.snd.fst ∧
                          x.snd.fst < (↑x.fst.length : Int) ∧
                            ∀ (y : AA (93 : Nat)),
                              x.fst[x.snd.fst.toNat]? = some y →
                                (y.keys = y.keys ∧ Fn.func (46 : FuncId) = Fn.func (46 : Nat) ∧ True ∧ True ∧ True) ∧
                                  ((x.snd.snd.signed = x.snd.snd.signed ∧
                                        x.snd.snd.secret = x.snd.snd.secret ∧
                                          x.snd.snd.height = x.snd.snd.height ∧ x.snd.snd.age = x.snd.snd.age ∧ True) ∧
                                      True) ∧
                                    True ∧
                                      (decide (missIdx x.snd.snd.signed y.keys (0 : Nat) ≥ (0 : Int)) = true →
                                          (opensN (fun _ => []) x.fst x.snd.fst x.snd.snd = (21 : Int) ∧
                                              (21 : Int) ≠ (0 : Int)) ∧
                                            True ∧ True) ∧
                                        (decide (missIdx x.snd.snd.signed y.keys (0 : Nat) ≥ (0 : Int)) = false →
                                          ((!y.lock == List.replicate (32 : Nat) (0 : Int)) = true → False) ∧
                                            ((!y.lock == List.replicate (32 : Nat) (0 : Int)) = false →
                                              (decide (x.snd.snd.height < y.after) = true →
                                                  (opensN (fun _ => []) x.fst x.snd.fst x.snd.snd = (23 : Int) ∧
                                                      (23 : Int) ≠ (0 : Int)) ∧
                                                    True ∧ True) ∧
                                                (decide (x.snd.snd.height < y.after) = false →
                                                  (decide (x.snd.snd.age < y.older) = true →
                                                      (opensN (fun _ => []) x.fst x.snd.fst x.snd.snd = (23 : Int) ∧
                                                          (23 : Int) ≠ (0 : Int)) ∧
                                                        True ∧ True) ∧
                                                    (decide (x.snd.snd.age < y.older) = false →
                                                      opensN (fun _ => []) x.fst x.snd.fst x.snd.snd = (0 : Int) ∧
                                                        True ∧ True)))))))

theorem opens0_eq : opens0VC = fnS E19c f19 (bodyOf f19) opens0LS noAnn := by kernel_rfl
theorem opens0_vc : opens0VC := by
  rintro ⟨bs, br, s⟩ hz
  simp only [and_true, true_and, ne_eq, decide_eq_true_eq, decide_eq_false_iff_not] at hz ⊢
  refine ⟨fun h => ?_, fun h => ?_⟩
  · have hf : fineB bs = false := by
      cases e : fineB bs with
      | false => rfl
      | true => simp [checkN, e] at h
    rw [opensN_not hf]; simp [checkN, hf]
  have hf : fineB bs = true := by
    cases e : fineB bs with
    | true => rfl
    | false => simp [checkN, e] at h
  rw [opensN_fine hf]
  refine ⟨fun h1 => ⟨?_, by decide⟩, fun h1 hl => ⟨fun h2 => ⟨?_, by decide⟩, fun h2 => ?_⟩⟩
  · rw [if_pos (.inl h1)]
  · rw [if_pos (.inr h2)]
  rw [if_neg (by omega)]
  refine ⟨by omega, by omega, fun y hy => ?_⟩
  change bs[br.toNat]? = some (show Br from y) at hy
  have hlk := hz (show Br from y) (List.mem_of_getElem? hy)
  rw [hy]
  simp only
  refine ⟨fun h3 => ⟨?_, by decide⟩, fun h3 => ⟨fun h4 => ?_, fun h4 => ⟨fun h5 => ⟨?_, by decide⟩, fun h5 => ⟨fun h6 => ⟨?_, by decide⟩, fun h6 => ?_⟩⟩⟩⟩
  · rw [if_pos h3]
  · simp only [zeros32] at hlk
    rw [hlk] at h4
    simp at h4
  all_goals rw [if_neg h3, if_neg (fun h => h.1 hlk)]
  · rw [if_pos (.inl h5)]
  · rw [if_pos (.inr h6)]
  · rw [if_neg (fun h => h.elim h5 h6)]
theorem opens0_ok : Fits E19c f19 (bodyOf f19) opens0LS noAnn := by
  constructor
  rw [← opens0_eq]
  exact opens0_vc
theorem f19_has : Has prog 19 f19 (bodyOf f19) := ⟨by kernel_rfl, by kernel_rfl, by kernel_rfl⟩
theorem known20 : Known prog L20 := by
  unfold L20
  exact known19c.lent mixed f19_has E19c_eq opens0_ok (fun _ _ => Nat.le_refl _) (fun _ _ => rfl)

theorem E20_eq : E20 = EE prog L20 := by
  unfold E20
  rfl
theorem allOf_21 : allOf [2, 1] = [⟨[1, 2], zeros32, 0, 0⟩] := by
  have h1 : sortI [2, 1] = [1, 2] := by simp [sortI, List.mergeSort, List.MergeSort.Internal.splitInTwo]
  have h2 : Lib.compact [(1 : Int), 2] = [1, 2] := by decide
  simp only [allOf, h1, h2, zeros32]
theorem fine_21 : fineB [⟨[1, 2], zeros32, 0, 0⟩] = true := by
  have hu : Up [1, 2] 2 := by
    intro i hi
    match i, hi with
    | 0, _ => simp
    | 1, _ => simp
  have hm : mayB ⟨[1, 2], zeros32, 0, 0⟩ = true := mayB_true ⟨hu, by simp, by simp, by simp, by simp, by simp⟩
  refine fineB_iff.2 ⟨by simp, by simp, ?_⟩
  simp [firstOdd, hm]
def sureVC : Prop := ∀ (_ : Unit),
  True →
    [(2 : Int), (1 : Int)] = [(2 : Int), (1 : Int)] ∧
      True ∧
        [(2 : Int), (1 : Int)].length.le (1000000 : Nat) ∧
          ((Proofs.YtcglahfmnoghjaaDoor.allOf [(2 : Int), (1 : Int)] =
                  Proofs.YtcglahfmnoghjaaDoor.allOf [(2 : Int), (1 : Int)] ∧
                True) ∧
              (0 : Int) = (0 : Int) ∧
                [(1 : Int), (2 : Int)] = [(1 : Int), (2 : Int)] ∧
                  ([] : List Int) = [] ∧ (0 : Int) = (0 : Int) ∧ (0 : Int) = (0 : Int) ∧ True) ∧
            True ∧
              (∀ (b : Br), b ∈ Proofs.YtcglahfmnoghjaaDoor.allOf [(2 : Int), (1 : Int)] → b.lock = zeros32) ∧
                ((opensN (fun _ => []) (Proofs.YtcglahfmnoghjaaDoor.allOf [(2 : Int), (1 : Int)]) (0 : Int)
                          (Sn.mk [(1 : Int), (2 : Int)] [] (0 : Int) (0 : Int)) ==
                        (0 : Int)) =
                      true →
                    ((Proofs.YtcglahfmnoghjaaDoor.allOf [(2 : Int), (1 : Int)] =
                            Proofs.YtcglahfmnoghjaaDoor.allOf [(2 : Int), (1 : Int)] ∧
                          True) ∧
                        (0 : Int) = (0 : Int) ∧
                          [(1 : Int)] = [(1 : Int)] ∧ ([] : List Int) = [] ∧ (0 : Int) = (0 : Int) ∧ (0 : Int) = (0 : Int) ∧ True) ∧
                      True ∧
                        (∀ (b : Br), b ∈ Proofs.YtcglahfmnoghjaaDoor.allOf [(2 : Int), (1 : Int)] → b.lock = zeros32) ∧
                          ((opensN (fun _ => []) (Proofs.YtcglahfmnoghjaaDoor.allOf [(2 : Int), (1 : Int)]) (0 : Int)
                                    (Sn.mk [(1 : Int)] [] (0 : Int) (0 : Int)) ==
                                  (21 : Int)) =
                                true →
                              (↑(Proofs.YtcglahfmnoghjaaDoor.allOf [(2 : Int), (1 : Int)]).length : Int) ≤
                                  (9223372036854775807 : Int) →
                                (((↑(Proofs.YtcglahfmnoghjaaDoor.allOf [(2 : Int), (1 : Int)]).length : Int) ==
                                        (1 : Int)) =
                                      true →
                                    (0 : Int) ≤ (0 : Int) ∧
                                      (0 : Int) <
                                          (↑(Proofs.YtcglahfmnoghjaaDoor.allOf [(2 : Int), (1 : Int)]).length : Int) ∧
                                        ∀ (y : AA (93 : Nat)),
                                          (Proofs.YtcglahfmnoghjaaDoor.allOf
                                                  [(2 : Int), (1 : Int)])[Int.toNat (0 : Int)]? =
                                              some y →
                                            True ∧ true = decide (y.keys = [(1 : Int), (2 : Int)]) ∧ True ∧ True) ∧
                                  (((↑(Proofs.YtcglahfmnoghjaaDoor.allOf [(2 : Int), (1 : Int)]).length : Int) ==
                                        (1 : Int)) =
                                      false →
                                    true = false ∧ True ∧ True)) ∧
                            ((opensN (fun _ => []) (Proofs.YtcglahfmnoghjaaDoor.allOf [(2 : Int), (1 : Int)]) (0 : Int)
                                    (Sn.mk [(1 : Int)] [] (0 : Int) (0 : Int)) ==
                                  (21 : Int)) =
                                false →
                              true = false ∧ True ∧ True)) ∧
                  ((opensN (fun _ => []) (Proofs.YtcglahfmnoghjaaDoor.allOf [(2 : Int), (1 : Int)]) (0 : Int)
                          (Sn.mk [(1 : Int), (2 : Int)] [] (0 : Int) (0 : Int)) ==
                        (0 : Int)) =
                      false →
                    true = false ∧ True ∧ True)

theorem sure_eq : sureVC = fnS E20 f14 (bodyOf f14) sureLS noAnn := by kernel_rfl
theorem sure_vc : sureVC := by
  intro _ _
  have hz : ∀ b : Br, b ∈ allOf [2, 1] → b.lock = zeros32 := by
    intro b hb
    rw [allOf_21] at hb
    simp at hb
    rw [hb]
  have o1 : opensN (fun _ => []) (allOf [2, 1]) 0 ⟨[1, 2], [], 0, 0⟩ = 0 := by
    rw [allOf_21, opensN_fine fine_21]
    simp [missIdx, zeros32]
  have o2 : opensN (fun _ => []) (allOf [2, 1]) 0 ⟨[1], [], 0, 0⟩ = 21 := by
    rw [allOf_21, opensN_fine fine_21]
    simp [missIdx]
  refine ⟨rfl, trivial, (show 2 ≤ 1000000 by decide), ⟨⟨rfl, trivial⟩, rfl, rfl, rfl, rfl, rfl, trivial⟩, trivial, hz, fun _ => ⟨⟨⟨rfl, trivial⟩, rfl, rfl, rfl, rfl, rfl, trivial⟩, trivial, hz, fun _ _ => ⟨fun _ => ⟨by decide, ?_, ?_⟩, fun h => ?_⟩, fun h => ?_⟩, fun h => ?_⟩
  · rw [allOf_21]; simp
  · intro y hy
    rw [allOf_21] at hy
    simp at hy
    cases hy
    exact ⟨trivial, by simp, trivial, trivial⟩
  · rw [allOf_21] at h; simp at h
  · rw [o2] at h; simp at h
  · rw [o1] at h; simp at h
theorem sure_ok : Fits E20 f14 (bodyOf f14) sureLS noAnn := by
  constructor
  rw [← sure_eq]
  exact sure_vc
theorem f14_has : Has prog 14 f14 (bodyOf f14) := ⟨by kernel_rfl, by kernel_rfl, by kernel_rfl⟩
theorem known21 : Known prog L21 := by
  unfold L21
  exact known20.lent mixed f14_has E20_eq sure_ok (fun _ _ => Nat.le_refl _) (fun _ _ => rfl)

theorem E21_eq : E21 = EE prog L21 := by
  unfold E21
  rfl
def checksVC : Prop := ∀ (x : List Br),
  (weight x).le (1099511627776 : Nat) →
    (weight x).le (1099511627776 : Nat) ∧
      (decide ((300 : Nat) < weight x) = true → True ∧ True ∧ True ∧ true = true ∧ True ∧ True) ∧
        (decide ((300 : Nat) < weight x) = false →
          (weight x).le (1099511627776 : Nat) ∧
            ((!decide ((300 : Nat) < weight x)) = true →
                (weight x).le (300 : Nat) ∧
                  (x = x ∧ True) ∧
                    True ∧
                      True ∧
                        x.length.le (9223372036854775807 : Nat) ∧
                          ((checkN x == bif fineB x then (0 : Int) else (1 : Int)) = true →
                              True ∧ True ∧ True ∧ true = true ∧ True ∧ True) ∧
                            ((checkN x == bif fineB x then (0 : Int) else (1 : Int)) = false →
                              true = false ∧ True ∧ True)) ∧
              ((!decide ((300 : Nat) < weight x)) = false → true = false ∧ True ∧ True))

theorem checks_eq : checksVC = fnS E21 f5 (bodyOf f5) checksLS noAnn := by kernel_rfl
theorem checks_vc : checksVC := by
  intro bs hw
  refine ⟨hw, fun _ => ⟨trivial, trivial, trivial, rfl, trivial, trivial⟩, fun h => ⟨hw, fun _ => ⟨?_, ⟨rfl, trivial⟩, trivial, trivial, ?_, fun _ => ⟨trivial, trivial, trivial, rfl, trivial, trivial⟩, fun h2 => ?_⟩, fun h2 => ?_⟩⟩
  · show weight bs ≤ 300
    simpa using h
  · show bs.length ≤ 9223372036854775807
    have hw : weight bs ≤ 1099511627776 := hw
    unfold weight at hw; omega
  · simp [checkN] at h2
  · rw [h] at h2; simp at h2
theorem checks_ok : Fits E21 f5 (bodyOf f5) checksLS noAnn := by
  constructor
  rw [← checks_eq]
  exact checks_vc
theorem f5_has : Has prog 5 f5 (bodyOf f5) := ⟨by kernel_rfl, by kernel_rfl, by kernel_rfl⟩
end Go.Proofs.YtcglahfmnoghjaaDoor
