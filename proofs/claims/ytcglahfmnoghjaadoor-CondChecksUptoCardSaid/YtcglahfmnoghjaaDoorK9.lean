/- The document's check of a condition. Conditions: none. -/
import Derived.Test.YtcglahfmnoghjaaDoorK8
namespace Go.Proofs.YtcglahfmnoghjaaDoor
open Go Go.Eng Go.Proofs.Tryd

theorem firstOdd_at {bs : List Br} {k : Nat} {y : Br} (hy : bs[k]? = some y) : bs.drop k = y :: bs.drop (k + 1) := by
  have h3 : k < bs.length := (List.getElem?_eq_some_iff.1 hy).1
  rw [List.drop_eq_getElem_cons h3]
  rw [List.getElem?_eq_getElem h3] at hy
  cases hy; rfl
theorem bad_at {bs : List Br} {k : Nat} {y : Br} (hf : firstOdd bs 0 = firstOdd (bs.drop k) k) (hy : bs[k]? = some y) (hm : ¬ May y) : (bif fineB bs then (0 : Int) else 1) = 1 := by
  have h1 : fineB bs = false := fineB_not.2 fun hF => by
    have h2 := hF.2.2
    rw [hf, firstOdd_at hy] at h2
    simp only [firstOdd, mayB_false hm] at h2
    simp at h2
    omega
  rw [h1]; rfl
theorem good_at {bs : List Br} {k : Nat} {y : Br} (hf : firstOdd bs 0 = firstOdd (bs.drop k) k) (hy : bs[k]? = some y) (hm : May y) : firstOdd bs 0 = firstOdd (bs.drop (k + 1)) (k + 1) := by
  rw [hf, firstOdd_at hy]
  simp [firstOdd, mayB_true hm]

def refCheckVC : Prop := ∀ (x : List Br),
  x.length.le (9223372036854775807 : Nat) →
    (↑x.length : Int) ≤ (9223372036854775807 : Int) →
      (decide ((↑x.length : Int) < (1 : Int)) = true →
          (bif fineB x then (0 : Int) else (1 : Int)) = (1 : Int) ∧ True ∧ True) ∧
        (decide ((↑x.length : Int) < (1 : Int)) = false →
          (↑x.length : Int) ≤ (9223372036854775807 : Int) →
            (decide ((↑x.length : Int) > (8 : Int)) = true →
                (bif fineB x then (0 : Int) else (1 : Int)) = (1 : Int) ∧ True ∧ True) ∧
              (decide ((↑x.length : Int) > (8 : Int)) = false →
                (∃ x_1,
                    (x_1 ≤ x.length ∧ firstOdd x (0 : Nat) = firstOdd (List.drop x_1 x) x_1) ∧
                      (↑x_1 : Int) = (0 : Int) ∧ ((x = x ∧ True) ∧ True) ∧ True) ∧
                  ∀ (x_1 : Nat),
                    x_1 ≤ x.length ∧ firstOdd x (0 : Nat) = firstOdd (List.drop x_1 x) x_1 →
                      (↑x.length : Int) ≤ (9223372036854775807 : Int) →
                        (decide ((↑x_1 : Int) < (↑x.length : Int)) = true →
                            (0 : Int) ≤ (↑x_1 : Int) ∧
                              (↑x_1 : Int) < (↑x.length : Int) ∧
                                ∀ (y : AA (48 : Nat)),
                                  x[(↑x_1 : Int).toNat]? = some y →
                                    (↑y.keys.length : Int) ≤ (9223372036854775807 : Int) →
                                      (decide ((↑y.keys.length : Int) < (1 : Int)) = true →
                                          (bif fineB x then (0 : Int) else (1 : Int)) = (1 : Int) ∧ True ∧ True) ∧
                                        (decide ((↑y.keys.length : Int) < (1 : Int)) = false →
                                          (decide (y.after < (0 : Int)) = true →
                                              (bif fineB x then (0 : Int) else (1 : Int)) = (1 : Int) ∧ True ∧ True) ∧
                                            (decide (y.after < (0 : Int)) = false →
                                              (decide (y.after > (1099511627776 : Int)) = true →
                                                  (bif fineB x then (0 : Int) else (1 : Int)) = (1 : Int) ∧
                                                    True ∧ True) ∧
                                                (decide (y.after > (1099511627776 : Int)) = false →
                                                  (decide (y.older < (0 : Int)) = true →
                                                      (bif fineB x then (0 : Int) else (1 : Int)) = (1 : Int) ∧
                                                        True ∧ True) ∧
                                                    (decide (y.older < (0 : Int)) = false →
                                                      (decide (y.older > (65536 : Int)) = true →
                                                          (bif fineB x then (0 : Int) else (1 : Int)) = (1 : Int) ∧
                                                            True ∧ True) ∧
                                                        (decide (y.older > (65536 : Int)) = false →
                                                          (∃ x_2,
                                                              (x_2 ≤ y.keys.length ∧ Up y.keys x_2) ∧
                                                                (lastK y.keys x_2 = (-1 : Int) ∧
                                                                    (↑x_2 : Int) = (0 : Int)) ∧
                                                                  ((x = x ∧ True) ∧
                                                                      (y.keys = y.keys ∧
                                                                          y.lock = y.lock ∧
                                                                            y.after = y.after ∧
                                                                              y.older = y.older ∧ True) ∧
                                                                        True) ∧
                                                                    True) ∧
                                                            ∀ (x_2 : Nat),
                                                              x_2 ≤ y.keys.length ∧ Up y.keys x_2 →
                                                                (↑y.keys.length : Int) ≤ (9223372036854775807 : Int) →
                                                                  (decide ((↑x_2 : Int) < (↑y.keys.length : Int)) =
                                                                        true →
                                                                      (0 : Int) ≤ (↑x_2 : Int) ∧
                                                                        (↑x_2 : Int) < (↑y.keys.length : Int) ∧
                                                                          (↑x_2 : Int).toNat < y.keys.length ∧
                                                                            (decide
                                                                                    (y.keys.getD (↑x_2 : Int).toNat
                                                                                        (0 : Int) ≤
                                                                                      lastK y.keys x_2) =
                                                                                  true →
                                                                                (bif fineB x then (0 : Int)
                                                                                    else (1 : Int)) =
                                                                                    (1 : Int) ∧
                                                                                  True ∧ True) ∧
                                                                              (decide
                                                                                    (y.keys.getD (↑x_2 : Int).toNat
                                                                                        (0 : Int) ≤
                                                                                      lastK y.keys x_2) =
                                                                                  false →
                                                                                (0 : Int) ≤ (↑x_2 : Int) ∧
                                                                                  (↑x_2 : Int) <
                                                                                      (↑y.keys.length : Int) ∧
                                                                                    (↑x_2 : Int).toNat < y.keys.length ∧
                                                                                      (decide
                                                                                              (y.keys.getD
                                                                                                  (↑x_2 : Int).toNat
                                                                                                  (0 : Int) >
                                                                                                (15 : Int)) =
                                                                                            true →
                                                                                          (bif fineB x then (0 : Int)
                                                                                              else (1 : Int)) =
                                                                                              (1 : Int) ∧
                                                                                            True ∧ True) ∧
                                                                                        (decide
                                                                                              (y.keys.getD
                                                                                                  (↑x_2 : Int).toNat
                                                                                                  (0 : Int) >
                                                                                                (15 : Int)) =
                                                                                            false →
                                                                                          (0 : Int) ≤ (↑x_2 : Int) ∧
                                                                                            (↑x_2 : Int) <
                                                                                                (↑y.keys.length : Int) ∧
                                                                                              (↑x_2 : Int).toNat <
                                                                                                  y.keys.length ∧
                                                                                                inI64
                                                                                                    ((↑x_2 : Int) +
                                                                                                      (1 : Int)) ∧
                                                                                                  ∃ y_1,
                                                                                                    (y_1 ≤
                                                                                                          y.keys.length ∧
                                                                                                        Up y.keys y_1) ∧
                                                                                                      y.keys.length -
                                                                                                            y_1 <
                                                                                                          y.keys.length -
                                                                                                            x_2 ∧
                                                                                                        (lastK y.keys
                                                                                                                y_1 =
                                                                                                              y.keys.getD
                                                                                                                (↑x_2 :
                                                                                                                    Int).toNat
                                                                                                                (0 :
                                                                                                                  Int) ∧
                                                                                                            (↑y_1 :
                                                                                                                Int) =
                                                                                                              (↑x_2 :
                                                                                                                  Int) +
                                                                                                                (1 :
                                                                                                                  Int)) ∧
                                                                                                          ((x = x ∧
                                                                                                                True) ∧
                                                                                                              (y.keys =
                                                                                                                    y.keys ∧
                                                                                                                  y.lock =
                                                                                                                      y.lock ∧
                                                                                                                    y.after =
                                                                                                                        y.after ∧
                                                                                                                      y.older =
                                                                                                                          y.older ∧
                                                                                                                        True) ∧
                                                                                                                True) ∧
                                                                                                            True))) ∧
                                                                    (decide ((↑x_2 : Int) < (↑y.keys.length : Int)) =
                                                                        false →
                                                                      inI64 ((↑x_1 : Int) + (1 : Int)) ∧
                                                                        ∃ y,
                                                                          (y ≤ x.length ∧
                                                                              firstOdd x (0 : Nat) =
                                                                                firstOdd (List.drop y x) y) ∧
                                                                            x.length - y < x.length - x_1 ∧
                                                                              (↑y : Int) = (↑x_1 : Int) + (1 : Int) ∧
                                                                                ((x = x ∧ True) ∧ True) ∧ True))))))) ∧
                          (decide ((↑x_1 : Int) < (↑x.length : Int)) = false →
                            (bif fineB x then (0 : Int) else (1 : Int)) = (0 : Int) ∧ True ∧ True)))

theorem refCheck_eq : refCheckVC = fnS E7 f18 (bodyOf f18) refCheckLS refCheckAnn := by kernel_rfl
theorem refCheck_vc : refCheckVC := by
  intro bs _ hl
  have small : (¬ (1 ≤ bs.length ∧ bs.length ≤ 8)) → (bif fineB bs then (0 : Int) else 1) = 1 := fun h => by
    have h1 : fineB bs = false := fineB_not.2 fun hF => h ⟨hF.1, hF.2.1⟩
    rw [h1]; rfl
  refine ⟨fun h1 => ⟨small ?_, trivial, trivial⟩, fun h1 _ => ⟨fun h2 => ⟨small ?_, trivial, trivial⟩, fun h2 => ⟨⟨0, ⟨Nat.zero_le _, rfl⟩, rfl, ⟨⟨rfl, trivial⟩, trivial⟩, trivial⟩, ?_⟩⟩⟩
  · simp only [decide_eq_true_eq] at h1; omega
  · simp only [decide_eq_true_eq] at h2; omega
  rintro k ⟨hk, hf⟩ _
  simp only [decide_eq_false_iff_not] at h1 h2
  refine ⟨fun h3 => ?_, fun h3 => ⟨?_, trivial, trivial⟩⟩
  · simp only [decide_eq_true_eq] at h3
    refine ⟨by omega, by omega, fun y hy hyl => ?_⟩
    change Br at y
    have hy2 : bs[k]? = some y := by
      have h0 := hy
      rw [Int.toNat_natCast] at h0
      exact h0
    have bad : ¬ May y → (bif fineB bs then (0 : Int) else 1) = 1 := bad_at hf hy2
    refine ⟨fun h4 => ⟨bad fun hm => ?_, trivial, trivial⟩, fun h4 => ⟨fun h5 => ⟨bad fun hm => ?_, trivial, trivial⟩, fun h5 => ⟨fun h6 => ⟨bad fun hm => ?_, trivial, trivial⟩, fun h6 => ⟨fun h7 => ⟨bad fun hm => ?_, trivial, trivial⟩, fun h7 => ⟨fun h8 => ⟨bad fun hm => ?_, trivial, trivial⟩, fun h8 => ?_⟩⟩⟩⟩⟩
    · simp only [decide_eq_true_eq] at h4; have := hm.2.1; omega
    · simp only [decide_eq_true_eq] at h5; have := hm.2.2.1; omega
    · simp only [decide_eq_true_eq] at h6; have := hm.2.2.2.1; omega
    · simp only [decide_eq_true_eq] at h7; have := hm.2.2.2.2.1; omega
    · simp only [decide_eq_true_eq] at h8; have := hm.2.2.2.2.2; omega
    simp only [decide_eq_false_iff_not] at h4 h5 h6 h7 h8
    refine ⟨⟨0, ⟨Nat.zero_le _, up_zero _⟩, ⟨rfl, rfl⟩, ⟨⟨rfl, trivial⟩, ⟨rfl, rfl, rfl, rfl, trivial⟩, trivial⟩, trivial⟩, ?_⟩
    rintro j ⟨hj, hup⟩ _
    refine ⟨fun h9 => ?_, fun h9 => ?_⟩
    · simp only [decide_eq_true_eq] at h9
      refine ⟨by omega, by omega, by omega, fun h10 => ⟨bad fun hm => ?_, trivial, trivial⟩, fun h10 => ⟨by omega, by omega, by omega, fun h11 => ⟨bad fun hm => ?_, trivial, trivial⟩, fun h11 => ⟨by omega, by omega, by omega, by unfold inI64; omega, j + 1, ⟨by omega, ?_⟩, by omega, ⟨?_, by omega⟩, ⟨⟨rfl, trivial⟩, ⟨rfl, rfl, rfl, rfl, trivial⟩, trivial⟩, trivial⟩⟩⟩
      · simp only [decide_eq_true_eq, Int.toNat_natCast] at h10
        have h12 := hm.1 j (by omega)
        cases j with
        | zero => simp only [lastK] at h10; omega
        | succ i =>
          simp only [lastK] at h10
          have h13 := h12.2.2
          simp only [Nat.add_sub_cancel] at h13
          omega
      · simp only [decide_eq_true_eq, Int.toNat_natCast] at h11
        have h12 := hm.1 j (by omega)
        omega
      · simp only [decide_eq_false_iff_not, Int.toNat_natCast] at h10 h11
        cases j with
        | zero =>
          simp only [lastK] at h10
          exact up_succ hup (by omega) (by omega) (.inl rfl)
        | succ i =>
          simp only [lastK] at h10
          have h13 := (hup i (by omega)).1
          exact up_succ hup (by omega) (by omega) (.inr (by simp only [Nat.add_sub_cancel]; omega))
      · simp only [Int.toNat_natCast]; rfl
    · simp only [decide_eq_false_iff_not] at h9
      have hjl : j = y.keys.length := by omega
      subst hjl
      have hm : May y := ⟨hup, by omega, by omega, by omega, by omega, by omega⟩
      exact ⟨by unfold inI64; omega, k + 1, ⟨by omega, good_at hf hy2 hm⟩, by omega, by omega, ⟨⟨rfl, trivial⟩, trivial⟩, trivial⟩
  · simp only [decide_eq_false_iff_not] at h3
    have hF : fineB bs = true := fineB_iff.2 ⟨by omega, by omega, by
      rw [hf, List.drop_of_length_le (by omega)]
      simp [firstOdd]⟩
    rw [hF]; rfl
theorem refCheck_ok : Fits E7 f18 (bodyOf f18) refCheckLS refCheckAnn := by
  constructor
  rw [← refCheck_eq]
  exact refCheck_vc

theorem f18_is : prog.funcs[18]? = some f18 := by kernel_rfl
theorem f18_body : f18.body = some (bodyOf f18) := by kernel_rfl
theorem f18_name : (f18.name == "runtime.NumGoroutine") = false := by kernel_rfl
theorem E7_eq : E7 = EE prog L7 := by
  unfold E7
  rfl
theorem refCheckPure : Pure refCheckLS (condGet 48) where
  hin := fun _ => rfl
  got := fun args x h => condGot 48 args x h
  closed := fun _ => rfl
theorem known8 : Known prog L8 := by
  unfold L8
  exact Known.more known7 mixed f18_is f18_name f18_body E7_eq refCheck_ok refCheckPure
end Go.Proofs.YtcglahfmnoghjaaDoor
