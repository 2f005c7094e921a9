/- Contracts of small functions: they hold. Conditions: none. -/
import Derived.Test.YtcglahfmnoghjaaDoorK2
namespace Go.Proofs.YtcglahfmnoghjaaDoor
open Go Go.Eng Go.Proofs.Tryd

theorem up_zero (ks : List Int) : Up ks 0 := fun i h => absurd h (Nat.not_lt_zero i)
theorem up_succ {ks : List Int} {n : Nat} (h : Up ks n) (h1 : 0 ≤ ks.getD n 0) (h2 : ks.getD n 0 < 16) (h3 : n = 0 ∨ ks.getD (n - 1) 0 < ks.getD n 0) : Up ks (n + 1) := fun i hi => by
  rcases Nat.lt_or_ge i n with h4 | h4
  · exact h i h4
  · have : i = n := by omega
    subst this
    exact ⟨h1, h2, h3⟩
theorem mayB_false {b : Br} (h : ¬ May b) : mayB b = false := by simp [mayB, h]
theorem mayB_true {b : Br} (h : May b) : mayB b = true := by simp [mayB, h]

def mayVC : Prop := ∀ (x : Br),
  True →
    (↑x.keys.length : Int) ≤ (9223372036854775807 : Int) →
      (∃ x_1,
          (x_1 ≤ x.keys.length ∧ x.keys.length ≤ (9223372036854775807 : Nat) ∧ Up x.keys x_1) ∧
            (↑x_1 : Int) = (0 : Int) ∧
              ((x.keys = x.keys ∧ x.lock = x.lock ∧ x.after = x.after ∧ x.older = x.older ∧ True) ∧ True) ∧ True) ∧
        ∀ (x_1 : Nat),
          x_1 ≤ x.keys.length ∧ x.keys.length ≤ (9223372036854775807 : Nat) ∧ Up x.keys x_1 →
            (decide ((↑x_1 : Int) < (↑x.keys.length : Int)) = true →
                (0 : Int) ≤ (↑x_1 : Int) ∧
                  (↑x_1 : Int) < (↑x.keys.length : Int) ∧
                    (↑x_1 : Int).toNat < x.keys.length ∧
                      (decide (x.keys.getD (↑x_1 : Int).toNat (0 : Int) < (0 : Int)) = true →
                          mayB x = false ∧ True ∧ True) ∧
                        (decide (x.keys.getD (↑x_1 : Int).toNat (0 : Int) < (0 : Int)) = false →
                          (decide (x.keys.getD (↑x_1 : Int).toNat (0 : Int) ≥ (16 : Int)) = true →
                              mayB x = false ∧ True ∧ True) ∧
                            (decide (x.keys.getD (↑x_1 : Int).toNat (0 : Int) ≥ (16 : Int)) = false →
                              (decide ((↑x_1 : Int) > (0 : Int)) = true →
                                  inI64 ((↑x_1 : Int) - (1 : Int)) ∧
                                    (0 : Int) ≤ (↑x_1 : Int) - (1 : Int) ∧
                                      (↑x_1 : Int) - (1 : Int) < (↑x.keys.length : Int) ∧
                                        ((↑x_1 : Int) - (1 : Int)).toNat < x.keys.length ∧
                                          (decide
                                                  (x.keys.getD ((↑x_1 : Int) - (1 : Int)).toNat (0 : Int) ≥
                                                    x.keys.getD (↑x_1 : Int).toNat (0 : Int)) =
                                                true →
                                              mayB x = false ∧ True ∧ True) ∧
                                            (decide
                                                  (x.keys.getD ((↑x_1 : Int) - (1 : Int)).toNat (0 : Int) ≥
                                                    x.keys.getD (↑x_1 : Int).toNat (0 : Int)) =
                                                false →
                                              inI64 ((↑x_1 : Int) + (1 : Int)) ∧
                                                ∃ y,
                                                  (y ≤ x.keys.length ∧
                                                      x.keys.length ≤ (9223372036854775807 : Nat) ∧ Up x.keys y) ∧
                                                    x.keys.length - y < x.keys.length - x_1 ∧
                                                      (↑y : Int) = (↑x_1 : Int) + (1 : Int) ∧
                                                        ((x.keys = x.keys ∧
                                                              x.lock = x.lock ∧
                                                                x.after = x.after ∧ x.older = x.older ∧ True) ∧
                                                            True) ∧
                                                          True)) ∧
                                (decide ((↑x_1 : Int) > (0 : Int)) = false →
                                  inI64 ((↑x_1 : Int) + (1 : Int)) ∧
                                    ∃ y,
                                      (y ≤ x.keys.length ∧ x.keys.length ≤ (9223372036854775807 : Nat) ∧ Up x.keys y) ∧
                                        x.keys.length - y < x.keys.length - x_1 ∧
                                          (↑y : Int) = (↑x_1 : Int) + (1 : Int) ∧
                                            ((x.keys = x.keys ∧
                                                  x.lock = x.lock ∧ x.after = x.after ∧ x.older = x.older ∧ True) ∧
                                                True) ∧
                                              True)))) ∧
              (decide ((↑x_1 : Int) < (↑x.keys.length : Int)) = false →
                (↑x.keys.length : Int) ≤ (9223372036854775807 : Int) →
                  (decide ((↑x.keys.length : Int) ≥ (1 : Int)) = true →
                      (decide (x.after ≥ (0 : Int)) = true →
                          (decide (x.after ≤ (1099511627776 : Int)) = true →
                              (decide (x.older ≥ (0 : Int)) = true →
                                  mayB x = decide (x.older ≤ (65536 : Int)) ∧ True ∧ True) ∧
                                (decide (x.older ≥ (0 : Int)) = false → mayB x = false ∧ True ∧ True)) ∧
                            (decide (x.after ≤ (1099511627776 : Int)) = false → mayB x = false ∧ True ∧ True)) ∧
                        (decide (x.after ≥ (0 : Int)) = false → mayB x = false ∧ True ∧ True)) ∧
                    (decide ((↑x.keys.length : Int) ≥ (1 : Int)) = false → mayB x = false ∧ True ∧ True))

theorem may_eq : mayVC = fnS E0 f44 (bodyOf f44) mayLS mayAnn := by kernel_rfl
theorem may_vc : mayVC := by
  unfold mayVC
  intro x _
  simp only [decide_eq_true_eq, decide_eq_false_iff_not, and_true, Int.not_lt, ge_iff_le, gt_iff_lt, Int.not_le]
  intro hlen
  refine ⟨⟨0, ⟨Nat.zero_le _, by omega, up_zero _⟩, rfl⟩, ?_⟩
  rintro k ⟨hk, hl, hup⟩
  refine ⟨fun h1 => ⟨by omega, by omega, by omega, fun h2 => ?_, fun h2 => ⟨fun h3 => ?_, fun h3 => ⟨fun h4 => ⟨by unfold inI64; omega, by omega, by omega, by omega, fun h5 => ?_, fun h5 => ⟨by unfold inI64; omega, k + 1, ⟨by omega, by omega, up_succ hup h2 h3 (.inr ?_)⟩, by omega, by omega⟩⟩,
    fun h4 => ⟨by unfold inI64; omega, k + 1, ⟨by omega, by omega, up_succ hup h2 h3 (.inl (by omega))⟩, by omega, by omega⟩⟩⟩⟩,
    fun h1 _ => ?_⟩
  · exact mayB_false fun hm => by have := (hm.1 k (by omega)).1; simp only [Int.toNat_natCast] at h2; omega
  · exact mayB_false fun hm => by have := (hm.1 k (by omega)).2.1; simp only [Int.toNat_natCast] at h3; omega
  · exact mayB_false fun hm => by
      have := (hm.1 k (by omega)).2.2
      have e : ((k : Int) - 1).toNat = k - 1 := by omega
      rw [e] at h5
      simp only [Int.toNat_natCast] at h5
      omega
  · have e : ((k : Int) - 1).toNat = k - 1 := by omega
    rw [e] at h5
    simpa using h5
  · have hup' : Up x.keys x.keys.length := by
      have : k = x.keys.length := by omega
      rw [← this]; exact hup
    refine ⟨fun h2 => ⟨fun h3 => ⟨fun h4 => ⟨fun h5 => ?_, fun h5 => mayB_false fun hm => ?_⟩, fun h4 => mayB_false fun hm => ?_⟩, fun h3 => mayB_false fun hm => ?_⟩, fun h2 => mayB_false fun hm => ?_⟩
    · unfold mayB
      congr 1
      exact propext ⟨fun hm => hm.2.2.2.2.2, fun h6 => ⟨hup', by omega, h3, h4, h5, h6⟩⟩
    · have := hm.2.2.2.2.1; omega
    · have := hm.2.2.2.1; omega
    · have := hm.2.2.1; omega
    · have := hm.2.1; omega
theorem may_ok : Fits E0 f44 (bodyOf f44) mayLS mayAnn := by
  constructor
  rw [← may_eq]
  exact may_vc
end Go.Proofs.YtcglahfmnoghjaaDoor
