/- Number by number: it holds. Conditions: none. -/
import Derived.Test.YtcglahfmnoghjaaDoorK11
namespace Go.Proofs.YtcglahfmnoghjaaDoor
open Go Go.Eng Go.Proofs.Tryd

def intsVC : Prop := ∀ (x : List Int × List Int),
  True →
    (↑x.fst.length : Int) ≤ (9223372036854775807 : Int) →
      (↑x.snd.length : Int) ≤ (9223372036854775807 : Int) →
        (((↑x.fst.length : Int) != (↑x.snd.length : Int)) = true → decide (x.fst = x.snd) = false ∧ True ∧ True) ∧
          (((↑x.fst.length : Int) != (↑x.snd.length : Int)) = false →
            (∃ x_1,
                (x_1 ≤ x.fst.length ∧
                    x.fst.length = x.snd.length ∧
                      ∀ (j : Nat), j < x_1 → x.fst.getD j (0 : Int) = x.snd.getD j (0 : Int)) ∧
                  (↑x_1 : Int) = (0 : Int) ∧ True ∧ True) ∧
              ∀ (x_1 : Nat),
                (x_1 ≤ x.fst.length ∧
                    x.fst.length = x.snd.length ∧
                      ∀ (j : Nat), j < x_1 → x.fst.getD j (0 : Int) = x.snd.getD j (0 : Int)) →
                  (↑x.fst.length : Int) ≤ (9223372036854775807 : Int) →
                    (decide ((↑x_1 : Int) < (↑x.fst.length : Int)) = true →
                        (0 : Int) ≤ (↑x_1 : Int) ∧
                          (↑x_1 : Int) < (↑x.fst.length : Int) ∧
                            (↑x_1 : Int).toNat < x.fst.length ∧
                              (0 : Int) ≤ (↑x_1 : Int) ∧
                                (↑x_1 : Int) < (↑x.snd.length : Int) ∧
                                  (↑x_1 : Int).toNat < x.snd.length ∧
                                    ((x.fst.getD (↑x_1 : Int).toNat (0 : Int) !=
                                            x.snd.getD (↑x_1 : Int).toNat (0 : Int)) =
                                          true →
                                        decide (x.fst = x.snd) = false ∧ True ∧ True) ∧
                                      ((x.fst.getD (↑x_1 : Int).toNat (0 : Int) !=
                                            x.snd.getD (↑x_1 : Int).toNat (0 : Int)) =
                                          false →
                                        inI64 ((↑x_1 : Int) + (1 : Int)) ∧
                                          ∃ y,
                                            (y ≤ x.fst.length ∧
                                                x.fst.length = x.snd.length ∧
                                                  ∀ (j : Nat),
                                                    j < y → x.fst.getD j (0 : Int) = x.snd.getD j (0 : Int)) ∧
                                              x.fst.length - y < x.fst.length - x_1 ∧
                                                (↑y : Int) = (↑x_1 : Int) + (1 : Int) ∧ True ∧ True)) ∧
                      (decide ((↑x_1 : Int) < (↑x.fst.length : Int)) = false →
                        decide (x.fst = x.snd) = true ∧ True ∧ True))

theorem ints_eq : intsVC = fnS E9 f28 (bodyOf f28) intsLS intsAnn := by kernel_rfl
theorem ints_vc : intsVC := by
  rintro ⟨xs, ys⟩ _ hl1 hl2
  simp only at hl1 hl2 ⊢
  refine ⟨fun h => ⟨?_, trivial, trivial⟩, fun h => ⟨⟨0, ⟨Nat.zero_le _, ?_, fun j hj => absurd hj (Nat.not_lt_zero j)⟩, rfl, trivial, trivial⟩, ?_⟩⟩
  · simp only [bne_iff_ne, ne_eq] at h
    exact decide_eq_false fun e => h (by rw [e])
  · simp only [bne_eq_false_iff_eq] at h; omega
  rintro k ⟨hk, hlen, hall⟩ _
  refine ⟨fun h3 => ?_, fun h3 => ⟨?_, trivial, trivial⟩⟩
  · simp only [decide_eq_true_eq] at h3
    refine ⟨by omega, by omega, by omega, by omega, by omega, by omega, fun h4 => ⟨?_, trivial, trivial⟩, fun h4 => ⟨by unfold inI64; omega, k + 1, ⟨by omega, hlen, fun j hj => ?_⟩, by omega, by omega, trivial, trivial⟩⟩
    · simp only [bne_iff_ne, ne_eq] at h4
      exact decide_eq_false fun e => h4 (by rw [e])
    · simp only [bne_eq_false_iff_eq, Int.toNat_natCast] at h4
      rcases Nat.lt_or_ge j k with h5 | h5
      · exact hall j h5
      · have : j = k := by omega
        subst this; exact h4
  · simp only [decide_eq_false_iff_not] at h3
    have hkl : k = xs.length := by omega
    refine decide_eq_true (List.ext_getElem hlen fun j h5 h6 => ?_)
    have := hall j (by omega)
    simpa [List.getD_eq_getElem?_getD, h5, h6] using this
theorem ints_ok : Fits E9 f28 (bodyOf f28) intsLS intsAnn := by
  constructor
  rw [← ints_eq]
  exact ints_vc

theorem f28_body : f28.body = some (bodyOf f28) := by kernel_rfl
theorem f28_name : (f28.name == "runtime.NumGoroutine") = false := by kernel_rfl
theorem E9_eq : E9 = EE prog L9 := by
  unfold E9
  rfl
theorem intsPure : Pure intsLS intsGet where
  hin := fun _ => rfl
  got := fun args x h => by
    unfold intsGet at h
    split at h
    · split at h
      · rename_i h1 h2
        cases h
        exact ⟨asIs_eqv h1, asIs_eqv h2, trivial⟩
      · cases h
    · cases h
  closed := fun _ => rfl
def L10 : List (Nat × SpecT AA) := (28, tOf intsLS intsGet) :: L9
theorem known10 : Known prog L10 := by
  unfold L10
  exact Known.more known9 mixed func28 f28_name f28_body E9_eq ints_ok intsPure
end Go.Proofs.YtcglahfmnoghjaaDoor
