/- Contracts around a condition's check: they hold (second). Conditions: none. -/
import Derived.Test.YtcglahfmnoghjaaDoorK6
namespace Go.Proofs.YtcglahfmnoghjaaDoor
open Go Go.Eng Go.Proofs.Tryd

theorem sumK_take_succ : ∀ {bs : List Br} {k : Nat} {y : Br}, bs[k]? = some y → sumK (bs.take (k + 1)) = sumK (bs.take k) + y.keys.length
  | [], k, y, h => by simp at h
  | b :: l, 0, y, h => by simp at h; subst h; simp [sumK]
  | b :: l, k + 1, y, h => by
    have := sumK_take_succ (bs := l) (k := k) (y := y) (by simpa using h)
    simp only [List.take_succ_cons, sumK, this]; omega
theorem sumK_take_le : ∀ (bs : List Br) (k : Nat), sumK (bs.take k) ≤ sumK bs
  | [], k => by simp
  | b :: l, 0 => by simp [sumK]
  | b :: l, k + 1 => by
    have := sumK_take_le l k
    simp only [List.take_succ_cons, sumK]; omega

def longVC : Prop := ∀ (x : List Br),
  (weight x).le (1099511627776 : Nat) →
    (↑x.length : Int) ≤ (9223372036854775807 : Int) →
      (∃ x_1,
          (x_1 ≤ x.length ∧ x_1 ≤ (300 : Nat)) ∧
            ((↑(x.length + sumK (List.take x_1 x)) : Int) = (↑x.length : Int) ∧ (↑x_1 : Int) = (0 : Int)) ∧
              ((x = x ∧ True) ∧ True) ∧ True) ∧
        ∀ (x_1 : Nat),
          x_1 ≤ x.length ∧ x_1 ≤ (300 : Nat) →
            (↑x.length : Int) ≤ (9223372036854775807 : Int) →
              (decide ((↑x_1 : Int) < (↑x.length : Int)) = true →
                  (decide ((↑x_1 : Int) < (300 : Int)) = true →
                      (0 : Int) ≤ (↑x_1 : Int) ∧
                        (↑x_1 : Int) < (↑x.length : Int) ∧
                          ∀ (y : AA (48 : Nat)),
                            x[(↑x_1 : Int).toNat]? = some y →
                              (↑y.keys.length : Int) ≤ (9223372036854775807 : Int) →
                                inI64 ((↑(x.length + sumK (List.take x_1 x)) : Int) + (↑y.keys.length : Int)) ∧
                                  inI64 ((↑x_1 : Int) + (1 : Int)) ∧
                                    ∃ y_1,
                                      (y_1 ≤ x.length ∧ y_1 ≤ (300 : Nat)) ∧
                                        x.length - y_1 < x.length - x_1 ∧
                                          ((↑(x.length + sumK (List.take y_1 x)) : Int) =
                                                (↑(x.length + sumK (List.take x_1 x)) : Int) + (↑y.keys.length : Int) ∧
                                              (↑y_1 : Int) = (↑x_1 : Int) + (1 : Int)) ∧
                                            ((x = x ∧ True) ∧ True) ∧ True) ∧
                    (decide ((↑x_1 : Int) < (300 : Int)) = false →
                      decide ((300 : Nat) < weight x) =
                          decide ((↑(x.length + sumK (List.take x_1 x)) : Int) > (300 : Int)) ∧
                        True ∧ True)) ∧
                (decide ((↑x_1 : Int) < (↑x.length : Int)) = false →
                  decide ((300 : Nat) < weight x) =
                      decide ((↑(x.length + sumK (List.take x_1 x)) : Int) > (300 : Int)) ∧
                    True ∧ True)

theorem long_eq : longVC = fnS E5 f13 (bodyOf f13) longLS longAnn := by kernel_rfl
theorem long_vc : longVC := by
  intro bs hw hl
  have hw : bs.length + sumK bs ≤ 1099511627776 := hw
  refine ⟨⟨0, ⟨Nat.zero_le _, by omega⟩, ⟨by simp [sumK], rfl⟩, ⟨⟨rfl, trivial⟩, trivial⟩, trivial⟩, ?_⟩
  rintro k ⟨hk, hk3⟩ _
  have hle := sumK_take_le bs k
  refine ⟨fun h1 => ⟨fun h2 => ?_, fun h2 => ⟨?_, trivial, trivial⟩⟩, fun h1 => ⟨?_, trivial, trivial⟩⟩
  · simp only [decide_eq_true_eq] at h1 h2
    refine ⟨by omega, by omega, fun y hy hyl => ?_⟩
    have hy' : bs[k]? = some y := by simpa using hy
    have hs := sumK_take_succ hy'
    have hle2 := sumK_take_le bs (k + 1)
    have e : ((bs.length + sumK (bs.take (k + 1)) : Nat) : Int) = ((bs.length + sumK (bs.take k) : Nat) : Int) + (y.keys.length : Int) := by omega
    exact ⟨by unfold inI64; omega, by unfold inI64; omega, k + 1, ⟨by omega, by omega⟩, by omega, ⟨e, by omega⟩, ⟨⟨rfl, trivial⟩, trivial⟩, trivial⟩
  · simp only [decide_eq_true_eq, decide_eq_false_iff_not] at h1 h2
    congr 1
    apply propext
    unfold weight
    omega
  · simp only [decide_eq_false_iff_not] at h1
    congr 1
    apply propext
    unfold weight
    have : bs.take k = bs := List.take_of_length_le (by omega)
    rw [this]
    omega
theorem long_ok : Fits E5 f13 (bodyOf f13) longLS longAnn := by
  constructor
  rw [← long_eq]
  exact long_vc

theorem len_weight {bs : List Br} {k : Nat} {y : Br} (h : bs[k]? = some y) : y.keys.length ≤ sumK bs := by
  have h1 := sumK_take_succ h
  have h2 := sumK_take_le bs (k + 1)
  omega
def giveVC : Prop := ∀ (x : List Br),
  (weight x).le (300 : Nat) →
    (∃ x_1,
        Nat.le x_1 x.length ∧
          ((SV.val (Value.slice none (0 : Nat) (0 : Nat)) : SV AA) = SV.val (Value.slice none (0 : Nat) (0 : Nat)) ∧
              (↑x_1 : Int) = (0 : Int)) ∧
            ((x = x ∧ True) ∧
                ((SV.val (Value.slice none (0 : Nat) (0 : Nat)) : SV AA) = SV.val (Value.slice none (0 : Nat) (0 : Nat)) ∧ True) ∧
                  True) ∧
              List.take x_1 x = [] ∧ True) ∧
      ∀ (x_1 : Nat),
        x_1.le x.length →
          (↑x.length : Int) ≤ (9223372036854775807 : Int) →
            (decide ((↑x_1 : Int) < (↑x.length : Int)) = true →
                (0 : Int) ≤ (↑x_1 : Int) ∧
                  (↑x_1 : Int) < (↑x.length : Int) ∧
                    ∀ (y : AA (48 : Nat)),
                      x[(↑x_1 : Int).toNat]? = some y →
                        (0 : Int) ≤ (↑x_1 : Int) ∧
                          (↑x_1 : Int) < (↑x.length : Int) ∧
                            ∀ (y_1 : AA (48 : Nat)),
                              x[(↑x_1 : Int).toNat]? = some y_1 →
                                y_1.keys.length * (8 : Nat) ≤ (140737488355328 : Nat) ∧
                                  y_1.keys.length ≤ (1152921504606846976 : Nat) ∧
                                    (y_1.keys = y_1.keys ∧
                                        y.lock = y.lock ∧ y.after = y.after ∧ y.older = y.older ∧ True) ∧
                                      ((List.take x_1 x).length + [Br.mk y_1.keys y.lock y.after y.older].length) *
                                            (72 : Nat) ≤
                                          (140737488355328 : Nat) ∧
                                        (List.take x_1 x).length + [Br.mk y_1.keys y.lock y.after y.older].length ≤
                                            (1152921504606846976 : Nat) ∧
                                          inI64 ((↑x_1 : Int) + (1 : Int)) ∧
                                            ∃ y_2,
                                              Nat.le y_2 x.length ∧
                                                x.length - y_2 < x.length - x_1 ∧
                                                  (True ∧ (↑y_2 : Int) = (↑x_1 : Int) + (1 : Int)) ∧
                                                    ((x = x ∧ True) ∧
                                                        ((SV.val (Value.slice none (0 : Nat) (0 : Nat)) : SV AA) =
                                                              SV.val (Value.slice none (0 : Nat) (0 : Nat)) ∧
                                                            True) ∧
                                                          True) ∧
                                                      List.take y_2 x =
                                                          List.take x_1 x ++ [Br.mk y_1.keys y.lock y.after y.older] ∧
                                                        True) ∧
              (decide ((↑x_1 : Int) < (↑x.length : Int)) = false → (x = List.take x_1 x ∧ True) ∧ True ∧ True)

theorem give_eq : giveVC = fnS E6 f17 (bodyOf f17) giveLS giveAnn := by kernel_rfl
theorem give_vc : giveVC := by
  intro bs hw
  have hw : bs.length + sumK bs ≤ 300 := hw
  refine ⟨⟨0, Nat.zero_le _, ⟨rfl, rfl⟩, ⟨⟨rfl, trivial⟩, ⟨rfl, trivial⟩, trivial⟩, rfl, trivial⟩, ?_⟩
  intro k hk hl
  have hk : k ≤ bs.length := hk
  refine ⟨fun h1 => ?_, fun h1 => ?_⟩
  · simp only [decide_eq_true_eq] at h1
    refine ⟨by omega, by omega, fun y hy => ⟨by omega, by omega, fun y' hy' => ?_⟩⟩
    have hyy : y = y' := by rw [hy] at hy'; exact Option.some.inj hy'
    subst hyy
    change Br at y
    have hy2 : bs[k]? = some y := by
      have h0 := hy
      rw [Int.toNat_natCast] at h0
      exact h0
    have hkl := len_weight hy2
    have htl : (bs.take k).length = k := by rw [List.length_take]; omega
    have hlen : ∀ z : Br, ((bs.take k).length + [z].length) = k + 1 := fun z => by rw [htl]; rfl
    have h8 : y.keys.length ≤ 300 := by omega
    have hk300 : k < 300 := by omega
    have hcat : bs.take (k + 1) = bs.take k ++ [show Br from y] := by
      rw [List.take_add_one, hy2]; rfl
    refine ⟨by omega, by omega, ⟨rfl, rfl, rfl, rfl, trivial⟩, ?_, ?_, by unfold inI64; omega, k + 1, Nat.succ_le_of_lt (by omega), by omega, ⟨trivial, by omega⟩, ⟨⟨rfl, trivial⟩, ⟨rfl, trivial⟩, trivial⟩, hcat, trivial⟩
    · exact Nat.le_trans (Nat.mul_le_mul_right 72 (Nat.le_of_eq (hlen _))) (by omega)
    · exact Nat.le_trans (Nat.le_of_eq (hlen _)) (by omega)
  · simp only [decide_eq_false_iff_not] at h1
    exact ⟨⟨(List.take_of_length_le (by omega)).symm, trivial⟩, trivial, trivial⟩
theorem give_ok : Fits E6 f17 (bodyOf f17) giveLS giveAnn := by
  constructor
  rw [← give_eq]
  exact give_vc
end Go.Proofs.YtcglahfmnoghjaaDoor
