/- Contracts around a condition's check: they hold. Conditions: none. -/
import Derived.Test.YtcglahfmnoghjaaDoorK5
namespace Go.Proofs.YtcglahfmnoghjaaDoor
open Go Go.Eng Go.Proofs.Tryd

def oddVC : Prop := ∀ (x : Br),
  True → True ∧ (!mayB x) = !mayB { keys := x.keys, lock := x.lock, after := x.after, older := x.older } ∧ True ∧ True

theorem odd_eq : oddVC = fnS E1 f43 (bodyOf f43) oddLS noAnn := by kernel_rfl
theorem odd_ok : Fits E1 f43 (bodyOf f43) oddLS noAnn := by
  constructor
  rw [← odd_eq]
  exact fun x _ => ⟨trivial, rfl, trivial, trivial⟩
theorem oddPure : Pure oddLS mayGet where
  hin := fun _ => rfl
  got := mayPure.got
  closed := fun _ => rfl

def indexVC : Prop := ∀ (x : List Br),
  True →
    (↑x.length : Int) ≤ (9223372036854775807 : Int) →
      (∃ x_1,
          (x_1 ≤ x.length ∧
              x.length ≤ (9223372036854775807 : Nat) ∧ firstOdd x (0 : Nat) = firstOdd (List.drop x_1 x) x_1) ∧
            (↑x_1 : Int) = (0 : Int) ∧ True ∧ True) ∧
        ∀ (x_1 : Nat),
          x_1 ≤ x.length ∧
              x.length ≤ (9223372036854775807 : Nat) ∧ firstOdd x (0 : Nat) = firstOdd (List.drop x_1 x) x_1 →
            (decide ((↑x_1 : Int) < (↑x.length : Int)) = true →
                (0 : Int) ≤ (↑x_1 : Int) ∧
                  (↑x_1 : Int) < (↑x.length : Int) ∧
                    ∀ (y : AA (93 : Nat)),
                      x[(↑x_1 : Int).toNat]? = some y →
                        True ∧
                          ((!mayB { keys := y.keys, lock := y.lock, after := y.after, older := y.older }) = true →
                              firstOdd x (0 : Nat) = (↑x_1 : Int) ∧ True ∧ True) ∧
                            ((!mayB { keys := y.keys, lock := y.lock, after := y.after, older := y.older }) = false →
                              inI64 ((↑x_1 : Int) + (1 : Int)) ∧
                                ∃ y,
                                  (y ≤ x.length ∧
                                      x.length ≤ (9223372036854775807 : Nat) ∧
                                        firstOdd x (0 : Nat) = firstOdd (List.drop y x) y) ∧
                                    x.length - y < x.length - x_1 ∧
                                      (↑y : Int) = (↑x_1 : Int) + (1 : Int) ∧ True ∧ True)) ∧
              (decide ((↑x_1 : Int) < (↑x.length : Int)) = false → firstOdd x (0 : Nat) = (-1 : Int) ∧ True ∧ True)

theorem index_eq : indexVC = fnS E2 f86 (bodyOf f86) indexLS indexAnn := by kernel_rfl
theorem index_vc : indexVC := by
  unfold indexVC
  intro bs _ hl
  refine ⟨⟨0, ⟨Nat.zero_le _, by omega, rfl⟩, rfl, trivial, trivial⟩, ?_⟩
  rintro k ⟨hk, hl2, hf⟩
  refine ⟨fun h1 => ?_, fun h1 => ?_⟩
  · simp only [decide_eq_true_eq] at h1
    refine ⟨by omega, by omega, fun y hy => ⟨trivial, fun h2 => ⟨?_, trivial, trivial⟩, fun h2 => ⟨by unfold inI64; omega, k + 1, ⟨by omega, by omega, ?_⟩, by omega, by omega, trivial, trivial⟩⟩⟩
    all_goals
      have hd : bs.drop k = y :: bs.drop (k + 1) := by
        have h3 : k < bs.length := by omega
        rw [List.drop_eq_getElem_cons h3]
        simp only [Int.toNat_natCast] at hy
        rw [List.getElem?_eq_getElem h3] at hy
        cases hy; rfl
    · rw [hf, hd]
      have h4 : mayB y = false := by simpa using h2
      simp [firstOdd, h4]
    · rw [hf, hd]
      have h4 : mayB y = true := by simpa using h2
      simp [firstOdd, h4]
      rfl
  · simp only [decide_eq_false_iff_not] at h1
    refine ⟨?_, trivial, trivial⟩
    rw [hf, List.drop_of_length_le (by omega)]
    rfl
theorem index_ok : Fits E2 f86 (bodyOf f86) indexLS indexAnn := by
  constructor
  rw [← index_eq]
  exact index_vc

def anyVC : Prop := ∀ (x : List Br),
  True → True ∧ decide (firstOdd x (0 : Nat) ≥ (0 : Int)) = decide (firstOdd x (0 : Nat) ≥ (0 : Int)) ∧ True ∧ True

theorem any_eq : anyVC = fnS E3 f45 (bodyOf f45) anyLS noAnn := by kernel_rfl
theorem any_ok : Fits E3 f45 (bodyOf f45) anyLS noAnn := by
  constructor
  rw [← any_eq]
  exact fun x _ => ⟨trivial, rfl, trivial, trivial⟩

theorem fineB_iff {bs : List Br} : fineB bs = true ↔ Fine bs := by simp [fineB]
theorem fineB_not {bs : List Br} : fineB bs = false ↔ ¬ Fine bs := by simp [fineB]

def check1VC : Prop := ∀ (x : List Br),
  fineB x = true →
    (↑x.length : Int) ≤ (9223372036854775807 : Int) →
      (decide ((↑x.length : Int) < (1 : Int)) = true → (SV.val Value.nilIface : SV AA) = SV.iface (94 : TypeId) (SV.lit IntKind.i64 (1 : Int)) ∧ True ∧ True) ∧
        (decide ((↑x.length : Int) < (1 : Int)) = false →
          (↑x.length : Int) ≤ (9223372036854775807 : Int) →
            (decide ((↑x.length : Int) > (8 : Int)) = true → (SV.val Value.nilIface : SV AA) = SV.iface (94 : TypeId) (SV.lit IntKind.i64 (1 : Int)) ∧ True ∧ True) ∧
              (decide ((↑x.length : Int) > (8 : Int)) = false →
                True ∧
                  (decide (firstOdd x (0 : Nat) ≥ (0 : Int)) = true → (SV.val Value.nilIface : SV AA) = SV.iface (94 : TypeId) (SV.lit IntKind.i64 (1 : Int)) ∧ True ∧ True) ∧
                    (decide (firstOdd x (0 : Nat) ≥ (0 : Int)) = false →
                      (SV.val Value.nilIface : SV AA) = SV.val Value.nilIface ∧ True ∧ True)))

theorem check1_eq : check1VC = fnS E4 f16 (bodyOf f16) (checkLS.one true) noAnn := by kernel_rfl
theorem check1_vc : check1VC := by
  intro bs hc hl
  obtain ⟨h1, h2, h3⟩ := fineB_iff.1 hc
  refine ⟨fun h4 => ?_, fun h4 _ => ⟨fun h5 => ?_, fun h5 => ⟨trivial, fun h6 => ?_, fun h6 => ⟨rfl, trivial, trivial⟩⟩⟩⟩
  · simp only [decide_eq_true_eq] at h4; omega
  · simp only [decide_eq_true_eq] at h5; omega
  · simp only [decide_eq_true_eq] at h6; omega
theorem check1_ok : Fits E4 f16 (bodyOf f16) (checkLS.one true) noAnn := by
  constructor
  rw [← check1_eq]
  exact check1_vc
def check0VC : Prop := ∀ (x : List Br),
  fineB x = false →
    (↑x.length : Int) ≤ (9223372036854775807 : Int) →
      (decide ((↑x.length : Int) < (1 : Int)) = true → (1 : Int) = (1 : Int) ∧ True ∧ True) ∧
        (decide ((↑x.length : Int) < (1 : Int)) = false →
          (↑x.length : Int) ≤ (9223372036854775807 : Int) →
            (decide ((↑x.length : Int) > (8 : Int)) = true → (1 : Int) = (1 : Int) ∧ True ∧ True) ∧
              (decide ((↑x.length : Int) > (8 : Int)) = false →
                True ∧
                  (decide (firstOdd x (0 : Nat) ≥ (0 : Int)) = true → (1 : Int) = (1 : Int) ∧ True ∧ True) ∧
                    (decide (firstOdd x (0 : Nat) ≥ (0 : Int)) = false →
                      (SV.iface (94 : TypeId) (SV.int IntKind.i64 (1 : Int)) : SV AA) = SV.val Value.nilIface ∧ True ∧ True)))

theorem check0_eq : check0VC = fnS E4 f16 (bodyOf f16) (checkLS.one false) noAnn := by kernel_rfl
theorem check0_vc : check0VC := by
  intro bs hc hl
  have hn := fineB_not.1 hc
  refine ⟨fun h4 => ⟨rfl, trivial, trivial⟩, fun h4 _ => ⟨fun h5 => ⟨rfl, trivial, trivial⟩, fun h5 => ⟨trivial, fun h6 => ⟨rfl, trivial, trivial⟩, fun h6 => ?_⟩⟩⟩
  exfalso
  simp only [decide_eq_false_iff_not] at h4 h5 h6
  exact hn ⟨by omega, by omega, by omega⟩
theorem check0_ok : Fits E4 f16 (bodyOf f16) (checkLS.one false) noAnn := by
  constructor
  rw [← check0_eq]
  exact check0_vc
end Go.Proofs.YtcglahfmnoghjaaDoor
