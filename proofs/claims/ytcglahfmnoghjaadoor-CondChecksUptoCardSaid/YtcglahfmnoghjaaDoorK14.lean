/- Contracts of what a condition's opening calls: they hold. Conditions: none. -/
import Derived.Test.YtcglahfmnoghjaaDoorK13
namespace Go.Proofs.YtcglahfmnoghjaaDoor
open Go Go.Eng Go.Proofs.Tryd

def cloneIVC : Prop := ∀ (x : List Int),
  x.length.le (1000000 : Nat) →
    ∀ (b : Bool),
      (x ≠ [] → b = false) →
        (b = true →
            (SV.val (Value.slice none (0 : Nat) (0 : Nat)) : SV AA) = SV.val (Value.slice none (0 : Nat) (0 : Nat)) ∧
              True ∧ x = [] ∧ True) ∧
          (b = false →
            (([] : List Int).length + x.length) * (8 : Nat) ≤ (140737488355328 : Nat) ∧
              ([] : List Int).length + x.length ≤ (1152921504606846976 : Nat) ∧ True ∧ True ∧ x = [] ++ x ∧ True)

theorem cloneI_eq : cloneIVC = fnS E12 f53 (bodyOf f53) cloneILS noAnn := by kernel_rfl
theorem cloneI_vc : cloneIVC := by
  intro x hx b hb
  have hx : x.length ≤ 1000000 := hx
  refine ⟨fun h => ⟨rfl, trivial, ?_, trivial⟩, fun _ => ⟨by simp; omega, by simp; omega, trivial, trivial, rfl, trivial⟩⟩
  by_cases e : x = []
  · exact e
  · rw [hb e] at h; cases h
theorem cloneI_ok : Fits E12 f53 (bodyOf f53) cloneILS noAnn := by
  constructor
  rw [← cloneI_eq]
  exact cloneI_vc
theorem f53_has : Has prog 53 f53 (bodyOf f53) := ⟨by kernel_rfl, by kernel_rfl, by kernel_rfl⟩
theorem known13 : Known prog L13 := by
  unfold L13
  exact known12.lent mixed f53_has E12_eq cloneI_ok (fun _ _ => Nat.zero_le _) (fun _ _ => rfl)

theorem compact_sortI_le (x : List Int) : (Lib.compact (sortI x)).length ≤ x.length := Nat.le_trans (compact_le _) (by rw [sortI_len]; exact Nat.le_refl _)
theorem E13_eq : E13 = EE prog L13 := by
  unfold E13
  rfl
def allVC : Prop := ∀ (x : List Int),
  x.length.le (1000000 : Nat) →
    x = x ∧
      True ∧
        x.length.le (1000000 : Nat) ∧
          x.length < (4611686018427387904 : Nat) ∧
            (sortI x).length ≤ (9223372036854775807 : Nat) ∧
              (Lib.compact (sortI x) = Lib.compact (sortI x) ∧
                  List.replicate (32 : Nat) (0 : Int) = List.replicate (32 : Nat) (0 : Int) ∧
                    (0 : Int) = (0 : Int) ∧ (0 : Int) = (0 : Int) ∧ True) ∧
                (Proofs.YtcglahfmnoghjaaDoor.allOf x =
                      [Br.mk (Lib.compact (sortI x)) (List.replicate (32 : Nat) (0 : Int)) (0 : Int) (0 : Int)] ∧
                    True) ∧
                  True ∧ True

theorem all_eq : allVC = fnS E13 f24 (bodyOf f24) allLS noAnn := by kernel_rfl
theorem all_vc : allVC := by
  intro x hx
  have hx : x.length ≤ 1000000 := hx
  exact ⟨rfl, trivial, hx, by omega, by rw [sortI_len]; omega, ⟨rfl, rfl, rfl, rfl, trivial⟩, ⟨rfl, trivial⟩, trivial, trivial⟩
theorem all_ok : Fits E13 f24 (bodyOf f24) allLS noAnn := by
  constructor
  rw [← all_eq]
  exact all_vc
theorem f24_has : Has prog 24 f24 (bodyOf f24) := ⟨by kernel_rfl, by kernel_rfl, by kernel_rfl⟩
theorem known14 : Known prog L14 := by
  unfold L14
  exact known13.lent mixed f24_has E13_eq all_ok (fun _ _ => Nat.zero_le _) (fun _ _ => rfl)

theorem idxI_step {k x : Int} {l : List Int} {n : Nat} (h : k ≠ x) : idxI k (x :: l) n = idxI k l (n + 1) := by simp [idxI, h]
theorem drop_at {xs : List Int} {j : Nat} (h : j < xs.length) : xs.drop j = xs.getD j 0 :: xs.drop (j + 1) := by
  rw [List.drop_eq_getElem_cons h]
  simp [h]
theorem E14_eq : E14 = EE prog L14 := by
  unfold E14
  rfl
def indexIVC : Prop := ∀ (x : List Int × Int),
  True →
    (↑x.fst.length : Int) ≤ (9223372036854775807 : Int) →
      (∃ x_1,
          (x_1 ≤ x.fst.length ∧
              x.fst.length ≤ (9223372036854775807 : Nat) ∧
                idxI x.snd x.fst (0 : Nat) = idxI x.snd (List.drop x_1 x.fst) x_1) ∧
            (↑x_1 : Int) = (0 : Int) ∧ True ∧ True) ∧
        ∀ (x_1 : Nat),
          x_1 ≤ x.fst.length ∧
              x.fst.length ≤ (9223372036854775807 : Nat) ∧
                idxI x.snd x.fst (0 : Nat) = idxI x.snd (List.drop x_1 x.fst) x_1 →
            (decide ((↑x_1 : Int) < (↑x.fst.length : Int)) = true →
                (0 : Int) ≤ (↑x_1 : Int) ∧
                  (↑x_1 : Int) < (↑x.fst.length : Int) ∧
                    (↑x_1 : Int).toNat < x.fst.length ∧
                      ((x.snd == x.fst.getD (↑x_1 : Int).toNat (0 : Int)) = true →
                          idxI x.snd x.fst (0 : Nat) = (↑x_1 : Int) ∧ True ∧ True) ∧
                        ((x.snd == x.fst.getD (↑x_1 : Int).toNat (0 : Int)) = false →
                          inI64 ((↑x_1 : Int) + (1 : Int)) ∧
                            ∃ y,
                              (y ≤ x.fst.length ∧
                                  x.fst.length ≤ (9223372036854775807 : Nat) ∧
                                    idxI x.snd x.fst (0 : Nat) = idxI x.snd (List.drop y x.fst) y) ∧
                                x.fst.length - y < x.fst.length - x_1 ∧
                                  (↑y : Int) = (↑x_1 : Int) + (1 : Int) ∧ True ∧ True)) ∧
              (decide ((↑x_1 : Int) < (↑x.fst.length : Int)) = false →
                idxI x.snd x.fst (0 : Nat) = (-1 : Int) ∧ True ∧ True)

theorem indexI_eq : indexIVC = fnS E14 f87 (bodyOf f87) indexILS indexIAnn := by kernel_rfl
theorem indexI_vc : indexIVC := by
  rintro ⟨xs, k⟩ _ hl
  simp only at hl ⊢
  refine ⟨⟨0, ⟨Nat.zero_le _, by omega, rfl⟩, rfl, trivial, trivial⟩, ?_⟩
  rintro j ⟨hj, hl2, hf⟩
  refine ⟨fun h1 => ?_, fun h1 => ⟨?_, trivial, trivial⟩⟩
  · simp only [decide_eq_true_eq] at h1
    have hlt : j < xs.length := by omega
    simp only [Int.toNat_natCast]
    refine ⟨by omega, h1, hlt, fun h2 => ⟨?_, trivial, trivial⟩, fun h2 => ⟨by unfold inI64; omega, j + 1, ⟨by omega, hl2, ?_⟩, by omega, by omega, trivial, trivial⟩⟩
    · rw [hf, drop_at hlt]
      have h2 : k = xs.getD j 0 := by simpa using h2
      simp only [idxI, if_pos h2]
    · rw [hf, drop_at hlt, idxI_step (by simpa using h2)]
  · simp only [decide_eq_false_iff_not] at h1
    rw [hf, List.drop_of_length_le (by omega)]
    rfl
theorem indexI_ok : Fits E14 f87 (bodyOf f87) indexILS indexIAnn := by
  constructor
  rw [← indexI_eq]
  exact indexI_vc
theorem f87_has : Has prog 87 f87 (bodyOf f87) := ⟨by kernel_rfl, by kernel_rfl, by kernel_rfl⟩
theorem known15 : Known prog L15 := by
  unfold L15
  exact known14.lent mixed f87_has E14_eq indexI_ok (fun _ _ => Nat.zero_le _) (fun _ _ => rfl)

theorem idxI_ge (k : Int) : ∀ (l : List Int) (n : Nat), idxI k l n ≥ 0 ↔ k ∈ l
  | [], n => by simp [idxI]
  | x :: l, n => by
    by_cases e : k = x
    · simp [idxI, e]
    · simp only [idxI, List.mem_cons, e, false_or]
      exact idxI_ge k l (n + 1)
theorem E15_eq : E15 = EE prog L15 := by
  unfold E15
  rfl
def containsIVC : Prop := ∀ (x : List Int × Int),
  True →
    (x.fst = x.fst ∧ x.snd = x.snd) ∧
      True ∧ True ∧ decide (x.snd ∈ x.fst) = decide (idxI x.snd x.fst (0 : Nat) ≥ (0 : Int)) ∧ True ∧ True

theorem containsI_eq : containsIVC = fnS E15 f47 (bodyOf f47) containsILS noAnn := by kernel_rfl
theorem containsI_vc : containsIVC := by
  intro x _
  refine ⟨⟨rfl, rfl⟩, trivial, trivial, ?_, trivial, trivial⟩
  exact decide_eq_decide.2 (idxI_ge _ _ _).symm
theorem containsI_ok : Fits E15 f47 (bodyOf f47) containsILS noAnn := by
  constructor
  rw [← containsI_eq]
  exact containsI_vc
theorem f47_has : Has prog 47 f47 (bodyOf f47) := ⟨by kernel_rfl, by kernel_rfl, by kernel_rfl⟩
theorem known16 : Known prog L16 := by
  unfold L16
  exact known15.lent mixed f47_has E15_eq containsI_ok (fun _ _ => Nat.zero_le _) (fun _ _ => rfl)

theorem E16_eq : E16 = EE prog L16 := by
  unfold E16
  rfl
def missVC : Prop := ∀ (x : Sn × Int),
  True →
    (x.fst.signed = x.fst.signed ∧ x.snd = x.snd) ∧
      True ∧
        True ∧
          (!decide (x.snd ∈ x.fst.signed)) = !decide (x.snd ∈ x.fst.signed) ∧
            ((x.fst.signed = x.fst.signed ∧
                  x.fst.secret = x.fst.secret ∧ x.fst.height = x.fst.height ∧ x.fst.age = x.fst.age ∧ True) ∧
                True) ∧
              True

theorem miss_eq : missVC = fnS E16 f46 (bodyOf f46) missLS noAnn := by kernel_rfl
theorem miss_vc : missVC := by
  intro x _
  exact ⟨⟨rfl, rfl⟩, trivial, trivial, rfl, ⟨⟨rfl, rfl, rfl, rfl, trivial⟩, trivial⟩, trivial⟩
theorem miss_ok : Fits E16 f46 (bodyOf f46) missLS noAnn := by
  constructor
  rw [← miss_eq]
  exact miss_vc
theorem f46_has : Has prog 46 f46 (bodyOf f46) := ⟨by kernel_rfl, by kernel_rfl, by kernel_rfl⟩
theorem known17 : Known prog L17 := by
  unfold L17
  exact known16.lent mixed f46_has E16_eq miss_ok (fun _ _ => Nat.le_refl _) (fun h => by cases h)

theorem E17_eq : E17 = EE prog L17 := by
  unfold E17
  rfl
def indexFVC : Prop := ∀ (x : Sn × List Int),
  True →
    (↑x.snd.length : Int) ≤ (9223372036854775807 : Int) →
      (∃ x_1,
          (x_1 ≤ x.snd.length ∧
              x.snd.length ≤ (9223372036854775807 : Nat) ∧
                missIdx x.fst.signed x.snd (0 : Nat) = missIdx x.fst.signed (List.drop x_1 x.snd) x_1) ∧
            (↑x_1 : Int) = (0 : Int) ∧
              ((x.fst.signed = x.fst.signed ∧
                    x.fst.secret = x.fst.secret ∧ x.fst.height = x.fst.height ∧ x.fst.age = x.fst.age ∧ True) ∧
                  True) ∧
                True) ∧
        ∀ (x_1 : Nat),
          x_1 ≤ x.snd.length ∧
              x.snd.length ≤ (9223372036854775807 : Nat) ∧
                missIdx x.fst.signed x.snd (0 : Nat) = missIdx x.fst.signed (List.drop x_1 x.snd) x_1 →
            (decide ((↑x_1 : Int) < (↑x.snd.length : Int)) = true →
                (0 : Int) ≤ (↑x_1 : Int) ∧
                  (↑x_1 : Int) < (↑x.snd.length : Int) ∧
                    (↑x_1 : Int).toNat < x.snd.length ∧
                      (x.snd.getD (↑x_1 : Int).toNat (0 : Int) = x.snd.getD (↑x_1 : Int).toNat (0 : Int) ∧ True) ∧
                        ((x.fst.signed = x.fst.signed ∧
                              x.fst.secret = x.fst.secret ∧
                                x.fst.height = x.fst.height ∧ x.fst.age = x.fst.age ∧ True) ∧
                            True) ∧
                          True ∧
                            ((!decide (x.snd.getD (↑x_1 : Int).toNat (0 : Int) ∈ x.fst.signed)) = true →
                                missIdx x.fst.signed x.snd (0 : Nat) = (↑x_1 : Int) ∧
                                  ((x.fst.signed = x.fst.signed ∧
                                        x.fst.secret = x.fst.secret ∧
                                          x.fst.height = x.fst.height ∧ x.fst.age = x.fst.age ∧ True) ∧
                                      True) ∧
                                    True) ∧
                              ((!decide (x.snd.getD (↑x_1 : Int).toNat (0 : Int) ∈ x.fst.signed)) = false →
                                inI64 ((↑x_1 : Int) + (1 : Int)) ∧
                                  ∃ y,
                                    (y ≤ x.snd.length ∧
                                        x.snd.length ≤ (9223372036854775807 : Nat) ∧
                                          missIdx x.fst.signed x.snd (0 : Nat) =
                                            missIdx x.fst.signed (List.drop y x.snd) y) ∧
                                      x.snd.length - y < x.snd.length - x_1 ∧
                                        (↑y : Int) = (↑x_1 : Int) + (1 : Int) ∧
                                          ((x.fst.signed = x.fst.signed ∧
                                                x.fst.secret = x.fst.secret ∧
                                                  x.fst.height = x.fst.height ∧ x.fst.age = x.fst.age ∧ True) ∧
                                              True) ∧
                                            True)) ∧
              (decide ((↑x_1 : Int) < (↑x.snd.length : Int)) = false →
                missIdx x.fst.signed x.snd (0 : Nat) = (-1 : Int) ∧
                  ((x.fst.signed = x.fst.signed ∧
                        x.fst.secret = x.fst.secret ∧ x.fst.height = x.fst.height ∧ x.fst.age = x.fst.age ∧ True) ∧
                      True) ∧
                    True)

theorem indexF_eq : indexFVC = fnS E17 f88 (bodyOf f88) indexFLS indexFAnn := by kernel_rfl
theorem indexF_vc : indexFVC := by
  rintro ⟨s, xs⟩ _ hl
  simp only [and_true, true_and] at hl ⊢
  refine ⟨⟨0, ⟨Nat.zero_le _, by omega, rfl⟩, rfl⟩, ?_⟩
  rintro j ⟨hj, hl2, hf⟩
  refine ⟨fun h1 => ?_, fun h1 => ?_⟩
  · simp only [decide_eq_true_eq] at h1
    have hlt : j < xs.length := by omega
    simp only [Int.toNat_natCast]
    refine ⟨by omega, h1, hlt, fun h2 => ?_, fun h2 => ⟨by unfold inI64; omega, j + 1, ⟨by omega, hl2, ?_⟩, by omega, by omega⟩⟩
    · rw [hf, drop_at hlt]
      have h2 : ¬ xs.getD j 0 ∈ s.signed := by simpa using h2
      simp only [missIdx, if_neg h2]
    · rw [hf, drop_at hlt]
      have h2 : xs.getD j 0 ∈ s.signed := by simpa using h2
      simp only [missIdx, if_pos h2]
  · simp only [decide_eq_false_iff_not] at h1
    rw [hf, List.drop_of_length_le (by omega)]
    rfl
theorem indexF_ok : Fits E17 f88 (bodyOf f88) indexFLS indexFAnn := by
  constructor
  rw [← indexF_eq]
  exact indexF_vc
theorem f88_has : Has prog 88 f88 (bodyOf f88) := ⟨by kernel_rfl, by kernel_rfl, by kernel_rfl⟩
theorem known18 : Known prog L18 := by
  unfold L18
  exact known17.lent mixed f88_has E17_eq indexF_ok (fun _ _ => Nat.le_refl _) (fun h => by cases h)

theorem E18_eq : E18 = EE prog L18 := by
  unfold E18
  rfl
def anyFVC : Prop := ∀ (x : Sn × List Int),
  True →
    (x.snd = x.snd ∧ Fn.func (46 : FuncId) = Fn.func (46 : FuncId) ∧ True ∧ True ∧ True) ∧
      ((x.fst.signed = x.fst.signed ∧
            x.fst.secret = x.fst.secret ∧ x.fst.height = x.fst.height ∧ x.fst.age = x.fst.age ∧ True) ∧
          True) ∧
        True ∧
          decide (missIdx x.fst.signed x.snd (0 : Nat) ≥ (0 : Int)) =
              decide (missIdx x.fst.signed x.snd (0 : Nat) ≥ (0 : Int)) ∧
            ((x.fst.signed = x.fst.signed ∧
                  x.fst.secret = x.fst.secret ∧ x.fst.height = x.fst.height ∧ x.fst.age = x.fst.age ∧ True) ∧
                True) ∧
              True

theorem anyF_eq : anyFVC = fnS E18 f48 (bodyOf f48) anyFLS noAnn := by kernel_rfl
theorem anyF_vc : anyFVC := by
  intro x _
  exact ⟨⟨rfl, rfl, trivial, trivial, trivial⟩, ⟨⟨rfl, rfl, rfl, rfl, trivial⟩, trivial⟩, trivial, rfl, ⟨⟨rfl, rfl, rfl, rfl, trivial⟩, trivial⟩, trivial⟩
theorem anyF_ok : Fits E18 f48 (bodyOf f48) anyFLS noAnn := by
  constructor
  rw [← anyF_eq]
  exact anyF_vc
theorem f48_has : Has prog 48 f48 (bodyOf f48) := ⟨by kernel_rfl, by kernel_rfl, by kernel_rfl⟩
theorem known19 : Known prog L19 := by
  unfold L19
  exact known18.lent mixed f48_has E18_eq anyF_ok (fun _ _ => Nat.le_refl _) (fun h => by cases h)
theorem missIdx_ge (s : List Int) : ∀ (l : List Int) (n : Nat), missIdx s l n ≥ 0 ↔ ∃ k ∈ l, k ∉ s
  | [], n => by simp [missIdx]
  | x :: l, n => by
    by_cases e : x ∈ s
    · simp only [missIdx, List.mem_cons, exists_eq_or_imp, e, not_true, false_or]
      exact missIdx_ge s l (n + 1)
    · simp [missIdx, e]
end Go.Proofs.YtcglahfmnoghjaaDoor
