/- Part 4 of the texts behind the last one: what they say stands ahead of each. Conditions: none. -/
import Derived.Test.YtcglahfmnoghjaaGreatDoorMa3
import GoSem.ClaimChange
import Derived.ProofKit
import Derived.Carry
import Derived.Test.YtcglahfmnoghjaaGreatDoorRows
import Derived.Test.YtcglahfmnoghjaaGreatDoorCards
import Derived.Test.YtcglahfmnoghjaaGreatDoorTie
import Derived.Deep.DeepHandedRow
import Derived.LaidLaws
import Derived.LaidHandle
/-! Contracts of what a condition's opening calls: they hold. Conditions: none. -/
namespace Go.Proofs.YtcglahfmnoghjaaGreatDoor
open Go Go.Eng Go.Proofs.Tryz

def cloneIVC : Prop := ∀ (x : List Int),
  x.length.le (1000000 : Nat) →
    ∀ (b : Bool),
      (x ≠ [] → b = false) →
        (b = true →
            (SV.val (Value.slice none (0 : Nat) (0 : Nat)) : SV AA) = SV.val (Value.slice none (0 : Nat) (0 : Nat)) ∧
              True ∧ x = [] ∧ True) ∧
          (b = false →
            (([] : List Int).length + x.length) * (8 : Nat) ≤ (140737488355328 : Nat) ∧
              ([] : List Int).length + x.length ≤ (1152921504606846976 : Nat) ∧ True ∧ True ∧ x = [] ++ x ∧ True)
theorem cloneI_eq : cloneIVC = fnS E12 f83 (bodyOf f83) cloneILS noAnn := by kernel_rfl
theorem cloneI_vc : cloneIVC := by
  intro x hx b hb
  have hx : x.length ≤ 1000000 := hx
  refine ⟨fun h => ⟨rfl, trivial, ?_, trivial⟩, fun _ => ⟨by simp; omega, by simp; omega, trivial, trivial, rfl, trivial⟩⟩
  by_cases e : x = []
  · exact e
  · rw [hb e] at h; cases h
theorem cloneI_ok : Fits E12 f83 (bodyOf f83) cloneILS noAnn := by
  constructor
  rw [← cloneI_eq]
  exact cloneI_vc
theorem f53_has : Has prog 83 f83 (bodyOf f83) := ⟨by kernel_rfl, by kernel_rfl, by kernel_rfl⟩
theorem known13 : Known prog L13 := by
  unfold L13
  exact known12.lent mixed f53_has E12_eq cloneI_ok (fun _ _ => Nat.zero_le _) (fun _ _ => rfl)

theorem compact_sortI_le (x : List Int) : (Lib.compact (sortI x)).length ≤ x.length := Nat.le_trans (compact_le _) (by rw [sortI_len]; exact Nat.le_refl _)
theorem E13_eq : E13 = EE prog L13 := by
  unfold E13
  rfl
def allVC : Prop := ∀ (x : List Int),
  x.length.le (1000000 : Nat) →
    x = x ∧
      True ∧
        x.length.le (1000000 : Nat) ∧
          x.length < (4611686018427387904 : Nat) ∧
            (sortI x).length ≤ (9223372036854775807 : Nat) ∧
              (Lib.compact (sortI x) = Lib.compact (sortI x) ∧
                  List.replicate (32 : Nat) (0 : Int) = List.replicate (32 : Nat) (0 : Int) ∧
                    (0 : Int) = (0 : Int) ∧ (0 : Int) = (0 : Int) ∧ True) ∧
                (Proofs.YtcglahfmnoghjaaGreatDoor.allOf x =
                      [Br.mk (Lib.compact (sortI x)) (List.replicate (32 : Nat) (0 : Int)) (0 : Int) (0 : Int)] ∧
                    True) ∧
                  True ∧ True
theorem all_eq : allVC = fnS E13 f36 (bodyOf f36) allLS noAnn := by kernel_rfl
theorem all_vc : allVC := by
  intro x hx
  have hx : x.length ≤ 1000000 := hx
  exact ⟨rfl, trivial, hx, by omega, by rw [sortI_len]; omega, ⟨rfl, rfl, rfl, rfl, trivial⟩, ⟨rfl, trivial⟩, trivial, trivial⟩
theorem all_ok : Fits E13 f36 (bodyOf f36) allLS noAnn := by
  constructor
  rw [← all_eq]
  exact all_vc
theorem f24_has : Has prog 36 f36 (bodyOf f36) := ⟨by kernel_rfl, by kernel_rfl, by kernel_rfl⟩
theorem known14 : Known prog L14 := by
  unfold L14
  exact known13.lent mixed f24_has E13_eq all_ok (fun _ _ => Nat.zero_le _) (fun _ _ => rfl)

theorem idxI_step {k x : Int} {l : List Int} {n : Nat} (h : k ≠ x) : idxI k (x :: l) n = idxI k l (n + 1) := by simp [idxI, h]
theorem drop_at {xs : List Int} {j : Nat} (h : j < xs.length) : xs.drop j = xs.getD j 0 :: xs.drop (j + 1) := by
  rw [List.drop_eq_getElem_cons h]
  simp [h]
theorem E14_eq : E14 = EE prog L14 := by
  unfold E14
  rfl
def indexIVC : Prop := ∀ (x : List Int × Int),
  True →
    (↑x.fst.length : Int) ≤ (9223372036854775807 : Int) →
      (∃ x_1,
          (x_1 ≤ x.fst.length ∧
              x.fst.length ≤ (9223372036854775807 : Nat) ∧
                idxI x.snd x.fst (0 : Nat) = idxI x.snd (List.drop x_1 x.fst) x_1) ∧
            (↑x_1 : Int) = (0 : Int) ∧ True ∧ True) ∧
        ∀ (x_1 : Nat),
          x_1 ≤ x.fst.length ∧
              x.fst.length ≤ (9223372036854775807 : Nat) ∧
                idxI x.snd x.fst (0 : Nat) = idxI x.snd (List.drop x_1 x.fst) x_1 →
            (decide ((↑x_1 : Int) < (↑x.fst.length : Int)) = true →
                (0 : Int) ≤ (↑x_1 : Int) ∧
                  (↑x_1 : Int) < (↑x.fst.length : Int) ∧
                    (↑x_1 : Int).toNat < x.fst.length ∧
                      ((x.snd == x.fst.getD (↑x_1 : Int).toNat (0 : Int)) = true →
                          idxI x.snd x.fst (0 : Nat) = (↑x_1 : Int) ∧ True ∧ True) ∧
                        ((x.snd == x.fst.getD (↑x_1 : Int).toNat (0 : Int)) = false →
                          inI64 ((↑x_1 : Int) + (1 : Int)) ∧
                            ∃ y,
                              (y ≤ x.fst.length ∧
                                  x.fst.length ≤ (9223372036854775807 : Nat) ∧
                                    idxI x.snd x.fst (0 : Nat) = idxI x.snd (List.drop y x.fst) y) ∧
                                x.fst.length - y < x.fst.length - x_1 ∧
                                  (↑y : Int) = (↑x_1 : Int) + (1 : Int) ∧ True ∧ True)) ∧
              (decide ((↑x_1 : Int) < (↑x.fst.length : Int)) = false →
                idxI x.snd x.fst (0 : Nat) = (-1 : Int) ∧ True ∧ True)
theorem indexI_eq : indexIVC = fnS E14 f124 (bodyOf f124) indexILS indexIAnn := by kernel_rfl
theorem indexI_vc : indexIVC := by
  rintro ⟨xs, k⟩ _ hl
  simp only at hl ⊢
  refine ⟨⟨0, ⟨Nat.zero_le _, by omega, rfl⟩, rfl, trivial, trivial⟩, ?_⟩
  rintro j ⟨hj, hl2, hf⟩
  refine ⟨fun h1 => ?_, fun h1 => ⟨?_, trivial, trivial⟩⟩
  · simp only [decide_eq_true_eq] at h1
    have hlt : j < xs.length := by omega
    simp only [Int.toNat_natCast]
    refine ⟨by omega, h1, hlt, fun h2 => ⟨?_, trivial, trivial⟩, fun h2 => ⟨by unfold inI64; omega, j + 1, ⟨by omega, hl2, ?_⟩, by omega, by omega, trivial, trivial⟩⟩
    · rw [hf, drop_at hlt]
      have h2 : k = xs.getD j 0 := by simpa using h2
      simp only [idxI, if_pos h2]
    · rw [hf, drop_at hlt, idxI_step (by simpa using h2)]
  · simp only [decide_eq_false_iff_not] at h1
    rw [hf, List.drop_of_length_le (by omega)]
    rfl
theorem indexI_ok : Fits E14 f124 (bodyOf f124) indexILS indexIAnn := by
  constructor
  rw [← indexI_eq]
  exact indexI_vc
theorem f87_has : Has prog 124 f124 (bodyOf f124) := ⟨by kernel_rfl, by kernel_rfl, by kernel_rfl⟩
theorem known15 : Known prog L15 := by
  unfold L15
  exact known14.lent mixed f87_has E14_eq indexI_ok (fun _ _ => Nat.zero_le _) (fun _ _ => rfl)

theorem idxI_ge (k : Int) : ∀ (l : List Int) (n : Nat), idxI k l n ≥ 0 ↔ k ∈ l
  | [], n => by simp [idxI]
  | x :: l, n => by
    by_cases e : k = x
    · simp [idxI, e]
    · simp only [idxI, List.mem_cons, e, false_or]
      exact idxI_ge k l (n + 1)
theorem E15_eq : E15 = EE prog L15 := by
  unfold E15
  rfl
def containsIVC : Prop := ∀ (x : List Int × Int),
  True →
    (x.fst = x.fst ∧ x.snd = x.snd) ∧
      True ∧ True ∧ decide (x.snd ∈ x.fst) = decide (idxI x.snd x.fst (0 : Nat) ≥ (0 : Int)) ∧ True ∧ True
theorem containsI_eq : containsIVC = fnS E15 f92 (bodyOf f92) containsILS noAnn := by kernel_rfl
theorem containsI_vc : containsIVC := by
  intro x _
  refine ⟨⟨rfl, rfl⟩, trivial, trivial, ?_, trivial, trivial⟩
  exact decide_eq_decide.2 (idxI_ge _ _ _).symm
theorem containsI_ok : Fits E15 f92 (bodyOf f92) containsILS noAnn := by
  constructor
  rw [← containsI_eq]
  exact containsI_vc
theorem f47_has : Has prog 92 f92 (bodyOf f92) := ⟨by kernel_rfl, by kernel_rfl, by kernel_rfl⟩
theorem known16 : Known prog L16 := by
  unfold L16
  exact known15.lent mixed f47_has E15_eq containsI_ok (fun _ _ => Nat.zero_le _) (fun _ _ => rfl)

theorem E16_eq : E16 = EE prog L16 := by
  unfold E16
  rfl
def missVC : Prop := ∀ (x : Sn × Int),
  True →
    (x.fst.signed = x.fst.signed ∧ x.snd = x.snd) ∧
      True ∧
        True ∧
          (!decide (x.snd ∈ x.fst.signed)) = !decide (x.snd ∈ x.fst.signed) ∧
            ((x.fst.signed = x.fst.signed ∧
                  x.fst.secret = x.fst.secret ∧ x.fst.height = x.fst.height ∧ x.fst.age = x.fst.age ∧ True) ∧
                True) ∧
              True
theorem miss_eq : missVC = fnS E16 f91 (bodyOf f91) missLS noAnn := by kernel_rfl
theorem miss_vc : missVC := by
  intro x _
  exact ⟨⟨rfl, rfl⟩, trivial, trivial, rfl, ⟨⟨rfl, rfl, rfl, rfl, trivial⟩, trivial⟩, trivial⟩
theorem miss_ok : Fits E16 f91 (bodyOf f91) missLS noAnn := by
  constructor
  rw [← miss_eq]
  exact miss_vc
theorem f46_has : Has prog 91 f91 (bodyOf f91) := ⟨by kernel_rfl, by kernel_rfl, by kernel_rfl⟩
theorem known17 : Known prog L17 := by
  unfold L17
  exact known16.lent mixed f46_has E16_eq miss_ok (fun _ _ => Nat.le_refl _) (fun h => by cases h)

theorem E17_eq : E17 = EE prog L17 := by
  unfold E17
  rfl
def indexFVC : Prop := ∀ (x : Sn × List Int),
  True →
    (↑x.snd.length : Int) ≤ (9223372036854775807 : Int) →
      (∃ x_1,
          (x_1 ≤ x.snd.length ∧
              x.snd.length ≤ (9223372036854775807 : Nat) ∧
                missIdx x.fst.signed x.snd (0 : Nat) = missIdx x.fst.signed (List.drop x_1 x.snd) x_1) ∧
            (↑x_1 : Int) = (0 : Int) ∧
              ((x.fst.signed = x.fst.signed ∧
                    x.fst.secret = x.fst.secret ∧ x.fst.height = x.fst.height ∧ x.fst.age = x.fst.age ∧ True) ∧
                  True) ∧
                True) ∧
        ∀ (x_1 : Nat),
          x_1 ≤ x.snd.length ∧
              x.snd.length ≤ (9223372036854775807 : Nat) ∧
                missIdx x.fst.signed x.snd (0 : Nat) = missIdx x.fst.signed (List.drop x_1 x.snd) x_1 →
            (decide ((↑x_1 : Int) < (↑x.snd.length : Int)) = true →
                (0 : Int) ≤ (↑x_1 : Int) ∧
                  (↑x_1 : Int) < (↑x.snd.length : Int) ∧
                    (↑x_1 : Int).toNat < x.snd.length ∧
                      (x.snd.getD (↑x_1 : Int).toNat (0 : Int) = x.snd.getD (↑x_1 : Int).toNat (0 : Int) ∧ True) ∧
                        ((x.fst.signed = x.fst.signed ∧
                              x.fst.secret = x.fst.secret ∧
                                x.fst.height = x.fst.height ∧ x.fst.age = x.fst.age ∧ True) ∧
                            True) ∧
                          True ∧
                            ((!decide (x.snd.getD (↑x_1 : Int).toNat (0 : Int) ∈ x.fst.signed)) = true →
                                missIdx x.fst.signed x.snd (0 : Nat) = (↑x_1 : Int) ∧
                                  ((x.fst.signed = x.fst.signed ∧
                                        x.fst.secret = x.fst.secret ∧
                                          x.fst.height = x.fst.height ∧ x.fst.age = x.fst.age ∧ True) ∧
                                      True) ∧
                                    True) ∧
                              ((!decide (x.snd.getD (↑x_1 : Int).toNat (0 : Int) ∈ x.fst.signed)) = false →
                                inI64 ((↑x_1 : Int) + (1 : Int)) ∧
                                  ∃ y,
                                    (y ≤ x.snd.length ∧
                                        x.snd.length ≤ (9223372036854775807 : Nat) ∧
                                          missIdx x.fst.signed x.snd (0 : Nat) =
                                            missIdx x.fst.signed (List.drop y x.snd) y) ∧
                                      x.snd.length - y < x.snd.length - x_1 ∧
                                        (↑y : Int) = (↑x_1 : Int) + (1 : Int) ∧
                                          ((x.fst.signed = x.fst.signed ∧
                                                x.fst.secret = x.fst.secret ∧
                                                  x.fst.height = x.fst.height ∧ x.fst.age = x.fst.age ∧ True) ∧
                                              True) ∧
                                            True)) ∧
              (decide ((↑x_1 : Int) < (↑x.snd.length : Int)) = false →
                missIdx x.fst.signed x.snd (0 : Nat) = (-1 : Int) ∧
                  ((x.fst.signed = x.fst.signed ∧
                        x.fst.secret = x.fst.secret ∧ x.fst.height = x.fst.height ∧ x.fst.age = x.fst.age ∧ True) ∧
                      True) ∧
                    True)
theorem indexF_eq : indexFVC = fnS E17 f125 (bodyOf f125) indexFLS indexFAnn := by kernel_rfl
theorem indexF_vc : indexFVC := by
  rintro ⟨s, xs⟩ _ hl
  simp only [and_true, true_and] at hl ⊢
  refine ⟨⟨0, ⟨Nat.zero_le _, by omega, rfl⟩, rfl⟩, ?_⟩
  rintro j ⟨hj, hl2, hf⟩
  refine ⟨fun h1 => ?_, fun h1 => ?_⟩
  · simp only [decide_eq_true_eq] at h1
    have hlt : j < xs.length := by omega
    simp only [Int.toNat_natCast]
    refine ⟨by omega, h1, hlt, fun h2 => ?_, fun h2 => ⟨by unfold inI64; omega, j + 1, ⟨by omega, hl2, ?_⟩, by omega, by omega⟩⟩
    · rw [hf, drop_at hlt]
      have h2 : ¬ xs.getD j 0 ∈ s.signed := by simpa using h2
      simp only [missIdx, if_neg h2]
    · rw [hf, drop_at hlt]
      have h2 : xs.getD j 0 ∈ s.signed := by simpa using h2
      simp only [missIdx, if_pos h2]
  · simp only [decide_eq_false_iff_not] at h1
    rw [hf, List.drop_of_length_le (by omega)]
    rfl
theorem indexF_ok : Fits E17 f125 (bodyOf f125) indexFLS indexFAnn := by
  constructor
  rw [← indexF_eq]
  exact indexF_vc
theorem f88_has : Has prog 125 f125 (bodyOf f125) := ⟨by kernel_rfl, by kernel_rfl, by kernel_rfl⟩
theorem known18 : Known prog L18 := by
  unfold L18
  exact known17.lent mixed f88_has E17_eq indexF_ok (fun _ _ => Nat.le_refl _) (fun h => by cases h)

theorem E18_eq : E18 = EE prog L18 := by
  unfold E18
  rfl
def anyFVC : Prop := ∀ (x : Sn × List Int),
  True →
    (x.snd = x.snd ∧ Fn.func (91 : FuncId) = Fn.func (91 : FuncId) ∧ True ∧ True ∧ True) ∧
      ((x.fst.signed = x.fst.signed ∧
            x.fst.secret = x.fst.secret ∧ x.fst.height = x.fst.height ∧ x.fst.age = x.fst.age ∧ True) ∧
          True) ∧
        True ∧
          decide (missIdx x.fst.signed x.snd (0 : Nat) ≥ (0 : Int)) =
              decide (missIdx x.fst.signed x.snd (0 : Nat) ≥ (0 : Int)) ∧
            ((x.fst.signed = x.fst.signed ∧
                  x.fst.secret = x.fst.secret ∧ x.fst.height = x.fst.height ∧ x.fst.age = x.fst.age ∧ True) ∧
                True) ∧
              True
theorem anyF_eq : anyFVC = fnS E18 f93 (bodyOf f93) anyFLS noAnn := by kernel_rfl
theorem anyF_vc : anyFVC := by
  intro x _
  exact ⟨⟨rfl, rfl, trivial, trivial, trivial⟩, ⟨⟨rfl, rfl, rfl, rfl, trivial⟩, trivial⟩, trivial, rfl, ⟨⟨rfl, rfl, rfl, rfl, trivial⟩, trivial⟩, trivial⟩
theorem anyF_ok : Fits E18 f93 (bodyOf f93) anyFLS noAnn := by
  constructor
  rw [← anyF_eq]
  exact anyF_vc
theorem f48_has : Has prog 93 f93 (bodyOf f93) := ⟨by kernel_rfl, by kernel_rfl, by kernel_rfl⟩
theorem known19 : Known prog L19 := by
  unfold L19
  exact known18.lent mixed f48_has E18_eq anyF_ok (fun _ _ => Nat.le_refl _) (fun h => by cases h)
theorem missIdx_ge (s : List Int) : ∀ (l : List Int) (n : Nat), missIdx s l n ≥ 0 ↔ ∃ k ∈ l, k ∉ s
  | [], n => by simp [missIdx]
  | x :: l, n => by
    by_cases e : x ∈ s
    · simp only [missIdx, List.mem_cons, exists_eq_or_imp, e, not_true, false_or]
      exact missIdx_ge s l (n + 1)
    · simp [missIdx, e]
end Go.Proofs.YtcglahfmnoghjaaGreatDoor

/-! A condition's opening, and the first law: what they say. Conditions: none. -/
namespace Go.Proofs.YtcglahfmnoghjaaGreatDoor
open Go Go.Eng Go.Proofs.Tryz

theorem E19_eq : E19 = EE prog L19 := by
  unfold E19
  rfl
/-- A check's answer, by its number. -/
noncomputable def checkN (bs : List Br) : Int := cond (fineB bs) 0 1
noncomputable def checkELS : LS AA where
  X := List Br
  pre := fun _ => True
  args := fun bs => [.agg (.cell (.rseq 102 bs) .nil)]
  hin := fun _ => []
  res := fun bs => [.err 111 (checkN bs)]
  hout := fun _ => []
def condG (t : Nat) (sh : List (SO AA)) : SV AA → Option (List (AA t))
  | .agg (.cell s .nil) => seqOfS t sh s
  | _ => none
def checkEGet (args : List (SV AA)) (sh : List (SO AA)) : Option (List Br) := match args with
  | [c] => condG 102 sh c
  | _ => none
def L19c : List (Nat × SpecT AA) := (53, tLent checkELS checkEGet) :: L19
noncomputable def E19c : Eng AA := EE prog L19c
def zeros32 : List Int := List.replicate 32 0
/-- An opening's answer, by its number. -/
noncomputable def opensN (H : List Int → List Int) (bs : List Br) (br : Int) (s : Sn) : Int :=
  cond (fineB bs) (if br < 0 ∨ (bs.length : Int) ≤ br then 4 else match bs[br.toNat]? with
    | none => 4
    | some b => if missIdx s.signed b.keys 0 ≥ 0 then 21 else if b.lock ≠ zeros32 ∧ b.lock ≠ H s.secret then 22 else if s.height < b.after ∨ s.age < b.older then 23 else 0) 1
noncomputable def opens0LS : LS AA where
  X := List Br × Int × Sn
  pre := fun x => ∀ b, b ∈ x.1 → b.lock = zeros32
  args := fun x => [.agg (.cell (.rseq 102 x.1) .nil), .int .i64 x.2.1, .agg (snSL x.2.2)]
  hin := fun _ => []
  res := fun x => [.err 111 (opensN (fun _ => []) x.1 x.2.1 x.2.2)]
  hout := fun _ => []
def opensGet (args : List (SV AA)) (sh : List (SO AA)) : Option (List Br × Int × Sn) := match args with
  | [c, b, .agg s] => match condG 102 sh c, asI b, decSn sh s with
    | some bs, some b, some s => some (bs, b, s)
    | _, _, _ => none
  | _ => none
def L20 : List (Nat × SpecT AA) := (46, tLent opens0LS opensGet) :: L19c
noncomputable def E20 : Eng AA := EE prog L20
def sureLS : LS AA where
  X := Unit
  pre := fun _ => True
  args := fun _ => []
  hin := fun _ => []
  res := fun _ => [.bl true]
  hout := fun _ => []
def sureGet (args : List (SV AA)) (_ : List (SO AA)) : Option Unit := match args with
  | [] => some ()
  | _ => none
def L21 : List (Nat × SpecT AA) := (20, tLent sureLS sureGet) :: L20
noncomputable def E21 : Eng AA := EE prog L21
def checksLS : LS AA where
  X := List Br
  pre := fun bs => weight bs ≤ 1099511627776
  args := fun bs => [.agg (.cell (.rseq 85 bs) .nil)]
  hin := fun _ => []
  res := fun _ => [.sb 0 true]
  hout := fun _ => []
end Go.Proofs.YtcglahfmnoghjaaGreatDoor

/-! A condition's opening, and the first law: they hold. Conditions: none. -/
namespace Go.Proofs.YtcglahfmnoghjaaGreatDoor
open Go Go.Eng Go.Proofs.Tryz

theorem checkN_zero {bs : List Br} : checkN bs = 0 ↔ fineB bs = true := by
  unfold checkN
  cases fineB bs <;> simp
theorem checkN_fine {bs : List Br} (h : fineB bs = true) : checkN bs = 0 := checkN_zero.2 h
theorem checkN_not {bs : List Br} (h : ¬ Fine bs) : checkN bs = 1 := by
  have : fineB bs = false := fineB_not.2 h
  simp [checkN, this]
def checkEVC : Prop := ∀ (x : List Br),
  True →
    (↑x.length : Int) ≤ (9223372036854775807 : Int) →
      (decide ((↑x.length : Int) < (1 : Int)) = true → (checkN x = (1 : Int) ∧ (1 : Int) ≠ (0 : Int)) ∧ True ∧ True) ∧
        (decide ((↑x.length : Int) < (1 : Int)) = false →
          (↑x.length : Int) ≤ (9223372036854775807 : Int) →
            (decide ((↑x.length : Int) > (8 : Int)) = true →
                (checkN x = (1 : Int) ∧ (1 : Int) ≠ (0 : Int)) ∧ True ∧ True) ∧
              (decide ((↑x.length : Int) > (8 : Int)) = false →
                True ∧
                  (decide (firstOdd x (0 : Nat) ≥ (0 : Int)) = true →
                      (checkN x = (1 : Int) ∧ (1 : Int) ≠ (0 : Int)) ∧ True ∧ True) ∧
                    (decide (firstOdd x (0 : Nat) ≥ (0 : Int)) = false → checkN x = (0 : Int) ∧ True ∧ True)))
theorem checkE_eq : checkEVC = fnS E19 f53 (bodyOf f53) checkELS noAnn := by kernel_rfl
theorem checkE_vc : checkEVC := by
  intro bs _ hl
  refine ⟨fun h1 => ⟨⟨checkN_not fun hf => ?_, by decide⟩, trivial, trivial⟩, fun h1 _ => ⟨fun h2 => ⟨⟨checkN_not fun hf => ?_, by decide⟩, trivial, trivial⟩, fun h2 => ⟨trivial, fun h3 => ⟨⟨checkN_not fun hf => ?_, by decide⟩, trivial, trivial⟩, fun h3 => ⟨checkN_fine (fineB_iff.2 ?_), trivial, trivial⟩⟩⟩⟩
  all_goals simp only [decide_eq_true_eq, decide_eq_false_iff_not] at *
  · have := hf.1; omega
  · have := hf.2.1; omega
  · have := hf.2.2; omega
  · exact ⟨by omega, by omega, by omega⟩
theorem checkE_ok : Fits E19 f53 (bodyOf f53) checkELS noAnn := by
  constructor
  rw [← checkE_eq]
  exact checkE_vc
theorem f16_has : Has prog 53 f53 (bodyOf f53) := ⟨by kernel_rfl, by kernel_rfl, by kernel_rfl⟩
theorem known19c : Known prog L19c := by
  unfold L19c
  exact known19.lent mixed f16_has E19_eq checkE_ok (fun _ _ => Nat.le_refl _) (fun _ _ => rfl)

theorem E19c_eq : E19c = EE prog L19c := by
  unfold E19c
  rfl
theorem opensN_fine {H : List Int → List Int} {bs : List Br} {br : Int} {s : Sn} (h : fineB bs = true) : opensN H bs br s = if br < 0 ∨ (bs.length : Int) ≤ br then 4 else match bs[br.toNat]? with
    | none => 4
    | some b => if missIdx s.signed b.keys 0 ≥ 0 then 21 else if b.lock ≠ zeros32 ∧ b.lock ≠ H s.secret then 22 else if s.height < b.after ∨ s.age < b.older then 23 else 0 := by
  unfold opensN
  rw [h]
  rfl
theorem opensN_not {H : List Int → List Int} {bs : List Br} {br : Int} {s : Sn} (h : fineB bs = false) : opensN H bs br s = 1 := by
  unfold opensN
  rw [h]
  rfl
def opens0VC : Prop := ∀ (x : List Br × Int × Sn),
  (∀ (b : Br), b ∈ x.fst → b.lock = zeros32) →
    (x.fst = x.fst ∧ True) ∧
      True ∧
        True ∧
          ((!checkN x.fst == (0 : Int)) = true →
              opensN (fun _ => []) x.fst x.snd.fst x.snd.snd = checkN x.fst ∧ True ∧ True) ∧
            ((!checkN x.fst == (0 : Int)) = false →
              (decide (x.snd.fst < (0 : Int)) = true →
                  (opensN (fun _ => []) x.fst x.snd.fst x.snd.snd = (4 : Int) ∧ (4 : Int) ≠ (0 : Int)) ∧ True ∧ True) ∧
                (decide (x.snd.fst < (0 : Int)) = false →
                  (↑x.fst.length : Int) ≤ (9223372036854775807 : Int) →
                    (decide (x.snd.fst ≥ (↑x.fst.length : Int)) = true →
                        (opensN (fun _ => []) x.fst x.snd.fst x.snd.snd = (4 : Int) ∧ (4 : Int) ≠ (0 : Int)) ∧
                          True ∧ True) ∧
                      (decide (x.snd.fst ≥ (↑x.fst.length : Int)) = false →
                        (0 : Int) ≤ x.snd.fst ∧
                          x.snd.fst < (↑x.fst.length : Int) ∧
                            ∀ (y : AA (102 : Nat)),
                              x.fst[x.snd.fst.toNat]? = some y →
                                (y.keys = y.keys ∧ Fn.func (91 : FuncId) = Fn.func (91 : Nat) ∧ True ∧ True ∧ True) ∧
                                  ((x.snd.snd.signed = x.snd.snd.signed ∧
                                        x.snd.snd.secret = x.snd.snd.secret ∧
                                          x.snd.snd.height = x.snd.snd.height ∧ x.snd.snd.age = x.snd.snd.age ∧ True) ∧
                                      True) ∧
                                    True ∧
                                      (decide (missIdx x.snd.snd.signed y.keys (0 : Nat) ≥ (0 : Int)) = true →
                                          (opensN (fun _ => []) x.fst x.snd.fst x.snd.snd = (21 : Int) ∧
                                              (21 : Int) ≠ (0 : Int)) ∧
                                            True ∧ True) ∧
                                        (decide (missIdx x.snd.snd.signed y.keys (0 : Nat) ≥ (0 : Int)) = false →
                                          ((!y.lock == List.replicate (32 : Nat) (0 : Int)) = true → False) ∧
                                            ((!y.lock == List.replicate (32 : Nat) (0 : Int)) = false →
                                              (decide (x.snd.snd.height < y.after) = true →
                                                  (opensN (fun _ => []) x.fst x.snd.fst x.snd.snd = (23 : Int) ∧
                                                      (23 : Int) ≠ (0 : Int)) ∧
                                                    True ∧ True) ∧
                                                (decide (x.snd.snd.height < y.after) = false →
                                                  (decide (x.snd.snd.age < y.older) = true →
                                                      (opensN (fun _ => []) x.fst x.snd.fst x.snd.snd = (23 : Int) ∧
                                                          (23 : Int) ≠ (0 : Int)) ∧
                                                        True ∧ True) ∧
                                                    (decide (x.snd.snd.age < y.older) = false →
                                                      opensN (fun _ => []) x.fst x.snd.fst x.snd.snd = (0 : Int) ∧
                                                        True ∧ True)))))))
theorem opens0_eq : opens0VC = fnS E19c f46 (bodyOf f46) opens0LS noAnn := by kernel_rfl
theorem opens0_vc : opens0VC := by
  rintro ⟨bs, br, s⟩ hz
  simp only [and_true, true_and, ne_eq, decide_eq_true_eq, decide_eq_false_iff_not] at hz ⊢
  refine ⟨fun h => ?_, fun h => ?_⟩
  · have hf : fineB bs = false := by
      cases e : fineB bs with
      | false => rfl
      | true => simp [checkN, e] at h
    rw [opensN_not hf]; simp [checkN, hf]
  have hf : fineB bs = true := by
    cases e : fineB bs with
    | true => rfl
    | false => simp [checkN, e] at h
  rw [opensN_fine hf]
  refine ⟨fun h1 => ⟨?_, by decide⟩, fun h1 hl => ⟨fun h2 => ⟨?_, by decide⟩, fun h2 => ?_⟩⟩
  · rw [if_pos (.inl h1)]
  · rw [if_pos (.inr h2)]
  rw [if_neg (by omega)]
  refine ⟨by omega, by omega, fun y hy => ?_⟩
  change bs[br.toNat]? = some (show Br from y) at hy
  have hlk := hz (show Br from y) (List.mem_of_getElem? hy)
  rw [hy]
  simp only
  refine ⟨fun h3 => ⟨?_, by decide⟩, fun h3 => ⟨fun h4 => ?_, fun h4 => ⟨fun h5 => ⟨?_, by decide⟩, fun h5 => ⟨fun h6 => ⟨?_, by decide⟩, fun h6 => ?_⟩⟩⟩⟩
  · rw [if_pos h3]
  · simp only [zeros32] at hlk
    rw [hlk] at h4
    simp at h4
  all_goals rw [if_neg h3, if_neg (fun h => h.1 hlk)]
  · rw [if_pos (.inl h5)]
  · rw [if_pos (.inr h6)]
  · rw [if_neg (fun h => h.elim h5 h6)]
theorem opens0_ok : Fits E19c f46 (bodyOf f46) opens0LS noAnn := by
  constructor
  rw [← opens0_eq]
  exact opens0_vc
theorem f19_has : Has prog 46 f46 (bodyOf f46) := ⟨by kernel_rfl, by kernel_rfl, by kernel_rfl⟩
theorem known20 : Known prog L20 := by
  unfold L20
  exact known19c.lent mixed f19_has E19c_eq opens0_ok (fun _ _ => Nat.le_refl _) (fun _ _ => rfl)

theorem E20_eq : E20 = EE prog L20 := by
  unfold E20
  rfl
theorem allOf_21 : allOf [2, 1] = [⟨[1, 2], zeros32, 0, 0⟩] := by
  have h1 : sortI [2, 1] = [1, 2] := by simp [sortI, List.mergeSort, List.MergeSort.Internal.splitInTwo]
  have h2 : Lib.compact [(1 : Int), 2] = [1, 2] := by decide
  simp only [allOf, h1, h2, zeros32]
theorem fine_21 : fineB [⟨[1, 2], zeros32, 0, 0⟩] = true := by
  have hu : Up [1, 2] 2 := by
    intro i hi
    match i, hi with
    | 0, _ => simp
    | 1, _ => simp
  have hm : mayB ⟨[1, 2], zeros32, 0, 0⟩ = true := mayB_true ⟨hu, by simp, by simp, by simp, by simp, by simp⟩
  refine fineB_iff.2 ⟨by simp, by simp, ?_⟩
  simp [firstOdd, hm]
def sureVC : Prop := ∀ (_ : Unit),
  True →
    [(2 : Int), (1 : Int)] = [(2 : Int), (1 : Int)] ∧
      True ∧
        [(2 : Int), (1 : Int)].length.le (1000000 : Nat) ∧
          ((Proofs.YtcglahfmnoghjaaGreatDoor.allOf [(2 : Int), (1 : Int)] =
                  Proofs.YtcglahfmnoghjaaGreatDoor.allOf [(2 : Int), (1 : Int)] ∧
                True) ∧
              (0 : Int) = (0 : Int) ∧
                [(1 : Int), (2 : Int)] = [(1 : Int), (2 : Int)] ∧
                  ([] : List Int) = [] ∧ (0 : Int) = (0 : Int) ∧ (0 : Int) = (0 : Int) ∧ True) ∧
            True ∧
              (∀ (b : Br), b ∈ Proofs.YtcglahfmnoghjaaGreatDoor.allOf [(2 : Int), (1 : Int)] → b.lock = zeros32) ∧
                ((opensN (fun _ => []) (Proofs.YtcglahfmnoghjaaGreatDoor.allOf [(2 : Int), (1 : Int)]) (0 : Int)
                          (Sn.mk [(1 : Int), (2 : Int)] [] (0 : Int) (0 : Int)) ==
                        (0 : Int)) =
                      true →
                    ((Proofs.YtcglahfmnoghjaaGreatDoor.allOf [(2 : Int), (1 : Int)] =
                            Proofs.YtcglahfmnoghjaaGreatDoor.allOf [(2 : Int), (1 : Int)] ∧
                          True) ∧
                        (0 : Int) = (0 : Int) ∧
                          [(1 : Int)] = [(1 : Int)] ∧ ([] : List Int) = [] ∧ (0 : Int) = (0 : Int) ∧ (0 : Int) = (0 : Int) ∧ True) ∧
                      True ∧
                        (∀ (b : Br), b ∈ Proofs.YtcglahfmnoghjaaGreatDoor.allOf [(2 : Int), (1 : Int)] → b.lock = zeros32) ∧
                          ((opensN (fun _ => []) (Proofs.YtcglahfmnoghjaaGreatDoor.allOf [(2 : Int), (1 : Int)]) (0 : Int)
                                    (Sn.mk [(1 : Int)] [] (0 : Int) (0 : Int)) ==
                                  (21 : Int)) =
                                true →
                              (↑(Proofs.YtcglahfmnoghjaaGreatDoor.allOf [(2 : Int), (1 : Int)]).length : Int) ≤
                                  (9223372036854775807 : Int) →
                                (((↑(Proofs.YtcglahfmnoghjaaGreatDoor.allOf [(2 : Int), (1 : Int)]).length : Int) ==
                                        (1 : Int)) =
                                      true →
                                    (0 : Int) ≤ (0 : Int) ∧
                                      (0 : Int) <
                                          (↑(Proofs.YtcglahfmnoghjaaGreatDoor.allOf [(2 : Int), (1 : Int)]).length : Int) ∧
                                        ∀ (y : AA (102 : Nat)),
                                          (Proofs.YtcglahfmnoghjaaGreatDoor.allOf
                                                  [(2 : Int), (1 : Int)])[Int.toNat (0 : Int)]? =
                                              some y →
                                            True ∧ true = decide (y.keys = [(1 : Int), (2 : Int)]) ∧ True ∧ True) ∧
                                  (((↑(Proofs.YtcglahfmnoghjaaGreatDoor.allOf [(2 : Int), (1 : Int)]).length : Int) ==
                                        (1 : Int)) =
                                      false →
                                    true = false ∧ True ∧ True)) ∧
                            ((opensN (fun _ => []) (Proofs.YtcglahfmnoghjaaGreatDoor.allOf [(2 : Int), (1 : Int)]) (0 : Int)
                                    (Sn.mk [(1 : Int)] [] (0 : Int) (0 : Int)) ==
                                  (21 : Int)) =
                                false →
                              true = false ∧ True ∧ True)) ∧
                  ((opensN (fun _ => []) (Proofs.YtcglahfmnoghjaaGreatDoor.allOf [(2 : Int), (1 : Int)]) (0 : Int)
                          (Sn.mk [(1 : Int), (2 : Int)] [] (0 : Int) (0 : Int)) ==
                        (0 : Int)) =
                      false →
                    true = false ∧ True ∧ True)
theorem sure_eq : sureVC = fnS E20 f20 (bodyOf f20) sureLS noAnn := by kernel_rfl
theorem sure_vc : sureVC := by
  intro _ _
  have hz : ∀ b : Br, b ∈ allOf [2, 1] → b.lock = zeros32 := by
    intro b hb
    rw [allOf_21] at hb
    simp at hb
    rw [hb]
  have o1 : opensN (fun _ => []) (allOf [2, 1]) 0 ⟨[1, 2], [], 0, 0⟩ = 0 := by
    rw [allOf_21, opensN_fine fine_21]
    simp [missIdx, zeros32]
  have o2 : opensN (fun _ => []) (allOf [2, 1]) 0 ⟨[1], [], 0, 0⟩ = 21 := by
    rw [allOf_21, opensN_fine fine_21]
    simp [missIdx]
  refine ⟨rfl, trivial, (show 2 ≤ 1000000 by decide), ⟨⟨rfl, trivial⟩, rfl, rfl, rfl, rfl, rfl, trivial⟩, trivial, hz, fun _ => ⟨⟨⟨rfl, trivial⟩, rfl, rfl, rfl, rfl, rfl, trivial⟩, trivial, hz, fun _ _ => ⟨fun _ => ⟨by decide, ?_, ?_⟩, fun h => ?_⟩, fun h => ?_⟩, fun h => ?_⟩
  · rw [allOf_21]; simp
  · intro y hy
    rw [allOf_21] at hy
    simp at hy
    cases hy
    exact ⟨trivial, by simp, trivial, trivial⟩
  · rw [allOf_21] at h; simp at h
  · rw [o2] at h; simp at h
  · rw [o1] at h; simp at h
theorem sure_ok : Fits E20 f20 (bodyOf f20) sureLS noAnn := by
  constructor
  rw [← sure_eq]
  exact sure_vc
theorem f14_has : Has prog 20 f20 (bodyOf f20) := ⟨by kernel_rfl, by kernel_rfl, by kernel_rfl⟩
theorem known21 : Known prog L21 := by
  unfold L21
  exact known20.lent mixed f14_has E20_eq sure_ok (fun _ _ => Nat.le_refl _) (fun _ _ => rfl)

theorem E21_eq : E21 = EE prog L21 := by
  unfold E21
  rfl
def checksVC : Prop := ∀ (x : List Br),
  (weight x).le (1099511627776 : Nat) →
    (weight x).le (1099511627776 : Nat) ∧
      (decide ((300 : Nat) < weight x) = true → True ∧ True ∧ True ∧ true = true ∧ True ∧ True) ∧
        (decide ((300 : Nat) < weight x) = false →
          (weight x).le (1099511627776 : Nat) ∧
            ((!decide ((300 : Nat) < weight x)) = true →
                (weight x).le (300 : Nat) ∧
                  (x = x ∧ True) ∧
                    True ∧
                      True ∧
                        x.length.le (9223372036854775807 : Nat) ∧
                          ((checkN x == bif fineB x then (0 : Int) else (1 : Int)) = true →
                              True ∧ True ∧ True ∧ true = true ∧ True ∧ True) ∧
                            ((checkN x == bif fineB x then (0 : Int) else (1 : Int)) = false →
                              true = false ∧ True ∧ True)) ∧
              ((!decide ((300 : Nat) < weight x)) = false → true = false ∧ True ∧ True))
theorem checks_vc : checksVC := by
  intro bs hw
  refine ⟨hw, fun _ => ⟨trivial, trivial, trivial, rfl, trivial, trivial⟩, fun h => ⟨hw, fun _ => ⟨?_, ⟨rfl, trivial⟩, trivial, trivial, ?_, fun _ => ⟨trivial, trivial, trivial, rfl, trivial, trivial⟩, fun h2 => ?_⟩, fun h2 => ?_⟩⟩
  · show weight bs ≤ 300
    simpa using h
  · show bs.length ≤ 9223372036854775807
    have hw : weight bs ≤ 1099511627776 := hw
    unfold weight at hw; omega
  · simp [checkN] at h2
  · rw [h] at h2; simp at h2
end Go.Proofs.YtcglahfmnoghjaaGreatDoor

/-! From a row's reading of an argument to the engine's words. Conditions: none. -/
namespace Go.Eng
open Go
variable {A : Nat → Type}

def NoO : Nat → Prop := fun _ => False
section
variable {H : Type} (enc : TypeId × Value → H) (P : Program) (w : World) (sp : Nat → Bool) (held : Bool) (C : Enc A)
/-- What is read at a type stands for these cells. -/
def RdT (t : TypeId) (F : SL A → DataW H → Prop) : Prop :=
  ∀ fuel cs d ps, DataW.trod enc P w 0 sp held fuel t cs = some (d, ps) → ∃ sl, RepL NoO [] w C sl cs ∧ F sl d
def RdFs (fs : List Field) (o N : Nat) (G : SL A → List (DataW H) → Prop) : Prop :=
  ∀ (fuel : Nat) (cs : List Value) (xs : List (DataW H × List MemPlace)), cs.length = N → fs.mapM (fun f => DataW.trod enc P w 0 sp held fuel f.type ((cs.drop f.offset).take (P.cellsOf f.type))) = some xs → ∃ sl, RepL NoO [] w C sl (cs.drop o) ∧ G sl (xs.map (·.1))
end

def delems {H : Type} : DataW H → List (DataW H)
  | .slice e _ => e
  | _ => []

theorem mapM_some {α β : Type} {f : α → Option β} : ∀ {l : List α} {ys : List β}, l.mapM f = some ys → ys.length = l.length ∧ ∀ (i : Nat) x, l[i]? = some x → ∃ y, ys[i]? = some y ∧ f x = some y
  | [], ys, h => by simp at h; subst h; exact ⟨rfl, fun i x h => by simp at h⟩
  | a :: l, ys, h => by
    rw [List.mapM_cons] at h
    cases hf : f a with
    | none => rw [hf] at h; simp at h
    | some b =>
      cases hl : l.mapM f with
      | none => rw [hf, hl] at h; simp at h
      | some bs =>
        rw [hf, hl] at h
        simp at h
        subst h
        obtain ⟨h1, h2⟩ := mapM_some hl
        refine ⟨by simp [h1], fun i x hx => ?_⟩
        cases i with
        | zero => simp at hx; subst hx; exact ⟨b, rfl, hf⟩
        | succ i => exact h2 i x (by simpa using hx)
theorem list_of {α : Type _} {n : Nat} {Q : Nat → α → Prop} (h : ∀ i, i < n → ∃ y, Q i y) : ∃ ys : List α, ys.length = n ∧ ∀ (i : Nat) y, ys[i]? = some y → Q i y := by
  induction n with
  | zero => exact ⟨[], rfl, fun i y h => by simp at h⟩
  | succ n ih =>
    obtain ⟨ys, h1, h2⟩ := ih (fun i hi => h i (by omega))
    obtain ⟨y, hy⟩ := h n (by omega)
    refine ⟨ys ++ [y], by simp [h1], fun i z hz => ?_⟩
    rcases Nat.lt_or_ge i n with hi | hi
    · rw [List.getElem?_append_left (by omega)] at hz
      exact h2 i z hz
    · rw [List.getElem?_append_right (by omega), h1] at hz
      cases hj : i - n with
      | zero => rw [hj] at hz; simp at hz; subst hz; rw [show i = n from by omega]; exact hy
      | succ m => rw [hj] at hz; simp at hz

section
variable {H : Type} {enc : TypeId × Value → H} {P : Program} {w : World} {sp : Nat → Bool} {held : Bool} {C : Enc A}
theorem notOwned (b : Nat) : ¬ owned [] b := fun ⟨i, x, h, _⟩ => by simp at h

theorem rd_int {t : TypeId} {k : IntKind} (ht : P.underlying t = some (.int k)) : RdT enc P w sp held C t fun sl _ => ∃ n, sl = .cell (.int k n) .nil ∧ (Lit.int k n).wf = true := by
  intro fuel cs d ps h
  cases fuel with
  | zero => simp [DataW.trod] at h
  | succ fuel =>
    unfold DataW.trod at h
    rw [ht] at h
    split at h
    all_goals first | (rename_i e _; cases e; done) | skip
    all_goals first | (rename_i e; cases e; done) | skip
    all_goals first | (cases h; done) | skip
    rename_i k' n e
    cases e
    split at h
    · rename_i hc
      obtain ⟨rfl, hw⟩ := hc
      exact ⟨_, .cell .int .nil, n, rfl, hw⟩
    · cases h

theorem cells?_some {b : Addr} {n : Nat} {vs : List Value} (h : w.cells? 0 b n = some vs) : vs.length = n ∧ ∀ j, j < n → ∃ u, vs[j]? = some u ∧ w.cell? (b.add j) = some u := by
  unfold World.cells? at h
  rw [if_pos (Nat.zero_le _)] at h
  obtain ⟨h1, h2⟩ := mapM_some h
  refine ⟨by simpa using h1, fun j hj => ?_⟩
  obtain ⟨u, h3, h4⟩ := h2 j j (by simp [hj])
  exact ⟨u, h3, h4⟩
theorem cell_spot {a : Addr} {u : Value} (h : w.cell? a = some u) : a.spot = none := by
  unfold World.cell? at h
  split at h
  · split at h
    · cases h
    · rename_i hs; simpa using hs
  · cases h
theorem addr_eq {a : Addr} (h : a.spot = none) : a = ⟨a.block, a.off, none⟩ := by cases a; simp at h; simp [h]
theorem addr_add {a : Addr} (h : a.spot = none) (n : Nat) : a.add n = ⟨a.block, a.off + n, none⟩ := by
  unfold Addr.add
  split
  · rename_i e; subst e; cases a; simp at h; simp [h]
  · rfl

/-- What a slice's reading comes to. -/
theorem trod_slice {t e : TypeId} (ht : P.underlying t = some (.slice e)) {fuel : Nat} {cs : List Value} {d : DataW H} {ps : List MemPlace} (h : DataW.trod enc P w 0 sp held fuel t cs = some (d, ps)) :
    (cs = [.slice none 0 0] ∧ d = .nil) ∨ ∃ a len cap f elems spare, cs = [.slice (some a) len cap] ∧ len ≤ cap ∧ cap ≤ maxLen ∧ d = .slice elems spare ∧ elems.length = len ∧
      ∀ i, i < len → ∃ vs x, w.cells? 0 (a.add (i * P.cellsOf e)) (P.cellsOf e) = some vs ∧ DataW.trod enc P w 0 sp held f e vs = some x ∧ elems[i]? = some x.1 := by
  cases fuel with
  | zero => simp [DataW.trod] at h
  | succ fuel =>
    unfold DataW.trod at h
    rw [ht] at h
    split at h
    all_goals first | (rename_i e _; cases e; done) | skip
    all_goals first | (rename_i e; cases e; done) | skip
    all_goals first | (cases h; done) | skip
    · cases h; exact .inl ⟨rfl, rfl⟩
    · rename_i e' a len cap e1
      cases e1
      simp only [Nat.zero_le, true_and] at h
      split at h
      case isFalse => cases h
      rename_i hc
      rw [Option.bind_eq_some_iff] at h
      obtain ⟨elems, h1, h2⟩ := h
      rw [Option.map_eq_some_iff] at h2
      obtain ⟨rest, _, h3⟩ := h2
      cases h3
      obtain ⟨h4, h5⟩ := mapM_some h1
      refine .inr ⟨a, len, cap, fuel, _, _, rfl, hc.1, hc.2, rfl, by simpa using h4, fun i hi => ?_⟩
      obtain ⟨y, h6, h7⟩ := h5 i i (by simp [hi])
      rw [Option.bind_eq_some_iff] at h7
      obtain ⟨vs, h8, h9⟩ := h7
      exact ⟨vs, y, h8, h9, by simp [h6]⟩

theorem rd_seq {t e : TypeId} {u : Nat} {G : A u → DataW H → Prop} (ht : P.underlying t = some (.slice e)) (hc : P.cellsOf e = C.size u) (hpos : 0 < C.size u)
    (he : RdT enc P w sp held C e fun sl d => ∃ y : A u, sl = C.enc u y ∧ G y d) :
    RdT enc P w sp held C t fun sl d => ∃ ys : List (A u), sl = .cell (.rseq u ys) .nil ∧ ys.length = (delems d).length ∧ ∀ (j : Nat) y d', ys[j]? = some y → (delems d)[j]? = some d' → G y d' := by
  intro fuel cs d ps h
  rcases trod_slice ht h with ⟨rfl, rfl⟩ | ⟨a, len, cap, f, elems, spare, rfl, h1, h2, rfl, h3, h4⟩
  · exact ⟨_, .cell (.rseq (xs := []) none 0 [] (Nat.le_refl _) (by simp [maxLen]) (by simp) (.inl rfl) (fun j x hj => by simp at hj)) .nil, [], rfl, rfl, fun j y d' hj => by simp at hj⟩
  have h5 : ∀ i, i < len → ∃ y : A u, ∃ vs, w.cells? 0 (a.add (i * C.size u)) (C.size u) = some vs ∧ RepL NoO [] w C (C.enc u y) vs ∧ ∀ d', elems[i]? = some d' → G y d' := fun i hi => by
    obtain ⟨vs, x, h6, h7, h8⟩ := h4 i hi
    obtain ⟨sl, h9, y, rfl, h10⟩ := he f vs x.1 x.2 h7
    exact ⟨y, vs, by rw [hc] at h6; exact h6, h9, fun d' hd => by rw [h8] at hd; cases hd; exact h10⟩
  obtain ⟨ys, h6, h7⟩ := list_of h5
  refine ⟨.cell (.rseq u ys) .nil, ?_, ys, rfl, by rw [h6, ← h3]; rfl, fun j y d' hj hd => ?_⟩
  · rcases Nat.eq_zero_or_pos len with h0 | h0
    · subst h0
      have hn : ys = [] := List.eq_nil_of_length_eq_zero h6
      subst hn
      exact .cell (.rseq (xs := []) (some a) cap [] (Nat.zero_le _) h2 (by simp) (.inl rfl) (fun j x hj => by simp at hj)) .nil
    have hspot : a.spot = none := by
      obtain ⟨y, vs, h8, _⟩ := h5 0 h0
      obtain ⟨_, h9⟩ := cells?_some h8
      obtain ⟨v, _, h10⟩ := h9 0 hpos
      have h11 : (a.add (0 * C.size u)).add 0 = a := by simp [Addr.add]
      rw [h11] at h10
      exact cell_spot h10
    have hcell : ∀ j, j < len * C.size u → ∃ v, w.cell? ⟨a.block, a.off + j, none⟩ = some v := fun j hj => by
      have hi : j / C.size u < len := Nat.div_lt_of_lt_mul (by rw [Nat.mul_comm]; exact hj)
      obtain ⟨y, vs, h8, _⟩ := h5 _ hi
      obtain ⟨_, h9⟩ := cells?_some h8
      obtain ⟨v, _, h10⟩ := h9 (j % C.size u) (Nat.mod_lt _ hpos)
      rw [addr_add hspot, addr_add rfl] at h10
      refine ⟨v, ?_⟩
      have := Nat.div_add_mod j (C.size u)
      rw [Nat.mul_comm] at this
      have e : a.off + j = a.off + j / C.size u * C.size u + j % C.size u := by omega
      rw [e]
      exact h10
    obtain ⟨vs, hv1, hv2⟩ := list_of hcell
    have hlen : len = ys.length := h6.symm
    have hrow : ∀ i, i < len → ∀ ws, w.cells? 0 (a.add (i * C.size u)) (C.size u) = some ws → (vs.drop (i * C.size u)).take (C.size u) = ws := fun i hi ws hws => by
      obtain ⟨h9, h10⟩ := cells?_some hws
      apply List.ext_getElem?
      intro j
      rw [List.getElem?_take]
      split
      · rename_i hj
        rw [List.getElem?_drop]
        have hb : i * C.size u + j < len * C.size u := by
          have : (i + 1) * C.size u ≤ len * C.size u := Nat.mul_le_mul_right _ hi
          rw [Nat.add_mul] at this
          omega
        obtain ⟨v, hv, hv'⟩ := h10 j hj
        rw [addr_add hspot, addr_add rfl] at hv'
        rw [hv]
        have hb' : i * C.size u + j < vs.length := by rw [hv1]; exact hb
        have h11 := hv2 _ _ (List.getElem?_eq_getElem hb')
        have e : a.off + (i * C.size u + j) = a.off + i * C.size u + j := by omega
        rw [e] at h11
        rw [List.getElem?_eq_getElem hb', ← hv', ← h11]
      · rename_i hj
        rw [List.getElem?_eq_none (by omega)]
    subst hlen
    refine .cell (.rseq (some a) cap vs h1 h2 hv1 (.inr ⟨a.block, a.off, by rw [← addr_eq hspot], fun h => h, notOwned _, fun j v hj => hv2 j v hj⟩) (fun j y hj => ?_)) .nil
    have hj' : j < ys.length := (List.getElem?_eq_some_iff.1 hj).1
    obtain ⟨ws, h8, h9, _⟩ := h7 j y hj
    rw [hrow j hj' ws h8]
    exact h9
  · obtain ⟨ws, _, _, h8⟩ := h7 j y hj
    exact h8 d' hd

theorem rd_ints {t e : TypeId} {k : IntKind} (ht : P.underlying t = some (.slice e)) (he : P.underlying e = some (.int k)) (hc : P.cellsOf e = 1) :
    RdT enc P w sp held C t fun sl d => ∃ xs : List Int, sl = .cell (.rints k xs) .nil ∧ xs.length = (delems d).length ∧ ∀ x, x ∈ xs → (Lit.int k x).wf = true := by
  intro fuel cs d ps h
  rcases trod_slice ht h with ⟨rfl, rfl⟩ | ⟨a, len, cap, f, elems, spare, rfl, h1, h2, rfl, h3, h4⟩
  · exact ⟨_, .cell (.rints (xs := []) none 0 (Nat.le_refl _) (by simp [maxLen]) (.inl rfl)) .nil, [], rfl, rfl, fun x hx => by simp at hx⟩
  have h5 : ∀ i, i < len → ∃ n : Int, w.cell? (a.add i) = some (.int k n) ∧ (Lit.int k n).wf = true := fun i hi => by
    obtain ⟨vs, x, h6, h7, h8⟩ := h4 i hi
    obtain ⟨sl, h9, n, rfl, h10⟩ := rd_int (C := C) he f vs x.1 x.2 h7
    obtain ⟨v, us, rfl, h11, h12⟩ := h9.inv_cell
    have := h11.inv_int
    subst this
    obtain ⟨_, h13⟩ := cells?_some h6
    obtain ⟨v, h14, h15⟩ := h13 0 (by omega)
    simp at h14
    subst h14
    rw [hc, Nat.mul_one, show (a.add i).add 0 = a.add i from by simp [Addr.add]] at h15
    exact ⟨n, h15, h10⟩
  obtain ⟨xs, h6, h7⟩ := list_of h5
  have hlen : len = xs.length := h6.symm
  subst hlen
  refine ⟨.cell (.rints k xs) .nil, ?_, xs, rfl, h3.symm, fun x hx => ?_⟩
  · rcases Nat.eq_zero_or_pos xs.length with h0 | h0
    · have hn : xs = [] := List.eq_nil_of_length_eq_zero h0
      subst hn
      exact .cell (.rints (xs := []) (some a) cap (Nat.zero_le _) h2 (.inl rfl)) .nil
    have hspot : a.spot = none := by
      obtain ⟨n, h8, _⟩ := h5 0 h0
      rw [show a.add 0 = a from by simp [Addr.add]] at h8
      exact cell_spot h8
    refine .cell (.rints (some a) cap h1 h2 (.inr ⟨a.block, a.off, by rw [← addr_eq hspot], fun h => h, notOwned _, fun j v hj => ?_⟩)) .nil
    rw [List.getElem?_map, Option.map_eq_some_iff] at hj
    obtain ⟨n, hn, rfl⟩ := hj
    have := (h7 j n hn).1
    rwa [addr_add hspot] at this
  · obtain ⟨i, hi⟩ := List.getElem?_of_mem hx
    exact (h7 i x hi).2

theorem rd_fs_nil {o N : Nat} (h : N ≤ o) : RdFs (A := A) enc P w sp held C [] o N fun sl ds => sl = .nil ∧ ds = [] := by
  intro fuel cs xs hl hm
  simp at hm
  subst hm
  rw [List.drop_of_length_le (by omega)]
  exact ⟨.nil, .nil, rfl, rfl⟩
theorem rd_fs_cons {f : Field} {fs : List Field} {o N : Nat} {F : SL A → DataW H → Prop} {G : SL A → List (DataW H) → Prop} (ho : f.offset = o) (hf : RdT enc P w sp held C f.type F) (hfs : RdFs enc P w sp held C fs (o + P.cellsOf f.type) N G) :
    RdFs enc P w sp held C (f :: fs) o N fun sl ds => ∃ s1 s2 d ds', sl = s1.app s2 ∧ ds = d :: ds' ∧ F s1 d ∧ G s2 ds' := by
  intro fuel cs xs hl hm
  rw [List.mapM_cons] at hm
  cases h1 : DataW.trod enc P w 0 sp held fuel f.type ((cs.drop f.offset).take (P.cellsOf f.type)) with
  | none => rw [h1] at hm; simp at hm
  | some x =>
    cases h2 : fs.mapM (fun f => DataW.trod enc P w 0 sp held fuel f.type ((cs.drop f.offset).take (P.cellsOf f.type))) with
    | none => rw [h1, h2] at hm; simp at hm
    | some ys =>
      rw [h1, h2] at hm
      simp at hm
      subst hm
      obtain ⟨s1, h3, h4⟩ := hf _ _ _ _ h1
      obtain ⟨s2, h5, h6⟩ := hfs _ _ _ hl h2
      refine ⟨s1.app s2, ?_, s1, s2, x.1, ys.map (·.1), rfl, rfl, h4, h6⟩
      have := h3.app h5
      rw [ho] at this
      rwa [← List.drop_drop, List.take_append_drop] at this
theorem rd_struct {t : TypeId} {fs : Array Field} {G : SL A → List (DataW H) → Prop} (ht : P.underlying t = some (.struct fs)) (h : RdFs enc P w sp held C fs.toList 0 (P.cellsOf t) G) :
    RdT enc P w sp held C t fun sl d => ∃ ds, d = .agg ds ∧ G sl ds := by
  intro fuel cs d ps hd
  cases fuel with
  | zero => simp [DataW.trod] at hd
  | succ fuel =>
    simp only [DataW.trod, ht] at hd
    split at hd
    case isFalse => cases hd
    rename_i hl
    rw [Option.map_eq_some_iff] at hd
    obtain ⟨xs, h1, h2⟩ := hd
    cases h2
    obtain ⟨sl, h3, h4⟩ := h _ _ _ hl h1
    exact ⟨sl, by simpa using h3, _, rfl, h4⟩
theorem rd_arr {t e : TypeId} {n : Nat} {k : IntKind} (ht : P.underlying t = some (.array n e)) (he : P.underlying e = some (.int k)) (hc : P.cellsOf e = 1) (hn : P.cellsOf t = n) :
    RdT enc P w sp held C t fun sl _ => ∃ xs : List Int, sl = .run k n xs .nil ∧ xs.length = n ∧ ∀ x, x ∈ xs → (Lit.int k x).wf = true := by
  intro fuel cs d ps hd
  cases fuel with
  | zero => simp [DataW.trod] at hd
  | succ fuel =>
    simp only [DataW.trod, ht] at hd
    split at hd
    case isFalse => cases hd
    rename_i hl
    rw [hn] at hl
    rw [Option.map_eq_some_iff] at hd
    obtain ⟨ys, h1, _⟩ := hd
    obtain ⟨h2, h3⟩ := mapM_some h1
    have h5 : ∀ i, i < n → ∃ m : Int, cs[i]? = some (.int k m) ∧ (Lit.int k m).wf = true := fun i hi => by
      obtain ⟨y, _, h7⟩ := h3 i i (by simp [hi])
      obtain ⟨sl, h9, m, rfl, h10⟩ := rd_int (C := C) he _ _ _ _ h7
      obtain ⟨v, us, h12, h11, _⟩ := h9.inv_cell
      have := h11.inv_int
      subst this
      refine ⟨m, ?_, h10⟩
      have h13 : ((cs.drop (i * P.cellsOf e)).take (P.cellsOf e))[0]? = some (.int k m) := by rw [h12]; rfl
      rw [hc] at h13
      simpa using h13
    obtain ⟨xs, h6, h7⟩ := list_of h5
    refine ⟨.run k n xs .nil, ?_, xs, rfl, h6, fun x hx => ?_⟩
    · have : cs = xs.map (Value.int k) ++ [] := by
        apply List.ext_getElem?
        intro j
        rw [List.append_nil, List.getElem?_map]
        rcases Nat.lt_or_ge j n with hj | hj
        · have hj' : j < xs.length := by omega
          rw [(h7 j _ (List.getElem?_eq_getElem hj')).1, List.getElem?_eq_getElem hj']; rfl
        · rw [List.getElem?_eq_none (by omega), List.getElem?_eq_none (by omega)]; rfl
      rw [this]
      exact .run h6 .nil
    · obtain ⟨i, hi⟩ := List.getElem?_of_mem hx
      exact (h7 i x hi).2
end
end Go.Eng

/-! From a contract to what a row asks. Conditions: none. -/
namespace Go.Eng
open Go Go.ChangeShapes Go.WideShapes Go.RowKit
variable {A : Nat → Type}

theorem below_of_step {env' : List Wit} {w w' : World} (h : Step [] w env' w') : Below w.heap.size w w' :=
  ⟨h.os, h.tape, h.output, h.size, fun b hb => h.cells b hb (notOwned b)⟩

section
variable {H : Type} {enc : TypeId × Value → H} {P : Program}
theorem trodAll_stays (hl : laidOutB P = true) {W W' : World} (hb : Below W.heap.size W W') : ∀ {ts : List TypeId} {vs : List Value} {ds : List (DataW H)} {ps : List MemPlace},
    (∀ t ∈ ts, P.readableRec t = true ∧ t < P.types.size) → (∀ x ∈ ps, x.block < W.heap.size) → DataW.TrodAll enc P W 0 (fun _ => true) true ts vs ds ps → ∀ sp : Nat → Bool, (∀ p ∈ ps, sp p.block = true) → DataW.TrodAll enc P W' 0 sp true ts vs ds ps
  | [], vs, ds, ps, _, _, h, _, _ => by
    obtain ⟨rfl, rfl, rfl⟩ := trodAll_nil h
    exact rfl
  | t :: ts, vs, ds, ps, hr, hlt, h, sp, hsp => by
    obtain ⟨v, vs1, d, ds1, p, q, rfl, rfl, rfl, h1, h2⟩ := trodAll_cons h
    have hp : ∀ x ∈ p, x.block < W.heap.size := fun x hx => hlt x (List.mem_append_left _ hx)
    exact ⟨p, q, WideElems.Trod_stays hl (hr t List.mem_cons_self).1 (hr t List.mem_cons_self).2 h1 (fun x hx => hb.same (hp x hx)) (fun x hx => hsp x (List.mem_append_left _ hx)),
      trodAll_stays hl hb (fun t' ht' => hr t' (List.mem_cons_of_mem _ ht')) (fun x hx => hlt x (List.mem_append_right _ hx)) h2 sp (fun x hx => hsp x (List.mem_append_right _ hx)), rfl⟩

/-- What a law's row asks of a call that answers true and leaves what was there. -/
theorem law_post {f : Func} {s : ChangeSpec} {W W' : World} {args : Array Value} {ds gs : List (DataW H)} {before : List MemPlace} {tb : TypeId}
    (hl : laidOutB P = true) (hread : ∀ t ∈ f.params.toList, P.readableRec t = true ∧ t < P.types.size) (hrt : f.resultTypes = #[tb]) (htb : P.underlying tb = some .bool)
    (hW : DataW.Whole enc P f.params.toList s.vars false W args.toList ds gs before) (hvars : s.vars = []) (hfn : s.fn H (ds ++ gs) = { results := [.lit (.bool true)], args := ds })
    (hb : Below W.heap.size W W') : s.post enc P f false true false false W args (.bool true) W' := by
  have hlt : ∀ p ∈ before, p.block < W.heap.size := fun p hp => by simpa using hW.lt p hp
  have hW0 := hW
  obtain ⟨p, q, hA, hV, rfl, hz, hn⟩ := hW0
  have hq : q = [] := by
    rw [hvars] at hV
    cases gs with
    | nil => exact hV
    | cons g r => exact hV.elim
  subst hq
  have hres : ∀ (b : Nat) (sp : Nat → Bool) (hd : Bool), DataW.TrodAll enc P W' b sp hd f.resultTypes.toList ((Value.bool true).resultList f.resultTypes.size) (s.fn H (ds ++ gs)).results [] := fun b sp hd => by
    rw [hfn, hrt]
    exact trodAll_mk1 (shut_bool htb true)
  have hargs : ∀ sp : Nat → Bool, (∀ x ∈ p, sp x.block = true) → DataW.TrodAll enc P W' 0 sp true f.params.toList args.toList (s.fn H (ds ++ gs)).args p := fun sp hsp => by
    rw [hfn]
    exact trodAll_stays hl hb hread (fun x hx => hlt x (by simpa using hx)) hA sp hsp
  have hvs : ∀ sp : Nat → Bool, DataW.TrodVars enc P W' sp s.vars (s.fn H (ds ++ gs)).vars [] := fun sp => by
    rw [hfn, hvars]; rfl
  refine ⟨ds, gs, p ++ [], [], p, [], hW, hres _ _ _, hargs _ (fun x hx => by simpa using hlt x (by simpa using hx)), hvs _, hb.frame _, fun h => by cases h⟩
end

/-- An argument that is read stands for these values. -/
theorem rep_of_trod {H : Type} {enc : TypeId × Value → H} {P : Program} {w : World} {sp : Nat → Bool} {held : Bool} {C : Enc A} {t : TypeId} {F : SL A → DataW H → Prop} (h : RdT enc P w sp held C t F) {v : Value} {d : DataW H} {ps : List MemPlace}
    (hd : DataW.Trod enc P w 0 sp held t v d ps) : ∃ sl, RepL NoO [] w C sl v.cells.toList ∧ F sl d := by
  obtain ⟨fuel, h1⟩ := hd
  exact h fuel _ _ _ h1
theorem hr_nil (w : World) (C : Enc A) : HR NoO [] w C ([] : List (SO A)) :=
  ⟨rfl, fun i so x h _ => by simp at h, fun i j x y b h _ _ _ => by simp at h, fun b h => (notOwned b h).elim, fun b h => (notOwned b h).elim, fun b h => h.elim⟩
end Go.Eng

/-! FOR A PROOF OF AN '..UptoSaid': WHAT THE BOUND GIVES. Copy it as <Name>Bulk.lean (put your seat's Name for YtcglahfmnoghjaaGreatDoor, the bound of 'uptoSmall' for 1048576), name it in GOCLAIM.json's 'order' behind <Name>Rows. By an AI agent, Sun Nov 15 2026. No person has read it. No macro, syntax, notation, axiom, sorry. -/
namespace Go.Proofs.YtcglahfmnoghjaaGreatDoor.bulks

theorem one_le {H : Type} (d : DataW H) : 1 ≤ Rows.uptoBulk d := by
  cases d with
  | lit l => cases l <;> simp [Rows.uptoBulk]
  | nil => simp [Rows.uptoBulk]
  | ptr d => simp [Rows.uptoBulk]
  | slice elems spare => simp [Rows.uptoBulk]
  | agg parts => simp [Rows.uptoBulk]
  | iface t d => simp [Rows.uptoBulk]
  | map entries => simp [Rows.uptoBulk]
  | held h => simp [Rows.uptoBulk]

/-- a part's bulk is at most the whole's -/
theorem part_le {H : Type} {d : DataW H} {l : List (DataW H)} (h : d ∈ l) : Rows.uptoBulk d ≤ Rows.uptoBulkAll l := by
  induction l with
  | nil => cases h
  | cons x r ih =>
    simp only [Rows.uptoBulkAll]
    cases List.mem_cons.1 h with
    | inl e => subst e; omega
    | inr e => have := ih e; omega

theorem append {H : Type} (l r : List (DataW H)) : Rows.uptoBulkAll (l ++ r) = Rows.uptoBulkAll l + Rows.uptoBulkAll r := by
  induction l with
  | nil => simp [Rows.uptoBulkAll]
  | cons x l ih => simp only [List.cons_append, Rows.uptoBulkAll, ih]; omega

/-- so many values at the most -/
theorem length_le {H : Type} (l : List (DataW H)) : l.length ≤ Rows.uptoBulkAll l := by
  induction l with
  | nil => simp [Rows.uptoBulkAll]
  | cons x r ih => have := one_le x; simp only [Rows.uptoBulkAll, List.length_cons]; omega

/-- a slice's places, and what they hold -/
theorem slice_le {H : Type} (elems spare : List (DataW H)) : elems.length + spare.length + 1 ≤ Rows.uptoBulk (.slice elems spare) := by
  have h1 := length_le elems
  have h2 := length_le spare
  simp only [Rows.uptoBulk]
  omega
theorem slice_elems {H : Type} (elems spare : List (DataW H)) : Rows.uptoBulkAll elems + 1 ≤ Rows.uptoBulk (.slice elems spare) := by
  simp only [Rows.uptoBulk]
  omega

/-- a string's letters -/
theorem string_eq {H : Type} (bytes : List UInt8) : Rows.uptoBulk (DataW.lit (H := H) (.string bytes)) = bytes.length + 1 := by
  simp [Rows.uptoBulk]

/-- THE BOUND, as the builder hands it over ('hk') -/
theorem bound {H : Type} {l : List (DataW H)} (hk : Rows.uptoSmall H l = true) : Rows.uptoBulkAll l ≤ 1048576 := by
  simpa [Rows.uptoSmall] using hk

/-- ROOM: a slice of n elements of b bytes, grown by append: below the 2^48 bytes that append, make and a Builder bear. Here n up to 2^21, b up to 4,096: put your own numbers. -/
theorem room {n b : Nat} (hn : n ≤ 2097152) (hb : b ≤ 4096) : (n + n / 4 + 192) * b ≤ 281474976710656 := by
  have h : (n + n / 4 + 192) * b ≤ 2621632 * 4096 := Nat.mul_le_mul (by omega) hb
  omega

end Go.Proofs.YtcglahfmnoghjaaGreatDoor.bulks

/-! What the rows' readings and listed variables come to, for this program. Conditions: none. -/
namespace Go.Proofs.YtcglahfmnoghjaaGreatDoor
open Go Go.Eng Go.Proofs.Tryz Go.ChangeShapes Go.WideShapes Go.RowKit

theorem own : ownKnob prog.godebug = none := by kernel_rfl
theorem laidOut : laidOutB prog = true := by kernel_rfl
theorem etNumber : prog.globalNamed "errors.errorType" = some 0 := by kernel_rfl
theorem rtNumber : (prog.cutTypes.find? (·.1 == "internal/reflectlite.rtype")).map (·.2) = some 209 := by kernel_rfl
theorem typesSize : prog.types.size = 282 := by kernel_rfl
theorem oneRow : ((List.range 282).filter fun t => prog.rowNamed t [101, 114, 114, 111, 114]) = [57] := by kernel_rfl

/-- What the condition gives a walk: the variable's one cell. -/
theorem handle_of_laid {W : World} (h : handlesMet prog [("errors.errorType", Rows.laid_errors_errorType)] W) : W.cell? ⟨0, 0, none⟩ = some (.iface 209 (.agg #[.pointer (some ⟨3, 57, none⟩)])) := by
  obtain ⟨name, u, ty, e1, e2, e3, e4, e5⟩ := h _ (List.mem_singleton.2 rfl)
  have en : name = [101, 114, 114, 111, 114] := (Option.some.inj e1).symm
  subst en
  obtain rfl := Option.some.inj (rtNumber.symm.trans e2)
  have hm : ty ∈ (List.range 282).filter fun t => prog.rowNamed t [101, 114, 114, 111, 114] := List.mem_filter.2 ⟨List.mem_range.2 (by rw [← typesSize]; exact e3), e4⟩
  rw [oneRow] at hm
  obtain rfl := List.mem_singleton.1 hm
  have hh : typeHandle prog 57 = .pointer (some ⟨3, 57, none⟩) := by kernel_rfl
  rw [hh] at e5
  simpa using World.var?_cell etNumber e5 0

/-- A world that meets the rows' conditions: the settled one, the variables' cells laid. -/
def orderCells : Array Value := #[0, 1, 2, 3, 4, 5, 6, 7, 8, 9, 10, 11, 12, 13, 14, 15, 14, 10, 4, 8, 9, 15, 13, 6, 1, 12, 0, 2, 11, 7, 5, 3, 11, 8, 12, 0, 5, 2, 15, 13, 10, 14, 3, 6, 7, 1, 9, 4, 7, 9, 3, 1, 13, 12, 11, 14, 2, 6, 5, 10, 4, 0, 15, 8, 9, 0, 5, 7, 2, 4, 10, 15, 14, 1, 11, 12, 6, 8, 3, 13, 2, 12, 6, 10, 0, 11, 8, 3, 4, 13, 7, 5, 15, 14, 1, 9, 12, 5, 1, 15, 14, 13, 4, 10, 0, 7, 6, 3, 9, 2, 8, 11, 13, 11, 7, 14, 12, 1, 3, 9, 5, 0, 15, 4, 8, 6, 2, 10, 6, 15, 14, 9, 11, 3, 0, 8, 12, 2, 13, 7, 1, 4, 10, 5, 10, 2, 8, 4, 7, 6, 1, 5, 15, 11, 9, 14, 3, 12, 13, 0].map (Value.int .u8)
def layIn (cs : Array Value) : Obj → Obj
  | .cells _ t frozen => .cells cs t frozen
  | o => o
noncomputable def laidWorld (os : Os) : World :=
  { World.holding prog os ⟨#[], #[], []⟩ with heap := ((World.holding prog os ⟨#[], #[], []⟩).heap.modify 0 (layIn #[.iface 209 (.agg #[.pointer (some ⟨3, 57, none⟩)])])).modify 2 (layIn orderCells) }

theorem cells25 : prog.cellsOf 83 = 1 := by kernel_rfl
theorem cells3 : prog.cellsOf 3 = 1 := by kernel_rfl
theorem cells5 : prog.cellsOf 5 = 1 := by kernel_rfl
theorem cells44 : prog.cellsOf 27 = 32 := by kernel_rfl
theorem cells48 : prog.cellsOf 85 = 35 := by kernel_rfl
theorem cells22 : prog.cellsOf 48 = 1 := by kernel_rfl
theorem cells24 : prog.cellsOf 50 = 1 := by kernel_rfl

/-- A branch whose numbers fit. -/
structure BrWf (b : Br) : Prop where
  keys : ∀ x, x ∈ b.keys → (Lit.int .i64 x).wf = true
  lock : b.lock.length = 32
  bytes : ∀ x, x ∈ b.lock → (Lit.int .u8 x).wf = true
  after : (Lit.int .i64 b.after).wf = true
  older : (Lit.int .i64 b.older).wf = true


section
variable {H : Type} {enc : TypeId × Value → H} {w : World} {sp : Nat → Bool} {held : Bool}
theorem RdT.mono {P : Program} {C : Enc AA} {t : TypeId} {F G : SL AA → DataW H → Prop} (h : RdT enc P w sp held C t F) (hfg : ∀ sl d, F sl d → G sl d) : RdT enc P w sp held C t G := by
  intro fuel cs d ps hd
  obtain ⟨sl, h1, h2⟩ := h fuel cs d ps hd
  exact ⟨sl, h1, hfg _ _ h2⟩
def GBr (b : Br) (d : DataW H) : Prop := BrWf b ∧ ∃ dk rest, d = .agg (dk :: rest) ∧ b.keys.length = (delems dk).length
theorem rd_branch_of {P : Program} {tB tK tI tL tE : TypeId} {fs : Array Field} {C : Enc AA} (hB : P.underlying tB = some (.struct fs))
    (hfs : fs.toList.map (fun f => (f.type, f.offset)) = [(tK, 0), (tL, 1), (tI, 33), (tI, 34)]) (hK : P.underlying tK = some (.slice tI)) (hI : P.underlying tI = some (.int .i64)) (hL : P.underlying tL = some (.array 32 tE)) (hE : P.underlying tE = some (.int .u8))
    (cB : P.cellsOf tB = 35) (cK : P.cellsOf tK = 1) (cI : P.cellsOf tI = 1) (cL : P.cellsOf tL = 32) (cE : P.cellsOf tE = 1) :
    RdT enc P w sp held C tB fun sl d => ∃ b : Br, sl = encBr b ∧ GBr b d := by
  match hl : fs.toList, hfs with
  | [f1, f2, f3, f4], hfs =>
    simp only [List.map_cons, List.map_nil, List.cons.injEq, Prod.mk.injEq, and_true] at hfs
    obtain ⟨⟨t1, o1⟩, ⟨t2, o2⟩, ⟨t3, o3⟩, t4, o4⟩ := hfs
    refine RdT.mono (rd_struct hB (by
      rw [hl]
      exact rd_fs_cons o1 (by rw [t1]; exact rd_ints hK hI cI) (rd_fs_cons (by rw [t1, cK, o2]) (by rw [t2]; exact rd_arr hL hE cE cL)
        (rd_fs_cons (by rw [t1, t2, cK, cL, o3]) (by rw [t3]; exact rd_int hI) (rd_fs_cons (by rw [t1, t2, t3, cK, cL, cI, o4]) (by rw [t4]; exact rd_int hI) (rd_fs_nil (by rw [t1, t2, t3, t4, cK, cL, cI, cB]; omega))))))) ?_
    rintro sl d ⟨ds, rfl, s1, s2, d1, ds1, rfl, rfl, ⟨ks, rfl, h1, h2⟩, s3, s4, d2, ds2, rfl, rfl, ⟨lk, rfl, h3, h4⟩, s5, s6, d3, ds3, rfl, rfl, ⟨af, rfl, h5⟩, s7, s8, d4, ds4, rfl, rfl, ⟨ol, rfl, h6⟩, rfl, rfl⟩
    exact ⟨⟨ks, lk, af, ol⟩, rfl, ⟨h2, h3, h4, h5, h6⟩, d1, _, rfl, h1⟩
  | [], hfs => simp at hfs
  | [_], hfs => simp at hfs
  | [_, _], hfs => simp at hfs
  | [_, _, _], hfs => simp at hfs
  | _ :: _ :: _ :: _ :: _ :: _, hfs => simp at hfs
theorem rd_branch : RdT enc prog w sp held CC 85 fun sl d => ∃ b : Br, sl = encBr b ∧ GBr b d :=
  rd_branch_of underlying85 rfl underlying83 underlying3 underlying27 underlying5 cells48 cells25 cells3 cells44 cells5

theorem delems_le (d : DataW H) : (delems d).length ≤ Rows.uptoBulk d := by
  cases d with
  | slice e sp => have := bulks.slice_le e sp; simp only [delems]; omega
  | _ => simp [delems]
theorem gbr_le {b : Br} {d : DataW H} (h : GBr b d) : b.keys.length + 1 ≤ Rows.uptoBulk d := by
  obtain ⟨_, dk, rest, rfl, h2⟩ := h
  have := delems_le dk
  simp only [Rows.uptoBulk, Rows.uptoBulkAll]
  omega
theorem sumK_le : ∀ {bs : List Br} {ds : List (DataW H)}, bs.length = ds.length → (∀ (j : Nat) y d, bs[j]? = some y → ds[j]? = some d → GBr y d) → bs.length + sumK bs ≤ Rows.uptoBulkAll ds
  | [], [], _, _ => by simp [sumK, Rows.uptoBulkAll]
  | b :: bs, d :: ds, hl, h => by
    have h1 := gbr_le (h 0 b d rfl rfl)
    have h2 := sumK_le (bs := bs) (ds := ds) (by simpa using hl) (fun j y d' hy hd => h (j + 1) y d' (by simpa using hy) (by simpa using hd))
    simp only [sumK, Rows.uptoBulkAll, List.length_cons]
    omega
  | [], _ :: _, hl, _ => by simp at hl
  | _ :: _, [], hl, _ => by simp at hl

def CondWf (bs : List Br) : Prop := ∀ b, b ∈ bs → BrWf b
/-- A condition, as a row reads it. -/
theorem rd_cond_of {P : Program} {tC tS tB : TypeId} {fs : Array Field} (hC : P.underlying tC = some (.struct fs)) (hfs : fs.toList.map (fun f => (f.type, f.offset)) = [(tS, 0)]) (hS : P.underlying tS = some (.slice tB))
    (cC : P.cellsOf tC = 1) (cS : P.cellsOf tS = 1) (cB : P.cellsOf tB = 35) (hb : RdT enc P w sp held CC tB fun sl d => ∃ b : Br, sl = encBr b ∧ GBr b d) :
    RdT enc P w sp held CC tC fun sl d => ∃ bs : List Br, sl = .cell (.rseq 85 bs) .nil ∧ CondWf bs ∧ weight bs ≤ Rows.uptoBulk d := by
  match hl : fs.toList, hfs with
  | [f1], hfs =>
    simp only [List.map_cons, List.map_nil, List.cons.injEq, Prod.mk.injEq, and_true] at hfs
    obtain ⟨t1, o1⟩ := hfs
    have hseq : RdT enc P w sp held CC tS fun sl d => ∃ bs : List Br, sl = .cell (.rseq 85 bs) .nil ∧ bs.length = (delems d).length ∧ ∀ (j : Nat) y d', bs[j]? = some y → (delems d)[j]? = some d' → GBr y d' :=
      rd_seq (u := 85) (G := GBr) hS cB (by decide) (RdT.mono hb fun sl d ⟨b, h1, h2⟩ => ⟨b, h1, h2⟩)
    refine RdT.mono (rd_struct hC (by
      rw [hl]
      exact rd_fs_cons o1 (by rw [t1]; exact hseq) (rd_fs_nil (by rw [t1, cC, cS]; omega)))) ?_
    rintro sl d ⟨ds, rfl, s1, s2, d1, ds1, rfl, rfl, ⟨bs, rfl, h1, h2⟩, rfl, rfl⟩
    refine ⟨bs, rfl, fun b hb => ?_, ?_⟩
    · obtain ⟨j, hj⟩ := List.getElem?_of_mem hb
      have hl : j < (delems d1).length := by
        have := (List.getElem?_eq_some_iff.1 hj).1
        rw [← h1]; exact this
      exact (h2 j b _ hj (List.getElem?_eq_getElem hl)).1
    · have h3 := sumK_le h1 h2
      have h4 : Rows.uptoBulkAll (delems d1) ≤ Rows.uptoBulk d1 := by
        cases d1 with
        | slice e sp => have := bulks.slice_elems e sp; simp only [delems]; omega
        | _ => simp [delems, Rows.uptoBulkAll]
      simp only [Rows.uptoBulk, Rows.uptoBulkAll, weight]
      omega
  | [], hfs => simp at hfs
  | _ :: _ :: _, hfs => simp at hfs
theorem rd_cond : RdT enc prog w sp held CC 50 fun sl d => ∃ bs : List Br, sl = .cell (.rseq 85 bs) .nil ∧ CondWf bs ∧ weight bs ≤ Rows.uptoBulk d :=
  rd_cond_of underlying50 rfl underlying48 cells24 cells22 cells48 rd_branch
end

/-! ## blake's order -/
theorem trod_int {t : TypeId} {k : IntKind} {P : Program} {w : World} {sp : Nat → Bool} {held : Bool} {H : Type} {enc : TypeId × Value → H} (ht : P.underlying t = some (.int k)) {fuel : Nat} {cs : List Value} {d : DataW H} {ps : List MemPlace} (h : DataW.trod enc P w 0 sp held fuel t cs = some (d, ps)) :
    ∃ n, cs = [.int k n] ∧ d = .lit (.int k n) := by
  cases fuel with
  | zero => simp [DataW.trod] at h
  | succ fuel =>
    unfold DataW.trod at h
    rw [ht] at h
    split at h
    all_goals first | (rename_i e _; cases e; done) | skip
    all_goals first | (rename_i e; cases e; done) | skip
    all_goals first | (cases h; done) | skip
    rename_i k' n e
    cases e
    split at h
    · rename_i hc
      obtain ⟨rfl, hw⟩ := hc
      cases h
      exact ⟨n, rfl, rfl⟩
    · cases h
theorem trod_arr {t e : TypeId} {n : Nat} {P : Program} {w : World} {sp : Nat → Bool} {held : Bool} {H : Type} {enc : TypeId × Value → H} (ht : P.underlying t = some (.array n e)) {fuel : Nat} {cs : List Value} {d : DataW H} {ps : List MemPlace} (h : DataW.trod enc P w 0 sp held fuel t cs = some (d, ps)) :
    ∃ fuel' ds, d = .agg ds ∧ cs.length = P.cellsOf t ∧ ∀ i, i < n → ∃ x p', ds[i]? = some x ∧ DataW.trod enc P w 0 sp held fuel' e ((cs.drop (i * P.cellsOf e)).take (P.cellsOf e)) = some (x, p') := by
  cases fuel with
  | zero => simp [DataW.trod] at h
  | succ fuel =>
    simp only [DataW.trod, ht] at h
    split at h
    case isFalse => cases h
    rename_i hl
    rw [Option.map_eq_some_iff] at h
    obtain ⟨ys, h1, h2⟩ := h
    cases h2
    refine ⟨fuel, _, rfl, hl, fun i hi => ?_⟩
    obtain ⟨_, h3⟩ := mapM_some h1
    obtain ⟨y, h6, h7⟩ := h3 i i (by simp [hi])
    exact ⟨y.1, y.2, by rw [List.getElem?_map, h6]; rfl, h7⟩
/-- A number of a table of two rows' depth. -/
def litAt (d : DataW Unit) (i j : Nat) : Int := match d with
  | .agg l => match l[i]? with
    | some (.agg m) => match m[j]? with
      | some (.lit (.int _ n)) => n
      | _ => -1
    | _ => -1
  | _ => -1
theorem lits_ok : ((List.range 10).all fun i => (List.range 16).all fun j => decide (litAt Rows.laid_bayou_blake_order i j = orderL.getD (16 * i + j) 0)) = true := by kernel_rfl
theorem lit_at {i j : Nat} (hi : i < 10) (hj : j < 16) : litAt Rows.laid_bayou_blake_order i j = orderL.getD (16 * i + j) 0 := by
  have h := List.all_eq_true.1 (List.all_eq_true.1 lits_ok i (List.mem_range.2 hi)) j (List.mem_range.2 hj)
  simpa only [decide_eq_true_eq] using h
theorem orderNumber : prog.globalNamed "bayou/blake.order" = some 2 := by kernel_rfl
theorem orderType : (prog.globals[2]?).map (·.type) = some 240 := by kernel_rfl
theorem orderU : prog.underlying 240 = some (.array 10 239) := by kernel_rfl
theorem orderUR : prog.underlying 239 = some (.array 16 5) := by kernel_rfl
theorem orderC : prog.cellsOf 240 = 160 := by kernel_rfl
theorem orderCR : prog.cellsOf 239 = 16 := by kernel_rfl
theorem order_cells {W : World} (h : laidMet prog [("bayou/blake.order", Rows.laid_bayou_blake_order)] W) : ∀ u, u < 160 → W.cell? ⟨2, u, none⟩ = some (.int .u8 (orderL.getD u 0)) := by
  obtain ⟨ps, ⟨g, t, cs, fuel, p, q, e1, e2, e3, e4, _⟩, _⟩ := h
  obtain rfl := Option.some.inj (orderNumber.symm.trans e1)
  obtain rfl := Option.some.inj (orderType.symm.trans e2)
  intro u hu
  rw [World.var?_cell orderNumber e3 u]
  obtain ⟨f1, ds, h1, hl, h2⟩ := trod_arr orderU e4
  rw [orderC] at hl
  rw [orderCR] at h2
  obtain ⟨x, p1, h3, h4⟩ := h2 (u / 16) (by omega)
  obtain ⟨f2, ds2, h5, _, h6⟩ := trod_arr orderUR h4
  rw [cells5] at h6
  obtain ⟨y, p2, h7, h8⟩ := h6 (u % 16) (by omega)
  obtain ⟨n, h9, h10⟩ := trod_int underlying5 h8
  have hn : litAt Rows.laid_bayou_blake_order (u / 16) (u % 16) = n := by
    rw [h1]
    simp only [litAt, h3, h5, h7, h10]
  rw [lit_at (by omega) (by omega), show 16 * (u / 16) + u % 16 = u from by omega] at hn
  have h11 : (List.take 1 (List.drop (u % 16 * 1) (List.take 16 (List.drop (u / 16 * 16) cs.toList))))[0]? = some (.int .u8 n) := by rw [h9]; rfl
  rw [List.getElem?_take, if_pos (by omega), List.getElem?_drop, List.getElem?_take, if_pos (by omega), List.getElem?_drop, show u / 16 * 16 + (u % 16 * 1 + 0) = u from by omega] at h11
  rw [hn]
  simpa using h11
theorem glob_of_laid {W : World} (hg : W.cell? ⟨0, 0, none⟩ = some (.iface 209 (.agg #[.pointer (some ⟨3, 57, none⟩)]))) (ho : ∀ u, u < 160 → W.cell? ⟨2, u, none⟩ = some (.int .u8 (orderL.getD u 0))) : Glob GG NoO [] W CC := by
  intro g cs h
  unfold GG at h
  cases e : Nat.beq g 0 with
  | false =>
    rw [e] at h
    cases e2 : Nat.beq g 2 with
    | false => rw [e2] at h; cases h
    | true =>
      rw [e2] at h
      cases h
      have := Nat.eq_of_beq_eq_true e2
      subst this
      have hlen : orderL.length = 160 := rfl
      have hr : RepL NoO [] W CC (.run .u8 160 orderL .nil) (orderL.map (Value.int .u8) ++ []) := .run hlen .nil
      rw [List.append_nil] at hr
      exact .rptr _ 0 (orderL.map (Value.int .u8)) (fun h => h) (notOwned _) (cell_lt (ho 0 (by omega))) (fun j u hu => by
        rw [List.getElem?_map] at hu
        cases e3 : orderL[j]? with
        | none => rw [e3] at hu; cases hu
        | some n =>
          rw [e3] at hu
          have hj : j < 160 := by
            have := (List.getElem?_eq_some_iff.1 e3).1
            omega
          have := ho j hj
          rw [List.getD_eq_getElem?_getD, e3] at this
          cases hu
          simpa using this) hr
  | true =>
    rw [e] at h
    cases h
    have := Nat.eq_of_beq_eq_true e
    subst this
    exact .rptr 0 0 [.iface 209 (.agg #[.pointer (some ⟨3, 57, none⟩)])] (fun h => h) (notOwned 0) (cell_lt hg) (fun j u hu => by
      cases j with
      | zero => simp at hu; subst hu; exact hg
      | succ j => simp at hu) (.cell .val .nil)
theorem laid_parts {W : World} (h : laidMetH prog [("errors.errorType", Rows.laid_errors_errorType), ("bayou/blake.order", Rows.laid_bayou_blake_order)] W) :
    laidMet prog [("bayou/blake.order", Rows.laid_bayou_blake_order)] W ∧ handlesMet prog [("errors.errorType", Rows.laid_errors_errorType)] W := h
theorem glob_of {W : World} (h : laidMetH prog [("errors.errorType", Rows.laid_errors_errorType), ("bayou/blake.order", Rows.laid_bayou_blake_order)] W) : Glob GG NoO [] W CC :=
  glob_of_laid (handle_of_laid (laid_parts h).2) (order_cells (laid_parts h).1)
end Go.Proofs.YtcglahfmnoghjaaGreatDoor

/-! CondChecks: whatever the condition, of bulk at most 1048576, the law answers true. Conditions: the listed variables hold what the card ties. -/
namespace Go.Proofs.YtcglahfmnoghjaaGreatDoor
open Go Go.Eng Go.Proofs.Tryz Go.ChangeShapes Go.WideShapes Go.RowKit

/-- The call, out of the contract. -/
theorem law_calls {P : Program} {E : Eng AA} {f : FuncId} {fn : Func} {body : Code} {L : LS AA} {ann : L.X → Anns AA} (hP : E.P = P) (hS : Sound E) (hf : Has P f fn body) (hL : Fits E fn body L ann) (x : L.X) (hx : L.pre x) (hres : L.res x = [.sb 0 true]) (hin : L.hin x = []) (hle : ∀ x, L.pre x → (L.hin x).length ≤ (L.hout x).length)
    {W : World} {vs : List Value} (ha : ArgsR NoO [] W E.C (L.args x) vs) (hg : Glob E.GL NoO [] W E.C) : Calls P f vs.toArray W fun e W' => e = .returned (.bool true) ∧ Below W.heap.size W W' := by
  subst hP
  refine (fn_calls hS hf.is hf.body hL.fits hle hx ha (by rw [hin]; exact hr_nil _ _) hg).mono fun e W' he => ?_
  cases e with
  | returned v =>
    obtain ⟨env', h1, _, h2, _⟩ := he
    rw [hres] at h1
    exact ⟨by rw [Rep.inv_sb h1], below_of_step h2⟩
  | panicked c => exact he.elim
  | outgrown => exact he.elim
theorem ee_P {P : Program} {u : Bool} {E : Eng AA} {l : List (Nat × SpecT AA)} (h : E = EX u P l) : E.P = P := by subst h; rfl
theorem ee_C {P : Program} {u : Bool} {E : Eng AA} {l : List (Nat × SpecT AA)} (h : E = EX u P l) : E.C = CC := by subst h; rfl
theorem ee_GL {P : Program} {u : Bool} {E : Eng AA} {l : List (Nat × SpecT AA)} (h : E = EX u P l) : E.GL = GG := by subst h; rfl

theorem agg_of_ok {P : Program} {W : World} {r : Reach} {base : Nat} {t : TypeId} {fs : Array Field} (ht : P.underlying t = some (.struct fs)) {v : Value} (h : Value.okWide P W r base t v) : ∃ cs : List Value, v = .agg cs.toArray := by
  unfold Value.okWide at h
  rw [ht] at h
  obtain ⟨cs, rfl, _⟩ := h
  exact ⟨cs.toList, by simp⟩
end Go.Proofs.YtcglahfmnoghjaaGreatDoor

/-! BLAKE2s over whole numbers: what the document's sum computes. Conditions: none; of no program. -/
namespace Go.Proofs.YtcglahfmnoghjaaGreatDoor
open Go Go.Eng

def x32 (a b : Int) : Int := bitop .xor .u32 a b
def o32 (a b : Int) : Int := bitop .or .u32 a b
def a32 (a b : Int) : Int := wr .u32 (a + b)
/-- A word turned right. -/
def rotr (x n : Int) : Int := o32 (shr .u32 x n) (shl .u32 x (32 - n))
def g0 (v : List Int) (i : Int) : Int := v.getD i.toNat 0
/-- G on the words a, b, c, d. -/
def stepB (v : List Int) (a b c d x y : Int) : List Int :=
  let v1 := v.set a.toNat (a32 (a32 (g0 v a) (g0 v b)) x)
  let v2 := v1.set d.toNat (rotr (x32 (g0 v1 d) (g0 v1 a)) 16)
  let v3 := v2.set c.toNat (a32 (g0 v2 c) (g0 v2 d))
  let v4 := v3.set b.toNat (rotr (x32 (g0 v3 b) (g0 v3 c)) 12)
  let v5 := v4.set a.toNat (a32 (a32 (g0 v4 a) (g0 v4 b)) y)
  let v6 := v5.set d.toNat (rotr (x32 (g0 v5 d) (g0 v5 a)) 8)
  let v7 := v6.set c.toNat (a32 (g0 v6 c) (g0 v6 d))
  v7.set b.toNat (rotr (x32 (g0 v7 b) (g0 v7 c)) 7)
theorem stepB_len (v : List Int) (a b c d x y : Int) : (stepB v a b c d x y).length = v.length := by simp [stepB]

def placesB : List (List Int) := [[0, 4, 8, 12], [1, 5, 9, 13], [2, 6, 10, 14], [3, 7, 11, 15], [0, 5, 10, 15], [1, 6, 11, 12], [2, 7, 8, 13], [3, 4, 9, 14]]
def pl (i j : Nat) : Int := (placesB.getD i []).getD j 0
/-- Step k of eighty, on the words of a block. -/
def gstep (ord m v : List Int) (k : Nat) : List Int :=
  stepB v (pl (k % 8) 0) (pl (k % 8) 1) (pl (k % 8) 2) (pl (k % 8) 3) (g0 m (ord.getD (16 * (k / 8) + 2 * (k % 8)) 0)) (g0 m (ord.getD (16 * (k / 8) + 2 * (k % 8) + 1) 0))
def gN (ord m v : List Int) : Nat → List Int
  | 0 => v
  | k + 1 => gstep ord m (gN ord m v k) k
theorem gN_len (ord m v : List Int) : ∀ k, (gN ord m v k).length = v.length
  | 0 => rfl
  | k + 1 => by simp only [gN, gstep]; rw [stepB_len, gN_len]

def ivB : List Int := [1779033703, 3144134277, 1013904242, 2773480762, 1359893119, 2600822924, 528734635, 1541459225]
/-- A block's word. -/
def wordB (b : List Int) (i : Nat) : Int := b.getD (4 * i) 0 + 256 * b.getD (4 * i + 1) 0 + 65536 * b.getD (4 * i + 2) 0 + 16777216 * b.getD (4 * i + 3) 0
def wordsB (b : List Int) : List Int := (List.range 16).map (wordB b)
def v0B (h : List Int) (t : Nat) (last : Bool) : List Int :=
  let v := h ++ ivB
  let v1 := v.set 12 (x32 (v.getD 12 0) ((t % 4294967296 : Nat) : Int))
  let v2 := v1.set 13 (x32 (v1.getD 13 0) ((t / 4294967296 : Nat) : Int))
  cond last (v2.set 14 (x32 (v2.getD 14 0) 4294967295)) v2
/-- A block into eight words. -/
def takeB (ord h b : List Int) (t : Nat) (last : Bool) : List Int :=
  let v := gN ord (wordsB b) (v0B h t last) 80
  (List.range 8).map fun i => x32 (x32 (h.getD i 0) (v.getD i 0)) (v.getD (i + 8) 0)
theorem takeB_len (ord h b : List Int) (t : Nat) (last : Bool) : (takeB ord h b t last).length = 8 := by simp [takeB]

def h0B : List Int := ivB.set 0 (x32 (ivB.getD 0 0) 16842784)
def blockB (p : List Int) (q : Nat) : List Int := (p.drop (64 * q)).take 64
/-- The words behind the first q blocks. -/
def hqB (ord p : List Int) : Nat → List Int
  | 0 => h0B
  | q + 1 => takeB ord (hqB ord p q) (blockB p q) (64 * (q + 1)) false
theorem hqB_len (ord p : List Int) : ∀ q, (hqB ord p q).length = 8
  | 0 => rfl
  | _ + 1 => takeB_len _ _ _ _ _
/-- How many blocks are taken in ahead of the last one. -/
def nq (n : Nat) : Nat := (n - 1) / 64
def padB (l : List Int) : List Int := l ++ List.replicate (64 - l.length) 0
def outB (h : List Int) : List Int := (List.range 32).map fun i => wr .u8 (shr .u32 (h.getD (i / 4) 0) (8 * ((i % 4 : Nat) : Int)))
/-- The sum of bytes. -/
def sumB (ord p : List Int) : List Int := outB (takeB ord (hqB ord p (nq p.length)) (padB (p.drop (64 * nq p.length))) p.length true)
theorem sumB_len (ord p : List Int) : (sumB ord p).length = 32 := by simp [sumB, outB]
end Go.Proofs.YtcglahfmnoghjaaGreatDoor

/-! BLAKE2s, the program's and the document's small functions: what they say. Conditions: none. -/
namespace Go.Proofs.YtcglahfmnoghjaaGreatDoor
open Go Go.Eng Go.Proofs.Tryz

def asK (k : IntKind) : SV AA → Option Int
  | .int k' n => if k' = k then some n else none
  | .lit k' n => if k' = k then some n else none
  | _ => none
def rightLS : LS AA where
  X := Int × Int
  pre := fun x => 0 ≤ x.2 ∧ x.2 ≤ 32
  args := fun x => [.int .u32 x.1, .int .i64 x.2]
  hin := fun _ => []
  res := fun x => [.int .u32 (rotr x.1 x.2)]
  hout := fun _ => []
def rightGet (args : List (SV AA)) (_ : List (SO AA)) : Option (Int × Int) := match args with
  | [x, n] => match asK .u32 x, asI n with
    | some x, some n => some (x, n)
    | _, _ => none
  | _ => none
def L30 : List (Nat × SpecT AA) := (152, tLent rightLS rightGet) :: L19c
noncomputable def E30 : Eng AA := EE prog L30
theorem E30_eq : E30 = EE prog L30 := by
  unfold E30
  rfl
def rotlLS : LS AA where
  X := Int × Int
  pre := fun x => x.2 = -16 ∨ x.2 = -12 ∨ x.2 = -8 ∨ x.2 = -7
  args := fun x => [.int .u32 x.1, .int .i64 x.2]
  hin := fun _ => []
  res := fun x => [.int .u32 (rotr x.1 (0 - x.2))]
  hout := fun _ => []
def L31 : List (Nat × SpecT AA) := (153, tLent rotlLS rightGet) :: L30
noncomputable def E31 : Eng AA := EE prog L31
theorem E31_eq : E31 = EE prog L31 := by
  unfold E31
  rfl

structure MixX where
  v : List Int
  a : Int
  b : Int
  c : Int
  d : Int
  x : Int
  y : Int
def MixX.out (m : MixX) : List Int := stepB m.v m.a m.b m.c m.d m.x m.y
structure MixX.Ok (m : MixX) : Prop where
  len : m.v.length = 16
  a0 : 0 ≤ m.a
  a1 : m.a < 16
  b0 : 0 ≤ m.b
  b1 : m.b < 16
  c0 : 0 ≤ m.c
  c1 : m.c < 16
  d0 : 0 ≤ m.d
  d1 : m.d < 16
def mixLS : LS AA where
  X := MixX
  pre := MixX.Ok
  args := fun m => [.ptr 0 0, .int .i64 m.a, .int .i64 m.b, .int .i64 m.c, .int .i64 m.d, .int .u32 m.x, .int .u32 m.y]
  hin := fun m => [.cells 238 (.run .u32 16 m.v .nil)]
  res := fun _ => []
  hout := fun m => [.cells 238 (.run .u32 16 m.out .nil)]
def u32At (sh : List (SO AA)) : SV AA → Option (List Int)
  | .ptr i 0 => match nth sh i with
    | some (.cells _ (.run _ _ v .nil)) => some v
    | _ => none
  | .vec i => match nth sh i with
    | some (.ivec _ _ v) => some v
    | _ => none
  | _ => none
def mixGet (args : List (SV AA)) (sh : List (SO AA)) : Option MixX := match args with
  | [p, a, b, c, d, x, y] => match u32At sh p, asI a, asI b, asI c, asI d, asK .u32 x, asK .u32 y with
    | some v, some a, some b, some c, some d, some x, some y => some ⟨v, a, b, c, d, x, y⟩
    | _, _, _, _, _, _, _ => none
  | _ => none
def L32 : List (Nat × SpecT AA) := (146, tLent mixLS mixGet) :: L31
noncomputable def E32 : Eng AA := EE prog L32
theorem E32_eq : E32 = EE prog L32 := by
  unfold E32
  rfl
def stepLS : LS AA where
  X := MixX
  pre := MixX.Ok
  args := fun m => [.vec 0, .int .i64 m.a, .int .i64 m.b, .int .i64 m.c, .int .i64 m.d, .int .u32 m.x, .int .u32 m.y]
  hin := fun m => [.ivec 189 .u32 m.v]
  res := fun _ => []
  hout := fun m => [.ivec 189 .u32 m.out]
def L33 : List (Nat × SpecT AA) := (144, tLent stepLS mixGet) :: L32
noncomputable def E33 : Eng AA := EE prog L33
theorem E33_eq : E33 = EE prog L33 := by
  unfold E33
  rfl
def firstLS : LS AA where
  X := Unit
  pre := fun _ => True
  args := fun _ => []
  hin := fun _ => []
  res := fun _ => [.agg (.run .u32 8 ivB .nil)]
  hout := fun _ => []
def L34 : List (Nat × SpecT AA) := (116, tLent firstLS sureGet) :: L33
noncomputable def E34 : Eng AA := EE prog L34
theorem E34_eq : E34 = EE prog L34 := by
  unfold E34
  rfl
def beginLS : LS AA where
  X := Unit
  pre := fun _ => True
  args := fun _ => []
  hin := fun _ => []
  res := fun _ => [.vec 0]
  hout := fun _ => [.ivec 189 .u32 ivB]
def L35 : List (Nat × SpecT AA) := (122, tLent beginLS sureGet) :: L34
noncomputable def E35 : Eng AA := EE prog L35
theorem E35_eq : E35 = EE prog L35 := by
  unfold E35
  rfl
/-- A digit of base 16. -/
def digN (c : Int) : Int := if 97 ≤ c then c - 87 else c - 48
def digitLS : LS AA where
  X := Int
  pre := fun c => 48 ≤ c ∧ c ≤ 102
  args := fun c => [.int .u8 c]
  hin := fun _ => []
  res := fun c => [.int .i64 (digN c)]
  hout := fun _ => []
def digitGet (args : List (SV AA)) (_ : List (SO AA)) : Option Int := match args with
  | [c] => asK .u8 c
  | _ => none
def L36 : List (Nat × SpecT AA) := (145, tLent digitLS digitGet) :: L35
noncomputable def E36 : Eng AA := EE prog L36
theorem E36_eq : E36 = EE prog L36 := by
  unfold E36
  rfl
def rowsB : List ByteArray := [⟨#[48, 49, 50, 51, 52, 53, 54, 55, 56, 57, 97, 98, 99, 100, 101, 102]⟩, ⟨#[101, 97, 52, 56, 57, 102, 100, 54, 49, 99, 48, 50, 98, 55, 53, 51]⟩, ⟨#[98, 56, 99, 48, 53, 50, 102, 100, 97, 101, 51, 54, 55, 49, 57, 52]⟩, ⟨#[55, 57, 51, 49, 100, 99, 98, 101, 50, 54, 53, 97, 52, 48, 102, 56]⟩, ⟨#[57, 48, 53, 55, 50, 52, 97, 102, 101, 49, 98, 99, 54, 56, 51, 100]⟩, ⟨#[50, 99, 54, 97, 48, 98, 56, 51, 52, 100, 55, 53, 102, 101, 49, 57]⟩, ⟨#[99, 53, 49, 102, 101, 100, 52, 97, 48, 55, 54, 51, 57, 50, 56, 98]⟩, ⟨#[100, 98, 55, 101, 99, 49, 51, 57, 53, 48, 102, 52, 56, 54, 50, 97]⟩, ⟨#[54, 102, 101, 57, 98, 51, 48, 56, 99, 50, 100, 55, 49, 52, 97, 53]⟩, ⟨#[97, 50, 56, 52, 55, 54, 49, 53, 102, 98, 57, 101, 51, 99, 100, 48]⟩]
def rowLS : LS AA where
  X := Int
  pre := fun r => 0 ≤ r ∧ r < 10
  args := fun r => [.int .i64 r]
  hin := fun _ => []
  res := fun r => [.val (.string (rowsB.getD r.toNat ByteArray.empty))]
  hout := fun _ => []
def rowGet (args : List (SV AA)) (_ : List (SO AA)) : Option Int := match args with
  | [c] => asI c
  | _ => none
def L37 : List (Nat × SpecT AA) := (143, tLent rowLS rowGet) :: L36
noncomputable def E37 : Eng AA := EE prog L37
theorem E37_eq : E37 = EE prog L37 := by
  unfold E37
  rfl
end Go.Proofs.YtcglahfmnoghjaaGreatDoor

/-! BLAKE2s, the program's and the document's small functions: they hold. Conditions: none. -/
namespace Go.Proofs.YtcglahfmnoghjaaGreatDoor
open Go Go.Eng Go.Proofs.Tryz

theorem wr32 (x : Int) : wr .u32 x = x % 4294967296 := by
  show IntKind.wrap .u32 x = _
  simp [IntKind.wrap, IntKind.bits, IntKind.signed]
theorem wr8 (x : Int) : wr .u8 x = x % 256 := by
  show IntKind.wrap .u8 x = _
  simp [IntKind.wrap, IntKind.bits, IntKind.signed]
theorem wr64u (x : Int) : wr .u64 x = x % 18446744073709551616 := by
  show IntKind.wrap .u64 x = _
  simp [IntKind.wrap, IntKind.bits, IntKind.signed]
theorem wr64 {x : Int} (h : inI64 x) : wr .i64 x = x := wrap_id h
theorem a32_assoc (p q x : Int) : wr .u32 (p + wr .u32 (q + x)) = wr .u32 (wr .u32 (p + q) + x) := by
  simp only [wr32]; omega

/-- A word: from 0 up to 2^32. -/
def isW (x : Int) : Prop := 0 ≤ x ∧ x < 4294967296
theorem bitop_nat (op : BinOp) (f : {n : Nat} → BitVec n → BitVec n → BitVec n) (h : ∀ k x y, bitop op k x y = k.wrap (f (BitVec.ofInt k.bits x) (BitVec.ofInt k.bits y)).toNat) (x y : Int) :
    bitop op .u32 x y = ((f (BitVec.ofInt 32 x) (BitVec.ofInt 32 y)).toNat : Int) := by
  rw [h]
  show wr .u32 _ = _
  rw [wr32]
  have : (f (BitVec.ofInt 32 x) (BitVec.ofInt 32 y)).toNat < 2 ^ 32 := BitVec.isLt _
  show ((f (BitVec.ofInt 32 x) (BitVec.ofInt 32 y)).toNat : Int) % 4294967296 = _
  omega
theorem xor_bv (x y : Int) : bitop .xor .u32 x y = ((BitVec.ofInt 32 x ^^^ BitVec.ofInt 32 y).toNat : Int) := bitop_nat .xor (fun a b => a ^^^ b) (fun _ _ _ => rfl) x y
theorem or_bv (x y : Int) : bitop .or .u32 x y = ((BitVec.ofInt 32 x ||| BitVec.ofInt 32 y).toNat : Int) := bitop_nat .or (fun a b => a ||| b) (fun _ _ _ => rfl) x y
theorem ofInt_toNat (b : BitVec 32) : BitVec.ofInt 32 (b.toNat : Int) = b := by
  simp
theorem x32_assoc (x y z : Int) : x32 x (x32 y z) = x32 (x32 x y) z := by
  unfold x32
  rw [xor_bv y z, xor_bv x y, xor_bv, xor_bv, ofInt_toNat, ofInt_toNat, BitVec.xor_assoc]
theorem x32_comm (x y : Int) : x32 x y = x32 y x := by
  unfold x32
  rw [xor_bv, xor_bv, BitVec.xor_comm]
theorem o32_comm (x y : Int) : o32 x y = o32 y x := by
  unfold o32
  rw [or_bv, or_bv, BitVec.or_comm]

def rightVC : Prop := ∀ (x : Int × Int), (0 : Int) ≤ x.snd ∧ x.snd ≤ (32 : Int) → (0 : Int) ≤ x.snd ∧ inI64 ((32 : Int) - x.snd) ∧ (0 : Int) ≤ (32 : Int) - x.snd ∧ rotr
  x.fst x.snd = bitop BinOp.or IntKind.u32 (shr IntKind.u32 x.fst x.snd) (shl IntKind.u32 x.fst ((32 : Int) - x.snd)) ∧ True ∧ True
theorem right_eq : rightVC = fnS E19c f152 (bodyOf f152) rightLS noAnn := by kernel_rfl
theorem right_vc : rightVC := by
  rintro ⟨x, n⟩ ⟨h1, h2⟩
  exact ⟨h1, by unfold inI64; simp only at h1 h2 ⊢; omega, by simp only at h1 h2 ⊢; omega, rfl, trivial, trivial⟩
theorem right_ok : Fits E19c f152 (bodyOf f152) rightLS noAnn := by
  constructor
  rw [← right_eq]
  exact right_vc
theorem f131_has : Has prog 152 f152 (bodyOf f152) := ⟨by kernel_rfl, by kernel_rfl, by kernel_rfl⟩
theorem known30 : Known prog L30 := by
  unfold L30
  exact known19c.lent mixed f131_has E19c_eq right_ok (fun _ _ => Nat.le_refl _) (fun _ _ => rfl)

def rotlVC : Prop := ∀ (x : Int × Int), x.snd = (-16 : Int) ∨ x.snd = (-12 : Int) ∨ x.snd = (-8 : Int) ∨ x.snd = (-7 : Int) → (0 : Int) ≤ bitop BinOp.and IntKind.u64 (wr
  IntKind.u64 x.snd) (31 : Int) ∧ (0 : Int) ≤ wr IntKind.u64 ((32 : Int) - bitop BinOp.and IntKind.u64 (wr IntKind.u64 x.snd) (31 : Int)) ∧ rotr x.fst
  ((0 : Int) - x.snd) = bitop BinOp.or IntKind.u32 (shl IntKind.u32 x.fst (bitop BinOp.and IntKind.u64 (wr IntKind.u64 x.snd) (31 : Int))) (shr
  IntKind.u32 x.fst (wr IntKind.u64 ((32 : Int) - bitop BinOp.and IntKind.u64 (wr IntKind.u64 x.snd) (31 : Int)))) ∧ True ∧ True
theorem rotl_eq : rotlVC = fnS E30 f153 (bodyOf f153) rotlLS noAnn := by kernel_rfl
theorem rotl_vc : rotlVC := by
  rintro ⟨x, k⟩ h
  simp only at h
  have key : ∀ (k s : Int), bitop .and .u64 (wr .u64 k) 31 = s → wr .u64 (32 - s) = 0 - k → 0 ≤ s → 0 ≤ 0 - k → s = 32 - (0 - k) →
      (0 ≤ bitop .and .u64 (wr .u64 k) 31 ∧ 0 ≤ wr .u64 (32 - bitop .and .u64 (wr .u64 k) 31) ∧
        rotr x (0 - k) = bitop .or .u32 (shl .u32 x (bitop .and .u64 (wr .u64 k) 31)) (shr .u32 x (wr .u64 (32 - bitop .and .u64 (wr .u64 k) 31))) ∧ True ∧ True) := by
    intro k s h1 h2 h3 h4 h5
    rw [h1, h2]
    refine ⟨h3, h4, ?_, trivial, trivial⟩
    rw [h5]
    exact o32_comm _ _
  rcases h with rfl | rfl | rfl | rfl
  · exact key (-16) 16 (by decide) (by decide) (by decide) (by decide) (by decide)
  · exact key (-12) 20 (by decide) (by decide) (by decide) (by decide) (by decide)
  · exact key (-8) 24 (by decide) (by decide) (by decide) (by decide) (by decide)
  · exact key (-7) 25 (by decide) (by decide) (by decide) (by decide) (by decide)
theorem rotl_ok : Fits E30 f153 (bodyOf f153) rotlLS noAnn := by
  constructor
  rw [← rotl_eq]
  exact rotl_vc
theorem f137_has : Has prog 153 f153 (bodyOf f153) := ⟨by kernel_rfl, by kernel_rfl, by kernel_rfl⟩
theorem known31 : Known prog L31 := by
  unfold L31
  exact known30.lent mixed f137_has E30_eq rotl_ok (fun _ _ => Nat.le_refl _) (fun _ _ => rfl)

def mixVC : Prop := ∀ (x : MixX), x.Ok → (0 : Int) ≤ x.a ∧ x.a < (↑(16 : Nat) : Int) ∧ (0 : Int) ≤ x.b ∧ x.b < (↑(16 : Nat) : Int) ∧ (0 : Int) ≤ x.a ∧ x.a < (↑(16 : Nat) :
  Int) ∧ ∀ (ys : List Int), ys = x.v.set x.a.toNat (wr IntKind.u32 (x.v.getD x.a.toNat (0 : Int) + wr IntKind.u32 (x.v.getD x.b.toNat (0 : Int) + x.x)))
  → (0 : Int) ≤ x.d ∧ x.d < (↑(16 : Nat) : Int) ∧ (0 : Int) ≤ x.a ∧ x.a < (↑(16 : Nat) : Int) ∧ (bitop BinOp.xor IntKind.u32 (ys.getD x.d.toNat (0 :
  Int)) (ys.getD x.a.toNat (0 : Int)) = bitop BinOp.xor IntKind.u32 (ys.getD x.d.toNat (0 : Int)) (ys.getD x.a.toNat (0 : Int)) ∧ (-16 : Int) = (-16 :
  Int)) ∧ True ∧ ((-16 : Int) = (-16 : Int) ∨ (-16 : Int) = (-12 : Int) ∨ (-16 : Int) = (-8 : Int) ∨ (-16 : Int) = (-7 : Int)) ∧ (0 : Int) ≤ x.d ∧ x.d <
  (↑(16 : Nat) : Int) ∧ ∀ (ys_1 : List Int), ys_1 = ys.set x.d.toNat (rotr (bitop BinOp.xor IntKind.u32 (ys.getD x.d.toNat (0 : Int)) (ys.getD x.a.toNat
  (0 : Int))) ((0 : Int) - (-16 : Int))) → (0 : Int) ≤ x.c ∧ x.c < (↑(16 : Nat) : Int) ∧ (0 : Int) ≤ x.d ∧ x.d < (↑(16 : Nat) : Int) ∧ (0 : Int) ≤ x.c ∧
  x.c < (↑(16 : Nat) : Int) ∧ ∀ (ys : List Int), ys = ys_1.set x.c.toNat (wr IntKind.u32 (ys_1.getD x.c.toNat (0 : Int) + ys_1.getD x.d.toNat (0 : Int)))
  → (0 : Int) ≤ x.b ∧ x.b < (↑(16 : Nat) : Int) ∧ (0 : Int) ≤ x.c ∧ x.c < (↑(16 : Nat) : Int) ∧ (bitop BinOp.xor IntKind.u32 (ys.getD x.b.toNat (0 :
  Int)) (ys.getD x.c.toNat (0 : Int)) = bitop BinOp.xor IntKind.u32 (ys.getD x.b.toNat (0 : Int)) (ys.getD x.c.toNat (0 : Int)) ∧ (-12 : Int) = (-12 :
  Int)) ∧ True ∧ ((-12 : Int) = (-16 : Int) ∨ (-12 : Int) = (-12 : Int) ∨ (-12 : Int) = (-8 : Int) ∨ (-12 : Int) = (-7 : Int)) ∧ (0 : Int) ≤ x.b ∧ x.b <
  (↑(16 : Nat) : Int) ∧ ∀ (ys_2 : List Int), ys_2 = ys.set x.b.toNat (rotr (bitop BinOp.xor IntKind.u32 (ys.getD x.b.toNat (0 : Int)) (ys.getD x.c.toNat
  (0 : Int))) ((0 : Int) - (-12 : Int))) → (0 : Int) ≤ x.a ∧ x.a < (↑(16 : Nat) : Int) ∧ (0 : Int) ≤ x.b ∧ x.b < (↑(16 : Nat) : Int) ∧ (0 : Int) ≤ x.a ∧
  x.a < (↑(16 : Nat) : Int) ∧ ∀ (ys : List Int), ys = ys_2.set x.a.toNat (wr IntKind.u32 (ys_2.getD x.a.toNat (0 : Int) + wr IntKind.u32 (ys_2.getD
  x.b.toNat (0 : Int) + x.y))) → (0 : Int) ≤ x.d ∧ x.d < (↑(16 : Nat) : Int) ∧ (0 : Int) ≤ x.a ∧ x.a < (↑(16 : Nat) : Int) ∧ (bitop BinOp.xor IntKind.u32
  (ys.getD x.d.toNat (0 : Int)) (ys.getD x.a.toNat (0 : Int)) = bitop BinOp.xor IntKind.u32 (ys.getD x.d.toNat (0 : Int)) (ys.getD x.a.toNat (0 : Int)) ∧
  (-8 : Int) = (-8 : Int)) ∧ True ∧ ((-8 : Int) = (-16 : Int) ∨ (-8 : Int) = (-12 : Int) ∨ (-8 : Int) = (-8 : Int) ∨ (-8 : Int) = (-7 : Int)) ∧ (0 : Int)
  ≤ x.d ∧ x.d < (↑(16 : Nat) : Int) ∧ ∀ (ys_3 : List Int), ys_3 = ys.set x.d.toNat (rotr (bitop BinOp.xor IntKind.u32 (ys.getD x.d.toNat (0 : Int))
  (ys.getD x.a.toNat (0 : Int))) ((0 : Int) - (-8 : Int))) → (0 : Int) ≤ x.c ∧ x.c < (↑(16 : Nat) : Int) ∧ (0 : Int) ≤ x.d ∧ x.d < (↑(16 : Nat) : Int) ∧
  (0 : Int) ≤ x.c ∧ x.c < (↑(16 : Nat) : Int) ∧ ∀ (ys : List Int), ys = ys_3.set x.c.toNat (wr IntKind.u32 (ys_3.getD x.c.toNat (0 : Int) + ys_3.getD
  x.d.toNat (0 : Int))) → (0 : Int) ≤ x.b ∧ x.b < (↑(16 : Nat) : Int) ∧ (0 : Int) ≤ x.c ∧ x.c < (↑(16 : Nat) : Int) ∧ (bitop BinOp.xor IntKind.u32
  (ys.getD x.b.toNat (0 : Int)) (ys.getD x.c.toNat (0 : Int)) = bitop BinOp.xor IntKind.u32 (ys.getD x.b.toNat (0 : Int)) (ys.getD x.c.toNat (0 : Int)) ∧
  (-7 : Int) = (-7 : Int)) ∧ True ∧ ((-7 : Int) = (-16 : Int) ∨ (-7 : Int) = (-12 : Int) ∨ (-7 : Int) = (-8 : Int) ∨ (-7 : Int) = (-7 : Int)) ∧ (0 : Int)
  ≤ x.b ∧ x.b < (↑(16 : Nat) : Int) ∧ ∀ (ys_4 : List Int), ys_4 = ys.set x.b.toNat (rotr (bitop BinOp.xor IntKind.u32 (ys.getD x.b.toNat (0 : Int))
  (ys.getD x.c.toNat (0 : Int))) ((0 : Int) - (-7 : Int))) → True ∧ ((x.out = ys_4 ∧ True) ∧ True) ∧ True
theorem mix_eq : mixVC = fnS E31 f146 (bodyOf f146) mixLS noAnn := by kernel_rfl
theorem mix_vc : mixVC := by
  rintro ⟨v, a, b, c, d, x, y⟩ ⟨h1, h2, h3, h4, h5, h6, h7, h8, h9⟩
  simp only at h1 h2 h3 h4 h5 h6 h7 h8 h9
  simp only [a32_assoc, true_and, and_true, h2, h3, h4, h5, h6, h7, h8, h9, show ((16 : Nat) : Int) = 16 from rfl]
  intro y1 e1
  refine ⟨by decide, ?_⟩
  intro y2 e2 y3 e3
  refine ⟨by decide, ?_⟩
  intro y4 e4 y5 e5
  refine ⟨by decide, ?_⟩
  intro y6 e6 y7 e7
  refine ⟨by decide, ?_⟩
  intro y8 e8
  subst e1; subst e2; subst e3; subst e4; subst e5; subst e6; subst e7; subst e8
  rfl
theorem mix_ok : Fits E31 f146 (bodyOf f146) mixLS noAnn := by
  constructor
  rw [← mix_eq]
  exact mix_vc
theorem f130_has : Has prog 146 f146 (bodyOf f146) := ⟨by kernel_rfl, by kernel_rfl, by kernel_rfl⟩
theorem known32 : Known prog L32 := by
  unfold L32
  exact known31.lent mixed f130_has E31_eq mix_ok (fun _ _ => Nat.le_refl _) (fun h => by cases h)

def stepVC : Prop := ∀ (x : MixX), x.Ok → (0 : Int) ≤ x.a ∧ x.a < (↑x.v.length : Int) ∧ x.a.toNat < x.v.length ∧ (0 : Int) ≤ x.b ∧ x.b < (↑x.v.length : Int) ∧ x.b.toNat <
  x.v.length ∧ (0 : Int) ≤ x.a ∧ x.a < (↑x.v.length : Int) ∧ x.a.toNat < x.v.length ∧ ∀ (ys : List Int), ys = x.v.set x.a.toNat (wr IntKind.u32 (wr
  IntKind.u32 (x.v.getD x.a.toNat (0 : Int) + x.v.getD x.b.toNat (0 : Int)) + x.x)) → (0 : Int) ≤ x.d ∧ x.d < (↑ys.length : Int) ∧ x.d.toNat < ys.length
  ∧ (0 : Int) ≤ x.a ∧ x.a < (↑ys.length : Int) ∧ x.a.toNat < ys.length ∧ (bitop BinOp.xor IntKind.u32 (ys.getD x.d.toNat (0 : Int)) (ys.getD x.a.toNat (0
  : Int)) = bitop BinOp.xor IntKind.u32 (ys.getD x.d.toNat (0 : Int)) (ys.getD x.a.toNat (0 : Int)) ∧ (16 : Int) = (16 : Int)) ∧ True ∧ ((0 : Int) ≤ (16
  : Int) ∧ (16 : Int) ≤ (32 : Int)) ∧ (0 : Int) ≤ x.d ∧ x.d < (↑ys.length : Int) ∧ x.d.toNat < ys.length ∧ ∀ (ys_1 : List Int), ys_1 = ys.set x.d.toNat
  (rotr (bitop BinOp.xor IntKind.u32 (ys.getD x.d.toNat (0 : Int)) (ys.getD x.a.toNat (0 : Int))) (16 : Int)) → (0 : Int) ≤ x.c ∧ x.c < (↑ys_1.length :
  Int) ∧ x.c.toNat < ys_1.length ∧ (0 : Int) ≤ x.d ∧ x.d < (↑ys_1.length : Int) ∧ x.d.toNat < ys_1.length ∧ (0 : Int) ≤ x.c ∧ x.c < (↑ys_1.length : Int)
  ∧ x.c.toNat < ys_1.length ∧ ∀ (ys : List Int), ys = ys_1.set x.c.toNat (wr IntKind.u32 (ys_1.getD x.c.toNat (0 : Int) + ys_1.getD x.d.toNat (0 : Int)))
  → (0 : Int) ≤ x.b ∧ x.b < (↑ys.length : Int) ∧ x.b.toNat < ys.length ∧ (0 : Int) ≤ x.c ∧ x.c < (↑ys.length : Int) ∧ x.c.toNat < ys.length ∧ (bitop
  BinOp.xor IntKind.u32 (ys.getD x.b.toNat (0 : Int)) (ys.getD x.c.toNat (0 : Int)) = bitop BinOp.xor IntKind.u32 (ys.getD x.b.toNat (0 : Int)) (ys.getD
  x.c.toNat (0 : Int)) ∧ (12 : Int) = (12 : Int)) ∧ True ∧ ((0 : Int) ≤ (12 : Int) ∧ (12 : Int) ≤ (32 : Int)) ∧ (0 : Int) ≤ x.b ∧ x.b < (↑ys.length :
  Int) ∧ x.b.toNat < ys.length ∧ ∀ (ys_2 : List Int), ys_2 = ys.set x.b.toNat (rotr (bitop BinOp.xor IntKind.u32 (ys.getD x.b.toNat (0 : Int)) (ys.getD
  x.c.toNat (0 : Int))) (12 : Int)) → (0 : Int) ≤ x.a ∧ x.a < (↑ys_2.length : Int) ∧ x.a.toNat < ys_2.length ∧ (0 : Int) ≤ x.b ∧ x.b < (↑ys_2.length :
  Int) ∧ x.b.toNat < ys_2.length ∧ (0 : Int) ≤ x.a ∧ x.a < (↑ys_2.length : Int) ∧ x.a.toNat < ys_2.length ∧ ∀ (ys : List Int), ys = ys_2.set x.a.toNat
  (wr IntKind.u32 (wr IntKind.u32 (ys_2.getD x.a.toNat (0 : Int) + ys_2.getD x.b.toNat (0 : Int)) + x.y)) → (0 : Int) ≤ x.d ∧ x.d < (↑ys.length : Int) ∧
  x.d.toNat < ys.length ∧ (0 : Int) ≤ x.a ∧ x.a < (↑ys.length : Int) ∧ x.a.toNat < ys.length ∧ (bitop BinOp.xor IntKind.u32 (ys.getD x.d.toNat (0 : Int))
  (ys.getD x.a.toNat (0 : Int)) = bitop BinOp.xor IntKind.u32 (ys.getD x.d.toNat (0 : Int)) (ys.getD x.a.toNat (0 : Int)) ∧ (8 : Int) = (8 : Int)) ∧ True
  ∧ ((0 : Int) ≤ (8 : Int) ∧ (8 : Int) ≤ (32 : Int)) ∧ (0 : Int) ≤ x.d ∧ x.d < (↑ys.length : Int) ∧ x.d.toNat < ys.length ∧ ∀ (ys_3 : List Int), ys_3 =
  ys.set x.d.toNat (rotr (bitop BinOp.xor IntKind.u32 (ys.getD x.d.toNat (0 : Int)) (ys.getD x.a.toNat (0 : Int))) (8 : Int)) → (0 : Int) ≤ x.c ∧ x.c <
  (↑ys_3.length : Int) ∧ x.c.toNat < ys_3.length ∧ (0 : Int) ≤ x.d ∧ x.d < (↑ys_3.length : Int) ∧ x.d.toNat < ys_3.length ∧ (0 : Int) ≤ x.c ∧ x.c <
  (↑ys_3.length : Int) ∧ x.c.toNat < ys_3.length ∧ ∀ (ys : List Int), ys = ys_3.set x.c.toNat (wr IntKind.u32 (ys_3.getD x.c.toNat (0 : Int) + ys_3.getD
  x.d.toNat (0 : Int))) → (0 : Int) ≤ x.b ∧ x.b < (↑ys.length : Int) ∧ x.b.toNat < ys.length ∧ (0 : Int) ≤ x.c ∧ x.c < (↑ys.length : Int) ∧ x.c.toNat <
  ys.length ∧ (bitop BinOp.xor IntKind.u32 (ys.getD x.b.toNat (0 : Int)) (ys.getD x.c.toNat (0 : Int)) = bitop BinOp.xor IntKind.u32 (ys.getD x.b.toNat
  (0 : Int)) (ys.getD x.c.toNat (0 : Int)) ∧ (7 : Int) = (7 : Int)) ∧ True ∧ ((0 : Int) ≤ (7 : Int) ∧ (7 : Int) ≤ (32 : Int)) ∧ (0 : Int) ≤ x.b ∧ x.b <
  (↑ys.length : Int) ∧ x.b.toNat < ys.length ∧ ∀ (ys_4 : List Int), ys_4 = ys.set x.b.toNat (rotr (bitop BinOp.xor IntKind.u32 (ys.getD x.b.toNat (0 :
  Int)) (ys.getD x.c.toNat (0 : Int))) (7 : Int)) → True ∧ (x.out = ys_4 ∧ True) ∧ True
theorem step_eq : stepVC = fnS E32 f144 (bodyOf f144) stepLS noAnn := by kernel_rfl
theorem step_vc : stepVC := by
  rintro ⟨v, a, b, c, d, x, y⟩ ⟨h1, h2, h3, h4, h5, h6, h7, h8, h9⟩
  simp only at h1 h2 h3 h4 h5 h6 h7 h8 h9
  have ha : a.toNat < 16 := by omega
  have hb : b.toNat < 16 := by omega
  have hc : c.toNat < 16 := by omega
  have hd : d.toNat < 16 := by omega
  have e16 : ((16 : Nat) : Int) = 16 := rfl
  simp only [true_and, and_true, h1, h2, h3, h4, h5, h6, h7, h8, h9, ha, hb, hc, hd, e16]
  intro y1 e1
  have l1 : y1.length = 16 := by rw [e1, List.length_set, h1]
  simp only [l1, true_and, h2, h3, h4, h5, h6, h7, h8, h9, ha, hb, hc, hd, e16]
  refine ⟨by decide, ?_⟩
  intro y2 e2
  have l2 : y2.length = 16 := by rw [e2, List.length_set, l1]
  simp only [l2, true_and, h2, h3, h4, h5, h6, h7, h8, h9, ha, hb, hc, hd, e16]
  intro y3 e3
  have l3 : y3.length = 16 := by rw [e3, List.length_set, l2]
  simp only [l3, true_and, h2, h3, h4, h5, h6, h7, h8, h9, ha, hb, hc, hd, e16]
  refine ⟨by decide, ?_⟩
  intro y4 e4
  have l4 : y4.length = 16 := by rw [e4, List.length_set, l3]
  simp only [l4, true_and, h2, h3, h4, h5, h6, h7, h8, h9, ha, hb, hc, hd, e16]
  intro y5 e5
  have l5 : y5.length = 16 := by rw [e5, List.length_set, l4]
  simp only [l5, true_and, h2, h3, h4, h5, h6, h7, h8, h9, ha, hb, hc, hd, e16]
  refine ⟨by decide, ?_⟩
  intro y6 e6
  have l6 : y6.length = 16 := by rw [e6, List.length_set, l5]
  simp only [l6, true_and, h2, h3, h4, h5, h6, h7, h8, h9, ha, hb, hc, hd, e16]
  intro y7 e7
  have l7 : y7.length = 16 := by rw [e7, List.length_set, l6]
  simp only [l7, true_and, h2, h3, h4, h5, h6, h7, h8, h9, ha, hb, hc, hd, e16]
  refine ⟨by decide, ?_⟩
  intro y8 e8
  subst e1; subst e2; subst e3; subst e4; subst e5; subst e6; subst e7; subst e8
  rfl
theorem step_ok : Fits E32 f144 (bodyOf f144) stepLS noAnn := by
  constructor
  rw [← step_eq]
  exact step_vc
theorem f116_has : Has prog 144 f144 (bodyOf f144) := ⟨by kernel_rfl, by kernel_rfl, by kernel_rfl⟩
theorem known33 : Known prog L33 := by
  unfold L33
  exact known32.lent mixed f116_has E32_eq step_ok (fun _ _ => Nat.le_refl _) (fun h => by cases h)

def firstVC : Prop := ∀ (_ : Unit), True → (ivB = [(1779033703 : Int), (3144134277 : Int), (1013904242 : Int), (2773480762 : Int), (1359893119 : Int), (2600822924 : Int),
  (528734635 : Int), (1541459225 : Int)] ∧ True) ∧ True ∧ True
theorem first_eq : firstVC = fnS E33 f116 (bodyOf f116) firstLS noAnn := by kernel_rfl
theorem first_vc : firstVC := fun _ _ => ⟨⟨rfl, trivial⟩, trivial, trivial⟩
theorem first_ok : Fits E33 f116 (bodyOf f116) firstLS noAnn := by
  constructor
  rw [← first_eq]
  exact first_vc
theorem f89_has : Has prog 116 f116 (bodyOf f116) := ⟨by kernel_rfl, by kernel_rfl, by kernel_rfl⟩
theorem known34 : Known prog L34 := by
  unfold L34
  exact known33.lent mixed f89_has E33_eq first_ok (fun _ _ => Nat.le_refl _) (fun _ _ => rfl)
def beginVC : Prop := ∀ (_ : Unit), True → True ∧ True ∧ ivB = [(1779033703 : Int), (3144134277 : Int), (1013904242 : Int), (2773480762 : Int), (1359893119 : Int),
  (2600822924 : Int), (528734635 : Int), (1541459225 : Int)] ∧ True
theorem begin_eq : beginVC = fnS E34 f122 (bodyOf f122) beginLS noAnn := by kernel_rfl
theorem begin_vc : beginVC := fun _ _ => ⟨trivial, trivial, rfl, trivial⟩
theorem begin_ok : Fits E34 f122 (bodyOf f122) beginLS noAnn := by
  constructor
  rw [← begin_eq]
  exact begin_vc
theorem f92_has : Has prog 122 f122 (bodyOf f122) := ⟨by kernel_rfl, by kernel_rfl, by kernel_rfl⟩
theorem known35 : Known prog L35 := by
  unfold L35
  exact known34.lent mixed f92_has E34_eq begin_ok (fun _ _ => Nat.zero_le _) (fun _ _ => rfl)
def digitVC : Prop := ∀ (x : Int), (48 : Int) ≤ x ∧ x ≤ (102 : Int) → (decide (x ≥ (97 : Int)) = true → inI64 (wr IntKind.i64 (wr IntKind.u8 (x - (97 : Int))) + (10 : Int))
  ∧ digN x = wr IntKind.i64 (wr IntKind.u8 (x - (97 : Int))) + (10 : Int) ∧ True ∧ True) ∧ (decide (x ≥ (97 : Int)) = false → digN x = wr IntKind.i64 (wr
  IntKind.u8 (x - (48 : Int))) ∧ True ∧ True)
theorem digit_eq : digitVC = fnS E35 f145 (bodyOf f145) digitLS noAnn := by kernel_rfl
theorem digit_vc : digitVC := by
  rintro c ⟨h1, h2⟩
  have h48 : wr .u8 (c - 48) = c - 48 := by rw [wr8]; omega
  refine ⟨fun h => ?_, fun h => ?_⟩
  · simp only [decide_eq_true_eq] at h
    have h97 : wr .u8 (c - 97) = c - 97 := by rw [wr8]; omega
    rw [h97, wr64 (by unfold inI64; omega)]
    refine ⟨by unfold inI64; omega, ?_, trivial, trivial⟩
    rw [digN, if_pos (by omega)]; omega
  · simp only [decide_eq_false_iff_not] at h
    rw [h48, wr64 (by unfold inI64; omega)]
    refine ⟨?_, trivial, trivial⟩
    rw [digN, if_neg (by omega)]
theorem digit_ok : Fits E35 f145 (bodyOf f145) digitLS noAnn := by
  constructor
  rw [← digit_eq]
  exact digit_vc
theorem f117_has : Has prog 145 f145 (bodyOf f145) := ⟨by kernel_rfl, by kernel_rfl, by kernel_rfl⟩
theorem known36 : Known prog L36 := by
  unfold L36
  exact known35.lent mixed f117_has E35_eq digit_ok (fun _ _ => Nat.le_refl _) (fun _ _ => rfl)
def rowVC : Prop := ∀ (x : Int), (0 : Int) ≤ x ∧ x < (10 : Int) → (SV.val (A := AA) (Value.string (ByteArray.mk #[(48 : UInt8), (49 : UInt8), (50 : UInt8), (51 : UInt8),
  (52 : UInt8), (53 : UInt8), (54 : UInt8), (55 : UInt8), (56 : UInt8), (57 : UInt8), (97 : UInt8), (98 : UInt8), (99 : UInt8), (100 : UInt8), (101 :
  UInt8), (102 : UInt8)])) = SV.val (A := AA) (Value.string (ByteArray.mk #[(48 : UInt8), (49 : UInt8), (50 : UInt8), (51 : UInt8), (52 : UInt8), (53 :
  UInt8), (54 : UInt8), (55 : UInt8), (56 : UInt8), (57 : UInt8), (97 : UInt8), (98 : UInt8), (99 : UInt8), (100 : UInt8), (101 : UInt8), (102 :
  UInt8)])) ∧ True) ∧ (SV.val (A := AA) (Value.string (ByteArray.mk #[(101 : UInt8), (97 : UInt8), (52 : UInt8), (56 : UInt8), (57 : UInt8), (102 :
  UInt8), (100 : UInt8), (54 : UInt8), (49 : UInt8), (99 : UInt8), (48 : UInt8), (50 : UInt8), (98 : UInt8), (55 : UInt8), (53 : UInt8), (51 : UInt8)]))
  = SV.val (A := AA) (Value.string (ByteArray.mk #[(101 : UInt8), (97 : UInt8), (52 : UInt8), (56 : UInt8), (57 : UInt8), (102 : UInt8), (100 : UInt8),
  (54 : UInt8), (49 : UInt8), (99 : UInt8), (48 : UInt8), (50 : UInt8), (98 : UInt8), (55 : UInt8), (53 : UInt8), (51 : UInt8)])) ∧ True) ∧ (SV.val (A :=
  AA) (Value.string (ByteArray.mk #[(98 : UInt8), (56 : UInt8), (99 : UInt8), (48 : UInt8), (53 : UInt8), (50 : UInt8), (102 : UInt8), (100 : UInt8), (97
  : UInt8), (101 : UInt8), (51 : UInt8), (54 : UInt8), (55 : UInt8), (49 : UInt8), (57 : UInt8), (52 : UInt8)])) = SV.val (A := AA) (Value.string
  (ByteArray.mk #[(98 : UInt8), (56 : UInt8), (99 : UInt8), (48 : UInt8), (53 : UInt8), (50 : UInt8), (102 : UInt8), (100 : UInt8), (97 : UInt8), (101 :
  UInt8), (51 : UInt8), (54 : UInt8), (55 : UInt8), (49 : UInt8), (57 : UInt8), (52 : UInt8)])) ∧ True) ∧ (SV.val (A := AA) (Value.string (ByteArray.mk
  #[(55 : UInt8), (57 : UInt8), (51 : UInt8), (49 : UInt8), (100 : UInt8), (99 : UInt8), (98 : UInt8), (101 : UInt8), (50 : UInt8), (54 : UInt8), (53 :
  UInt8), (97 : UInt8), (52 : UInt8), (48 : UInt8), (102 : UInt8), (56 : UInt8)])) = SV.val (A := AA) (Value.string (ByteArray.mk #[(55 : UInt8), (57 :
  UInt8), (51 : UInt8), (49 : UInt8), (100 : UInt8), (99 : UInt8), (98 : UInt8), (101 : UInt8), (50 : UInt8), (54 : UInt8), (53 : UInt8), (97 : UInt8),
  (52 : UInt8), (48 : UInt8), (102 : UInt8), (56 : UInt8)])) ∧ True) ∧ (SV.val (A := AA) (Value.string (ByteArray.mk #[(57 : UInt8), (48 : UInt8), (53 :
  UInt8), (55 : UInt8), (50 : UInt8), (52 : UInt8), (97 : UInt8), (102 : UInt8), (101 : UInt8), (49 : UInt8), (98 : UInt8), (99 : UInt8), (54 : UInt8),
  (56 : UInt8), (51 : UInt8), (100 : UInt8)])) = SV.val (A := AA) (Value.string (ByteArray.mk #[(57 : UInt8), (48 : UInt8), (53 : UInt8), (55 : UInt8),
  (50 : UInt8), (52 : UInt8), (97 : UInt8), (102 : UInt8), (101 : UInt8), (49 : UInt8), (98 : UInt8), (99 : UInt8), (54 : UInt8), (56 : UInt8), (51 :
  UInt8), (100 : UInt8)])) ∧ True) ∧ (SV.val (A := AA) (Value.string (ByteArray.mk #[(50 : UInt8), (99 : UInt8), (54 : UInt8), (97 : UInt8), (48 :
  UInt8), (98 : UInt8), (56 : UInt8), (51 : UInt8), (52 : UInt8), (100 : UInt8), (55 : UInt8), (53 : UInt8), (102 : UInt8), (101 : UInt8), (49 : UInt8),
  (57 : UInt8)])) = SV.val (A := AA) (Value.string (ByteArray.mk #[(50 : UInt8), (99 : UInt8), (54 : UInt8), (97 : UInt8), (48 : UInt8), (98 : UInt8),
  (56 : UInt8), (51 : UInt8), (52 : UInt8), (100 : UInt8), (55 : UInt8), (53 : UInt8), (102 : UInt8), (101 : UInt8), (49 : UInt8), (57 : UInt8)])) ∧
  True) ∧ (SV.val (A := AA) (Value.string (ByteArray.mk #[(99 : UInt8), (53 : UInt8), (49 : UInt8), (102 : UInt8), (101 : UInt8), (100 : UInt8), (52 :
  UInt8), (97 : UInt8), (48 : UInt8), (55 : UInt8), (54 : UInt8), (51 : UInt8), (57 : UInt8), (50 : UInt8), (56 : UInt8), (98 : UInt8)])) = SV.val (A :=
  AA) (Value.string (ByteArray.mk #[(99 : UInt8), (53 : UInt8), (49 : UInt8), (102 : UInt8), (101 : UInt8), (100 : UInt8), (52 : UInt8), (97 : UInt8),
  (48 : UInt8), (55 : UInt8), (54 : UInt8), (51 : UInt8), (57 : UInt8), (50 : UInt8), (56 : UInt8), (98 : UInt8)])) ∧ True) ∧ (SV.val (A := AA)
  (Value.string (ByteArray.mk #[(100 : UInt8), (98 : UInt8), (55 : UInt8), (101 : UInt8), (99 : UInt8), (49 : UInt8), (51 : UInt8), (57 : UInt8), (53 :
  UInt8), (48 : UInt8), (102 : UInt8), (52 : UInt8), (56 : UInt8), (54 : UInt8), (50 : UInt8), (97 : UInt8)])) = SV.val (A := AA) (Value.string
  (ByteArray.mk #[(100 : UInt8), (98 : UInt8), (55 : UInt8), (101 : UInt8), (99 : UInt8), (49 : UInt8), (51 : UInt8), (57 : UInt8), (53 : UInt8), (48 :
  UInt8), (102 : UInt8), (52 : UInt8), (56 : UInt8), (54 : UInt8), (50 : UInt8), (97 : UInt8)])) ∧ True) ∧ (SV.val (A := AA) (Value.string (ByteArray.mk
  #[(54 : UInt8), (102 : UInt8), (101 : UInt8), (57 : UInt8), (98 : UInt8), (51 : UInt8), (48 : UInt8), (56 : UInt8), (99 : UInt8), (50 : UInt8), (100 :
  UInt8), (55 : UInt8), (49 : UInt8), (52 : UInt8), (97 : UInt8), (53 : UInt8)])) = SV.val (A := AA) (Value.string (ByteArray.mk #[(54 : UInt8), (102 :
  UInt8), (101 : UInt8), (57 : UInt8), (98 : UInt8), (51 : UInt8), (48 : UInt8), (56 : UInt8), (99 : UInt8), (50 : UInt8), (100 : UInt8), (55 : UInt8),
  (49 : UInt8), (52 : UInt8), (97 : UInt8), (53 : UInt8)])) ∧ True) ∧ (SV.val (A := AA) (Value.string (ByteArray.mk #[(97 : UInt8), (50 : UInt8), (56 :
  UInt8), (52 : UInt8), (55 : UInt8), (54 : UInt8), (49 : UInt8), (53 : UInt8), (102 : UInt8), (98 : UInt8), (57 : UInt8), (101 : UInt8), (51 : UInt8),
  (99 : UInt8), (100 : UInt8), (48 : UInt8)])) = SV.val (A := AA) (Value.string (ByteArray.mk #[(97 : UInt8), (50 : UInt8), (56 : UInt8), (52 : UInt8),
  (55 : UInt8), (54 : UInt8), (49 : UInt8), (53 : UInt8), (102 : UInt8), (98 : UInt8), (57 : UInt8), (101 : UInt8), (51 : UInt8), (99 : UInt8), (100 :
  UInt8), (48 : UInt8)])) ∧ True) ∧ (0 : Int) ≤ x ∧ x < (↑[ByteArray.mk #[(48 : UInt8), (49 : UInt8), (50 : UInt8), (51 : UInt8), (52 : UInt8), (53 :
  UInt8), (54 : UInt8), (55 : UInt8), (56 : UInt8), (57 : UInt8), (97 : UInt8), (98 : UInt8), (99 : UInt8), (100 : UInt8), (101 : UInt8), (102 : UInt8)],
  ByteArray.mk #[(101 : UInt8), (97 : UInt8), (52 : UInt8), (56 : UInt8), (57 : UInt8), (102 : UInt8), (100 : UInt8), (54 : UInt8), (49 : UInt8), (99 :
  UInt8), (48 : UInt8), (50 : UInt8), (98 : UInt8), (55 : UInt8), (53 : UInt8), (51 : UInt8)], ByteArray.mk #[(98 : UInt8), (56 : UInt8), (99 : UInt8),
  (48 : UInt8), (53 : UInt8), (50 : UInt8), (102 : UInt8), (100 : UInt8), (97 : UInt8), (101 : UInt8), (51 : UInt8), (54 : UInt8), (55 : UInt8), (49 :
  UInt8), (57 : UInt8), (52 : UInt8)], ByteArray.mk #[(55 : UInt8), (57 : UInt8), (51 : UInt8), (49 : UInt8), (100 : UInt8), (99 : UInt8), (98 : UInt8),
  (101 : UInt8), (50 : UInt8), (54 : UInt8), (53 : UInt8), (97 : UInt8), (52 : UInt8), (48 : UInt8), (102 : UInt8), (56 : UInt8)], ByteArray.mk #[(57 :
  UInt8), (48 : UInt8), (53 : UInt8), (55 : UInt8), (50 : UInt8), (52 : UInt8), (97 : UInt8), (102 : UInt8), (101 : UInt8), (49 : UInt8), (98 : UInt8),
  (99 : UInt8), (54 : UInt8), (56 : UInt8), (51 : UInt8), (100 : UInt8)], ByteArray.mk #[(50 : UInt8), (99 : UInt8), (54 : UInt8), (97 : UInt8), (48 :
  UInt8), (98 : UInt8), (56 : UInt8), (51 : UInt8), (52 : UInt8), (100 : UInt8), (55 : UInt8), (53 : UInt8), (102 : UInt8), (101 : UInt8), (49 : UInt8),
  (57 : UInt8)], ByteArray.mk #[(99 : UInt8), (53 : UInt8), (49 : UInt8), (102 : UInt8), (101 : UInt8), (100 : UInt8), (52 : UInt8), (97 : UInt8), (48 :
  UInt8), (55 : UInt8), (54 : UInt8), (51 : UInt8), (57 : UInt8), (50 : UInt8), (56 : UInt8), (98 : UInt8)], ByteArray.mk #[(100 : UInt8), (98 : UInt8),
  (55 : UInt8), (101 : UInt8), (99 : UInt8), (49 : UInt8), (51 : UInt8), (57 : UInt8), (53 : UInt8), (48 : UInt8), (102 : UInt8), (52 : UInt8), (56 :
  UInt8), (54 : UInt8), (50 : UInt8), (97 : UInt8)], ByteArray.mk #[(54 : UInt8), (102 : UInt8), (101 : UInt8), (57 : UInt8), (98 : UInt8), (51 : UInt8),
  (48 : UInt8), (56 : UInt8), (99 : UInt8), (50 : UInt8), (100 : UInt8), (55 : UInt8), (49 : UInt8), (52 : UInt8), (97 : UInt8), (53 : UInt8)],
  ByteArray.mk #[(97 : UInt8), (50 : UInt8), (56 : UInt8), (52 : UInt8), (55 : UInt8), (54 : UInt8), (49 : UInt8), (53 : UInt8), (102 : UInt8), (98 :
  UInt8), (57 : UInt8), (101 : UInt8), (51 : UInt8), (99 : UInt8), (100 : UInt8), (48 : UInt8)]].length : Int) ∧ x.toNat < [ByteArray.mk #[(48 : UInt8),
  (49 : UInt8), (50 : UInt8), (51 : UInt8), (52 : UInt8), (53 : UInt8), (54 : UInt8), (55 : UInt8), (56 : UInt8), (57 : UInt8), (97 : UInt8), (98 :
  UInt8), (99 : UInt8), (100 : UInt8), (101 : UInt8), (102 : UInt8)], ByteArray.mk #[(101 : UInt8), (97 : UInt8), (52 : UInt8), (56 : UInt8), (57 :
  UInt8), (102 : UInt8), (100 : UInt8), (54 : UInt8), (49 : UInt8), (99 : UInt8), (48 : UInt8), (50 : UInt8), (98 : UInt8), (55 : UInt8), (53 : UInt8),
  (51 : UInt8)], ByteArray.mk #[(98 : UInt8), (56 : UInt8), (99 : UInt8), (48 : UInt8), (53 : UInt8), (50 : UInt8), (102 : UInt8), (100 : UInt8), (97 :
  UInt8), (101 : UInt8), (51 : UInt8), (54 : UInt8), (55 : UInt8), (49 : UInt8), (57 : UInt8), (52 : UInt8)], ByteArray.mk #[(55 : UInt8), (57 : UInt8),
  (51 : UInt8), (49 : UInt8), (100 : UInt8), (99 : UInt8), (98 : UInt8), (101 : UInt8), (50 : UInt8), (54 : UInt8), (53 : UInt8), (97 : UInt8), (52 :
  UInt8), (48 : UInt8), (102 : UInt8), (56 : UInt8)], ByteArray.mk #[(57 : UInt8), (48 : UInt8), (53 : UInt8), (55 : UInt8), (50 : UInt8), (52 : UInt8),
  (97 : UInt8), (102 : UInt8), (101 : UInt8), (49 : UInt8), (98 : UInt8), (99 : UInt8), (54 : UInt8), (56 : UInt8), (51 : UInt8), (100 : UInt8)],
  ByteArray.mk #[(50 : UInt8), (99 : UInt8), (54 : UInt8), (97 : UInt8), (48 : UInt8), (98 : UInt8), (56 : UInt8), (51 : UInt8), (52 : UInt8), (100 :
  UInt8), (55 : UInt8), (53 : UInt8), (102 : UInt8), (101 : UInt8), (49 : UInt8), (57 : UInt8)], ByteArray.mk #[(99 : UInt8), (53 : UInt8), (49 : UInt8),
  (102 : UInt8), (101 : UInt8), (100 : UInt8), (52 : UInt8), (97 : UInt8), (48 : UInt8), (55 : UInt8), (54 : UInt8), (51 : UInt8), (57 : UInt8), (50 :
  UInt8), (56 : UInt8), (98 : UInt8)], ByteArray.mk #[(100 : UInt8), (98 : UInt8), (55 : UInt8), (101 : UInt8), (99 : UInt8), (49 : UInt8), (51 : UInt8),
  (57 : UInt8), (53 : UInt8), (48 : UInt8), (102 : UInt8), (52 : UInt8), (56 : UInt8), (54 : UInt8), (50 : UInt8), (97 : UInt8)], ByteArray.mk #[(54 :
  UInt8), (102 : UInt8), (101 : UInt8), (57 : UInt8), (98 : UInt8), (51 : UInt8), (48 : UInt8), (56 : UInt8), (99 : UInt8), (50 : UInt8), (100 : UInt8),
  (55 : UInt8), (49 : UInt8), (52 : UInt8), (97 : UInt8), (53 : UInt8)], ByteArray.mk #[(97 : UInt8), (50 : UInt8), (56 : UInt8), (52 : UInt8), (55 :
  UInt8), (54 : UInt8), (49 : UInt8), (53 : UInt8), (102 : UInt8), (98 : UInt8), (57 : UInt8), (101 : UInt8), (51 : UInt8), (99 : UInt8), (100 : UInt8),
  (48 : UInt8)]].length ∧ ∀ (y : AA (9 : Nat)), [ByteArray.mk #[(48 : UInt8), (49 : UInt8), (50 : UInt8), (51 : UInt8), (52 : UInt8), (53 : UInt8), (54 :
  UInt8), (55 : UInt8), (56 : UInt8), (57 : UInt8), (97 : UInt8), (98 : UInt8), (99 : UInt8), (100 : UInt8), (101 : UInt8), (102 : UInt8)], ByteArray.mk
  #[(101 : UInt8), (97 : UInt8), (52 : UInt8), (56 : UInt8), (57 : UInt8), (102 : UInt8), (100 : UInt8), (54 : UInt8), (49 : UInt8), (99 : UInt8), (48 :
  UInt8), (50 : UInt8), (98 : UInt8), (55 : UInt8), (53 : UInt8), (51 : UInt8)], ByteArray.mk #[(98 : UInt8), (56 : UInt8), (99 : UInt8), (48 : UInt8),
  (53 : UInt8), (50 : UInt8), (102 : UInt8), (100 : UInt8), (97 : UInt8), (101 : UInt8), (51 : UInt8), (54 : UInt8), (55 : UInt8), (49 : UInt8), (57 :
  UInt8), (52 : UInt8)], ByteArray.mk #[(55 : UInt8), (57 : UInt8), (51 : UInt8), (49 : UInt8), (100 : UInt8), (99 : UInt8), (98 : UInt8), (101 : UInt8),
  (50 : UInt8), (54 : UInt8), (53 : UInt8), (97 : UInt8), (52 : UInt8), (48 : UInt8), (102 : UInt8), (56 : UInt8)], ByteArray.mk #[(57 : UInt8), (48 :
  UInt8), (53 : UInt8), (55 : UInt8), (50 : UInt8), (52 : UInt8), (97 : UInt8), (102 : UInt8), (101 : UInt8), (49 : UInt8), (98 : UInt8), (99 : UInt8),
  (54 : UInt8), (56 : UInt8), (51 : UInt8), (100 : UInt8)], ByteArray.mk #[(50 : UInt8), (99 : UInt8), (54 : UInt8), (97 : UInt8), (48 : UInt8), (98 :
  UInt8), (56 : UInt8), (51 : UInt8), (52 : UInt8), (100 : UInt8), (55 : UInt8), (53 : UInt8), (102 : UInt8), (101 : UInt8), (49 : UInt8), (57 : UInt8)],
  ByteArray.mk #[(99 : UInt8), (53 : UInt8), (49 : UInt8), (102 : UInt8), (101 : UInt8), (100 : UInt8), (52 : UInt8), (97 : UInt8), (48 : UInt8), (55 :
  UInt8), (54 : UInt8), (51 : UInt8), (57 : UInt8), (50 : UInt8), (56 : UInt8), (98 : UInt8)], ByteArray.mk #[(100 : UInt8), (98 : UInt8), (55 : UInt8),
  (101 : UInt8), (99 : UInt8), (49 : UInt8), (51 : UInt8), (57 : UInt8), (53 : UInt8), (48 : UInt8), (102 : UInt8), (52 : UInt8), (56 : UInt8), (54 :
  UInt8), (50 : UInt8), (97 : UInt8)], ByteArray.mk #[(54 : UInt8), (102 : UInt8), (101 : UInt8), (57 : UInt8), (98 : UInt8), (51 : UInt8), (48 : UInt8),
  (56 : UInt8), (99 : UInt8), (50 : UInt8), (100 : UInt8), (55 : UInt8), (49 : UInt8), (52 : UInt8), (97 : UInt8), (53 : UInt8)], ByteArray.mk #[(97 :
  UInt8), (50 : UInt8), (56 : UInt8), (52 : UInt8), (55 : UInt8), (54 : UInt8), (49 : UInt8), (53 : UInt8), (102 : UInt8), (98 : UInt8), (57 : UInt8),
  (101 : UInt8), (51 : UInt8), (99 : UInt8), (100 : UInt8), (48 : UInt8)]][x.toNat]? = some y → SV.val (A := AA) (Value.string (rowsB.getD x.toNat
  ByteArray.empty)) = SV.val (A := AA) (Value.string y) ∧ True ∧ True
theorem row_eq : rowVC = fnS E36 f143 (bodyOf f143) rowLS noAnn := by kernel_rfl
theorem row_vc : rowVC := by
  rintro r ⟨h1, h2⟩
  refine ⟨⟨rfl, trivial⟩, ⟨rfl, trivial⟩, ⟨rfl, trivial⟩, ⟨rfl, trivial⟩, ⟨rfl, trivial⟩, ⟨rfl, trivial⟩, ⟨rfl, trivial⟩, ⟨rfl, trivial⟩, ⟨rfl, trivial⟩, ⟨rfl, trivial⟩, h1, by simpa using h2, by simp; omega, fun y hy => ⟨?_, trivial, trivial⟩⟩
  change rowsB[r.toNat]? = some y at hy
  rw [List.getD_eq_getElem?_getD, hy]
  rfl
theorem row_ok : Fits E36 f143 (bodyOf f143) rowLS noAnn := by
  constructor
  rw [← row_eq]
  exact row_vc
theorem f115_has : Has prog 143 f143 (bodyOf f143) := ⟨by kernel_rfl, by kernel_rfl, by kernel_rfl⟩
theorem known37 : Known prog L37 := by
  unfold L37
  exact known36.lent mixed f115_has E36_eq row_ok (fun _ _ => Nat.le_refl _) (fun _ _ => rfl)
end Go.Proofs.YtcglahfmnoghjaaGreatDoor

/-! BLAKE2s, a block taken in: what it says, the program's and the document's. Conditions: none. -/
namespace Go.Proofs.YtcglahfmnoghjaaGreatDoor
open Go Go.Eng Go.Proofs.Tryz

structure TakeX where
  h : List Int
  b : List Int
  t : Int
  wait : List Int
  t0 : Int
  n0 : Int
structure TakeX.Ok (x : TakeX) : Prop where
  h : x.h.length = 8
  b : x.b.length = 64
  bytes : ∀ y, y ∈ x.b → 0 ≤ y ∧ y < 256
  t0 : 0 ≤ x.t
  t1 : x.t < 18446744073709551616
def TakeX.out (x : TakeX) (last : Bool) : List Int := takeB orderL x.h x.b x.t.toNat last
def TakeX.v (x : TakeX) (last : Bool) (k : Nat) : List Int := gN orderL (wordsB x.b) (v0B x.h x.t.toNat last) k
def stateSL (h : List Int) (w : SV AA) (t n : Int) : SL AA := .run .u32 8 h (.cell w (.cell (.int .u64 t) (.cell (.int .i64 n) .nil)))
def takeALS : LS AA where
  X := TakeX
  pre := TakeX.Ok
  args := fun x => [.ptr 0 0, .agg (.run .u8 64 x.b .nil), .int .u64 x.t, .bl false]
  hin := fun x => [.cells 194 (stateSL x.h (.vec 1) x.t0 x.n0), .ivec 5 .u8 x.wait]
  res := fun _ => []
  hout := fun x => [.cells 194 (stateSL (x.out false) (.vec 1) x.t0 x.n0), .ivec 5 .u8 x.wait]
def takeBLS : LS AA where
  X := TakeX
  pre := TakeX.Ok
  args := fun x => [.ptr 0 0, .agg (.run .u8 64 x.b .nil), .int .u64 x.t, .bl true]
  hin := fun x => [.cells 191 (.run .u32 8 x.h .nil)]
  res := fun _ => []
  hout := fun x => [.cells 191 (.run .u32 8 (x.out true) .nil)]
/-- The first i of some, the others as they were. -/
def upto (i : Nat) (new old : List Int) : List Int := new.take i ++ old.drop i
def takeAnn (l : Bool) (n : Nat) (hc : List Int → SO AA) (x : TakeX) : Anns AA := fun r ts _ => cond (Nat.beq r 4)
  (some { X := Nat, inv := fun i => i ≤ 16, meas := fun i => 16 - i, slots := fun i => [(17, .int .i64 i)],
          heap := fun i => [(n + 1, .cells 238 (.run .u32 16 (upto i (wordsB x.b) (List.replicate 16 0)) .nil))] })
  (cond (Nat.beq r 16)
  (some { X := Nat, inv := fun i => i ≤ 10, meas := fun i => 10 - i, slots := fun i => [(79, .int .i64 i)],
          heap := fun i => [(n + 2, .cells 238 (.run .u32 16 (x.v l (8 * i)) .nil))] })
  (cond (Nat.beq r 31)
  (some { X := Nat, inv := fun i => i ≤ 8, meas := fun i => 8 - i, slots := fun i => [(143, .int .i64 i)],
          heap := fun i => [(0, hc (upto i (x.out l) x.h))] })
  (match nth ts 12 with
  | some (.int _ q) => cond (Nat.beq r 20)
    (some { X := Nat, inv := fun i => i ≤ 4, meas := fun i => 4 - i, slots := fun i => [(85, .int .i64 i)],
            heap := fun i => [(n + 2, .cells 238 (.run .u32 16 (x.v l (8 * q.toNat + i)) .nil))] })
    (some { X := Nat, inv := fun i => i ≤ 4, meas := fun i => 4 - i, slots := fun i => [(110, .int .i64 i)],
            heap := fun i => [(n + 2, .cells 238 (.run .u32 16 (x.v l (8 * q.toNat + 4 + i)) .nil))] })
  | _ => none)))
def takeAnnA (x : TakeX) : Anns AA := takeAnn false 2 (fun h => .cells 194 (stateSL h (.vec 1) x.t0 x.n0)) x
def takeAnnB (x : TakeX) : Anns AA := takeAnn true 1 (fun h => .cells 191 (.run .u32 8 h .nil)) x
end Go.Proofs.YtcglahfmnoghjaaGreatDoor

/-! BLAKE2s, a block taken in: what its words are. Conditions: none. -/
namespace Go.Proofs.YtcglahfmnoghjaaGreatDoor
open Go Go.Eng Go.Proofs.Tryz

theorem or_nat {a b : Nat} (ha : a < 4294967296) (hb : b < 4294967296) : bitop .or .u32 (a : Int) (b : Int) = ((a ||| b : Nat) : Int) := by
  rw [or_bv, BitVec.toNat_or]
  have h1 : (BitVec.ofInt 32 (a : Int)).toNat = a := by simp; omega
  have h2 : (BitVec.ofInt 32 (b : Int)).toNat = b := by simp; omega
  rw [h1, h2]
theorem or_add {a b i : Nat} (ha : a < 2 ^ i) (h : 2 ^ i * b + a < 4294967296) : bitop .or .u32 (a : Int) ((2 ^ i * b : Nat) : Int) = ((2 ^ i * b + a : Nat) : Int) := by
  rw [or_nat (by omega) (by omega), Nat.or_comm, Nat.two_pow_add_eq_or_of_lt ha b]
theorem shl_byte {q : Nat} (hq : q < 256) (n : Nat) (hn : n = 8 ∨ n = 16 ∨ n = 24) : shl .u32 (wr .u32 (q : Int)) ((n : Nat) : Int) = ((2 ^ n * q : Nat) : Int) := by
  rw [wr32]
  rcases hn with rfl | rfl | rfl
  · show wr .u32 (((q : Int) % 4294967296) * 256) = _
    rw [wr32]; omega
  · show wr .u32 (((q : Int) % 4294967296) * 65536) = _
    rw [wr32]; omega
  · show wr .u32 (((q : Int) % 4294967296) * 16777216) = _
    rw [wr32]; omega
theorem word_or {p q r s : Int} (hp : 0 ≤ p ∧ p < 256) (hq : 0 ≤ q ∧ q < 256) (hr : 0 ≤ r ∧ r < 256) (hs : 0 ≤ s ∧ s < 256) :
    bitop .or .u32 (bitop .or .u32 (bitop .or .u32 (wr .u32 p) (shl .u32 (wr .u32 q) 8)) (shl .u32 (wr .u32 r) 16)) (shl .u32 (wr .u32 s) 24) = p + 256 * q + 65536 * r + 16777216 * s := by
  obtain ⟨p, rfl⟩ := Int.eq_ofNat_of_zero_le hp.1
  obtain ⟨q, rfl⟩ := Int.eq_ofNat_of_zero_le hq.1
  obtain ⟨r, rfl⟩ := Int.eq_ofNat_of_zero_le hr.1
  obtain ⟨s, rfl⟩ := Int.eq_ofNat_of_zero_le hs.1
  have h1 : wr .u32 (p : Int) = (p : Int) := by rw [wr32]; omega
  have h8 := shl_byte (q := q) (by omega) 8 (.inl rfl)
  have h16 := shl_byte (q := r) (by omega) 16 (.inr (.inl rfl))
  have h24 := shl_byte (q := s) (by omega) 24 (.inr (.inr rfl))
  rw [h1, show (8 : Int) = ((8 : Nat) : Int) from rfl, h8, or_add (by omega) (by omega), show (16 : Int) = ((16 : Nat) : Int) from rfl, h16, or_add (by omega) (by omega), show (24 : Int) = ((24 : Nat) : Int) from rfl, h24, or_add (by omega) (by omega)]
  omega
theorem getD_byte {b : List Int} (h : ∀ y, y ∈ b → 0 ≤ y ∧ y < 256) (i : Nat) : 0 ≤ b.getD i 0 ∧ b.getD i 0 < 256 := by
  rw [List.getD_eq_getElem?_getD]
  cases e : b[i]? with
  | none => simp
  | some y => exact h y (List.mem_of_getElem? e)
theorem word_at {b : List Int} (h : ∀ y, y ∈ b → 0 ≤ y ∧ y < 256) (i : Nat) :
    bitop .or .u32 (bitop .or .u32 (bitop .or .u32 (wr .u32 (b.getD ((4 : Int) * (i : Int)).toNat 0)) (shl .u32 (wr .u32 (b.getD ((4 : Int) * (i : Int) + 1).toNat 0)) 8)) (shl .u32 (wr .u32 (b.getD ((4 : Int) * (i : Int) + 2).toNat 0)) 16)) (shl .u32 (wr .u32 (b.getD ((4 : Int) * (i : Int) + 3).toNat 0)) 24) = wordB b i := by
  rw [word_or (getD_byte h _) (getD_byte h _) (getD_byte h _) (getD_byte h _)]
  have e0 : ((4 : Int) * (i : Int)).toNat = 4 * i := by omega
  have e1 : ((4 : Int) * (i : Int) + 1).toNat = 4 * i + 1 := by omega
  have e2 : ((4 : Int) * (i : Int) + 2).toNat = 4 * i + 2 := by omega
  have e3 : ((4 : Int) * (i : Int) + 3).toNat = 4 * i + 3 := by omega
  rw [e0, e1, e2, e3]
  rfl

theorem upto_zero (new old : List Int) : upto 0 new old = old := by simp [upto]
theorem upto_all {new old : List Int} {n : Nat} (h1 : new.length = n) (h2 : old.length = n) : upto n new old = new := by
  unfold upto
  rw [List.take_of_length_le (by omega), List.drop_of_length_le (by omega), List.append_nil]
theorem upto_get {new old : List Int} {i : Nat} (h : i ≤ new.length) (k : Nat) : (upto i new old)[k]? = if k < i then new[k]? else old[k]? := by
  unfold upto
  split
  · rename_i hk
    rw [List.getElem?_append_left (by simp; omega), List.getElem?_take, if_pos hk]
  · rename_i hk
    rw [List.getElem?_append_right (by simp; omega), List.getElem?_drop]
    congr 1
    simp
    omega
theorem upto_set {new old : List Int} {i n : Nat} (h1 : new.length = n) (h2 : old.length = n) (hi : i < n) {y : Int} (hy : new.getD i 0 = y) : (upto i new old).set i y = upto (i + 1) new old := by
  have hlen : (upto i new old).length = n := by simp [upto]; omega
  apply List.ext_getElem?
  intro k
  rw [upto_get (by omega)]
  by_cases e : i = k
  · subst e
    rw [List.getElem?_set_self (by omega), if_pos (by omega), ← hy]
    rw [List.getD_eq_getElem?_getD, List.getElem?_eq_getElem (by omega)]
    rfl
  · rw [List.getElem?_set_ne e, upto_get (by omega)]
    by_cases hk : k < i
    · rw [if_pos hk, if_pos (by omega)]
    · rw [if_neg hk, if_neg (by omega)]
theorem upto_getD {new old : List Int} {i n k : Nat} (h1 : new.length = n) (hi : i ≤ n) (hk : i ≤ k) : (upto i new old).getD k 0 = old.getD k 0 := by
  rw [List.getD_eq_getElem?_getD, upto_get (by omega), if_neg (by omega), ← List.getD_eq_getElem?_getD]

theorem list8 {h : List Int} (hl : h.length = 8) : ∃ a b c d e f g i, h = [a, b, c, d, e, f, g, i] := by
  match h, hl with
  | [a, b, c, d, e, f, g, i], _ => exact ⟨a, b, c, d, e, f, g, i, rfl⟩
theorem wordsB_len (b : List Int) : (wordsB b).length = 16 := by simp [wordsB]
theorem wordsB_get (b : List Int) {i : Nat} (hi : i < 16) : (wordsB b).getD i 0 = wordB b i := by
  simp [wordsB, List.getD_eq_getElem?_getD, hi]
theorem ord_all : ∀ y, y ∈ orderL → 0 ≤ y ∧ y < 16 := by
  have h : orderL.all (fun y => decide (0 ≤ y ∧ y < 16)) = true := by decide
  intro y hy
  simpa using List.all_eq_true.1 h y hy
theorem ordT (r k : Nat) : 0 ≤ ((orderL.drop (r * 16)).take 16).getD k 0 ∧ ((orderL.drop (r * 16)).take 16).getD k 0 < 16 := by
  rw [List.getD_eq_getElem?_getD]
  cases e : ((orderL.drop (r * 16)).take 16)[k]? with
  | none => simp
  | some y => exact ord_all y (List.mem_of_mem_drop (List.mem_of_mem_take (List.mem_of_getElem? e)))
theorem ordR (r : Nat) {k : Nat} (hk : k < 16) : ((orderL.drop (r * 16)).take 16).getD k 0 = orderL.getD (16 * r + k) 0 := by
  rw [List.getD_eq_getElem?_getD, List.getD_eq_getElem?_getD, List.getElem?_take, if_pos hk, List.getElem?_drop, Nat.mul_comm]
theorem gstep_at {m v : List Int} {r i : Nat} (hi : i < 8) (a b c d : Int) (ha : a = pl i 0) (hb : b = pl i 1) (hc : c = pl i 2) (hd : d = pl i 3) :
    gstep orderL m v (8 * r + i) = stepB v a b c d (m.getD (((orderL.drop (r * 16)).take 16).getD (2 * i) 0).toNat 0) (m.getD (((orderL.drop (r * 16)).take 16).getD (2 * i + 1) 0).toNat 0) := by
  unfold gstep
  rw [show (8 * r + i) % 8 = i from by omega, show (8 * r + i) / 8 = r from by omega, ← ordR r (k := 2 * i) (by omega), show 16 * r + 2 * i + 1 = 16 * r + (2 * i + 1) from rfl, ← ordR r (k := 2 * i + 1) (by omega), ha, hb, hc, hd]
  rfl
theorem v0_eq {h : List Int} (hl : h.length = 8) : List.take 8 (copyInts (List.replicate 16 0) h) ++ (copyInts (List.take 8 (List.drop 8 (copyInts (List.replicate 16 0) h))) ivB ++ List.drop 16 (copyInts (List.replicate 16 0) h)) = h ++ ivB := by
  obtain ⟨a, b, c, d, e, f, g, i, rfl⟩ := list8 hl
  rfl
theorem v0B_len {h : List Int} (hl : h.length = 8) (t : Nat) (last : Bool) : (v0B h t last).length = 16 := by
  cases last <;> simp [v0B, hl, ivB]
theorem takeB_get {ord h b : List Int} {t : Nat} {last : Bool} {i : Nat} (hi : i < 8) : (takeB ord h b t last).getD i 0 = x32 (x32 (h.getD i 0) ((gN ord (wordsB b) (v0B h t last) 80).getD i 0)) ((gN ord (wordsB b) (v0B h t last) 80).getD (i + 8) 0) := by
  simp [takeB, List.getD_eq_getElem?_getD, hi]
end Go.Proofs.YtcglahfmnoghjaaGreatDoor

/-! BLAKE2s, a block taken in: the program's own. Conditions: none. -/
namespace Go.Proofs.YtcglahfmnoghjaaGreatDoor
open Go Go.Eng Go.Proofs.Tryz

theorem TakeX.v_len (x : TakeX) (hh : x.h.length = 8) (l : Bool) (k : Nat) : (x.v l k).length = 16 := by
  unfold TakeX.v
  rw [gN_len, v0B_len hh]
def turn (r : Nat) : List Int := (orderL.drop (r * 16)).take 16
theorem col_out (x : TakeX) (l : Bool) {r i : Nat} (hi : i < 4) :
    (MixX.mk (x.v l (8 * r + i)) (i : Int) (4 + (i : Int)) (8 + (i : Int)) (12 + (i : Int))
      ((wordsB x.b).getD ((turn r).getD (2 * (i : Int)).toNat 0).toNat 0) ((wordsB x.b).getD ((turn r).getD (2 * (i : Int) + 1).toNat 0).toNat 0)).out = x.v l (8 * r + (i + 1)) := by
  have e : x.v l (8 * r + (i + 1)) = gstep orderL (wordsB x.b) (x.v l (8 * r + i)) (8 * r + i) := rfl
  have e0 : (2 * (i : Int)).toNat = 2 * i := by omega
  have e1 : (2 * (i : Int) + 1).toNat = 2 * i + 1 := by omega
  have hp : (i : Int) = pl i 0 ∧ 4 + (i : Int) = pl i 1 ∧ 8 + (i : Int) = pl i 2 ∧ 12 + (i : Int) = pl i 3 := by
    have : i = 0 ∨ i = 1 ∨ i = 2 ∨ i = 3 := by omega
    rcases this with rfl | rfl | rfl | rfl <;> decide
  rw [e, gstep_at (by omega) _ _ _ _ hp.1 hp.2.1 hp.2.2.1 hp.2.2.2, e0, e1]
  rfl
theorem dia_out (x : TakeX) (l : Bool) {r i : Nat} (hi : i < 4) :
    (MixX.mk (x.v l (8 * r + 4 + i)) (i : Int) (4 + ((i : Int) + 1).tmod 4) (8 + ((i : Int) + 2).tmod 4) (12 + ((i : Int) + 3).tmod 4)
      ((wordsB x.b).getD ((turn r).getD (8 + 2 * (i : Int)).toNat 0).toNat 0) ((wordsB x.b).getD ((turn r).getD (9 + 2 * (i : Int)).toNat 0).toNat 0)).out = x.v l (8 * r + 4 + (i + 1)) := by
  have e : x.v l (8 * r + 4 + (i + 1)) = gstep orderL (wordsB x.b) (x.v l (8 * r + 4 + i)) (8 * r + (4 + i)) := by
    rw [← Nat.add_assoc (8 * r) 4 i]; rfl
  have e0 : (8 + 2 * (i : Int)).toNat = 2 * (4 + i) := by omega
  have e1 : (9 + 2 * (i : Int)).toNat = 2 * (4 + i) + 1 := by omega
  have hp : (i : Int) = pl (4 + i) 0 ∧ 4 + ((i : Int) + 1).tmod 4 = pl (4 + i) 1 ∧ 8 + ((i : Int) + 2).tmod 4 = pl (4 + i) 2 ∧ 12 + ((i : Int) + 3).tmod 4 = pl (4 + i) 3 := by
    have : i = 0 ∨ i = 1 ∨ i = 2 ∨ i = 3 := by omega
    rcases this with rfl | rfl | rfl | rfl <;> decide
  rw [e, gstep_at (by omega) _ _ _ _ hp.1 hp.2.1 hp.2.2.1 hp.2.2.2, e0, e1]
  rfl
theorem tmod_ok {i : Nat} (k : Nat) : 0 ≤ ((i : Int) + (k : Int)).tmod 4 ∧ ((i : Int) + (k : Int)).tmod 4 < 4 := by
  rw [Int.tmod_eq_emod_of_nonneg (by omega)]
  omega
theorem lo_word {t : Int} (h : 0 ≤ t) : wr .u32 t = ((t.toNat % 4294967296 : Nat) : Int) := by
  rw [wr32]; omega
theorem hi_word {t : Int} (h : 0 ≤ t) (h2 : t < 18446744073709551616) : wr .u32 (shr .u64 t 32) = ((t.toNat / 4294967296 : Nat) : Int) := by
  rw [wr32]
  show Int.fdiv t 4294967296 % 4294967296 = _
  rw [Int.fdiv_eq_ediv_of_nonneg _ (by omega)]
  omega
theorem v0A {x : TakeX} (hx : x.Ok) : (((x.h ++ ivB).set 12 (bitop .xor .u32 ((x.h ++ ivB).getD 12 0) (wr .u32 x.t))).set 13 (bitop .xor .u32 (((x.h ++ ivB).set 12 (bitop .xor .u32 ((x.h ++ ivB).getD 12 0) (wr .u32 x.t))).getD 13 0) (wr .u32 (shr .u64 x.t 32)))) = x.v false 0 := by
  rw [lo_word hx.t0, hi_word hx.t0 hx.t1]
  rfl
theorem out_at (x : TakeX) (l : Bool) {i : Nat} (hi : i < 8) : x32 (x.h.getD i 0) (x32 ((x.v l 80).getD i 0) ((x.v l 80).getD (8 + (i : Int)).toNat 0)) = (x.out l).getD i 0 := by
  have e : (8 + (i : Int)).toNat = i + 8 := by omega
  rw [e]
  unfold TakeX.out
  rw [takeB_get hi]
  show _ = x32 (x32 (x.h.getD i 0) ((x.v l 80).getD i 0)) ((x.v l 80).getD (i + 8) 0)
  rw [x32_assoc]
def takeAVC : Prop := ∀ (x : TakeX), x.Ok → (∃ x_1, Nat.le x_1 (16 : Nat) ∧ (↑x_1 : Int) = (0 : Int) ∧ ((x.h = x.h ∧ True ∧ x.t0 = x.t0 ∧ x.n0 = x.n0 ∧ True) ∧ x.wait =
  x.wait ∧ (x.b = x.b ∧ True) ∧ (upto x_1 (wordsB x.b) (List.replicate (16 : Nat) (0 : Int)) = List.replicate (16 : Nat) (0 : Int) ∧ True) ∧
  (List.replicate (16 : Nat) (0 : Int) = List.replicate (16 : Nat) (0 : Int) ∧ True) ∧ True) ∧ True) ∧ ∀ (x_1 : Nat), x_1.le (16 : Nat) → (decide ((↑x_1
  : Int) < (16 : Int)) = true → inI64 ((4 : Int) * (↑x_1 : Int)) ∧ (0 : Int) ≤ (4 : Int) * (↑x_1 : Int) ∧ (4 : Int) * (↑x_1 : Int) < (↑(64 : Nat) : Int)
  ∧ inI64 ((4 : Int) * (↑x_1 : Int)) ∧ inI64 ((4 : Int) * (↑x_1 : Int) + (1 : Int)) ∧ (0 : Int) ≤ (4 : Int) * (↑x_1 : Int) + (1 : Int) ∧ (4 : Int) *
  (↑x_1 : Int) + (1 : Int) < (↑(64 : Nat) : Int) ∧ (0 : Int) ≤ (8 : Int) ∧ inI64 ((4 : Int) * (↑x_1 : Int)) ∧ inI64 ((4 : Int) * (↑x_1 : Int) + (2 :
  Int)) ∧ (0 : Int) ≤ (4 : Int) * (↑x_1 : Int) + (2 : Int) ∧ (4 : Int) * (↑x_1 : Int) + (2 : Int) < (↑(64 : Nat) : Int) ∧ (0 : Int) ≤ (16 : Int) ∧ inI64
  ((4 : Int) * (↑x_1 : Int)) ∧ inI64 ((4 : Int) * (↑x_1 : Int) + (3 : Int)) ∧ (0 : Int) ≤ (4 : Int) * (↑x_1 : Int) + (3 : Int) ∧ (4 : Int) * (↑x_1 : Int)
  + (3 : Int) < (↑(64 : Nat) : Int) ∧ (0 : Int) ≤ (24 : Int) ∧ (0 : Int) ≤ (↑x_1 : Int) ∧ (↑x_1 : Int) < (↑(16 : Nat) : Int) ∧ ∀ (ys : List Int), ys =
  (upto x_1 (wordsB x.b) (List.replicate (16 : Nat) (0 : Int))).set (↑x_1 : Int).toNat (bitop BinOp.or IntKind.u32 (bitop BinOp.or IntKind.u32 (bitop
  BinOp.or IntKind.u32 (wr IntKind.u32 (x.b.getD ((4 : Int) * (↑x_1 : Int)).toNat (0 : Int))) (shl IntKind.u32 (wr IntKind.u32 (x.b.getD ((4 : Int) *
  (↑x_1 : Int) + (1 : Int)).toNat (0 : Int))) (8 : Int))) (shl IntKind.u32 (wr IntKind.u32 (x.b.getD ((4 : Int) * (↑x_1 : Int) + (2 : Int)).toNat (0 :
  Int))) (16 : Int))) (shl IntKind.u32 (wr IntKind.u32 (x.b.getD ((4 : Int) * (↑x_1 : Int) + (3 : Int)).toNat (0 : Int))) (24 : Int))) → inI64 ((↑x_1 :
  Int) + (1 : Int)) ∧ ∃ y, Nat.le y (16 : Nat) ∧ (16 : Nat) - y < (16 : Nat) - x_1 ∧ (↑y : Int) = (↑x_1 : Int) + (1 : Int) ∧ ((x.h = x.h ∧ True ∧ x.t0 =
  x.t0 ∧ x.n0 = x.n0 ∧ True) ∧ x.wait = x.wait ∧ (x.b = x.b ∧ True) ∧ (upto y (wordsB x.b) (List.replicate (16 : Nat) (0 : Int)) = ys ∧ True) ∧
  (List.replicate (16 : Nat) (0 : Int) = List.replicate (16 : Nat) (0 : Int) ∧ True) ∧ True) ∧ True) ∧ (decide ((↑x_1 : Int) < (16 : Int)) = false → True
  ∧ True ∧ True ∧ (0 : Int) ≤ (12 : Int) ∧ (12 : Int) < (↑(16 : Nat) : Int) ∧ (0 : Int) ≤ (12 : Int) ∧ (12 : Int) < (↑(16 : Nat) : Int) ∧ ∀ (ys : List
  Int), ys = (List.take (nat_lit 7 + (1 : Nat)) (copyInts (List.replicate (16 : Nat) (0 : Int)) x.h) ++ (copyInts (List.take (nat_lit 7 + (1 : Nat))
  (List.drop (nat_lit 7 + (1 : Nat)) (copyInts (List.replicate (16 : Nat) (0 : Int)) x.h))) ivB ++ List.drop (nat_lit 7 + (1 : Nat) + (nat_lit 7 + (1 :
  Nat))) (copyInts (List.replicate (16 : Nat) (0 : Int)) x.h))).set (Int.toNat (12 : Int)) (bitop BinOp.xor IntKind.u32 ((List.take (nat_lit 7 + (1 :
  Nat)) (copyInts (List.replicate (16 : Nat) (0 : Int)) x.h) ++ (copyInts (List.take (nat_lit 7 + (1 : Nat)) (List.drop (nat_lit 7 + (1 : Nat)) (copyInts
  (List.replicate (16 : Nat) (0 : Int)) x.h))) ivB ++ List.drop (nat_lit 7 + (1 : Nat) + (nat_lit 7 + (1 : Nat))) (copyInts (List.replicate (16 : Nat) (0
  : Int)) x.h))).getD (Int.toNat (12 : Int)) (0 : Int)) (wr IntKind.u32 x.t)) → (0 : Int) ≤ (13 : Int) ∧ (13 : Int) < (↑(16 : Nat) : Int) ∧ (0 : Int) ≤
  (32 : Int) ∧ (0 : Int) ≤ (13 : Int) ∧ (13 : Int) < (↑(16 : Nat) : Int) ∧ ∀ (ys_1 : List Int), ys_1 = ys.set (Int.toNat (13 : Int)) (bitop BinOp.xor
  IntKind.u32 (ys.getD (Int.toNat (13 : Int)) (0 : Int)) (wr IntKind.u32 (shr IntKind.u64 x.t (32 : Int)))) → (∃ x_2, Nat.le x_2 (10 : Nat) ∧ (↑x_2 :
  Int) = (0 : Int) ∧ ((x.h = x.h ∧ True ∧ x.t0 = x.t0 ∧ x.n0 = x.n0 ∧ True) ∧ x.wait = x.wait ∧ (x.b = x.b ∧ True) ∧ (upto x_1 (wordsB x.b)
  (List.replicate (16 : Nat) (0 : Int)) = upto x_1 (wordsB x.b) (List.replicate (16 : Nat) (0 : Int)) ∧ True) ∧ (x.v false ((8 : Nat) * x_2) = ys_1 ∧
  True) ∧ (ivB = ivB ∧ True) ∧ True) ∧ True) ∧ ∀ (x_2 : Nat), x_2.le (10 : Nat) → (decide ((↑x_2 : Int) < (10 : Int)) = true → (0 : Int) ≤ (↑x_2 : Int) ∧
  (↑x_2 : Int) < (↑(10 : Nat) : Int) ∧ (0 : Nat) + (↑x_2 : Int).toNat * (16 : Nat) + (16 : Nat) ≤ orderL.length ∧ (∃ x_3, Nat.le x_3 (4 : Nat) ∧ (↑x_3 :
  Int) = (0 : Int) ∧ ((x.h = x.h ∧ True ∧ x.t0 = x.t0 ∧ x.n0 = x.n0 ∧ True) ∧ x.wait = x.wait ∧ (x.b = x.b ∧ True) ∧ (upto x_1 (wordsB x.b)
  (List.replicate (16 : Nat) (0 : Int)) = upto x_1 (wordsB x.b) (List.replicate (16 : Nat) (0 : Int)) ∧ True) ∧ (x.v false ((8 : Nat) * (↑x_2 :
  Int).toNat + x_3) = x.v false ((8 : Nat) * x_2) ∧ True) ∧ (ivB = ivB ∧ True) ∧ (List.take (16 : Nat) (List.drop ((0 : Nat) + (↑x_2 : Int).toNat * (16 :
  Nat)) orderL) = List.take (16 : Nat) (List.drop ((0 : Nat) + (↑x_2 : Int).toNat * (16 : Nat)) orderL) ∧ True) ∧ True) ∧ True) ∧ ∀ (x_3 : Nat), x_3.le
  (4 : Nat) → (decide ((↑x_3 : Int) < (4 : Int)) = true → inI64 ((4 : Int) + (↑x_3 : Int)) ∧ inI64 ((8 : Int) + (↑x_3 : Int)) ∧ inI64 ((12 : Int) + (↑x_3
  : Int)) ∧ inI64 ((2 : Int) * (↑x_3 : Int)) ∧ (0 : Int) ≤ (2 : Int) * (↑x_3 : Int) ∧ (2 : Int) * (↑x_3 : Int) < (↑(16 : Nat) : Int) ∧ (0 : Int) ≤
  (List.take (16 : Nat) (List.drop ((0 : Nat) + (↑x_2 : Int).toNat * (16 : Nat)) orderL)).getD ((2 : Int) * (↑x_3 : Int)).toNat (0 : Int) ∧ (List.take
  (16 : Nat) (List.drop ((0 : Nat) + (↑x_2 : Int).toNat * (16 : Nat)) orderL)).getD ((2 : Int) * (↑x_3 : Int)).toNat (0 : Int) < (↑(16 : Nat) : Int) ∧
  inI64 ((2 : Int) * (↑x_3 : Int)) ∧ inI64 ((2 : Int) * (↑x_3 : Int) + (1 : Int)) ∧ (0 : Int) ≤ (2 : Int) * (↑x_3 : Int) + (1 : Int) ∧ (2 : Int) * (↑x_3
  : Int) + (1 : Int) < (↑(16 : Nat) : Int) ∧ (0 : Int) ≤ (List.take (16 : Nat) (List.drop ((0 : Nat) + (↑x_2 : Int).toNat * (16 : Nat)) orderL)).getD ((2
  : Int) * (↑x_3 : Int) + (1 : Int)).toNat (0 : Int) ∧ (List.take (16 : Nat) (List.drop ((0 : Nat) + (↑x_2 : Int).toNat * (16 : Nat)) orderL)).getD ((2 :
  Int) * (↑x_3 : Int) + (1 : Int)).toNat (0 : Int) < (↑(16 : Nat) : Int) ∧ (True ∧ (↑x_3 : Int) = (↑x_3 : Int) ∧ (4 : Int) + (↑x_3 : Int) = (4 : Int) +
  (↑x_3 : Int) ∧ (8 : Int) + (↑x_3 : Int) = (8 : Int) + (↑x_3 : Int) ∧ (12 : Int) + (↑x_3 : Int) = (12 : Int) + (↑x_3 : Int) ∧ (upto x_1 (wordsB x.b)
  (List.replicate (16 : Nat) (0 : Int))).getD ((List.take (16 : Nat) (List.drop ((0 : Nat) + (↑x_2 : Int).toNat * (16 : Nat)) orderL)).getD ((2 : Int) *
  (↑x_3 : Int)).toNat (0 : Int)).toNat (0 : Int) = (upto x_1 (wordsB x.b) (List.replicate (16 : Nat) (0 : Int))).getD ((List.take (16 : Nat) (List.drop
  ((0 : Nat) + (↑x_2 : Int).toNat * (16 : Nat)) orderL)).getD ((2 : Int) * (↑x_3 : Int)).toNat (0 : Int)).toNat (0 : Int) ∧ (upto x_1 (wordsB x.b)
  (List.replicate (16 : Nat) (0 : Int))).getD ((List.take (16 : Nat) (List.drop ((0 : Nat) + (↑x_2 : Int).toNat * (16 : Nat)) orderL)).getD ((2 : Int) *
  (↑x_3 : Int) + (1 : Int)).toNat (0 : Int)).toNat (0 : Int) = (upto x_1 (wordsB x.b) (List.replicate (16 : Nat) (0 : Int))).getD ((List.take (16 : Nat)
  (List.drop ((0 : Nat) + (↑x_2 : Int).toNat * (16 : Nat)) orderL)).getD ((2 : Int) * (↑x_3 : Int) + (1 : Int)).toNat (0 : Int)).toNat (0 : Int)) ∧ ((x.v
  false ((8 : Nat) * (↑x_2 : Int).toNat + x_3) = x.v false ((8 : Nat) * (↑x_2 : Int).toNat + x_3) ∧ True) ∧ True) ∧ (MixX.mk (x.v false ((8 : Nat) *
  (↑x_2 : Int).toNat + x_3)) (↑x_3 : Int) ((4 : Int) + (↑x_3 : Int)) ((8 : Int) + (↑x_3 : Int)) ((12 : Int) + (↑x_3 : Int)) ((upto x_1 (wordsB x.b)
  (List.replicate (16 : Nat) (0 : Int))).getD ((List.take (16 : Nat) (List.drop ((0 : Nat) + (↑x_2 : Int).toNat * (16 : Nat)) orderL)).getD ((2 : Int) *
  (↑x_3 : Int)).toNat (0 : Int)).toNat (0 : Int)) ((upto x_1 (wordsB x.b) (List.replicate (16 : Nat) (0 : Int))).getD ((List.take (16 : Nat) (List.drop
  ((0 : Nat) + (↑x_2 : Int).toNat * (16 : Nat)) orderL)).getD ((2 : Int) * (↑x_3 : Int) + (1 : Int)).toNat (0 : Int)).toNat (0 : Int))).Ok ∧ inI64 ((↑x_3
  : Int) + (1 : Int)) ∧ ∃ y, Nat.le y (4 : Nat) ∧ (4 : Nat) - y < (4 : Nat) - x_3 ∧ (↑y : Int) = (↑x_3 : Int) + (1 : Int) ∧ ((x.h = x.h ∧ True ∧ x.t0 =
  x.t0 ∧ x.n0 = x.n0 ∧ True) ∧ x.wait = x.wait ∧ (x.b = x.b ∧ True) ∧ (upto x_1 (wordsB x.b) (List.replicate (16 : Nat) (0 : Int)) = upto x_1 (wordsB
  x.b) (List.replicate (16 : Nat) (0 : Int)) ∧ True) ∧ (x.v false ((8 : Nat) * (↑x_2 : Int).toNat + y) = (MixX.mk (x.v false ((8 : Nat) * (↑x_2 :
  Int).toNat + x_3)) (↑x_3 : Int) ((4 : Int) + (↑x_3 : Int)) ((8 : Int) + (↑x_3 : Int)) ((12 : Int) + (↑x_3 : Int)) ((upto x_1 (wordsB x.b)
  (List.replicate (16 : Nat) (0 : Int))).getD ((List.take (16 : Nat) (List.drop ((0 : Nat) + (↑x_2 : Int).toNat * (16 : Nat)) orderL)).getD ((2 : Int) *
  (↑x_3 : Int)).toNat (0 : Int)).toNat (0 : Int)) ((upto x_1 (wordsB x.b) (List.replicate (16 : Nat) (0 : Int))).getD ((List.take (16 : Nat) (List.drop
  ((0 : Nat) + (↑x_2 : Int).toNat * (16 : Nat)) orderL)).getD ((2 : Int) * (↑x_3 : Int) + (1 : Int)).toNat (0 : Int)).toNat (0 : Int))).out ∧ True) ∧
  (ivB = ivB ∧ True) ∧ (List.take (16 : Nat) (List.drop ((0 : Nat) + (↑x_2 : Int).toNat * (16 : Nat)) orderL) = List.take (16 : Nat) (List.drop ((0 :
  Nat) + (↑x_2 : Int).toNat * (16 : Nat)) orderL) ∧ True) ∧ True) ∧ True) ∧ (decide ((↑x_3 : Int) < (4 : Int)) = false → (∃ x_4, Nat.le x_4 (4 : Nat) ∧
  (↑x_4 : Int) = (0 : Int) ∧ ((x.h = x.h ∧ True ∧ x.t0 = x.t0 ∧ x.n0 = x.n0 ∧ True) ∧ x.wait = x.wait ∧ (x.b = x.b ∧ True) ∧ (upto x_1 (wordsB x.b)
  (List.replicate (16 : Nat) (0 : Int)) = upto x_1 (wordsB x.b) (List.replicate (16 : Nat) (0 : Int)) ∧ True) ∧ (x.v false ((8 : Nat) * (↑x_2 :
  Int).toNat + (4 : Nat) + x_4) = x.v false ((8 : Nat) * (↑x_2 : Int).toNat + x_3) ∧ True) ∧ (ivB = ivB ∧ True) ∧ (List.take (16 : Nat) (List.drop ((0 :
  Nat) + (↑x_2 : Int).toNat * (16 : Nat)) orderL) = List.take (16 : Nat) (List.drop ((0 : Nat) + (↑x_2 : Int).toNat * (16 : Nat)) orderL) ∧ True) ∧ True)
  ∧ True) ∧ ∀ (x_4 : Nat), x_4.le (4 : Nat) → (decide ((↑x_4 : Int) < (4 : Int)) = true → inI64 ((↑x_4 : Int) + (1 : Int)) ∧ (4 : Int) ≠ (0 : Int) ∧
  inI64 ((4 : Int) + ((↑x_4 : Int) + (1 : Int)).tmod (4 : Int)) ∧ inI64 ((↑x_4 : Int) + (2 : Int)) ∧ (4 : Int) ≠ (0 : Int) ∧ inI64 ((8 : Int) + ((↑x_4 :
  Int) + (2 : Int)).tmod (4 : Int)) ∧ inI64 ((↑x_4 : Int) + (3 : Int)) ∧ (4 : Int) ≠ (0 : Int) ∧ inI64 ((12 : Int) + ((↑x_4 : Int) + (3 : Int)).tmod (4 :
  Int)) ∧ inI64 ((2 : Int) * (↑x_4 : Int)) ∧ inI64 ((8 : Int) + (2 : Int) * (↑x_4 : Int)) ∧ (0 : Int) ≤ (8 : Int) + (2 : Int) * (↑x_4 : Int) ∧ (8 : Int)
  + (2 : Int) * (↑x_4 : Int) < (↑(16 : Nat) : Int) ∧ (0 : Int) ≤ (List.take (16 : Nat) (List.drop ((0 : Nat) + (↑x_2 : Int).toNat * (16 : Nat))
  orderL)).getD ((8 : Int) + (2 : Int) * (↑x_4 : Int)).toNat (0 : Int) ∧ (List.take (16 : Nat) (List.drop ((0 : Nat) + (↑x_2 : Int).toNat * (16 : Nat))
  orderL)).getD ((8 : Int) + (2 : Int) * (↑x_4 : Int)).toNat (0 : Int) < (↑(16 : Nat) : Int) ∧ inI64 ((2 : Int) * (↑x_4 : Int)) ∧ inI64 ((9 : Int) + (2 :
  Int) * (↑x_4 : Int)) ∧ (0 : Int) ≤ (9 : Int) + (2 : Int) * (↑x_4 : Int) ∧ (9 : Int) + (2 : Int) * (↑x_4 : Int) < (↑(16 : Nat) : Int) ∧ (0 : Int) ≤
  (List.take (16 : Nat) (List.drop ((0 : Nat) + (↑x_2 : Int).toNat * (16 : Nat)) orderL)).getD ((9 : Int) + (2 : Int) * (↑x_4 : Int)).toNat (0 : Int) ∧
  (List.take (16 : Nat) (List.drop ((0 : Nat) + (↑x_2 : Int).toNat * (16 : Nat)) orderL)).getD ((9 : Int) + (2 : Int) * (↑x_4 : Int)).toNat (0 : Int) <
  (↑(16 : Nat) : Int) ∧ (True ∧ (↑x_4 : Int) = (↑x_4 : Int) ∧ (4 : Int) + ((↑x_4 : Int) + (1 : Int)).tmod (4 : Int) = (4 : Int) + ((↑x_4 : Int) + (1 :
  Int)).tmod (4 : Int) ∧ (8 : Int) + ((↑x_4 : Int) + (2 : Int)).tmod (4 : Int) = (8 : Int) + ((↑x_4 : Int) + (2 : Int)).tmod (4 : Int) ∧ (12 : Int) +
  ((↑x_4 : Int) + (3 : Int)).tmod (4 : Int) = (12 : Int) + ((↑x_4 : Int) + (3 : Int)).tmod (4 : Int) ∧ (upto x_1 (wordsB x.b) (List.replicate (16 : Nat)
  (0 : Int))).getD ((List.take (16 : Nat) (List.drop ((0 : Nat) + (↑x_2 : Int).toNat * (16 : Nat)) orderL)).getD ((8 : Int) + (2 : Int) * (↑x_4 :
  Int)).toNat (0 : Int)).toNat (0 : Int) = (upto x_1 (wordsB x.b) (List.replicate (16 : Nat) (0 : Int))).getD ((List.take (16 : Nat) (List.drop ((0 :
  Nat) + (↑x_2 : Int).toNat * (16 : Nat)) orderL)).getD ((8 : Int) + (2 : Int) * (↑x_4 : Int)).toNat (0 : Int)).toNat (0 : Int) ∧ (upto x_1 (wordsB x.b)
  (List.replicate (16 : Nat) (0 : Int))).getD ((List.take (16 : Nat) (List.drop ((0 : Nat) + (↑x_2 : Int).toNat * (16 : Nat)) orderL)).getD ((9 : Int) +
  (2 : Int) * (↑x_4 : Int)).toNat (0 : Int)).toNat (0 : Int) = (upto x_1 (wordsB x.b) (List.replicate (16 : Nat) (0 : Int))).getD ((List.take (16 : Nat)
  (List.drop ((0 : Nat) + (↑x_2 : Int).toNat * (16 : Nat)) orderL)).getD ((9 : Int) + (2 : Int) * (↑x_4 : Int)).toNat (0 : Int)).toNat (0 : Int)) ∧ ((x.v
  false ((8 : Nat) * (↑x_2 : Int).toNat + (4 : Nat) + x_4) = x.v false ((8 : Nat) * (↑x_2 : Int).toNat + (4 : Nat) + x_4) ∧ True) ∧ True) ∧ (MixX.mk (x.v
  false ((8 : Nat) * (↑x_2 : Int).toNat + (4 : Nat) + x_4)) (↑x_4 : Int) ((4 : Int) + ((↑x_4 : Int) + (1 : Int)).tmod (4 : Int)) ((8 : Int) + ((↑x_4 :
  Int) + (2 : Int)).tmod (4 : Int)) ((12 : Int) + ((↑x_4 : Int) + (3 : Int)).tmod (4 : Int)) ((upto x_1 (wordsB x.b) (List.replicate (16 : Nat) (0 :
  Int))).getD ((List.take (16 : Nat) (List.drop ((0 : Nat) + (↑x_2 : Int).toNat * (16 : Nat)) orderL)).getD ((8 : Int) + (2 : Int) * (↑x_4 : Int)).toNat
  (0 : Int)).toNat (0 : Int)) ((upto x_1 (wordsB x.b) (List.replicate (16 : Nat) (0 : Int))).getD ((List.take (16 : Nat) (List.drop ((0 : Nat) + (↑x_2 :
  Int).toNat * (16 : Nat)) orderL)).getD ((9 : Int) + (2 : Int) * (↑x_4 : Int)).toNat (0 : Int)).toNat (0 : Int))).Ok ∧ inI64 ((↑x_4 : Int) + (1 : Int))
  ∧ ∃ y, Nat.le y (4 : Nat) ∧ (4 : Nat) - y < (4 : Nat) - x_4 ∧ (↑y : Int) = (↑x_4 : Int) + (1 : Int) ∧ ((x.h = x.h ∧ True ∧ x.t0 = x.t0 ∧ x.n0 = x.n0 ∧
  True) ∧ x.wait = x.wait ∧ (x.b = x.b ∧ True) ∧ (upto x_1 (wordsB x.b) (List.replicate (16 : Nat) (0 : Int)) = upto x_1 (wordsB x.b) (List.replicate (16
  : Nat) (0 : Int)) ∧ True) ∧ (x.v false ((8 : Nat) * (↑x_2 : Int).toNat + (4 : Nat) + y) = (MixX.mk (x.v false ((8 : Nat) * (↑x_2 : Int).toNat + (4 :
  Nat) + x_4)) (↑x_4 : Int) ((4 : Int) + ((↑x_4 : Int) + (1 : Int)).tmod (4 : Int)) ((8 : Int) + ((↑x_4 : Int) + (2 : Int)).tmod (4 : Int)) ((12 : Int) +
  ((↑x_4 : Int) + (3 : Int)).tmod (4 : Int)) ((upto x_1 (wordsB x.b) (List.replicate (16 : Nat) (0 : Int))).getD ((List.take (16 : Nat) (List.drop ((0 :
  Nat) + (↑x_2 : Int).toNat * (16 : Nat)) orderL)).getD ((8 : Int) + (2 : Int) * (↑x_4 : Int)).toNat (0 : Int)).toNat (0 : Int)) ((upto x_1 (wordsB x.b)
  (List.replicate (16 : Nat) (0 : Int))).getD ((List.take (16 : Nat) (List.drop ((0 : Nat) + (↑x_2 : Int).toNat * (16 : Nat)) orderL)).getD ((9 : Int) +
  (2 : Int) * (↑x_4 : Int)).toNat (0 : Int)).toNat (0 : Int))).out ∧ True) ∧ (ivB = ivB ∧ True) ∧ (List.take (16 : Nat) (List.drop ((0 : Nat) + (↑x_2 :
  Int).toNat * (16 : Nat)) orderL) = List.take (16 : Nat) (List.drop ((0 : Nat) + (↑x_2 : Int).toNat * (16 : Nat)) orderL) ∧ True) ∧ True) ∧ True) ∧
  (decide ((↑x_4 : Int) < (4 : Int)) = false → inI64 ((↑x_2 : Int) + (1 : Int)) ∧ ∃ y, Nat.le y (10 : Nat) ∧ (10 : Nat) - y < (10 : Nat) - x_2 ∧ (↑y :
  Int) = (↑x_2 : Int) + (1 : Int) ∧ ((x.h = x.h ∧ True ∧ x.t0 = x.t0 ∧ x.n0 = x.n0 ∧ True) ∧ x.wait = x.wait ∧ (x.b = x.b ∧ True) ∧ (upto x_1 (wordsB
  x.b) (List.replicate (16 : Nat) (0 : Int)) = upto x_1 (wordsB x.b) (List.replicate (16 : Nat) (0 : Int)) ∧ True) ∧ (x.v false ((8 : Nat) * y) = x.v
  false ((8 : Nat) * (↑x_2 : Int).toNat + (4 : Nat) + x_4) ∧ True) ∧ (ivB = ivB ∧ True) ∧ True) ∧ True))) ∧ (decide ((↑x_2 : Int) < (10 : Int)) = false →
  (∃ x_3, Nat.le x_3 (8 : Nat) ∧ (↑x_3 : Int) = (0 : Int) ∧ ((upto x_3 (x.out false) x.h = x.h ∧ True ∧ x.t0 = x.t0 ∧ x.n0 = x.n0 ∧ True) ∧ x.wait =
  x.wait ∧ (x.b = x.b ∧ True) ∧ (upto x_1 (wordsB x.b) (List.replicate (16 : Nat) (0 : Int)) = upto x_1 (wordsB x.b) (List.replicate (16 : Nat) (0 :
  Int)) ∧ True) ∧ (x.v false ((8 : Nat) * x_2) = x.v false ((8 : Nat) * x_2) ∧ True) ∧ (ivB = ivB ∧ True) ∧ True) ∧ True) ∧ ∀ (x_3 : Nat), x_3.le (8 :
  Nat) → (decide ((↑x_3 : Int) < (8 : Int)) = true → (0 : Int) ≤ (↑x_3 : Int) ∧ (↑x_3 : Int) < (↑(8 : Nat) : Int) ∧ (0 : Int) ≤ (↑x_3 : Int) ∧ (↑x_3 :
  Int) < (↑(16 : Nat) : Int) ∧ inI64 ((8 : Int) + (↑x_3 : Int)) ∧ (0 : Int) ≤ (8 : Int) + (↑x_3 : Int) ∧ (8 : Int) + (↑x_3 : Int) < (↑(16 : Nat) : Int) ∧
  (0 : Int) ≤ (↑x_3 : Int) ∧ (↑x_3 : Int) < (↑(8 : Nat) : Int) ∧ ∀ (ys : List Int), ys = (upto x_3 (x.out false) x.h).set (↑x_3 : Int).toNat (bitop
  BinOp.xor IntKind.u32 ((upto x_3 (x.out false) x.h).getD (↑x_3 : Int).toNat (0 : Int)) (bitop BinOp.xor IntKind.u32 ((x.v false ((8 : Nat) * x_2)).getD
  (↑x_3 : Int).toNat (0 : Int)) ((x.v false ((8 : Nat) * x_2)).getD ((8 : Int) + (↑x_3 : Int)).toNat (0 : Int)))) → inI64 ((↑x_3 : Int) + (1 : Int)) ∧ ∃
  y, Nat.le y (8 : Nat) ∧ (8 : Nat) - y < (8 : Nat) - x_3 ∧ (↑y : Int) = (↑x_3 : Int) + (1 : Int) ∧ ((upto y (x.out false) x.h = ys ∧ True ∧ x.t0 = x.t0
  ∧ x.n0 = x.n0 ∧ True) ∧ x.wait = x.wait ∧ (x.b = x.b ∧ True) ∧ (upto x_1 (wordsB x.b) (List.replicate (16 : Nat) (0 : Int)) = upto x_1 (wordsB x.b)
  (List.replicate (16 : Nat) (0 : Int)) ∧ True) ∧ (x.v false ((8 : Nat) * x_2) = x.v false ((8 : Nat) * x_2) ∧ True) ∧ (ivB = ivB ∧ True) ∧ True) ∧ True)
  ∧ (decide ((↑x_3 : Int) < (8 : Int)) = false → True ∧ ((x.out false = upto x_3 (x.out false) x.h ∧ True ∧ x.t0 = x.t0 ∧ x.n0 = x.n0 ∧ True) ∧ x.wait =
  x.wait ∧ True) ∧ True)))
theorem takeA_vc : takeAVC := by
  intro x hx
  have hh := hx.h
  simp only [true_and, and_true, Int.toNat_natCast, decide_eq_true_eq, decide_eq_false_iff_not, Nat.zero_add]
  have hwl := wordsB_len x.b
  have hvl := x.v_len hh false
  have hol : orderL.length = 160 := rfl
  have hup : upto 16 (wordsB x.b) (List.replicate 16 0) = wordsB x.b := upto_all hwl (List.length_replicate ..)
  refine ⟨⟨0, Nat.zero_le _, rfl, upto_zero _ _⟩, fun i hi => ⟨fun h => ?_, fun h => ?_⟩⟩
  · have hi' : i < 16 := by omega
    and_intros
    all_goals first | omega | (unfold inI64; omega) | skip
    rintro ys rfl
    refine ⟨by unfold inI64; omega, i + 1, hi', by omega, by omega, ?_⟩
    exact (upto_set hwl (List.length_replicate ..) hi' ((wordsB_get _ hi').trans (word_at hx.bytes i).symm)).symm
  · have hi16 : i = 16 := by
      have : i ≤ 16 := hi
      omega
    subst hi16
    refine ⟨by decide, by decide, by decide, by decide, fun y1 e1 => ⟨by decide, by decide, by decide, by decide, by decide, fun y2 e2 => ?_⟩⟩
    have e3 : x.v false 0 = y2 := by
      rw [e2, e1, show List.take (7 + 1) (copyInts (List.replicate 16 0) x.h) ++ (copyInts (List.take (7 + 1) (List.drop (7 + 1) (copyInts (List.replicate 16 0) x.h))) ivB ++ List.drop (7 + 1 + (7 + 1)) (copyInts (List.replicate 16 0) x.h)) = x.h ++ ivB from v0_eq hh]
      exact (v0A hx).symm
    refine ⟨⟨0, Nat.zero_le _, rfl, e3⟩, fun r hr => ⟨fun h => ?_, fun h => ?_⟩⟩
    · have hr' : r < 10 := by omega
      rw [hup]
      refine ⟨by omega, by omega, by omega, ⟨0, Nat.zero_le _, rfl, rfl⟩, fun i hi => ⟨fun h => ?_, fun h => ?_⟩⟩
      · have hi' : i < 4 := by omega
        have hT := fun k => ordT r k
        and_intros
        all_goals first | omega | (unfold inI64; omega) | exact (ordT r _).1 | exact (ordT r _).2 | skip
        · constructor <;> simp only <;> first | exact hvl _ | omega
        · exact ⟨i + 1, hi', by omega, by omega, (col_out x false hi').symm⟩
      · have hi4 : i = 4 := by
          have : i ≤ 4 := hi
          omega
        subst hi4
        refine ⟨⟨0, Nat.zero_le _, rfl, rfl⟩, fun i hi => ⟨fun h => ?_, fun h => ?_⟩⟩
        · have hi' : i < 4 := by omega
          have t1 : 0 ≤ ((i : Int) + 1).tmod 4 ∧ ((i : Int) + 1).tmod 4 < 4 := tmod_ok 1
          have t2 : 0 ≤ ((i : Int) + 2).tmod 4 ∧ ((i : Int) + 2).tmod 4 < 4 := tmod_ok 2
          have t3 : 0 ≤ ((i : Int) + 3).tmod 4 ∧ ((i : Int) + 3).tmod 4 < 4 := tmod_ok 3
          and_intros
          all_goals first | omega | (unfold inI64; omega) | exact (ordT r _).1 | exact (ordT r _).2 | skip
          · constructor <;> simp only <;> first | exact hvl _ | omega
          · exact ⟨i + 1, hi', by omega, by omega, (dia_out x false hi').symm⟩
        · have hi4 : i = 4 := by
            have : i ≤ 4 := hi
            omega
          subst hi4
          exact ⟨by unfold inI64; omega, r + 1, hr', by omega, by omega, rfl⟩
    · have hr10 : r = 10 := by
        have : r ≤ 10 := hr
        omega
      subst hr10
      have hol8 : (x.out false).length = 8 := takeB_len ..
      refine ⟨⟨0, Nat.zero_le _, rfl, upto_zero _ _⟩, fun i hi => ⟨fun h => ?_, fun h => ?_⟩⟩
      · have hi' : i < 8 := by omega
        and_intros
        all_goals first | omega | (unfold inI64; omega) | skip
        rintro ys rfl
        refine ⟨by unfold inI64; omega, i + 1, hi', by omega, by omega, ?_⟩
        rw [upto_getD hol8 (by omega) (Nat.le_refl _)]
        exact (upto_set hol8 hh hi' (out_at x false hi').symm).symm
      · have hi8 : i = 8 := by
          have : i ≤ 8 := hi
          omega
        subst hi8
        exact (upto_all hol8 hh).symm
theorem v0Bt {x : TakeX} (hx : x.Ok) : (((x.h ++ ivB).set 12 (bitop .xor .u32 ((x.h ++ ivB).getD 12 0) (wr .u32 x.t))).set 13 (bitop .xor .u32 (((x.h ++ ivB).set 12 (bitop .xor .u32 ((x.h ++ ivB).getD 12 0) (wr .u32 x.t))).getD 13 0) (wr .u32 (shr .u64 x.t 32)))).set 14 (bitop .xor .u32 4294967295 ((((x.h ++ ivB).set 12 (bitop .xor .u32 ((x.h ++ ivB).getD 12 0) (wr .u32 x.t))).set 13 (bitop .xor .u32 (((x.h ++ ivB).set 12 (bitop .xor .u32 ((x.h ++ ivB).getD 12 0) (wr .u32 x.t))).getD 13 0) (wr .u32 (shr .u64 x.t 32)))).getD 14 0)) = x.v true 0 := by
  rw [lo_word hx.t0, hi_word hx.t0 hx.t1, show ∀ z, bitop .xor .u32 4294967295 z = bitop .xor .u32 z 4294967295 from fun z => x32_comm _ z]
  rfl
def takeBVC : Prop := ∀ (x : TakeX), x.Ok → (∃ x_1, Nat.le x_1 (16 : Nat) ∧ (↑x_1 : Int) = (0 : Int) ∧ ((x.h = x.h ∧ True) ∧ (x.b = x.b ∧ True) ∧ (upto x_1 (wordsB x.b)
  (List.replicate (16 : Nat) (0 : Int)) = List.replicate (16 : Nat) (0 : Int) ∧ True) ∧ (List.replicate (16 : Nat) (0 : Int) = List.replicate (16 : Nat)
  (0 : Int) ∧ True) ∧ True) ∧ True) ∧ ∀ (x_1 : Nat), x_1.le (16 : Nat) → (decide ((↑x_1 : Int) < (16 : Int)) = true → inI64 ((4 : Int) * (↑x_1 : Int)) ∧
  (0 : Int) ≤ (4 : Int) * (↑x_1 : Int) ∧ (4 : Int) * (↑x_1 : Int) < (↑(64 : Nat) : Int) ∧ inI64 ((4 : Int) * (↑x_1 : Int)) ∧ inI64 ((4 : Int) * (↑x_1 :
  Int) + (1 : Int)) ∧ (0 : Int) ≤ (4 : Int) * (↑x_1 : Int) + (1 : Int) ∧ (4 : Int) * (↑x_1 : Int) + (1 : Int) < (↑(64 : Nat) : Int) ∧ (0 : Int) ≤ (8 :
  Int) ∧ inI64 ((4 : Int) * (↑x_1 : Int)) ∧ inI64 ((4 : Int) * (↑x_1 : Int) + (2 : Int)) ∧ (0 : Int) ≤ (4 : Int) * (↑x_1 : Int) + (2 : Int) ∧ (4 : Int) *
  (↑x_1 : Int) + (2 : Int) < (↑(64 : Nat) : Int) ∧ (0 : Int) ≤ (16 : Int) ∧ inI64 ((4 : Int) * (↑x_1 : Int)) ∧ inI64 ((4 : Int) * (↑x_1 : Int) + (3 :
  Int)) ∧ (0 : Int) ≤ (4 : Int) * (↑x_1 : Int) + (3 : Int) ∧ (4 : Int) * (↑x_1 : Int) + (3 : Int) < (↑(64 : Nat) : Int) ∧ (0 : Int) ≤ (24 : Int) ∧ (0 :
  Int) ≤ (↑x_1 : Int) ∧ (↑x_1 : Int) < (↑(16 : Nat) : Int) ∧ ∀ (ys : List Int), ys = (upto x_1 (wordsB x.b) (List.replicate (16 : Nat) (0 : Int))).set
  (↑x_1 : Int).toNat (bitop BinOp.or IntKind.u32 (bitop BinOp.or IntKind.u32 (bitop BinOp.or IntKind.u32 (wr IntKind.u32 (x.b.getD ((4 : Int) * (↑x_1 :
  Int)).toNat (0 : Int))) (shl IntKind.u32 (wr IntKind.u32 (x.b.getD ((4 : Int) * (↑x_1 : Int) + (1 : Int)).toNat (0 : Int))) (8 : Int))) (shl
  IntKind.u32 (wr IntKind.u32 (x.b.getD ((4 : Int) * (↑x_1 : Int) + (2 : Int)).toNat (0 : Int))) (16 : Int))) (shl IntKind.u32 (wr IntKind.u32 (x.b.getD
  ((4 : Int) * (↑x_1 : Int) + (3 : Int)).toNat (0 : Int))) (24 : Int))) → inI64 ((↑x_1 : Int) + (1 : Int)) ∧ ∃ y, Nat.le y (16 : Nat) ∧ (16 : Nat) - y <
  (16 : Nat) - x_1 ∧ (↑y : Int) = (↑x_1 : Int) + (1 : Int) ∧ ((x.h = x.h ∧ True) ∧ (x.b = x.b ∧ True) ∧ (upto y (wordsB x.b) (List.replicate (16 : Nat)
  (0 : Int)) = ys ∧ True) ∧ (List.replicate (16 : Nat) (0 : Int) = List.replicate (16 : Nat) (0 : Int) ∧ True) ∧ True) ∧ True) ∧ (decide ((↑x_1 : Int) <
  (16 : Int)) = false → True ∧ True ∧ True ∧ (0 : Int) ≤ (12 : Int) ∧ (12 : Int) < (↑(16 : Nat) : Int) ∧ (0 : Int) ≤ (12 : Int) ∧ (12 : Int) < (↑(16 :
  Nat) : Int) ∧ ∀ (ys : List Int), ys = (List.take (nat_lit 7 + (1 : Nat)) (copyInts (List.replicate (16 : Nat) (0 : Int)) x.h) ++ (copyInts (List.take
  (nat_lit 7 + (1 : Nat)) (List.drop (nat_lit 7 + (1 : Nat)) (copyInts (List.replicate (16 : Nat) (0 : Int)) x.h))) ivB ++ List.drop (nat_lit 7 + (1 :
  Nat) + (nat_lit 7 + (1 : Nat))) (copyInts (List.replicate (16 : Nat) (0 : Int)) x.h))).set (Int.toNat (12 : Int)) (bitop BinOp.xor IntKind.u32
  ((List.take (nat_lit 7 + (1 : Nat)) (copyInts (List.replicate (16 : Nat) (0 : Int)) x.h) ++ (copyInts (List.take (nat_lit 7 + (1 : Nat)) (List.drop
  (nat_lit 7 + (1 : Nat)) (copyInts (List.replicate (16 : Nat) (0 : Int)) x.h))) ivB ++ List.drop (nat_lit 7 + (1 : Nat) + (nat_lit 7 + (1 : Nat)))
  (copyInts (List.replicate (16 : Nat) (0 : Int)) x.h))).getD (Int.toNat (12 : Int)) (0 : Int)) (wr IntKind.u32 x.t)) → (0 : Int) ≤ (13 : Int) ∧ (13 :
  Int) < (↑(16 : Nat) : Int) ∧ (0 : Int) ≤ (32 : Int) ∧ (0 : Int) ≤ (13 : Int) ∧ (13 : Int) < (↑(16 : Nat) : Int) ∧ ∀ (ys_1 : List Int), ys_1 = ys.set
  (Int.toNat (13 : Int)) (bitop BinOp.xor IntKind.u32 (ys.getD (Int.toNat (13 : Int)) (0 : Int)) (wr IntKind.u32 (shr IntKind.u64 x.t (32 : Int)))) → (0
  : Int) ≤ (14 : Int) ∧ (14 : Int) < (↑(16 : Nat) : Int) ∧ (0 : Int) ≤ (14 : Int) ∧ (14 : Int) < (↑(16 : Nat) : Int) ∧ ∀ (ys : List Int), ys = ys_1.set
  (Int.toNat (14 : Int)) (bitop BinOp.xor IntKind.u32 (if IntKind.u32.signed = true then (-1 : Int) else IntKind.u32.max) (ys_1.getD (Int.toNat (14 :
  Int)) (0 : Int))) → (∃ x_2, Nat.le x_2 (10 : Nat) ∧ (↑x_2 : Int) = (0 : Int) ∧ ((x.h = x.h ∧ True) ∧ (x.b = x.b ∧ True) ∧ (upto x_1 (wordsB x.b)
  (List.replicate (16 : Nat) (0 : Int)) = upto x_1 (wordsB x.b) (List.replicate (16 : Nat) (0 : Int)) ∧ True) ∧ (x.v true ((8 : Nat) * x_2) = ys ∧ True)
  ∧ (ivB = ivB ∧ True) ∧ True) ∧ True) ∧ ∀ (x_2 : Nat), x_2.le (10 : Nat) → (decide ((↑x_2 : Int) < (10 : Int)) = true → (0 : Int) ≤ (↑x_2 : Int) ∧ (↑x_2
  : Int) < (↑(10 : Nat) : Int) ∧ (0 : Nat) + (↑x_2 : Int).toNat * (16 : Nat) + (16 : Nat) ≤ orderL.length ∧ (∃ x_3, Nat.le x_3 (4 : Nat) ∧ (↑x_3 : Int) =
  (0 : Int) ∧ ((x.h = x.h ∧ True) ∧ (x.b = x.b ∧ True) ∧ (upto x_1 (wordsB x.b) (List.replicate (16 : Nat) (0 : Int)) = upto x_1 (wordsB x.b)
  (List.replicate (16 : Nat) (0 : Int)) ∧ True) ∧ (x.v true ((8 : Nat) * (↑x_2 : Int).toNat + x_3) = x.v true ((8 : Nat) * x_2) ∧ True) ∧ (ivB = ivB ∧
  True) ∧ (List.take (16 : Nat) (List.drop ((0 : Nat) + (↑x_2 : Int).toNat * (16 : Nat)) orderL) = List.take (16 : Nat) (List.drop ((0 : Nat) + (↑x_2 :
  Int).toNat * (16 : Nat)) orderL) ∧ True) ∧ True) ∧ True) ∧ ∀ (x_3 : Nat), x_3.le (4 : Nat) → (decide ((↑x_3 : Int) < (4 : Int)) = true → inI64 ((4 :
  Int) + (↑x_3 : Int)) ∧ inI64 ((8 : Int) + (↑x_3 : Int)) ∧ inI64 ((12 : Int) + (↑x_3 : Int)) ∧ inI64 ((2 : Int) * (↑x_3 : Int)) ∧ (0 : Int) ≤ (2 : Int)
  * (↑x_3 : Int) ∧ (2 : Int) * (↑x_3 : Int) < (↑(16 : Nat) : Int) ∧ (0 : Int) ≤ (List.take (16 : Nat) (List.drop ((0 : Nat) + (↑x_2 : Int).toNat * (16 :
  Nat)) orderL)).getD ((2 : Int) * (↑x_3 : Int)).toNat (0 : Int) ∧ (List.take (16 : Nat) (List.drop ((0 : Nat) + (↑x_2 : Int).toNat * (16 : Nat))
  orderL)).getD ((2 : Int) * (↑x_3 : Int)).toNat (0 : Int) < (↑(16 : Nat) : Int) ∧ inI64 ((2 : Int) * (↑x_3 : Int)) ∧ inI64 ((2 : Int) * (↑x_3 : Int) +
  (1 : Int)) ∧ (0 : Int) ≤ (2 : Int) * (↑x_3 : Int) + (1 : Int) ∧ (2 : Int) * (↑x_3 : Int) + (1 : Int) < (↑(16 : Nat) : Int) ∧ (0 : Int) ≤ (List.take (16
  : Nat) (List.drop ((0 : Nat) + (↑x_2 : Int).toNat * (16 : Nat)) orderL)).getD ((2 : Int) * (↑x_3 : Int) + (1 : Int)).toNat (0 : Int) ∧ (List.take (16 :
  Nat) (List.drop ((0 : Nat) + (↑x_2 : Int).toNat * (16 : Nat)) orderL)).getD ((2 : Int) * (↑x_3 : Int) + (1 : Int)).toNat (0 : Int) < (↑(16 : Nat) :
  Int) ∧ (True ∧ (↑x_3 : Int) = (↑x_3 : Int) ∧ (4 : Int) + (↑x_3 : Int) = (4 : Int) + (↑x_3 : Int) ∧ (8 : Int) + (↑x_3 : Int) = (8 : Int) + (↑x_3 : Int)
  ∧ (12 : Int) + (↑x_3 : Int) = (12 : Int) + (↑x_3 : Int) ∧ (upto x_1 (wordsB x.b) (List.replicate (16 : Nat) (0 : Int))).getD ((List.take (16 : Nat)
  (List.drop ((0 : Nat) + (↑x_2 : Int).toNat * (16 : Nat)) orderL)).getD ((2 : Int) * (↑x_3 : Int)).toNat (0 : Int)).toNat (0 : Int) = (upto x_1 (wordsB
  x.b) (List.replicate (16 : Nat) (0 : Int))).getD ((List.take (16 : Nat) (List.drop ((0 : Nat) + (↑x_2 : Int).toNat * (16 : Nat)) orderL)).getD ((2 :
  Int) * (↑x_3 : Int)).toNat (0 : Int)).toNat (0 : Int) ∧ (upto x_1 (wordsB x.b) (List.replicate (16 : Nat) (0 : Int))).getD ((List.take (16 : Nat)
  (List.drop ((0 : Nat) + (↑x_2 : Int).toNat * (16 : Nat)) orderL)).getD ((2 : Int) * (↑x_3 : Int) + (1 : Int)).toNat (0 : Int)).toNat (0 : Int) = (upto
  x_1 (wordsB x.b) (List.replicate (16 : Nat) (0 : Int))).getD ((List.take (16 : Nat) (List.drop ((0 : Nat) + (↑x_2 : Int).toNat * (16 : Nat))
  orderL)).getD ((2 : Int) * (↑x_3 : Int) + (1 : Int)).toNat (0 : Int)).toNat (0 : Int)) ∧ ((x.v true ((8 : Nat) * (↑x_2 : Int).toNat + x_3) = x.v true
  ((8 : Nat) * (↑x_2 : Int).toNat + x_3) ∧ True) ∧ True) ∧ (MixX.mk (x.v true ((8 : Nat) * (↑x_2 : Int).toNat + x_3)) (↑x_3 : Int) ((4 : Int) + (↑x_3 :
  Int)) ((8 : Int) + (↑x_3 : Int)) ((12 : Int) + (↑x_3 : Int)) ((upto x_1 (wordsB x.b) (List.replicate (16 : Nat) (0 : Int))).getD ((List.take (16 : Nat)
  (List.drop ((0 : Nat) + (↑x_2 : Int).toNat * (16 : Nat)) orderL)).getD ((2 : Int) * (↑x_3 : Int)).toNat (0 : Int)).toNat (0 : Int)) ((upto x_1 (wordsB
  x.b) (List.replicate (16 : Nat) (0 : Int))).getD ((List.take (16 : Nat) (List.drop ((0 : Nat) + (↑x_2 : Int).toNat * (16 : Nat)) orderL)).getD ((2 :
  Int) * (↑x_3 : Int) + (1 : Int)).toNat (0 : Int)).toNat (0 : Int))).Ok ∧ inI64 ((↑x_3 : Int) + (1 : Int)) ∧ ∃ y, Nat.le y (4 : Nat) ∧ (4 : Nat) - y <
  (4 : Nat) - x_3 ∧ (↑y : Int) = (↑x_3 : Int) + (1 : Int) ∧ ((x.h = x.h ∧ True) ∧ (x.b = x.b ∧ True) ∧ (upto x_1 (wordsB x.b) (List.replicate (16 : Nat)
  (0 : Int)) = upto x_1 (wordsB x.b) (List.replicate (16 : Nat) (0 : Int)) ∧ True) ∧ (x.v true ((8 : Nat) * (↑x_2 : Int).toNat + y) = (MixX.mk (x.v true
  ((8 : Nat) * (↑x_2 : Int).toNat + x_3)) (↑x_3 : Int) ((4 : Int) + (↑x_3 : Int)) ((8 : Int) + (↑x_3 : Int)) ((12 : Int) + (↑x_3 : Int)) ((upto x_1
  (wordsB x.b) (List.replicate (16 : Nat) (0 : Int))).getD ((List.take (16 : Nat) (List.drop ((0 : Nat) + (↑x_2 : Int).toNat * (16 : Nat)) orderL)).getD
  ((2 : Int) * (↑x_3 : Int)).toNat (0 : Int)).toNat (0 : Int)) ((upto x_1 (wordsB x.b) (List.replicate (16 : Nat) (0 : Int))).getD ((List.take (16 : Nat)
  (List.drop ((0 : Nat) + (↑x_2 : Int).toNat * (16 : Nat)) orderL)).getD ((2 : Int) * (↑x_3 : Int) + (1 : Int)).toNat (0 : Int)).toNat (0 : Int))).out ∧
  True) ∧ (ivB = ivB ∧ True) ∧ (List.take (16 : Nat) (List.drop ((0 : Nat) + (↑x_2 : Int).toNat * (16 : Nat)) orderL) = List.take (16 : Nat) (List.drop
  ((0 : Nat) + (↑x_2 : Int).toNat * (16 : Nat)) orderL) ∧ True) ∧ True) ∧ True) ∧ (decide ((↑x_3 : Int) < (4 : Int)) = false → (∃ x_4, Nat.le x_4 (4 :
  Nat) ∧ (↑x_4 : Int) = (0 : Int) ∧ ((x.h = x.h ∧ True) ∧ (x.b = x.b ∧ True) ∧ (upto x_1 (wordsB x.b) (List.replicate (16 : Nat) (0 : Int)) = upto x_1
  (wordsB x.b) (List.replicate (16 : Nat) (0 : Int)) ∧ True) ∧ (x.v true ((8 : Nat) * (↑x_2 : Int).toNat + (4 : Nat) + x_4) = x.v true ((8 : Nat) * (↑x_2
  : Int).toNat + x_3) ∧ True) ∧ (ivB = ivB ∧ True) ∧ (List.take (16 : Nat) (List.drop ((0 : Nat) + (↑x_2 : Int).toNat * (16 : Nat)) orderL) = List.take
  (16 : Nat) (List.drop ((0 : Nat) + (↑x_2 : Int).toNat * (16 : Nat)) orderL) ∧ True) ∧ True) ∧ True) ∧ ∀ (x_4 : Nat), x_4.le (4 : Nat) → (decide ((↑x_4
  : Int) < (4 : Int)) = true → inI64 ((↑x_4 : Int) + (1 : Int)) ∧ (4 : Int) ≠ (0 : Int) ∧ inI64 ((4 : Int) + ((↑x_4 : Int) + (1 : Int)).tmod (4 : Int)) ∧
  inI64 ((↑x_4 : Int) + (2 : Int)) ∧ (4 : Int) ≠ (0 : Int) ∧ inI64 ((8 : Int) + ((↑x_4 : Int) + (2 : Int)).tmod (4 : Int)) ∧ inI64 ((↑x_4 : Int) + (3 :
  Int)) ∧ (4 : Int) ≠ (0 : Int) ∧ inI64 ((12 : Int) + ((↑x_4 : Int) + (3 : Int)).tmod (4 : Int)) ∧ inI64 ((2 : Int) * (↑x_4 : Int)) ∧ inI64 ((8 : Int) +
  (2 : Int) * (↑x_4 : Int)) ∧ (0 : Int) ≤ (8 : Int) + (2 : Int) * (↑x_4 : Int) ∧ (8 : Int) + (2 : Int) * (↑x_4 : Int) < (↑(16 : Nat) : Int) ∧ (0 : Int) ≤
  (List.take (16 : Nat) (List.drop ((0 : Nat) + (↑x_2 : Int).toNat * (16 : Nat)) orderL)).getD ((8 : Int) + (2 : Int) * (↑x_4 : Int)).toNat (0 : Int) ∧
  (List.take (16 : Nat) (List.drop ((0 : Nat) + (↑x_2 : Int).toNat * (16 : Nat)) orderL)).getD ((8 : Int) + (2 : Int) * (↑x_4 : Int)).toNat (0 : Int) <
  (↑(16 : Nat) : Int) ∧ inI64 ((2 : Int) * (↑x_4 : Int)) ∧ inI64 ((9 : Int) + (2 : Int) * (↑x_4 : Int)) ∧ (0 : Int) ≤ (9 : Int) + (2 : Int) * (↑x_4 :
  Int) ∧ (9 : Int) + (2 : Int) * (↑x_4 : Int) < (↑(16 : Nat) : Int) ∧ (0 : Int) ≤ (List.take (16 : Nat) (List.drop ((0 : Nat) + (↑x_2 : Int).toNat * (16
  : Nat)) orderL)).getD ((9 : Int) + (2 : Int) * (↑x_4 : Int)).toNat (0 : Int) ∧ (List.take (16 : Nat) (List.drop ((0 : Nat) + (↑x_2 : Int).toNat * (16 :
  Nat)) orderL)).getD ((9 : Int) + (2 : Int) * (↑x_4 : Int)).toNat (0 : Int) < (↑(16 : Nat) : Int) ∧ (True ∧ (↑x_4 : Int) = (↑x_4 : Int) ∧ (4 : Int) +
  ((↑x_4 : Int) + (1 : Int)).tmod (4 : Int) = (4 : Int) + ((↑x_4 : Int) + (1 : Int)).tmod (4 : Int) ∧ (8 : Int) + ((↑x_4 : Int) + (2 : Int)).tmod (4 :
  Int) = (8 : Int) + ((↑x_4 : Int) + (2 : Int)).tmod (4 : Int) ∧ (12 : Int) + ((↑x_4 : Int) + (3 : Int)).tmod (4 : Int) = (12 : Int) + ((↑x_4 : Int) + (3
  : Int)).tmod (4 : Int) ∧ (upto x_1 (wordsB x.b) (List.replicate (16 : Nat) (0 : Int))).getD ((List.take (16 : Nat) (List.drop ((0 : Nat) + (↑x_2 :
  Int).toNat * (16 : Nat)) orderL)).getD ((8 : Int) + (2 : Int) * (↑x_4 : Int)).toNat (0 : Int)).toNat (0 : Int) = (upto x_1 (wordsB x.b) (List.replicate
  (16 : Nat) (0 : Int))).getD ((List.take (16 : Nat) (List.drop ((0 : Nat) + (↑x_2 : Int).toNat * (16 : Nat)) orderL)).getD ((8 : Int) + (2 : Int) *
  (↑x_4 : Int)).toNat (0 : Int)).toNat (0 : Int) ∧ (upto x_1 (wordsB x.b) (List.replicate (16 : Nat) (0 : Int))).getD ((List.take (16 : Nat) (List.drop
  ((0 : Nat) + (↑x_2 : Int).toNat * (16 : Nat)) orderL)).getD ((9 : Int) + (2 : Int) * (↑x_4 : Int)).toNat (0 : Int)).toNat (0 : Int) = (upto x_1 (wordsB
  x.b) (List.replicate (16 : Nat) (0 : Int))).getD ((List.take (16 : Nat) (List.drop ((0 : Nat) + (↑x_2 : Int).toNat * (16 : Nat)) orderL)).getD ((9 :
  Int) + (2 : Int) * (↑x_4 : Int)).toNat (0 : Int)).toNat (0 : Int)) ∧ ((x.v true ((8 : Nat) * (↑x_2 : Int).toNat + (4 : Nat) + x_4) = x.v true ((8 :
  Nat) * (↑x_2 : Int).toNat + (4 : Nat) + x_4) ∧ True) ∧ True) ∧ (MixX.mk (x.v true ((8 : Nat) * (↑x_2 : Int).toNat + (4 : Nat) + x_4)) (↑x_4 : Int) ((4
  : Int) + ((↑x_4 : Int) + (1 : Int)).tmod (4 : Int)) ((8 : Int) + ((↑x_4 : Int) + (2 : Int)).tmod (4 : Int)) ((12 : Int) + ((↑x_4 : Int) + (3 :
  Int)).tmod (4 : Int)) ((upto x_1 (wordsB x.b) (List.replicate (16 : Nat) (0 : Int))).getD ((List.take (16 : Nat) (List.drop ((0 : Nat) + (↑x_2 :
  Int).toNat * (16 : Nat)) orderL)).getD ((8 : Int) + (2 : Int) * (↑x_4 : Int)).toNat (0 : Int)).toNat (0 : Int)) ((upto x_1 (wordsB x.b) (List.replicate
  (16 : Nat) (0 : Int))).getD ((List.take (16 : Nat) (List.drop ((0 : Nat) + (↑x_2 : Int).toNat * (16 : Nat)) orderL)).getD ((9 : Int) + (2 : Int) *
  (↑x_4 : Int)).toNat (0 : Int)).toNat (0 : Int))).Ok ∧ inI64 ((↑x_4 : Int) + (1 : Int)) ∧ ∃ y, Nat.le y (4 : Nat) ∧ (4 : Nat) - y < (4 : Nat) - x_4 ∧
  (↑y : Int) = (↑x_4 : Int) + (1 : Int) ∧ ((x.h = x.h ∧ True) ∧ (x.b = x.b ∧ True) ∧ (upto x_1 (wordsB x.b) (List.replicate (16 : Nat) (0 : Int)) = upto
  x_1 (wordsB x.b) (List.replicate (16 : Nat) (0 : Int)) ∧ True) ∧ (x.v true ((8 : Nat) * (↑x_2 : Int).toNat + (4 : Nat) + y) = (MixX.mk (x.v true ((8 :
  Nat) * (↑x_2 : Int).toNat + (4 : Nat) + x_4)) (↑x_4 : Int) ((4 : Int) + ((↑x_4 : Int) + (1 : Int)).tmod (4 : Int)) ((8 : Int) + ((↑x_4 : Int) + (2 :
  Int)).tmod (4 : Int)) ((12 : Int) + ((↑x_4 : Int) + (3 : Int)).tmod (4 : Int)) ((upto x_1 (wordsB x.b) (List.replicate (16 : Nat) (0 : Int))).getD
  ((List.take (16 : Nat) (List.drop ((0 : Nat) + (↑x_2 : Int).toNat * (16 : Nat)) orderL)).getD ((8 : Int) + (2 : Int) * (↑x_4 : Int)).toNat (0 :
  Int)).toNat (0 : Int)) ((upto x_1 (wordsB x.b) (List.replicate (16 : Nat) (0 : Int))).getD ((List.take (16 : Nat) (List.drop ((0 : Nat) + (↑x_2 :
  Int).toNat * (16 : Nat)) orderL)).getD ((9 : Int) + (2 : Int) * (↑x_4 : Int)).toNat (0 : Int)).toNat (0 : Int))).out ∧ True) ∧ (ivB = ivB ∧ True) ∧
  (List.take (16 : Nat) (List.drop ((0 : Nat) + (↑x_2 : Int).toNat * (16 : Nat)) orderL) = List.take (16 : Nat) (List.drop ((0 : Nat) + (↑x_2 :
  Int).toNat * (16 : Nat)) orderL) ∧ True) ∧ True) ∧ True) ∧ (decide ((↑x_4 : Int) < (4 : Int)) = false → inI64 ((↑x_2 : Int) + (1 : Int)) ∧ ∃ y, Nat.le
  y (10 : Nat) ∧ (10 : Nat) - y < (10 : Nat) - x_2 ∧ (↑y : Int) = (↑x_2 : Int) + (1 : Int) ∧ ((x.h = x.h ∧ True) ∧ (x.b = x.b ∧ True) ∧ (upto x_1 (wordsB
  x.b) (List.replicate (16 : Nat) (0 : Int)) = upto x_1 (wordsB x.b) (List.replicate (16 : Nat) (0 : Int)) ∧ True) ∧ (x.v true ((8 : Nat) * y) = x.v true
  ((8 : Nat) * (↑x_2 : Int).toNat + (4 : Nat) + x_4) ∧ True) ∧ (ivB = ivB ∧ True) ∧ True) ∧ True))) ∧ (decide ((↑x_2 : Int) < (10 : Int)) = false → (∃
  x_3, Nat.le x_3 (8 : Nat) ∧ (↑x_3 : Int) = (0 : Int) ∧ ((upto x_3 (x.out true) x.h = x.h ∧ True) ∧ (x.b = x.b ∧ True) ∧ (upto x_1 (wordsB x.b)
  (List.replicate (16 : Nat) (0 : Int)) = upto x_1 (wordsB x.b) (List.replicate (16 : Nat) (0 : Int)) ∧ True) ∧ (x.v true ((8 : Nat) * x_2) = x.v true
  ((8 : Nat) * x_2) ∧ True) ∧ (ivB = ivB ∧ True) ∧ True) ∧ True) ∧ ∀ (x_3 : Nat), x_3.le (8 : Nat) → (decide ((↑x_3 : Int) < (8 : Int)) = true → (0 :
  Int) ≤ (↑x_3 : Int) ∧ (↑x_3 : Int) < (↑(8 : Nat) : Int) ∧ (0 : Int) ≤ (↑x_3 : Int) ∧ (↑x_3 : Int) < (↑(16 : Nat) : Int) ∧ inI64 ((8 : Int) + (↑x_3 :
  Int)) ∧ (0 : Int) ≤ (8 : Int) + (↑x_3 : Int) ∧ (8 : Int) + (↑x_3 : Int) < (↑(16 : Nat) : Int) ∧ (0 : Int) ≤ (↑x_3 : Int) ∧ (↑x_3 : Int) < (↑(8 : Nat) :
  Int) ∧ ∀ (ys : List Int), ys = (upto x_3 (x.out true) x.h).set (↑x_3 : Int).toNat (bitop BinOp.xor IntKind.u32 ((upto x_3 (x.out true) x.h).getD (↑x_3
  : Int).toNat (0 : Int)) (bitop BinOp.xor IntKind.u32 ((x.v true ((8 : Nat) * x_2)).getD (↑x_3 : Int).toNat (0 : Int)) ((x.v true ((8 : Nat) *
  x_2)).getD ((8 : Int) + (↑x_3 : Int)).toNat (0 : Int)))) → inI64 ((↑x_3 : Int) + (1 : Int)) ∧ ∃ y, Nat.le y (8 : Nat) ∧ (8 : Nat) - y < (8 : Nat) - x_3
  ∧ (↑y : Int) = (↑x_3 : Int) + (1 : Int) ∧ ((upto y (x.out true) x.h = ys ∧ True) ∧ (x.b = x.b ∧ True) ∧ (upto x_1 (wordsB x.b) (List.replicate (16 :
  Nat) (0 : Int)) = upto x_1 (wordsB x.b) (List.replicate (16 : Nat) (0 : Int)) ∧ True) ∧ (x.v true ((8 : Nat) * x_2) = x.v true ((8 : Nat) * x_2) ∧
  True) ∧ (ivB = ivB ∧ True) ∧ True) ∧ True) ∧ (decide ((↑x_3 : Int) < (8 : Int)) = false → True ∧ ((x.out true = upto x_3 (x.out true) x.h ∧ True) ∧
  True) ∧ True)))
theorem takeB_vc : takeBVC := by
  intro x hx
  have hh := hx.h
  simp only [true_and, and_true, Int.toNat_natCast, decide_eq_true_eq, decide_eq_false_iff_not, Nat.zero_add]
  have hwl := wordsB_len x.b
  have hvl := x.v_len hh true
  have hol : orderL.length = 160 := rfl
  have hup : upto 16 (wordsB x.b) (List.replicate 16 0) = wordsB x.b := upto_all hwl (List.length_replicate ..)
  refine ⟨⟨0, Nat.zero_le _, rfl, upto_zero _ _⟩, fun i hi => ⟨fun h => ?_, fun h => ?_⟩⟩
  · have hi' : i < 16 := by omega
    and_intros
    all_goals first | omega | (unfold inI64; omega) | skip
    rintro ys rfl
    refine ⟨by unfold inI64; omega, i + 1, hi', by omega, by omega, ?_⟩
    exact (upto_set hwl (List.length_replicate ..) hi' ((wordsB_get _ hi').trans (word_at hx.bytes i).symm)).symm
  · have hi16 : i = 16 := by
      have : i ≤ 16 := hi
      omega
    subst hi16
    refine ⟨by decide, by decide, by decide, by decide, fun y1 e1 => ⟨by decide, by decide, by decide, by decide, by decide, fun y2 e2 => ⟨by decide, by decide, by decide, by decide, fun y3 e4 => ?_⟩⟩⟩
    have e3 : x.v true 0 = y3 := by
      rw [e4, e2, e1, show List.take (7 + 1) (copyInts (List.replicate 16 0) x.h) ++ (copyInts (List.take (7 + 1) (List.drop (7 + 1) (copyInts (List.replicate 16 0) x.h))) ivB ++ List.drop (7 + 1 + (7 + 1)) (copyInts (List.replicate 16 0) x.h)) = x.h ++ ivB from v0_eq hh]
      exact (v0Bt hx).symm
    refine ⟨⟨0, Nat.zero_le _, rfl, e3⟩, fun r hr => ⟨fun h => ?_, fun h => ?_⟩⟩
    · have hr' : r < 10 := by omega
      rw [hup]
      refine ⟨by omega, by omega, by omega, ⟨0, Nat.zero_le _, rfl, rfl⟩, fun i hi => ⟨fun h => ?_, fun h => ?_⟩⟩
      · have hi' : i < 4 := by omega
        have hT := fun k => ordT r k
        and_intros
        all_goals first | omega | (unfold inI64; omega) | exact (ordT r _).1 | exact (ordT r _).2 | skip
        · constructor <;> simp only <;> first | exact hvl _ | omega
        · exact ⟨i + 1, hi', by omega, by omega, (col_out x true hi').symm⟩
      · have hi4 : i = 4 := by
          have : i ≤ 4 := hi
          omega
        subst hi4
        refine ⟨⟨0, Nat.zero_le _, rfl, rfl⟩, fun i hi => ⟨fun h => ?_, fun h => ?_⟩⟩
        · have hi' : i < 4 := by omega
          have t1 : 0 ≤ ((i : Int) + 1).tmod 4 ∧ ((i : Int) + 1).tmod 4 < 4 := tmod_ok 1
          have t2 : 0 ≤ ((i : Int) + 2).tmod 4 ∧ ((i : Int) + 2).tmod 4 < 4 := tmod_ok 2
          have t3 : 0 ≤ ((i : Int) + 3).tmod 4 ∧ ((i : Int) + 3).tmod 4 < 4 := tmod_ok 3
          and_intros
          all_goals first | omega | (unfold inI64; omega) | exact (ordT r _).1 | exact (ordT r _).2 | skip
          · constructor <;> simp only <;> first | exact hvl _ | omega
          · exact ⟨i + 1, hi', by omega, by omega, (dia_out x true hi').symm⟩
        · have hi4 : i = 4 := by
            have : i ≤ 4 := hi
            omega
          subst hi4
          exact ⟨by unfold inI64; omega, r + 1, hr', by omega, by omega, rfl⟩
    · have hr10 : r = 10 := by
        have : r ≤ 10 := hr
        omega
      subst hr10
      have hol8 : (x.out true).length = 8 := takeB_len ..
      refine ⟨⟨0, Nat.zero_le _, rfl, upto_zero _ _⟩, fun i hi => ⟨fun h => ?_, fun h => ?_⟩⟩
      · have hi' : i < 8 := by omega
        and_intros
        all_goals first | omega | (unfold inI64; omega) | skip
        rintro ys rfl
        refine ⟨by unfold inI64; omega, i + 1, hi', by omega, by omega, ?_⟩
        rw [upto_getD hol8 (by omega) (Nat.le_refl _)]
        exact (upto_set hol8 hh hi' (out_at x true hi').symm).symm
      · have hi8 : i = 8 := by
          have : i ≤ 8 := hi
          omega
        subst hi8
        exact (upto_all hol8 hh).symm
end Go.Proofs.YtcglahfmnoghjaaGreatDoor

/-! BLAKE2s, the program's own: a block taken in, stands; Write, Sum, what they say. Conditions: none. -/
namespace Go.Proofs.YtcglahfmnoghjaaGreatDoor
open Go Go.Eng Go.Proofs.Tryz

/-- Two contracts, by what is handed in. -/
def tTwo (L1 : LS AA) (g1 : List (SV AA) → List (SO AA) → Option L1.X) (L2 : LS AA) (g2 : List (SV AA) → List (SO AA) → Option L2.X) : SpecT AA := fun args sh K => match g1 args sh with
  | some _ => tLent L1 g1 args sh K
  | none => tLent L2 g2 args sh K
theorem Known.two {P : Program} {l : List (Nat × SpecT AA)} (k : Known P l) (hm : P.follows .mixedOrders = true) {f : FuncId} {fn : Func} {body : Code} (hf : Has P f fn body) {L1 L2 : LS AA} {ann1 : L1.X → Anns AA} {ann2 : L2.X → Anns AA}
    {g1 : List (SV AA) → List (SO AA) → Option L1.X} {g2 : List (SV AA) → List (SO AA) → Option L2.X} {E : Eng AA} (hE : E = EE P l) (h1 : Fits E fn body L1 ann1) (h2 : Fits E fn body L2 ann2)
    (hle1 : ∀ x, L1.pre x → (L1.hin x).length ≤ (L1.hout x).length) (hle2 : ∀ x, L2.pre x → (L2.hin x).length ≤ (L2.hout x).length) (hq1 : qfA f = true → ∀ x, L1.hin x = []) (hq2 : qfA f = true → ∀ x, L2.hin x = []) : Known P ((f, tTwo L1 g1 L2 g2) :: l) := by
  subst hE
  refine .add ?_ k
  intro args sh K hk
  unfold tTwo at hk
  split at hk
  · exact meets_lent (E := EE P l) (sound hm k) GG_below hf.is hf.name hf.body h1.fits hle1 (qfA f) hq1 args sh K hk
  · exact meets_lent (E := EE P l) (sound hm k) GG_below hf.is hf.name hf.body h2.fits hle2 (qfA f) hq2 args sh K hk

def takeAGet (args : List (SV AA)) (sh : List (SO AA)) : Option TakeX := match args with
  | [.ptr i 0, .agg (.run _ _ b .nil), t, _] => match nth sh i, asK .u64 t with
    | some (.cells _ (.run _ _ h (.cell (.vec j) (.cell t0 (.cell n0 .nil))))), some t => match nth sh j, asK .u64 t0, asI n0 with
      | some (.ivec _ _ w), some t0, some n0 => some ⟨h, b, t, w, t0, n0⟩
      | _, _, _ => none
    | _, _ => none
  | _ => none
def takeBGet (args : List (SV AA)) (sh : List (SO AA)) : Option TakeX := match args with
  | [.ptr i 0, .agg (.run _ _ b .nil), t, _] => match nth sh i, asK .u64 t with
    | some (.cells _ (.run _ _ h .nil)), some t => some ⟨h, b, t, [], 0, 0⟩
    | _, _ => none
  | _ => none
theorem takeA_eq : takeAVC = fnS E37 f132 (bodyOf f132) takeALS takeAnnA := by kernel_rfl
theorem takeB_eq : takeBVC = fnS E37 f132 (bodyOf f132) takeBLS takeAnnB := by kernel_rfl
theorem takeA_ok : Fits E37 f132 (bodyOf f132) takeALS takeAnnA := by
  constructor
  rw [← takeA_eq]
  exact takeA_vc
theorem takeB_ok : Fits E37 f132 (bodyOf f132) takeBLS takeAnnB := by
  constructor
  rw [← takeB_eq]
  exact takeB_vc
def L38 : List (Nat × SpecT AA) := (132, tTwo takeALS takeAGet takeBLS takeBGet) :: L37
noncomputable def E38 : Eng AA := EE prog L38
theorem E38_eq : E38 = EE prog L38 := by
  unfold E38
  rfl
theorem f114_has : Has prog 132 f132 (bodyOf f132) := ⟨by kernel_rfl, by kernel_rfl, by kernel_rfl⟩
theorem known38 : Known prog L38 := by
  unfold L38
  exact known37.two mixed f114_has E37_eq takeA_ok takeB_ok (fun _ _ => Nat.le_refl _) (fun _ _ => Nat.le_refl _) (fun h => by cases h) (fun h => by cases h)

/-! ## Write -/
structure Bytes (p : List Int) : Prop where
  bytes : ∀ y, y ∈ p → 0 ≤ y ∧ y < 256
  len : p.length < 70368744177664
def nilV : SV AA := .val (.slice none 0 0)
/-- What waits behind k bytes. -/
def waitB (p : List Int) (k : Nat) : List Int := (p.take k).drop (64 * nq k)
def tW (k : Nat) : Int := ((64 * nq k : Nat) : Int)
def writeLS : LS AA where
  X := List Int
  pre := Bytes
  args := fun p => [.ptr 0 0, .rints .u8 p]
  hin := fun _ => [.cells 194 (stateSL h0B nilV 0 0)]
  res := fun _ => []
  hout := fun p => [.cells 194 (stateSL (hqB orderL p (nq p.length)) (.vec 1) (tW p.length) (p.length : Nat)), .ivec 5 .u8 (waitB p p.length)]
def writeAnn (p : List Int) : Anns AA := fun _ _ _ =>
  some { X := Nat, inv := fun k => k ≤ p.length ∧ (k % 64 = 0 ∨ k = p.length), meas := fun k => p.length - k, slots := fun k => [(1, .rints .u8 (p.drop k))],
         heap := fun k => [(0, .cells 194 (stateSL (hqB orderL p (nq k)) (.vec 1) (tW k) (p.length : Nat)))],
         more := fun k => [.ivec 5 .u8 (waitB p k)] }
def writeGet (args : List (SV AA)) (_ : List (SO AA)) : Option (List Int) := match args with
  | [_, .rints _ p] => some p
  | _ => none
def L39 : List (Nat × SpecT AA) := (117, tLent writeLS writeGet) :: L38
noncomputable def E39 : Eng AA := EE prog L39
theorem E39_eq : E39 = EE prog L39 := by
  unfold E39
  rfl

/-! ## Sum -/
structure StX where
  h : List Int
  w : List Int
  t : Int
  n : Int
structure StX.Ok (x : StX) : Prop where
  h : x.h.length = 8
  w : x.w.length ≤ 64
  bytes : ∀ y, y ∈ x.w → 0 ≤ y ∧ y < 256
  t0 : 0 ≤ x.t
  t1 : x.t < 9223372036854775808
def StX.out (x : StX) : List Int := outB (takeB orderL x.h (padB x.w) (x.t + x.w.length).toNat true)
def stsumLS : LS AA where
  X := StX
  pre := StX.Ok
  args := fun _ => [.ptr 0 0]
  hin := fun x => [.cells 194 (stateSL x.h (.vec 1) x.t x.n), .ivec 5 .u8 x.w]
  res := fun x => [.agg (.run .u8 32 x.out .nil)]
  hout := fun x => [.cells 194 (stateSL x.h (.vec 1) x.t x.n), .ivec 5 .u8 x.w]
def stsumAnn (x : StX) : Anns AA := fun _ _ _ =>
  some { X := Nat, inv := fun i => i ≤ 32, meas := fun i => 32 - i, slots := fun i => [(33, .int .i64 i)],
         heap := fun i => [(3, .cells 27 (.run .u8 32 (upto i x.out (List.replicate 32 0)) .nil))] }
def stsumGet (args : List (SV AA)) (sh : List (SO AA)) : Option StX := match args with
  | [.ptr i 0] => match nth sh i with
    | some (.cells _ (.run _ _ h (.cell (.vec j) (.cell t (.cell n .nil))))) => match nth sh j, asK .u64 t, asI n with
      | some (.ivec _ _ w), some t, some n => some ⟨h, w, t, n⟩
      | _, _, _ => none
    | _ => none
  | _ => none
def L40 : List (Nat × SpecT AA) := (118, tLent stsumLS stsumGet) :: L39
noncomputable def E40 : Eng AA := EE prog L40
theorem E40_eq : E40 = EE prog L40 := by
  unfold E40
  rfl

/-! ## The program's sum of bytes -/
def hashV (b : List Int) : SV AA := .agg (.run .u8 32 b .nil)
def bsumLS : LS AA where
  X := List Int
  pre := Bytes
  args := fun p => [.rints .u8 p]
  hin := fun _ => []
  res := fun p => [hashV (sumB orderL p)]
  hout := fun _ => []
def bytesGet (args : List (SV AA)) (sh : List (SO AA)) : Option (List Int) := match args with
  | [s] => gI .u8 sh s
  | _ => none
end Go.Proofs.YtcglahfmnoghjaaGreatDoor

/-! BLAKE2s, the program's own: Write, Sum. Conditions: none. -/
namespace Go.Proofs.YtcglahfmnoghjaaGreatDoor
open Go Go.Eng Go.Proofs.Tryz

theorem waitB_eq (p : List Int) (k : Nat) : waitB p k = (p.drop (64 * nq k)).take (k - 64 * nq k) := by
  unfold waitB
  rw [List.drop_take]
theorem waitB_len {p : List Int} {k : Nat} (h : k ≤ p.length) : (waitB p k).length = k - 64 * nq k := by
  rw [waitB_eq]
  simp
  omega
theorem waitB_mem {p : List Int} {k : Nat} {y : Int} (h : y ∈ waitB p k) : y ∈ p := List.mem_of_mem_take (List.mem_of_mem_drop h)
theorem nq_le (k : Nat) : 64 * nq k ≤ k := by
  unfold nq; omega
theorem nq_ge (k : Nat) : k ≤ 64 * nq k + 64 := by
  unfold nq; omega
theorem nq_up {k m : Nat} (h : k - 64 * nq k = 64) (h0 : k % 64 = 0) (hm : 0 < m) (h2 : m ≤ 64) : nq (k + m) = nq k + 1 ∧ k = 64 * nq k + 64 := by
  unfold nq at *; omega
theorem nq_zero {k : Nat} (h : k - 64 * nq k ≠ 64) (h0 : k % 64 = 0) : k = 0 := by
  unfold nq at *; omega
theorem nq_one {m : Nat} (h2 : m ≤ 64) : nq m = 0 := by
  unfold nq; omega
theorem drop_full (p : List Int) (k m : Nat) : ((p.drop k).take (p.length - k)).drop m = p.drop (k + m) := by
  rw [List.take_of_length_le (by simp), List.drop_drop]
def writeVC : Prop := ∀ (x : List Int), Bytes x → (↑x.length : Int) ≤ (9223372036854775807 : Int) → inI64 ((0 : Int) + (↑x.length : Int)) ∧ (∃ x_1, (x_1 ≤ x.length ∧ (x_1 %
  (64 : Nat) = (0 : Nat) ∨ x_1 = x.length)) ∧ List.drop x_1 x = x ∧ ((hqB orderL x (nq x_1) = h0B ∧ (SV.val (A := AA) (Value.slice none (0 : Nat) (0 :
  Nat)) : SV AA) = SV.val (A := AA) (Value.slice none (0 : Nat) (0 : Nat)) ∧ tW x_1 = (0 : Int) ∧ (↑x.length : Int) = (0 : Int) + (↑x.length : Int) ∧
  True) ∧ True) ∧ waitB x x_1 = [] ∧ True) ∧ ∀ (x_1 : Nat), x_1 ≤ x.length ∧ (x_1 % (64 : Nat) = (0 : Nat) ∨ x_1 = x.length) → (↑(List.drop x_1 x).length
  : Int) ≤ (9223372036854775807 : Int) → (decide ((↑(List.drop x_1 x).length : Int) > (0 : Int)) = true → (↑(waitB x x_1).length : Int) ≤
  (9223372036854775807 : Int) → (((↑(waitB x x_1).length : Int) == (64 : Int)) = true → (64 : Nat) ≤ (waitB x x_1).length ∧ (0 : Nat) + (64 : Nat) ≤
  (waitB x x_1).length ∧ (True ∧ (List.take (64 : Nat) (List.drop (0 : Nat) (waitB x x_1)) = List.take (64 : Nat) (List.drop (0 : Nat) (waitB x x_1)) ∧
  True) ∧ wr IntKind.u64 (tW x_1 + (64 : Int)) = wr IntKind.u64 (tW x_1 + (64 : Int)) ∧ false = false) ∧ ((hqB orderL x (nq x_1) = hqB orderL x (nq x_1)
  ∧ True ∧ wr IntKind.u64 (tW x_1 + (64 : Int)) = wr IntKind.u64 (tW x_1 + (64 : Int)) ∧ (↑x.length : Int) = (↑x.length : Int) ∧ True) ∧ waitB x x_1 =
  waitB x x_1 ∧ True) ∧ (TakeX.mk (hqB orderL x (nq x_1)) (List.take (64 : Nat) (List.drop (0 : Nat) (waitB x x_1))) (wr IntKind.u64 (tW x_1 + (64 :
  Int))) (waitB x x_1) (wr IntKind.u64 (tW x_1 + (64 : Int))) (↑x.length : Int)).Ok ∧ (0 : Int) ≤ (0 : Int) ∧ (0 : Int) ≤ (↑(waitB x x_1).length : Int) ∧
  ((↑(List.drop x_1 x).length : Int) ≤ (9223372036854775807 : Int) → (↑(List.take (Int.toNat (0 : Int)) (waitB x x_1)).length : Int) ≤
  (9223372036854775807 : Int) → inI64 ((64 : Int) - (↑(List.take (Int.toNat (0 : Int)) (waitB x x_1)).length : Int)) ∧ (0 : Int) ≤ (0 : Int) ∧ (0 : Int)
  ≤ min (↑(List.drop x_1 x).length : Int) ((64 : Int) - (↑(List.take (Int.toNat (0 : Int)) (waitB x x_1)).length : Int)) ∧ min (↑(List.drop x_1 x).length
  : Int) ((64 : Int) - (↑(List.take (Int.toNat (0 : Int)) (waitB x x_1)).length : Int)) ≤ (↑(List.drop x_1 x).length : Int) ∧ ((List.take (Int.toNat (0 :
  Int)) (waitB x x_1)).length + (List.drop (Int.toNat (0 : Int)) (List.take (min (↑(List.drop x_1 x).length : Int) ((64 : Int) - (↑(List.take (Int.toNat
  (0 : Int)) (waitB x x_1)).length : Int))).toNat (List.drop x_1 x))).length) * (1 : Nat) ≤ (140737488355328 : Nat) ∧ (List.take (Int.toNat (0 : Int))
  (waitB x x_1)).length + (List.drop (Int.toNat (0 : Int)) (List.take (min (↑(List.drop x_1 x).length : Int) ((64 : Int) - (↑(List.take (Int.toNat (0 :
  Int)) (waitB x x_1)).length : Int))).toNat (List.drop x_1 x))).length ≤ (1152921504606846976 : Nat) ∧ (0 : Int) ≤ min (↑(List.drop x_1 x).length : Int)
  ((64 : Int) - (↑(List.take (Int.toNat (0 : Int)) (waitB x x_1)).length : Int)) ∧ min (↑(List.drop x_1 x).length : Int) ((64 : Int) - (↑(List.take
  (Int.toNat (0 : Int)) (waitB x x_1)).length : Int)) ≤ (↑(List.drop x_1 x).length : Int) ∧ (↑(List.drop x_1 x).length : Int) ≤ (↑(List.drop x_1
  x).length : Int) ∧ ∃ y, (y ≤ x.length ∧ (y % (64 : Nat) = (0 : Nat) ∨ y = x.length)) ∧ x.length - y < x.length - x_1 ∧ List.drop y x = List.drop (min
  (↑(List.drop x_1 x).length : Int) ((64 : Int) - (↑(List.take (Int.toNat (0 : Int)) (waitB x x_1)).length : Int))).toNat (List.take (↑(List.drop x_1
  x).length : Int).toNat (List.drop x_1 x)) ∧ ((hqB orderL x (nq y) = (TakeX.mk (hqB orderL x (nq x_1)) (List.take (64 : Nat) (List.drop (0 : Nat) (waitB
  x x_1))) (wr IntKind.u64 (tW x_1 + (64 : Int))) (waitB x x_1) (wr IntKind.u64 (tW x_1 + (64 : Int))) (↑x.length : Int)).out false ∧ True ∧ tW y = wr
  IntKind.u64 (tW x_1 + (64 : Int)) ∧ (↑x.length : Int) = (↑x.length : Int) ∧ True) ∧ True) ∧ waitB x y = List.take (Int.toNat (0 : Int)) (waitB x x_1)
  ++ List.drop (Int.toNat (0 : Int)) (List.take (min (↑(List.drop x_1 x).length : Int) ((64 : Int) - (↑(List.take (Int.toNat (0 : Int)) (waitB x
  x_1)).length : Int))).toNat (List.drop x_1 x)) ∧ True)) ∧ (((↑(waitB x x_1).length : Int) == (64 : Int)) = false → (↑(List.drop x_1 x).length : Int) ≤
  (9223372036854775807 : Int) → (↑(waitB x x_1).length : Int) ≤ (9223372036854775807 : Int) → inI64 ((64 : Int) - (↑(waitB x x_1).length : Int)) ∧ (0 :
  Int) ≤ (0 : Int) ∧ (0 : Int) ≤ min (↑(List.drop x_1 x).length : Int) ((64 : Int) - (↑(waitB x x_1).length : Int)) ∧ min (↑(List.drop x_1 x).length :
  Int) ((64 : Int) - (↑(waitB x x_1).length : Int)) ≤ (↑(List.drop x_1 x).length : Int) ∧ ((waitB x x_1).length + (List.drop (Int.toNat (0 : Int))
  (List.take (min (↑(List.drop x_1 x).length : Int) ((64 : Int) - (↑(waitB x x_1).length : Int))).toNat (List.drop x_1 x))).length) * (1 : Nat) ≤
  (140737488355328 : Nat) ∧ (waitB x x_1).length + (List.drop (Int.toNat (0 : Int)) (List.take (min (↑(List.drop x_1 x).length : Int) ((64 : Int) -
  (↑(waitB x x_1).length : Int))).toNat (List.drop x_1 x))).length ≤ (1152921504606846976 : Nat) ∧ (0 : Int) ≤ min (↑(List.drop x_1 x).length : Int) ((64
  : Int) - (↑(waitB x x_1).length : Int)) ∧ min (↑(List.drop x_1 x).length : Int) ((64 : Int) - (↑(waitB x x_1).length : Int)) ≤ (↑(List.drop x_1
  x).length : Int) ∧ (↑(List.drop x_1 x).length : Int) ≤ (↑(List.drop x_1 x).length : Int) ∧ ∃ y, (y ≤ x.length ∧ (y % (64 : Nat) = (0 : Nat) ∨ y =
  x.length)) ∧ x.length - y < x.length - x_1 ∧ List.drop y x = List.drop (min (↑(List.drop x_1 x).length : Int) ((64 : Int) - (↑(waitB x x_1).length :
  Int))).toNat (List.take (↑(List.drop x_1 x).length : Int).toNat (List.drop x_1 x)) ∧ ((hqB orderL x (nq y) = hqB orderL x (nq x_1) ∧ True ∧ tW y = tW
  x_1 ∧ (↑x.length : Int) = (↑x.length : Int) ∧ True) ∧ True) ∧ waitB x y = waitB x x_1 ++ List.drop (Int.toNat (0 : Int)) (List.take (min (↑(List.drop
  x_1 x).length : Int) ((64 : Int) - (↑(waitB x x_1).length : Int))).toNat (List.drop x_1 x)) ∧ True)) ∧ (decide ((↑(List.drop x_1 x).length : Int) > (0
  : Int)) = false → True ∧ ((hqB orderL x (nq x.length) = hqB orderL x (nq x_1) ∧ True ∧ tW x.length = tW x_1 ∧ (↑x.length : Int) = (↑x.length : Int) ∧
  True) ∧ True) ∧ waitB x x.length = waitB x x_1 ∧ True)
theorem write_vc : writeVC := by
  intro p hp hlen
  have hpl := hp.len
  simp only [true_and, and_true]
  refine ⟨by unfold inI64; omega, ⟨0, ⟨Nat.zero_le _, .inl rfl⟩, rfl, ⟨rfl, rfl, by omega⟩, by simp [waitB]⟩, fun k hk => ?_⟩
  obtain ⟨hk1, hk2⟩ := hk
  intro h63
  have hdl : (p.drop k).length = p.length - k := List.length_drop ..
  have hwl := waitB_len hk1
  have hn1 := nq_le k
  have hn2 := nq_ge k
  rw [hdl] at h63 ⊢
  rw [hwl]
  refine ⟨fun h h63' => ⟨fun hb => ?_, fun hb => ?_⟩, fun h => ?_⟩
  · have hk3 : k < p.length := by
      simp only [decide_eq_true_eq] at h; omega
    have hb : k - 64 * nq k = 64 := by
      simp only [beq_iff_eq] at hb; omega
    have hk4 : k % 64 = 0 := by omega
    have ht : wr .u64 (tW k + 64) = ((64 * (nq k + 1) : Nat) : Int) := by
      rw [wr64u, tW]; omega
    have hblk : List.take 64 (List.drop 0 (waitB p k)) = blockB p (nq k) := by
      rw [List.drop_zero, waitB_eq, hb, List.take_take]; rfl
    obtain ⟨m, hm⟩ : ∃ m, m = min (p.length - k) 64 := ⟨_, rfl⟩
    have hm0 : 0 < m := by omega
    have hm1 : m ≤ 64 := by omega
    obtain ⟨hq1, hq2⟩ := nq_up hb hk4 hm0 hm1
    have hmm : min ((p.length - k : Nat) : Int) (64 - ((List.take (Int.toNat 0) (waitB p k)).length : Int)) = (m : Int) := by
      have : (List.take (Int.toNat 0) (waitB p k)).length = 0 := by simp
      rw [this]; omega
    rw [hmm]
    rw [hblk, ht]
    have hbl : (blockB p (nq k)).length = 64 := by
      rw [← hblk]; simp; omega
    refine ⟨by omega, by omega, ⟨hqB_len _ _ _, hbl, fun y hy => hp.bytes y (List.mem_of_mem_drop (List.mem_of_mem_take hy)), by simp only; omega, by simp only; omega⟩, by omega, by omega, fun _ _ => ?_⟩
    have l0 : (List.take (Int.toNat 0) (waitB p k)).length = 0 := by simp
    have l1 : (List.drop (Int.toNat 0) (List.take (m : Int).toNat (List.drop k p))).length = m := by
      simp; omega
    rw [l0, l1]
    refine ⟨by unfold inI64; omega, by omega, by omega, by omega, by omega, by omega, by omega, by omega, by omega, k + m, ⟨by omega, by omega⟩, by omega, ?_, ⟨?_, ?_⟩, ?_⟩
    · exact (drop_full p k m).symm
    · rw [hq1]; rfl
    · show ((64 * nq (k + m) : Nat) : Int) = _
      rw [hq1]
    · rw [waitB_eq, hq1]
      have e1 : 64 * (nq k + 1) = k := by omega
      rw [e1, show k + m - k = m from by omega]
      rfl
  · have hk3 : k < p.length := by
      simp only [decide_eq_true_eq] at h; omega
    have hb : k - 64 * nq k ≠ 64 := by
      simp only [beq_eq_false_iff_ne] at hb; omega
    have hk4 : k = 0 := nq_zero hb (by omega)
    subst hk4
    intro _ _
    obtain ⟨m, hm⟩ : ∃ m, m = min p.length 64 := ⟨_, rfl⟩
    have hm1 : m ≤ 64 := by omega
    have hmm : min ((p.length - 0 : Nat) : Int) (64 - ((0 - 64 * nq 0 : Nat) : Int)) = (m : Int) := by
      have : nq 0 = 0 := rfl
      omega
    rw [hmm]
    have hn0 : nq 0 = 0 := rfl
    have l1 : (List.drop (Int.toNat 0) (List.take (m : Int).toNat (List.drop 0 p))).length = m := by
      simp; omega
    rw [l1]
    refine ⟨by unfold inI64; omega, by omega, by omega, by omega, by omega, by omega, by omega, by omega, by omega, m, ⟨by omega, by omega⟩, by omega, ?_, ⟨?_, ?_⟩, ?_⟩
    · rw [show ((p.length - 0 : Nat) : Int).toNat = p.length - 0 from by omega, show (m : Int).toNat = m from by omega, drop_full p 0 m, Nat.zero_add]
    · rw [nq_one hm1, hn0]
    · show ((64 * nq m : Nat) : Int) = ((64 * nq 0 : Nat) : Int)
      rw [nq_one hm1, hn0]
    · rw [waitB_eq, waitB_eq, nq_one hm1, hn0]
      simp
  · have hk3 : k = p.length := by
      simp only [decide_eq_false_iff_not] at h; omega
    subst hk3
    exact ⟨⟨rfl, rfl⟩, rfl⟩
theorem write_eq : writeVC = fnS E38 f117 (bodyOf f117) writeLS writeAnn := by kernel_rfl
theorem write_ok : Fits E38 f117 (bodyOf f117) writeLS writeAnn := by
  constructor
  rw [← write_eq]
  exact write_vc
theorem f90_has : Has prog 117 f117 (bodyOf f117) := ⟨by kernel_rfl, by kernel_rfl, by kernel_rfl⟩
theorem known39 : Known prog L39 := by
  unfold L39
  exact known38.lent mixed f90_has E38_eq write_ok (fun _ _ => Nat.le_succ 1) (fun h => by cases h)

theorem padB_eq {w : List Int} (h : w.length ≤ 64) : copyInts (List.replicate 64 0) w = padB w := by
  unfold copyInts padB
  rw [List.length_replicate, List.take_of_length_le h, List.drop_replicate]
theorem padB_len {w : List Int} (h : w.length ≤ 64) : (padB w).length = 64 := by
  simp [padB]; omega
theorem padB_bytes {w : List Int} (h : ∀ y, y ∈ w → 0 ≤ y ∧ y < 256) : ∀ y, y ∈ padB w → 0 ≤ y ∧ y < 256 := by
  intro y hy
  rcases List.mem_append.1 hy with hy | hy
  · exact h y hy
  · have := List.eq_of_mem_replicate hy; omega
theorem outB_len (h : List Int) : (outB h).length = 32 := by simp [outB]
theorem outB_get (h : List Int) {i : Nat} (hi : i < 32) : (outB h).getD i 0 = wr .u8 (shr .u32 (h.getD (i / 4) 0) (8 * ((i % 4 : Nat) : Int))) := by
  simp [outB, List.getD_eq_getElem?_getD, hi]
theorem tdiv4 (i : Nat) : (i : Int).tdiv 4 = ((i / 4 : Nat) : Int) := by
  rw [Int.tdiv_eq_ediv_of_nonneg (by omega)]; omega
theorem tmod4 (i : Nat) : (i : Int).tmod 4 = ((i % 4 : Nat) : Int) := by
  rw [Int.tmod_eq_emod_of_nonneg (by omega)]; omega
def stsumVC : Prop := ∀ (x : StX), x.Ok → (↑x.w.length : Int) ≤ (9223372036854775807 : Int) → (True ∧ (copyInts (List.replicate (64 : Nat) (0 : Int)) x.w = copyInts
  (List.replicate (64 : Nat) (0 : Int)) x.w ∧ True) ∧ wr IntKind.u64 (x.t + wr IntKind.u64 (↑x.w.length : Int)) = wr IntKind.u64 (x.t + wr IntKind.u64
  (↑x.w.length : Int)) ∧ true = true) ∧ ((x.h = x.h ∧ True) ∧ True) ∧ (TakeX.mk x.h (copyInts (List.replicate (64 : Nat) (0 : Int)) x.w) (wr IntKind.u64
  (x.t + wr IntKind.u64 (↑x.w.length : Int))) [] (0 : Int) (0 : Int)).Ok ∧ (∃ x_1, Nat.le x_1 (32 : Nat) ∧ (↑x_1 : Int) = (0 : Int) ∧ ((x.h = x.h ∧ True
  ∧ x.t = x.t ∧ x.n = x.n ∧ True) ∧ x.w = x.w ∧ (List.replicate (32 : Nat) (0 : Int) = List.replicate (32 : Nat) (0 : Int) ∧ True) ∧ (upto x_1 x.out
  (List.replicate (32 : Nat) (0 : Int)) = List.replicate (32 : Nat) (0 : Int) ∧ True) ∧ (copyInts (List.replicate (64 : Nat) (0 : Int)) x.w = copyInts
  (List.replicate (64 : Nat) (0 : Int)) x.w ∧ True) ∧ ((TakeX.mk x.h (copyInts (List.replicate (64 : Nat) (0 : Int)) x.w) (wr IntKind.u64 (x.t + wr
  IntKind.u64 (↑x.w.length : Int))) [] (0 : Int) (0 : Int)).out true = (TakeX.mk x.h (copyInts (List.replicate (64 : Nat) (0 : Int)) x.w) (wr IntKind.u64
  (x.t + wr IntKind.u64 (↑x.w.length : Int))) [] (0 : Int) (0 : Int)).out true ∧ True) ∧ True) ∧ True) ∧ ∀ (x_1 : Nat), x_1.le (32 : Nat) → (decide
  ((↑x_1 : Int) < (32 : Int)) = true → (4 : Int) ≠ (0 : Int) ∧ (0 : Int) ≤ wr IntKind.i64 ((↑x_1 : Int).tdiv (4 : Int)) ∧ wr IntKind.i64 ((↑x_1 :
  Int).tdiv (4 : Int)) < (↑(8 : Nat) : Int) ∧ (4 : Int) ≠ (0 : Int) ∧ inI64 ((8 : Int) * (↑x_1 : Int).tmod (4 : Int)) ∧ (0 : Int) ≤ (8 : Int) * (↑x_1 :
  Int).tmod (4 : Int) ∧ (0 : Int) ≤ (↑x_1 : Int) ∧ (↑x_1 : Int) < (↑(32 : Nat) : Int) ∧ ∀ (ys : List Int), ys = (upto x_1 x.out (List.replicate (32 :
  Nat) (0 : Int))).set (↑x_1 : Int).toNat (wr IntKind.u8 (shr IntKind.u32 (((TakeX.mk x.h (copyInts (List.replicate (64 : Nat) (0 : Int)) x.w) (wr
  IntKind.u64 (x.t + wr IntKind.u64 (↑x.w.length : Int))) [] (0 : Int) (0 : Int)).out true).getD (wr IntKind.i64 ((↑x_1 : Int).tdiv (4 : Int))).toNat (0
  : Int)) ((8 : Int) * (↑x_1 : Int).tmod (4 : Int)))) → inI64 ((↑x_1 : Int) + (1 : Int)) ∧ ∃ y, Nat.le y (32 : Nat) ∧ (32 : Nat) - y < (32 : Nat) - x_1 ∧
  (↑y : Int) = (↑x_1 : Int) + (1 : Int) ∧ ((x.h = x.h ∧ True ∧ x.t = x.t ∧ x.n = x.n ∧ True) ∧ x.w = x.w ∧ (List.replicate (32 : Nat) (0 : Int) =
  List.replicate (32 : Nat) (0 : Int) ∧ True) ∧ (upto y x.out (List.replicate (32 : Nat) (0 : Int)) = ys ∧ True) ∧ (copyInts (List.replicate (64 : Nat)
  (0 : Int)) x.w = copyInts (List.replicate (64 : Nat) (0 : Int)) x.w ∧ True) ∧ ((TakeX.mk x.h (copyInts (List.replicate (64 : Nat) (0 : Int)) x.w) (wr
  IntKind.u64 (x.t + wr IntKind.u64 (↑x.w.length : Int))) [] (0 : Int) (0 : Int)).out true = (TakeX.mk x.h (copyInts (List.replicate (64 : Nat) (0 :
  Int)) x.w) (wr IntKind.u64 (x.t + wr IntKind.u64 (↑x.w.length : Int))) [] (0 : Int) (0 : Int)).out true ∧ True) ∧ True) ∧ True) ∧ (decide ((↑x_1 : Int)
  < (32 : Int)) = false → (x.out = upto x_1 x.out (List.replicate (32 : Nat) (0 : Int)) ∧ True) ∧ ((x.h = x.h ∧ True ∧ x.t = x.t ∧ x.n = x.n ∧ True) ∧
  x.w = x.w ∧ True) ∧ True)
theorem stsum_vc : stsumVC := by
  intro x hx hlen
  have hw := hx.w
  have ht0 := hx.t0
  have ht1 := hx.t1
  have ht : wr .u64 (x.t + wr .u64 (x.w.length : Int)) = x.t + x.w.length := by
    rw [wr64u, wr64u]; omega
  simp only [true_and, and_true, ht, padB_eq hw, decide_eq_true_eq, decide_eq_false_iff_not]
  refine ⟨⟨hx.h, padB_len hw, padB_bytes hx.bytes, by simp only; omega, by simp only; omega⟩, ⟨0, Nat.zero_le _, rfl, upto_zero _ _⟩, fun i hi => ⟨fun h => ?_, fun h => ?_⟩⟩
  · have hi' : i < 32 := by omega
    rw [tdiv4, tmod4, wr64 (by unfold inI64; omega)]
    and_intros
    all_goals first | omega | (unfold inI64; omega) | skip
    rintro ys rfl
    refine ⟨by unfold inI64; omega, i + 1, hi', by omega, by omega, ?_⟩
    exact (upto_set (outB_len _) (List.length_replicate ..) hi' (outB_get _ hi')).symm
  · have hi32 : i = 32 := by
      have : i ≤ 32 := hi
      omega
    subst hi32
    exact (upto_all (outB_len _) (List.length_replicate ..)).symm
theorem stsum_eq : stsumVC = fnS E39 f118 (bodyOf f118) stsumLS stsumAnn := by kernel_rfl
theorem stsum_ok : Fits E39 f118 (bodyOf f118) stsumLS stsumAnn := by
  constructor
  rw [← stsum_eq]
  exact stsum_vc
theorem f91_has : Has prog 118 f118 (bodyOf f118) := ⟨by kernel_rfl, by kernel_rfl, by kernel_rfl⟩
theorem known40 : Known prog L40 := by
  unfold L40
  exact known39.lent mixed f91_has E39_eq stsum_ok (fun _ _ => Nat.le_refl _) (fun h => by cases h)

def bsumVC : Prop := ∀ (x : List Int), Bytes x → True ∧ True ∧ True ∧ (0 : Int) ≤ (0 : Int) ∧ (0 : Int) < (↑(8 : Nat) : Int) ∧ (0 : Int) ≤ (0 : Int) ∧ (0 : Int) < (↑(8 :
  Nat) : Int) ∧ ∀ (ys : List Int), ys = ivB.set (Int.toNat (0 : Int)) (bitop BinOp.xor IntKind.u32 (ivB.getD (Int.toNat (0 : Int)) (0 : Int)) (16842784 :
  Int)) → (True ∧ x = x) ∧ ((h0B = ys ∧ (SV.val (A := AA) (Value.slice none (0 : Nat) (0 : Nat)) : SV AA) = SV.val (A := AA) (Value.slice none (0 : Nat)
  (0 : Nat)) ∧ (0 : Int) = (0 : Int) ∧ (0 : Int) = (0 : Int) ∧ True) ∧ True) ∧ Bytes x ∧ True ∧ ((hqB orderL x (nq x.length) = hqB orderL x (nq x.length)
  ∧ True ∧ tW x.length = tW x.length ∧ (↑x.length : Int) = (↑x.length : Int) ∧ True) ∧ waitB x x.length = waitB x x.length ∧ True) ∧ (StX.mk (hqB orderL
  x (nq x.length)) (waitB x x.length) (tW x.length) (↑x.length : Int)).Ok ∧ (sumB orderL x = (StX.mk (hqB orderL x (nq x.length)) (waitB x x.length) (tW
  x.length) (↑x.length : Int)).out ∧ True) ∧ True ∧ True
theorem bsum_vc : bsumVC := by
  intro p hp
  have hpl := hp.len
  simp only [true_and, and_true]
  refine ⟨by decide, by decide, by decide, by decide, fun ys e => ⟨e.symm, hp, ?_, ?_⟩⟩
  · have h1 := waitB_len (p := p) (Nat.le_refl _)
    have h2 := nq_ge p.length
    have h3 := nq_le p.length
    refine ⟨hqB_len _ _ _, by simp only; omega, fun y hy => hp.bytes y (waitB_mem hy), ?_, ?_⟩
    · show 0 ≤ ((64 * nq p.length : Nat) : Int)
      omega
    · show ((64 * nq p.length : Nat) : Int) < _
      omega
  · have h1 := waitB_len (p := p) (Nat.le_refl _)
    have h3 := nq_le p.length
    have e1 : waitB p p.length = p.drop (64 * nq p.length) := by
      unfold waitB
      rw [List.take_of_length_le (Nat.le_refl _)]
    have e2 : (tW p.length + ((waitB p p.length).length : Int)).toNat = p.length := by
      rw [h1]
      show (((64 * nq p.length : Nat) : Int) + _).toNat = _
      omega
    show sumB orderL p = outB (takeB orderL (hqB orderL p (nq p.length)) (padB (waitB p p.length)) (tW p.length + ((waitB p p.length).length : Int)).toNat true)
    rw [e2, e1]
    rfl
theorem bsum_eq : bsumVC = fnS E40 f74 (bodyOf f74) bsumLS noAnn := by kernel_rfl
theorem bsum_ok : Fits E40 f74 (bodyOf f74) bsumLS noAnn := by
  constructor
  rw [← bsum_eq]
  exact bsum_vc
theorem f50_has : Has prog 74 f74 (bodyOf f74) := ⟨by kernel_rfl, by kernel_rfl, by kernel_rfl⟩
def L41 : List (Nat × SpecT AA) := (74, tLent bsumLS bytesGet) :: L40
noncomputable def E41 : Eng AA := EE prog L41
theorem E41_eq : E41 = EE prog L41 := by
  unfold E41
  rfl
theorem known41 : Known prog L41 := by
  unfold L41
  exact known40.lent mixed f50_has E40_eq bsum_ok (fun _ _ => Nat.le_refl _) (fun _ _ => rfl)
end Go.Proofs.YtcglahfmnoghjaaGreatDoor

/-! BLAKE2s, the document's: a block taken in, the sum: what they say. Conditions: none. -/
namespace Go.Proofs.YtcglahfmnoghjaaGreatDoor
open Go Go.Eng Go.Proofs.Tryz

structure RTakeX where
  h : List Int
  b : List Int
  t : Int
  last : Bool
structure RTakeX.Ok (x : RTakeX) : Prop where
  h : x.h.length = 8
  b : x.b.length = 64
  bytes : ∀ y, y ∈ x.b → 0 ≤ y ∧ y < 256
  t0 : 0 ≤ x.t
  t1 : x.t < 18446744073709551616
def RTakeX.out (x : RTakeX) : List Int := takeB orderL x.h x.b x.t.toNat x.last
def RTakeX.v (x : RTakeX) (k : Nat) : List Int := gN orderL (wordsB x.b) (v0B x.h x.t.toNat x.last) k
def rtakeLS : LS AA where
  X := RTakeX
  pre := RTakeX.Ok
  args := fun x => [.rints .u32 x.h, .rints .u8 x.b, .int .u64 x.t, .sb 0 x.last]
  hin := fun _ => []
  res := fun x => [.rints .u32 x.out]
  hout := fun _ => []
def rtakeAnn (x : RTakeX) : Anns AA := fun r ts sh => cond (Nat.beq r 4)
  (some { X := Nat, inv := fun k => k ≤ 16, meas := fun k => 16 - k, slots := fun k => [(10, .int .i64 (4 * (k : Int))), (9, .vec (cnt sh))],
          heap := fun _ => [], more := fun k => [.ivec 189 .u32 ((wordsB x.b).take k)] })
  (cond (Nat.beq r 25)
  (some { X := Nat, inv := fun i => i ≤ 8, meas := fun i => 8 - i, slots := fun i => [(18, .int .i64 i), (17, .vec (cnt sh))],
          heap := fun _ => [], more := fun i => [.ivec 189 .u32 (x.out.take i)] })
  (match nth ts 11 with
  | some (.vec j) => cond (Nat.beq r 15)
    (some { X := Nat, inv := fun i => i ≤ 10, meas := fun i => 10 - i, slots := fun i => [(13, .int .i64 i)],
            heap := fun i => [(j, .ivec 189 .u32 (x.v (8 * i)))] })
    (match nth ts 13 with
    | some (.int _ q) => some { X := Nat, inv := fun i => i ≤ 8, meas := fun i => 8 - i, slots := fun i => [(15, .int .i64 i)], heap := fun i => [(j, .ivec 189 .u32 (x.v (8 * q.toNat + i)))] }
    | _ => none)
  | _ => none))
def rtakeGet (args : List (SV AA)) (sh : List (SO AA)) : Option RTakeX := match args with
  | [h, b, t, l] => match intsOfS sh h, intsOfS sh b, asK .u64 t, Eng.asBool l with
    | some (_, h), some (_, b), some t, some l => some ⟨h, b, t, l⟩
    | _, _, _, _ => none
  | _ => none
def L42 : List (Nat × SpecT AA) := (123, tLent rtakeLS rtakeGet) :: L41
noncomputable def E42 : Eng AA := EE prog L42
theorem E42_eq : E42 = EE prog L42 := by
  unfold E42
  rfl

/-! ## Keyed, with no key -/
/-- Bytes filled up to whole blocks. -/
def fullB (p : List Int) : List Int := p ++ List.replicate (64 * (nq p.length + 1) - p.length) 0
/-- The words behind k bytes of these. -/
def hkB (p : List Int) (k : Nat) : List Int := cond (Nat.ble k (64 * nq p.length)) (hqB orderL p (k / 64)) (takeB orderL (hqB orderL p (nq p.length)) (padB (p.drop (64 * nq p.length))) p.length true)
def rkeyedLS : LS AA where
  X := List Int
  pre := Bytes
  args := fun p => [nilV, .rints .u8 p]
  hin := fun _ => []
  res := fun p => [hashV (sumB orderL p), .int .i64 0]
  hout := fun _ => []
def rkeyedAnn (p : List Int) : Anns AA := fun r _ sh => cond (Nat.beq r 14)
  (some { X := Nat, inv := fun k => p.length + k ≤ 64 * (nq p.length + 1), meas := fun k => 64 * (nq p.length + 1) - (p.length + k), slots := fun _ => [(8, .vec (cnt sh))],
          heap := fun _ => [(3, .dead)], more := fun k => [.ivec 5 .u8 (p ++ List.replicate k 0)] })
  (cond (Nat.beq r 17)
  (some { X := Nat, inv := fun q => q ≤ nq p.length + 1, meas := fun q => nq p.length + 1 - q, slots := fun q => [(10, .int .i64 (64 * (q : Int))), (7, .rints .u32 (hkB p (64 * q))), (8, .rints .u8 (fullB p))],
          heap := fun _ => [(2, .dead), (4, .dead)] })
  (some { X := Nat, inv := fun i => i ≤ 32, meas := fun i => 32 - i, slots := fun i => [(11, .int .i64 i)],
          heap := fun i => [(1, .cells 27 (.run .u8 32 (upto i (sumB orderL p) (List.replicate 32 0)) .nil))] }))
def rkeyedGet (args : List (SV AA)) (_ : List (SO AA)) : Option (List Int) := match args with
  | [_, .rints _ p] => some p
  | _ => none
def L43 : List (Nat × SpecT AA) := (89, tLent rkeyedLS rkeyedGet) :: L42
noncomputable def E43 : Eng AA := EE prog L43
theorem E43_eq : E43 = EE prog L43 := by
  unfold E43
  rfl
def L44 : List (Nat × SpecT AA) := (44, tLent bsumLS bytesGet) :: L43
noncomputable def E44 : Eng AA := EE prog L44
theorem E44_eq : E44 = EE prog L44 := by
  unfold E44
  rfl
def L45 : List (Nat × SpecT AA) := (94, tLent bsumLS bytesGet) :: L44
noncomputable def E45 : Eng AA := EE prog L45
theorem E45_eq : E45 = EE prog L45 := by
  unfold E45
  rfl
end Go.Proofs.YtcglahfmnoghjaaGreatDoor
