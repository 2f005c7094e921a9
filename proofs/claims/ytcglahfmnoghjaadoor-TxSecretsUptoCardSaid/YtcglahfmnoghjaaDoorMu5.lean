/- Part 5 of the texts behind the last one: what they say stands ahead of each. Conditions: none. -/
import Derived.Test.YtcglahfmnoghjaaDoorMu4
/-! A condition's opening, whatever its lock; the document's; the law: they hold. Conditions: none. -/
namespace Go.Proofs.YtcglahfmnoghjaaDoor
open Go Go.Eng Go.Proofs.Tryd

theorem fine_of_checkN {bs : List Br} (h : checkN bs = 0) : fineB bs = true := checkN_zero.1 h
theorem not_of_checkN {bs : List Br} (h : ¬ checkN bs = 0) : fineB bs = false := by
  cases e : fineB bs with
  | false => rfl
  | true => exact absurd (checkN_zero.2 e) h
def opensGVC : Prop := ∀ (x : List Br × Int × Sn), Bytes x.snd.snd.secret → (x.fst = x.fst ∧ True) ∧ True ∧ True ∧ ((!checkN x.fst == (0 : Int)) = true → opensB x.fst
  x.snd.fst x.snd.snd = checkN x.fst ∧ True ∧ True) ∧ ((!checkN x.fst == (0 : Int)) = false → (decide (x.snd.fst < (0 : Int)) = true → (opensB x.fst
  x.snd.fst x.snd.snd = (4 : Int) ∧ (4 : Int) ≠ (0 : Int)) ∧ True ∧ True) ∧ (decide (x.snd.fst < (0 : Int)) = false → (↑x.fst.length : Int) ≤
  (9223372036854775807 : Int) → (decide (x.snd.fst ≥ (↑x.fst.length : Int)) = true → (opensB x.fst x.snd.fst x.snd.snd = (4 : Int) ∧ (4 : Int) ≠ (0 :
  Int)) ∧ True ∧ True) ∧ (decide (x.snd.fst ≥ (↑x.fst.length : Int)) = false → (0 : Int) ≤ x.snd.fst ∧ x.snd.fst < (↑x.fst.length : Int) ∧ ∀ (y : AA (93
  : Nat)), x.fst[x.snd.fst.toNat]? = some y → (y.keys = y.keys ∧ Fn.func (46 : FuncId) = Fn.func (46 : Nat) ∧ True ∧ True ∧ True) ∧ ((x.snd.snd.signed =
  x.snd.snd.signed ∧ x.snd.snd.secret = x.snd.snd.secret ∧ x.snd.snd.height = x.snd.snd.height ∧ x.snd.snd.age = x.snd.snd.age ∧ True) ∧ True) ∧ True ∧
  (decide (missIdx x.snd.snd.signed y.keys (0 : Nat) ≥ (0 : Int)) = true → (opensB x.fst x.snd.fst x.snd.snd = (21 : Int) ∧ (21 : Int) ≠ (0 : Int)) ∧
  True ∧ True) ∧ (decide (missIdx x.snd.snd.signed y.keys (0 : Nat) ≥ (0 : Int)) = false → ((!y.lock == List.replicate (32 : Nat) (0 : Int)) = true →
  x.snd.snd.secret = x.snd.snd.secret ∧ True ∧ Bytes x.snd.snd.secret ∧ ((!y.lock == sumB orderL x.snd.snd.secret) = true → (opensB x.fst x.snd.fst
  x.snd.snd = (22 : Int) ∧ (22 : Int) ≠ (0 : Int)) ∧ True ∧ True) ∧ ((!y.lock == sumB orderL x.snd.snd.secret) = false → (decide (x.snd.snd.height <
  y.after) = true → (opensB x.fst x.snd.fst x.snd.snd = (23 : Int) ∧ (23 : Int) ≠ (0 : Int)) ∧ True ∧ True) ∧ (decide (x.snd.snd.height < y.after) =
  false → (decide (x.snd.snd.age < y.older) = true → (opensB x.fst x.snd.fst x.snd.snd = (23 : Int) ∧ (23 : Int) ≠ (0 : Int)) ∧ True ∧ True) ∧ (decide
  (x.snd.snd.age < y.older) = false → opensB x.fst x.snd.fst x.snd.snd = (0 : Int) ∧ True ∧ True)))) ∧ ((!y.lock == List.replicate (32 : Nat) (0 : Int))
  = false → (decide (x.snd.snd.height < y.after) = true → (opensB x.fst x.snd.fst x.snd.snd = (23 : Int) ∧ (23 : Int) ≠ (0 : Int)) ∧ True ∧ True) ∧
  (decide (x.snd.snd.height < y.after) = false → (decide (x.snd.snd.age < y.older) = true → (opensB x.fst x.snd.fst x.snd.snd = (23 : Int) ∧ (23 : Int) ≠
  (0 : Int)) ∧ True ∧ True) ∧ (decide (x.snd.snd.age < y.older) = false → opensB x.fst x.snd.fst x.snd.snd = (0 : Int) ∧ True ∧ True)))))))

theorem opensG_eq : opensGVC = fnS E45 f19 (bodyOf f19) opensGLS noAnn := by kernel_rfl
theorem opensG_vc : opensGVC := by
  rintro ⟨bs, br, s⟩ hb
  simp only [and_true, true_and, decide_eq_true_eq, decide_eq_false_iff_not, Bool.not_eq_true', Bool.not_eq_false', beq_iff_eq, beq_eq_false_iff_ne, ne_eq] at hb ⊢
  refine ⟨fun h => ?_, fun h => ?_⟩
  · unfold opensB
    rw [opensN_not (not_of_checkN h)]; simp [checkN, not_of_checkN h]
  unfold opensB
  rw [opensN_fine (fine_of_checkN h)]
  refine ⟨fun h1 => ⟨?_, by decide⟩, fun h1 hl => ⟨fun h2 => ⟨?_, by decide⟩, fun h2 => ?_⟩⟩
  · rw [if_pos (.inl h1)]
  · rw [if_pos (.inr h2)]
  rw [if_neg (by omega)]
  refine ⟨by omega, by omega, fun y hy => ?_⟩
  change bs[br.toNat]? = some (show Br from y) at hy
  rw [hy]
  simp only
  refine ⟨fun h3 => ⟨?_, by decide⟩, fun h3 => ⟨fun h4 => ⟨hb, fun h5 => ⟨?_, by decide⟩, fun h5 => ?_⟩, fun h4 => ?_⟩⟩
  · rw [if_pos h3]
  · rw [if_neg h3, if_pos ⟨h4, h5⟩]
  · rw [if_neg h3, if_neg (fun h => h.2 h5)]
    refine ⟨fun h5 => ⟨?_, by decide⟩, fun h5 => ⟨fun h6 => ⟨?_, by decide⟩, fun h6 => ?_⟩⟩
    · rw [if_pos (.inl h5)]
    · rw [if_pos (.inr h6)]
    · rw [if_neg (fun h => h.elim h5 h6)]
  · rw [if_neg h3, if_neg (fun h => h.1 h4)]
    refine ⟨fun h5 => ⟨?_, by decide⟩, fun h5 => ⟨fun h6 => ⟨?_, by decide⟩, fun h6 => ?_⟩⟩
    · rw [if_pos (.inl h5)]
    · rw [if_pos (.inr h6)]
    · rw [if_neg (fun h => h.elim h5 h6)]
theorem opensG_ok : Fits E45 f19 (bodyOf f19) opensGLS noAnn := by
  constructor
  rw [← opensG_eq]
  exact opensG_vc
theorem known46 : Known prog L46 := by
  unfold L46
  exact known45.lent mixed f19_has E45_eq opensG_ok (fun _ _ => Nat.le_refl _) (fun _ _ => rfl)

theorem bytes_nil : Bytes [] := ⟨by simp, by simp⟩
def sureGVC : Prop := ∀ (_ : Unit), True → [(2 : Int), (1 : Int)] = [(2 : Int), (1 : Int)] ∧ True ∧ [(2 : Int), (1 : Int)].length.le (1000000 : Nat) ∧
  ((Proofs.YtcglahfmnoghjaaDoor.allOf [(2 : Int), (1 : Int)] = Proofs.YtcglahfmnoghjaaDoor.allOf [(2 : Int), (1 : Int)] ∧ True) ∧ (0 : Int) = (0 : Int) ∧
  [(1 : Int), (2 : Int)] = [(1 : Int), (2 : Int)] ∧ ([] : List Int) = [] ∧ (0 : Int) = (0 : Int) ∧ (0 : Int) = (0 : Int) ∧ True) ∧ True ∧ Bytes [] ∧
  ((opensB (Proofs.YtcglahfmnoghjaaDoor.allOf [(2 : Int), (1 : Int)]) (0 : Int) (Sn.mk [(1 : Int), (2 : Int)] [] (0 : Int) (0 : Int)) == (0 : Int)) =
  true → ((Proofs.YtcglahfmnoghjaaDoor.allOf [(2 : Int), (1 : Int)] = Proofs.YtcglahfmnoghjaaDoor.allOf [(2 : Int), (1 : Int)] ∧ True) ∧ (0 : Int) = (0 :
  Int) ∧ [(1 : Int)] = [(1 : Int)] ∧ ([] : List Int) = [] ∧ (0 : Int) = (0 : Int) ∧ (0 : Int) = (0 : Int) ∧ True) ∧ True ∧ Bytes [] ∧ ((opensB
  (Proofs.YtcglahfmnoghjaaDoor.allOf [(2 : Int), (1 : Int)]) (0 : Int) (Sn.mk [(1 : Int)] [] (0 : Int) (0 : Int)) == (21 : Int)) = true →
  (↑(Proofs.YtcglahfmnoghjaaDoor.allOf [(2 : Int), (1 : Int)]).length : Int) ≤ (9223372036854775807 : Int) → (((↑(Proofs.YtcglahfmnoghjaaDoor.allOf [(2 :
  Int), (1 : Int)]).length : Int) == (1 : Int)) = true → (0 : Int) ≤ (0 : Int) ∧ (0 : Int) < (↑(Proofs.YtcglahfmnoghjaaDoor.allOf [(2 : Int), (1 :
  Int)]).length : Int) ∧ ∀ (y : AA (93 : Nat)), (Proofs.YtcglahfmnoghjaaDoor.allOf [(2 : Int), (1 : Int)])[Int.toNat (0 : Int)]? = some y → True ∧ true =
  decide (y.keys = [(1 : Int), (2 : Int)]) ∧ True ∧ True) ∧ (((↑(Proofs.YtcglahfmnoghjaaDoor.allOf [(2 : Int), (1 : Int)]).length : Int) == (1 : Int)) =
  false → true = false ∧ True ∧ True)) ∧ ((opensB (Proofs.YtcglahfmnoghjaaDoor.allOf [(2 : Int), (1 : Int)]) (0 : Int) (Sn.mk [(1 : Int)] [] (0 : Int) (0
  : Int)) == (21 : Int)) = false → true = false ∧ True ∧ True)) ∧ ((opensB (Proofs.YtcglahfmnoghjaaDoor.allOf [(2 : Int), (1 : Int)]) (0 : Int) (Sn.mk
  [(1 : Int), (2 : Int)] [] (0 : Int) (0 : Int)) == (0 : Int)) = false → true = false ∧ True ∧ True)

theorem sureG_eq : sureGVC = fnS E46 f14 (bodyOf f14) sureLS noAnn := by kernel_rfl
theorem sureG_vc : sureGVC := by
  intro _ _
  have o1 : opensB (allOf [2, 1]) 0 ⟨[1, 2], [], 0, 0⟩ = 0 := by
    unfold opensB
    rw [allOf_21, opensN_fine fine_21]
    simp [missIdx, zeros32]
  have o2 : opensB (allOf [2, 1]) 0 ⟨[1], [], 0, 0⟩ = 21 := by
    unfold opensB
    rw [allOf_21, opensN_fine fine_21]
    simp [missIdx]
  refine ⟨rfl, trivial, (show 2 ≤ 1000000 by decide), ⟨⟨rfl, trivial⟩, rfl, rfl, rfl, rfl, rfl, trivial⟩, trivial, bytes_nil, fun _ => ⟨⟨⟨rfl, trivial⟩, rfl, rfl, rfl, rfl, rfl, trivial⟩, trivial, bytes_nil, fun _ _ => ⟨fun _ => ⟨by decide, ?_, ?_⟩, fun h => ?_⟩, fun h => ?_⟩, fun h => ?_⟩
  · rw [allOf_21]; simp
  · intro y hy
    rw [allOf_21] at hy
    simp at hy
    cases hy
    exact ⟨trivial, by simp, trivial, trivial⟩
  · rw [allOf_21] at h; simp at h
  · rw [o2] at h; simp at h
  · rw [o1] at h; simp at h
theorem sureG_ok : Fits E46 f14 (bodyOf f14) sureLS noAnn := by
  constructor
  rw [← sureG_eq]
  exact sureG_vc
theorem known47 : Known prog L47 := by
  unfold L47
  exact known46.lent mixed f14_has E46_eq sureG_ok (fun _ _ => Nat.le_refl _) (fun _ _ => rfl)

theorem drop_cons' {xs : List Int} {i : Nat} (h : i < xs.length) : xs.drop i = xs.getD i 0 :: xs.drop (i + 1) := by
  rw [List.drop_eq_getElem_cons h, List.getD_eq_getElem?_getD, List.getElem?_eq_getElem h]
  rfl
def hasVC : Prop := ∀ (x : List Int × Int), True → (∃ x_1, (x_1 ≤ x.fst.length ∧ (x.snd ∈ x.fst ↔ x.snd ∈ List.drop x_1 x.fst)) ∧ (↑x_1 : Int) = (0 : Int) ∧ True ∧ True) ∧
  ∀ (x_1 : Nat), x_1 ≤ x.fst.length ∧ (x.snd ∈ x.fst ↔ x.snd ∈ List.drop x_1 x.fst) → (↑x.fst.length : Int) ≤ (9223372036854775807 : Int) → (decide
  ((↑x_1 : Int) < (↑x.fst.length : Int)) = true → (0 : Int) ≤ (↑x_1 : Int) ∧ (↑x_1 : Int) < (↑x.fst.length : Int) ∧ (↑x_1 : Int).toNat < x.fst.length ∧
  ((x.fst.getD (↑x_1 : Int).toNat (0 : Int) == x.snd) = true → decide (x.snd ∈ x.fst) = true ∧ True ∧ True) ∧ ((x.fst.getD (↑x_1 : Int).toNat (0 : Int)
  == x.snd) = false → inI64 ((↑x_1 : Int) + (1 : Int)) ∧ ∃ y, (y ≤ x.fst.length ∧ (x.snd ∈ x.fst ↔ x.snd ∈ List.drop y x.fst)) ∧ x.fst.length - y <
  x.fst.length - x_1 ∧ (↑y : Int) = (↑x_1 : Int) + (1 : Int) ∧ True ∧ True)) ∧ (decide ((↑x_1 : Int) < (↑x.fst.length : Int)) = false → decide (x.snd ∈
  x.fst) = false ∧ True ∧ True)

theorem has_eq : hasVC = fnS E47 f49 (bodyOf f49) hasLS hasAnn := by kernel_rfl
theorem has_vc : hasVC := by
  rintro ⟨xs, k⟩ _
  simp only [and_true, true_and, decide_eq_true_eq, decide_eq_false_iff_not, beq_iff_eq, beq_eq_false_iff_ne, ne_eq, Int.toNat_natCast]
  refine ⟨⟨0, ⟨Nat.zero_le _, Iff.rfl⟩, rfl⟩, fun i hi hl => ⟨fun h => ?_, fun h => ?_⟩⟩
  · have hi' : i < xs.length := by omega
    have hd := drop_cons' hi'
    refine ⟨by omega, by omega, hi', fun h1 => ?_, fun h1 => ⟨by unfold inI64; omega, i + 1, ⟨hi', ?_⟩, by omega, by omega⟩⟩
    · rw [hi.2, hd, h1]; simp
    · rw [hi.2, hd]
      simp only [List.mem_cons]
      exact ⟨fun h => h.elim (fun e => absurd e.symm h1) id, .inr⟩
  · rw [hi.2, List.drop_of_length_le (by omega)]
    simp
theorem has_ok : Fits E47 f49 (bodyOf f49) hasLS hasAnn := by
  constructor
  rw [← has_eq]
  exact has_vc
theorem f49_has : Has prog 49 f49 (bodyOf f49) := ⟨by kernel_rfl, by kernel_rfl, by kernel_rfl⟩
theorem known48 : Known prog L48 := by
  unfold L48
  exact known47.lent mixed f49_has E47_eq has_ok (fun _ _ => Nat.le_refl _) (fun _ _ => rfl)
def rOpensVC : Prop := ∀ (x : List Br × Int × Sn), Bytes x.snd.snd.secret ∧ x.fst.length ≤ (9223372036854775807 : Nat) ∧ x.snd.snd.signed.length ≤ (9223372036854775807 : Nat)
  → x.fst.length.le (9223372036854775807 : Nat) ∧ (((bif fineB x.fst then (0 : Int) else (1 : Int)) != (0 : Int)) = true → (opensB x.fst x.snd.fst
  x.snd.snd = bif fineB x.fst then (0 : Int) else (1 : Int)) ∧ True ∧ True) ∧ (((bif fineB x.fst then (0 : Int) else (1 : Int)) != (0 : Int)) = false →
  (decide (x.snd.fst < (0 : Int)) = true → opensB x.fst x.snd.fst x.snd.snd = (4 : Int) ∧ True ∧ True) ∧ (decide (x.snd.fst < (0 : Int)) = false →
  (↑x.fst.length : Int) ≤ (9223372036854775807 : Int) → (decide (x.snd.fst ≥ (↑x.fst.length : Int)) = true → opensB x.fst x.snd.fst x.snd.snd = (4 : Int)
  ∧ True ∧ True) ∧ (decide (x.snd.fst ≥ (↑x.fst.length : Int)) = false → (0 : Int) ≤ x.snd.fst ∧ x.snd.fst < (↑x.fst.length : Int) ∧ ∀ (y : AA (48 :
  Nat)), x.fst[x.snd.fst.toNat]? = some y → (∃ x_1, (x_1 ≤ y.keys.length ∧ missIdx x.snd.snd.signed y.keys (0 : Nat) = missIdx x.snd.snd.signed
  (List.drop x_1 y.keys) x_1) ∧ (↑x_1 : Int) = (0 : Int) ∧ ((x.fst = x.fst ∧ True) ∧ (x.snd.snd.signed = x.snd.snd.signed ∧ x.snd.snd.secret =
  x.snd.snd.secret ∧ x.snd.snd.height = x.snd.snd.height ∧ x.snd.snd.age = x.snd.snd.age ∧ True) ∧ (y.keys = y.keys ∧ y.lock = y.lock ∧ y.after = y.after
  ∧ y.older = y.older ∧ True) ∧ True) ∧ True) ∧ ∀ (x_1 : Nat), x_1 ≤ y.keys.length ∧ missIdx x.snd.snd.signed y.keys (0 : Nat) = missIdx x.snd.snd.signed
  (List.drop x_1 y.keys) x_1 → (↑y.keys.length : Int) ≤ (9223372036854775807 : Int) → (decide ((↑x_1 : Int) < (↑y.keys.length : Int)) = true → (0 : Int)
  ≤ (↑x_1 : Int) ∧ (↑x_1 : Int) < (↑y.keys.length : Int) ∧ (↑x_1 : Int).toNat < y.keys.length ∧ (x.snd.snd.signed = x.snd.snd.signed ∧ y.keys.getD (↑x_1
  : Int).toNat (0 : Int) = y.keys.getD (↑x_1 : Int).toNat (0 : Int)) ∧ True ∧ True ∧ ((!decide (y.keys.getD (↑x_1 : Int).toNat (0 : Int) ∈
  x.snd.snd.signed)) = true → opensB x.fst x.snd.fst x.snd.snd = (21 : Int) ∧ True ∧ True) ∧ ((!decide (y.keys.getD (↑x_1 : Int).toNat (0 : Int) ∈
  x.snd.snd.signed)) = false → inI64 ((↑x_1 : Int) + (1 : Int)) ∧ ∃ y_1, (y_1 ≤ y.keys.length ∧ missIdx x.snd.snd.signed y.keys (0 : Nat) = missIdx
  x.snd.snd.signed (List.drop y_1 y.keys) y_1) ∧ y.keys.length - y_1 < y.keys.length - x_1 ∧ (↑y_1 : Int) = (↑x_1 : Int) + (1 : Int) ∧ ((x.fst = x.fst ∧
  True) ∧ (x.snd.snd.signed = x.snd.snd.signed ∧ x.snd.snd.secret = x.snd.snd.secret ∧ x.snd.snd.height = x.snd.snd.height ∧ x.snd.snd.age =
  x.snd.snd.age ∧ True) ∧ (y.keys = y.keys ∧ y.lock = y.lock ∧ y.after = y.after ∧ y.older = y.older ∧ True) ∧ True) ∧ True)) ∧ (decide ((↑x_1 : Int) <
  (↑y.keys.length : Int)) = false → ((!y.lock == List.replicate (32 : Nat) (0 : Int)) = true → x.snd.snd.secret = x.snd.snd.secret ∧ True ∧ Bytes
  x.snd.snd.secret ∧ ((!sumB orderL x.snd.snd.secret == y.lock) = true → opensB x.fst x.snd.fst x.snd.snd = (22 : Int) ∧ True ∧ True) ∧ ((!sumB orderL
  x.snd.snd.secret == y.lock) = false → (decide (y.after > x.snd.snd.height) = true → opensB x.fst x.snd.fst x.snd.snd = (23 : Int) ∧ True ∧ True) ∧
  (decide (y.after > x.snd.snd.height) = false → (decide (y.older > x.snd.snd.age) = true → opensB x.fst x.snd.fst x.snd.snd = (23 : Int) ∧ True ∧ True)
  ∧ (decide (y.older > x.snd.snd.age) = false → opensB x.fst x.snd.fst x.snd.snd = (0 : Int) ∧ True ∧ True)))) ∧ ((!y.lock == List.replicate (32 : Nat)
  (0 : Int)) = false → (decide (y.after > x.snd.snd.height) = true → opensB x.fst x.snd.fst x.snd.snd = (23 : Int) ∧ True ∧ True) ∧ (decide (y.after >
  x.snd.snd.height) = false → (decide (y.older > x.snd.snd.age) = true → opensB x.fst x.snd.fst x.snd.snd = (23 : Int) ∧ True ∧ True) ∧ (decide (y.older
  > x.snd.snd.age) = false → opensB x.fst x.snd.fst x.snd.snd = (0 : Int) ∧ True ∧ True)))))))

theorem rOpens_eq : rOpensVC = fnS E48 f20 (bodyOf f20) rOpensLS rOpensAnn := by kernel_rfl
theorem rOpens_vc : rOpensVC := by
  rintro ⟨bs, br, s⟩ ⟨hb, hn, hn2⟩
  simp only [and_true, true_and, decide_eq_true_eq, decide_eq_false_iff_not, Bool.not_eq_true', Bool.not_eq_false', beq_iff_eq, beq_eq_false_iff_ne, bne_iff_ne, bne_eq_false_iff_eq, ne_eq, Int.toNat_natCast] at hb hn hn2 ⊢
  refine ⟨hn, fun h => ?_, fun h => ?_⟩
  · have hf : fineB bs = false := by
      cases e : fineB bs with
      | false => rfl
      | true => rw [e] at h; exact absurd rfl h
    unfold opensB
    rw [opensN_not hf, hf]; rfl
  have hf : fineB bs = true := by
    cases e : fineB bs with
    | true => rfl
    | false => rw [e] at h; exact absurd h (by decide)
  unfold opensB
  rw [opensN_fine hf]
  refine ⟨fun h1 => ?_, fun h1 hl => ⟨fun h2 => ?_, fun h2 => ?_⟩⟩
  · rw [if_pos (.inl h1)]
  · rw [if_pos (.inr h2)]
  rw [if_neg (by omega)]
  refine ⟨by omega, by omega, fun y hy => ?_⟩
  change bs[br.toNat]? = some (show Br from y) at hy
  rw [hy]
  simp only
  refine ⟨⟨0, ⟨Nat.zero_le _, rfl⟩, rfl⟩, fun i hi hl => ⟨fun h3 => ?_, fun h3 => ?_⟩⟩
  · have hi' : i < (Br.keys y).length := by omega
    have hd := drop_cons' hi'
    refine ⟨by omega, by omega, hi', fun h4 => ?_, fun h4 => ⟨by unfold inI64; omega, i + 1, ⟨hi', ?_⟩, by omega, by omega⟩⟩
    · rw [if_pos]
      rw [hi.2, hd]
      simp only [missIdx, if_neg h4]
      omega
    · rw [hi.2, hd]
      simp only [missIdx, if_pos h4]
  · have hm : missIdx s.signed (Br.keys y) 0 = -1 := by
      rw [hi.2, List.drop_of_length_le (by omega)]
      rfl
    rw [hm, if_neg (by decide)]
    refine ⟨fun h4 => ⟨hb, fun h5 => ?_, fun h5 => ?_⟩, fun h4 => ?_⟩
    · rw [if_pos ⟨h4, fun e => h5 e.symm⟩]
    · rw [if_neg (fun h => h.2 h5.symm)]
      refine ⟨fun h5 => ?_, fun h5 => ⟨fun h6 => ?_, fun h6 => ?_⟩⟩
      · rw [if_pos (.inl h5)]
      · rw [if_pos (.inr h6)]
      · rw [if_neg (fun h => h.elim h5 h6)]
    · rw [if_neg (fun h => h.1 h4)]
      refine ⟨fun h5 => ?_, fun h5 => ⟨fun h6 => ?_, fun h6 => ?_⟩⟩
      · rw [if_pos (.inl h5)]
      · rw [if_pos (.inr h6)]
      · rw [if_neg (fun h => h.elim h5 h6)]
theorem rOpens_ok : Fits E48 f20 (bodyOf f20) rOpensLS rOpensAnn := by
  constructor
  rw [← rOpens_eq]
  exact rOpens_vc
theorem f20_has : Has prog 20 f20 (bodyOf f20) := ⟨by kernel_rfl, by kernel_rfl, by kernel_rfl⟩
theorem known49 : Known prog L49 := by
  unfold L49
  exact known48.lent mixed f20_has E48_eq rOpens_ok (fun _ _ => Nat.le_refl _) (fun _ _ => rfl)

def opensLawVC : Prop := ∀ (x : OpX), x.Ok → (weight x.bs).le (1099511627776 : Nat) ∧ (decide ((300 : Nat) < weight x.bs) = true → True ∧ True ∧ True ∧ true = true ∧ True ∧
  True) ∧ (decide ((300 : Nat) < weight x.bs) = false → (↑x.s.signed.length : Int) ≤ (9223372036854775807 : Int) → (decide ((↑x.s.signed.length : Int) >
  (300 : Int)) = true → True ∧ True ∧ True ∧ true = true ∧ True ∧ True) ∧ (decide ((↑x.s.signed.length : Int) > (300 : Int)) = false → (weight x.bs).le
  (300 : Nat) ∧ (x.bs = x.bs ∧ True) ∧ True ∧ True ∧ x.bs.length.le (9223372036854775807 : Nat) ∧ ((checkN x.bs == bif fineB x.bs then (0 : Int) else (1
  : Int)) = true → (weight x.bs).le (300 : Nat) ∧ ((x.bs = x.bs ∧ True) ∧ x.br = x.br ∧ x.s.signed = x.s.signed ∧ x.s.secret = x.s.secret ∧ x.s.height =
  x.s.height ∧ x.s.age = x.s.age ∧ True) ∧ True ∧ Bytes x.s.secret ∧ ((x.bs = x.bs ∧ True) ∧ x.br = x.br ∧ x.s.signed = x.s.signed ∧ x.s.secret =
  x.s.secret ∧ x.s.height = x.s.height ∧ x.s.age = x.s.age ∧ True) ∧ True ∧ (Bytes x.s.secret ∧ x.bs.length ≤ (9223372036854775807 : Nat) ∧
  x.s.signed.length ≤ (9223372036854775807 : Nat)) ∧ ((opensB x.bs x.br (Sn.mk x.s.signed x.s.secret x.s.height x.s.age) == opensB x.bs x.br (Sn.mk
  x.s.signed x.s.secret x.s.height x.s.age)) = true → x.s.secret = x.s.secret ∧ True ∧ Bytes x.s.secret ∧ x.s.secret = x.s.secret ∧ True ∧ Bytes
  x.s.secret ∧ ((sumB orderL x.s.secret == sumB orderL x.s.secret) = true → True ∧ True ∧ True ∧ true = true ∧ True ∧ True) ∧ ((sumB orderL x.s.secret ==
  sumB orderL x.s.secret) = false → true = false ∧ True ∧ True)) ∧ ((opensB x.bs x.br (Sn.mk x.s.signed x.s.secret x.s.height x.s.age) == opensB x.bs
  x.br (Sn.mk x.s.signed x.s.secret x.s.height x.s.age)) = false → true = false ∧ True ∧ True)) ∧ ((checkN x.bs == bif fineB x.bs then (0 : Int) else (1
  : Int)) = false → true = false ∧ True ∧ True)))

theorem opensLaw_eq : opensLawVC = fnS E49 f3 (bodyOf f3) opensLawLS noAnn := by kernel_rfl
theorem opensLaw_vc : opensLawVC := by
  rintro ⟨bs, br, s⟩ ⟨hw, hb, hn⟩
  simp only at hw hb hn
  have hbl : bs.length ≤ 9223372036854775807 := by
    unfold weight at hw; omega
  have hcf : checkN bs = bif fineB bs then 0 else 1 := rfl
  simp only [and_true, true_and, decide_eq_true_eq, decide_eq_false_iff_not, beq_self_eq_true, hcf, Bool.true_eq_false, false_implies, implies_true]
  exact ⟨hw, fun h _ h2 => ⟨Nat.le_of_not_lt h, hbl, fun _ => ⟨Nat.le_of_not_lt h, hb, ⟨hb, hbl, by omega⟩, fun _ => ⟨hb, hb⟩⟩⟩⟩
theorem opensLaw_ok : Fits E49 f3 (bodyOf f3) opensLawLS noAnn := by
  constructor
  rw [← opensLaw_eq]
  exact opensLaw_vc
theorem f3_has : Has prog 3 f3 (bodyOf f3) := ⟨by kernel_rfl, by kernel_rfl, by kernel_rfl⟩
end Go.Proofs.YtcglahfmnoghjaaDoor

/-! What the readings of a Seen and of numbers come to; CondOpens' call. Conditions: none. -/
namespace Go.Proofs.YtcglahfmnoghjaaDoor
open Go Go.Eng Go.Proofs.Tryd Go.ChangeShapes Go.WideShapes Go.RowKit

theorem cells26 : prog.cellsOf 26 = 1 := by kernel_rfl
theorem cells28 : prog.cellsOf 28 = 4 := by kernel_rfl
theorem wf8 {x : Int} (h : (Lit.int .u8 x).wf = true) : 0 ≤ x ∧ x < 256 := by
  simp only [Lit.wf, Bool.and_eq_true, decide_eq_true_eq] at h
  have h1 : IntKind.u8.min = 0 := rfl
  have h2 : IntKind.u8.max = 255 := rfl
  omega
theorem wf64 {x : Int} (h : (Lit.int .i64 x).wf = true) : -9223372036854775808 ≤ x := by
  simp only [Lit.wf, Bool.and_eq_true, decide_eq_true_eq] at h
  exact h.1
theorem int_of_ok {P : Program} {W : World} {r : Reach} {base : Nat} {t : TypeId} {k : IntKind} (ht : P.underlying t = some (.int k)) {v : Value} (h : Value.okWide P W r base t v) : ∃ n, v = .int k n := by
  unfold Value.okWide at h
  rw [ht] at h
  change Cell.okWide P W r base t v at h
  cases v with
  | int k' n =>
    simp only [Cell.okWide, Cell.ok, ht] at h
    exact ⟨n, by rw [h.1]⟩
  | _ => simp [Cell.okWide, Cell.ok, ht] at h
section
variable {H : Type} {enc : TypeId × Value → H} {w : World} {sp : Nat → Bool} {held : Bool}
structure SnIs (s : Sn) (n : Nat) : Prop where
  bytes : ∀ y, y ∈ s.secret → 0 ≤ y ∧ y < 256
  len : s.signed.length + s.secret.length ≤ n
  height : -9223372036854775808 ≤ s.height
  age : -9223372036854775808 ≤ s.age
theorem rd_seen_of {P : Program} {tS tK tB tI tE : TypeId} {fs : Array Field} {C : Enc AA} (hS : P.underlying tS = some (.struct fs))
    (hfs : fs.toList.map (fun f => (f.type, f.offset)) = [(tK, 0), (tB, 1), (tI, 2), (tI, 3)]) (hK : P.underlying tK = some (.slice tI)) (hI : P.underlying tI = some (.int .i64)) (hB : P.underlying tB = some (.slice tE)) (hE : P.underlying tE = some (.int .u8))
    (cS : P.cellsOf tS = 4) (cK : P.cellsOf tK = 1) (cI : P.cellsOf tI = 1) (cB : P.cellsOf tB = 1) (cE : P.cellsOf tE = 1) :
    RdT enc P w sp held C tS fun sl d => ∃ s : Sn, sl = snSL s ∧ SnIs s (Rows.uptoBulk d) := by
  match hl : fs.toList, hfs with
  | [f1, f2, f3, f4], hfs =>
    simp only [List.map_cons, List.map_nil, List.cons.injEq, Prod.mk.injEq, and_true] at hfs
    obtain ⟨⟨t1, o1⟩, ⟨t2, o2⟩, ⟨t3, o3⟩, t4, o4⟩ := hfs
    refine RdT.mono (rd_struct hS (by
      rw [hl]
      exact rd_fs_cons o1 (by rw [t1]; exact rd_ints hK hI cI) (rd_fs_cons (by rw [t1, cK, o2]) (by rw [t2]; exact rd_ints hB hE cE)
        (rd_fs_cons (by rw [t1, t2, cK, cB, o3]) (by rw [t3]; exact rd_int hI) (rd_fs_cons (by rw [t1, t2, t3, cK, cB, cI, o4]) (by rw [t4]; exact rd_int hI) (rd_fs_nil (by rw [t1, t2, t3, t4, cK, cB, cI, cS]; omega))))))) ?_
    rintro sl d ⟨ds, rfl, s1, s2, d1, ds1, rfl, rfl, ⟨ks, rfl, h1, h2⟩, s3, s4, d2, ds2, rfl, rfl, ⟨lk, rfl, h3, h4⟩, s5, s6, d3, ds3, rfl, rfl, ⟨af, rfl, h5⟩, s7, s8, d4, ds4, rfl, rfl, ⟨ol, rfl, h6⟩, rfl, rfl⟩
    refine ⟨⟨ks, lk, af, ol⟩, rfl, fun y hy => wf8 (h4 y hy), ?_, wf64 h5, wf64 h6⟩
    have := delems_le d1
    have := delems_le d2
    simp only [Rows.uptoBulk, Rows.uptoBulkAll]
    omega
  | [], hfs => simp at hfs
  | [_], hfs => simp at hfs
  | [_, _], hfs => simp at hfs
  | [_, _, _], hfs => simp at hfs
  | _ :: _ :: _ :: _ :: _ :: _, hfs => simp at hfs
theorem rd_seen : RdT enc prog w sp held CC 28 fun sl d => ∃ s : Sn, sl = snSL s ∧ SnIs s (Rows.uptoBulk d) :=
  rd_seen_of underlying28 rfl underlying25 underlying3 underlying26 underlying5 cells28 cells25 cells3 cells26 cells5
end
theorem opens_calls {W : World} {vs : List Value} {x : OpX} (hx : x.Ok) (ha : ArgsR NoO [] W CC [.agg (.cell (.rseq 48 x.bs) .nil), .int .i64 x.br, .agg (snSL x.s)] vs) (hg : Glob GG NoO [] W CC) :
    Calls prog 3 vs.toArray W fun e W' => e = .returned (.bool true) ∧ Below W.heap.size W W' := by
  have hS : Sound E49 := by rw [E49_eq]; exact sound mixed known49
  exact law_calls (ee_P E49_eq) hS f3_has opensLaw_ok x hx rfl rfl (fun _ _ => Nat.le_refl _) (by rw [ee_C E49_eq]; exact ha) (by rw [ee_GL E49_eq, ee_C E49_eq]; exact hg)
end Go.Proofs.YtcglahfmnoghjaaDoor

/-! Numbers laid as bytes, by the program and by the document: what is said of them. Conditions: none. -/
namespace Go.Proofs.YtcglahfmnoghjaaDoor
open Go Go.Eng Go.Proofs.Tryd

/-- A number's bytes, the highest first. -/
def digsF : Nat → Nat → List Int
  | 0, _ => []
  | f + 1, n => if n = 0 then [] else digsF f (n / 256) ++ [((n % 256 : Nat) : Int)]
def digs (n : Int) : List Int := digsF 8 n.toNat
/-- .. behind their count. -/
def uintB (n : Int) : List Int := ((digs n).length : Int) :: digs n
structure U64 (n : Int) : Prop where
  lo : 0 ≤ n
  hi : n < 18446744073709551616
def bitlen (n : Nat) : Nat := if n = 0 then 0 else n.log2 + 1

def len64LS : LS AA where
  X := Int
  pre := U64
  args := fun n => [.int .u64 n]
  hin := fun _ => []
  res := fun n => [.int .i64 (bitlen n.toNat : Nat)]
  hout := fun _ => []
def asU : SV AA → Option Int
  | .int .u64 n => some n
  | .lit .u64 n => some n
  | _ => none
def u64Get (args : List (SV AA)) (_ : List (SO AA)) : Option Int := match args with
  | [s] => asU s
  | _ => none
def L60 : List (Nat × SpecT AA) := (128, tLent len64LS u64Get) :: L49
noncomputable def E60 : Eng AA := EE prog L60
theorem E60_eq : E60 = EE prog L60 := by
  unfold E60
  rfl
def widthLS : LS AA where
  X := Int
  pre := U64
  args := fun n => [.int .u64 n]
  hin := fun _ => []
  res := fun n => [.int .i64 ((digs n).length : Nat)]
  hout := fun _ => []
def L61 : List (Nat × SpecT AA) := (98, tLent widthLS u64Get) :: L60
noncomputable def E61 : Eng AA := EE prog L61
theorem E61_eq : E61 = EE prog L61 := by
  unfold E61
  rfl
structure BN where
  xs : List Int
  n : Int
structure BN.Ok (x : BN) : Prop where
  len : x.xs.length ≤ 1099511627776
  n : U64 x.n
structure BN.Low (x : BN) : Prop where
  len : x.xs.length ≤ 1000000000000
  n : U64 x.n
/-- The bytes laid behind others, unturned. -/
def highLS : LS AA where
  X := BN
  pre := BN.Ok
  args := fun x => [.vec 0, .int .u64 x.n, .lit .u8 0]
  hin := fun x => [.ivec 5 .u8 x.xs]
  res := fun _ => [.vec 1]
  hout := fun x => [.dead, .ivec 5 .u8 (x.xs ++ digs x.n)]
def highGet (args : List (SV AA)) (sh : List (SO AA)) : Option BN := match args with
  | [s, n, _] => match gI .u8 sh s, asU n with
    | some xs, some n => some ⟨xs, n⟩
    | _, _ => none
  | _ => none
def highAnn (x : BN) : Anns AA := fun _ _ _ => some {
  X := Nat
  inv := fun i => i ≤ (digs x.n).length
  meas := fun i => (digs x.n).length - i
  slots := fun i => [(0, .vec 1), (7, .int .i64 ((digs x.n).length - 1 - i : Int))]
  heap := fun _ => [(0, .dead)]
  more := fun i => [.ivec 5 .u8 (x.xs ++ (digs x.n).take i)] }
def L62 : List (Nat × SpecT AA) := (97, tLent highLS highGet) :: L61
noncomputable def E62 : Eng AA := EE prog L62
theorem E62_eq : E62 = EE prog L62 := by
  unfold E62
  rfl
/-! ## The writer -/
def wcell (i : Nat) : SO AA := .cells 164 (.cell (.vec i) .nil)
def newLS : LS AA where
  X := Unit
  pre := fun _ => True
  args := fun _ => []
  hin := fun _ => []
  res := fun _ => [.ptr 0 0]
  hout := fun _ => [.cells 164 (.cell (.val (.slice none 0 0)) .nil)]
def newGet (args : List (SV AA)) (_ : List (SO AA)) : Option Unit := match args with
  | [] => some ()
  | _ => none
def L63 : List (Nat × SpecT AA) := (56, tLent newLS newGet) :: L62
noncomputable def E63 : Eng AA := EE prog L63
theorem E63_eq : E63 = EE prog L63 := by
  unfold E63
  rfl
def wUintLS : LS AA where
  X := BN
  pre := BN.Low
  args := fun x => [.ptr 0 0, .int .u64 x.n]
  hin := fun x => [wcell 1, .ivec 5 .u8 x.xs]
  res := fun _ => [.ptr 0 0]
  hout := fun x => [wcell 2, .dead, .ivec 5 .u8 (x.xs ++ uintB x.n)]
/-- What a writer has laid. -/
def lineOf (sh : List (SO AA)) : SV AA → Option (List Int)
  | .ptr i _ => match nth sh i with
    | some (.cells _ (.cell s .nil)) => gI .u8 sh s
    | _ => none
  | _ => none
def wUintGet (args : List (SV AA)) (sh : List (SO AA)) : Option BN := match args with
  | [w, n] => match lineOf sh w, asU n with
    | some xs, some n => some ⟨xs, n⟩
    | _, _ => none
  | _ => none
def L64 : List (Nat × SpecT AA) := (57, tLent wUintLS wUintGet) :: L63
noncomputable def E64 : Eng AA := EE prog L64
theorem E64_eq : E64 = EE prog L64 := by
  unfold E64
  rfl
structure BH where
  xs : List Int
  h : List Int
structure BH.Ok (x : BH) : Prop where
  len : x.xs.length ≤ 1099511627776
  h : x.h.length = 32
def wHashLS : LS AA where
  X := BH
  pre := BH.Ok
  args := fun x => [.ptr 0 0, .agg (.run .u8 32 x.h .nil)]
  hin := fun x => [wcell 1, .ivec 5 .u8 x.xs]
  res := fun _ => [.ptr 0 0]
  hout := fun x => [wcell 2, .dead, .ivec 5 .u8 (x.xs ++ x.h)]
def asH : SV AA → Option (List Int)
  | .agg (.run .u8 _ h .nil) => some h
  | _ => none
def wHashGet (args : List (SV AA)) (sh : List (SO AA)) : Option BH := match args with
  | [w, h] => match lineOf sh w, asH h with
    | some xs, some h => some ⟨xs, h⟩
    | _, _ => none
  | _ => none
def L65 : List (Nat × SpecT AA) := (58, tLent wHashLS wHashGet) :: L64
noncomputable def E65 : Eng AA := EE prog L65
theorem E65_eq : E65 = EE prog L65 := by
  unfold E65
  rfl
def cloneULS : LS AA where
  X := List Int
  pre := fun xs => xs.length ≤ 1099511627776
  args := fun xs => [.rints .u8 xs]
  hin := fun _ => []
  res := fun _ => [.vec 0]
  hout := fun xs => [.ivec 5 .u8 xs]
def u8sGet (args : List (SV AA)) (sh : List (SO AA)) : Option (List Int) := match args with
  | [s] => gI .u8 sh s
  | _ => none
def L66 : List (Nat × SpecT AA) := (100, tLent cloneULS u8sGet) :: L65
noncomputable def E66 : Eng AA := EE prog L66
theorem E66_eq : E66 = EE prog L66 := by
  unfold E66
  rfl
def wDoneLS : LS AA where
  X := List Int
  pre := fun xs => xs.length ≤ 1099511627776
  args := fun _ => [.ptr 0 0]
  hin := fun xs => [wcell 1, .ivec 5 .u8 xs]
  res := fun _ => [.vec 2]
  hout := fun xs => [wcell 1, .ivec 5 .u8 xs, .ivec 5 .u8 xs]
def wDoneGet (args : List (SV AA)) (sh : List (SO AA)) : Option (List Int) := match args with
  | [w] => lineOf sh w
  | _ => none
def L67 : List (Nat × SpecT AA) := (60, tLent wDoneLS wDoneGet) :: L66
noncomputable def E67 : Eng AA := EE prog L67
theorem E67_eq : E67 = EE prog L67 := by
  unfold E67
  rfl
/-- Room for so many, behind nothing. -/
def growLS : LS AA where
  X := Int
  pre := fun n => 0 ≤ n ∧ n ≤ 1099511627776
  args := fun n => [.val (.slice none 0 0), .int .i64 n]
  hin := fun _ => []
  res := fun _ => [.vec 0]
  hout := fun _ => [.ivec 5 .u8 []]
def growGet (args : List (SV AA)) (_ : List (SO AA)) : Option Int := match args with
  | [_, n] => asI n
  | _ => none
def L68 : List (Nat × SpecT AA) := (99, tLent growLS growGet) :: L67
noncomputable def E68 : Eng AA := EE prog L68
theorem E68_eq : E68 = EE prog L68 := by
  unfold E68
  rfl
def flat : List (List Int) → List Int
  | [] => []
  | x :: l => x ++ flat l
structure LL (l : List (List Int)) : Prop where
  n : l.length ≤ 1000
  len : (flat l).length ≤ 1099511627776
def concatLS : LS AA where
  X := List (List Int)
  pre := LL
  args := fun l => [.rseq 26 (show List (AA 26) from l)]
  hin := fun _ => []
  res := fun _ => [.vec 0]
  hout := fun l => [.ivec 5 .u8 (flat l)]
def concatGet (args : List (SV AA)) (sh : List (SO AA)) : Option (List (List Int)) := match args with
  | [s] => seqOfS 26 sh s
  | _ => none
def concatAnn (l : List (List Int)) : Anns AA := fun k _ _ => if k = 4 then some {
    X := Nat
    inv := fun i => i ≤ l.length
    meas := fun i => l.length - i
    slots := fun i => [(11, .int .i64 i), (3, .int .i64 ((flat (l.take i)).length : Nat))]
    heap := fun _ => [] }
  else some {
    X := Nat
    inv := fun i => i ≤ l.length
    meas := fun i => l.length - i
    slots := fun i => [(27, .int .i64 i), (6, .vec 1)]
    heap := fun _ => [(0, .dead)]
    more := fun i => [.ivec 5 .u8 (flat (l.take i))] }
def L69 : List (Nat × SpecT AA) := (59, tLent concatLS concatGet) :: L68
noncomputable def E69 : Eng AA := EE prog L69
theorem E69_eq : E69 = EE prog L69 := by
  unfold E69
  rfl
/-! ## The document's -/
def digitsLS : LS AA where
  X := Int
  pre := U64
  args := fun n => [.int .u64 n]
  hin := fun _ => []
  res := fun n => [.rints .u8 (digs n)]
  hout := fun _ => []
def digitsAnn (n : Int) : Anns AA := fun _ _ _ => some {
  X := Nat
  inv := fun i => i ≤ (digs n).length
  meas := fun i => (digs n).length - i
  slots := fun i => [(0, .int .u64 ((n.toNat / 256 ^ i : Nat) : Int)), (3, .rints .u8 ((digs n).drop ((digs n).length - i)))]
  heap := fun _ => [] }
def L70 : List (Nat × SpecT AA) := (101, tLent digitsLS u64Get) :: L69
noncomputable def E70 : Eng AA := EE prog L70
theorem E70_eq : E70 = EE prog L70 := by
  unfold E70
  rfl
def ownULS : LS AA where
  X := List Int
  pre := fun xs => xs.length ≤ 1099511627776
  args := fun xs => [.rints .u8 xs]
  hin := fun _ => []
  res := fun _ => [.vec 0]
  hout := fun xs => [.ivec 5 .u8 xs]
def L71 : List (Nat × SpecT AA) := (102, tLent ownULS u8sGet) :: L70
noncomputable def E71 : Eng AA := EE prog L71
theorem E71_eq : E71 = EE prog L71 := by
  unfold E71
  rfl
def rUintLS : LS AA where
  X := BN
  pre := BN.Low
  args := fun x => [.rints .u8 x.xs, .int .u64 x.n]
  hin := fun _ => []
  res := fun _ => [.vec 0]
  hout := fun x => [.ivec 5 .u8 (x.xs ++ uintB x.n)]
def rUintGet (args : List (SV AA)) (sh : List (SO AA)) : Option BN := match args with
  | [s, n] => match gI .u8 sh s, asU n with
    | some xs, some n => some ⟨xs, n⟩
    | _, _ => none
  | _ => none
def L72 : List (Nat × SpecT AA) := (61, tLent rUintLS rUintGet) :: L71
noncomputable def E72 : Eng AA := EE prog L72
theorem E72_eq : E72 = EE prog L72 := by
  unfold E72
  rfl
def rHashLS : LS AA where
  X := BH
  pre := BH.Ok
  args := fun x => [.rints .u8 x.xs, .agg (.run .u8 32 x.h .nil)]
  hin := fun _ => []
  res := fun _ => [.vec 0]
  hout := fun x => [.ivec 5 .u8 (x.xs ++ x.h)]
def rHashGet (args : List (SV AA)) (sh : List (SO AA)) : Option BH := match args with
  | [s, h] => match gI .u8 sh s, asH h with
    | some xs, some h => some ⟨xs, h⟩
    | _, _ => none
  | _ => none
def L73 : List (Nat × SpecT AA) := (62, tLent rHashLS rHashGet) :: L72
noncomputable def E73 : Eng AA := EE prog L73
theorem E73_eq : E73 = EE prog L73 := by
  unfold E73
  rfl
end Go.Proofs.YtcglahfmnoghjaaDoor

/-! Numbers laid as bytes: plain laws; what was said of the program and of the document holds. Conditions: none. -/
namespace Go.Proofs.YtcglahfmnoghjaaDoor
open Go Go.Eng Go.Proofs.Tryd

def tabL : List UInt8 := (([(0 : UInt8), (1 : UInt8), (2 : UInt8), (2 : UInt8), (3 : UInt8), (3 : UInt8), (3 : UInt8), (3 : UInt8), (4 : UInt8), (4 : UInt8), (4 : UInt8), (4 :
  UInt8), (4 : UInt8), (4 : UInt8), (4 : UInt8), (4 : UInt8), (5 : UInt8), (5 : UInt8), (5 : UInt8), (5 : UInt8), (5 : UInt8), (5 : UInt8), (5 : UInt8),
  (5 : UInt8), (5 : UInt8), (5 : UInt8), (5 : UInt8), (5 : UInt8), (5 : UInt8), (5 : UInt8), (5 : UInt8), (5 : UInt8), (6 : UInt8), (6 : UInt8), (6 :
  UInt8), (6 : UInt8), (6 : UInt8), (6 : UInt8), (6 : UInt8), (6 : UInt8), (6 : UInt8), (6 : UInt8), (6 : UInt8), (6 : UInt8), (6 : UInt8), (6 : UInt8),
  (6 : UInt8), (6 : UInt8), (6 : UInt8), (6 : UInt8), (6 : UInt8), (6 : UInt8), (6 : UInt8), (6 : UInt8), (6 : UInt8), (6 : UInt8), (6 : UInt8), (6 :
  UInt8), (6 : UInt8), (6 : UInt8), (6 : UInt8), (6 : UInt8), (6 : UInt8), (6 : UInt8)].append [(7 : UInt8), (7 : UInt8), (7 : UInt8), (7 : UInt8), (7 :
  UInt8), (7 : UInt8), (7 : UInt8), (7 : UInt8), (7 : UInt8), (7 : UInt8), (7 : UInt8), (7 : UInt8), (7 : UInt8), (7 : UInt8), (7 : UInt8), (7 : UInt8),
  (7 : UInt8), (7 : UInt8), (7 : UInt8), (7 : UInt8), (7 : UInt8), (7 : UInt8), (7 : UInt8), (7 : UInt8), (7 : UInt8), (7 : UInt8), (7 : UInt8), (7 :
  UInt8), (7 : UInt8), (7 : UInt8), (7 : UInt8), (7 : UInt8), (7 : UInt8), (7 : UInt8), (7 : UInt8), (7 : UInt8), (7 : UInt8), (7 : UInt8), (7 : UInt8),
  (7 : UInt8), (7 : UInt8), (7 : UInt8), (7 : UInt8), (7 : UInt8), (7 : UInt8), (7 : UInt8), (7 : UInt8), (7 : UInt8), (7 : UInt8), (7 : UInt8), (7 :
  UInt8), (7 : UInt8), (7 : UInt8), (7 : UInt8), (7 : UInt8), (7 : UInt8), (7 : UInt8), (7 : UInt8), (7 : UInt8), (7 : UInt8), (7 : UInt8), (7 : UInt8),
  (7 : UInt8), (7 : UInt8)]).append ([(8 : UInt8), (8 : UInt8), (8 : UInt8), (8 : UInt8), (8 : UInt8), (8 : UInt8), (8 : UInt8), (8 : UInt8), (8 :
  UInt8), (8 : UInt8), (8 : UInt8), (8 : UInt8), (8 : UInt8), (8 : UInt8), (8 : UInt8), (8 : UInt8), (8 : UInt8), (8 : UInt8), (8 : UInt8), (8 : UInt8),
  (8 : UInt8), (8 : UInt8), (8 : UInt8), (8 : UInt8), (8 : UInt8), (8 : UInt8), (8 : UInt8), (8 : UInt8), (8 : UInt8), (8 : UInt8), (8 : UInt8), (8 :
  UInt8), (8 : UInt8), (8 : UInt8), (8 : UInt8), (8 : UInt8), (8 : UInt8), (8 : UInt8), (8 : UInt8), (8 : UInt8), (8 : UInt8), (8 : UInt8), (8 : UInt8),
  (8 : UInt8), (8 : UInt8), (8 : UInt8), (8 : UInt8), (8 : UInt8), (8 : UInt8), (8 : UInt8), (8 : UInt8), (8 : UInt8), (8 : UInt8), (8 : UInt8), (8 :
  UInt8), (8 : UInt8), (8 : UInt8), (8 : UInt8), (8 : UInt8), (8 : UInt8), (8 : UInt8), (8 : UInt8), (8 : UInt8), (8 : UInt8)].append [(8 : UInt8), (8 :
  UInt8), (8 : UInt8), (8 : UInt8), (8 : UInt8), (8 : UInt8), (8 : UInt8), (8 : UInt8), (8 : UInt8), (8 : UInt8), (8 : UInt8), (8 : UInt8), (8 : UInt8),
  (8 : UInt8), (8 : UInt8), (8 : UInt8), (8 : UInt8), (8 : UInt8), (8 : UInt8), (8 : UInt8), (8 : UInt8), (8 : UInt8), (8 : UInt8), (8 : UInt8), (8 :
  UInt8), (8 : UInt8), (8 : UInt8), (8 : UInt8), (8 : UInt8), (8 : UInt8), (8 : UInt8), (8 : UInt8), (8 : UInt8), (8 : UInt8), (8 : UInt8), (8 : UInt8),
  (8 : UInt8), (8 : UInt8), (8 : UInt8), (8 : UInt8), (8 : UInt8), (8 : UInt8), (8 : UInt8), (8 : UInt8), (8 : UInt8), (8 : UInt8), (8 : UInt8), (8 :
  UInt8), (8 : UInt8), (8 : UInt8), (8 : UInt8), (8 : UInt8), (8 : UInt8), (8 : UInt8), (8 : UInt8), (8 : UInt8), (8 : UInt8), (8 : UInt8), (8 : UInt8),
  (8 : UInt8), (8 : UInt8), (8 : UInt8), (8 : UInt8), (8 : UInt8)]))
def tab8 : ByteArray := ByteArray.mk tabL.toArray

/-! ## Plain laws -/
theorem bitlen_le (n k : Nat) : bitlen n ≤ k ↔ n < 2 ^ k := by
  unfold bitlen
  split
  · rename_i h
    subst h
    exact ⟨fun _ => Nat.two_pow_pos k, fun _ => Nat.zero_le _⟩
  · rename_i h
    exact Nat.log2_lt h
theorem bitlen_shift {n k : Nat} (h : n / 2 ^ k ≠ 0) : bitlen n = bitlen (n / 2 ^ k) + k := by
  have key : ∀ j, bitlen n ≤ j ↔ bitlen (n / 2 ^ k) + k ≤ j := by
    intro j
    rw [bitlen_le]
    rcases Nat.lt_or_ge j k with hj | hj
    · constructor
      · intro h1
        exact absurd (Nat.div_eq_of_lt (Nat.lt_of_lt_of_le h1 (Nat.pow_le_pow_right (by decide) (Nat.le_of_lt hj)))) h
      · intro h1; omega
    · obtain ⟨i, rfl⟩ : ∃ i, j = i + k := ⟨j - k, by omega⟩
      rw [Nat.add_le_add_iff_right, bitlen_le, Nat.div_lt_iff_lt_mul (Nat.two_pow_pos k), Nat.pow_add]
  have h1 := (key (bitlen (n / 2 ^ k) + k)).2 (Nat.le_refl _)
  have h2 := (key (bitlen n)).1 (Nat.le_refl _)
  omega
theorem bitlen_zero : bitlen 0 = 0 := rfl
theorem bitlen_pos {n : Nat} (h : n ≠ 0) : 1 ≤ bitlen n := by
  unfold bitlen
  rw [if_neg h]
  omega
theorem digsF_len : ∀ (f n : Nat), n < 256 ^ f → (digsF f n).length = (bitlen n + 7) / 8
  | 0, n, h => by
    have h0 : n = 0 := by simpa using h
    subst h0
    rfl
  | f + 1, n, h => by
    unfold digsF
    split
    · rename_i h0
      subst h0
      rfl
    · rename_i h0
      rw [List.length_append, digsF_len f (n / 256) (by rw [Nat.pow_succ] at h; exact Nat.div_lt_of_lt_mul (by rw [Nat.mul_comm]; exact h)), List.length_singleton]
      by_cases h1 : n / 256 = 0
      · have h2 : bitlen n ≤ 8 := (bitlen_le n 8).2 (by omega)
        have h3 := bitlen_pos h0
        rw [h1, bitlen_zero]
        omega
      · have h2 := bitlen_shift (n := n) (k := 8) (by simpa using h1)
        simp only [Nat.reducePow] at h2
        omega
theorem digsF_get : ∀ (f n i : Nat), n < 256 ^ f → i < (digsF f n).length → (digsF f n).getD i 0 = ((n / 256 ^ ((digsF f n).length - 1 - i) % 256 : Nat) : Int)
  | 0, n, i, h, hi => by simp [digsF] at hi
  | f + 1, n, i, h, hi => by
    unfold digsF at hi ⊢
    split at hi
    · simp at hi
    · rename_i h0
      rw [if_neg h0]
      have hn : n / 256 < 256 ^ f := by rw [Nat.pow_succ] at h; exact Nat.div_lt_of_lt_mul (by rw [Nat.mul_comm]; exact h)
      have ih := digsF_get f (n / 256) i hn
      generalize digsF f (n / 256) = D at hi ih ⊢
      simp only [List.length_append, List.length_singleton] at hi ⊢
      rw [List.getD_eq_getElem?_getD]
      rcases Nat.lt_or_ge i D.length with hd | hd
      · rw [List.getElem?_append_left hd, ← List.getD_eq_getElem?_getD, ih hd, Nat.div_div_eq_div_mul, ← Nat.pow_succ', show D.length + 1 - 1 - i = D.length - 1 - i + 1 from by omega]
      · have e : i = D.length := by omega
        subst e
        rw [List.getElem?_append_right (Nat.le_refl _)]
        simp
theorem u64_lt {n : Int} (h : U64 n) : n.toNat < 256 ^ 8 := by
  have h1 := h.lo
  have h2 := h.hi
  have e : (256 : Nat) ^ 8 = 18446744073709551616 := by decide
  rw [e]
  omega
theorem digs_len {n : Int} (h : U64 n) : (digs n).length = (bitlen n.toNat + 7) / 8 := digsF_len 8 _ (u64_lt h)
theorem digs_le {n : Int} (h : U64 n) : (digs n).length ≤ 8 := by
  rw [digs_len h]
  have h1 := u64_lt h
  have : bitlen n.toNat ≤ 64 := (bitlen_le _ 64).2 (by simpa using h1)
  omega
theorem digs_get {n : Int} (h : U64 n) {i : Nat} (hi : i < (digs n).length) : (digs n).getD i 0 = ((n.toNat / 256 ^ ((digs n).length - 1 - i) % 256 : Nat) : Int) := digsF_get 8 _ i (u64_lt h) hi
theorem pow256 (i : Nat) : 256 ^ i = 2 ^ (8 * i) := by
  rw [Nat.pow_mul]
theorem digs_lt {n : Int} (h : U64 n) (i : Nat) : i < (digs n).length ↔ 0 < n.toNat / 256 ^ i := by
  rw [digs_len h, pow256]
  have h1 := bitlen_le n.toNat (8 * i)
  have h2 := Nat.div_pos_iff (a := n.toNat) (b := 2 ^ (8 * i))
  have h3 := Nat.two_pow_pos (8 * i)
  constructor
  · intro h4
    refine h2.2 ⟨h3, ?_⟩
    have h5 : ¬ bitlen n.toNat ≤ 8 * i := by omega
    rw [h1] at h5
    omega
  · intro h4
    have h5 := (h2.1 h4).2
    have h6 : ¬ n.toNat < 2 ^ (8 * i) := by omega
    rw [← h1] at h6
    omega
theorem digs_byte {n : Int} {y : Int} (h : y ∈ digs n) : 0 ≤ y ∧ y < 256 := by
  have key : ∀ (f n : Nat) (y : Int), y ∈ digsF f n → 0 ≤ y ∧ y < 256 := by
    intro f
    induction f with
    | zero => intro n y h; simp [digsF] at h
    | succ f ih =>
      intro n y h
      unfold digsF at h
      split at h
      · simp at h
      · rcases List.mem_append.1 h with h | h
        · exact ih _ _ h
        · simp only [List.mem_singleton] at h
          omega
  exact key 8 _ _ h
theorem shr_nat (m k : Nat) (hk : k ≤ 64) : shr .u64 (m : Int) (k : Int) = ((m / 2 ^ k : Nat) : Int) := by
  unfold shr
  have e : min (k : Int).toNat IntKind.u64.bits = k := by
    simp only [Int.toNat_natCast]
    exact Nat.min_eq_left hk
  rw [e, Int.fdiv_eq_ediv_of_nonneg _ (Int.le_of_lt (Int.pow_pos (by decide)))]
  rw [Int.natCast_ediv, Int.natCast_pow]
  rfl
theorem xor_zero {x : Int} (h1 : 0 ≤ x) (h2 : x < 256) : bitop .xor .u8 x 0 = x := by
  have e : BitVec.ofInt 8 (0 : Int) = 0#8 := by decide
  show IntKind.u8.wrap (BitVec.ofInt 8 x ^^^ BitVec.ofInt 8 0).toNat = x
  rw [e, BitVec.xor_zero, BitVec.toNat_ofInt, IntKind.wrap_u8]
  omega

/-! ## The walks -/
theorem tab_at : ∀ j, j < 256 → (tabL.getD j 0).toNat = bitlen j := of_decide_eq_true (by kernel_rfl)
theorem tab_size : tab8.size = 256 := by kernel_rfl
theorem len_leaf {q c b : Nat} (hq : q < 256) (hc : c ≤ 56) (hb : b = c + bitlen q) {cI : Int} (hcI : cI = (c : Int)) :
    (0 : Int) ≤ wr .u8 (q : Int) ∧ wr .u8 (q : Int) < ((tab8.size : Nat) : Int) ∧ inI64 (cI + wr .i64 (((tabL.getD (wr .u8 (q : Int)).toNat 0).toNat : Nat) : Int)) ∧
      ((b : Nat) : Int) = cI + wr .i64 (((tabL.getD (wr .u8 (q : Int)).toNat 0).toNat : Nat) : Int) ∧ True ∧ True := by
  have e : wr .u8 (q : Int) = q := by rw [wr8]; omega
  have h8 : bitlen q ≤ 8 := (bitlen_le q 8).2 hq
  rw [e, Int.toNat_natCast, tab_at q hq, tab_size, wr64 (by unfold inI64; omega)]
  exact ⟨by omega, by omega, by unfold inI64; omega, by omega, trivial, trivial⟩
def len64VC : Prop := ∀ (x : Int), U64 x → (decide (x ≥ (4294967296 : Int)) = true → (0 : Int) ≤ (32 : Int) ∧ (decide (shr IntKind.u64 x (32 : Int) ≥ (65536 : Int)) = true →
  (0 : Int) ≤ (16 : Int) ∧ (decide (shr IntKind.u64 (shr IntKind.u64 x (32 : Int)) (16 : Int) ≥ (256 : Int)) = true → (0 : Int) ≤ (8 : Int) ∧ (0 : Int) ≤
  wr IntKind.u8 (shr IntKind.u64 (shr IntKind.u64 (shr IntKind.u64 x (32 : Int)) (16 : Int)) (8 : Int)) ∧ wr IntKind.u8 (shr IntKind.u64 (shr IntKind.u64
  (shr IntKind.u64 x (32 : Int)) (16 : Int)) (8 : Int)) < (↑tab8.size : Int) ∧ inI64 (wr IntKind.i64 (wr IntKind.i64 ((32 : Int) + (16 : Int)) + (8 :
  Int)) + wr IntKind.i64 (↑(tabL.getD (wr IntKind.u8 (shr IntKind.u64 (shr IntKind.u64 (shr IntKind.u64 x (32 : Int)) (16 : Int)) (8 : Int))).toNat (0 :
  UInt8)).toNat : Int)) ∧ (↑(bitlen x.toNat) : Int) = wr IntKind.i64 (wr IntKind.i64 ((32 : Int) + (16 : Int)) + (8 : Int)) + wr IntKind.i64 (↑(tabL.getD
  (wr IntKind.u8 (shr IntKind.u64 (shr IntKind.u64 (shr IntKind.u64 x (32 : Int)) (16 : Int)) (8 : Int))).toNat (0 : UInt8)).toNat : Int) ∧ True ∧ True)
  ∧ (decide (shr IntKind.u64 (shr IntKind.u64 x (32 : Int)) (16 : Int) ≥ (256 : Int)) = false → (0 : Int) ≤ wr IntKind.u8 (shr IntKind.u64 (shr
  IntKind.u64 x (32 : Int)) (16 : Int)) ∧ wr IntKind.u8 (shr IntKind.u64 (shr IntKind.u64 x (32 : Int)) (16 : Int)) < (↑tab8.size : Int) ∧ inI64 (wr
  IntKind.i64 ((32 : Int) + (16 : Int)) + wr IntKind.i64 (↑(tabL.getD (wr IntKind.u8 (shr IntKind.u64 (shr IntKind.u64 x (32 : Int)) (16 : Int))).toNat
  (0 : UInt8)).toNat : Int)) ∧ (↑(bitlen x.toNat) : Int) = wr IntKind.i64 ((32 : Int) + (16 : Int)) + wr IntKind.i64 (↑(tabL.getD (wr IntKind.u8 (shr
  IntKind.u64 (shr IntKind.u64 x (32 : Int)) (16 : Int))).toNat (0 : UInt8)).toNat : Int) ∧ True ∧ True)) ∧ (decide (shr IntKind.u64 x (32 : Int) ≥
  (65536 : Int)) = false → (decide (shr IntKind.u64 x (32 : Int) ≥ (256 : Int)) = true → (0 : Int) ≤ (8 : Int) ∧ (0 : Int) ≤ wr IntKind.u8 (shr
  IntKind.u64 (shr IntKind.u64 x (32 : Int)) (8 : Int)) ∧ wr IntKind.u8 (shr IntKind.u64 (shr IntKind.u64 x (32 : Int)) (8 : Int)) < (↑tab8.size : Int) ∧
  inI64 (wr IntKind.i64 ((32 : Int) + (8 : Int)) + wr IntKind.i64 (↑(tabL.getD (wr IntKind.u8 (shr IntKind.u64 (shr IntKind.u64 x (32 : Int)) (8 :
  Int))).toNat (0 : UInt8)).toNat : Int)) ∧ (↑(bitlen x.toNat) : Int) = wr IntKind.i64 ((32 : Int) + (8 : Int)) + wr IntKind.i64 (↑(tabL.getD (wr
  IntKind.u8 (shr IntKind.u64 (shr IntKind.u64 x (32 : Int)) (8 : Int))).toNat (0 : UInt8)).toNat : Int) ∧ True ∧ True) ∧ (decide (shr IntKind.u64 x (32
  : Int) ≥ (256 : Int)) = false → (0 : Int) ≤ wr IntKind.u8 (shr IntKind.u64 x (32 : Int)) ∧ wr IntKind.u8 (shr IntKind.u64 x (32 : Int)) < (↑tab8.size :
  Int) ∧ inI64 ((32 : Int) + wr IntKind.i64 (↑(tabL.getD (wr IntKind.u8 (shr IntKind.u64 x (32 : Int))).toNat (0 : UInt8)).toNat : Int)) ∧ (↑(bitlen
  x.toNat) : Int) = (32 : Int) + wr IntKind.i64 (↑(tabL.getD (wr IntKind.u8 (shr IntKind.u64 x (32 : Int))).toNat (0 : UInt8)).toNat : Int) ∧ True ∧
  True))) ∧ (decide (x ≥ (4294967296 : Int)) = false → (decide (x ≥ (65536 : Int)) = true → (0 : Int) ≤ (16 : Int) ∧ (decide (shr IntKind.u64 x (16 :
  Int) ≥ (256 : Int)) = true → (0 : Int) ≤ (8 : Int) ∧ (0 : Int) ≤ wr IntKind.u8 (shr IntKind.u64 (shr IntKind.u64 x (16 : Int)) (8 : Int)) ∧ wr
  IntKind.u8 (shr IntKind.u64 (shr IntKind.u64 x (16 : Int)) (8 : Int)) < (↑tab8.size : Int) ∧ inI64 (wr IntKind.i64 (wr IntKind.i64 ((0 : Int) + (16 :
  Int)) + (8 : Int)) + wr IntKind.i64 (↑(tabL.getD (wr IntKind.u8 (shr IntKind.u64 (shr IntKind.u64 x (16 : Int)) (8 : Int))).toNat (0 : UInt8)).toNat :
  Int)) ∧ (↑(bitlen x.toNat) : Int) = wr IntKind.i64 (wr IntKind.i64 ((0 : Int) + (16 : Int)) + (8 : Int)) + wr IntKind.i64 (↑(tabL.getD (wr IntKind.u8
  (shr IntKind.u64 (shr IntKind.u64 x (16 : Int)) (8 : Int))).toNat (0 : UInt8)).toNat : Int) ∧ True ∧ True) ∧ (decide (shr IntKind.u64 x (16 : Int) ≥
  (256 : Int)) = false → (0 : Int) ≤ wr IntKind.u8 (shr IntKind.u64 x (16 : Int)) ∧ wr IntKind.u8 (shr IntKind.u64 x (16 : Int)) < (↑tab8.size : Int) ∧
  inI64 (wr IntKind.i64 ((0 : Int) + (16 : Int)) + wr IntKind.i64 (↑(tabL.getD (wr IntKind.u8 (shr IntKind.u64 x (16 : Int))).toNat (0 : UInt8)).toNat :
  Int)) ∧ (↑(bitlen x.toNat) : Int) = wr IntKind.i64 ((0 : Int) + (16 : Int)) + wr IntKind.i64 (↑(tabL.getD (wr IntKind.u8 (shr IntKind.u64 x (16 :
  Int))).toNat (0 : UInt8)).toNat : Int) ∧ True ∧ True)) ∧ (decide (x ≥ (65536 : Int)) = false → (decide (x ≥ (256 : Int)) = true → (0 : Int) ≤ (8 : Int)
  ∧ (0 : Int) ≤ wr IntKind.u8 (shr IntKind.u64 x (8 : Int)) ∧ wr IntKind.u8 (shr IntKind.u64 x (8 : Int)) < (↑tab8.size : Int) ∧ inI64 (wr IntKind.i64
  ((0 : Int) + (8 : Int)) + wr IntKind.i64 (↑(tabL.getD (wr IntKind.u8 (shr IntKind.u64 x (8 : Int))).toNat (0 : UInt8)).toNat : Int)) ∧ (↑(bitlen
  x.toNat) : Int) = wr IntKind.i64 ((0 : Int) + (8 : Int)) + wr IntKind.i64 (↑(tabL.getD (wr IntKind.u8 (shr IntKind.u64 x (8 : Int))).toNat (0 :
  UInt8)).toNat : Int) ∧ True ∧ True) ∧ (decide (x ≥ (256 : Int)) = false → (0 : Int) ≤ wr IntKind.u8 x ∧ wr IntKind.u8 x < (↑tab8.size : Int) ∧ inI64
  ((0 : Int) + wr IntKind.i64 (↑(tabL.getD (wr IntKind.u8 x).toNat (0 : UInt8)).toNat : Int)) ∧ (↑(bitlen x.toNat) : Int) = (0 : Int) + wr IntKind.i64
  (↑(tabL.getD (wr IntKind.u8 x).toNat (0 : UInt8)).toNat : Int) ∧ True ∧ True)))

theorem len64_eq : len64VC = fnS E49 f128 (bodyOf f128) len64LS noAnn := by kernel_rfl
theorem len64_vc : len64VC := by
  intro x hx
  obtain ⟨m, rfl⟩ : ∃ m : Nat, x = m := ⟨x.toNat, by have := hx.lo; omega⟩
  have hm : m < 18446744073709551616 := by have := hx.hi; omega
  have s32 : ∀ q : Nat, shr .u64 (q : Int) 32 = ((q / 4294967296 : Nat) : Int) := fun q => shr_nat q 32 (by decide)
  have s16 : ∀ q : Nat, shr .u64 (q : Int) 16 = ((q / 65536 : Nat) : Int) := fun q => shr_nat q 16 (by decide)
  have s8 : ∀ q : Nat, shr .u64 (q : Int) 8 = ((q / 256 : Nat) : Int) := fun q => shr_nat q 8 (by decide)
  have b32 : ∀ q : Nat, 4294967296 ≤ q → bitlen q = bitlen (q / 4294967296) + 32 := fun q h => bitlen_shift (n := q) (k := 32) (by show q / 4294967296 ≠ 0; omega)
  have b16 : ∀ q : Nat, 65536 ≤ q → bitlen q = bitlen (q / 65536) + 16 := fun q h => bitlen_shift (n := q) (k := 16) (by show q / 65536 ≠ 0; omega)
  have b8 : ∀ q : Nat, 256 ≤ q → bitlen q = bitlen (q / 256) + 8 := fun q h => bitlen_shift (n := q) (k := 8) (by show q / 256 ≠ 0; omega)
  simp only [s32, s16, s8, Int.toNat_natCast, decide_eq_true_eq, decide_eq_false_iff_not]
  refine ⟨fun h1 => ⟨by decide, fun h2 => ⟨by decide, fun h3 => ⟨by decide, ?_⟩, fun h3 => ?_⟩, fun h2 => ⟨fun h3 => ⟨by decide, ?_⟩, fun h3 => ?_⟩⟩, fun h1 => ⟨fun h2 => ⟨by decide, fun h3 => ⟨by decide, ?_⟩, fun h3 => ?_⟩, fun h2 => ⟨fun h3 => ⟨by decide, ?_⟩, fun h3 => ?_⟩⟩⟩
  · have e1 := b32 m (by omega)
    have e2 := b16 (m / 4294967296) (by omega)
    have e3 := b8 (m / 4294967296 / 65536) (by omega)
    exact len_leaf (c := 56) (by omega) (by decide) (by omega) (by decide)
  · have e1 := b32 m (by omega)
    have e2 := b16 (m / 4294967296) (by omega)
    exact len_leaf (c := 48) (by omega) (by decide) (by omega) (by decide)
  · have e1 := b32 m (by omega)
    have e3 := b8 (m / 4294967296) (by omega)
    exact len_leaf (c := 40) (by omega) (by decide) (by omega) (by decide)
  · have e1 := b32 m (by omega)
    exact len_leaf (c := 32) (by omega) (by decide) (by omega) (by decide)
  · have e2 := b16 m (by omega)
    have e3 := b8 (m / 65536) (by omega)
    exact len_leaf (c := 24) (by omega) (by decide) (by omega) (by decide)
  · have e2 := b16 m (by omega)
    exact len_leaf (c := 16) (by omega) (by decide) (by omega) (by decide)
  · have e3 := b8 m (by omega)
    exact len_leaf (c := 8) (by omega) (by decide) (by omega) (by decide)
  · exact len_leaf (c := 0) (by omega) (by decide) (by omega) (by decide)
theorem len64_ok : Fits E49 f128 (bodyOf f128) len64LS noAnn := by
  constructor
  rw [← len64_eq]
  exact len64_vc
theorem f128_has : Has prog 128 f128 (bodyOf f128) := ⟨by kernel_rfl, by kernel_rfl, by kernel_rfl⟩
theorem known60 : Known prog L60 := by
  unfold L60
  exact known49.lent mixed f128_has E49_eq len64_ok (fun _ _ => Nat.le_refl _) (fun _ _ => rfl)
def widthVC : Prop := ∀ (x : Int), U64 x → x = x ∧ True ∧ U64 x ∧ inI64 ((↑(bitlen x.toNat) : Int) + (7 : Int)) ∧ (8 : Int) ≠ (0 : Int) ∧ (↑(digs x).length : Int) = wr
  IntKind.i64 (((↑(bitlen x.toNat) : Int) + (7 : Int)).tdiv (8 : Int)) ∧ True ∧ True

theorem width_eq : widthVC = fnS E60 f98 (bodyOf f98) widthLS noAnn := by kernel_rfl
theorem width_vc : widthVC := by
  intro x hx
  have h1 : bitlen x.toNat ≤ 64 := (bitlen_le _ 64).2 (by simpa using u64_lt hx)
  refine ⟨rfl, trivial, hx, by unfold inI64; omega, by decide, ?_, trivial, trivial⟩
  rw [digs_len hx]
  have e : ((bitlen x.toNat : Nat) : Int) + 7 = ((bitlen x.toNat + 7 : Nat) : Int) := by omega
  rw [e, show ((bitlen x.toNat + 7 : Nat) : Int).tdiv 8 = (((bitlen x.toNat + 7) / 8 : Nat) : Int) from rfl, wr64 (by unfold inI64; omega)]
theorem width_ok : Fits E60 f98 (bodyOf f98) widthLS noAnn := by
  constructor
  rw [← width_eq]
  exact width_vc
theorem f98_has : Has prog 98 f98 (bodyOf f98) := ⟨by kernel_rfl, by kernel_rfl, by kernel_rfl⟩
theorem known61 : Known prog L61 := by
  unfold L61
  exact known60.lent mixed f98_has E60_eq width_ok (fun _ _ => Nat.le_refl _) (fun _ _ => rfl)
theorem digs_code {n : Int} (hn : U64 n) {i : Nat} (hi : i < (digs n).length) : bitop .xor .u8 (wr .u8 (shr .u64 n (8 * (((digs n).length : Int) - 1 - (i : Int))))) 0 = (digs n).getD i 0 := by
  have h8 := digs_le hn
  obtain ⟨m, rfl⟩ : ∃ m : Nat, n = m := ⟨n.toNat, by have := hn.lo; omega⟩
  rw [digs_get hn hi, Int.toNat_natCast]
  have e : 8 * (((digs (m : Int)).length : Int) - 1 - (i : Int)) = ((8 * ((digs (m : Int)).length - 1 - i) : Nat) : Int) := by omega
  rw [e, shr_nat _ _ (by omega), ← pow256, wr8, xor_zero (Int.emod_nonneg _ (by decide)) (Int.emod_lt_of_pos _ (by decide))]
  omega
def highVC : Prop := ∀ (x : BN), x.Ok → x.n = x.n ∧ True ∧ U64 x.n ∧ inI64 ((↑(digs x.n).length : Int) - (1 : Int)) ∧ (∃ x_1, Nat.le x_1 (digs x.n).length ∧ (True ∧ (↑(digs
  x.n).length : Int) - (1 : Int) - (↑x_1 : Int) = (↑(digs x.n).length : Int) - (1 : Int)) ∧ True ∧ x.xs ++ List.take x_1 (digs x.n) = x.xs ∧ True) ∧ ∀
  (x_1 : Nat), x_1.le (digs x.n).length → (decide ((↑(digs x.n).length : Int) - (1 : Int) - (↑x_1 : Int) ≥ (0 : Int)) = true → inI64 ((8 : Int) *
  ((↑(digs x.n).length : Int) - (1 : Int) - (↑x_1 : Int))) ∧ (0 : Int) ≤ (8 : Int) * ((↑(digs x.n).length : Int) - (1 : Int) - (↑x_1 : Int)) ∧ ((x.xs ++
  List.take x_1 (digs x.n)).length + [bitop BinOp.xor IntKind.u8 (wr IntKind.u8 (shr IntKind.u64 x.n ((8 : Int) * ((↑(digs x.n).length : Int) - (1 : Int)
  - (↑x_1 : Int))))) (0 : Int)].length) * (1 : Nat) ≤ (140737488355328 : Nat) ∧ (x.xs ++ List.take x_1 (digs x.n)).length + [bitop BinOp.xor IntKind.u8
  (wr IntKind.u8 (shr IntKind.u64 x.n ((8 : Int) * ((↑(digs x.n).length : Int) - (1 : Int) - (↑x_1 : Int))))) (0 : Int)].length ≤ (1152921504606846976 :
  Nat) ∧ inI64 ((↑(digs x.n).length : Int) - (1 : Int) - (↑x_1 : Int) - (1 : Int)) ∧ ∃ y, Nat.le y (digs x.n).length ∧ (digs x.n).length - y < (digs
  x.n).length - x_1 ∧ (True ∧ (↑(digs x.n).length : Int) - (1 : Int) - (↑y : Int) = (↑(digs x.n).length : Int) - (1 : Int) - (↑x_1 : Int) - (1 : Int)) ∧
  True ∧ x.xs ++ List.take y (digs x.n) = x.xs ++ List.take x_1 (digs x.n) ++ [bitop BinOp.xor IntKind.u8 (wr IntKind.u8 (shr IntKind.u64 x.n ((8 : Int)
  * ((↑(digs x.n).length : Int) - (1 : Int) - (↑x_1 : Int))))) (0 : Int)] ∧ True) ∧ (decide ((↑(digs x.n).length : Int) - (1 : Int) - (↑x_1 : Int) ≥ (0 :
  Int)) = false → True ∧ True ∧ x.xs ++ digs x.n = x.xs ++ List.take x_1 (digs x.n) ∧ True)

theorem high_eq : highVC = fnS E61 f97 (bodyOf f97) highLS highAnn := by kernel_rfl
theorem high_vc : highVC := by
  rintro ⟨xs, n⟩ ⟨hl, hn⟩
  simp only at hl hn
  have h8 := digs_le hn
  simp only [true_and, and_true, decide_eq_true_eq, decide_eq_false_iff_not, List.length_append, List.length_singleton, List.length_take]
  refine ⟨hn, by unfold inI64; omega, ⟨0, Nat.zero_le _, by omega, by simp⟩, fun i hi => ⟨fun h => ?_, fun h => ?_⟩⟩
  · have hi' : i < (digs n).length := by omega
    refine ⟨by unfold inI64; omega, by omega, by omega, by omega, by unfold inI64; omega, i + 1, hi', by omega, by omega, ?_⟩
    rw [digs_code hn hi', take_up hi' rfl, List.append_assoc]
  · have hi' : (digs n).length ≤ i := by omega
    rw [List.take_of_length_le hi']
theorem high_ok : Fits E61 f97 (bodyOf f97) highLS highAnn := by
  constructor
  rw [← high_eq]
  exact high_vc
theorem f97_has : Has prog 97 f97 (bodyOf f97) := ⟨by kernel_rfl, by kernel_rfl, by kernel_rfl⟩
theorem known62 : Known prog L62 := by
  unfold L62
  exact known61.lent mixed f97_has E61_eq high_ok (fun _ _ => by simp [highLS]) (fun h => by cases h)
def wnewVC : Prop := ∀ (_ : Unit), True → True ∧ True ∧ ((SV.val (A := AA) (Value.slice none (0 : Nat) (0 : Nat)) : SV AA) = SV.val (A := AA) (Value.slice none (0 : Nat) (0
  : Nat)) ∧ True) ∧ True

theorem wnew_eq : wnewVC = fnS E62 f56 (bodyOf f56) newLS noAnn := by kernel_rfl
theorem wnew_ok : Fits E62 f56 (bodyOf f56) newLS noAnn := by
  constructor
  rw [← wnew_eq]
  exact fun _ _ => ⟨trivial, trivial, ⟨rfl, trivial⟩, trivial⟩
theorem f56_has : Has prog 56 f56 (bodyOf f56) := ⟨by kernel_rfl, by kernel_rfl, by kernel_rfl⟩
theorem known63 : Known prog L63 := by
  unfold L63
  exact known62.lent mixed f56_has E62_eq wnew_ok (fun _ _ => Nat.zero_le _) (fun _ _ => rfl)
def wUintVC : Prop := ∀ (x : BN), x.Low → x.n = x.n ∧ True ∧ U64 x.n ∧ (x.xs.length + [wr IntKind.u8 (↑(digs x.n).length : Int)].length) * (1 : Nat) ≤ (140737488355328 :
  Nat) ∧ x.xs.length + [wr IntKind.u8 (↑(digs x.n).length : Int)].length ≤ (1152921504606846976 : Nat) ∧ (True ∧ x.n = x.n ∧ (0 : Int) = (0 : Int)) ∧
  (x.xs ++ [wr IntKind.u8 (↑(digs x.n).length : Int)] = x.xs ++ [wr IntKind.u8 (↑(digs x.n).length : Int)] ∧ True) ∧ (BN.mk (x.xs ++ [wr IntKind.u8
  (↑(digs x.n).length : Int)]) x.n).Ok ∧ True ∧ ((True ∧ True) ∧ True) ∧ x.xs ++ uintB x.n = x.xs ++ [wr IntKind.u8 (↑(digs x.n).length : Int)] ++ digs
  x.n ∧ True

theorem wUint_eq : wUintVC = fnS E63 f57 (bodyOf f57) wUintLS noAnn := by kernel_rfl
theorem wUint_vc : wUintVC := by
  rintro ⟨xs, n⟩ ⟨hl, hn⟩
  simp only at hl hn
  have h8 := digs_le hn
  have e : wr .u8 ((digs n).length : Int) = ((digs n).length : Int) := by rw [wr8]; omega
  simp only [e, true_and, and_true, List.length_singleton, uintB, List.append_assoc, List.singleton_append]
  exact ⟨hn, by omega, by omega, ⟨by simp only [List.length_append, List.length_singleton]; omega, hn⟩⟩
theorem wUint_ok : Fits E63 f57 (bodyOf f57) wUintLS noAnn := by
  constructor
  rw [← wUint_eq]
  exact wUint_vc
theorem f57_has : Has prog 57 f57 (bodyOf f57) := ⟨by kernel_rfl, by kernel_rfl, by kernel_rfl⟩
theorem known64 : Known prog L64 := by
  unfold L64
  exact known63.lent mixed f57_has E63_eq wUint_ok (fun _ _ => by simp [wUintLS]) (fun h => by cases h)
def wHashVC : Prop := ∀ (x : BH), x.Ok → (x.xs.length + x.h.length) * (1 : Nat) ≤ (140737488355328 : Nat) ∧ x.xs.length + x.h.length ≤ (1152921504606846976 : Nat) ∧ True ∧
  ((True ∧ True) ∧ True) ∧ x.xs ++ x.h = x.xs ++ x.h ∧ True

theorem wHash_eq : wHashVC = fnS E64 f58 (bodyOf f58) wHashLS noAnn := by kernel_rfl
theorem wHash_vc : wHashVC := by
  rintro ⟨xs, h⟩ ⟨hl, hh⟩
  simp only at hl hh
  exact ⟨by simp only; omega, by simp only; omega, trivial, ⟨⟨trivial, trivial⟩, trivial⟩, rfl, trivial⟩
theorem wHash_ok : Fits E64 f58 (bodyOf f58) wHashLS noAnn := by
  constructor
  rw [← wHash_eq]
  exact wHash_vc
theorem f58_has : Has prog 58 f58 (bodyOf f58) := ⟨by kernel_rfl, by kernel_rfl, by kernel_rfl⟩
theorem known65 : Known prog L65 := by
  unfold L65
  exact known64.lent mixed f58_has E64_eq wHash_ok (fun _ _ => by simp [wHashLS]) (fun h => by cases h)
def cloneUVC : Prop := ∀ (x : List Int), x.length.le (1099511627776 : Nat) → ∀ (b : Bool), (x ≠ [] → b = false) → (b = true → (SV.val (A := AA) (Value.slice none (0 : Nat) (0
  : Nat)) : SV AA) = SV.val (A := AA) (Value.slice none (0 : Nat) (0 : Nat)) ∧ True ∧ x = [] ∧ True) ∧ (b = false → (([] : List Int).length + x.length) *
  (1 : Nat) ≤ (140737488355328 : Nat) ∧ ([] : List Int).length + x.length ≤ (1152921504606846976 : Nat) ∧ True ∧ True ∧ x = [] ++ x ∧ True)

theorem cloneU_eq : cloneUVC = fnS E65 f100 (bodyOf f100) cloneULS noAnn := by kernel_rfl
theorem cloneU_vc : cloneUVC := by
  intro x hx b hb
  have hx' : x.length ≤ 1099511627776 := hx
  refine ⟨fun h => ⟨rfl, trivial, Classical.byContradiction fun hne => ?_, trivial⟩, fun _ => ⟨?_, ?_, trivial, trivial, rfl, trivial⟩⟩
  · have := hb hne
    rw [h] at this
    cases this
  · simp only [List.length_nil]; omega
  · simp only [List.length_nil]; omega
theorem cloneU_ok : Fits E65 f100 (bodyOf f100) cloneULS noAnn := by
  constructor
  rw [← cloneU_eq]
  exact cloneU_vc
theorem f100_has : Has prog 100 f100 (bodyOf f100) := ⟨by kernel_rfl, by kernel_rfl, by kernel_rfl⟩
theorem known66 : Known prog L66 := by
  unfold L66
  exact known65.lent mixed f100_has E65_eq cloneU_ok (fun _ _ => Nat.zero_le _) (fun _ _ => rfl)
def wDoneVC : Prop := ∀ (x : List Int), x.length.le (1099511627776 : Nat) → x = x ∧ True ∧ x.length.le (1099511627776 : Nat) ∧ True ∧ ((True ∧ True) ∧ x = x ∧ True) ∧ x = x
  ∧ True

theorem wDone_eq : wDoneVC = fnS E66 f60 (bodyOf f60) wDoneLS noAnn := by kernel_rfl
theorem wDone_ok : Fits E66 f60 (bodyOf f60) wDoneLS noAnn := by
  constructor
  rw [← wDone_eq]
  exact fun _ hx => ⟨rfl, trivial, hx, trivial, ⟨⟨trivial, trivial⟩, rfl, trivial⟩, rfl, trivial⟩
theorem f60_has : Has prog 60 f60 (bodyOf f60) := ⟨by kernel_rfl, by kernel_rfl, by kernel_rfl⟩
theorem known67 : Known prog L67 := by
  unfold L67
  exact known66.lent mixed f60_has E66_eq wDone_ok (fun _ _ => by simp [wDoneLS]) (fun h => by cases h)
def growVC : Prop := ∀ (x : Int), (0 : Int) ≤ x ∧ x ≤ (1099511627776 : Int) → (decide (x < (0 : Int)) = true → False) ∧ (decide (x < (0 : Int)) = false → inI64 (x - wr
  IntKind.i64 ((0 : Int) - (0 : Int))) ∧ (decide (x - wr IntKind.i64 ((0 : Int) - (0 : Int)) > (0 : Int)) = true → (0 : Int) ≤ x - wr IntKind.i64 ((0 :
  Int) - (0 : Int)) ∧ (x - wr IntKind.i64 ((0 : Int) - (0 : Int))) * (↑(1 : Nat) : Int) ≤ (140737488355328 : Int) ∧ x - wr IntKind.i64 ((0 : Int) - (0 :
  Int)) ≤ (1152921504606846976 : Int) ∧ (0 : Int) ≤ (0 : Int) ∧ (0 : Int) ≤ (↑(List.replicate (x - wr IntKind.i64 ((0 : Int) - (0 : Int))).toNat (0 :
  Int)).length : Int) ∧ True ∧ True ∧ [] = List.take (Int.toNat (0 : Int)) (List.replicate (x - wr IntKind.i64 ((0 : Int) - (0 : Int))).toNat (0 : Int))
  ∧ True) ∧ (decide (x - wr IntKind.i64 ((0 : Int) - (0 : Int)) > (0 : Int)) = false → (SV.val (A := AA) (Value.slice none (0 : Nat) (0 : Nat)) : SV AA)
  = SV.val (A := AA) (Value.slice none (0 : Nat) (0 : Nat)) ∧ True ∧ ([] : List Int) = [] ∧ True))

theorem grow_eq : growVC = fnS E67 f99 (bodyOf f99) growLS noAnn := by kernel_rfl
theorem grow_vc : growVC := by
  rintro x ⟨h1, h2⟩
  have e : wr .i64 0 = 0 := by decide
  simp only [Int.sub_zero, e, true_and, and_true, decide_eq_true_eq, decide_eq_false_iff_not]
  refine ⟨fun h => by omega, fun _ => ⟨by unfold inI64; omega, fun h => ⟨h1, by omega, by omega, by decide, by simp; omega⟩, fun _ => trivial⟩⟩
theorem grow_ok : Fits E67 f99 (bodyOf f99) growLS noAnn := by
  constructor
  rw [← grow_eq]
  exact grow_vc
theorem f99_has : Has prog 99 f99 (bodyOf f99) := ⟨by kernel_rfl, by kernel_rfl, by kernel_rfl⟩
theorem known68 : Known prog L68 := by
  unfold L68
  exact known67.lent mixed f99_has E67_eq grow_ok (fun _ _ => Nat.zero_le _) (fun _ _ => rfl)
theorem flat_append : ∀ (a b : List (List Int)), flat (a ++ b) = flat a ++ flat b
  | [], b => rfl
  | x :: a, b => by simp [flat, flat_append a b]
theorem flat_take {l : List (List Int)} {i : Nat} {y : List Int} (h : l[i]? = some y) : flat (l.take (i + 1)) = flat (l.take i) ++ y := by
  rw [List.take_add_one, h, flat_append]
  simp [flat]
theorem flat_le (l : List (List Int)) (i : Nat) : (flat (l.take i)).length ≤ (flat l).length := by
  have h := congrArg (fun x => (flat x).length) (List.take_append_drop i l)
  simp only [flat_append, List.length_append] at h
  omega
def concatVC : Prop := ∀ (x : List (List Int)), LL x → (↑x.length : Int) ≤ (9223372036854775807 : Int) → (∃ x_1, Nat.le x_1 x.length ∧ ((↑x_1 : Int) = (0 : Int) ∧ (↑(flat
  (List.take x_1 x)).length : Int) = (0 : Int)) ∧ True ∧ True) ∧ ∀ (x_1 : Nat), x_1.le x.length → (decide ((↑x_1 : Int) < (↑x.length : Int)) = true → (0
  : Int) ≤ (↑x_1 : Int) ∧ (↑x_1 : Int) < (↑x.length : Int) ∧ ∀ (y : AA (26 : Nat)), x[(↑x_1 : Int).toNat]? = some y → (↑(List.length y) : Int) ≤
  (9223372036854775807 : Int) → inI64 ((↑(flat (List.take x_1 x)).length : Int) + (↑(List.length y) : Int)) ∧ (decide ((↑(flat (List.take x_1 x)).length
  : Int) + (↑(List.length y) : Int) < (0 : Int)) = true → False) ∧ (decide ((↑(flat (List.take x_1 x)).length : Int) + (↑(List.length y) : Int) < (0 :
  Int)) = false → inI64 ((↑x_1 : Int) + (1 : Int)) ∧ ∃ y_1, Nat.le y_1 x.length ∧ x.length - y_1 < x.length - x_1 ∧ ((↑y_1 : Int) = (↑x_1 : Int) + (1 :
  Int) ∧ (↑(flat (List.take y_1 x)).length : Int) = (↑(flat (List.take x_1 x)).length : Int) + (↑(List.length y) : Int)) ∧ True ∧ True)) ∧ (decide ((↑x_1
  : Int) < (↑x.length : Int)) = false → ((SV.val (A := AA) (Value.slice none (0 : Nat) (0 : Nat)) : SV AA) = SV.val (A := AA) (Value.slice none (0 : Nat)
  (0 : Nat)) ∧ (↑(flat (List.take x_1 x)).length : Int) = (↑(flat (List.take x_1 x)).length : Int)) ∧ True ∧ ((0 : Int) ≤ (↑(flat (List.take x_1
  x)).length : Int) ∧ (↑(flat (List.take x_1 x)).length : Int) ≤ (1099511627776 : Int)) ∧ ((↑x.length : Int) ≤ (9223372036854775807 : Int) → (∃ x_2,
  Nat.le x_2 x.length ∧ ((↑x_2 : Int) = (0 : Int) ∧ True) ∧ True ∧ flat (List.take x_2 x) = [] ∧ True) ∧ ∀ (x_2 : Nat), x_2.le x.length → (decide ((↑x_2
  : Int) < (↑x.length : Int)) = true → (0 : Int) ≤ (↑x_2 : Int) ∧ (↑x_2 : Int) < (↑x.length : Int) ∧ ∀ (y : AA (26 : Nat)), x[(↑x_2 : Int).toNat]? = some
  y → ((flat (List.take x_2 x)).length + List.length y) * (1 : Nat) ≤ (140737488355328 : Nat) ∧ (flat (List.take x_2 x)).length + List.length y ≤
  (1152921504606846976 : Nat) ∧ inI64 ((↑x_2 : Int) + (1 : Int)) ∧ ∃ y_1, Nat.le y_1 x.length ∧ x.length - y_1 < x.length - x_2 ∧ ((↑y_1 : Int) = (↑x_2 :
  Int) + (1 : Int) ∧ True) ∧ True ∧ flat (List.take y_1 x) = flat (List.take x_2 x) ++ (show List Int from y) ∧ True) ∧ (decide ((↑x_2 : Int) < (↑x.length : Int)) = false →
  True ∧ True ∧ flat x = flat (List.take x_2 x) ∧ True)))

theorem concat_eq : concatVC = fnS E68 f59 (bodyOf f59) concatLS concatAnn := by kernel_rfl
theorem concat_vc : concatVC := by
  rintro l ⟨h1, h2⟩
  simp only [true_and, and_true, decide_eq_true_eq, decide_eq_false_iff_not, Int.toNat_natCast]
  have len : ∀ {i : Nat} {y : List Int}, l[i]? = some y → (flat (l.take i)).length + y.length ≤ 1099511627776 := fun {i y} hy => by
    have h3 := flat_le l (i + 1)
    rw [flat_take hy, List.length_append] at h3
    omega
  refine fun _ => ⟨⟨0, Nat.zero_le _, rfl, by simp [flat]⟩, fun i hi => ⟨fun h => ?_, fun h => ?_⟩⟩
  · have hi' : i < l.length := by omega
    refine ⟨by omega, by omega, fun y hy _ => ?_⟩
    have h3 := len (y := y) hy
    replace h3 : (flat (l.take i)).length + @List.length Int y ≤ 1099511627776 := h3
    refine ⟨by unfold inI64; omega, fun h4 => by omega, fun _ => ⟨by unfold inI64; omega, i + 1, hi', by omega, by omega, ?_⟩⟩
    have h6 : (flat (l.take (i + 1))).length = (flat (l.take i)).length + @List.length Int y := (congrArg List.length (flat_take (y := y) hy)).trans List.length_append
    omega
  · have h3 := flat_le l i
    refine ⟨⟨by omega, by omega⟩, fun _ => ⟨⟨0, Nat.zero_le _, rfl, rfl⟩, fun k hk => ⟨fun h4 => ?_, fun h4 => ?_⟩⟩⟩
    · have hk' : k < l.length := by omega
      refine ⟨by omega, by omega, fun y hy => ?_⟩
      have h5 := len (y := y) hy
      replace h5 : (flat (l.take k)).length + @List.length Int y ≤ 1099511627776 := h5
      exact ⟨by omega, by omega, by unfold inI64; omega, k + 1, hk', by omega, by omega, flat_take (y := y) hy⟩
    · rw [List.take_of_length_le (by omega)]
theorem concat_ok : Fits E68 f59 (bodyOf f59) concatLS concatAnn := by
  constructor
  rw [← concat_eq]
  exact concat_vc
theorem f59_has : Has prog 59 f59 (bodyOf f59) := ⟨by kernel_rfl, by kernel_rfl, by kernel_rfl⟩
theorem known69 : Known prog L69 := by
  unfold L69
  exact known68.lent mixed f59_has E68_eq concat_ok (fun _ _ => Nat.zero_le _) (fun _ _ => rfl)
/-! ## The document's -/
theorem digs_step {n : Int} (hn : U64 n) {i : Nat} (hi : i < (digs n).length) :
    (digs n).drop ((digs n).length - (i + 1)) = [((n.toNat / 256 ^ i % 256 : Nat) : Int)] ++ (digs n).drop ((digs n).length - i) := by
  have hj : (digs n).length - (i + 1) < (digs n).length := by omega
  rw [drop_cons' hj, digs_get hn hj, show (digs n).length - 1 - ((digs n).length - (i + 1)) = i from by omega, show (digs n).length - (i + 1) + 1 = (digs n).length - i from by omega]
  rfl
def digitsVC : Prop := ∀ (x : Int), U64 x → (∃ x_1, Nat.le x_1 (digs x).length ∧ ((↑(x.toNat / (256 : Nat) ^ x_1) : Int) = x ∧ List.drop ((digs x).length - x_1) (digs x) =
  []) ∧ True ∧ True) ∧ ∀ (x_1 : Nat), x_1.le (digs x).length → (decide ((↑(x.toNat / (256 : Nat) ^ x_1) : Int) > (0 : Int)) = true → (256 : Int) ≠ (0 :
  Int) ∧ [wr IntKind.u8 ((↑(x.toNat / (256 : Nat) ^ x_1) : Int).tmod (256 : Int))].length * (1 : Nat) ≤ (140737488355328 : Nat) ∧ [wr IntKind.u8
  ((↑(x.toNat / (256 : Nat) ^ x_1) : Int).tmod (256 : Int))].length ≤ (1152921504606846976 : Nat) ∧ ([wr IntKind.u8 ((↑(x.toNat / (256 : Nat) ^ x_1) :
  Int).tmod (256 : Int))].length + (List.drop ((digs x).length - x_1) (digs x)).length) * (1 : Nat) ≤ (140737488355328 : Nat) ∧ [wr IntKind.u8
  ((↑(x.toNat / (256 : Nat) ^ x_1) : Int).tmod (256 : Int))].length + (List.drop ((digs x).length - x_1) (digs x)).length ≤ (1152921504606846976 : Nat) ∧
  (256 : Int) ≠ (0 : Int) ∧ ∃ y, Nat.le y (digs x).length ∧ (digs x).length - y < (digs x).length - x_1 ∧ ((↑(x.toNat / (256 : Nat) ^ y) : Int) = wr
  IntKind.u64 ((↑(x.toNat / (256 : Nat) ^ x_1) : Int).tdiv (256 : Int)) ∧ List.drop ((digs x).length - y) (digs x) = [wr IntKind.u8 ((↑(x.toNat / (256 :
  Nat) ^ x_1) : Int).tmod (256 : Int))] ++ List.drop ((digs x).length - x_1) (digs x)) ∧ True ∧ True) ∧ (decide ((↑(x.toNat / (256 : Nat) ^ x_1) : Int) >
  (0 : Int)) = false → digs x = List.drop ((digs x).length - x_1) (digs x) ∧ True ∧ True)

theorem digits_eq : digitsVC = fnS E69 f101 (bodyOf f101) digitsLS digitsAnn := by kernel_rfl
theorem digits_vc : digitsVC := by
  intro n hn
  have h8 := digs_le hn
  have h0 := hn.lo
  have h1 := hn.hi
  have key : ∀ q : Nat, q < 18446744073709551616 → wr .u8 ((q : Int).tmod 256) = ((q % 256 : Nat) : Int) ∧ wr .u64 ((q : Int).tdiv 256) = ((q / 256 : Nat) : Int) := fun q hq => by
    rw [wr8, wr64u, show (q : Int).tmod 256 = ((q % 256 : Nat) : Int) from rfl, show (q : Int).tdiv 256 = ((q / 256 : Nat) : Int) from rfl]
    omega
  simp only [true_and, and_true, decide_eq_true_eq, decide_eq_false_iff_not, List.length_singleton, List.length_drop]
  refine ⟨⟨0, Nat.zero_le _, by simp; omega, by simp⟩, fun i hi => ⟨fun h => ?_, fun h => ?_⟩⟩
  · have hq : n.toNat / 256 ^ i < 18446744073709551616 := Nat.lt_of_le_of_lt (Nat.div_le_self _ _) (by omega)
    obtain ⟨k1, k2⟩ := key _ hq
    have hi' : i < (digs n).length := (digs_lt hn i).2 (by omega)
    rw [k1, k2]
    refine ⟨by decide, by decide, by decide, by omega, by omega, by decide, i + 1, hi', by omega, ?_, digs_step hn hi'⟩
    rw [Nat.pow_succ, Nat.div_div_eq_div_mul]
  · have hi' : ¬ i < (digs n).length := fun h2 => by have := (digs_lt hn i).1 h2; omega
    rw [show (digs n).length - i = 0 from by omega, List.drop_zero]
theorem digits_ok : Fits E69 f101 (bodyOf f101) digitsLS digitsAnn := by
  constructor
  rw [← digits_eq]
  exact digits_vc
theorem f101_has : Has prog 101 f101 (bodyOf f101) := ⟨by kernel_rfl, by kernel_rfl, by kernel_rfl⟩
theorem known70 : Known prog L70 := by
  unfold L70
  exact known69.lent mixed f101_has E69_eq digits_ok (fun _ _ => Nat.le_refl _) (fun _ _ => rfl)
def ownUVC : Prop := ∀ (x : List Int), x.length.le (1099511627776 : Nat) → x.length * (1 : Nat) ≤ (140737488355328 : Nat) ∧ x.length ≤ (1152921504606846976 : Nat) ∧ True ∧
  True ∧ x = x ∧ True

theorem ownU_eq : ownUVC = fnS E70 f102 (bodyOf f102) ownULS noAnn := by kernel_rfl
theorem ownU_ok : Fits E70 f102 (bodyOf f102) ownULS noAnn := by
  constructor
  rw [← ownU_eq]
  intro x hx
  have hx' : x.length ≤ 1099511627776 := hx
  exact ⟨by omega, by omega, trivial, trivial, rfl, trivial⟩
theorem f102_has : Has prog 102 f102 (bodyOf f102) := ⟨by kernel_rfl, by kernel_rfl, by kernel_rfl⟩
theorem known71 : Known prog L71 := by
  unfold L71
  exact known70.lent mixed f102_has E70_eq ownU_ok (fun _ _ => Nat.zero_le _) (fun _ _ => rfl)
def rUintVC : Prop := ∀ (x : BN), x.Low → x.n = x.n ∧ True ∧ U64 x.n ∧ x.xs = x.xs ∧ True ∧ x.xs.length.le (1099511627776 : Nat) ∧ ((↑(digs x.n).length : Int) ≤
  (9223372036854775807 : Int) → (x.xs.length + [wr IntKind.u8 (↑(digs x.n).length : Int)].length) * (1 : Nat) ≤ (140737488355328 : Nat) ∧ x.xs.length +
  [wr IntKind.u8 (↑(digs x.n).length : Int)].length ≤ (1152921504606846976 : Nat) ∧ ((x.xs ++ [wr IntKind.u8 (↑(digs x.n).length : Int)]).length + (digs
  x.n).length) * (1 : Nat) ≤ (140737488355328 : Nat) ∧ (x.xs ++ [wr IntKind.u8 (↑(digs x.n).length : Int)]).length + (digs x.n).length ≤
  (1152921504606846976 : Nat) ∧ True ∧ True ∧ x.xs ++ uintB x.n = x.xs ++ [wr IntKind.u8 (↑(digs x.n).length : Int)] ++ digs x.n ∧ True)

theorem rUint_eq : rUintVC = fnS E71 f61 (bodyOf f61) rUintLS noAnn := by kernel_rfl
theorem rUint_vc : rUintVC := by
  rintro ⟨xs, n⟩ ⟨hl, hn⟩
  simp only at hl hn
  have h8 := digs_le hn
  have e : wr .u8 ((digs n).length : Int) = ((digs n).length : Int) := by rw [wr8]; omega
  have hl2 : Nat.le xs.length 1099511627776 := show xs.length ≤ 1099511627776 by omega
  simp only [e, true_and, and_true, List.length_singleton, List.length_append, uintB, List.append_assoc, List.singleton_append]
  exact ⟨hn, hl2, fun _ => ⟨by omega, by omega, by omega, by omega⟩⟩
theorem rUint_ok : Fits E71 f61 (bodyOf f61) rUintLS noAnn := by
  constructor
  rw [← rUint_eq]
  exact rUint_vc
theorem f61_has : Has prog 61 f61 (bodyOf f61) := ⟨by kernel_rfl, by kernel_rfl, by kernel_rfl⟩
theorem known72 : Known prog L72 := by
  unfold L72
  exact known71.lent mixed f61_has E71_eq rUint_ok (fun _ _ => Nat.zero_le _) (fun _ _ => rfl)
def rHashVC : Prop := ∀ (x : BH), x.Ok → x.xs = x.xs ∧ True ∧ x.xs.length.le (1099511627776 : Nat) ∧ (x.xs.length + x.h.length) * (1 : Nat) ≤ (140737488355328 : Nat) ∧
  x.xs.length + x.h.length ≤ (1152921504606846976 : Nat) ∧ True ∧ True ∧ x.xs ++ x.h = x.xs ++ x.h ∧ True

theorem rHash_eq : rHashVC = fnS E72 f62 (bodyOf f62) rHashLS noAnn := by kernel_rfl
theorem rHash_vc : rHashVC := by
  rintro ⟨xs, h⟩ ⟨hl, hh⟩
  simp only at hl hh
  exact ⟨rfl, trivial, hl, by simp only; omega, by simp only; omega, trivial, trivial, rfl, trivial⟩
theorem rHash_ok : Fits E72 f62 (bodyOf f62) rHashLS noAnn := by
  constructor
  rw [← rHash_eq]
  exact rHash_vc
theorem f62_has : Has prog 62 f62 (bodyOf f62) := ⟨by kernel_rfl, by kernel_rfl, by kernel_rfl⟩
theorem known73 : Known prog L73 := by
  unfold L73
  exact known72.lent mixed f62_has E72_eq rHash_ok (fun _ _ => Nat.zero_le _) (fun _ _ => rfl)
end Go.Proofs.YtcglahfmnoghjaaDoor

/-! A condition laid as bytes, by the program and by the document; the document's All; CondAll: what is said of them. Conditions: none. -/
namespace Go.Proofs.YtcglahfmnoghjaaDoor
open Go Go.Eng Go.Proofs.Tryd

def keysB : List Int → List Int
  | [] => []
  | k :: l => uintB (wr .u64 k) ++ keysB l
def brB (b : Br) : List Int := uintB (wr .u64 (b.keys.length : Int)) ++ keysB b.keys ++ b.lock ++ uintB (wr .u64 b.after) ++ uintB (wr .u64 b.older)
def brsB : List Br → List Int
  | [] => []
  | b :: l => brB b ++ brsB l
def putB (bs : List Br) : List Int := uintB (wr .u64 (bs.length : Int)) ++ brsB bs
def Locks (bs : List Br) : Prop := ∀ b, b ∈ bs → b.lock.length = 32
structure PutX where
  b : List Int
  bs : List Br
structure PutX.Ok (x : PutX) : Prop where
  len : x.b.length ≤ 10000000000
  w : weight x.bs ≤ 2000000
  locks : Locks x.bs
def putLS : LS AA where
  X := PutX
  pre := PutX.Ok
  args := fun x => [.rints .u8 x.b, .agg (.cell (.rseq 93 (show List (AA 93) from x.bs)) .nil)]
  hin := fun _ => []
  res := fun _ => [.vec 0]
  hout := fun x => [.ivec 5 .u8 (x.b ++ putB x.bs)]
def putGet (args : List (SV AA)) (sh : List (SO AA)) : Option PutX := match args with
  | [s, c] => match gI .u8 sh s, condG 93 sh c with
    | some b, some bs => some ⟨b, bs⟩
    | _, _ => none
  | _ => none
def rPutGet (args : List (SV AA)) (sh : List (SO AA)) : Option PutX := match args with
  | [s, c] => match gI .u8 sh s, condG 48 sh c with
    | some b, some bs => some ⟨b, bs⟩
    | _, _ => none
  | _ => none
/-- The writer that a slot speaks of: its entry, its line's entry, its line. -/
def writerAt (ts : List (SV AA)) (sh : List (SO AA)) (t : Nat) : Option (Nat × Nat × List Int) := match nth ts t with
  | some (.ptr i _) => match nth sh i with
    | some (.cells _ (.cell (.vec j) .nil)) => match nth sh j with
      | some (.ivec _ _ xs) => some (i, j, xs)
      | _ => none
    | _ => none
  | _ => none
def putAnn (x : PutX) : Anns AA := fun k ts sh => match writerAt ts sh 5 with
  | some (i, j, xs) => if k = 4 then some {
      X := Nat
      inv := fun n => n ≤ x.bs.length
      meas := fun n => x.bs.length - n
      slots := fun n => [(19, .int .i64 n)]
      heap := fun _ => [(i, wcell (cnt sh)), (j, .dead)]
      more := fun n => [.ivec 5 .u8 (xs ++ brsB (x.bs.take n))] }
    else (match nth ts 30 with
      | some (.rints _ ks) => some {
        X := Nat
        inv := fun n => n ≤ ks.length
        meas := fun n => ks.length - n
        slots := fun n => [(32, .int .i64 n)]
        heap := fun _ => [(i, wcell (cnt sh)), (j, .dead)]
        more := fun n => [.ivec 5 .u8 (xs ++ keysB (ks.take n))] }
      | _ => none)
  | none => none
def L74 : List (Nat × SpecT AA) := (25, tLent putLS putGet) :: L73
noncomputable def E74 : Eng AA := EE prog L74
theorem E74_eq : E74 = EE prog L74 := by
  unfold E74
  rfl
def rPutLS : LS AA where
  X := PutX
  pre := PutX.Ok
  args := fun x => [.rints .u8 x.b, .agg (.cell (.rseq 48 (show List (AA 48) from x.bs)) .nil)]
  hin := fun _ => []
  res := fun x => [.rints .u8 (x.b ++ putB x.bs)]
  hout := fun _ => []
/-- A vector that a loop lets go. -/
def deadOf : SV AA → List (Nat × SO AA)
  | .vec j => [(j, .dead)]
  | _ => []
def rPutAnn (x : PutX) : Anns AA := fun k ts sh => match nth ts 5 with
  | some s => match gI .u8 sh s with
    | some xs => if k = 5 then some {
        X := Nat
        inv := fun n => n ≤ x.bs.length
        meas := fun n => x.bs.length - n
        slots := fun n => [(6, .int .i64 n), (5, .rints .u8 (xs ++ brsB (x.bs.take n)))]
        heap := fun _ => deadOf s }
      else (match nth ts 7 with
        | some (.ptr j _) => match nth sh j with
          | some (.cells _ (.cell (.rints _ ks) _)) => some {
            X := Nat
            inv := fun n => n ≤ ks.length
            meas := fun n => ks.length - n
            slots := fun n => [(8, .int .i64 n), (5, .rints .u8 (xs ++ keysB (ks.take n)))]
            heap := fun _ => deadOf s }
          | _ => none
        | _ => none)
    | none => none
  | none => none
def L75 : List (Nat × SpecT AA) := (26, tLent rPutLS rPutGet) :: L74
noncomputable def E75 : Eng AA := EE prog L75
theorem E75_eq : E75 = EE prog L75 := by
  unfold E75
  rfl
/-! ## The document's All -/
/-- How many of these are less, from the first on. -/
def lowN (k : Int) : List Int → Nat
  | [] => 0
  | x :: l => if x < k then lowN k l + 1 else 0
def insU (l : List Int) (k : Int) : List Int := if k ∈ l then l else l.take (lowN k l) ++ [k] ++ l.drop (lowN k l)
def upOf (l : List Int) : List Int := l.foldl insU []
def rAllLS : LS AA where
  X := List Int
  pre := fun xs => xs.length ≤ 1000000
  args := fun xs => [.rints .i64 xs]
  hin := fun _ => []
  res := fun ks => [.agg (.cell (.rseq 48 (show List Br from [⟨upOf ks, List.replicate 32 0, 0, 0⟩])) .nil)]
  hout := fun _ => []
def rAllAnn (xs : List Int) : Anns AA := fun k ts _ => if k = 4 then some {
    X := Nat
    inv := fun n => n ≤ xs.length
    meas := fun n => xs.length - n
    slots := fun n => [(4, .int .i64 n), (3, .rints .i64 (upOf (xs.take n)))]
    heap := fun _ => [] }
  else (match nth ts 3, nth ts 17 with
    | some (.rints _ l), some (.int _ y) => some {
      X := Nat
      inv := fun n => n ≤ l.length ∧ lowN y l = n + lowN y (l.drop n)
      meas := fun n => l.length - n
      slots := fun n => [(5, .int .i64 n)]
      heap := fun _ => [] }
    | _, _ => none)
def L76 : List (Nat × SpecT AA) := (27, tLent rAllLS cloneIGet) :: L75
noncomputable def E76 : Eng AA := EE prog L76
theorem E76_eq : E76 = EE prog L76 := by
  unfold E76
  rfl
/-! ## The law -/
def allLawLS : LS AA where
  X := List Int
  pre := fun _ => True
  args := fun xs => [.rints .i64 xs]
  hin := fun _ => []
  res := fun _ => [.sb 0 true]
  hout := fun _ => []
end Go.Proofs.YtcglahfmnoghjaaDoor

/-! A condition laid as bytes: plain laws; the program's and the document's walk hold. Conditions: none. -/
namespace Go.Proofs.YtcglahfmnoghjaaDoor
open Go Go.Eng Go.Proofs.Tryd

theorem u64_wr (x : Int) : U64 (wr .u64 x) := by
  rw [wr64u]
  exact ⟨Int.emod_nonneg _ (by decide), Int.emod_lt_of_pos _ (by decide)⟩
theorem uintB_le (x : Int) : (uintB (wr .u64 x)).length ≤ 9 := by
  have := digs_le (u64_wr x)
  simp only [uintB, List.length_cons]
  omega
theorem keysB_le : ∀ ks : List Int, (keysB ks).length ≤ 9 * ks.length
  | [] => by simp [keysB]
  | k :: l => by
    have h1 := keysB_le l
    have h2 := uintB_le k
    simp only [keysB, List.length_append, List.length_cons]
    omega
theorem keysB_app : ∀ a b : List Int, keysB (a ++ b) = keysB a ++ keysB b
  | [], b => rfl
  | k :: a, b => by simp [keysB, keysB_app a b]
theorem keysB_up {ks : List Int} {i : Nat} (h : i < ks.length) : keysB (ks.take (i + 1)) = keysB (ks.take i) ++ uintB (wr .u64 (ks.getD i 0)) := by
  rw [take_up h rfl, keysB_app]
  simp [keysB]
theorem brB_le {b : Br} (h : b.lock.length = 32) : (brB b).length ≤ 59 + 9 * b.keys.length := by
  have h1 := uintB_le (b.keys.length : Int)
  have h2 := keysB_le b.keys
  have h3 := uintB_le b.after
  have h4 := uintB_le b.older
  simp only [brB, List.length_append, h]
  omega
theorem brsB_le : ∀ {bs : List Br}, Locks bs → (brsB bs).length ≤ 59 * weight bs
  | [], _ => by simp [brsB]
  | b :: l, h => by
    have h1 := brB_le (h b List.mem_cons_self)
    have h2 := brsB_le (bs := l) (fun c hc => h c (List.mem_cons_of_mem _ hc))
    unfold weight at h2 ⊢
    simp only [brsB, sumK, List.length_append, List.length_cons]
    omega
theorem brsB_app : ∀ a b : List Br, brsB (a ++ b) = brsB a ++ brsB b
  | [], b => rfl
  | k :: a, b => by simp [brsB, brsB_app a b]
theorem brsB_up {bs : List Br} {i : Nat} {y : Br} (h : bs[i]? = some y) : brsB (bs.take (i + 1)) = brsB (bs.take i) ++ brB y := by
  rw [List.take_add_one, h, brsB_app]
  simp [brsB]
theorem brsB_take_le {bs : List Br} (h : Locks bs) (i : Nat) : (brsB (bs.take i)).length ≤ 59 * weight bs := by
  have h1 := brsB_le h
  have h2 := congrArg (fun x => (brsB x).length) (List.take_append_drop i bs)
  simp only [brsB_app, List.length_append] at h2
  omega
theorem keysB_take_le (ks : List Int) (i : Nat) : (keysB (ks.take i)).length ≤ 9 * ks.length := by
  have h1 := keysB_le ks
  have h2 := congrArg (fun x => (keysB x).length) (List.take_append_drop i ks)
  simp only [keysB_app, List.length_append] at h2
  omega
theorem key_w {bs : List Br} {i : Nat} {y : Br} (h : bs[i]? = some y) : y.keys.length ≤ weight bs := by
  have := len_weight h
  unfold weight
  omega
theorem putB_le {bs : List Br} (h : Locks bs) : (putB bs).length ≤ 9 + 59 * weight bs := by
  have h1 := brsB_le h
  have h2 := uintB_le (bs.length : Int)
  simp only [putB, List.length_append]
  omega

def putVC : Prop := ∀ (x : PutX), x.Ok → (↑x.bs.length : Int) ≤ (9223372036854775807 : Int) → True ∧ True ∧ True ∧ (True ∧ wr IntKind.u64 (↑x.bs.length : Int) = wr
  IntKind.u64 (↑x.bs.length : Int)) ∧ (((SV.val (A := AA) (Value.slice none (0 : Nat) (0 : Nat)) : SV AA) = SV.val (A := AA) (Value.slice none (0 : Nat)
  (0 : Nat)) ∧ True) ∧ ([] : List Int) = [] ∧ True) ∧ (BN.mk [] (wr IntKind.u64 (↑x.bs.length : Int))).Low ∧ ((↑x.bs.length : Int) ≤ (9223372036854775807
  : Int) → (∃ x_1, Nat.le x_1 x.bs.length ∧ (↑x_1 : Int) = (0 : Int) ∧ ((x.bs = x.bs ∧ True) ∧ (True ∧ True) ∧ True) ∧ [] ++ uintB (wr IntKind.u64
  (↑x.bs.length : Int)) ++ brsB (List.take x_1 x.bs) = [] ++ uintB (wr IntKind.u64 (↑x.bs.length : Int)) ∧ True) ∧ ∀ (x_1 : Nat), x_1.le x.bs.length →
  (decide ((↑x_1 : Int) < (↑x.bs.length : Int)) = true → (0 : Int) ≤ (↑x_1 : Int) ∧ (↑x_1 : Int) < (↑x.bs.length : Int) ∧ ∀ (y : AA (93 : Nat)),
  x.bs[(↑x_1 : Int).toNat]? = some y → (↑y.keys.length : Int) ≤ (9223372036854775807 : Int) → (True ∧ wr IntKind.u64 (↑y.keys.length : Int) = wr
  IntKind.u64 (↑y.keys.length : Int)) ∧ ((True ∧ True) ∧ [] ++ uintB (wr IntKind.u64 (↑x.bs.length : Int)) ++ brsB (List.take x_1 x.bs) = [] ++ uintB (wr
  IntKind.u64 (↑x.bs.length : Int)) ++ brsB (List.take x_1 x.bs) ∧ True) ∧ (BN.mk ([] ++ uintB (wr IntKind.u64 (↑x.bs.length : Int)) ++ brsB (List.take
  x_1 x.bs)) (wr IntKind.u64 (↑y.keys.length : Int))).Low ∧ ((↑y.keys.length : Int) ≤ (9223372036854775807 : Int) → (∃ x_2, Nat.le x_2 y.keys.length ∧
  (↑x_2 : Int) = (0 : Int) ∧ ((x.bs = x.bs ∧ True) ∧ (True ∧ True) ∧ (y.keys = y.keys ∧ y.lock = y.lock ∧ y.after = y.after ∧ y.older = y.older ∧ True) ∧
  True) ∧ [] ++ uintB (wr IntKind.u64 (↑x.bs.length : Int)) ++ brsB (List.take x_1 x.bs) ++ uintB (wr IntKind.u64 (↑y.keys.length : Int)) ++ keysB
  (List.take x_2 y.keys) = [] ++ uintB (wr IntKind.u64 (↑x.bs.length : Int)) ++ brsB (List.take x_1 x.bs) ++ uintB (wr IntKind.u64 (↑y.keys.length :
  Int)) ∧ True) ∧ ∀ (x_2 : Nat), x_2.le y.keys.length → (decide ((↑x_2 : Int) < (↑y.keys.length : Int)) = true → (0 : Int) ≤ (↑x_2 : Int) ∧ (↑x_2 : Int)
  < (↑y.keys.length : Int) ∧ (↑x_2 : Int).toNat < y.keys.length ∧ (True ∧ wr IntKind.u64 (y.keys.getD (↑x_2 : Int).toNat (0 : Int)) = wr IntKind.u64
  (y.keys.getD (↑x_2 : Int).toNat (0 : Int))) ∧ ((True ∧ True) ∧ [] ++ uintB (wr IntKind.u64 (↑x.bs.length : Int)) ++ brsB (List.take x_1 x.bs) ++ uintB
  (wr IntKind.u64 (↑y.keys.length : Int)) ++ keysB (List.take x_2 y.keys) = [] ++ uintB (wr IntKind.u64 (↑x.bs.length : Int)) ++ brsB (List.take x_1
  x.bs) ++ uintB (wr IntKind.u64 (↑y.keys.length : Int)) ++ keysB (List.take x_2 y.keys) ∧ True) ∧ (BN.mk ([] ++ uintB (wr IntKind.u64 (↑x.bs.length :
  Int)) ++ brsB (List.take x_1 x.bs) ++ uintB (wr IntKind.u64 (↑y.keys.length : Int)) ++ keysB (List.take x_2 y.keys)) (wr IntKind.u64 (y.keys.getD (↑x_2
  : Int).toNat (0 : Int)))).Low ∧ inI64 ((↑x_2 : Int) + (1 : Int)) ∧ ∃ y_1, Nat.le y_1 y.keys.length ∧ y.keys.length - y_1 < y.keys.length - x_2 ∧ (↑y_1
  : Int) = (↑x_2 : Int) + (1 : Int) ∧ ((x.bs = x.bs ∧ True) ∧ (True ∧ True) ∧ (y.keys = y.keys ∧ y.lock = y.lock ∧ y.after = y.after ∧ y.older = y.older
  ∧ True) ∧ True) ∧ [] ++ uintB (wr IntKind.u64 (↑x.bs.length : Int)) ++ brsB (List.take x_1 x.bs) ++ uintB (wr IntKind.u64 (↑y.keys.length : Int)) ++
  keysB (List.take y_1 y.keys) = [] ++ uintB (wr IntKind.u64 (↑x.bs.length : Int)) ++ brsB (List.take x_1 x.bs) ++ uintB (wr IntKind.u64 (↑y.keys.length
  : Int)) ++ keysB (List.take x_2 y.keys) ++ uintB (wr IntKind.u64 (y.keys.getD (↑x_2 : Int).toNat (0 : Int))) ∧ True) ∧ (decide ((↑x_2 : Int) <
  (↑y.keys.length : Int)) = false → ((True ∧ y.lock = y.lock ∧ True) ∧ ((True ∧ True) ∧ [] ++ uintB (wr IntKind.u64 (↑x.bs.length : Int)) ++ brsB
  (List.take x_1 x.bs) ++ uintB (wr IntKind.u64 (↑y.keys.length : Int)) ++ keysB (List.take x_2 y.keys) = [] ++ uintB (wr IntKind.u64 (↑x.bs.length :
  Int)) ++ brsB (List.take x_1 x.bs) ++ uintB (wr IntKind.u64 (↑y.keys.length : Int)) ++ keysB (List.take x_2 y.keys) ∧ True) ∧ (BH.mk ([] ++ uintB (wr
  IntKind.u64 (↑x.bs.length : Int)) ++ brsB (List.take x_1 x.bs) ++ uintB (wr IntKind.u64 (↑y.keys.length : Int)) ++ keysB (List.take x_2 y.keys))
  y.lock).Ok ∧ ((True ∧ wr IntKind.u64 y.after = wr IntKind.u64 y.after) ∧ ((True ∧ True) ∧ [] ++ uintB (wr IntKind.u64 (↑x.bs.length : Int)) ++ brsB
  (List.take x_1 x.bs) ++ uintB (wr IntKind.u64 (↑y.keys.length : Int)) ++ keysB (List.take x_2 y.keys) ++ y.lock = [] ++ uintB (wr IntKind.u64
  (↑x.bs.length : Int)) ++ brsB (List.take x_1 x.bs) ++ uintB (wr IntKind.u64 (↑y.keys.length : Int)) ++ keysB (List.take x_2 y.keys) ++ y.lock ∧ True) ∧
  (BN.mk ([] ++ uintB (wr IntKind.u64 (↑x.bs.length : Int)) ++ brsB (List.take x_1 x.bs) ++ uintB (wr IntKind.u64 (↑y.keys.length : Int)) ++ keysB
  (List.take x_2 y.keys) ++ y.lock) (wr IntKind.u64 y.after)).Low ∧ (True ∧ wr IntKind.u64 y.older = wr IntKind.u64 y.older) ∧ ((True ∧ True) ∧ [] ++
  uintB (wr IntKind.u64 (↑x.bs.length : Int)) ++ brsB (List.take x_1 x.bs) ++ uintB (wr IntKind.u64 (↑y.keys.length : Int)) ++ keysB (List.take x_2
  y.keys) ++ y.lock ++ uintB (wr IntKind.u64 y.after) = [] ++ uintB (wr IntKind.u64 (↑x.bs.length : Int)) ++ brsB (List.take x_1 x.bs) ++ uintB (wr
  IntKind.u64 (↑y.keys.length : Int)) ++ keysB (List.take x_2 y.keys) ++ y.lock ++ uintB (wr IntKind.u64 y.after) ∧ True) ∧ (BN.mk ([] ++ uintB (wr
  IntKind.u64 (↑x.bs.length : Int)) ++ brsB (List.take x_1 x.bs) ++ uintB (wr IntKind.u64 (↑y.keys.length : Int)) ++ keysB (List.take x_2 y.keys) ++
  y.lock ++ uintB (wr IntKind.u64 y.after)) (wr IntKind.u64 y.older)).Low ∧ inI64 ((↑x_1 : Int) + (1 : Int)) ∧ ∃ y_1, Nat.le y_1 x.bs.length ∧
  x.bs.length - y_1 < x.bs.length - x_1 ∧ (↑y_1 : Int) = (↑x_1 : Int) + (1 : Int) ∧ ((x.bs = x.bs ∧ True) ∧ (True ∧ True) ∧ True) ∧ [] ++ uintB (wr
  IntKind.u64 (↑x.bs.length : Int)) ++ brsB (List.take y_1 x.bs) = [] ++ uintB (wr IntKind.u64 (↑x.bs.length : Int)) ++ brsB (List.take x_1 x.bs) ++
  uintB (wr IntKind.u64 (↑y.keys.length : Int)) ++ keysB (List.take x_2 y.keys) ++ y.lock ++ uintB (wr IntKind.u64 y.after) ++ uintB (wr IntKind.u64
  y.older) ∧ True) ∧ (True ∧ wr IntKind.u64 y.after = wr IntKind.u64 y.after) ∧ ((True ∧ True) ∧ [] ++ uintB (wr IntKind.u64 (↑x.bs.length : Int)) ++
  brsB (List.take x_1 x.bs) ++ uintB (wr IntKind.u64 (↑y.keys.length : Int)) ++ keysB (List.take x_2 y.keys) ++ y.lock = [] ++ uintB (wr IntKind.u64
  (↑x.bs.length : Int)) ++ brsB (List.take x_1 x.bs) ++ uintB (wr IntKind.u64 (↑y.keys.length : Int)) ++ keysB (List.take x_2 y.keys) ++ y.lock ∧ True) ∧
  (BN.mk ([] ++ uintB (wr IntKind.u64 (↑x.bs.length : Int)) ++ brsB (List.take x_1 x.bs) ++ uintB (wr IntKind.u64 (↑y.keys.length : Int)) ++ keysB
  (List.take x_2 y.keys) ++ y.lock) (wr IntKind.u64 y.after)).Low ∧ (True ∧ wr IntKind.u64 y.older = wr IntKind.u64 y.older) ∧ ((True ∧ True) ∧ [] ++
  uintB (wr IntKind.u64 (↑x.bs.length : Int)) ++ brsB (List.take x_1 x.bs) ++ uintB (wr IntKind.u64 (↑y.keys.length : Int)) ++ keysB (List.take x_2
  y.keys) ++ y.lock ++ uintB (wr IntKind.u64 y.after) = [] ++ uintB (wr IntKind.u64 (↑x.bs.length : Int)) ++ brsB (List.take x_1 x.bs) ++ uintB (wr
  IntKind.u64 (↑y.keys.length : Int)) ++ keysB (List.take x_2 y.keys) ++ y.lock ++ uintB (wr IntKind.u64 y.after) ∧ True) ∧ (BN.mk ([] ++ uintB (wr
  IntKind.u64 (↑x.bs.length : Int)) ++ brsB (List.take x_1 x.bs) ++ uintB (wr IntKind.u64 (↑y.keys.length : Int)) ++ keysB (List.take x_2 y.keys) ++
  y.lock ++ uintB (wr IntKind.u64 y.after)) (wr IntKind.u64 y.older)).Low ∧ inI64 ((↑x_1 : Int) + (1 : Int)) ∧ ∃ y_1, Nat.le y_1 x.bs.length ∧
  x.bs.length - y_1 < x.bs.length - x_1 ∧ (↑y_1 : Int) = (↑x_1 : Int) + (1 : Int) ∧ ((x.bs = x.bs ∧ True) ∧ (True ∧ True) ∧ True) ∧ [] ++ uintB (wr
  IntKind.u64 (↑x.bs.length : Int)) ++ brsB (List.take y_1 x.bs) = [] ++ uintB (wr IntKind.u64 (↑x.bs.length : Int)) ++ brsB (List.take x_1 x.bs) ++
  uintB (wr IntKind.u64 (↑y.keys.length : Int)) ++ keysB (List.take x_2 y.keys) ++ y.lock ++ uintB (wr IntKind.u64 y.after) ++ uintB (wr IntKind.u64
  y.older) ∧ True) ∧ (((True ∧ y.lock = y.lock ∧ True) ∧ ((True ∧ True) ∧ [] ++ uintB (wr IntKind.u64 (↑x.bs.length : Int)) ++ brsB (List.take x_1 x.bs)
  ++ uintB (wr IntKind.u64 (↑y.keys.length : Int)) ++ keysB (List.take x_2 y.keys) = [] ++ uintB (wr IntKind.u64 (↑x.bs.length : Int)) ++ brsB (List.take
  x_1 x.bs) ++ uintB (wr IntKind.u64 (↑y.keys.length : Int)) ++ keysB (List.take x_2 y.keys) ∧ True) ∧ (BH.mk ([] ++ uintB (wr IntKind.u64 (↑x.bs.length
  : Int)) ++ brsB (List.take x_1 x.bs) ++ uintB (wr IntKind.u64 (↑y.keys.length : Int)) ++ keysB (List.take x_2 y.keys)) y.lock).Ok ∧ ((True ∧ wr
  IntKind.u64 y.after = wr IntKind.u64 y.after) ∧ ((True ∧ True) ∧ [] ++ uintB (wr IntKind.u64 (↑x.bs.length : Int)) ++ brsB (List.take x_1 x.bs) ++
  uintB (wr IntKind.u64 (↑y.keys.length : Int)) ++ keysB (List.take x_2 y.keys) ++ y.lock = [] ++ uintB (wr IntKind.u64 (↑x.bs.length : Int)) ++ brsB
  (List.take x_1 x.bs) ++ uintB (wr IntKind.u64 (↑y.keys.length : Int)) ++ keysB (List.take x_2 y.keys) ++ y.lock ∧ True) ∧ (BN.mk ([] ++ uintB (wr
  IntKind.u64 (↑x.bs.length : Int)) ++ brsB (List.take x_1 x.bs) ++ uintB (wr IntKind.u64 (↑y.keys.length : Int)) ++ keysB (List.take x_2 y.keys) ++
  y.lock) (wr IntKind.u64 y.after)).Low ∧ (True ∧ wr IntKind.u64 y.older = wr IntKind.u64 y.older) ∧ ((True ∧ True) ∧ [] ++ uintB (wr IntKind.u64
  (↑x.bs.length : Int)) ++ brsB (List.take x_1 x.bs) ++ uintB (wr IntKind.u64 (↑y.keys.length : Int)) ++ keysB (List.take x_2 y.keys) ++ y.lock ++ uintB
  (wr IntKind.u64 y.after) = [] ++ uintB (wr IntKind.u64 (↑x.bs.length : Int)) ++ brsB (List.take x_1 x.bs) ++ uintB (wr IntKind.u64 (↑y.keys.length :
  Int)) ++ keysB (List.take x_2 y.keys) ++ y.lock ++ uintB (wr IntKind.u64 y.after) ∧ True) ∧ (BN.mk ([] ++ uintB (wr IntKind.u64 (↑x.bs.length : Int))
  ++ brsB (List.take x_1 x.bs) ++ uintB (wr IntKind.u64 (↑y.keys.length : Int)) ++ keysB (List.take x_2 y.keys) ++ y.lock ++ uintB (wr IntKind.u64
  y.after)) (wr IntKind.u64 y.older)).Low ∧ inI64 ((↑x_1 : Int) + (1 : Int)) ∧ ∃ y_1, Nat.le y_1 x.bs.length ∧ x.bs.length - y_1 < x.bs.length - x_1 ∧
  (↑y_1 : Int) = (↑x_1 : Int) + (1 : Int) ∧ ((x.bs = x.bs ∧ True) ∧ (True ∧ True) ∧ True) ∧ [] ++ uintB (wr IntKind.u64 (↑x.bs.length : Int)) ++ brsB
  (List.take y_1 x.bs) = [] ++ uintB (wr IntKind.u64 (↑x.bs.length : Int)) ++ brsB (List.take x_1 x.bs) ++ uintB (wr IntKind.u64 (↑y.keys.length : Int))
  ++ keysB (List.take x_2 y.keys) ++ y.lock ++ uintB (wr IntKind.u64 y.after) ++ uintB (wr IntKind.u64 y.older) ∧ True) ∧ (True ∧ wr IntKind.u64 y.after
  = wr IntKind.u64 y.after) ∧ ((True ∧ True) ∧ [] ++ uintB (wr IntKind.u64 (↑x.bs.length : Int)) ++ brsB (List.take x_1 x.bs) ++ uintB (wr IntKind.u64
  (↑y.keys.length : Int)) ++ keysB (List.take x_2 y.keys) ++ y.lock = [] ++ uintB (wr IntKind.u64 (↑x.bs.length : Int)) ++ brsB (List.take x_1 x.bs) ++
  uintB (wr IntKind.u64 (↑y.keys.length : Int)) ++ keysB (List.take x_2 y.keys) ++ y.lock ∧ True) ∧ (BN.mk ([] ++ uintB (wr IntKind.u64 (↑x.bs.length :
  Int)) ++ brsB (List.take x_1 x.bs) ++ uintB (wr IntKind.u64 (↑y.keys.length : Int)) ++ keysB (List.take x_2 y.keys) ++ y.lock) (wr IntKind.u64
  y.after)).Low ∧ (True ∧ wr IntKind.u64 y.older = wr IntKind.u64 y.older) ∧ ((True ∧ True) ∧ [] ++ uintB (wr IntKind.u64 (↑x.bs.length : Int)) ++ brsB
  (List.take x_1 x.bs) ++ uintB (wr IntKind.u64 (↑y.keys.length : Int)) ++ keysB (List.take x_2 y.keys) ++ y.lock ++ uintB (wr IntKind.u64 y.after) = []
  ++ uintB (wr IntKind.u64 (↑x.bs.length : Int)) ++ brsB (List.take x_1 x.bs) ++ uintB (wr IntKind.u64 (↑y.keys.length : Int)) ++ keysB (List.take x_2
  y.keys) ++ y.lock ++ uintB (wr IntKind.u64 y.after) ∧ True) ∧ (BN.mk ([] ++ uintB (wr IntKind.u64 (↑x.bs.length : Int)) ++ brsB (List.take x_1 x.bs) ++
  uintB (wr IntKind.u64 (↑y.keys.length : Int)) ++ keysB (List.take x_2 y.keys) ++ y.lock ++ uintB (wr IntKind.u64 y.after)) (wr IntKind.u64
  y.older)).Low ∧ inI64 ((↑x_1 : Int) + (1 : Int)) ∧ ∃ y_1, Nat.le y_1 x.bs.length ∧ x.bs.length - y_1 < x.bs.length - x_1 ∧ (↑y_1 : Int) = (↑x_1 : Int)
  + (1 : Int) ∧ ((x.bs = x.bs ∧ True) ∧ (True ∧ True) ∧ True) ∧ [] ++ uintB (wr IntKind.u64 (↑x.bs.length : Int)) ++ brsB (List.take y_1 x.bs) = [] ++
  uintB (wr IntKind.u64 (↑x.bs.length : Int)) ++ brsB (List.take x_1 x.bs) ++ uintB (wr IntKind.u64 (↑y.keys.length : Int)) ++ keysB (List.take x_2
  y.keys) ++ y.lock ++ uintB (wr IntKind.u64 y.after) ++ uintB (wr IntKind.u64 y.older) ∧ True) ∧ (True ∧ y.lock = y.lock ∧ True) ∧ ((True ∧ True) ∧ []
  ++ uintB (wr IntKind.u64 (↑x.bs.length : Int)) ++ brsB (List.take x_1 x.bs) ++ uintB (wr IntKind.u64 (↑y.keys.length : Int)) ++ keysB (List.take x_2
  y.keys) = [] ++ uintB (wr IntKind.u64 (↑x.bs.length : Int)) ++ brsB (List.take x_1 x.bs) ++ uintB (wr IntKind.u64 (↑y.keys.length : Int)) ++ keysB
  (List.take x_2 y.keys) ∧ True) ∧ (BH.mk ([] ++ uintB (wr IntKind.u64 (↑x.bs.length : Int)) ++ brsB (List.take x_1 x.bs) ++ uintB (wr IntKind.u64
  (↑y.keys.length : Int)) ++ keysB (List.take x_2 y.keys)) y.lock).Ok ∧ (True ∧ wr IntKind.u64 y.after = wr IntKind.u64 y.after) ∧ ((True ∧ True) ∧ [] ++
  uintB (wr IntKind.u64 (↑x.bs.length : Int)) ++ brsB (List.take x_1 x.bs) ++ uintB (wr IntKind.u64 (↑y.keys.length : Int)) ++ keysB (List.take x_2
  y.keys) ++ y.lock = [] ++ uintB (wr IntKind.u64 (↑x.bs.length : Int)) ++ brsB (List.take x_1 x.bs) ++ uintB (wr IntKind.u64 (↑y.keys.length : Int)) ++
  keysB (List.take x_2 y.keys) ++ y.lock ∧ True) ∧ (BN.mk ([] ++ uintB (wr IntKind.u64 (↑x.bs.length : Int)) ++ brsB (List.take x_1 x.bs) ++ uintB (wr
  IntKind.u64 (↑y.keys.length : Int)) ++ keysB (List.take x_2 y.keys) ++ y.lock) (wr IntKind.u64 y.after)).Low ∧ (True ∧ wr IntKind.u64 y.older = wr
  IntKind.u64 y.older) ∧ ((True ∧ True) ∧ [] ++ uintB (wr IntKind.u64 (↑x.bs.length : Int)) ++ brsB (List.take x_1 x.bs) ++ uintB (wr IntKind.u64
  (↑y.keys.length : Int)) ++ keysB (List.take x_2 y.keys) ++ y.lock ++ uintB (wr IntKind.u64 y.after) = [] ++ uintB (wr IntKind.u64 (↑x.bs.length : Int))
  ++ brsB (List.take x_1 x.bs) ++ uintB (wr IntKind.u64 (↑y.keys.length : Int)) ++ keysB (List.take x_2 y.keys) ++ y.lock ++ uintB (wr IntKind.u64
  y.after) ∧ True) ∧ (BN.mk ([] ++ uintB (wr IntKind.u64 (↑x.bs.length : Int)) ++ brsB (List.take x_1 x.bs) ++ uintB (wr IntKind.u64 (↑y.keys.length :
  Int)) ++ keysB (List.take x_2 y.keys) ++ y.lock ++ uintB (wr IntKind.u64 y.after)) (wr IntKind.u64 y.older)).Low ∧ inI64 ((↑x_1 : Int) + (1 : Int)) ∧ ∃
  y_1, Nat.le y_1 x.bs.length ∧ x.bs.length - y_1 < x.bs.length - x_1 ∧ (↑y_1 : Int) = (↑x_1 : Int) + (1 : Int) ∧ ((x.bs = x.bs ∧ True) ∧ (True ∧ True) ∧
  True) ∧ [] ++ uintB (wr IntKind.u64 (↑x.bs.length : Int)) ++ brsB (List.take y_1 x.bs) = [] ++ uintB (wr IntKind.u64 (↑x.bs.length : Int)) ++ brsB
  (List.take x_1 x.bs) ++ uintB (wr IntKind.u64 (↑y.keys.length : Int)) ++ keysB (List.take x_2 y.keys) ++ y.lock ++ uintB (wr IntKind.u64 y.after) ++
  uintB (wr IntKind.u64 y.older) ∧ True) ∧ ((True ∧ y.lock = y.lock ∧ True) ∧ ((True ∧ True) ∧ [] ++ uintB (wr IntKind.u64 (↑x.bs.length : Int)) ++ brsB
  (List.take x_1 x.bs) ++ uintB (wr IntKind.u64 (↑y.keys.length : Int)) ++ keysB (List.take x_2 y.keys) = [] ++ uintB (wr IntKind.u64 (↑x.bs.length :
  Int)) ++ brsB (List.take x_1 x.bs) ++ uintB (wr IntKind.u64 (↑y.keys.length : Int)) ++ keysB (List.take x_2 y.keys) ∧ True) ∧ (BH.mk ([] ++ uintB (wr
  IntKind.u64 (↑x.bs.length : Int)) ++ brsB (List.take x_1 x.bs) ++ uintB (wr IntKind.u64 (↑y.keys.length : Int)) ++ keysB (List.take x_2 y.keys))
  y.lock).Ok ∧ (True ∧ wr IntKind.u64 y.after = wr IntKind.u64 y.after) ∧ ((True ∧ True) ∧ [] ++ uintB (wr IntKind.u64 (↑x.bs.length : Int)) ++ brsB
  (List.take x_1 x.bs) ++ uintB (wr IntKind.u64 (↑y.keys.length : Int)) ++ keysB (List.take x_2 y.keys) ++ y.lock = [] ++ uintB (wr IntKind.u64
  (↑x.bs.length : Int)) ++ brsB (List.take x_1 x.bs) ++ uintB (wr IntKind.u64 (↑y.keys.length : Int)) ++ keysB (List.take x_2 y.keys) ++ y.lock ∧ True) ∧
  (BN.mk ([] ++ uintB (wr IntKind.u64 (↑x.bs.length : Int)) ++ brsB (List.take x_1 x.bs) ++ uintB (wr IntKind.u64 (↑y.keys.length : Int)) ++ keysB
  (List.take x_2 y.keys) ++ y.lock) (wr IntKind.u64 y.after)).Low ∧ (True ∧ wr IntKind.u64 y.older = wr IntKind.u64 y.older) ∧ ((True ∧ True) ∧ [] ++
  uintB (wr IntKind.u64 (↑x.bs.length : Int)) ++ brsB (List.take x_1 x.bs) ++ uintB (wr IntKind.u64 (↑y.keys.length : Int)) ++ keysB (List.take x_2
  y.keys) ++ y.lock ++ uintB (wr IntKind.u64 y.after) = [] ++ uintB (wr IntKind.u64 (↑x.bs.length : Int)) ++ brsB (List.take x_1 x.bs) ++ uintB (wr
  IntKind.u64 (↑y.keys.length : Int)) ++ keysB (List.take x_2 y.keys) ++ y.lock ++ uintB (wr IntKind.u64 y.after) ∧ True) ∧ (BN.mk ([] ++ uintB (wr
  IntKind.u64 (↑x.bs.length : Int)) ++ brsB (List.take x_1 x.bs) ++ uintB (wr IntKind.u64 (↑y.keys.length : Int)) ++ keysB (List.take x_2 y.keys) ++
  y.lock ++ uintB (wr IntKind.u64 y.after)) (wr IntKind.u64 y.older)).Low ∧ inI64 ((↑x_1 : Int) + (1 : Int)) ∧ ∃ y_1, Nat.le y_1 x.bs.length ∧
  x.bs.length - y_1 < x.bs.length - x_1 ∧ (↑y_1 : Int) = (↑x_1 : Int) + (1 : Int) ∧ ((x.bs = x.bs ∧ True) ∧ (True ∧ True) ∧ True) ∧ [] ++ uintB (wr
  IntKind.u64 (↑x.bs.length : Int)) ++ brsB (List.take y_1 x.bs) = [] ++ uintB (wr IntKind.u64 (↑x.bs.length : Int)) ++ brsB (List.take x_1 x.bs) ++
  uintB (wr IntKind.u64 (↑y.keys.length : Int)) ++ keysB (List.take x_2 y.keys) ++ y.lock ++ uintB (wr IntKind.u64 y.after) ++ uintB (wr IntKind.u64
  y.older) ∧ True) ∧ (True ∧ y.lock = y.lock ∧ True) ∧ ((True ∧ True) ∧ [] ++ uintB (wr IntKind.u64 (↑x.bs.length : Int)) ++ brsB (List.take x_1 x.bs) ++
  uintB (wr IntKind.u64 (↑y.keys.length : Int)) ++ keysB (List.take x_2 y.keys) = [] ++ uintB (wr IntKind.u64 (↑x.bs.length : Int)) ++ brsB (List.take
  x_1 x.bs) ++ uintB (wr IntKind.u64 (↑y.keys.length : Int)) ++ keysB (List.take x_2 y.keys) ∧ True) ∧ (BH.mk ([] ++ uintB (wr IntKind.u64 (↑x.bs.length
  : Int)) ++ brsB (List.take x_1 x.bs) ++ uintB (wr IntKind.u64 (↑y.keys.length : Int)) ++ keysB (List.take x_2 y.keys)) y.lock).Ok ∧ (True ∧ wr
  IntKind.u64 y.after = wr IntKind.u64 y.after) ∧ ((True ∧ True) ∧ [] ++ uintB (wr IntKind.u64 (↑x.bs.length : Int)) ++ brsB (List.take x_1 x.bs) ++
  uintB (wr IntKind.u64 (↑y.keys.length : Int)) ++ keysB (List.take x_2 y.keys) ++ y.lock = [] ++ uintB (wr IntKind.u64 (↑x.bs.length : Int)) ++ brsB
  (List.take x_1 x.bs) ++ uintB (wr IntKind.u64 (↑y.keys.length : Int)) ++ keysB (List.take x_2 y.keys) ++ y.lock ∧ True) ∧ (BN.mk ([] ++ uintB (wr
  IntKind.u64 (↑x.bs.length : Int)) ++ brsB (List.take x_1 x.bs) ++ uintB (wr IntKind.u64 (↑y.keys.length : Int)) ++ keysB (List.take x_2 y.keys) ++
  y.lock) (wr IntKind.u64 y.after)).Low ∧ (True ∧ wr IntKind.u64 y.older = wr IntKind.u64 y.older) ∧ ((True ∧ True) ∧ [] ++ uintB (wr IntKind.u64
  (↑x.bs.length : Int)) ++ brsB (List.take x_1 x.bs) ++ uintB (wr IntKind.u64 (↑y.keys.length : Int)) ++ keysB (List.take x_2 y.keys) ++ y.lock ++ uintB
  (wr IntKind.u64 y.after) = [] ++ uintB (wr IntKind.u64 (↑x.bs.length : Int)) ++ brsB (List.take x_1 x.bs) ++ uintB (wr IntKind.u64 (↑y.keys.length :
  Int)) ++ keysB (List.take x_2 y.keys) ++ y.lock ++ uintB (wr IntKind.u64 y.after) ∧ True) ∧ (BN.mk ([] ++ uintB (wr IntKind.u64 (↑x.bs.length : Int))
  ++ brsB (List.take x_1 x.bs) ++ uintB (wr IntKind.u64 (↑y.keys.length : Int)) ++ keysB (List.take x_2 y.keys) ++ y.lock ++ uintB (wr IntKind.u64
  y.after)) (wr IntKind.u64 y.older)).Low ∧ inI64 ((↑x_1 : Int) + (1 : Int)) ∧ ∃ y_1, Nat.le y_1 x.bs.length ∧ x.bs.length - y_1 < x.bs.length - x_1 ∧
  (↑y_1 : Int) = (↑x_1 : Int) + (1 : Int) ∧ ((x.bs = x.bs ∧ True) ∧ (True ∧ True) ∧ True) ∧ [] ++ uintB (wr IntKind.u64 (↑x.bs.length : Int)) ++ brsB
  (List.take y_1 x.bs) = [] ++ uintB (wr IntKind.u64 (↑x.bs.length : Int)) ++ brsB (List.take x_1 x.bs) ++ uintB (wr IntKind.u64 (↑y.keys.length : Int))
  ++ keysB (List.take x_2 y.keys) ++ y.lock ++ uintB (wr IntKind.u64 y.after) ++ uintB (wr IntKind.u64 y.older) ∧ True))) ∧ (decide ((↑x_1 : Int) <
  (↑x.bs.length : Int)) = false → True ∧ ((True ∧ True) ∧ [] ++ uintB (wr IntKind.u64 (↑x.bs.length : Int)) ++ brsB (List.take x_1 x.bs) = [] ++ uintB
  (wr IntKind.u64 (↑x.bs.length : Int)) ++ brsB (List.take x_1 x.bs) ∧ True) ∧ ([] ++ uintB (wr IntKind.u64 (↑x.bs.length : Int)) ++ brsB (List.take x_1
  x.bs)).length.le (1099511627776 : Nat) ∧ (x.b = x.b ∧ True) ∧ ([] ++ uintB (wr IntKind.u64 (↑x.bs.length : Int)) ++ brsB (List.take x_1 x.bs) = [] ++
  uintB (wr IntKind.u64 (↑x.bs.length : Int)) ++ brsB (List.take x_1 x.bs) ∧ True) ∧ [x.b, [] ++ uintB (wr IntKind.u64 (↑x.bs.length : Int)) ++ brsB
  (List.take x_1 x.bs)] = [x.b, [] ++ uintB (wr IntKind.u64 (↑x.bs.length : Int)) ++ brsB (List.take x_1 x.bs)] ∧ True ∧ LL [x.b, [] ++ uintB (wr
  IntKind.u64 (↑x.bs.length : Int)) ++ brsB (List.take x_1 x.bs)] ∧ True ∧ True ∧ x.b ++ putB x.bs = flat [x.b, [] ++ uintB (wr IntKind.u64 (↑x.bs.length
  : Int)) ++ brsB (List.take x_1 x.bs)] ∧ True))

theorem put_eq : putVC = fnS E73 f25 (bodyOf f25) putLS putAnn := by kernel_rfl
theorem put_vc : putVC := by
  rintro ⟨b, bs⟩ ⟨hb, hw, hlk⟩
  simp only at hb hw hlk
  have low : ∀ (xs : List Int) (n : Int), xs.length ≤ 1000000000000 → (BN.mk xs (wr .u64 n)).Low := fun xs n h => ⟨h, u64_wr n⟩
  have p0 := uintB_le (bs.length : Int)
  simp only [true_and, and_true, decide_eq_true_eq, decide_eq_false_iff_not, Int.toNat_natCast, List.nil_append]
  refine fun _ => ⟨low _ _ (by simp), fun _ => ⟨⟨0, Nat.zero_le _, rfl, by simp [brsB]⟩, fun i hi => ⟨fun h => ?_, fun h => ?_⟩⟩⟩
  · have hi' : i < bs.length := by omega
    have p1 := brsB_take_le hlk i
    refine ⟨by omega, by omega, fun y hy _ => ?_⟩
    have p2 := uintB_le (y.keys.length : Int)
    have p3 : y.keys.length ≤ weight bs := key_w hy
    have hl : y.lock.length = 32 := hlk y (List.mem_of_getElem? hy)
    refine ⟨low _ _ (by simp only [List.length_append]; omega), fun _ => ⟨⟨0, Nat.zero_le _, rfl, by simp [keysB]⟩, fun k hk => ⟨fun h2 => ?_, fun h2 => ?_⟩⟩⟩
    · have hk' : k < y.keys.length := by omega
      have p4 := keysB_take_le y.keys k
      exact ⟨by omega, by omega, by omega, low _ _ (by simp only [List.length_append]; omega), by unfold inI64; omega, k + 1, hk', by omega, by omega, by rw [keysB_up hk']; simp only [List.append_assoc]⟩
    · have p4 := keysB_take_le y.keys k
      have p5 := uintB_le y.after
      have e1 : y.keys.take k = y.keys := List.take_of_length_le (by omega)
      have F1 : (BH.mk (uintB (wr .u64 (bs.length : Int)) ++ brsB (bs.take i) ++ uintB (wr .u64 (y.keys.length : Int)) ++ keysB (y.keys.take k)) y.lock).Ok := ⟨by simp only [List.length_append]; omega, hl⟩
      have F2 : (BN.mk (uintB (wr .u64 (bs.length : Int)) ++ brsB (bs.take i) ++ uintB (wr .u64 (y.keys.length : Int)) ++ keysB (y.keys.take k) ++ y.lock) (wr .u64 y.after)).Low := low _ _ (by simp only [List.length_append]; omega)
      have F3 : (BN.mk (uintB (wr .u64 (bs.length : Int)) ++ brsB (bs.take i) ++ uintB (wr .u64 (y.keys.length : Int)) ++ keysB (y.keys.take k) ++ y.lock ++ uintB (wr .u64 y.after)) (wr .u64 y.older)).Low := low _ _ (by simp only [List.length_append]; omega)
      have F4 : inI64 ((i : Int) + 1) := by unfold inI64; omega
      have F5 : ∃ j, Nat.le j bs.length ∧ bs.length - j < bs.length - i ∧ (j : Int) = (i : Int) + 1 ∧ uintB (wr .u64 (bs.length : Int)) ++ brsB (bs.take j) = uintB (wr .u64 (bs.length : Int)) ++ brsB (bs.take i) ++ uintB (wr .u64 (y.keys.length : Int)) ++ keysB (y.keys.take k) ++ y.lock ++ uintB (wr .u64 y.after) ++ uintB (wr .u64 y.older) :=
        ⟨i + 1, hi', by omega, by omega, by rw [brsB_up (y := y) hy, e1]; simp only [brB, List.append_assoc]⟩
      simp only [F1, F2, F3, F4, F5, and_self]
  · have p1 := brsB_le hlk
    have e1 : bs.take i = bs := List.take_of_length_le (by omega)
    rw [e1]
    refine ⟨show (uintB (wr .u64 (bs.length : Int)) ++ brsB bs).length ≤ 1099511627776 by simp only [List.length_append]; omega, ⟨by simp, by simp only [flat, List.length_append, List.length_nil]; omega⟩, by simp only [flat, putB, List.append_nil]⟩
theorem put_ok : Fits E73 f25 (bodyOf f25) putLS putAnn := by
  constructor
  rw [← put_eq]
  exact put_vc
theorem f25_has : Has prog 25 f25 (bodyOf f25) := ⟨by kernel_rfl, by kernel_rfl, by kernel_rfl⟩
theorem known74 : Known prog L74 := by
  unfold L74
  exact known73.lent mixed f25_has E73_eq put_ok (fun _ _ => Nat.zero_le _) (fun _ _ => rfl)

theorem dup {A B L C : Prop} (a : A) (b : B) (c : C) : (A ∧ B ∧ (L → C)) ∧ (L → A ∧ B ∧ C) := ⟨⟨a, b, fun _ => c⟩, fun _ => ⟨a, b, c⟩⟩
def rPutVC : Prop := ∀ (x : PutX), x.Ok → (x.b.length * (1 : Nat) ≤ (140737488355328 : Nat) ∧ x.b.length ≤ (1152921504606846976 : Nat) ∧ ((↑x.bs.length : Int) ≤
  (9223372036854775807 : Int) → (x.b = x.b ∧ wr IntKind.u64 (↑x.bs.length : Int) = wr IntKind.u64 (↑x.bs.length : Int)) ∧ True ∧ (BN.mk x.b (wr
  IntKind.u64 (↑x.bs.length : Int))).Low ∧ (∃ x_1, Nat.le x_1 x.bs.length ∧ ((↑x_1 : Int) = (0 : Int) ∧ x.b ++ uintB (wr IntKind.u64 (↑x.bs.length :
  Int)) ++ brsB (List.take x_1 x.bs) = x.b ++ uintB (wr IntKind.u64 (↑x.bs.length : Int))) ∧ ((x.bs = x.bs ∧ True) ∧ x.b = x.b ∧ True) ∧ True) ∧ ∀ (x_1 :
  Nat), x_1.le x.bs.length → (↑x.bs.length : Int) ≤ (9223372036854775807 : Int) → (decide ((↑x_1 : Int) < (↑x.bs.length : Int)) = true → (0 : Int) ≤
  (↑x_1 : Int) ∧ (↑x_1 : Int) < (↑x.bs.length : Int) ∧ ∀ (y : AA (48 : Nat)), x.bs[(↑x_1 : Int).toNat]? = some y → (↑y.keys.length : Int) ≤
  (9223372036854775807 : Int) → (x.b ++ uintB (wr IntKind.u64 (↑x.bs.length : Int)) ++ brsB (List.take x_1 x.bs) = x.b ++ uintB (wr IntKind.u64
  (↑x.bs.length : Int)) ++ brsB (List.take x_1 x.bs) ∧ wr IntKind.u64 (↑y.keys.length : Int) = wr IntKind.u64 (↑y.keys.length : Int)) ∧ True ∧ (BN.mk
  (x.b ++ uintB (wr IntKind.u64 (↑x.bs.length : Int)) ++ brsB (List.take x_1 x.bs)) (wr IntKind.u64 (↑y.keys.length : Int))).Low ∧ (∃ x_2, Nat.le x_2
  y.keys.length ∧ ((↑x_2 : Int) = (0 : Int) ∧ x.b ++ uintB (wr IntKind.u64 (↑x.bs.length : Int)) ++ brsB (List.take x_1 x.bs) ++ uintB (wr IntKind.u64
  (↑y.keys.length : Int)) ++ keysB (List.take x_2 y.keys) = x.b ++ uintB (wr IntKind.u64 (↑x.bs.length : Int)) ++ brsB (List.take x_1 x.bs) ++ uintB (wr
  IntKind.u64 (↑y.keys.length : Int))) ∧ ((x.bs = x.bs ∧ True) ∧ x.b = x.b ∧ (y.keys = y.keys ∧ y.lock = y.lock ∧ y.after = y.after ∧ y.older = y.older ∧
  True) ∧ True) ∧ True) ∧ ∀ (x_2 : Nat), x_2.le y.keys.length → (↑y.keys.length : Int) ≤ (9223372036854775807 : Int) → (decide ((↑x_2 : Int) <
  (↑y.keys.length : Int)) = true → (0 : Int) ≤ (↑x_2 : Int) ∧ (↑x_2 : Int) < (↑y.keys.length : Int) ∧ (↑x_2 : Int).toNat < y.keys.length ∧ (x.b ++ uintB
  (wr IntKind.u64 (↑x.bs.length : Int)) ++ brsB (List.take x_1 x.bs) ++ uintB (wr IntKind.u64 (↑y.keys.length : Int)) ++ keysB (List.take x_2 y.keys) =
  x.b ++ uintB (wr IntKind.u64 (↑x.bs.length : Int)) ++ brsB (List.take x_1 x.bs) ++ uintB (wr IntKind.u64 (↑y.keys.length : Int)) ++ keysB (List.take
  x_2 y.keys) ∧ wr IntKind.u64 (y.keys.getD (↑x_2 : Int).toNat (0 : Int)) = wr IntKind.u64 (y.keys.getD (↑x_2 : Int).toNat (0 : Int))) ∧ True ∧ (BN.mk
  (x.b ++ uintB (wr IntKind.u64 (↑x.bs.length : Int)) ++ brsB (List.take x_1 x.bs) ++ uintB (wr IntKind.u64 (↑y.keys.length : Int)) ++ keysB (List.take
  x_2 y.keys)) (wr IntKind.u64 (y.keys.getD (↑x_2 : Int).toNat (0 : Int)))).Low ∧ inI64 ((↑x_2 : Int) + (1 : Int)) ∧ ∃ y_1, Nat.le y_1 y.keys.length ∧
  y.keys.length - y_1 < y.keys.length - x_2 ∧ ((↑y_1 : Int) = (↑x_2 : Int) + (1 : Int) ∧ x.b ++ uintB (wr IntKind.u64 (↑x.bs.length : Int)) ++ brsB
  (List.take x_1 x.bs) ++ uintB (wr IntKind.u64 (↑y.keys.length : Int)) ++ keysB (List.take y_1 y.keys) = x.b ++ uintB (wr IntKind.u64 (↑x.bs.length :
  Int)) ++ brsB (List.take x_1 x.bs) ++ uintB (wr IntKind.u64 (↑y.keys.length : Int)) ++ keysB (List.take x_2 y.keys) ++ uintB (wr IntKind.u64
  (y.keys.getD (↑x_2 : Int).toNat (0 : Int)))) ∧ ((x.bs = x.bs ∧ True) ∧ x.b = x.b ∧ (y.keys = y.keys ∧ y.lock = y.lock ∧ y.after = y.after ∧ y.older =
  y.older ∧ True) ∧ True) ∧ True) ∧ (decide ((↑x_2 : Int) < (↑y.keys.length : Int)) = false → (x.b ++ uintB (wr IntKind.u64 (↑x.bs.length : Int)) ++ brsB
  (List.take x_1 x.bs) ++ uintB (wr IntKind.u64 (↑y.keys.length : Int)) ++ keysB (List.take x_2 y.keys) = x.b ++ uintB (wr IntKind.u64 (↑x.bs.length :
  Int)) ++ brsB (List.take x_1 x.bs) ++ uintB (wr IntKind.u64 (↑y.keys.length : Int)) ++ keysB (List.take x_2 y.keys) ∧ y.lock = y.lock ∧ True) ∧ True ∧
  (BH.mk (x.b ++ uintB (wr IntKind.u64 (↑x.bs.length : Int)) ++ brsB (List.take x_1 x.bs) ++ uintB (wr IntKind.u64 (↑y.keys.length : Int)) ++ keysB
  (List.take x_2 y.keys)) y.lock).Ok ∧ (x.b ++ uintB (wr IntKind.u64 (↑x.bs.length : Int)) ++ brsB (List.take x_1 x.bs) ++ uintB (wr IntKind.u64
  (↑y.keys.length : Int)) ++ keysB (List.take x_2 y.keys) ++ y.lock = x.b ++ uintB (wr IntKind.u64 (↑x.bs.length : Int)) ++ brsB (List.take x_1 x.bs) ++
  uintB (wr IntKind.u64 (↑y.keys.length : Int)) ++ keysB (List.take x_2 y.keys) ++ y.lock ∧ wr IntKind.u64 y.after = wr IntKind.u64 y.after) ∧ True ∧
  (BN.mk (x.b ++ uintB (wr IntKind.u64 (↑x.bs.length : Int)) ++ brsB (List.take x_1 x.bs) ++ uintB (wr IntKind.u64 (↑y.keys.length : Int)) ++ keysB
  (List.take x_2 y.keys) ++ y.lock) (wr IntKind.u64 y.after)).Low ∧ (x.b ++ uintB (wr IntKind.u64 (↑x.bs.length : Int)) ++ brsB (List.take x_1 x.bs) ++
  uintB (wr IntKind.u64 (↑y.keys.length : Int)) ++ keysB (List.take x_2 y.keys) ++ y.lock ++ uintB (wr IntKind.u64 y.after) = x.b ++ uintB (wr
  IntKind.u64 (↑x.bs.length : Int)) ++ brsB (List.take x_1 x.bs) ++ uintB (wr IntKind.u64 (↑y.keys.length : Int)) ++ keysB (List.take x_2 y.keys) ++
  y.lock ++ uintB (wr IntKind.u64 y.after) ∧ wr IntKind.u64 y.older = wr IntKind.u64 y.older) ∧ True ∧ (BN.mk (x.b ++ uintB (wr IntKind.u64 (↑x.bs.length
  : Int)) ++ brsB (List.take x_1 x.bs) ++ uintB (wr IntKind.u64 (↑y.keys.length : Int)) ++ keysB (List.take x_2 y.keys) ++ y.lock ++ uintB (wr
  IntKind.u64 y.after)) (wr IntKind.u64 y.older)).Low ∧ inI64 ((↑x_1 : Int) + (1 : Int)) ∧ ∃ y_1, Nat.le y_1 x.bs.length ∧ x.bs.length - y_1 <
  x.bs.length - x_1 ∧ ((↑y_1 : Int) = (↑x_1 : Int) + (1 : Int) ∧ x.b ++ uintB (wr IntKind.u64 (↑x.bs.length : Int)) ++ brsB (List.take y_1 x.bs) = x.b ++
  uintB (wr IntKind.u64 (↑x.bs.length : Int)) ++ brsB (List.take x_1 x.bs) ++ uintB (wr IntKind.u64 (↑y.keys.length : Int)) ++ keysB (List.take x_2
  y.keys) ++ y.lock ++ uintB (wr IntKind.u64 y.after) ++ uintB (wr IntKind.u64 y.older)) ∧ ((x.bs = x.bs ∧ True) ∧ x.b = x.b ∧ True) ∧ True)) ∧ (decide
  ((↑x_1 : Int) < (↑x.bs.length : Int)) = false → x.b ++ putB x.bs = x.b ++ uintB (wr IntKind.u64 (↑x.bs.length : Int)) ++ brsB (List.take x_1 x.bs) ∧
  True ∧ True))) ∧ ((↑x.bs.length : Int) ≤ (9223372036854775807 : Int) → x.b.length * (1 : Nat) ≤ (140737488355328 : Nat) ∧ x.b.length ≤
  (1152921504606846976 : Nat) ∧ (x.b = x.b ∧ wr IntKind.u64 (↑x.bs.length : Int) = wr IntKind.u64 (↑x.bs.length : Int)) ∧ True ∧ (BN.mk x.b (wr
  IntKind.u64 (↑x.bs.length : Int))).Low ∧ (∃ x_1, Nat.le x_1 x.bs.length ∧ ((↑x_1 : Int) = (0 : Int) ∧ x.b ++ uintB (wr IntKind.u64 (↑x.bs.length :
  Int)) ++ brsB (List.take x_1 x.bs) = x.b ++ uintB (wr IntKind.u64 (↑x.bs.length : Int))) ∧ ((x.bs = x.bs ∧ True) ∧ x.b = x.b ∧ True) ∧ True) ∧ ∀ (x_1 :
  Nat), x_1.le x.bs.length → (↑x.bs.length : Int) ≤ (9223372036854775807 : Int) → (decide ((↑x_1 : Int) < (↑x.bs.length : Int)) = true → (0 : Int) ≤
  (↑x_1 : Int) ∧ (↑x_1 : Int) < (↑x.bs.length : Int) ∧ ∀ (y : AA (48 : Nat)), x.bs[(↑x_1 : Int).toNat]? = some y → (↑y.keys.length : Int) ≤
  (9223372036854775807 : Int) → (x.b ++ uintB (wr IntKind.u64 (↑x.bs.length : Int)) ++ brsB (List.take x_1 x.bs) = x.b ++ uintB (wr IntKind.u64
  (↑x.bs.length : Int)) ++ brsB (List.take x_1 x.bs) ∧ wr IntKind.u64 (↑y.keys.length : Int) = wr IntKind.u64 (↑y.keys.length : Int)) ∧ True ∧ (BN.mk
  (x.b ++ uintB (wr IntKind.u64 (↑x.bs.length : Int)) ++ brsB (List.take x_1 x.bs)) (wr IntKind.u64 (↑y.keys.length : Int))).Low ∧ (∃ x_2, Nat.le x_2
  y.keys.length ∧ ((↑x_2 : Int) = (0 : Int) ∧ x.b ++ uintB (wr IntKind.u64 (↑x.bs.length : Int)) ++ brsB (List.take x_1 x.bs) ++ uintB (wr IntKind.u64
  (↑y.keys.length : Int)) ++ keysB (List.take x_2 y.keys) = x.b ++ uintB (wr IntKind.u64 (↑x.bs.length : Int)) ++ brsB (List.take x_1 x.bs) ++ uintB (wr
  IntKind.u64 (↑y.keys.length : Int))) ∧ ((x.bs = x.bs ∧ True) ∧ x.b = x.b ∧ (y.keys = y.keys ∧ y.lock = y.lock ∧ y.after = y.after ∧ y.older = y.older ∧
  True) ∧ True) ∧ True) ∧ ∀ (x_2 : Nat), x_2.le y.keys.length → (↑y.keys.length : Int) ≤ (9223372036854775807 : Int) → (decide ((↑x_2 : Int) <
  (↑y.keys.length : Int)) = true → (0 : Int) ≤ (↑x_2 : Int) ∧ (↑x_2 : Int) < (↑y.keys.length : Int) ∧ (↑x_2 : Int).toNat < y.keys.length ∧ (x.b ++ uintB
  (wr IntKind.u64 (↑x.bs.length : Int)) ++ brsB (List.take x_1 x.bs) ++ uintB (wr IntKind.u64 (↑y.keys.length : Int)) ++ keysB (List.take x_2 y.keys) =
  x.b ++ uintB (wr IntKind.u64 (↑x.bs.length : Int)) ++ brsB (List.take x_1 x.bs) ++ uintB (wr IntKind.u64 (↑y.keys.length : Int)) ++ keysB (List.take
  x_2 y.keys) ∧ wr IntKind.u64 (y.keys.getD (↑x_2 : Int).toNat (0 : Int)) = wr IntKind.u64 (y.keys.getD (↑x_2 : Int).toNat (0 : Int))) ∧ True ∧ (BN.mk
  (x.b ++ uintB (wr IntKind.u64 (↑x.bs.length : Int)) ++ brsB (List.take x_1 x.bs) ++ uintB (wr IntKind.u64 (↑y.keys.length : Int)) ++ keysB (List.take
  x_2 y.keys)) (wr IntKind.u64 (y.keys.getD (↑x_2 : Int).toNat (0 : Int)))).Low ∧ inI64 ((↑x_2 : Int) + (1 : Int)) ∧ ∃ y_1, Nat.le y_1 y.keys.length ∧
  y.keys.length - y_1 < y.keys.length - x_2 ∧ ((↑y_1 : Int) = (↑x_2 : Int) + (1 : Int) ∧ x.b ++ uintB (wr IntKind.u64 (↑x.bs.length : Int)) ++ brsB
  (List.take x_1 x.bs) ++ uintB (wr IntKind.u64 (↑y.keys.length : Int)) ++ keysB (List.take y_1 y.keys) = x.b ++ uintB (wr IntKind.u64 (↑x.bs.length :
  Int)) ++ brsB (List.take x_1 x.bs) ++ uintB (wr IntKind.u64 (↑y.keys.length : Int)) ++ keysB (List.take x_2 y.keys) ++ uintB (wr IntKind.u64
  (y.keys.getD (↑x_2 : Int).toNat (0 : Int)))) ∧ ((x.bs = x.bs ∧ True) ∧ x.b = x.b ∧ (y.keys = y.keys ∧ y.lock = y.lock ∧ y.after = y.after ∧ y.older =
  y.older ∧ True) ∧ True) ∧ True) ∧ (decide ((↑x_2 : Int) < (↑y.keys.length : Int)) = false → (x.b ++ uintB (wr IntKind.u64 (↑x.bs.length : Int)) ++ brsB
  (List.take x_1 x.bs) ++ uintB (wr IntKind.u64 (↑y.keys.length : Int)) ++ keysB (List.take x_2 y.keys) = x.b ++ uintB (wr IntKind.u64 (↑x.bs.length :
  Int)) ++ brsB (List.take x_1 x.bs) ++ uintB (wr IntKind.u64 (↑y.keys.length : Int)) ++ keysB (List.take x_2 y.keys) ∧ y.lock = y.lock ∧ True) ∧ True ∧
  (BH.mk (x.b ++ uintB (wr IntKind.u64 (↑x.bs.length : Int)) ++ brsB (List.take x_1 x.bs) ++ uintB (wr IntKind.u64 (↑y.keys.length : Int)) ++ keysB
  (List.take x_2 y.keys)) y.lock).Ok ∧ (x.b ++ uintB (wr IntKind.u64 (↑x.bs.length : Int)) ++ brsB (List.take x_1 x.bs) ++ uintB (wr IntKind.u64
  (↑y.keys.length : Int)) ++ keysB (List.take x_2 y.keys) ++ y.lock = x.b ++ uintB (wr IntKind.u64 (↑x.bs.length : Int)) ++ brsB (List.take x_1 x.bs) ++
  uintB (wr IntKind.u64 (↑y.keys.length : Int)) ++ keysB (List.take x_2 y.keys) ++ y.lock ∧ wr IntKind.u64 y.after = wr IntKind.u64 y.after) ∧ True ∧
  (BN.mk (x.b ++ uintB (wr IntKind.u64 (↑x.bs.length : Int)) ++ brsB (List.take x_1 x.bs) ++ uintB (wr IntKind.u64 (↑y.keys.length : Int)) ++ keysB
  (List.take x_2 y.keys) ++ y.lock) (wr IntKind.u64 y.after)).Low ∧ (x.b ++ uintB (wr IntKind.u64 (↑x.bs.length : Int)) ++ brsB (List.take x_1 x.bs) ++
  uintB (wr IntKind.u64 (↑y.keys.length : Int)) ++ keysB (List.take x_2 y.keys) ++ y.lock ++ uintB (wr IntKind.u64 y.after) = x.b ++ uintB (wr
  IntKind.u64 (↑x.bs.length : Int)) ++ brsB (List.take x_1 x.bs) ++ uintB (wr IntKind.u64 (↑y.keys.length : Int)) ++ keysB (List.take x_2 y.keys) ++
  y.lock ++ uintB (wr IntKind.u64 y.after) ∧ wr IntKind.u64 y.older = wr IntKind.u64 y.older) ∧ True ∧ (BN.mk (x.b ++ uintB (wr IntKind.u64 (↑x.bs.length
  : Int)) ++ brsB (List.take x_1 x.bs) ++ uintB (wr IntKind.u64 (↑y.keys.length : Int)) ++ keysB (List.take x_2 y.keys) ++ y.lock ++ uintB (wr
  IntKind.u64 y.after)) (wr IntKind.u64 y.older)).Low ∧ inI64 ((↑x_1 : Int) + (1 : Int)) ∧ ∃ y_1, Nat.le y_1 x.bs.length ∧ x.bs.length - y_1 <
  x.bs.length - x_1 ∧ ((↑y_1 : Int) = (↑x_1 : Int) + (1 : Int) ∧ x.b ++ uintB (wr IntKind.u64 (↑x.bs.length : Int)) ++ brsB (List.take y_1 x.bs) = x.b ++
  uintB (wr IntKind.u64 (↑x.bs.length : Int)) ++ brsB (List.take x_1 x.bs) ++ uintB (wr IntKind.u64 (↑y.keys.length : Int)) ++ keysB (List.take x_2
  y.keys) ++ y.lock ++ uintB (wr IntKind.u64 y.after) ++ uintB (wr IntKind.u64 y.older)) ∧ ((x.bs = x.bs ∧ True) ∧ x.b = x.b ∧ True) ∧ True)) ∧ (decide
  ((↑x_1 : Int) < (↑x.bs.length : Int)) = false → x.b ++ putB x.bs = x.b ++ uintB (wr IntKind.u64 (↑x.bs.length : Int)) ++ brsB (List.take x_1 x.bs) ∧
  True ∧ True))

theorem rPut_eq : rPutVC = fnS E74 f26 (bodyOf f26) rPutLS rPutAnn := by kernel_rfl
theorem rPut_vc : rPutVC := by
  rintro ⟨b, bs⟩ ⟨hb, hw, hlk⟩
  simp only at hb hw hlk
  have low : ∀ (xs : List Int) (n : Int), xs.length ≤ 1000000000000 → (BN.mk xs (wr .u64 n)).Low := fun xs n h => ⟨h, u64_wr n⟩
  have p0 := uintB_le (bs.length : Int)
  simp only [true_and, and_true, decide_eq_true_eq, decide_eq_false_iff_not, Int.toNat_natCast]
  refine dup (by omega) (by omega) ⟨low _ _ (by omega), ⟨0, Nat.zero_le _, rfl, by simp [brsB]⟩, fun i hi _ => ⟨fun h => ?_, fun h => ?_⟩⟩
  · have hi' : i < bs.length := by omega
    have p1 := brsB_take_le hlk i
    refine ⟨by omega, by omega, fun y hy _ => ?_⟩
    have p2 := uintB_le (y.keys.length : Int)
    have p3 : y.keys.length ≤ weight bs := key_w hy
    have hl : y.lock.length = 32 := hlk y (List.mem_of_getElem? hy)
    refine ⟨low _ _ (by simp only [List.length_append]; omega), ⟨0, Nat.zero_le _, rfl, by simp [keysB]⟩, fun k hk _ => ⟨fun h2 => ?_, fun h2 => ?_⟩⟩
    · have hk' : k < y.keys.length := by omega
      have p4 := keysB_take_le y.keys k
      exact ⟨by omega, by omega, by omega, low _ _ (by simp only [List.length_append]; omega), by unfold inI64; omega, k + 1, hk', by omega, by omega, by rw [keysB_up hk']; simp only [List.append_assoc]⟩
    · have p4 := keysB_take_le y.keys k
      have p5 := uintB_le y.after
      have e1 : y.keys.take k = y.keys := List.take_of_length_le (by omega)
      have F1 : (BH.mk (b ++ uintB (wr .u64 (bs.length : Int)) ++ brsB (bs.take i) ++ uintB (wr .u64 (y.keys.length : Int)) ++ keysB (y.keys.take k)) y.lock).Ok := ⟨by simp only [List.length_append]; omega, hl⟩
      have F2 : (BN.mk (b ++ uintB (wr .u64 (bs.length : Int)) ++ brsB (bs.take i) ++ uintB (wr .u64 (y.keys.length : Int)) ++ keysB (y.keys.take k) ++ y.lock) (wr .u64 y.after)).Low := low _ _ (by simp only [List.length_append]; omega)
      have F3 : (BN.mk (b ++ uintB (wr .u64 (bs.length : Int)) ++ brsB (bs.take i) ++ uintB (wr .u64 (y.keys.length : Int)) ++ keysB (y.keys.take k) ++ y.lock ++ uintB (wr .u64 y.after)) (wr .u64 y.older)).Low := low _ _ (by simp only [List.length_append]; omega)
      have F4 : inI64 ((i : Int) + 1) := by unfold inI64; omega
      have F5 : ∃ j, Nat.le j bs.length ∧ bs.length - j < bs.length - i ∧ (j : Int) = (i : Int) + 1 ∧ b ++ uintB (wr .u64 (bs.length : Int)) ++ brsB (bs.take j) = b ++ uintB (wr .u64 (bs.length : Int)) ++ brsB (bs.take i) ++ uintB (wr .u64 (y.keys.length : Int)) ++ keysB (y.keys.take k) ++ y.lock ++ uintB (wr .u64 y.after) ++ uintB (wr .u64 y.older) :=
        ⟨i + 1, hi', by omega, by omega, by rw [brsB_up (y := y) hy, e1]; simp only [brB, List.append_assoc]⟩
      simp only [F1, F2, F3, F4, F5, and_self]
  · have p1 := brsB_le hlk
    have e1 : bs.take i = bs := List.take_of_length_le (by omega)
    rw [e1]
    simp only [putB, List.append_assoc]
theorem rPut_ok : Fits E74 f26 (bodyOf f26) rPutLS rPutAnn := by
  constructor
  rw [← rPut_eq]
  exact rPut_vc
theorem f26_has : Has prog 26 f26 (bodyOf f26) := ⟨by kernel_rfl, by kernel_rfl, by kernel_rfl⟩
theorem known75 : Known prog L75 := by
  unfold L75
  exact known74.lent mixed f26_has E74_eq rPut_ok (fun _ _ => Nat.le_refl _) (fun _ _ => rfl)
end Go.Proofs.YtcglahfmnoghjaaDoor

/-! An error's number, for the transactions' laws. Conditions: the variable errors.errorType holds what its row says. Began as the kit's worked example 'ToyasWalks', turned to this program. -/
namespace Go.Proofs.YtcglahfmnoghjaaDoor
open Go.RowKit Go.Extern.Stop Go.Stop Go.Extern

set_option maxHeartbeats 4000000 in
theorem num5_nil (w : World) : Calls Tryd.prog 34 #[.nilIface] w fun e w' => e = .returned (.int .i64 0) ∧ w' = w.alloc (.cells #[.int .i64 0] 94) := by
  go_enter Tryd.func34, Tryd.ntmps34
  go_wp2
  go_ret
  exact ⟨rfl, rfl⟩

set_option maxHeartbeats 4000000 in
theorem num5_errno (n : Int) (w : World) (hg : w.cell? ⟨0, 0, none⟩ = some (.iface 179 (.agg #[.pointer (some ⟨3, 34, none⟩)]))) :
    Calls Tryd.prog 34 #[.iface 94 (.int .i64 n)] w fun e w' => e = .returned (.int .i64 n) ∧ w' = ((((w.alloc (.cells #[.int .i64 n] 94)).alloc (.cells #[.pointer (some ⟨w.heap.size, 0, none⟩)] 96)).alloc (.cells #[.pointer (some ⟨3, 96, none⟩), .pointer (some ⟨w.heap.size + 1, 0, none⟩), .int .u64 150] 137)).alloc (.cells #[.pointer (some ⟨3, 96, none⟩), .pointer (some ⟨w.heap.size + 1, 0, none⟩), .int .u64 150] 137)).alloc (.cells #[.int .i64 n] 94) := by
  have hlt : 0 < w.heap.size := by
    rcases Nat.eq_zero_or_pos w.heap.size with h0 | h
    · simp [World.cell?, h0] at hg
    · exact h
  have hgA : (w.alloc (.cells #[.int .i64 0] 94)).cell? ⟨0, 0, none⟩ = some (.iface 179 (.agg #[.pointer (some ⟨3, 34, none⟩)])) := by
    rw [World.cell?_alloc_lt _ _ ⟨0, 0, none⟩ hlt]; exact hg
  have htA : (w.alloc (.cells #[.int .i64 0] 94)).cell? ⟨w.heap.size, 0, none⟩ = some (.int .i64 0) := by simp
  have hfA : (w.alloc (.cells #[.int .i64 0] 94)).frozen? ⟨w.heap.size, 0, none⟩ = false := by simp
  have hit := as_hit n ⟨w.heap.size, 0, none⟩ (.int .i64 0) _ hgA htA hfA
  go_enter Tryd.func34, Tryd.ntmps34
  go_wp2_with (first | (go_at_call 42; refine hit.mono ?_; rintro e w' ⟨rfl, rfl⟩))
  go_ret
  exact ⟨rfl, rfl⟩
end Go.Proofs.YtcglahfmnoghjaaDoor

/-! Transactions: whether one can be, what its outputs have; its bytes; its sum: what is said of them. Conditions: none. -/
namespace Go.Proofs.YtcglahfmnoghjaaDoor
open Go Go.Eng Go.Proofs.Tryd

structure TxD where
  lock : Int
  ins : List TIn
  outs : List TOut
def txSL (t : TxD) : SL AA := .cell (.int .i64 t.lock) (.cell (.rseq 83 (show List (AA 83) from t.ins)) (.cell (.rseq 77 (show List (AA 77) from t.outs)) .nil))
def decTx (sh : List (SO AA)) : SV AA → Option TxD
  | .agg (.cell l (.cell a (.cell b .nil))) => match asI l, seqOfS 83 sh a, seqOfS 77 sh b with
    | some l, some a, some b => some ⟨l, a, b⟩
    | _, _, _ => none
  | _ => none
def tinSL (x : TIn) : SL AA := .run .u8 32 x.tx (.cell (.int .i64 x.n) (.cell (.int .i64 x.branch) (.cell (.rints .u8 x.secret) .nil)))
def decTin (sh : List (SO AA)) : SV AA → Option TIn
  | .agg (.run .u8 _ tx (.cell n (.cell b (.cell s .nil)))) => match asI n, asI b, gI .u8 sh s with
    | some n, some b, some s => some ⟨tx, n, b, s⟩
    | _, _, _ => none
  | _ => none
/-! ## Inputs -/
def inOk (x : TIn) : Bool := decide (0 ≤ x.n) && (decide (x.n < 64) && (decide (0 ≤ x.branch) && (decide (x.branch < 8) && decide ((x.secret.length : Int) ≤ 64))))
def trightLS : LS AA where
  X := TIn
  pre := fun _ => True
  args := fun x => [.agg (tinSL x)]
  hin := fun _ => []
  res := fun x => [.sb 0 (inOk x)]
  hout := fun _ => []
def tinGet (args : List (SV AA)) (sh : List (SO AA)) : Option TIn := match args with
  | [x] => decTin sh x
  | _ => none
/-- An error's number. -/
def L80 : List (Nat × SpecT AA) := (34, numT) :: L74
def L81 : List (Nat × SpecT AA) := (66, tLent trightLS tinGet) :: L80
noncomputable def E80 : Eng AA := EE prog L80
theorem E80_eq : E80 = EE prog L80 := by
  unfold E80
  rfl
noncomputable def E81 : Eng AA := EE prog L81
theorem E81_eq : E81 = EE prog L81 := by
  unfold E81
  rfl
def oddInLS : LS AA where
  X := TIn
  pre := fun _ => True
  args := fun x => [.agg (tinSL x)]
  hin := fun _ => []
  res := fun x => [.sb 0 (!inOk x)]
  hout := fun _ => []
def L82 : List (Nat × SpecT AA) := (65, tLent oddInLS tinGet) :: L81
noncomputable def E82 : Eng AA := EE prog L82
theorem E82_eq : E82 = EE prog L82 := by
  unfold E82
  rfl
/-- Where the first input is that can't be, or -1. -/
def badIn : List TIn → Nat → Int
  | [], _ => -1
  | x :: l, n => if inOk x = true then badIn l (n + 1) else n
def indexInLS : LS AA where
  X := List TIn
  pre := fun _ => True
  args := fun l => [.rseq 83 (show List (AA 83) from l), .fn (.func 65) .nil .nil]
  hin := fun _ => []
  res := fun l => [.int .i64 (badIn l 0)]
  hout := fun _ => []
def insGet (args : List (SV AA)) (sh : List (SO AA)) : Option (List TIn) := match args with
  | [s, _] => seqOfS 83 sh s
  | _ => none
def indexInAnn (l : List TIn) : Anns AA := fun _ _ _ => some {
  X := Nat
  inv := fun k => k ≤ l.length ∧ l.length ≤ 9223372036854775807 ∧ badIn l 0 = badIn (l.drop k) k
  meas := fun k => l.length - k
  slots := fun k => [(8, .int .i64 k)]
  heap := fun _ => [] }
def L83 : List (Nat × SpecT AA) := (103, tLent indexInLS insGet) :: L82
noncomputable def E83 : Eng AA := EE prog L83
theorem E83_eq : E83 = EE prog L83 := by
  unfold E83
  rfl
def anyInLS : LS AA where
  X := List TIn
  pre := fun _ => True
  args := fun l => [.rseq 83 (show List (AA 83) from l), .fn (.func 65) .nil .nil]
  hin := fun _ => []
  res := fun l => [.sb 0 (decide (badIn l 0 ≥ 0))]
  hout := fun _ => []
def L84 : List (Nat × SpecT AA) := (68, tLent anyInLS insGet) :: L83
noncomputable def E84 : Eng AA := EE prog L84
theorem E84_eq : E84 = EE prog L84 := by
  unfold E84
  rfl
def someB (n : Int) : Bool := decide (n ≥ 1) && decide (n ≤ 64)
def someLS : LS AA where
  X := Int
  pre := fun _ => True
  args := fun n => [.int .i64 n]
  hin := fun _ => []
  res := fun n => [.sb 0 (someB n)]
  hout := fun _ => []
def intGet (args : List (SV AA)) (_ : List (SO AA)) : Option Int := match args with
  | [s] => asI s
  | _ => none
def L85 : List (Nat × SpecT AA) := (67, tLent someLS intGet) :: L84
noncomputable def E85 : Eng AA := EE prog L85
theorem E85_eq : E85 = EE prog L85 := by
  unfold E85
  rfl
/-! ## Outputs -/
noncomputable def outE (o : TOut) : Int := if o.amount < 10 then 27 else if o.amount > 1125899906842624 then 5 else checkN o.cond
noncomputable def ocheckLS : LS AA where
  X := TOut
  pre := fun _ => True
  args := fun o => [.agg (.cell (.int .i64 o.amount) (.cell (.rseq 93 (show List (AA 93) from o.cond)) .nil))]
  hin := fun _ => []
  res := fun o => [.err 94 (outE o)]
  hout := fun _ => []
def outGet (args : List (SV AA)) (sh : List (SO AA)) : Option TOut := match args with
  | [.agg (.cell n (.cell s .nil))] => match asI n, seqOfS 93 sh s with
    | some n, some bs => some ⟨n, bs⟩
    | _, _ => none
  | _ => none
noncomputable def L86 : List (Nat × SpecT AA) := (69, tLent ocheckLS outGet) :: L85
noncomputable def E86 : Eng AA := EE prog L86
theorem E86_eq : E86 = EE prog L86 := by
  unfold E86
  rfl
/-- What all have together, behind so much; the error. -/
def totG : List TOut → Int → Int × Int
  | [], n => (n, 0)
  | o :: l, n => if o.amount < 0 ∨ o.amount > 1125899906842624 - n then (0, 5) else totG l (n + o.amount)
def totalLS : LS AA where
  X := TxD
  pre := fun _ => True
  args := fun t => [.agg (txSL t)]
  hin := fun _ => []
  res := fun t => [.int .i64 (totG t.outs 0).1, .err 94 (totG t.outs 0).2]
  hout := fun _ => []
def txGet (args : List (SV AA)) (sh : List (SO AA)) : Option TxD := match args with
  | [x] => decTx sh x
  | _ => none
structure TotI (l : List TOut) (k : Nat) (n : Int) : Prop where
  le : k ≤ l.length
  len : l.length ≤ 9223372036854775807
  lo : 0 ≤ n
  hi : n ≤ 1125899906842624
  eq : totG l 0 = totG (l.drop k) n
def totalAnn (t : TxD) : Anns AA := fun _ _ _ => some {
  X := Nat × Int
  inv := fun x => TotI t.outs x.1 x.2
  meas := fun x => t.outs.length - x.1
  slots := fun x => [(10, .int .i64 x.1), (4, .int .i64 x.2)]
  heap := fun _ => [] }
noncomputable def L87 : List (Nat × SpecT AA) := (31, tLent totalLS txGet) :: L86
noncomputable def E87 : Eng AA := EE prog L87
theorem E87_eq : E87 = EE prog L87 := by
  unfold E87
  rfl
/-! ## A transaction's check -/
def ptOf (x : TIn) : Pt := ⟨x.tx, x.n⟩
noncomputable def outsE : List TOut → Int
  | [] => 0
  | o :: l => if outE o = 0 then outsE l else outE o
noncomputable def checkT (t : TxD) : Int :=
  open Classical in
  if t.lock < 0 ∨ t.lock > 1099511627776 ∨ someB t.ins.length = false ∨ someB t.outs.length = false ∨ badIn t.ins 0 ≥ 0 then 4
  else if ¬ (t.ins.map ptOf).Nodup then 9
  else if outsE t.outs ≠ 0 then outsE t.outs else (totG t.outs 0).2
noncomputable def tcheckLS : LS AA where
  X := TxD
  pre := fun _ => True
  args := fun t => [.agg (txSL t)]
  hin := fun _ => []
  res := fun t => [.err 94 (checkT t)]
  hout := fun _ => []
/-- What the map holds behind so many inputs. -/
structure MapI (l : List TIn) (k : Nat) (es : List (Pt × Int)) (st : List Int) : Prop where
  le : k ≤ l.length
  len : es.length = st.length
  dis : (es.map (·.1)).Nodup
  mem : ∀ p, p ∈ es.map (·.1) ↔ p ∈ (l.take k).map ptOf
  val : ∀ p, p ∈ es → 0 ≤ p.2 ∧ p.2 ≤ k
  cnt : es.length ≤ k
structure MapX where
  k : Nat
  es : List (Pt × Int)
  st : List Int
noncomputable def tcheckAnn (t : TxD) : Anns AA := fun k ts _ => if k = 7 then (match nth ts 4 with
    | some (.ptr i _) => some {
      X := MapX
      inv := fun x => MapI t.ins x.k x.es x.st
      meas := fun x => t.ins.length - x.k
      slots := fun x => [(45, .int .i64 x.k)]
      heap := fun x => [(i, .smap 81 3 (show List (AA 81 × AA 3) from x.es) x.st)] }
    | _ => none)
  else some {
    X := Nat
    inv := fun n => n ≤ t.outs.length ∧ outsE t.outs = outsE (t.outs.drop n)
    meas := fun n => t.outs.length - n
    slots := fun n => [(67, .int .i64 n)]
    heap := fun _ => [] }
noncomputable def L88 : List (Nat × SpecT AA) := (35, tLent tcheckLS txGet) :: L87
noncomputable def E88 : Eng AA := EE prog L88
theorem E88_eq : E88 = EE prog L88 := by
  unfold E88
  rfl
end Go.Proofs.YtcglahfmnoghjaaDoor

/-! Transactions: whether one can be, what its outputs have: plain laws; the walks hold. Conditions: none. -/
namespace Go.Proofs.YtcglahfmnoghjaaDoor
open Go Go.Eng Go.Proofs.Tryd

theorem f34_body : f34.body = some (bodyOf f34) := by kernel_rfl
theorem f34_name : (f34.name == "runtime.NumGoroutine") = false := by kernel_rfl
theorem known80 : Known prog L80 := by
  unfold L80
  exact num_known known74 func34 f34_name f34_body num5_nil num5_errno
def trightVC : Prop := ∀ (x : TIn), True → (decide (x.n ≥ (0 : Int)) = true → (decide (x.n < (64 : Int)) = true → (decide (x.branch ≥ (0 : Int)) = true → (decide (x.branch <
  (8 : Int)) = true → (↑x.secret.length : Int) ≤ (9223372036854775807 : Int) → inOk x = decide ((↑x.secret.length : Int) ≤ (64 : Int)) ∧ True ∧ True) ∧
  (decide (x.branch < (8 : Int)) = false → inOk x = false ∧ True ∧ True)) ∧ (decide (x.branch ≥ (0 : Int)) = false → inOk x = false ∧ True ∧ True)) ∧
  (decide (x.n < (64 : Int)) = false → inOk x = false ∧ True ∧ True)) ∧ (decide (x.n ≥ (0 : Int)) = false → inOk x = false ∧ True ∧ True)

theorem tright_eq : trightVC = fnS E80 f66 (bodyOf f66) trightLS noAnn := by kernel_rfl
theorem tright_vc : trightVC := by
  intro x _
  unfold inOk
  refine ⟨fun h1 => ⟨fun h2 => ⟨fun h3 => ⟨fun h4 _ => ?_, fun h4 => ?_⟩, fun h3 => ?_⟩, fun h2 => ?_⟩, fun h1 => ?_⟩
  all_goals
    refine ⟨?_, trivial, trivial⟩
    simp only [decide_eq_true_eq, decide_eq_false_iff_not] at *
    first
    | (rw [decide_eq_true (show 0 ≤ x.n by omega), decide_eq_true h2, decide_eq_true (show 0 ≤ x.branch by omega), decide_eq_true h4]; rfl)
    | (rw [decide_eq_false h4]; simp)
    | (rw [decide_eq_false (show ¬ 0 ≤ x.branch by omega)]; simp)
    | (rw [decide_eq_false h2]; simp)
    | (rw [decide_eq_false (show ¬ 0 ≤ x.n by omega)]; simp)
theorem tright_ok : Fits E80 f66 (bodyOf f66) trightLS noAnn := by
  constructor
  rw [← tright_eq]
  exact tright_vc
theorem f66_has : Has prog 66 f66 (bodyOf f66) := ⟨by kernel_rfl, by kernel_rfl, by kernel_rfl⟩
theorem known81 : Known prog L81 := by
  unfold L81
  exact known80.lent mixed f66_has E80_eq tright_ok (fun _ _ => Nat.le_refl _) (fun _ _ => rfl)
def oddInVC : Prop := ∀ (x : TIn), True → (x.tx = x.tx ∧ x.n = x.n ∧ x.branch = x.branch ∧ x.secret = x.secret ∧ True) ∧ True ∧ True ∧ (!inOk x) = !inOk (TIn.mk x.tx x.n
  x.branch x.secret) ∧ True ∧ True

theorem oddIn_eq : oddInVC = fnS E81 f65 (bodyOf f65) oddInLS noAnn := by kernel_rfl
theorem oddIn_ok : Fits E81 f65 (bodyOf f65) oddInLS noAnn := by
  constructor
  rw [← oddIn_eq]
  exact fun x _ => ⟨⟨rfl, rfl, rfl, rfl, trivial⟩, trivial, trivial, rfl, trivial, trivial⟩
theorem f65_has : Has prog 65 f65 (bodyOf f65) := ⟨by kernel_rfl, by kernel_rfl, by kernel_rfl⟩
theorem known82 : Known prog L82 := by
  unfold L82
  exact known81.lent mixed f65_has E81_eq oddIn_ok (fun _ _ => Nat.le_refl _) (fun _ _ => rfl)
theorem dropAt {α : Type} {l : List α} {i : Nat} {y : α} (h : l[i]? = some y) : l.drop i = y :: l.drop (i + 1) := by
  have hl := (List.getElem?_eq_some_iff.1 h).1
  rw [List.drop_eq_getElem_cons hl]
  rw [List.getElem?_eq_getElem hl] at h
  rw [Option.some.inj h]
def indexInVC : Prop := ∀ (x : List TIn), True → (↑x.length : Int) ≤ (9223372036854775807 : Int) → (∃ x_1, (x_1 ≤ x.length ∧ x.length ≤ (9223372036854775807 : Nat) ∧ badIn x
  (0 : Nat) = badIn (List.drop x_1 x) x_1) ∧ (↑x_1 : Int) = (0 : Int) ∧ True ∧ True) ∧ ∀ (x_1 : Nat), x_1 ≤ x.length ∧ x.length ≤ (9223372036854775807 :
  Nat) ∧ badIn x (0 : Nat) = badIn (List.drop x_1 x) x_1 → (decide ((↑x_1 : Int) < (↑x.length : Int)) = true → (0 : Int) ≤ (↑x_1 : Int) ∧ (↑x_1 : Int) <
  (↑x.length : Int) ∧ ∀ (y : AA (83 : Nat)), x[(↑x_1 : Int).toNat]? = some y → (y.tx = y.tx ∧ y.n = y.n ∧ y.branch = y.branch ∧ y.secret = y.secret ∧
  True) ∧ True ∧ True ∧ ((!inOk (TIn.mk y.tx y.n y.branch y.secret)) = true → badIn x (0 : Nat) = (↑x_1 : Int) ∧ True ∧ True) ∧ ((!inOk (TIn.mk y.tx y.n
  y.branch y.secret)) = false → inI64 ((↑x_1 : Int) + (1 : Int)) ∧ ∃ y, (y ≤ x.length ∧ x.length ≤ (9223372036854775807 : Nat) ∧ badIn x (0 : Nat) =
  badIn (List.drop y x) y) ∧ x.length - y < x.length - x_1 ∧ (↑y : Int) = (↑x_1 : Int) + (1 : Int) ∧ True ∧ True)) ∧ (decide ((↑x_1 : Int) < (↑x.length :
  Int)) = false → badIn x (0 : Nat) = (-1 : Int) ∧ True ∧ True)

theorem indexIn_eq : indexInVC = fnS E82 f103 (bodyOf f103) indexInLS indexInAnn := by kernel_rfl
theorem indexIn_vc : indexInVC := by
  intro l _
  simp only [true_and, and_true, decide_eq_true_eq, decide_eq_false_iff_not, Int.toNat_natCast]
  refine fun hl => ⟨⟨0, ⟨Nat.zero_le _, by omega, rfl⟩, rfl⟩, fun i hi => ⟨fun h => ?_, fun h => ?_⟩⟩
  · have hi' : i < l.length := by omega
    refine ⟨by omega, h, fun y hy => ⟨fun h1 => ?_, fun h1 => ⟨by unfold inI64; omega, i + 1, ⟨hi', hi.2.1, ?_⟩, by omega, by omega⟩⟩⟩
    · rw [hi.2.2, dropAt (α := TIn) (y := y) hy]
      have h1' : ¬ inOk y = true := by
        have : inOk (TIn.mk y.tx y.n y.branch y.secret) = false := by simpa using h1
        rw [show (y : TIn) = TIn.mk (TIn.tx y) (TIn.n y) (TIn.branch y) (TIn.secret y) from rfl, this]
        simp
      simp only [badIn, if_neg h1']
    · rw [hi.2.2, dropAt (α := TIn) (y := y) hy]
      have h1'' : inOk (TIn.mk y.tx y.n y.branch y.secret) = true := by simpa using h1
      have h1' : inOk y = true := h1''
      simp only [badIn, if_pos h1']
  · rw [hi.2.2, List.drop_of_length_le (by omega)]
    rfl
theorem indexIn_ok : Fits E82 f103 (bodyOf f103) indexInLS indexInAnn := by
  constructor
  rw [← indexIn_eq]
  exact indexIn_vc
theorem f103_has : Has prog 103 f103 (bodyOf f103) := ⟨by kernel_rfl, by kernel_rfl, by kernel_rfl⟩
theorem known83 : Known prog L83 := by
  unfold L83
  exact known82.lent mixed f103_has E82_eq indexIn_ok (fun _ _ => Nat.le_refl _) (fun _ _ => rfl)
def anyInVC : Prop := ∀ (x : List TIn), True → (x = x ∧ Fn.func (65 : FuncId) = Fn.func (65 : FuncId) ∧ True ∧ True) ∧ True ∧ True ∧ decide (badIn x (0 : Nat) ≥ (0 : Int)) =
  decide (badIn x (0 : Nat) ≥ (0 : Int)) ∧ True ∧ True

theorem anyIn_eq : anyInVC = fnS E83 f68 (bodyOf f68) anyInLS noAnn := by kernel_rfl
theorem anyIn_ok : Fits E83 f68 (bodyOf f68) anyInLS noAnn := by
  constructor
  rw [← anyIn_eq]
  exact fun x _ => ⟨⟨rfl, rfl, trivial, trivial⟩, trivial, trivial, rfl, trivial, trivial⟩
theorem f68_has : Has prog 68 f68 (bodyOf f68) := ⟨by kernel_rfl, by kernel_rfl, by kernel_rfl⟩
theorem known84 : Known prog L84 := by
  unfold L84
  exact known83.lent mixed f68_has E83_eq anyIn_ok (fun _ _ => Nat.le_refl _) (fun _ _ => rfl)
def someVC : Prop := ∀ (x : Int), True → (decide (x ≥ (1 : Int)) = true → someB x = decide (x ≤ (64 : Int)) ∧ True ∧ True) ∧ (decide (x ≥ (1 : Int)) = false → someB x =
  false ∧ True ∧ True)

theorem some_eq : someVC = fnS E84 f67 (bodyOf f67) someLS noAnn := by kernel_rfl
theorem some_ok : Fits E84 f67 (bodyOf f67) someLS noAnn := by
  constructor
  rw [← some_eq]
  intro x _
  refine ⟨fun h => ⟨?_, trivial, trivial⟩, fun h => ⟨?_, trivial, trivial⟩⟩
  · unfold someB; rw [h]; simp
  · unfold someB; rw [h]; simp
theorem f67_has : Has prog 67 f67 (bodyOf f67) := ⟨by kernel_rfl, by kernel_rfl, by kernel_rfl⟩
theorem known85 : Known prog L85 := by
  unfold L85
  exact known84.lent mixed f67_has E84_eq some_ok (fun _ _ => Nat.le_refl _) (fun _ _ => rfl)
def ocheckVC : Prop := ∀ (x : TOut), True → (decide (x.amount < (10 : Int)) = true → (outE x = (27 : Int) ∧ (27 : Int) ≠ (0 : Int)) ∧ True ∧ True) ∧ (decide (x.amount < (10 :
  Int)) = false → (decide (x.amount > (1125899906842624 : Int)) = true → (outE x = (5 : Int) ∧ (5 : Int) ≠ (0 : Int)) ∧ True ∧ True) ∧ (decide (x.amount
  > (1125899906842624 : Int)) = false → (x.cond = x.cond ∧ True) ∧ True ∧ True ∧ outE x = checkN x.cond ∧ True ∧ True))

theorem ocheck_eq : ocheckVC = fnS E85 f69 (bodyOf f69) ocheckLS noAnn := by kernel_rfl
theorem ocheck_ok : Fits E85 f69 (bodyOf f69) ocheckLS noAnn := by
  constructor
  rw [← ocheck_eq]
  intro x _
  simp only [true_and, and_true, decide_eq_true_eq, decide_eq_false_iff_not]
  refine ⟨fun h => ⟨?_, by decide⟩, fun h => ⟨fun h2 => ⟨?_, by decide⟩, fun h2 => ?_⟩⟩
  · unfold outE; rw [if_pos h]
  · unfold outE; rw [if_neg h, if_pos h2]
  · unfold outE; rw [if_neg h, if_neg h2]
theorem f69_has : Has prog 69 f69 (bodyOf f69) := ⟨by kernel_rfl, by kernel_rfl, by kernel_rfl⟩
theorem known86 : Known prog L86 := by
  unfold L86
  exact known85.lent mixed f69_has E85_eq ocheck_ok (fun _ _ => Nat.le_refl _) (fun _ _ => rfl)
def totalVC : Prop := ∀ (x : TxD), True → (↑x.outs.length : Int) ≤ (9223372036854775807 : Int) → (∃ (x_1 : Nat × Int), TotI x.outs x_1.fst x_1.snd ∧ ((↑x_1.fst : Int) = (0 :
  Int) ∧ x_1.snd = (0 : Int)) ∧ ((x.lock = x.lock ∧ x.ins = x.ins ∧ x.outs = x.outs ∧ True) ∧ True) ∧ True) ∧ ∀ (x_1 : Nat × Int), TotI x.outs x_1.fst
  x_1.snd → (decide ((↑x_1.fst : Int) < (↑x.outs.length : Int)) = true → (0 : Int) ≤ (↑x_1.fst : Int) ∧ (↑x_1.fst : Int) < (↑x.outs.length : Int) ∧ ∀ (y
  : AA (77 : Nat)), x.outs[(↑x_1.fst : Int).toNat]? = some y → (decide (y.amount < (0 : Int)) = true → ((totG x.outs (0 : Int)).fst = (0 : Int) ∧ (totG
  x.outs (0 : Int)).snd = (5 : Int) ∧ (5 : Int) ≠ (0 : Int)) ∧ True ∧ True) ∧ (decide (y.amount < (0 : Int)) = false → inI64 ((1125899906842624 : Int) -
  x_1.snd) ∧ (decide (y.amount > (1125899906842624 : Int) - x_1.snd) = true → ((totG x.outs (0 : Int)).fst = (0 : Int) ∧ (totG x.outs (0 : Int)).snd = (5
  : Int) ∧ (5 : Int) ≠ (0 : Int)) ∧ True ∧ True) ∧ (decide (y.amount > (1125899906842624 : Int) - x_1.snd) = false → inI64 (x_1.snd + y.amount) ∧ inI64
  ((↑x_1.fst : Int) + (1 : Int)) ∧ ∃ (y_1 : Nat × Int), TotI x.outs y_1.fst y_1.snd ∧ x.outs.length - y_1.fst < x.outs.length - x_1.fst ∧ ((↑y_1.fst :
  Int) = (↑x_1.fst : Int) + (1 : Int) ∧ y_1.snd = x_1.snd + y.amount) ∧ ((x.lock = x.lock ∧ x.ins = x.ins ∧ x.outs = x.outs ∧ True) ∧ True) ∧ True))) ∧
  (decide ((↑x_1.fst : Int) < (↑x.outs.length : Int)) = false → ((totG x.outs (0 : Int)).fst = x_1.snd ∧ (totG x.outs (0 : Int)).snd = (0 : Int)) ∧ True
  ∧ True)

theorem total_eq : totalVC = fnS E86 f31 (bodyOf f31) totalLS totalAnn := by kernel_rfl
theorem total_vc : totalVC := by
  rintro ⟨lock, ins, outs⟩ _
  simp only [true_and, and_true, decide_eq_true_eq, decide_eq_false_iff_not, Int.toNat_natCast, ne_eq]
  refine fun hl => ⟨⟨(0, 0), ⟨Nat.zero_le _, by omega, by simp, by simp, rfl⟩, rfl, rfl⟩, ?_⟩
  rintro ⟨i, n⟩ ⟨h1, h2, h3, h4, h5⟩
  simp only at h1 h2 h3 h4 h5 ⊢
  refine ⟨fun h => ?_, fun h => ?_⟩
  · refine ⟨by omega, h, fun y hy => ?_⟩
    have hd := dropAt (α := TOut) (y := y) hy
    have five : (y.amount < 0 ∨ y.amount > 1125899906842624 - n) → totG outs 0 = (0, 5) := fun hc => by
      rw [h5, hd]
      simp only [totG]
      rw [if_pos hc]
    refine ⟨fun hc => ?_, fun hc => ⟨by unfold inI64; omega, fun hc2 => ?_, fun hc2 => ⟨by unfold inI64; omega, by unfold inI64; omega, (i + 1, n + y.amount), ⟨?_, h2, ?_, ?_, ?_⟩, ?_, ?_, ?_⟩⟩⟩
    · rw [five (.inl hc)]; exact ⟨rfl, rfl, by decide⟩
    · rw [five (.inr hc2)]; exact ⟨rfl, rfl, by decide⟩
    · simp only; omega
    · simp only; omega
    · simp only; omega
    · rw [h5, hd]
      simp only [totG]
      rw [if_neg (by omega)]
    · simp only; omega
    · simp only; omega
    · rfl
  · rw [h5, List.drop_of_length_le (by omega)]
    exact ⟨rfl, rfl⟩
theorem total_ok : Fits E86 f31 (bodyOf f31) totalLS totalAnn := by
  constructor
  rw [← total_eq]
  exact total_vc
theorem f31_has : Has prog 31 f31 (bodyOf f31) := ⟨by kernel_rfl, by kernel_rfl, by kernel_rfl⟩
theorem known87 : Known prog L87 := by
  unfold L87
  exact known86.lent mixed f31_has E86_eq total_ok (fun _ _ => Nat.le_refl _) (fun _ _ => rfl)
/-! ## The map -/
theorem mfind_some {K V : Type} {k : K} : ∀ {es : List (K × V)} {j : Nat} {z : V}, mfind k es = some (j, z) → es[j]? = some (k, z)
  | [], j, z, h => by simp [mfind] at h
  | p :: l, j, z, h => by
    simp only [mfind] at h
    split at h
    · rename_i e
      simp only [Option.some.injEq, Prod.mk.injEq] at h
      obtain ⟨rfl, rfl⟩ := h
      rw [← e]
      rfl
    · split at h
      · rename_i i v hv
        simp only [Option.some.injEq, Prod.mk.injEq] at h
        obtain ⟨rfl, rfl⟩ := h
        simpa using mfind_some hv
      · cases h
theorem mfind_none {K V : Type} {k : K} : ∀ {es : List (K × V)}, mfind k es = none → k ∉ es.map (·.1)
  | [], _ => by simp
  | p :: l, h => by
    simp only [mfind] at h
    split at h
    · cases h
    · rename_i e
      split at h
      · cases h
      · rename_i hv
        simp only [List.map_cons, List.mem_cons, not_or]
        exact ⟨fun e' => e e'.symm, mfind_none hv⟩
theorem mfind_new {K V : Type} {k : K} {v : V} : ∀ {es : List (K × V)}, mfind k es = none → mfind k (es ++ [(k, v)]) = some (es.length, v)
  | [], _ => by simp [mfind]
  | p :: l, h => by
    simp only [mfind] at h
    split at h
    · cases h
    · rename_i e
      split at h
      · cases h
      · rename_i hv
        simp only [List.cons_append, mfind, if_neg e, mfind_new hv, List.length_cons]
theorem mapSet_fst {K V : Type} (es : List (K × V)) (j : Nat) (v : V) : (mapSet es j v).map (·.1) = es.map (·.1) := by
  unfold mapSet
  apply List.ext_getElem?
  intro i
  rw [List.getElem?_map, List.getElem?_map, List.getElem?_modify]
  cases es[i]? with
  | none => rfl
  | some p =>
    simp only [Option.map_some]
    split <;> rfl
theorem mapSet_len {K V : Type} (es : List (K × V)) (j : Nat) (v : V) : (mapSet es j v).length = es.length := by
  simp [mapSet]
theorem mapSet_mem {K V : Type} {es : List (K × V)} {j : Nat} {v : V} {p : K × V} (h : p ∈ mapSet es j v) : p ∈ es ∨ p.2 = v := by
  obtain ⟨i, hi⟩ := List.getElem?_of_mem h
  unfold mapSet at hi
  rw [List.getElem?_modify] at hi
  cases hq : es[i]? with
  | none => rw [hq] at hi; cases hi
  | some q =>
    rw [hq] at hi
    by_cases e : j = i
    · right
      simp [e] at hi
      rw [← hi]
    · left
      simp [e] at hi
      rw [← hi]; exact List.mem_of_getElem? hq
theorem take_pts {l : List TIn} {k : Nat} {y : TIn} (h : l[k]? = some y) : (l.take (k + 1)).map ptOf = (l.take k).map ptOf ++ [ptOf y] := by
  rw [List.take_add_one, h]
  simp
theorem MapI.old {l : List TIn} {k : Nat} {es : List (Pt × Int)} {st : List Int} (h : MapI l k es st) {y : TIn} (hy : l[k]? = some y) {j : Nat} {z : Int} (hf : mfind (ptOf y) es = some (j, z)) {i : Nat} : MapI l (k + 1) (mapSet es i (z + 1)) st := by
  have hm := mfind_some hf
  have hk := (List.getElem?_eq_some_iff.1 hy).1
  have hz := h.val _ (List.mem_of_getElem? hm)
  have hin : ptOf y ∈ es.map (·.1) := List.mem_map.2 ⟨_, List.mem_of_getElem? hm, rfl⟩
  refine ⟨hk, by rw [mapSet_len]; exact h.len, by rw [mapSet_fst]; exact h.dis, fun p => ?_, fun p hp => ?_, by rw [mapSet_len]; have := h.cnt; omega⟩
  · rw [mapSet_fst, take_pts hy, List.mem_append, List.mem_singleton, h.mem]
    refine ⟨.inl, fun hp => hp.elim id (fun e => ?_)⟩
    rw [e, ← h.mem]
    exact hin
  · rcases mapSet_mem hp with h1 | h1
    · have := h.val p h1; omega
    · rw [h1]
      omega
theorem MapI.new {l : List TIn} {k : Nat} {es : List (Pt × Int)} {st : List Int} (h : MapI l k es st) {y : TIn} (hy : l[k]? = some y) (hf : mfind (ptOf y) es = none) {i : Nat} {b : Int} : MapI l (k + 1) (mapSet (es ++ [(ptOf y, (0 : Int))]) i 1) (st ++ [b]) := by
  have hm := mfind_none hf
  have hk := (List.getElem?_eq_some_iff.1 hy).1
  refine ⟨hk, by rw [mapSet_len]; simp [h.len], ?_, fun p => ?_, fun p hp => ?_, by rw [mapSet_len]; have := h.cnt; simp; omega⟩
  · rw [mapSet_fst, List.map_append, List.nodup_append]
    refine ⟨h.dis, by simp, fun x hx z hz e => ?_⟩
    simp only [List.map_cons, List.map_nil, List.mem_singleton] at hz
    rw [e, hz] at hx
    exact hm hx
  · rw [mapSet_fst, take_pts hy, List.map_append, List.mem_append, List.mem_append, h.mem]
    rfl
  · rcases mapSet_mem hp with h1 | h1
    · rcases List.mem_append.1 h1 with h2 | h2
      · have := h.val p h2; omega
      · simp only [List.mem_singleton] at h2
        rw [h2]
        simp only
        omega
    · rw [h1]; omega
theorem sub_len {α : Type} : ∀ {a b : List α}, a.Nodup → (∀ x, x ∈ a → x ∈ b) → a.length ≤ b.length
  | [], _, _, _ => by simp
  | x :: a, b, hn, h => by
    obtain ⟨s, t, rfl⟩ := List.append_of_mem (h x List.mem_cons_self)
    obtain ⟨h1, h2⟩ := List.nodup_cons.1 hn
    have := sub_len (b := s ++ t) h2 (fun y hy => by
      have h3 := h y (List.mem_cons_of_mem _ hy)
      have hne : y ≠ x := fun e => h1 (e ▸ hy)
      simp only [List.mem_append, List.mem_cons] at h3 ⊢
      rcases h3 with h3 | h3 | h3
      · exact .inl h3
      · exact absurd h3 hne
      · exact .inr h3)
    simp only [List.length_append, List.length_cons] at this ⊢
    omega
theorem nodup_of_len {α : Type} : ∀ {a b : List α}, a.Nodup → (∀ x, x ∈ a → x ∈ b) → b.length ≤ a.length → b.Nodup
  | [], b, _, _, hl => by
    have : b = [] := List.eq_nil_of_length_eq_zero (by simpa using hl)
    rw [this]
    exact List.nodup_nil
  | x :: a, b, hn, h, hl => by
    obtain ⟨s, t, rfl⟩ := List.append_of_mem (h x List.mem_cons_self)
    obtain ⟨h1, h2⟩ := List.nodup_cons.1 hn
    have hsub : ∀ y, y ∈ a → y ∈ s ++ t := fun y hy => by
      have h3 := h y (List.mem_cons_of_mem _ hy)
      have hne : y ≠ x := fun e => h1 (e ▸ hy)
      simp only [List.mem_append, List.mem_cons] at h3 ⊢
      rcases h3 with h3 | h3 | h3
      · exact .inl h3
      · exact absurd h3 hne
      · exact .inr h3
    simp only [List.length_append, List.length_cons] at hl
    have h4 := nodup_of_len h2 hsub (by simp only [List.length_append]; omega)
    refine List.perm_middle.nodup_iff.2 (List.nodup_cons.2 ⟨fun hx => ?_, h4⟩)
    have h5 := sub_len hn (b := s ++ t) (fun y hy => by
      rcases List.mem_cons.1 hy with e | e
      · rw [e]; exact hx
      · exact hsub y e)
    simp only [List.length_append, List.length_cons] at h5
    omega
/-- As many in the map as there are inputs: no point is twice. -/
theorem MapI.end_ {l : List TIn} {es : List (Pt × Int)} {st : List Int} (h : MapI l l.length es st) : es.length = l.length ↔ (l.map ptOf).Nodup := by
  have hm := h.mem
  rw [List.take_length] at hm
  have e1 : (es.map (·.1)).length = es.length := List.length_map _
  have e2 : (l.map ptOf).length = l.length := List.length_map _
  constructor
  · intro hl
    exact nodup_of_len h.dis (fun p hp => (hm p).1 hp) (by omega)
  · intro hn
    have h1 := sub_len h.dis (fun p hp => (hm p).1 hp)
    have h2 := sub_len hn (fun p hp => (hm p).2 hp)
    omega
theorem outE_eta (y : TOut) : outE (TOut.mk y.amount y.cond) = outE y := rfl
def tcheckVC : Prop := ∀ (x : TxD), True → (decide (x.lock < (0 : Int)) = true → (checkT x = (4 : Int) ∧ (4 : Int) ≠ (0 : Int)) ∧ True ∧ True) ∧ (decide (x.lock < (0 : Int))
  = false → (decide (x.lock > (1099511627776 : Int)) = true → (checkT x = (4 : Int) ∧ (4 : Int) ≠ (0 : Int)) ∧ True ∧ True) ∧ (decide (x.lock >
  (1099511627776 : Int)) = false → (↑x.ins.length : Int) ≤ (9223372036854775807 : Int) → (↑x.ins.length : Int) = (↑x.ins.length : Int) ∧ True ∧ True ∧
  ((!someB (↑x.ins.length : Int)) = true → (checkT x = (4 : Int) ∧ (4 : Int) ≠ (0 : Int)) ∧ True ∧ True) ∧ ((!someB (↑x.ins.length : Int)) = false →
  (↑x.outs.length : Int) ≤ (9223372036854775807 : Int) → (↑x.outs.length : Int) = (↑x.outs.length : Int) ∧ True ∧ True ∧ ((!someB (↑x.outs.length : Int))
  = true → (checkT x = (4 : Int) ∧ (4 : Int) ≠ (0 : Int)) ∧ True ∧ True) ∧ ((!someB (↑x.outs.length : Int)) = false → (x.ins = x.ins ∧ Fn.func (65 :
  FuncId) = Fn.func (65 : Nat) ∧ True ∧ True) ∧ True ∧ True ∧ (decide (badIn x.ins (0 : Nat) ≥ (0 : Int)) = true → (checkT x = (4 : Int) ∧ (4 : Int) ≠ (0
  : Int)) ∧ True ∧ True) ∧ (decide (badIn x.ins (0 : Nat) ≥ (0 : Int)) = false → (↑x.ins.length : Int) ≤ (9223372036854775807 : Int) → (∃ (x_1 : MapX),
  MapI x.ins x_1.k x_1.es x_1.st ∧ (↑x_1.k : Int) = (0 : Int) ∧ ((x.lock = x.lock ∧ x.ins = x.ins ∧ x.outs = x.outs ∧ True) ∧ (x_1.es = [] ∧ x_1.st = [])
  ∧ True) ∧ True) ∧ ∀ (x_1 : MapX), MapI x.ins x_1.k x_1.es x_1.st → (decide ((↑x_1.k : Int) < (↑x.ins.length : Int)) = true → (0 : Int) ≤ (↑x_1.k : Int)
  ∧ (↑x_1.k : Int) < (↑x.ins.length : Int) ∧ ∀ (y : AA (83 : Nat)), x.ins[(↑x_1.k : Int).toNat]? = some y → ((y.tx = y.tx ∧ y.n = y.n ∧ True) ∧ (∀ (j :
  Nat) (z : Int), mfind (Pt.mk y.tx y.n) x_1.es = some (j, z) → inI64 (z + (1 : Int)) ∧ (y.tx = y.tx ∧ y.n = y.n ∧ True) ∧ (∀ (j : Nat) (z_1 : Int),
  mfind (Pt.mk y.tx y.n) x_1.es = some (j, z_1) → ∀ (b : Int), x_1.st[j]? = some b → (z + (1 : Int) = z + (1 : Int) ∧ True) ∧ ∃ j, x_1.st[j]? = some b ∧
  inI64 ((↑x_1.k : Int) + (1 : Int)) ∧ ∃ (y : MapX), MapI x.ins y.k y.es y.st ∧ x.ins.length - y.k < x.ins.length - x_1.k ∧ (↑y.k : Int) = (↑x_1.k : Int)
  + (1 : Int) ∧ ((x.lock = x.lock ∧ x.ins = x.ins ∧ x.outs = x.outs ∧ True) ∧ (y.es = mapSet x_1.es j (z + (1 : Int)) ∧ y.st = x_1.st) ∧ True) ∧ True) ∧
  (mfind (Pt.mk y.tx y.n) x_1.es = none → ∀ (b : Int), ¬b ∈ x_1.st → x_1.es.length = x_1.st.length → ((0 : Int) = (0 : Int) ∧ True) ∧ (z + (1 : Int) = z
  + (1 : Int) ∧ True) ∧ ∃ j, (x_1.st ++ [b])[j]? = some b ∧ inI64 ((↑x_1.k : Int) + (1 : Int)) ∧ ∃ (y_1 : MapX), MapI x.ins y_1.k y_1.es y_1.st ∧
  x.ins.length - y_1.k < x.ins.length - x_1.k ∧ (↑y_1.k : Int) = (↑x_1.k : Int) + (1 : Int) ∧ ((x.lock = x.lock ∧ x.ins = x.ins ∧ x.outs = x.outs ∧ True)
  ∧ (y_1.es = mapSet (x_1.es ++ [(Pt.mk y.tx y.n, (0 : Int))]) j (z + (1 : Int)) ∧ y_1.st = x_1.st ++ [b]) ∧ True) ∧ True)) ∧ (mfind (Pt.mk y.tx y.n)
  x_1.es = none → (y.tx = y.tx ∧ y.n = y.n ∧ True) ∧ (∀ (j : Nat) (z : Int), mfind (Pt.mk y.tx y.n) x_1.es = some (j, z) → ∀ (b : Int), x_1.st[j]? = some
  b → (wr IntKind.i64 ((0 : Int) + (1 : Int)) = wr IntKind.i64 ((0 : Int) + (1 : Int)) ∧ True) ∧ ∃ j, x_1.st[j]? = some b ∧ inI64 ((↑x_1.k : Int) + (1 :
  Int)) ∧ ∃ (y : MapX), MapI x.ins y.k y.es y.st ∧ x.ins.length - y.k < x.ins.length - x_1.k ∧ (↑y.k : Int) = (↑x_1.k : Int) + (1 : Int) ∧ ((x.lock =
  x.lock ∧ x.ins = x.ins ∧ x.outs = x.outs ∧ True) ∧ (y.es = mapSet x_1.es j (wr IntKind.i64 ((0 : Int) + (1 : Int))) ∧ y.st = x_1.st) ∧ True) ∧ True) ∧
  (mfind (Pt.mk y.tx y.n) x_1.es = none → ∀ (b : Int), ¬b ∈ x_1.st → x_1.es.length = x_1.st.length → ((0 : Int) = (0 : Int) ∧ True) ∧ (wr IntKind.i64 ((0
  : Int) + (1 : Int)) = wr IntKind.i64 ((0 : Int) + (1 : Int)) ∧ True) ∧ ∃ j, (x_1.st ++ [b])[j]? = some b ∧ inI64 ((↑x_1.k : Int) + (1 : Int)) ∧ ∃ (y_1
  : MapX), MapI x.ins y_1.k y_1.es y_1.st ∧ x.ins.length - y_1.k < x.ins.length - x_1.k ∧ (↑y_1.k : Int) = (↑x_1.k : Int) + (1 : Int) ∧ ((x.lock = x.lock
  ∧ x.ins = x.ins ∧ x.outs = x.outs ∧ True) ∧ (y_1.es = mapSet (x_1.es ++ [(Pt.mk y.tx y.n, (0 : Int))]) j (wr IntKind.i64 ((0 : Int) + (1 : Int))) ∧
  y_1.st = x_1.st ++ [b]) ∧ True) ∧ True))) ∧ (y.tx = y.tx ∧ y.n = y.n ∧ True) ∧ (∀ (j : Nat) (z : Int), mfind (Pt.mk y.tx y.n) x_1.es = some (j, z) → ∀
  (b : Int), x_1.st[j]? = some b → (y.tx = y.tx ∧ y.n = y.n ∧ True) ∧ (∀ (j : Nat) (z : Int), mfind (Pt.mk y.tx y.n) x_1.es = some (j, z) → inI64 (z + (1
  : Int)) ∧ (z + (1 : Int) = z + (1 : Int) ∧ True) ∧ ∃ j, x_1.st[j]? = some b ∧ inI64 ((↑x_1.k : Int) + (1 : Int)) ∧ ∃ (y : MapX), MapI x.ins y.k y.es
  y.st ∧ x.ins.length - y.k < x.ins.length - x_1.k ∧ (↑y.k : Int) = (↑x_1.k : Int) + (1 : Int) ∧ ((x.lock = x.lock ∧ x.ins = x.ins ∧ x.outs = x.outs ∧
  True) ∧ (y.es = mapSet x_1.es j (z + (1 : Int)) ∧ y.st = x_1.st) ∧ True) ∧ True) ∧ (mfind (Pt.mk y.tx y.n) x_1.es = none → (wr IntKind.i64 ((0 : Int) +
  (1 : Int)) = wr IntKind.i64 ((0 : Int) + (1 : Int)) ∧ True) ∧ ∃ j, x_1.st[j]? = some b ∧ inI64 ((↑x_1.k : Int) + (1 : Int)) ∧ ∃ (y : MapX), MapI x.ins
  y.k y.es y.st ∧ x.ins.length - y.k < x.ins.length - x_1.k ∧ (↑y.k : Int) = (↑x_1.k : Int) + (1 : Int) ∧ ((x.lock = x.lock ∧ x.ins = x.ins ∧ x.outs =
  x.outs ∧ True) ∧ (y.es = mapSet x_1.es j (wr IntKind.i64 ((0 : Int) + (1 : Int))) ∧ y.st = x_1.st) ∧ True) ∧ True)) ∧ (mfind (Pt.mk y.tx y.n) x_1.es =
  none → ∀ (b : Int), ¬b ∈ x_1.st → x_1.es.length = x_1.st.length → ((0 : Int) = (0 : Int) ∧ True) ∧ (y.tx = y.tx ∧ y.n = y.n ∧ True) ∧ (∀ (j : Nat) (z :
  Int), mfind (Pt.mk y.tx y.n) (x_1.es ++ [(Pt.mk y.tx y.n, (0 : Int))]) = some (j, z) → inI64 (z + (1 : Int)) ∧ (z + (1 : Int) = z + (1 : Int) ∧ True) ∧
  ∃ j, (x_1.st ++ [b])[j]? = some b ∧ inI64 ((↑x_1.k : Int) + (1 : Int)) ∧ ∃ (y_1 : MapX), MapI x.ins y_1.k y_1.es y_1.st ∧ x.ins.length - y_1.k <
  x.ins.length - x_1.k ∧ (↑y_1.k : Int) = (↑x_1.k : Int) + (1 : Int) ∧ ((x.lock = x.lock ∧ x.ins = x.ins ∧ x.outs = x.outs ∧ True) ∧ (y_1.es = mapSet
  (x_1.es ++ [(Pt.mk y.tx y.n, (0 : Int))]) j (z + (1 : Int)) ∧ y_1.st = x_1.st ++ [b]) ∧ True) ∧ True) ∧ (mfind (Pt.mk y.tx y.n) (x_1.es ++ [(Pt.mk y.tx
  y.n, (0 : Int))]) = none → (wr IntKind.i64 ((0 : Int) + (1 : Int)) = wr IntKind.i64 ((0 : Int) + (1 : Int)) ∧ True) ∧ ∃ j, (x_1.st ++ [b])[j]? = some b
  ∧ inI64 ((↑x_1.k : Int) + (1 : Int)) ∧ ∃ (y_1 : MapX), MapI x.ins y_1.k y_1.es y_1.st ∧ x.ins.length - y_1.k < x.ins.length - x_1.k ∧ (↑y_1.k : Int) =
  (↑x_1.k : Int) + (1 : Int) ∧ ((x.lock = x.lock ∧ x.ins = x.ins ∧ x.outs = x.outs ∧ True) ∧ (y_1.es = mapSet (x_1.es ++ [(Pt.mk y.tx y.n, (0 : Int))]) j
  (wr IntKind.i64 ((0 : Int) + (1 : Int))) ∧ y_1.st = x_1.st ++ [b]) ∧ True) ∧ True))) ∧ (decide ((↑x_1.k : Int) < (↑x.ins.length : Int)) = false →
  (↑x.ins.length : Int) ≤ (9223372036854775807 : Int) → (((↑x_1.es.length : Int) != (↑x.ins.length : Int)) = true → (checkT x = (9 : Int) ∧ (9 : Int) ≠
  (0 : Int)) ∧ True ∧ True) ∧ (((↑x_1.es.length : Int) != (↑x.ins.length : Int)) = false → (↑x.outs.length : Int) ≤ (9223372036854775807 : Int) → (∃ x_2,
  (x_2 ≤ x.outs.length ∧ outsE x.outs = outsE (List.drop x_2 x.outs)) ∧ (↑x_2 : Int) = (0 : Int) ∧ ((x.lock = x.lock ∧ x.ins = x.ins ∧ x.outs = x.outs ∧
  True) ∧ (x_1.es = x_1.es ∧ x_1.st = x_1.st) ∧ True) ∧ True) ∧ ∀ (x_2 : Nat), x_2 ≤ x.outs.length ∧ outsE x.outs = outsE (List.drop x_2 x.outs) →
  (decide ((↑x_2 : Int) < (↑x.outs.length : Int)) = true → (0 : Int) ≤ (↑x_2 : Int) ∧ (↑x_2 : Int) < (↑x.outs.length : Int) ∧ ∀ (y : AA (77 : Nat)),
  x.outs[(↑x_2 : Int).toNat]? = some y → (y.amount = y.amount ∧ y.cond = y.cond ∧ True) ∧ True ∧ True ∧ ((!outE (TOut.mk y.amount y.cond) == (0 : Int)) =
  true → checkT x = outE (TOut.mk y.amount y.cond) ∧ True ∧ True) ∧ ((!outE (TOut.mk y.amount y.cond) == (0 : Int)) = false → inI64 ((↑x_2 : Int) + (1 :
  Int)) ∧ ∃ y, (y ≤ x.outs.length ∧ outsE x.outs = outsE (List.drop y x.outs)) ∧ x.outs.length - y < x.outs.length - x_2 ∧ (↑y : Int) = (↑x_2 : Int) + (1
  : Int) ∧ ((x.lock = x.lock ∧ x.ins = x.ins ∧ x.outs = x.outs ∧ True) ∧ (x_1.es = x_1.es ∧ x_1.st = x_1.st) ∧ True) ∧ True)) ∧ (decide ((↑x_2 : Int) <
  (↑x.outs.length : Int)) = false → (x.lock = x.lock ∧ x.ins = x.ins ∧ x.outs = x.outs ∧ True) ∧ True ∧ True ∧ checkT x = (totG x.outs (0 : Int)).snd ∧
  True ∧ True))))))))

theorem tcheck_eq : tcheckVC = fnS E87 f35 (bodyOf f35) tcheckLS tcheckAnn := by kernel_rfl
theorem tcheck_vc : tcheckVC := by
  rintro ⟨lock, ins, outs⟩ _
  have e1 : wr .i64 ((0 : Int) + 1) = 1 := by decide
  have c4 : (lock < 0 ∨ lock > 1099511627776 ∨ someB (ins.length : Int) = false ∨ someB (outs.length : Int) = false ∨ badIn ins 0 ≥ 0) → checkT (TxD.mk lock ins outs) = 4 ∧ (4 : Int) ≠ 0 := fun h => ⟨by unfold checkT; rw [if_pos h], by decide⟩
  simp only [true_and, and_true, decide_eq_true_eq, decide_eq_false_iff_not, Int.toNat_natCast, Bool.not_eq_true', Bool.not_eq_false', beq_iff_eq, beq_eq_false_iff_ne, bne_iff_ne, bne_eq_false_iff_eq, e1]
  refine ⟨fun h1 => c4 (.inl h1), fun h1 => ⟨fun h2 => c4 (.inr (.inl h2)), fun h2 _ => ⟨fun h3 => c4 (.inr (.inr (.inl h3))), fun h3 _ => ⟨fun h4 => c4 (.inr (.inr (.inr (.inl h4)))), fun h4 => ⟨fun h5 => c4 (.inr (.inr (.inr (.inr h5)))), fun h5 _ => ⟨⟨⟨0, [], []⟩, ⟨Nat.zero_le _, rfl, by simp, by simp, by simp, by simp⟩, rfl, rfl, rfl⟩, ?_⟩⟩⟩⟩⟩⟩
  have hle : ins.length ≤ 64 := by
    unfold someB at h3
    simp only [Bool.and_eq_true, decide_eq_true_eq] at h3
    omega
  have hno : ¬ (lock < 0 ∨ lock > 1099511627776 ∨ someB (ins.length : Int) = false ∨ someB (outs.length : Int) = false ∨ badIn ins 0 ≥ 0) := by
    rw [h3, h4]
    simp only [Bool.true_eq_false, false_or]
    omega
  rintro ⟨k, es, st⟩ hm
  simp only at hm ⊢
  refine ⟨fun h6 => ?_, fun h6 _ => ?_⟩
  · have hk' : k < ins.length := by omega
    refine ⟨by omega, h6, fun y hy => ?_⟩
    have kk : inI64 ((k : Int) + 1) := by unfold inI64; omega
    have hpt : Pt.mk y.tx y.n = ptOf y := rfl
    rw [hpt]
    have zz : ∀ {j : Nat} {z : Int}, mfind (ptOf y) es = some (j, z) → inI64 (z + 1) := fun {j z} hf => by
      have := hm.val _ (List.mem_of_getElem? (mfind_some hf))
      simp only at this
      unfold inI64
      omega
    have old : ∀ {j : Nat} {z : Int} (i : Nat), mfind (ptOf y) es = some (j, z) → ∃ x : MapX, MapI ins x.k x.es x.st ∧ ins.length - x.k < ins.length - k ∧ (x.k : Int) = (k : Int) + 1 ∧ x.es = mapSet es i (z + 1) ∧ x.st = st := fun {j z} i hf =>
      ⟨⟨k + 1, mapSet es i (z + 1), st⟩, hm.old hy hf, by simp only; omega, by simp only; omega, rfl, rfl⟩
    have new : ∀ (i : Nat) (b : Int), mfind (ptOf y) es = none → ∃ x : MapX, MapI ins x.k x.es x.st ∧ ins.length - x.k < ins.length - k ∧ (x.k : Int) = (k : Int) + 1 ∧ x.es = mapSet (es ++ [(ptOf y, 0)]) i 1 ∧ x.st = st ++ [b] := fun i b hn =>
      ⟨⟨k + 1, mapSet (es ++ [(ptOf y, 0)]) i 1, st ++ [b]⟩, hm.new hy hn, by simp only; omega, by simp only; omega, rfl, rfl⟩
    have app : ∀ b : Int, (st ++ [b])[st.length]? = some b := fun b => by simp
    refine ⟨⟨fun j z hf => ⟨zz hf, fun j2 z2 _ b hb => ⟨j2, hb, kk, old _ hf⟩, fun hn => ?_⟩, fun hn => ⟨fun j2 z2 hf _ _ => ?_, fun _ b _ _ => ⟨st.length, app b, kk, new _ _ hn⟩⟩⟩,
      ⟨fun j z hf b hb => ⟨fun j2 z2 hf2 => ⟨zz hf2, j, hb, kk, old _ hf2⟩, fun hn => ?_⟩, fun hn b _ _ => ⟨fun j2 z2 hf2 => ?_, fun hn2 => ?_⟩⟩⟩
    · rw [hf] at hn; cases hn
    · rw [hn] at hf; cases hf
    · rw [hf] at hn; cases hn
    · rw [mfind_new hn] at hf2
      cases hf2
      exact ⟨by unfold inI64; omega, st.length, app b, kk, new _ _ hn⟩
    · rw [mfind_new hn] at hn2
      cases hn2
  · have hkl : k = ins.length := by have := hm.le; omega
    subst hkl
    have hend := hm.end_
    refine ⟨fun h7 => ⟨?_, by decide⟩, fun h7 _ => ?_⟩
    · unfold checkT
      rw [if_neg hno, if_pos (fun hn => h7 (by have := hend.2 hn; omega))]
    have hnd : (ins.map ptOf).Nodup := hend.1 (by omega)
    have hck : checkT (TxD.mk lock ins outs) = if outsE outs ≠ 0 then outsE outs else (totG outs 0).2 := by
      unfold checkT
      rw [if_neg hno, if_neg (fun h => h hnd)]
    refine ⟨⟨0, ⟨Nat.zero_le _, rfl⟩, rfl⟩, fun i hi => ⟨fun h8 => ?_, fun h8 => ?_⟩⟩
    · have hi' : i < outs.length := by omega
      refine ⟨by omega, h8, fun y hy => ?_⟩
      have hd := dropAt (α := TOut) (y := y) hy
      have hy' : outE (TOut.mk y.amount y.cond) = outE y := rfl
      rw [hy']
      refine ⟨fun h9 => ?_, fun h9 => ⟨by unfold inI64; omega, i + 1, ⟨hi', ?_⟩, by omega, by omega⟩⟩
      · have he : outsE outs = outE y := by
          rw [hi.2, hd]
          simp only [outsE]
          rw [if_neg h9]
        rw [hck, he, if_pos h9]
      · rw [hi.2, hd]
        simp only [outsE]
        rw [if_pos h9]
    · have he : outsE outs = 0 := by
        rw [hi.2, List.drop_of_length_le (by omega)]
        rfl
      rw [hck, he, if_neg (fun h => h rfl)]
theorem tcheck_ok : Fits E87 f35 (bodyOf f35) tcheckLS tcheckAnn := by
  constructor
  rw [← tcheck_eq]
  exact tcheck_vc
theorem f35_has : Has prog 35 f35 (bodyOf f35) := ⟨by kernel_rfl, by kernel_rfl, by kernel_rfl⟩
theorem known88 : Known prog L88 := by
  unfold L88
  exact known87.lent mixed f35_has E87_eq tcheck_ok (fun _ _ => Nat.le_refl _) (fun _ _ => rfl)
end Go.Proofs.YtcglahfmnoghjaaDoor

/-! A transaction's bytes, its sum; the totals' law: what is said of them. Conditions: none. -/
namespace Go.Proofs.YtcglahfmnoghjaaDoor
open Go Go.Eng Go.Proofs.Tryd

/-- Bytes, so told that their end is seen. -/
def stuffB : List Int → List Int
  | [] => []
  | c :: l => if c = 0 then 0 :: 255 :: stuffB l else c :: stuffB l
def bytesB (xs : List Int) : List Int := stuffB xs ++ [0, 0]
structure BB where
  xs : List Int
  b : List Int
structure BB.Ok (x : BB) : Prop where
  len : x.xs.length ≤ 1000000000000
  b : x.b.length ≤ 1000000000
def wBytesLS : LS AA where
  X := BB
  pre := BB.Ok
  args := fun x => [.ptr 0 0, .rints .u8 x.b]
  hin := fun x => [wcell 1, .ivec 5 .u8 x.xs]
  res := fun _ => [.ptr 0 0]
  hout := fun x => [wcell 2, .dead, .ivec 5 .u8 (x.xs ++ bytesB x.b)]
def wBytesGet (args : List (SV AA)) (sh : List (SO AA)) : Option BB := match args with
  | [w, s] => match lineOf sh w, gI .u8 sh s with
    | some xs, some b => some ⟨xs, b⟩
    | _, _ => none
  | _ => none
def wBytesAnn (x : BB) : Anns AA := fun _ _ _ => some {
  X := Nat
  inv := fun n => n ≤ x.b.length
  meas := fun n => x.b.length - n
  slots := fun n => [(11, .int .i64 n)]
  heap := fun _ => [(0, wcell 2), (1, .dead)]
  more := fun n => [.ivec 5 .u8 (x.xs ++ stuffB (x.b.take n))] }
noncomputable def L89 : List (Nat × SpecT AA) := (104, tLent wBytesLS wBytesGet) :: L88
noncomputable def E89 : Eng AA := EE prog L89
theorem E89_eq : E89 = EE prog L89 := by
  unfold E89
  rfl
def inB (sec : TIn → List Int) (x : TIn) : List Int := x.tx ++ uintB (wr .u64 x.n) ++ uintB (wr .u64 x.branch) ++ bytesB (sec x)
def insB (sec : TIn → List Int) : List TIn → List Int
  | [] => []
  | x :: l => inB sec x ++ insB sec l
def toutB (o : TOut) : List Int := uintB (wr .u64 o.amount) ++ putB o.cond
def toutsB : List TOut → List Int
  | [] => []
  | o :: l => toutB o ++ toutsB l
def putTx (sec : TIn → List Int) (t : TxD) : List Int := uintB (wr .u64 t.lock) ++ uintB (wr .u64 (t.ins.length : Int)) ++ insB sec t.ins ++ uintB (wr .u64 (t.outs.length : Int)) ++ toutsB t.outs
def sumW : List TOut → Nat
  | [] => 0
  | o :: l => weight o.cond + sumW l
def Byt (l : List Int) : Prop := ∀ y, y ∈ l → 0 ≤ y ∧ y < 256
structure TxOk (t : TxD) : Prop where
  n : t.ins.length ≤ 2000000
  m : t.outs.length ≤ 2000000
  w : sumW t.outs ≤ 2000000
  tx : ∀ x, x ∈ t.ins → x.tx.length = 32 ∧ Byt x.tx
  locks : ∀ o, o ∈ t.outs → Locks o.cond ∧ ∀ b, b ∈ o.cond → Byt b.lock
/-- A closure that put is handed: what it tells of an input. -/
def secOf (g : Nat) : TIn → List Int := cond (Nat.beq g 71) (fun _ => []) (fun x => x.secret)
/-- What a closure hands back: nothing. -/
def id1LS : LS AA where
  X := TIn
  pre := fun _ => True
  args := fun x => [.agg (tinSL x)]
  hin := fun _ => []
  res := fun _ => [.val (.slice none 0 0)]
  hout := fun _ => []
noncomputable def L90 : List (Nat × SpecT AA) := (71, tLent id1LS tinGet) :: L89
noncomputable def E90 : Eng AA := EE prog L90
theorem E90_eq : E90 = EE prog L90 := by
  unfold E90
  rfl
def tputAnn : Anns AA := fun k ts sh => if k = 4 then (match writerAt ts sh 5, nth ts 1, nth ts 22 with
    | some (i, j, xs), some (.fn (.func g) _ _), some (.rseq u l0) => match castL 83 l0 with
      | some l => some {
        X := Nat
        inv := fun n => n ≤ l.length
        meas := fun n => l.length - n
        slots := fun n => [(24, .int .i64 n)]
        heap := fun _ => [(i, wcell (cnt sh)), (j, .dead)]
        more := fun n => [.ivec 5 .u8 (xs ++ insB (secOf g) (l.take n))] }
      | none => none
    | _, _, _ => none)
  else (match nth ts 8, nth ts 55 with
    | some (.vec j), some (.rseq u l0) => match nth sh j, castL 77 l0 with
      | some (.ivec _ _ xs), some l => some {
        X := Nat
        inv := fun n => n ≤ l.length
        meas := fun n => l.length - n
        slots := fun n => [(57, .int .i64 n), (8, .vec (cnt sh))]
        heap := fun _ => [(j, .dead)]
        more := fun n => [.ivec 5 .u8 (xs ++ toutsB (l.take n))] }
      | _, _ => none
    | _, _ => none)
noncomputable def L91 : List (Nat × SpecT AA) := (70, tInline E90 f70 (bodyOf f70) tputAnn) :: L90
noncomputable def E91 : Eng AA := EE prog L91
theorem E91_eq : E91 = EE prog L91 := by
  unfold E91
  rfl
noncomputable def idB (t : TxD) : List Int := sumB orderL (putTx (fun _ => []) t)
noncomputable def idLS : LS AA where
  X := TxD
  pre := TxOk
  args := fun t => [.agg (txSL t)]
  hin := fun _ => []
  res := fun t => [hashV (idB t)]
  hout := fun _ => []
noncomputable def L92 : List (Nat × SpecT AA) := (37, tLent idLS txGet) :: L91
noncomputable def E92 : Eng AA := EE prog L92
theorem E92_eq : E92 = EE prog L92 := by
  unfold E92
  rfl
structure AtX where
  t : TxD
  n : Int
noncomputable def atLS : LS AA where
  X := AtX
  pre := fun x => TxOk x.t
  args := fun x => [.agg (txSL x.t), .int .i64 x.n]
  hin := fun _ => []
  res := fun x => [.agg (.run .u8 32 (idB x.t) (.cell (.int .i64 x.n) .nil))]
  hout := fun _ => []
def atGet (args : List (SV AA)) (sh : List (SO AA)) : Option AtX := match args with
  | [t, n] => match decTx sh t, asI n with
    | some t, some n => some ⟨t, n⟩
    | _, _ => none
  | _ => none
noncomputable def L93 : List (Nat × SpecT AA) := (63, tLent atLS atGet) :: L92
noncomputable def E93 : Eng AA := EE prog L93
theorem E93_eq : E93 = EE prog L93 := by
  unfold E93
  rfl
noncomputable def L94 : List (Nat × SpecT AA) := (30, tLent sureLS sureGet) :: L93
noncomputable def E94 : Eng AA := EE prog L94
theorem E94_eq : E94 = EE prog L94 := by
  unfold E94
  rfl
/-! ## The document's total; the law -/
def txRSL (t : TxD) : SL AA := .cell (.int .i64 t.lock) (.cell (.rseq 117 (show List (AA 117) from t.ins)) (.cell (.rseq 79 (show List (AA 79) from t.outs)) .nil))
def decTxR (sh : List (SO AA)) : SV AA → Option TxD
  | .agg (.cell l (.cell a (.cell b .nil))) => match asI l, seqOfS 117 sh a, seqOfS 79 sh b with
    | some l, some a, some b => some ⟨l, a, b⟩
    | _, _, _ => none
  | _ => none
def rTotalLS : LS AA where
  X := TxD
  pre := fun _ => True
  args := fun t => [.agg (txRSL t)]
  hin := fun _ => []
  res := fun t => [.int .i64 (totG t.outs 0).1, .int .i64 (totG t.outs 0).2]
  hout := fun _ => []
def txRGet (args : List (SV AA)) (sh : List (SO AA)) : Option TxD := match args with
  | [x] => decTxR sh x
  | _ => none
def rTotalAnn (t : TxD) : Anns AA := fun _ _ _ => some {
  X := Nat × Int
  inv := fun x => x.1 ≤ t.outs.length ∧ 0 ≤ x.2 ∧ x.2 ≤ 1125899906842624 ∧ totG t.outs 0 = totG (t.outs.drop x.1) x.2
  meas := fun x => t.outs.length - x.1
  slots := fun x => [(5, .int .i64 x.1), (4, .int .i64 x.2)]
  heap := fun _ => [] }
noncomputable def L95 : List (Nat × SpecT AA) := (33, tLent rTotalLS txRGet) :: L94
noncomputable def E95 : Eng AA := EE prog L95
theorem E95_eq : E95 = EE prog L95 := by
  unfold E95
  rfl
def amounts (xs : List Int) : List TOut := xs.map fun a => ⟨a, []⟩
def totalsLS : LS AA where
  X := List Int
  pre := fun _ => True
  args := fun xs => [.rints .i64 xs]
  hin := fun _ => []
  res := fun _ => [.sb 0 true]
  hout := fun _ => []
def totalsAnn (xs : List Int) : Anns AA := fun _ ts sh => match nth ts 3, nth ts 4 with
  | some (.ptr i _), some (.ptr j _) => some {
    X := Nat
    inv := fun n => n ≤ xs.length
    meas := fun n => xs.length - n
    slots := fun n => [(5, .int .i64 n)]
    heap := fun _ => [(i, .cells 70 (.cell (.lit .i64 0) (.cell (.val (.slice none 0 0)) (.cell (.vec (cnt sh)) .nil)))), (j, .cells 63 (.cell (.lit .i64 0) (.cell (.val (.slice none 0 0)) (.cell (.vec (cnt sh + 1)) .nil))))]
    more := fun n => [.svec 77 (show List (AA 77) from amounts (xs.take n)), .svec 79 (show List (AA 79) from amounts (xs.take n))] }
  | _, _ => none
end Go.Proofs.YtcglahfmnoghjaaDoor

/-! A transaction's bytes, its sum; the totals' law: plain laws; the walks hold. Conditions: none. -/
namespace Go.Proofs.YtcglahfmnoghjaaDoor
open Go Go.Eng Go.Proofs.Tryd

theorem stuffB_le : ∀ l : List Int, (stuffB l).length ≤ 2 * l.length
  | [] => by simp [stuffB]
  | c :: l => by
    have := stuffB_le l
    simp only [stuffB]
    split <;> simp only [List.length_cons] <;> omega
theorem stuffB_app : ∀ a b : List Int, stuffB (a ++ b) = stuffB a ++ stuffB b
  | [], b => rfl
  | c :: a, b => by
    simp only [List.cons_append, stuffB]
    split <;> simp [stuffB_app a b]
theorem stuffB_take_le (l : List Int) (i : Nat) : (stuffB (l.take i)).length ≤ 2 * l.length := by
  have h1 := stuffB_le (l.take i)
  have h2 : (l.take i).length ≤ l.length := by rw [List.length_take]; omega
  omega
def wBytesVC : Prop := ∀ (x : BB), x.Ok → (↑x.b.length : Int) ≤ (9223372036854775807 : Int) → (∃ x_1, Nat.le x_1 x.b.length ∧ (↑x_1 : Int) = (0 : Int) ∧ ((True ∧ True) ∧
  True) ∧ x.xs ++ stuffB (List.take x_1 x.b) = x.xs ∧ True) ∧ ∀ (x_1 : Nat), x_1.le x.b.length → (decide ((↑x_1 : Int) < (↑x.b.length : Int)) = true → (0
  : Int) ≤ (↑x_1 : Int) ∧ (↑x_1 : Int) < (↑x.b.length : Int) ∧ (↑x_1 : Int).toNat < x.b.length ∧ ((x.xs ++ stuffB (List.take x_1 x.b)).length + [x.b.getD
  (↑x_1 : Int).toNat (0 : Int)].length) * (1 : Nat) ≤ (140737488355328 : Nat) ∧ (x.xs ++ stuffB (List.take x_1 x.b)).length + [x.b.getD (↑x_1 :
  Int).toNat (0 : Int)].length ≤ (1152921504606846976 : Nat) ∧ ((x.b.getD (↑x_1 : Int).toNat (0 : Int) == (0 : Int)) = true → ((x.xs ++ stuffB (List.take
  x_1 x.b) ++ [x.b.getD (↑x_1 : Int).toNat (0 : Int)]).length + [(255 : Int)].length) * (1 : Nat) ≤ (140737488355328 : Nat) ∧ (x.xs ++ stuffB (List.take
  x_1 x.b) ++ [x.b.getD (↑x_1 : Int).toNat (0 : Int)]).length + [(255 : Int)].length ≤ (1152921504606846976 : Nat) ∧ inI64 ((↑x_1 : Int) + (1 : Int)) ∧ ∃
  y, Nat.le y x.b.length ∧ x.b.length - y < x.b.length - x_1 ∧ (↑y : Int) = (↑x_1 : Int) + (1 : Int) ∧ ((True ∧ True) ∧ True) ∧ x.xs ++ stuffB (List.take
  y x.b) = x.xs ++ stuffB (List.take x_1 x.b) ++ [x.b.getD (↑x_1 : Int).toNat (0 : Int)] ++ [(255 : Int)] ∧ True) ∧ ((x.b.getD (↑x_1 : Int).toNat (0 :
  Int) == (0 : Int)) = false → inI64 ((↑x_1 : Int) + (1 : Int)) ∧ ∃ y, Nat.le y x.b.length ∧ x.b.length - y < x.b.length - x_1 ∧ (↑y : Int) = (↑x_1 :
  Int) + (1 : Int) ∧ ((True ∧ True) ∧ True) ∧ x.xs ++ stuffB (List.take y x.b) = x.xs ++ stuffB (List.take x_1 x.b) ++ [x.b.getD (↑x_1 : Int).toNat (0 :
  Int)] ∧ True)) ∧ (decide ((↑x_1 : Int) < (↑x.b.length : Int)) = false → ((x.xs ++ stuffB (List.take x_1 x.b)).length + [(0 : Int), (0 : Int)].length) *
  (1 : Nat) ≤ (140737488355328 : Nat) ∧ (x.xs ++ stuffB (List.take x_1 x.b)).length + [(0 : Int), (0 : Int)].length ≤ (1152921504606846976 : Nat) ∧ True
  ∧ ((True ∧ True) ∧ True) ∧ x.xs ++ bytesB x.b = x.xs ++ stuffB (List.take x_1 x.b) ++ [(0 : Int), (0 : Int)] ∧ True)

theorem wBytes_eq : wBytesVC = fnS E88 f104 (bodyOf f104) wBytesLS wBytesAnn := by kernel_rfl
theorem wBytes_vc : wBytesVC := by
  rintro ⟨xs, b⟩ ⟨hl, hb⟩
  simp only at hl hb
  simp only [true_and, and_true, decide_eq_true_eq, decide_eq_false_iff_not, Int.toNat_natCast, List.length_append, List.length_singleton, List.length_cons, List.length_nil, beq_iff_eq, beq_eq_false_iff_ne, ne_eq]
  refine fun _ => ⟨⟨0, Nat.zero_le _, rfl, by simp [stuffB]⟩, fun i hi => ⟨fun h => ?_, fun h => ?_⟩⟩
  · have hi' : i < b.length := by omega
    have p1 := stuffB_take_le b i
    have hup := take_up hi' rfl
    refine ⟨by omega, h, hi', by omega, by omega, fun h0 => ⟨by omega, by omega, by unfold inI64; omega, i + 1, hi', by omega, by omega, ?_⟩, fun h0 => ⟨by unfold inI64; omega, i + 1, hi', by omega, by omega, ?_⟩⟩
    · rw [hup, stuffB_app, h0]
      simp [stuffB]
    · rw [hup, stuffB_app]
      simp only [stuffB, if_neg h0, List.append_assoc]
  · have p1 := stuffB_take_le b i
    refine ⟨by omega, by omega, ?_⟩
    rw [List.take_of_length_le (by omega)]
    simp [bytesB]
theorem wBytes_ok : Fits E88 f104 (bodyOf f104) wBytesLS wBytesAnn := by
  constructor
  rw [← wBytes_eq]
  exact wBytes_vc
theorem f104_has : Has prog 104 f104 (bodyOf f104) := ⟨by kernel_rfl, by kernel_rfl, by kernel_rfl⟩
theorem known89 : Known prog L89 := by
  unfold L89
  exact known88.lent mixed f104_has E88_eq wBytes_ok (fun _ _ => by simp [wBytesLS]) (fun h => by cases h)
def id1VC : Prop := ∀ (x : TIn), True → (SV.val (A := AA) (Value.slice none (0 : Nat) (0 : Nat)) : SV AA) = SV.val (A := AA) (Value.slice none (0 : Nat) (0 : Nat)) ∧ True
  ∧ True

theorem id1_eq : id1VC = fnS E89 f71 (bodyOf f71) id1LS noAnn := by kernel_rfl
theorem id1_ok : Fits E89 f71 (bodyOf f71) id1LS noAnn := by
  constructor
  rw [← id1_eq]
  exact fun _ _ => ⟨rfl, trivial, trivial⟩
theorem f71_has : Has prog 71 f71 (bodyOf f71) := ⟨by kernel_rfl, by kernel_rfl, by kernel_rfl⟩
theorem known90 : Known prog L90 := by
  unfold L90
  exact known89.lent mixed f71_has E89_eq id1_ok (fun _ _ => Nat.le_refl _) (fun _ _ => rfl)
theorem f70_has : Has prog 70 f70 (bodyOf f70) := ⟨by kernel_rfl, by kernel_rfl, by kernel_rfl⟩
theorem known91 : Known prog L91 := by
  unfold L91
  exact known90.inl mixed f70_has E90_eq (by rfl)

/-! ## Plain laws of a transaction's bytes -/
theorem byt_app {a b : List Int} (ha : Byt a) (hb : Byt b) : Byt (a ++ b) := fun y hy => by
  rcases List.mem_append.1 hy with h | h
  · exact ha y h
  · exact hb y h
theorem byt_nil : Byt [] := fun y h => by cases h
theorem uintB_byt (x : Int) : Byt (uintB (wr .u64 x)) := fun y hy => by
  rcases List.mem_cons.1 hy with h | h
  · have := digs_le (u64_wr x)
    rw [h]
    omega
  · exact digs_byte h
theorem keysB_byt : ∀ l : List Int, Byt (keysB l)
  | [] => byt_nil
  | k :: l => byt_app (uintB_byt k) (keysB_byt l)
theorem brsB_byt : ∀ {l : List Br}, (∀ b, b ∈ l → Byt b.lock) → Byt (brsB l)
  | [], _ => byt_nil
  | b :: l, h => by
    refine byt_app ?_ (brsB_byt fun c hc => h c (List.mem_cons_of_mem _ hc))
    exact byt_app (byt_app (byt_app (byt_app (uintB_byt _) (keysB_byt _)) (h b List.mem_cons_self)) (uintB_byt _)) (uintB_byt _)
theorem stuffB_byt : ∀ {l : List Int}, Byt l → Byt (stuffB l)
  | [], _ => byt_nil
  | c :: l, h => by
    have h1 := stuffB_byt (l := l) (fun y hy => h y (List.mem_cons_of_mem _ hy))
    have h2 := h c List.mem_cons_self
    intro y hy
    simp only [stuffB] at hy
    split at hy
    · simp only [List.mem_cons] at hy
      rcases hy with rfl | rfl | hy
      · omega
      · omega
      · exact h1 y hy
    · rcases List.mem_cons.1 hy with rfl | hy
      · exact h2
      · exact h1 y hy
theorem bytesB_byt {l : List Int} (h : Byt l) : Byt (bytesB l) := byt_app (stuffB_byt h) (fun y hy => by simp only [List.mem_cons, List.not_mem_nil, or_false] at hy; omega)
theorem insB_app (sec : TIn → List Int) : ∀ a b : List TIn, insB sec (a ++ b) = insB sec a ++ insB sec b
  | [], b => rfl
  | x :: a, b => by simp [insB, insB_app sec a b]
theorem insB_up {sec : TIn → List Int} {l : List TIn} {i : Nat} {y : TIn} (h : l[i]? = some y) : insB sec (l.take (i + 1)) = insB sec (l.take i) ++ inB sec y := by
  rw [List.take_add_one, h, insB_app]
  simp [insB]
theorem toutsB_app : ∀ a b : List TOut, toutsB (a ++ b) = toutsB a ++ toutsB b
  | [], b => rfl
  | x :: a, b => by simp [toutsB, toutsB_app a b]
theorem toutsB_up {l : List TOut} {i : Nat} {y : TOut} (h : l[i]? = some y) : toutsB (l.take (i + 1)) = toutsB (l.take i) ++ toutB y := by
  rw [List.take_add_one, h, toutsB_app]
  simp [toutsB]
theorem insB_le {sec : TIn → List Int} {m : Nat} (hs : ∀ x, (sec x).length ≤ m) : ∀ {l : List TIn}, (∀ x, x ∈ l → x.tx.length = 32) → (insB sec l).length ≤ (52 + 2 * m) * l.length
  | [], _ => by simp [insB]
  | x :: l, h => by
    have h1 := insB_le hs (l := l) (fun y hy => h y (List.mem_cons_of_mem _ hy))
    have h2 := h x List.mem_cons_self
    have h3 := uintB_le x.n
    have h4 := uintB_le x.branch
    have h5 := stuffB_le (sec x)
    have h6 := hs x
    simp only [insB, inB, bytesB, List.length_append, List.length_cons, List.length_nil]
    have e : (52 + 2 * m) * (l.length + 1) = (52 + 2 * m) * l.length + (52 + 2 * m) := by rw [Nat.mul_add, Nat.mul_one]
    omega
theorem toutsB_le : ∀ {l : List TOut}, (∀ o, o ∈ l → Locks o.cond) → (toutsB l).length ≤ 18 * l.length + 59 * sumW l
  | [], _ => by simp [toutsB]
  | o :: l, h => by
    have h1 := toutsB_le (l := l) (fun y hy => h y (List.mem_cons_of_mem _ hy))
    have h2 := putB_le (h o List.mem_cons_self)
    have h3 := uintB_le o.amount
    simp only [toutsB, toutB, sumW, List.length_append, List.length_cons]
    omega
theorem insB_take_le {sec : TIn → List Int} {m : Nat} (hs : ∀ x, (sec x).length ≤ m) {l : List TIn} (h : ∀ x, x ∈ l → x.tx.length = 32) (i : Nat) : (insB sec (l.take i)).length ≤ (52 + 2 * m) * l.length := by
  have h1 := insB_le hs h
  have h2 := congrArg (fun x => (insB sec x).length) (List.take_append_drop i l)
  simp only [insB_app, List.length_append] at h2
  omega
theorem toutsB_take_le {l : List TOut} (h : ∀ o, o ∈ l → Locks o.cond) (i : Nat) : (toutsB (l.take i)).length ≤ 18 * l.length + 59 * sumW l := by
  have h1 := toutsB_le h
  have h2 := congrArg (fun x => (toutsB x).length) (List.take_append_drop i l)
  simp only [toutsB_app, List.length_append] at h2
  omega
theorem weight_sum : ∀ {l : List TOut} {o : TOut}, o ∈ l → weight o.cond ≤ sumW l
  | [], o, h => by cases h
  | p :: l, o, h => by
    simp only [sumW]
    rcases List.mem_cons.1 h with rfl | h
    · omega
    · have := weight_sum h; omega
theorem insB_byt {sec : TIn → List Int} (hs : ∀ x, Byt (sec x)) : ∀ {l : List TIn}, (∀ x, x ∈ l → Byt x.tx) → Byt (insB sec l)
  | [], _ => byt_nil
  | x :: l, h => byt_app (byt_app (byt_app (byt_app (h x List.mem_cons_self) (uintB_byt _)) (uintB_byt _)) (bytesB_byt (hs x))) (insB_byt hs fun y hy => h y (List.mem_cons_of_mem _ hy))
theorem toutsB_byt : ∀ {l : List TOut}, (∀ o, o ∈ l → ∀ b, b ∈ o.cond → Byt b.lock) → Byt (toutsB l)
  | [], _ => byt_nil
  | o :: l, h => byt_app (byt_app (uintB_byt _) (byt_app (uintB_byt _) (brsB_byt (h o List.mem_cons_self)))) (toutsB_byt fun y hy => h y (List.mem_cons_of_mem _ hy))
end Go.Proofs.YtcglahfmnoghjaaDoor

/-! A transaction's sum: the walk holds. Conditions: none. -/
namespace Go.Proofs.YtcglahfmnoghjaaDoor
open Go Go.Eng Go.Proofs.Tryd

/-! What the walk speaks of, in short. -/
def tA0 (x : TxD) : List Int := [] ++ uintB (wr IntKind.u64 x.lock)
def tA1 (x : TxD) : List Int := [] ++ uintB (wr IntKind.u64 x.lock) ++ uintB (wr IntKind.u64 (↑x.ins.length : Int))
def tA2 (x : TxD) (k : Nat) : List Int := tA1 x ++ insB (secOf (71 : Nat)) (List.take k x.ins)
def tA3 (x : TxD) (k : Nat) (y : TIn) : List Int := tA2 x k ++ y.tx
def tA4 (x : TxD) (k : Nat) (y : TIn) : List Int := tA3 x k y ++ uintB (wr IntKind.u64 y.n)
def tA5 (x : TxD) (k : Nat) (y : TIn) : List Int := tA4 x k y ++ uintB (wr IntKind.u64 y.branch)
def tA6 (x : TxD) (k : Nat) : List Int := tA2 x k ++ uintB (wr IntKind.u64 (↑x.outs.length : Int))
def tA7 (x : TxD) (k i : Nat) : List Int := tA6 x k ++ toutsB (List.take i x.outs)
def tA8 (y : TOut) : List Int := [] ++ uintB (wr IntKind.u64 y.amount)
def tH (x : TxD) : Prop := ((x.lock = x.lock ∧ x.ins = x.ins ∧ x.outs = x.outs ∧ True) ∧ (List.replicate (32 : Nat) (0 : Int) = List.replicate (32 : Nat) (0 : Int) ∧ True) ∧ (x.lock = x.lock ∧ x.ins = x.ins ∧ x.outs = x.outs ∧ True) ∧ (True ∧ True) ∧ True)
def tH2 (x : TxD) (k : Nat) : Prop := ((x.lock = x.lock ∧ x.ins = x.ins ∧ x.outs = x.outs ∧ True) ∧ (List.replicate (32 : Nat) (0 : Int) = List.replicate (32 : Nat) (0 : Int) ∧ True) ∧ (x.lock = x.lock ∧ x.ins = x.ins ∧ x.outs = x.outs ∧ True) ∧ (True ∧ True) ∧ tA6 x k = tA6 x k ∧ True)
theorem tH_ok (x : TxD) : tH x := ⟨⟨rfl, rfl, rfl, trivial⟩, ⟨rfl, trivial⟩, ⟨rfl, rfl, rfl, trivial⟩, ⟨trivial, trivial⟩, trivial⟩
theorem tH2_ok (x : TxD) (k : Nat) : tH2 x k := ⟨⟨rfl, rfl, rfl, trivial⟩, ⟨rfl, trivial⟩, ⟨rfl, rfl, rfl, trivial⟩, ⟨trivial, trivial⟩, rfl, trivial⟩
def tF (x : TxD) (k : Nat) (y : TIn) : Prop := inI64 ((↑k : Int) + (1 : Int)) ∧ ∃ y_1, Nat.le y_1 x.ins.length ∧ x.ins.length - y_1 < x.ins.length - k ∧ (↑y_1 : Int) = (↑k : Int) + (1 : Int) ∧ tH x ∧ tA1 x ++ insB (secOf (71 : Nat)) (List.take y_1 x.ins) = tA5 x k y ++ bytesB [] ∧ True
def tG (x : TxD) (k : Nat) (y : TIn) : Prop := (y.tx = y.tx ∧ y.n = y.n ∧ y.branch = y.branch ∧ y.secret = y.secret ∧ True) ∧ True ∧ True ∧ (True ∧ ([] : List Int) = []) ∧ ((True ∧ True) ∧ tA5 x k y = tA5 x k y ∧ True) ∧ (BB.mk (tA5 x k y) []).Ok ∧ tF x k y
def tK (x : TxD) (k : Nat) (y : TIn) : Prop := (True ∧ wr IntKind.u64 y.branch = wr IntKind.u64 y.branch) ∧ ((True ∧ True) ∧ tA4 x k y = tA4 x k y ∧ True) ∧ (BN.mk (tA4 x k y) (wr IntKind.u64 y.branch)).Low ∧ tG x k y
def tL (x : TxD) (k : Nat) (y : TIn) : Prop := (True ∧ wr IntKind.u64 y.n = wr IntKind.u64 y.n) ∧ ((True ∧ True) ∧ tA3 x k y = tA3 x k y ∧ True) ∧ (BN.mk (tA3 x k y) (wr IntKind.u64 y.n)).Low ∧ tK x k y
def tM (x : TxD) (k i : Nat) (y : TOut) : Prop := ((tA7 x k i).length + (tA8 y).length) * (1 : Nat) ≤ (140737488355328 : Nat) ∧ (tA7 x k i).length + (tA8 y).length ≤ (1152921504606846976 : Nat) ∧ (tA7 x k i ++ (tA8 y) = tA7 x k i ++ (tA8 y) ∧ y.cond = y.cond ∧ True) ∧ True ∧ (PutX.mk (tA7 x k i ++ (tA8 y)) y.cond).Ok ∧ inI64 ((↑i : Int) + (1 : Int)) ∧ ∃ y_1, Nat.le y_1 x.outs.length ∧ x.outs.length - y_1 < x.outs.length - i ∧ ((↑y_1 : Int) = (↑i : Int) + (1 : Int) ∧ True) ∧ tH2 x k ∧ tA6 x k ++ toutsB (List.take y_1 x.outs) = tA7 x k i ++ (tA8 y) ++ putB y.cond ∧ True
def tBody (x : TxD) : Prop := ((↑x.ins.length : Int) ≤ (9223372036854775807 : Int) → (∃ x_1, Nat.le x_1 x.ins.length ∧ (↑x_1 : Int) = (0 : Int) ∧ tH x ∧ tA2 x x_1 = tA1 x ∧ True) ∧
  ∀ (x_1 : Nat), x_1.le x.ins.length → (decide ((↑x_1 : Int) < (↑x.ins.length : Int)) = true → (0 : Int) ≤ (↑x_1 : Int) ∧ (↑x_1 : Int) < (↑x.ins.length :
  Int) ∧ ∀ (y : AA (83 : Nat)), x.ins[(↑x_1 : Int).toNat]? = some y → ((True ∧ y.tx = y.tx ∧ True) ∧ ((True ∧ True) ∧ tA2 x x_1 = tA2 x x_1 ∧ True) ∧
  (BH.mk (tA2 x x_1) y.tx).Ok ∧ ((True ∧ wr IntKind.u64 y.n = wr IntKind.u64 y.n) ∧ ((True ∧ True) ∧ tA3 x x_1 y = tA3 x x_1 y ∧ True) ∧ (BN.mk (tA3 x
  x_1 y) (wr IntKind.u64 y.n)).Low ∧ (tK x x_1 y) ∧ tK x x_1 y) ∧ (((True ∧ wr IntKind.u64 y.n = wr IntKind.u64 y.n) ∧ ((True ∧ True) ∧ tA3 x x_1 y = tA3
  x x_1 y ∧ True) ∧ (BN.mk (tA3 x x_1 y) (wr IntKind.u64 y.n)).Low ∧ (tK x x_1 y) ∧ tK x x_1 y) ∧ tL x x_1 y) ∧ (tL x x_1 y) ∧ tL x x_1 y) ∧ (((True ∧
  y.tx = y.tx ∧ True) ∧ ((True ∧ True) ∧ tA2 x x_1 = tA2 x x_1 ∧ True) ∧ (BH.mk (tA2 x x_1) y.tx).Ok ∧ ((True ∧ wr IntKind.u64 y.n = wr IntKind.u64 y.n)
  ∧ ((True ∧ True) ∧ tA3 x x_1 y = tA3 x x_1 y ∧ True) ∧ (BN.mk (tA3 x x_1 y) (wr IntKind.u64 y.n)).Low ∧ (tK x x_1 y) ∧ tK x x_1 y) ∧ (((True ∧ wr
  IntKind.u64 y.n = wr IntKind.u64 y.n) ∧ ((True ∧ True) ∧ tA3 x x_1 y = tA3 x x_1 y ∧ True) ∧ (BN.mk (tA3 x x_1 y) (wr IntKind.u64 y.n)).Low ∧ (tK x x_1
  y) ∧ tK x x_1 y) ∧ tL x x_1 y) ∧ (tL x x_1 y) ∧ tL x x_1 y) ∧ (((True ∧ y.tx = y.tx ∧ True) ∧ ((True ∧ True) ∧ tA2 x x_1 = tA2 x x_1 ∧ True) ∧ (BH.mk
  (tA2 x x_1) y.tx).Ok ∧ ((True ∧ wr IntKind.u64 y.n = wr IntKind.u64 y.n) ∧ ((True ∧ True) ∧ tA3 x x_1 y = tA3 x x_1 y ∧ True) ∧ (BN.mk (tA3 x x_1 y)
  (wr IntKind.u64 y.n)).Low ∧ (tK x x_1 y) ∧ tK x x_1 y) ∧ tL x x_1 y) ∧ (True ∧ y.tx = y.tx ∧ True) ∧ ((True ∧ True) ∧ tA2 x x_1 = tA2 x x_1 ∧ True) ∧
  (BH.mk (tA2 x x_1) y.tx).Ok ∧ tL x x_1 y) ∧ ((True ∧ y.tx = y.tx ∧ True) ∧ ((True ∧ True) ∧ tA2 x x_1 = tA2 x x_1 ∧ True) ∧ (BH.mk (tA2 x x_1) y.tx).Ok
  ∧ (tL x x_1 y) ∧ tL x x_1 y) ∧ (True ∧ y.tx = y.tx ∧ True) ∧ ((True ∧ True) ∧ tA2 x x_1 = tA2 x x_1 ∧ True) ∧ (BH.mk (tA2 x x_1) y.tx).Ok ∧ tL x x_1 y)
  ∧ (((True ∧ y.tx = y.tx ∧ True) ∧ ((True ∧ True) ∧ tA2 x x_1 = tA2 x x_1 ∧ True) ∧ (BH.mk (tA2 x x_1) y.tx).Ok ∧ ((True ∧ wr IntKind.u64 y.n = wr
  IntKind.u64 y.n) ∧ ((True ∧ True) ∧ tA3 x x_1 y = tA3 x x_1 y ∧ True) ∧ (BN.mk (tA3 x x_1 y) (wr IntKind.u64 y.n)).Low ∧ (tK x x_1 y) ∧ tK x x_1 y) ∧
  tL x x_1 y) ∧ (((True ∧ y.tx = y.tx ∧ True) ∧ ((True ∧ True) ∧ tA2 x x_1 = tA2 x x_1 ∧ True) ∧ (BH.mk (tA2 x x_1) y.tx).Ok ∧ ((True ∧ wr IntKind.u64
  y.n = wr IntKind.u64 y.n) ∧ ((True ∧ True) ∧ tA3 x x_1 y = tA3 x x_1 y ∧ True) ∧ (BN.mk (tA3 x x_1 y) (wr IntKind.u64 y.n)).Low ∧ (tK x x_1 y) ∧ tK x
  x_1 y) ∧ tL x x_1 y) ∧ (True ∧ y.tx = y.tx ∧ True) ∧ ((True ∧ True) ∧ tA2 x x_1 = tA2 x x_1 ∧ True) ∧ (BH.mk (tA2 x x_1) y.tx).Ok ∧ tL x x_1 y) ∧
  ((True ∧ y.tx = y.tx ∧ True) ∧ ((True ∧ True) ∧ tA2 x x_1 = tA2 x x_1 ∧ True) ∧ (BH.mk (tA2 x x_1) y.tx).Ok ∧ tL x x_1 y) ∧ (True ∧ y.tx = y.tx ∧ True)
  ∧ ((True ∧ True) ∧ tA2 x x_1 = tA2 x x_1 ∧ True) ∧ (BH.mk (tA2 x x_1) y.tx).Ok ∧ tL x x_1 y) ∧ ((True ∧ y.tx = y.tx ∧ True) ∧ ((True ∧ True) ∧ tA2 x
  x_1 = tA2 x x_1 ∧ True) ∧ (BH.mk (tA2 x x_1) y.tx).Ok ∧ (tL x x_1 y) ∧ tL x x_1 y) ∧ (((True ∧ y.tx = y.tx ∧ True) ∧ ((True ∧ True) ∧ tA2 x x_1 = tA2 x
  x_1 ∧ True) ∧ (BH.mk (tA2 x x_1) y.tx).Ok ∧ (tL x x_1 y) ∧ tL x x_1 y) ∧ (True ∧ y.tx = y.tx ∧ True) ∧ ((True ∧ True) ∧ tA2 x x_1 = tA2 x x_1 ∧ True) ∧
  (BH.mk (tA2 x x_1) y.tx).Ok ∧ tL x x_1 y) ∧ ((True ∧ y.tx = y.tx ∧ True) ∧ ((True ∧ True) ∧ tA2 x x_1 = tA2 x x_1 ∧ True) ∧ (BH.mk (tA2 x x_1) y.tx).Ok
  ∧ tL x x_1 y) ∧ (True ∧ y.tx = y.tx ∧ True) ∧ ((True ∧ True) ∧ tA2 x x_1 = tA2 x x_1 ∧ True) ∧ (BH.mk (tA2 x x_1) y.tx).Ok ∧ tL x x_1 y) ∧ (decide
  ((↑x_1 : Int) < (↑x.ins.length : Int)) = false → (↑x.outs.length : Int) ≤ (9223372036854775807 : Int) → (True ∧ wr IntKind.u64 (↑x.outs.length : Int) =
  wr IntKind.u64 (↑x.outs.length : Int)) ∧ ((True ∧ True) ∧ tA2 x x_1 = tA2 x x_1 ∧ True) ∧ (BN.mk (tA2 x x_1) (wr IntKind.u64 (↑x.outs.length :
  Int))).Low ∧ True ∧ ((True ∧ True) ∧ tA6 x x_1 = tA6 x x_1 ∧ True) ∧ (tA6 x x_1).length.le (1099511627776 : Nat) ∧ ((↑x.outs.length : Int) ≤
  (9223372036854775807 : Int) → (∃ x_2, Nat.le x_2 x.outs.length ∧ ((↑x_2 : Int) = (0 : Int) ∧ True) ∧ tH2 x x_1 ∧ tA7 x x_1 x_2 = tA6 x x_1 ∧ True) ∧ ∀
  (x_2 : Nat), x_2.le x.outs.length → (decide ((↑x_2 : Int) < (↑x.outs.length : Int)) = true → (0 : Int) ≤ (↑x_2 : Int) ∧ (↑x_2 : Int) < (↑x.outs.length
  : Int) ∧ ∀ (y : AA (77 : Nat)), x.outs[(↑x_2 : Int).toNat]? = some y → (True ∧ True ∧ True ∧ ((True ∧ wr IntKind.u64 y.amount = wr IntKind.u64
  y.amount) ∧ ((SV.val (A := AA) (Value.slice none (0 : Nat) (0 : Nat)) = SV.val (A := AA) (Value.slice none (0 : Nat) (0 : Nat)) ∧ True) ∧ ([] : List
  Int) = [] ∧ True) ∧ (BN.mk [] (wr IntKind.u64 y.amount)).Low ∧ (True ∧ ((True ∧ True) ∧ tA8 y = tA8 y ∧ True) ∧ (tA8 y).length.le (1099511627776 : Nat)
  ∧ (tM x x_1 x_2 y) ∧ tM x x_1 x_2 y) ∧ True ∧ ((True ∧ True) ∧ tA8 y = tA8 y ∧ True) ∧ (tA8 y).length.le (1099511627776 : Nat) ∧ tM x x_1 x_2 y) ∧
  (True ∧ wr IntKind.u64 y.amount = wr IntKind.u64 y.amount) ∧ ((SV.val (A := AA) (Value.slice none (0 : Nat) (0 : Nat)) = SV.val (A := AA) (Value.slice
  none (0 : Nat) (0 : Nat)) ∧ True) ∧ ([] : List Int) = [] ∧ True) ∧ (BN.mk [] (wr IntKind.u64 y.amount)).Low ∧ True ∧ ((True ∧ True) ∧ tA8 y = tA8 y ∧
  True) ∧ (tA8 y).length.le (1099511627776 : Nat) ∧ tM x x_1 x_2 y) ∧ True ∧ True ∧ True ∧ (True ∧ wr IntKind.u64 y.amount = wr IntKind.u64 y.amount) ∧
  ((SV.val (A := AA) (Value.slice none (0 : Nat) (0 : Nat)) = SV.val (A := AA) (Value.slice none (0 : Nat) (0 : Nat)) ∧ True) ∧ ([] : List Int) = [] ∧
  True) ∧ (BN.mk [] (wr IntKind.u64 y.amount)).Low ∧ True ∧ ((True ∧ True) ∧ tA8 y = tA8 y ∧ True) ∧ (tA8 y).length.le (1099511627776 : Nat) ∧ tM x x_1
  x_2 y) ∧ (decide ((↑x_2 : Int) < (↑x.outs.length : Int)) = false → tA7 x x_1 x_2 = tA7 x x_1 x_2 ∧ True ∧ Bytes (tA7 x x_1 x_2) ∧ (idB x = sumB orderL
  (tA7 x x_1 x_2) ∧ True) ∧ True ∧ True))))

def tidVC : Prop := ∀ (x : TxD), TxOk x → (True ∧ True ∧ True ∧ ((True ∧ wr IntKind.u64 x.lock = wr IntKind.u64 x.lock) ∧ (((SV.val (A := AA) (Value.slice none (0 : Nat)
  (0 : Nat)) : SV AA) = SV.val (A := AA) (Value.slice none (0 : Nat) (0 : Nat)) ∧ True) ∧ ([] : List Int) = [] ∧ True) ∧ (BN.mk [] (wr IntKind.u64
  x.lock)).Low ∧ ((↑x.ins.length : Int) ≤ (9223372036854775807 : Int) → (True ∧ wr IntKind.u64 (↑x.ins.length : Int) = wr IntKind.u64 (↑x.ins.length :
  Int)) ∧ ((True ∧ True) ∧ tA0 x = tA0 x ∧ True) ∧ (BN.mk (tA0 x) (wr IntKind.u64 (↑x.ins.length : Int))).Low ∧ tBody x)) ∧ ((↑x.ins.length : Int) ≤
  (9223372036854775807 : Int) → (True ∧ wr IntKind.u64 x.lock = wr IntKind.u64 x.lock) ∧ (((SV.val (A := AA) (Value.slice none (0 : Nat) (0 : Nat)) : SV
  AA) = SV.val (A := AA) (Value.slice none (0 : Nat) (0 : Nat)) ∧ True) ∧ ([] : List Int) = [] ∧ True) ∧ (BN.mk [] (wr IntKind.u64 x.lock)).Low ∧ (True ∧
  wr IntKind.u64 (↑x.ins.length : Int) = wr IntKind.u64 (↑x.ins.length : Int)) ∧ ((True ∧ True) ∧ tA0 x = tA0 x ∧ True) ∧ (BN.mk (tA0 x) (wr IntKind.u64
  (↑x.ins.length : Int))).Low ∧ tBody x)) ∧ ((↑x.ins.length : Int) ≤ (9223372036854775807 : Int) → True ∧ True ∧ True ∧ (True ∧ wr IntKind.u64 x.lock =
  wr IntKind.u64 x.lock) ∧ (((SV.val (A := AA) (Value.slice none (0 : Nat) (0 : Nat)) : SV AA) = SV.val (A := AA) (Value.slice none (0 : Nat) (0 : Nat))
  ∧ True) ∧ ([] : List Int) = [] ∧ True) ∧ (BN.mk [] (wr IntKind.u64 x.lock)).Low ∧ (True ∧ wr IntKind.u64 (↑x.ins.length : Int) = wr IntKind.u64
  (↑x.ins.length : Int)) ∧ ((True ∧ True) ∧ tA0 x = tA0 x ∧ True) ∧ (BN.mk (tA0 x) (wr IntKind.u64 (↑x.ins.length : Int))).Low ∧ tBody x)

theorem tid_eq : tidVC = fnS E91 f37 (bodyOf f37) idLS noAnn := by kernel_rfl
theorem low_of {xs : List Int} {n : Int} (h : xs.length ≤ 1000000000000) : (BN.mk xs (wr .u64 n)).Low := ⟨h, u64_wr n⟩
theorem tA1_le (x : TxD) : (tA1 x).length ≤ 18 := by
  have h1 := uintB_le x.lock
  have h2 := uintB_le (x.ins.length : Int)
  simp only [tA1, List.nil_append, List.length_append]
  omega
theorem sec0_le : ∀ x : TIn, (secOf 71 x).length ≤ 0 := fun _ => Nat.le_refl _
theorem tA2_le {x : TxD} (h : TxOk x) (k : Nat) : (tA2 x k).length ≤ 18 + 52 * x.ins.length := by
  have h1 := tA1_le x
  have h2 := insB_take_le sec0_le (fun y hy => (h.tx y hy).1) k
  simp only [tA2, List.length_append]
  omega
theorem tA6_le {x : TxD} (h : TxOk x) (k : Nat) : (tA6 x k).length ≤ 27 + 52 * x.ins.length := by
  have h1 := tA2_le h k
  have h2 := uintB_le (x.outs.length : Int)
  simp only [tA6, List.length_append]
  omega
theorem tA7_le {x : TxD} (h : TxOk x) (k i : Nat) : (tA7 x k i).length ≤ 27 + 52 * x.ins.length + 18 * x.outs.length + 59 * sumW x.outs := by
  have h1 := tA6_le h k
  have h2 := toutsB_take_le (fun o ho => (h.locks o ho).1) i
  simp only [tA7, List.length_append]
  omega
theorem tF_ok {x : TxD} (hx : TxOk x) {k : Nat} (hk : k < x.ins.length) {y : TIn} (hy : x.ins[k]? = some y) : tF x k y := by
  have h1 := hx.n
  refine ⟨by unfold inI64; omega, k + 1, hk, by omega, by omega, tH_ok x, ?_, trivial⟩
  rw [insB_up hy]
  simp only [tA5, tA4, tA3, tA2, inB, List.append_assoc]
  rfl
theorem tG_ok {x : TxD} (hx : TxOk x) {k : Nat} (hk : k < x.ins.length) {y : TIn} (hy : x.ins[k]? = some y) : tG x k y := by
  have h1 := hx.n
  have h2 := tA2_le hx k
  have h3 := (hx.tx y (List.mem_of_getElem? hy)).1
  have h4 := uintB_le y.n
  have h5 := uintB_le y.branch
  refine ⟨⟨rfl, rfl, rfl, rfl, trivial⟩, trivial, trivial, ⟨trivial, rfl⟩, ⟨⟨trivial, trivial⟩, rfl, trivial⟩, ⟨?_, by simp⟩, tF_ok hx hk hy⟩
  simp only [tA5, tA4, tA3, List.length_append]
  omega
theorem tK_ok {x : TxD} (hx : TxOk x) {k : Nat} (hk : k < x.ins.length) {y : TIn} (hy : x.ins[k]? = some y) : tK x k y := by
  have h1 := hx.n
  have h2 := tA2_le hx k
  have h3 := (hx.tx y (List.mem_of_getElem? hy)).1
  have h4 := uintB_le y.n
  refine ⟨⟨trivial, rfl⟩, ⟨⟨trivial, trivial⟩, rfl, trivial⟩, low_of ?_, tG_ok hx hk hy⟩
  simp only [tA4, tA3, List.length_append]
  omega
theorem tL_ok {x : TxD} (hx : TxOk x) {k : Nat} (hk : k < x.ins.length) {y : TIn} (hy : x.ins[k]? = some y) : tL x k y := by
  have h1 := hx.n
  have h2 := tA2_le hx k
  have h3 := (hx.tx y (List.mem_of_getElem? hy)).1
  refine ⟨⟨trivial, rfl⟩, ⟨⟨trivial, trivial⟩, rfl, trivial⟩, low_of ?_, tK_ok hx hk hy⟩
  simp only [tA3, List.length_append]
  omega
theorem tM_ok {x : TxD} (hx : TxOk x) (k : Nat) {i : Nat} (hi : i < x.outs.length) {y : TOut} (hy : x.outs[i]? = some y) : tM x k i y := by
  have h1 := hx.n
  have h2 := hx.m
  have h3 := hx.w
  have h4 := tA7_le hx k i
  have h5 := uintB_le y.amount
  have h6 := weight_sum (List.mem_of_getElem? hy)
  have h7 : (tA8 y).length ≤ 9 := by simp only [tA8, List.nil_append]; exact h5
  refine ⟨by omega, by omega, ⟨rfl, rfl, trivial⟩, trivial, ⟨?_, show weight y.cond ≤ 2000000 by omega, (hx.locks y (List.mem_of_getElem? hy)).1⟩, by unfold inI64; omega, i + 1, hi, by omega, ⟨by omega, trivial⟩, tH2_ok x k, ?_, trivial⟩
  · simp only [List.length_append]
    omega
  · rw [toutsB_up hy]
    simp only [tA7, tA8, toutB, List.nil_append, List.append_assoc]
theorem tA7_all {x : TxD} {k i : Nat} (hk : x.ins.length ≤ k) (hi : x.outs.length ≤ i) : tA7 x k i = putTx (fun _ => []) x := by
  simp only [tA7, tA6, tA2, tA1, putTx, List.take_of_length_le hk, List.take_of_length_le hi, List.nil_append]
  rfl
theorem putTx_byt {x : TxD} (hx : TxOk x) : Byt (putTx (fun _ => []) x) :=
  byt_app (byt_app (byt_app (byt_app (uintB_byt _) (uintB_byt _)) (insB_byt (fun _ => byt_nil) fun y hy => (hx.tx y hy).2)) (uintB_byt _)) (toutsB_byt fun o ho => (hx.locks o ho).2)
theorem tBody_ok {x : TxD} (hx : TxOk x) : tBody x := by
  have h1 := hx.n
  have h2 := hx.m
  have h3 := hx.w
  unfold tBody
  simp only [true_and, and_true, decide_eq_true_eq, decide_eq_false_iff_not, Int.toNat_natCast, tH_ok, tH2_ok]
  refine fun _ => ⟨⟨0, Nat.zero_le _, rfl, by simp [tA2, insB]⟩, fun k hk => ⟨fun h => ?_, fun h _ => ?_⟩⟩
  · have hk' : k < x.ins.length := by omega
    refine ⟨by omega, h, fun y hy => ?_⟩
    have p1 := tL_ok hx hk' (y := y) hy
    have p2 := tK_ok hx hk' (y := y) hy
    have p3 := tA2_le hx k
    have p4 : y.tx.length = 32 := (hx.tx y (List.mem_of_getElem? hy)).1
    have p5 : (BH.mk (tA2 x k) y.tx).Ok := ⟨show (tA2 x k).length ≤ 1099511627776 by omega, p4⟩
    have p6 : (BN.mk (tA3 x k y) (wr .u64 y.n)).Low := p1.2.2.1
    simp only [p1, p2, p5, p6, and_self]
  · have q1 := tA2_le hx k
    have q2 := tA6_le hx k
    refine ⟨low_of (by omega), show (tA6 x k).length ≤ 1099511627776 by omega, fun _ => ⟨⟨0, Nat.zero_le _, rfl, by simp [tA7, toutsB]⟩, fun i hi => ⟨fun h4 => ?_, fun h4 => ?_⟩⟩⟩
    · have hi' : i < x.outs.length := by omega
      refine ⟨by omega, h4, fun y hy => ?_⟩
      have p1 := tM_ok hx k hi' (y := y) hy
      have p2 : (BN.mk [] (wr .u64 y.amount)).Low := low_of (by simp)
      have p3 : (tA8 y).length.le 1099511627776 := by
        have := uintB_le y.amount
        show (tA8 y).length ≤ 1099511627776
        simp only [tA8, List.nil_append]
        omega
      simp only [p1, p2, p3, and_self]
    · rw [tA7_all (by omega) (by omega)]
      have hl := tA7_le hx x.ins.length x.outs.length
      rw [tA7_all (Nat.le_refl _) (Nat.le_refl _)] at hl
      exact ⟨⟨putTx_byt hx, by omega⟩, rfl⟩
theorem tid_vc : tidVC := by
  intro x hx
  have h1 := tBody_ok hx
  have h2 : (BN.mk [] (wr .u64 x.lock)).Low := low_of (by simp)
  have h3 : (BN.mk (tA0 x) (wr .u64 (x.ins.length : Int))).Low := low_of (by
    have := uintB_le x.lock
    simp only [tA0, List.nil_append]
    omega)
  simp only [h1, h2, h3, and_self, implies_true]
theorem tid_ok : Fits E91 f37 (bodyOf f37) idLS noAnn := by
  constructor
  rw [← tid_eq]
  exact tid_vc
theorem f37_has : Has prog 37 f37 (bodyOf f37) := ⟨by kernel_rfl, by kernel_rfl, by kernel_rfl⟩
theorem known92 : Known prog L92 := by
  unfold L92
  exact known91.lent mixed f37_has E91_eq tid_ok (fun _ _ => Nat.le_refl _) (fun _ _ => rfl)
end Go.Proofs.YtcglahfmnoghjaaDoor

/-! At, sure, the document's total, the totals' law: the walks hold. Conditions: none. -/
namespace Go.Proofs.YtcglahfmnoghjaaDoor
open Go Go.Eng Go.Proofs.Tryd

def tatVC : Prop := ∀ (x : AtX), TxOk x.t → (x.t.lock = x.t.lock ∧ x.t.ins = x.t.ins ∧ x.t.outs = x.t.outs ∧ True) ∧ True ∧ TxOk (TxD.mk x.t.lock x.t.ins x.t.outs) ∧ (idB
  x.t = idB (TxD.mk x.t.lock x.t.ins x.t.outs) ∧ x.n = x.n ∧ True) ∧ True ∧ True

theorem tat_eq : tatVC = fnS E92 f63 (bodyOf f63) atLS noAnn := by kernel_rfl
theorem tat_ok : Fits E92 f63 (bodyOf f63) atLS noAnn := by
  constructor
  rw [← tat_eq]
  exact fun x hx => ⟨⟨rfl, rfl, rfl, trivial⟩, trivial, hx, ⟨rfl, rfl, trivial⟩, trivial, trivial⟩
theorem f63_has : Has prog 63 f63 (bodyOf f63) := ⟨by kernel_rfl, by kernel_rfl, by kernel_rfl⟩
theorem known93 : Known prog L93 := by
  unfold L93
  exact known92.lent mixed f63_has E92_eq tat_ok (fun _ _ => Nat.le_refl _) (fun _ _ => rfl)
theorem zero_tx : (List.replicate 32 (0 : Int)).length = 32 ∧ Byt (List.replicate 32 (0 : Int)) := by
  refine ⟨by simp, fun y hy => ?_⟩
  rw [List.eq_of_mem_replicate hy]
  omega
theorem allOf_1 : allOf [1] = [⟨[1], List.replicate 32 0, 0, 0⟩] := by
  unfold allOf
  have h : Lib.compact (sortI [1]) = [1] := by
    have : sortI [1] = [1] := by simp [sortI]
    rw [this]
    decide
  rw [h]
theorem sure_tx (s : List Int) : TxOk (TxD.mk 0 [TIn.mk (List.replicate 32 0) 0 0 s] [TOut.mk 5 (allOf [1])]) where
  n := by simp
  m := by simp
  w := by
    rw [allOf_1]
    simp [sumW, weight, sumK]
  tx := fun x hx => by
    simp only [List.mem_singleton] at hx
    rw [hx]
    exact zero_tx
  locks := fun o ho => by
    simp only [List.mem_singleton] at ho
    rw [ho, allOf_1]
    refine ⟨fun b hb => ?_, fun b hb => ?_⟩
    · simp only [List.mem_singleton] at hb
      rw [hb]
      simp
    · simp only [List.mem_singleton] at hb
      rw [hb]
      exact zero_tx.2
theorem sure_check : checkT (TxD.mk 0 [TIn.mk (List.replicate 32 0) 0 0 []] [TOut.mk 5 (allOf [1])]) = 27 := by
  unfold checkT
  rw [if_neg (by simp [someB, badIn, inOk]), if_neg (by simp)]
  simp [outsE, outE]
def sure5VC : Prop := ∀ (_ : Unit), True → (List.replicate (32 : Nat) (0 : Int) = List.replicate (32 : Nat) (0 : Int) ∧ (0 : Int) = (0 : Int) ∧ (0 : Int) = (0 : Int) ∧ ([] :
  List Int) = [] ∧ True) ∧ [(1 : Int)] = [(1 : Int)] ∧ True ∧ [(1 : Int)].length.le (1000000 : Nat) ∧ ((5 : Int) = (5 : Int) ∧
  Proofs.YtcglahfmnoghjaaDoor.allOf [(1 : Int)] = Proofs.YtcglahfmnoghjaaDoor.allOf [(1 : Int)] ∧ True) ∧ [(115 : Int)] ≠ [] ∧ (List.replicate (32 : Nat)
  (0 : Int) = List.replicate (32 : Nat) (0 : Int) ∧ (0 : Int) = (0 : Int) ∧ (0 : Int) = (0 : Int) ∧ [(115 : Int)] = [(115 : Int)] ∧ True) ∧ [(1 : Int)] =
  [(1 : Int)] ∧ True ∧ [(1 : Int)].length.le (1000000 : Nat) ∧ ((5 : Int) = (5 : Int) ∧ Proofs.YtcglahfmnoghjaaDoor.allOf [(1 : Int)] =
  Proofs.YtcglahfmnoghjaaDoor.allOf [(1 : Int)] ∧ True) ∧ ((0 : Int) = (0 : Int) ∧ [TIn.mk (List.replicate (32 : Nat) (0 : Int)) (0 : Int) (0 : Int) []]
  = [TIn.mk (List.replicate (32 : Nat) (0 : Int)) (0 : Int) (0 : Int) []] ∧ [TOut.mk (5 : Int) (Proofs.YtcglahfmnoghjaaDoor.allOf [(1 : Int)])] =
  [TOut.mk (5 : Int) (Proofs.YtcglahfmnoghjaaDoor.allOf [(1 : Int)])] ∧ True) ∧ True ∧ True ∧ ((checkT (TxD.mk (0 : Int) [TIn.mk (List.replicate (32 :
  Nat) (0 : Int)) (0 : Int) (0 : Int) []] [TOut.mk (5 : Int) (Proofs.YtcglahfmnoghjaaDoor.allOf [(1 : Int)])]) == (27 : Int)) = true → ((0 : Int) = (0 :
  Int) ∧ [TIn.mk (List.replicate (32 : Nat) (0 : Int)) (0 : Int) (0 : Int) []] = [TIn.mk (List.replicate (32 : Nat) (0 : Int)) (0 : Int) (0 : Int) []] ∧
  [TOut.mk (5 : Int) (Proofs.YtcglahfmnoghjaaDoor.allOf [(1 : Int)])] = [TOut.mk (5 : Int) (Proofs.YtcglahfmnoghjaaDoor.allOf [(1 : Int)])] ∧ True) ∧
  True ∧ TxOk (TxD.mk (0 : Int) [TIn.mk (List.replicate (32 : Nat) (0 : Int)) (0 : Int) (0 : Int) []] [TOut.mk (5 : Int)
  (Proofs.YtcglahfmnoghjaaDoor.allOf [(1 : Int)])]) ∧ ((0 : Int) = (0 : Int) ∧ [TIn.mk (List.replicate (32 : Nat) (0 : Int)) (0 : Int) (0 : Int) [(115 :
  Int)]] = [TIn.mk (List.replicate (32 : Nat) (0 : Int)) (0 : Int) (0 : Int) [(115 : Int)]] ∧ [TOut.mk (5 : Int) (Proofs.YtcglahfmnoghjaaDoor.allOf [(1 :
  Int)])] = [TOut.mk (5 : Int) (Proofs.YtcglahfmnoghjaaDoor.allOf [(1 : Int)])] ∧ True) ∧ True ∧ TxOk (TxD.mk (0 : Int) [TIn.mk (List.replicate (32 :
  Nat) (0 : Int)) (0 : Int) (0 : Int) [(115 : Int)]] [TOut.mk (5 : Int) (Proofs.YtcglahfmnoghjaaDoor.allOf [(1 : Int)])]) ∧ ((idB (TxD.mk (0 : Int)
  [TIn.mk (List.replicate (32 : Nat) (0 : Int)) (0 : Int) (0 : Int) []] [TOut.mk (5 : Int) (Proofs.YtcglahfmnoghjaaDoor.allOf [(1 : Int)])]) == idB
  (TxD.mk (0 : Int) [TIn.mk (List.replicate (32 : Nat) (0 : Int)) (0 : Int) (0 : Int) [(115 : Int)]] [TOut.mk (5 : Int)
  (Proofs.YtcglahfmnoghjaaDoor.allOf [(1 : Int)])])) = true → (((0 : Int) = (0 : Int) ∧ [TIn.mk (List.replicate (32 : Nat) (0 : Int)) (0 : Int) (0 : Int)
  []] = [TIn.mk (List.replicate (32 : Nat) (0 : Int)) (0 : Int) (0 : Int) []] ∧ [TOut.mk (5 : Int) (Proofs.YtcglahfmnoghjaaDoor.allOf [(1 : Int)])] =
  [TOut.mk (5 : Int) (Proofs.YtcglahfmnoghjaaDoor.allOf [(1 : Int)])] ∧ True) ∧ (3 : Int) = (3 : Int)) ∧ True ∧ TxOk (TxD.mk (0 : Int) [TIn.mk
  (List.replicate (32 : Nat) (0 : Int)) (0 : Int) (0 : Int) []] [TOut.mk (5 : Int) (Proofs.YtcglahfmnoghjaaDoor.allOf [(1 : Int)])]) ∧ true = ((3 : Int)
  == (3 : Int)) ∧ True ∧ True) ∧ ((idB (TxD.mk (0 : Int) [TIn.mk (List.replicate (32 : Nat) (0 : Int)) (0 : Int) (0 : Int) []] [TOut.mk (5 : Int)
  (Proofs.YtcglahfmnoghjaaDoor.allOf [(1 : Int)])]) == idB (TxD.mk (0 : Int) [TIn.mk (List.replicate (32 : Nat) (0 : Int)) (0 : Int) (0 : Int) [(115 :
  Int)]] [TOut.mk (5 : Int) (Proofs.YtcglahfmnoghjaaDoor.allOf [(1 : Int)])])) = false → true = false ∧ True ∧ True)) ∧ ((checkT (TxD.mk (0 : Int)
  [TIn.mk (List.replicate (32 : Nat) (0 : Int)) (0 : Int) (0 : Int) []] [TOut.mk (5 : Int) (Proofs.YtcglahfmnoghjaaDoor.allOf [(1 : Int)])]) == (27 :
  Int)) = false → true = false ∧ True ∧ True)

theorem sure5_eq : sure5VC = fnS E93 f30 (bodyOf f30) sureLS noAnn := by kernel_rfl
theorem sure5_vc : sure5VC := by
  intro _ _
  have h1 := sure_tx []
  have h2 := sure_tx [115]
  have h3 : idB (TxD.mk 0 [TIn.mk (List.replicate 32 0) 0 0 [115]] [TOut.mk 5 (allOf [1])]) = idB (TxD.mk 0 [TIn.mk (List.replicate 32 0) 0 0 []] [TOut.mk 5 (allOf [1])]) := rfl
  have h4 : [(1 : Int)].length.le 1000000 := show 1 ≤ 1000000 by decide
  simp only [sure_check, h1, h2, h3, h4, beq_self_eq_true, true_and, and_true, Bool.true_eq_false, false_implies, implies_true, forall_const, ne_eq, List.cons_ne_nil, not_false_eq_true]
theorem sure5_ok : Fits E93 f30 (bodyOf f30) sureLS noAnn := by
  constructor
  rw [← sure5_eq]
  exact sure5_vc
theorem f30_has : Has prog 30 f30 (bodyOf f30) := ⟨by kernel_rfl, by kernel_rfl, by kernel_rfl⟩
theorem known94 : Known prog L94 := by
  unfold L94
  exact known93.lent mixed f30_has E93_eq sure5_ok (fun _ _ => Nat.le_refl _) (fun _ _ => rfl)
def rTotalVC : Prop := ∀ (x : TxD), True → (∃ (x_1 : Nat × Int), (x_1.fst ≤ x.outs.length ∧ (0 : Int) ≤ x_1.snd ∧ x_1.snd ≤ (1125899906842624 : Int) ∧ totG x.outs (0 : Int) =
  totG (List.drop x_1.fst x.outs) x_1.snd) ∧ ((↑x_1.fst : Int) = (0 : Int) ∧ x_1.snd = (0 : Int)) ∧ ((x.lock = x.lock ∧ x.ins = x.ins ∧ x.outs = x.outs ∧
  True) ∧ True) ∧ True) ∧ ∀ (x_1 : Nat × Int), x_1.fst ≤ x.outs.length ∧ (0 : Int) ≤ x_1.snd ∧ x_1.snd ≤ (1125899906842624 : Int) ∧ totG x.outs (0 : Int)
  = totG (List.drop x_1.fst x.outs) x_1.snd → (↑x.outs.length : Int) ≤ (9223372036854775807 : Int) → (decide ((↑x_1.fst : Int) < (↑x.outs.length : Int))
  = true → (0 : Int) ≤ (↑x_1.fst : Int) ∧ (↑x_1.fst : Int) < (↑x.outs.length : Int) ∧ ∀ (y : AA (79 : Nat)), x.outs[(↑x_1.fst : Int).toNat]? = some y →
  (decide (y.amount < (0 : Int)) = true → ((totG x.outs (0 : Int)).fst = (0 : Int) ∧ (totG x.outs (0 : Int)).snd = (5 : Int)) ∧ True ∧ True) ∧ (decide
  (y.amount < (0 : Int)) = false → (decide (y.amount > (1125899906842624 : Int)) = true → ((totG x.outs (0 : Int)).fst = (0 : Int) ∧ (totG x.outs (0 :
  Int)).snd = (5 : Int)) ∧ True ∧ True) ∧ (decide (y.amount > (1125899906842624 : Int)) = false → inI64 (x_1.snd + y.amount) ∧ (decide (x_1.snd +
  y.amount > (1125899906842624 : Int)) = true → ((totG x.outs (0 : Int)).fst = (0 : Int) ∧ (totG x.outs (0 : Int)).snd = (5 : Int)) ∧ True ∧ True) ∧
  (decide (x_1.snd + y.amount > (1125899906842624 : Int)) = false → inI64 (x_1.snd + y.amount) ∧ inI64 ((↑x_1.fst : Int) + (1 : Int)) ∧ ∃ (y_1 : Nat ×
  Int), (y_1.fst ≤ x.outs.length ∧ (0 : Int) ≤ y_1.snd ∧ y_1.snd ≤ (1125899906842624 : Int) ∧ totG x.outs (0 : Int) = totG (List.drop y_1.fst x.outs)
  y_1.snd) ∧ x.outs.length - y_1.fst < x.outs.length - x_1.fst ∧ ((↑y_1.fst : Int) = (↑x_1.fst : Int) + (1 : Int) ∧ y_1.snd = x_1.snd + y.amount) ∧
  ((x.lock = x.lock ∧ x.ins = x.ins ∧ x.outs = x.outs ∧ True) ∧ True) ∧ True)))) ∧ (decide ((↑x_1.fst : Int) < (↑x.outs.length : Int)) = false → ((totG
  x.outs (0 : Int)).fst = x_1.snd ∧ (totG x.outs (0 : Int)).snd = (0 : Int)) ∧ True ∧ True)

theorem rTotal_eq : rTotalVC = fnS E94 f33 (bodyOf f33) rTotalLS rTotalAnn := by kernel_rfl
theorem rTotal_vc : rTotalVC := by
  rintro ⟨lock, ins, outs⟩ _
  simp only [true_and, and_true, decide_eq_true_eq, decide_eq_false_iff_not, Int.toNat_natCast]
  refine ⟨⟨(0, 0), ⟨Nat.zero_le _, by simp, by simp, rfl⟩, rfl, rfl⟩, ?_⟩
  rintro ⟨i, n⟩ ⟨h1, h3, h4, h5⟩ hl
  simp only at h1 h3 h4 h5 ⊢
  refine ⟨fun h => ?_, fun h => ?_⟩
  · refine ⟨by omega, h, fun y hy => ?_⟩
    have hd := dropAt (α := TOut) (y := y) hy
    have five : (y.amount < 0 ∨ y.amount > 1125899906842624 - n) → totG outs 0 = (0, 5) := fun hc => by
      rw [h5, hd]
      simp only [totG]
      rw [if_pos hc]
    refine ⟨fun hc => ?_, fun hc => ⟨fun hc2 => ?_, fun hc2 => ⟨by unfold inI64; omega, fun hc3 => ?_, fun hc3 => ⟨by unfold inI64; omega, by unfold inI64; omega, (i + 1, n + y.amount), ⟨?_, ?_, ?_, ?_⟩, ?_, ?_, ?_⟩⟩⟩⟩
    · rw [five (.inl hc)]; exact ⟨rfl, rfl⟩
    · rw [five (.inr (by omega))]; exact ⟨rfl, rfl⟩
    · rw [five (.inr (by omega))]; exact ⟨rfl, rfl⟩
    · simp only; omega
    · simp only; omega
    · simp only; omega
    · rw [h5, hd]
      simp only [totG]
      rw [if_neg (by omega)]
    · simp only; omega
    · simp only; omega
    · rfl
  · rw [h5, List.drop_of_length_le (by omega)]
    exact ⟨rfl, rfl⟩
theorem rTotal_ok : Fits E94 f33 (bodyOf f33) rTotalLS rTotalAnn := by
  constructor
  rw [← rTotal_eq]
  exact rTotal_vc
theorem f33_has : Has prog 33 f33 (bodyOf f33) := ⟨by kernel_rfl, by kernel_rfl, by kernel_rfl⟩
theorem known95 : Known prog L95 := by
  unfold L95
  exact known94.lent mixed f33_has E94_eq rTotal_ok (fun _ _ => Nat.le_refl _) (fun _ _ => rfl)
theorem amounts_up {xs : List Int} {i : Nat} (h : i < xs.length) : amounts (xs.take (i + 1)) = amounts (xs.take i) ++ [TOut.mk (xs.getD i 0) []] := by
  unfold amounts
  rw [take_up h rfl]
  simp
def totalsVC : Prop := ∀ (x : List Int), True → (↑x.length : Int) ≤ (9223372036854775807 : Int) → (decide ((↑x.length : Int) > (300 : Int)) = true → True ∧ True ∧ True ∧ true
  = true ∧ True ∧ True) ∧ (decide ((↑x.length : Int) > (300 : Int)) = false → (∃ x_1, Nat.le x_1 x.length ∧ (↑x_1 : Int) = (0 : Int) ∧ (((0 : Int) = (0 :
  Int) ∧ (SV.val (A := AA) (Value.slice none (0 : Nat) (0 : Nat)) : SV AA) = SV.val (A := AA) (Value.slice none (0 : Nat) (0 : Nat)) ∧ (SV.val (A := AA)
  (Value.slice none (0 : Nat) (0 : Nat)) : SV AA) = SV.val (A := AA) (Value.slice none (0 : Nat) (0 : Nat)) ∧ True) ∧ ((0 : Int) = (0 : Int) ∧ (SV.val (A
  := AA) (Value.slice none (0 : Nat) (0 : Nat)) : SV AA) = SV.val (A := AA) (Value.slice none (0 : Nat) (0 : Nat)) ∧ (SV.val (A := AA) (Value.slice none
  (0 : Nat) (0 : Nat)) : SV AA) = SV.val (A := AA) (Value.slice none (0 : Nat) (0 : Nat)) ∧ True) ∧ True) ∧ amounts (List.take x_1 x) = [] ∧ amounts
  (List.take x_1 x) = [] ∧ True) ∧ ∀ (x_1 : Nat), x_1.le x.length → (↑x.length : Int) ≤ (9223372036854775807 : Int) → (decide ((↑x_1 : Int) < (↑x.length
  : Int)) = true → (0 : Int) ≤ (↑x_1 : Int) ∧ (↑x_1 : Int) < (↑x.length : Int) ∧ (↑x_1 : Int).toNat < x.length ∧ (x.getD (↑x_1 : Int).toNat (0 : Int) =
  x.getD (↑x_1 : Int).toNat (0 : Int) ∧ ([] : List Br) = [] ∧ True) ∧ ((amounts (List.take x_1 x)).length + [TOut.mk (x.getD (↑x_1 : Int).toNat (0 :
  Int)) []].length) * (32 : Nat) ≤ (140737488355328 : Nat) ∧ (amounts (List.take x_1 x)).length + [TOut.mk (x.getD (↑x_1 : Int).toNat (0 : Int))
  []].length ≤ (1152921504606846976 : Nat) ∧ (0 : Int) ≤ (↑x_1 : Int) ∧ (↑x_1 : Int) < (↑x.length : Int) ∧ (↑x_1 : Int).toNat < x.length ∧ (x.getD (↑x_1
  : Int).toNat (0 : Int) = x.getD (↑x_1 : Int).toNat (0 : Int) ∧ ([] : List Br) = [] ∧ True) ∧ ((amounts (List.take x_1 x)).length + [TOut.mk (x.getD
  (↑x_1 : Int).toNat (0 : Int)) []].length) * (32 : Nat) ≤ (140737488355328 : Nat) ∧ (amounts (List.take x_1 x)).length + [TOut.mk (x.getD (↑x_1 :
  Int).toNat (0 : Int)) []].length ≤ (1152921504606846976 : Nat) ∧ inI64 ((↑x_1 : Int) + (1 : Int)) ∧ ∃ y, Nat.le y x.length ∧ x.length - y < x.length -
  x_1 ∧ (↑y : Int) = (↑x_1 : Int) + (1 : Int) ∧ (((0 : Int) = (0 : Int) ∧ (SV.val (A := AA) (Value.slice none (0 : Nat) (0 : Nat)) : SV AA) = SV.val (A
  := AA) (Value.slice none (0 : Nat) (0 : Nat)) ∧ True ∧ True) ∧ ((0 : Int) = (0 : Int) ∧ (SV.val (A := AA) (Value.slice none (0 : Nat) (0 : Nat)) : SV
  AA) = SV.val (A := AA) (Value.slice none (0 : Nat) (0 : Nat)) ∧ True ∧ True) ∧ True) ∧ amounts (List.take y x) = amounts (List.take x_1 x) ++ [TOut.mk
  (x.getD (↑x_1 : Int).toNat (0 : Int)) []] ∧ amounts (List.take y x) = amounts (List.take x_1 x) ++ [TOut.mk (x.getD (↑x_1 : Int).toNat (0 : Int)) []] ∧
  True) ∧ (decide ((↑x_1 : Int) < (↑x.length : Int)) = false → ((0 : Int) = (0 : Int) ∧ ([] : List TIn) = [] ∧ amounts (List.take x_1 x) = amounts
  (List.take x_1 x) ∧ True) ∧ True ∧ True ∧ ((0 : Int) = (0 : Int) ∧ ([] : List TIn) = [] ∧ amounts (List.take x_1 x) = amounts (List.take x_1 x) ∧ True)
  ∧ True ∧ True ∧ (((totG (amounts (List.take x_1 x)) (0 : Int)).fst == (totG (amounts (List.take x_1 x)) (0 : Int)).fst) = true → (((totG (amounts
  (List.take x_1 x)) (0 : Int)).snd == (totG (amounts (List.take x_1 x)) (0 : Int)).snd) = true → True ∧ True ∧ True ∧ true = true ∧ True ∧ True) ∧
  (((totG (amounts (List.take x_1 x)) (0 : Int)).snd == (totG (amounts (List.take x_1 x)) (0 : Int)).snd) = false → true = false ∧ True ∧ True)) ∧
  (((totG (amounts (List.take x_1 x)) (0 : Int)).fst == (totG (amounts (List.take x_1 x)) (0 : Int)).fst) = false → true = false ∧ True ∧ True)))

theorem totals_eq : totalsVC = fnS E95 f9 (bodyOf f9) totalsLS totalsAnn := by kernel_rfl
theorem totals_vc : totalsVC := by
  intro xs _
  simp only [true_and, and_true, decide_eq_true_eq, decide_eq_false_iff_not, Int.toNat_natCast, beq_self_eq_true, Bool.true_eq_false, false_implies, implies_true, List.length_singleton]
  refine fun _ h => ⟨⟨0, Nat.zero_le _, rfl, rfl, rfl⟩, fun i hi _ h2 => ?_⟩
  have hi' : i < xs.length := by omega
  have hl : (amounts (xs.take i)).length ≤ i := by
    simp only [amounts, List.length_map, List.length_take]
    omega
  exact ⟨by omega, h2, hi', by omega, by omega, by omega, h2, hi', by omega, by omega, by unfold inI64; omega, i + 1, hi', by omega, by omega, amounts_up hi', amounts_up hi'⟩
theorem totals_ok : Fits E95 f9 (bodyOf f9) totalsLS totalsAnn := by
  constructor
  rw [← totals_eq]
  exact totals_vc
theorem f9_has : Has prog 9 f9 (bodyOf f9) := ⟨by kernel_rfl, by kernel_rfl, by kernel_rfl⟩
end Go.Proofs.YtcglahfmnoghjaaDoor

/-! A transaction given and checked: what is said of it. Conditions: none. -/
namespace Go.Proofs.YtcglahfmnoghjaaDoor
open Go Go.Eng Go.Proofs.Tryd

def rcondGet (args : List (SV AA)) (sh : List (SO AA)) : Option (List Br) := match args with
  | [.agg (.cell s .nil)] => seqOfS 48 sh s
  | _ => none
def gcondLS : LS AA where
  X := List Br
  pre := fun bs => weight bs ≤ 2000000
  args := fun bs => [.agg (.cell (.rseq 48 (show List (AA 48) from bs)) .nil)]
  hin := fun _ => []
  res := fun bs => [.agg (.cell (.rseq 93 (show List (AA 93) from bs)) .nil)]
  hout := fun _ => []
noncomputable def L96 : List (Nat × SpecT AA) := (64, tLent gcondLS rcondGet) :: L95
noncomputable def F96 : Eng AA := EF prog L96
theorem F96_eq : F96 = EF prog L96 := by
  unfold F96
  rfl
noncomputable def F95 : Eng AA := EF prog L95
theorem F95_eq : F95 = EF prog L95 := by
  unfold F95
  rfl
/-! ## Is one too long to be looked at? -/
def secN : List TIn → Int
  | [] => 0
  | x :: l => (x.secret.length : Int).tdiv 16 + secN l
def keyCut : List Br → Int → Int
  | [], n => n
  | b :: l, n => if n < 400 then keyCut l (n + b.keys.length) else n
def outCut : List TOut → Int → Int
  | [], n => n
  | o :: l, n => outCut l (keyCut o.cond (n + o.cond.length))
def longB (t : TxD) : Bool := if (t.ins.length : Int) + t.outs.length > 300 then true else decide (outCut t.outs ((t.ins.length : Int) + t.outs.length + secN t.ins) > 400)
def sumS : List TIn → Nat
  | [] => 0
  | x :: l => x.secret.length + sumS l
structure Small (t : TxD) : Prop where
  n : t.ins.length ≤ 2000000
  m : t.outs.length ≤ 2000000
  s : ∀ x, x ∈ t.ins → x.secret.length ≤ 2000000
  w : sumW t.outs ≤ 2000000
def longTxLS : LS AA where
  X := TxD
  pre := Small
  args := fun t => [.agg (txRSL t)]
  hin := fun _ => []
  res := fun t => [.sb 0 (longB t)]
  hout := fun _ => []
structure LongI (t : TxD) (i : Nat) (n : Int) : Prop where
  le : i ≤ t.ins.length
  few : (t.ins.length : Int) + t.outs.length ≤ 300
  lo : 0 ≤ n
  hi : n ≤ 300 + 2000000 * (i : Int)
  eq : (t.ins.length : Int) + t.outs.length + secN t.ins = n + secN (t.ins.drop i)
structure LongJ (t : TxD) (j : Nat) (n : Int) : Prop where
  le : j ≤ t.outs.length
  few : (t.ins.length : Int) + t.outs.length ≤ 300
  lo : 0 ≤ n
  hi : n ≤ 1000000000 + 10000000 * (j : Int)
  eq : outCut t.outs ((t.ins.length : Int) + t.outs.length + secN t.ins) = outCut (t.outs.drop j) n
structure LongK (o : TOut) (m : Int) (i : Nat) (n : Int) : Prop where
  le : i ≤ o.cond.length
  lo : 0 ≤ n
  hi : n ≤ 400 + 2000000 ∨ n ≤ m
  eq : keyCut o.cond m = keyCut (o.cond.drop i) n
def longTxAnn (t : TxD) : Anns AA := fun k ts _ => if k = 6 then some {
    X := Nat × Int
    inv := fun x => LongI t x.1 x.2
    meas := fun x => t.ins.length - x.1
    slots := fun x => [(4, .int .i64 x.1), (3, .int .i64 x.2)]
    heap := fun _ => [] }
  else if k = 10 then some {
    X := Nat × Int
    inv := fun x => LongJ t x.1 x.2
    meas := fun x => t.outs.length - x.1
    slots := fun x => [(5, .int .i64 x.1), (3, .int .i64 x.2)]
    heap := fun _ => [] }
  else (match nth ts 3, nth ts 5 with
    | some (.int _ m), some (.int _ j) => some {
      X := Nat × Int
      inv := fun x => ∀ o : TOut, t.outs[j.toNat]? = some o → LongK o m x.1 x.2
      meas := fun x => 2000001 - x.1
      slots := fun x => [(6, .int .i64 x.1), (3, .int .i64 x.2)]
      heap := fun _ => [] }
    | _, _ => none)
noncomputable def L97 : List (Nat × SpecT AA) := (29, tLent longTxLS txRGet) :: L96
noncomputable def F97 : Eng AA := EF prog L97
theorem F97_eq : F97 = EF prog L97 := by
  unfold F97
  rfl
/-! ## Given -/
def giveTxLS : LS AA where
  X := TxD
  pre := Small
  args := fun t => [.agg (txRSL t)]
  hin := fun _ => []
  res := fun t => [.agg (.cell (.int .i64 t.lock) (.cell (.vec 0) (.cell (.vec 1) .nil)))]
  hout := fun t => [.svec 83 (show List (AA 83) from t.ins), .svec 77 (show List (AA 77) from t.outs)]
def giveTxAnn (t : TxD) : Anns AA := fun k _ sh => if k = 4 then some {
    X := Nat
    inv := fun i => i ≤ t.ins.length
    meas := fun i => t.ins.length - i
    slots := fun i => [(4, .int .i64 i)]
    heap := fun _ => [(2, .cells 70 (.cell (.int .i64 t.lock) (.cell (.vec (cnt sh)) (.cell (.val (.slice none 0 0)) .nil))))]
    more := fun i => [.svec 83 (show List (AA 83) from t.ins.take i)] }
  else (match nth sh 2 with
    | some (.cells _ (.cell _ (.cell v _))) => some {
      X := Nat
      inv := fun i => i ≤ t.outs.length
      meas := fun i => t.outs.length - i
      slots := fun i => [(6, .int .i64 i)]
      heap := fun _ => [(2, .cells 70 (.cell (.int .i64 t.lock) (.cell v (.cell (.vec (cnt sh)) .nil))))]
      more := fun i => [.svec 77 (show List (AA 77) from t.outs.take i)] }
    | _ => none)
noncomputable def L98 : List (Nat × SpecT AA) := (32, tLent giveTxLS txRGet) :: L97
noncomputable def F98 : Eng AA := EF prog L98
theorem F98_eq : F98 = EF prog L98 := by
  unfold F98
  rfl
/-! ## The document's check -/
structure Lens (t : TxD) : Prop where
  n : t.ins.length ≤ 2000000
  m : t.outs.length ≤ 2000000
  c : ∀ o, o ∈ t.outs → o.cond.length ≤ 2000000
noncomputable def rcheckLS : LS AA where
  X := TxD
  pre := Lens
  args := fun t => [.agg (txRSL t)]
  hin := fun _ => []
  res := fun t => [.int .i64 (checkT t)]
  hout := fun _ => []
noncomputable def rcheckAnn (t : TxD) : Anns AA := fun k ts _ => if k = 5 then some {
    X := Nat
    inv := fun i => i ≤ t.ins.length ∧ badIn t.ins 0 = badIn (t.ins.drop i) i
    meas := fun i => t.ins.length - i
    slots := fun i => [(3, .int .i64 i)]
    heap := fun _ => [] }
  else if k = 11 then some {
    X := Nat
    inv := fun i => i ≤ t.ins.length ∧ ((t.ins.take i).map ptOf).Nodup
    meas := fun i => t.ins.length - i
    slots := fun i => [(5, .int .i64 i)]
    heap := fun _ => [] }
  else if k = 14 then (match nth ts 5 with
    | some (.int _ i) => some {
      X := Nat
      inv := fun j => (j : Int) ≤ i ∧ ∀ x : TIn, t.ins[i.toNat]? = some x → ptOf x ∉ (t.ins.take j).map ptOf
      meas := fun j => i.toNat - j
      slots := fun j => [(6, .int .i64 j)]
      heap := fun _ => [] }
    | _ => none)
  else some {
    X := Nat
    inv := fun n => n ≤ t.outs.length ∧ outsE t.outs = outsE (t.outs.drop n)
    meas := fun n => t.outs.length - n
    slots := fun n => [(7, .int .i64 n)]
    heap := fun _ => [] }
noncomputable def L99 : List (Nat × SpecT AA) := (36, tLent rcheckLS txRGet) :: L98
noncomputable def F99 : Eng AA := EF prog L99
theorem F99_eq : F99 = EF prog L99 := by
  unfold F99
  rfl
/-! ## The law -/
structure TxBulk (t : TxD) : Prop extends Small t, TxOk t
noncomputable def checksTxLS : LS AA where
  X := TxD
  pre := Small
  args := fun t => [.agg (txRSL t)]
  hin := fun _ => []
  res := fun _ => [.sb 0 true]
  hout := fun _ => []
end Go.Proofs.YtcglahfmnoghjaaDoor

/-! A transaction given and checked: the walks hold. Conditions: none. -/
namespace Go.Proofs.YtcglahfmnoghjaaDoor
open Go Go.Eng Go.Proofs.Tryd

def gcondVC : Prop := ∀ (x : List Br), (weight x).le (2000000 : Nat) → (∃ x_1, Nat.le x_1 x.length ∧ ((SV.val (A := AA) (Value.slice none (0 : Nat) (0 : Nat)) : SV AA) =
  SV.val (A := AA) (Value.slice none (0 : Nat) (0 : Nat)) ∧ (↑x_1 : Int) = (0 : Int)) ∧ ((x = x ∧ True) ∧ ((SV.val (A := AA) (Value.slice none (0 : Nat)
  (0 : Nat)) : SV AA) = SV.val (A := AA) (Value.slice none (0 : Nat) (0 : Nat)) ∧ True) ∧ True) ∧ List.take x_1 x = [] ∧ True) ∧ ∀ (x_1 : Nat), x_1.le
  x.length → (↑x.length : Int) ≤ (9223372036854775807 : Int) → (decide ((↑x_1 : Int) < (↑x.length : Int)) = true → (0 : Int) ≤ (↑x_1 : Int) ∧ (↑x_1 :
  Int) < (↑x.length : Int) ∧ ∀ (y : AA (48 : Nat)), x[(↑x_1 : Int).toNat]? = some y → (0 : Int) ≤ (↑x_1 : Int) ∧ (↑x_1 : Int) < (↑x.length : Int) ∧ ∀
  (y_1 : AA (48 : Nat)), x[(↑x_1 : Int).toNat]? = some y_1 → y_1.keys.length * (8 : Nat) ≤ (140737488355328 : Nat) ∧ y_1.keys.length ≤
  (1152921504606846976 : Nat) ∧ (y_1.keys = y_1.keys ∧ y.lock = y.lock ∧ y.after = y.after ∧ y.older = y.older ∧ True) ∧ ((List.take x_1 x).length +
  [Br.mk y_1.keys y.lock y.after y.older].length) * (72 : Nat) ≤ (140737488355328 : Nat) ∧ (List.take x_1 x).length + [Br.mk y_1.keys y.lock y.after
  y.older].length ≤ (1152921504606846976 : Nat) ∧ inI64 ((↑x_1 : Int) + (1 : Int)) ∧ ∃ y_2, Nat.le y_2 x.length ∧ x.length - y_2 < x.length - x_1 ∧ (True
  ∧ (↑y_2 : Int) = (↑x_1 : Int) + (1 : Int)) ∧ ((x = x ∧ True) ∧ ((SV.val (A := AA) (Value.slice none (0 : Nat) (0 : Nat)) : SV AA) = SV.val (A := AA)
  (Value.slice none (0 : Nat) (0 : Nat)) ∧ True) ∧ True) ∧ List.take y_2 x = List.take x_1 x ++ [Br.mk y_1.keys y.lock y.after y.older] ∧ True) ∧ (decide
  ((↑x_1 : Int) < (↑x.length : Int)) = false → (x = List.take x_1 x ∧ True) ∧ True ∧ True)

theorem gcond_eq : gcondVC = fnS F95 f64 (bodyOf f64) gcondLS giveAnn := by kernel_rfl
theorem gcond_vc : gcondVC := by
  intro bs hw
  have hw : bs.length + sumK bs ≤ 2000000 := hw
  refine ⟨⟨0, Nat.zero_le _, ⟨rfl, rfl⟩, ⟨⟨rfl, trivial⟩, ⟨rfl, trivial⟩, trivial⟩, rfl, trivial⟩, ?_⟩
  intro k hk hl
  have hk : k ≤ bs.length := hk
  refine ⟨fun h1 => ?_, fun h1 => ?_⟩
  · simp only [decide_eq_true_eq] at h1
    refine ⟨by omega, by omega, fun y hy => ⟨by omega, by omega, fun y' hy' => ?_⟩⟩
    have hyy : y = y' := by rw [hy] at hy'; exact Option.some.inj hy'
    subst hyy
    change Br at y
    have hy2 : bs[k]? = some y := by
      have h0 := hy
      rw [Int.toNat_natCast] at h0
      exact h0
    have hkl := len_weight hy2
    have htl : (bs.take k).length = k := by rw [List.length_take]; omega
    have hlen : ∀ z : Br, ((bs.take k).length + [z].length) = k + 1 := fun z => by rw [htl]; rfl
    have h8 : y.keys.length ≤ 2000000 := by omega
    have hk300 : k < 2000000 := by omega
    have hcat : bs.take (k + 1) = bs.take k ++ [show Br from y] := by
      rw [List.take_add_one, hy2]; rfl
    refine ⟨by omega, by omega, ⟨rfl, rfl, rfl, rfl, trivial⟩, ?_, ?_, by unfold inI64; omega, k + 1, Nat.succ_le_of_lt (by omega), by omega, ⟨trivial, by omega⟩, ⟨⟨rfl, trivial⟩, ⟨rfl, trivial⟩, trivial⟩, hcat, trivial⟩
    · exact Nat.le_trans (Nat.mul_le_mul_right 72 (Nat.le_of_eq (hlen _))) (by omega)
    · exact Nat.le_trans (Nat.le_of_eq (hlen _)) (by omega)
  · simp only [decide_eq_false_iff_not] at h1
    exact ⟨⟨(List.take_of_length_le (by omega)).symm, trivial⟩, trivial, trivial⟩
theorem gcond_ok : Fits F95 f64 (bodyOf f64) gcondLS giveAnn := by
  constructor
  rw [← gcond_eq]
  exact gcond_vc
theorem f64_has : Has prog 64 f64 (bodyOf f64) := ⟨by kernel_rfl, by kernel_rfl, by kernel_rfl⟩
theorem known96 : Known prog L96 := by
  unfold L96
  exact known95.lent mixed f64_has F95_eq gcond_ok (fun _ _ => Nat.le_refl _) (fun _ _ => rfl)
/-! ## Is one too long? -/
theorem weight_le : ∀ {l : List TOut} {o : TOut}, o ∈ l → weight o.cond ≤ sumW l
  | x :: l, o, h => by
    simp only [sumW]
    rcases List.mem_cons.1 h with e | h
    · subst e; omega
    · have := weight_le h; omega
theorem keys_le {bs : List Br} {b : Br} (h : b ∈ bs) : b.keys.length ≤ sumK bs := by
  obtain ⟨k, hk⟩ := List.getElem?_of_mem h
  exact len_weight hk
theorem Small.cond {t : TxD} (h : Small t) {o : TOut} {j : Nat} (ho : t.outs[j]? = some o) : o.cond.length + sumK o.cond ≤ 2000000 := by
  have := weight_le (List.mem_of_getElem? ho)
  have := h.w
  unfold weight at *
  omega
theorem tdiv16 {n : Nat} (h : n ≤ 2000000) : wr IntKind.i64 ((n : Int).tdiv 16) = (n : Int).tdiv 16 ∧ 0 ≤ (n : Int).tdiv 16 ∧ (n : Int).tdiv 16 ≤ 2000000 := by
  have h1 : (n : Int).tdiv 16 = (n : Int) / 16 := Int.tdiv_eq_ediv_of_nonneg (by omega)
  rw [h1]
  refine ⟨wr64 (by unfold inI64; omega), by omega, by omega⟩
def longTxVC : Prop := ∀ (x : TxD), Small x → (↑x.ins.length : Int) ≤ (9223372036854775807 : Int) → (↑x.outs.length : Int) ≤ (9223372036854775807 : Int) → inI64
  ((↑x.ins.length : Int) + (↑x.outs.length : Int)) ∧ (decide ((↑x.ins.length : Int) + (↑x.outs.length : Int) > (300 : Int)) = true → longB x = true ∧
  True ∧ True) ∧ (decide ((↑x.ins.length : Int) + (↑x.outs.length : Int) > (300 : Int)) = false → (∃ (x_1 : Nat × Int), LongI x x_1.fst x_1.snd ∧ ((↑x_1.fst : Int) =
  (0 : Int) ∧ x_1.snd = (↑x.ins.length : Int) + (↑x.outs.length : Int)) ∧ ((x.lock = x.lock ∧ x.ins = x.ins ∧ x.outs = x.outs ∧ True) ∧ True) ∧ True) ∧ ∀
  (x_1 : Nat × Int), LongI x x_1.fst x_1.snd → (↑x.ins.length : Int) ≤ (9223372036854775807 : Int) → (decide ((↑x_1.fst : Int) < (↑x.ins.length : Int)) =
  true → (0 : Int) ≤ (↑x_1.fst : Int) ∧ (↑x_1.fst : Int) < (↑x.ins.length : Int) ∧ ∀ (y : AA (117 : Nat)), x.ins[(↑x_1.fst : Int).toNat]? = some y →
  (↑y.secret.length : Int) ≤ (9223372036854775807 : Int) → (16 : Int) ≠ (0 : Int) ∧ inI64 (x_1.snd + wr IntKind.i64 ((↑y.secret.length : Int).tdiv (16 :
  Int))) ∧ inI64 ((↑x_1.fst : Int) + (1 : Int)) ∧ ∃ (y_1 : Nat × Int), LongI x y_1.fst y_1.snd ∧ x.ins.length - y_1.fst < x.ins.length - x_1.fst ∧ ((↑y_1.fst : Int) =
  (↑x_1.fst : Int) + (1 : Int) ∧ y_1.snd = x_1.snd + wr IntKind.i64 ((↑y.secret.length : Int).tdiv (16 : Int))) ∧ ((x.lock = x.lock ∧ x.ins = x.ins ∧
  x.outs = x.outs ∧ True) ∧ True) ∧ True) ∧ (decide ((↑x_1.fst : Int) < (↑x.ins.length : Int)) = false → (∃ (x_2 : Nat × Int), LongJ x x_2.fst x_2.snd ∧ ((↑x_2.fst :
  Int) = (0 : Int) ∧ x_2.snd = x_1.snd) ∧ ((x.lock = x.lock ∧ x.ins = x.ins ∧ x.outs = x.outs ∧ True) ∧ True) ∧ True) ∧ ∀ (x_2 : Nat × Int), LongJ x
  x_2.fst x_2.snd → (↑x.outs.length : Int) ≤ (9223372036854775807 : Int) → (decide ((↑x_2.fst : Int) < (↑x.outs.length : Int)) = true → (0 : Int) ≤
  (↑x_2.fst : Int) ∧ (↑x_2.fst : Int) < (↑x.outs.length : Int) ∧ ∀ (y : AA (79 : Nat)), x.outs[(↑x_2.fst : Int).toNat]? = some y → (↑y.cond.length : Int)
  ≤ (9223372036854775807 : Int) → inI64 (x_2.snd + (↑y.cond.length : Int)) ∧ (∃ (x_3 : Nat × Int), (∀ (o : TOut), x.outs[(↑x_2.fst : Int).toNat]? = some o → LongK o
  (x_2.snd + (↑y.cond.length : Int)) x_3.fst x_3.snd) ∧ ((↑x_3.fst : Int) = (0 : Int) ∧ x_3.snd = x_2.snd + (↑y.cond.length : Int)) ∧ ((x.lock = x.lock ∧
  x.ins = x.ins ∧ x.outs = x.outs ∧ True) ∧ True) ∧ True) ∧ ∀ (x_3 : Nat × Int), (∀ (o : TOut), x.outs[(↑x_2.fst : Int).toNat]? = some o → LongK o
  (x_2.snd + (↑y.cond.length : Int)) x_3.fst x_3.snd) → (0 : Int) ≤ (↑x_2.fst : Int) ∧ (↑x_2.fst : Int) < (↑x.outs.length : Int) ∧ ∀ (y_1 : AA (79 :
  Nat)), x.outs[(↑x_2.fst : Int).toNat]? = some y_1 → (↑y_1.cond.length : Int) ≤ (9223372036854775807 : Int) → (decide ((↑x_3.fst : Int) <
  (↑y_1.cond.length : Int)) = true → (decide (x_3.snd < (400 : Int)) = true → (0 : Int) ≤ (↑x_2.fst : Int) ∧ (↑x_2.fst : Int) < (↑x.outs.length : Int) ∧
  ∀ (y_2 : AA (79 : Nat)), x.outs[(↑x_2.fst : Int).toNat]? = some y_2 → (0 : Int) ≤ (↑x_3.fst : Int) ∧ (↑x_3.fst : Int) < (↑y_2.cond.length : Int) ∧ ∀
  (y_3 : AA (48 : Nat)), y_2.cond[(↑x_3.fst : Int).toNat]? = some y_3 → (↑y_3.keys.length : Int) ≤ (9223372036854775807 : Int) → inI64 (x_3.snd +
  (↑y_3.keys.length : Int)) ∧ inI64 ((↑x_3.fst : Int) + (1 : Int)) ∧ ∃ (y_4 : Nat × Int), (∀ (o : TOut), x.outs[(↑x_2.fst : Int).toNat]? = some o → LongK o (x_2.snd +
  (↑y.cond.length : Int)) y_4.fst y_4.snd) ∧ (2000001 : Nat) - y_4.fst < (2000001 : Nat) - x_3.fst ∧ ((↑y_4.fst : Int) = (↑x_3.fst : Int) + (1 : Int) ∧
  y_4.snd = x_3.snd + (↑y_3.keys.length : Int)) ∧ ((x.lock = x.lock ∧ x.ins = x.ins ∧ x.outs = x.outs ∧ True) ∧ True) ∧ True) ∧ (decide (x_3.snd < (400 :
  Int)) = false → inI64 ((↑x_2.fst : Int) + (1 : Int)) ∧ ∃ (y : Nat × Int), LongJ x y.fst y.snd ∧ x.outs.length - y.fst < x.outs.length - x_2.fst ∧ ((↑y.fst : Int) =
  (↑x_2.fst : Int) + (1 : Int) ∧ y.snd = x_3.snd) ∧ ((x.lock = x.lock ∧ x.ins = x.ins ∧ x.outs = x.outs ∧ True) ∧ True) ∧ True)) ∧ (decide ((↑x_3.fst :
  Int) < (↑y_1.cond.length : Int)) = false → inI64 ((↑x_2.fst : Int) + (1 : Int)) ∧ ∃ (y : Nat × Int), LongJ x y.fst y.snd ∧ x.outs.length - y.fst < x.outs.length -
  x_2.fst ∧ ((↑y.fst : Int) = (↑x_2.fst : Int) + (1 : Int) ∧ y.snd = x_3.snd) ∧ ((x.lock = x.lock ∧ x.ins = x.ins ∧ x.outs = x.outs ∧ True) ∧ True) ∧
  True)) ∧ (decide ((↑x_2.fst : Int) < (↑x.outs.length : Int)) = false → longB x = decide (x_2.snd > (400 : Int)) ∧ True ∧ True)))

theorem longTx_eq : longTxVC = fnS F96 f29 (bodyOf f29) longTxLS longTxAnn := by kernel_rfl
theorem longTx_vc : longTxVC := by
  intro t hs
  have hn := hs.n
  have hm := hs.m
  simp only [and_true, decide_eq_true_eq, decide_eq_false_iff_not, Int.toNat_natCast]
  refine fun _ _ => ⟨by unfold inI64; omega, fun h => ?_, fun h => ⟨⟨(0, _), ⟨Nat.zero_le _, by omega, by omega, by simp only; omega, rfl⟩, rfl, rfl⟩, ?_⟩⟩
  · unfold longB
    rw [if_pos h]
  rintro ⟨i, n⟩ hI _
  simp only at hI ⊢
  refine ⟨fun hlt => ⟨by omega, hlt, fun y hy _ => ?_⟩, fun hge => ⟨⟨(0, _), ?_, rfl, rfl⟩, ?_⟩⟩
  · have hd := dropAt (α := TIn) (y := y) hy
    obtain ⟨h1, h2, h3⟩ := tdiv16 (hs.s y (List.mem_of_getElem? hy))
    obtain ⟨i1, i2, i3, i4, i5⟩ := hI
    rw [h1]
    rw [hd] at i5
    simp only [secN] at i5
    exact ⟨by decide, by unfold inI64; omega, by unfold inI64; omega, (i + 1, _), ⟨by simp only; omega, i2, by simp only; omega, by simp only; omega, by simp only; omega⟩, by simp only; omega, by simp only; omega, rfl⟩
  · obtain ⟨i1, i2, i3, i4, i5⟩ := hI
    rw [List.drop_of_length_le (by omega)] at i5
    simp only [secN] at i5
    exact ⟨Nat.zero_le _, i2, i3, by simp only; omega, by rw [i5]; simp⟩
  rintro ⟨j, n2⟩ hJ _
  simp only at hJ ⊢
  obtain ⟨j1, j2, j3, j4, j5⟩ := hJ
  refine ⟨fun hlt => ⟨by omega, hlt, fun y hy _ => ?_⟩, fun hge => ?_⟩
  · change TOut at y
    have hc := hs.cond hy
    have hd := dropAt (α := TOut) (y := y) hy
    rw [hd] at j5
    simp only [outCut] at j5
    refine ⟨by unfold inI64; omega, ⟨(0, _), fun o ho => ?_, rfl, rfl⟩, ?_⟩
    · have e : y = o := by rw [hy] at ho; exact Option.some.inj ho
      subst e
      exact ⟨Nat.zero_le _, by simp only; omega, .inr (Int.le_refl _), rfl⟩
    rintro ⟨k, n3⟩ hK
    obtain ⟨k1, k2, k3, k4⟩ := hK y hy
    simp only at k1 k2 k3 k4 ⊢
    have fin : n3 = keyCut y.cond (n2 + y.cond.length) → inI64 ((j : Int) + 1) ∧ ∃ z : Nat × Int, LongJ t z.1 z.2 ∧ t.outs.length - z.1 < t.outs.length - j ∧ (z.1 : Int) = (j : Int) + 1 ∧ z.2 = n3 := fun e =>
      ⟨by unfold inI64; omega, (j + 1, n3), ⟨by simp only; omega, j2, k2, by simp only; omega, by rw [j5, e]⟩, by simp only; omega, by simp only; omega, rfl⟩
    refine ⟨by omega, hlt, fun y1 hy1 _ => ?_⟩
    have e : y = y1 := by rw [hy] at hy1; exact Option.some.inj hy1
    subst e
    refine ⟨fun hk => ⟨fun h4 => ⟨by omega, hlt, fun y2 hy2 => ?_⟩, fun h4 => ?_⟩, fun hk => ?_⟩
    · have e : y = y2 := by rw [hy] at hy2; exact Option.some.inj hy2
      subst e
      refine ⟨by omega, hk, fun b hb _ => ?_⟩
      change Br at b
      have hb2 := keys_le (List.mem_of_getElem? hb)
      have hd2 := dropAt (α := Br) (y := b) hb
      refine ⟨by unfold inI64; omega, by unfold inI64; omega, (k + 1, _), fun o ho => ?_, by simp only; omega, by simp only; omega, rfl⟩
      have e : y = o := by rw [hy] at ho; exact Option.some.inj ho
      subst e
      refine ⟨by simp only; omega, by simp only; omega, .inl (by simp only; omega), ?_⟩
      rw [k4, hd2]
      simp only [keyCut]
      rw [if_pos h4]
    · refine fin ?_
      have hk' : k < y.cond.length := by omega
      rw [k4, List.drop_eq_getElem_cons hk']
      simp only [keyCut]
      rw [if_neg h4]
    · refine fin ?_
      rw [k4, List.drop_of_length_le (by omega)]
      rfl
  · unfold longB
    rw [if_neg h, j5, List.drop_of_length_le (by omega)]
    rfl
theorem longTx_ok : Fits F96 f29 (bodyOf f29) longTxLS longTxAnn := by
  constructor
  rw [← longTx_eq]
  exact longTx_vc
theorem f29_has : Has prog 29 f29 (bodyOf f29) := ⟨by kernel_rfl, by kernel_rfl, by kernel_rfl⟩
theorem known97 : Known prog L97 := by
  unfold L97
  exact known96.lent mixed f29_has F96_eq longTx_ok (fun _ _ => Nat.le_refl _) (fun _ _ => rfl)
end Go.Proofs.YtcglahfmnoghjaaDoor
