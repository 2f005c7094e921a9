/- Part 5 of the texts behind the last one: what they say stands ahead of each. Conditions: none. -/
import Derived.Test.YtcglahfmnoghjaaDoorMv4
/-! A condition's opening, whatever its lock; the document's; the law: they hold. Conditions: none. -/
namespace Go.Proofs.YtcglahfmnoghjaaDoor
open Go Go.Eng Go.Proofs.Tryd

theorem fine_of_checkN {bs : List Br} (h : checkN bs = 0) : fineB bs = true := checkN_zero.1 h
theorem not_of_checkN {bs : List Br} (h : ¬ checkN bs = 0) : fineB bs = false := by
  cases e : fineB bs with
  | false => rfl
  | true => exact absurd (checkN_zero.2 e) h
def opensGVC : Prop := ∀ (x : List Br × Int × Sn), Bytes x.snd.snd.secret → (x.fst = x.fst ∧ True) ∧ True ∧ True ∧ ((!checkN x.fst == (0 : Int)) = true → opensB x.fst
  x.snd.fst x.snd.snd = checkN x.fst ∧ True ∧ True) ∧ ((!checkN x.fst == (0 : Int)) = false → (decide (x.snd.fst < (0 : Int)) = true → (opensB x.fst
  x.snd.fst x.snd.snd = (4 : Int) ∧ (4 : Int) ≠ (0 : Int)) ∧ True ∧ True) ∧ (decide (x.snd.fst < (0 : Int)) = false → (↑x.fst.length : Int) ≤
  (9223372036854775807 : Int) → (decide (x.snd.fst ≥ (↑x.fst.length : Int)) = true → (opensB x.fst x.snd.fst x.snd.snd = (4 : Int) ∧ (4 : Int) ≠ (0 :
  Int)) ∧ True ∧ True) ∧ (decide (x.snd.fst ≥ (↑x.fst.length : Int)) = false → (0 : Int) ≤ x.snd.fst ∧ x.snd.fst < (↑x.fst.length : Int) ∧ ∀ (y : AA (93
  : Nat)), x.fst[x.snd.fst.toNat]? = some y → (y.keys = y.keys ∧ Fn.func (46 : FuncId) = Fn.func (46 : Nat) ∧ True ∧ True ∧ True) ∧ ((x.snd.snd.signed =
  x.snd.snd.signed ∧ x.snd.snd.secret = x.snd.snd.secret ∧ x.snd.snd.height = x.snd.snd.height ∧ x.snd.snd.age = x.snd.snd.age ∧ True) ∧ True) ∧ True ∧
  (decide (missIdx x.snd.snd.signed y.keys (0 : Nat) ≥ (0 : Int)) = true → (opensB x.fst x.snd.fst x.snd.snd = (21 : Int) ∧ (21 : Int) ≠ (0 : Int)) ∧
  True ∧ True) ∧ (decide (missIdx x.snd.snd.signed y.keys (0 : Nat) ≥ (0 : Int)) = false → ((!y.lock == List.replicate (32 : Nat) (0 : Int)) = true →
  x.snd.snd.secret = x.snd.snd.secret ∧ True ∧ Bytes x.snd.snd.secret ∧ ((!y.lock == sumB orderL x.snd.snd.secret) = true → (opensB x.fst x.snd.fst
  x.snd.snd = (22 : Int) ∧ (22 : Int) ≠ (0 : Int)) ∧ True ∧ True) ∧ ((!y.lock == sumB orderL x.snd.snd.secret) = false → (decide (x.snd.snd.height <
  y.after) = true → (opensB x.fst x.snd.fst x.snd.snd = (23 : Int) ∧ (23 : Int) ≠ (0 : Int)) ∧ True ∧ True) ∧ (decide (x.snd.snd.height < y.after) =
  false → (decide (x.snd.snd.age < y.older) = true → (opensB x.fst x.snd.fst x.snd.snd = (23 : Int) ∧ (23 : Int) ≠ (0 : Int)) ∧ True ∧ True) ∧ (decide
  (x.snd.snd.age < y.older) = false → opensB x.fst x.snd.fst x.snd.snd = (0 : Int) ∧ True ∧ True)))) ∧ ((!y.lock == List.replicate (32 : Nat) (0 : Int))
  = false → (decide (x.snd.snd.height < y.after) = true → (opensB x.fst x.snd.fst x.snd.snd = (23 : Int) ∧ (23 : Int) ≠ (0 : Int)) ∧ True ∧ True) ∧
  (decide (x.snd.snd.height < y.after) = false → (decide (x.snd.snd.age < y.older) = true → (opensB x.fst x.snd.fst x.snd.snd = (23 : Int) ∧ (23 : Int) ≠
  (0 : Int)) ∧ True ∧ True) ∧ (decide (x.snd.snd.age < y.older) = false → opensB x.fst x.snd.fst x.snd.snd = (0 : Int) ∧ True ∧ True)))))))

theorem opensG_eq : opensGVC = fnS E45 f19 (bodyOf f19) opensGLS noAnn := by kernel_rfl
theorem opensG_vc : opensGVC := by
  rintro ⟨bs, br, s⟩ hb
  simp only [and_true, true_and, decide_eq_true_eq, decide_eq_false_iff_not, Bool.not_eq_true', Bool.not_eq_false', beq_iff_eq, beq_eq_false_iff_ne, ne_eq] at hb ⊢
  refine ⟨fun h => ?_, fun h => ?_⟩
  · unfold opensB
    rw [opensN_not (not_of_checkN h)]; simp [checkN, not_of_checkN h]
  unfold opensB
  rw [opensN_fine (fine_of_checkN h)]
  refine ⟨fun h1 => ⟨?_, by decide⟩, fun h1 hl => ⟨fun h2 => ⟨?_, by decide⟩, fun h2 => ?_⟩⟩
  · rw [if_pos (.inl h1)]
  · rw [if_pos (.inr h2)]
  rw [if_neg (by omega)]
  refine ⟨by omega, by omega, fun y hy => ?_⟩
  change bs[br.toNat]? = some (show Br from y) at hy
  rw [hy]
  simp only
  refine ⟨fun h3 => ⟨?_, by decide⟩, fun h3 => ⟨fun h4 => ⟨hb, fun h5 => ⟨?_, by decide⟩, fun h5 => ?_⟩, fun h4 => ?_⟩⟩
  · rw [if_pos h3]
  · rw [if_neg h3, if_pos ⟨h4, h5⟩]
  · rw [if_neg h3, if_neg (fun h => h.2 h5)]
    refine ⟨fun h5 => ⟨?_, by decide⟩, fun h5 => ⟨fun h6 => ⟨?_, by decide⟩, fun h6 => ?_⟩⟩
    · rw [if_pos (.inl h5)]
    · rw [if_pos (.inr h6)]
    · rw [if_neg (fun h => h.elim h5 h6)]
  · rw [if_neg h3, if_neg (fun h => h.1 h4)]
    refine ⟨fun h5 => ⟨?_, by decide⟩, fun h5 => ⟨fun h6 => ⟨?_, by decide⟩, fun h6 => ?_⟩⟩
    · rw [if_pos (.inl h5)]
    · rw [if_pos (.inr h6)]
    · rw [if_neg (fun h => h.elim h5 h6)]
theorem opensG_ok : Fits E45 f19 (bodyOf f19) opensGLS noAnn := by
  constructor
  rw [← opensG_eq]
  exact opensG_vc
theorem known46 : Known prog L46 := by
  unfold L46
  exact known45.lent mixed f19_has E45_eq opensG_ok (fun _ _ => Nat.le_refl _) (fun _ _ => rfl)

theorem bytes_nil : Bytes [] := ⟨by simp, by simp⟩
def sureGVC : Prop := ∀ (_ : Unit), True → [(2 : Int), (1 : Int)] = [(2 : Int), (1 : Int)] ∧ True ∧ [(2 : Int), (1 : Int)].length.le (1000000 : Nat) ∧
  ((Proofs.YtcglahfmnoghjaaDoor.allOf [(2 : Int), (1 : Int)] = Proofs.YtcglahfmnoghjaaDoor.allOf [(2 : Int), (1 : Int)] ∧ True) ∧ (0 : Int) = (0 : Int) ∧
  [(1 : Int), (2 : Int)] = [(1 : Int), (2 : Int)] ∧ ([] : List Int) = [] ∧ (0 : Int) = (0 : Int) ∧ (0 : Int) = (0 : Int) ∧ True) ∧ True ∧ Bytes [] ∧
  ((opensB (Proofs.YtcglahfmnoghjaaDoor.allOf [(2 : Int), (1 : Int)]) (0 : Int) (Sn.mk [(1 : Int), (2 : Int)] [] (0 : Int) (0 : Int)) == (0 : Int)) =
  true → ((Proofs.YtcglahfmnoghjaaDoor.allOf [(2 : Int), (1 : Int)] = Proofs.YtcglahfmnoghjaaDoor.allOf [(2 : Int), (1 : Int)] ∧ True) ∧ (0 : Int) = (0 :
  Int) ∧ [(1 : Int)] = [(1 : Int)] ∧ ([] : List Int) = [] ∧ (0 : Int) = (0 : Int) ∧ (0 : Int) = (0 : Int) ∧ True) ∧ True ∧ Bytes [] ∧ ((opensB
  (Proofs.YtcglahfmnoghjaaDoor.allOf [(2 : Int), (1 : Int)]) (0 : Int) (Sn.mk [(1 : Int)] [] (0 : Int) (0 : Int)) == (21 : Int)) = true →
  (↑(Proofs.YtcglahfmnoghjaaDoor.allOf [(2 : Int), (1 : Int)]).length : Int) ≤ (9223372036854775807 : Int) → (((↑(Proofs.YtcglahfmnoghjaaDoor.allOf [(2 :
  Int), (1 : Int)]).length : Int) == (1 : Int)) = true → (0 : Int) ≤ (0 : Int) ∧ (0 : Int) < (↑(Proofs.YtcglahfmnoghjaaDoor.allOf [(2 : Int), (1 :
  Int)]).length : Int) ∧ ∀ (y : AA (93 : Nat)), (Proofs.YtcglahfmnoghjaaDoor.allOf [(2 : Int), (1 : Int)])[Int.toNat (0 : Int)]? = some y → True ∧ true =
  decide (y.keys = [(1 : Int), (2 : Int)]) ∧ True ∧ True) ∧ (((↑(Proofs.YtcglahfmnoghjaaDoor.allOf [(2 : Int), (1 : Int)]).length : Int) == (1 : Int)) =
  false → true = false ∧ True ∧ True)) ∧ ((opensB (Proofs.YtcglahfmnoghjaaDoor.allOf [(2 : Int), (1 : Int)]) (0 : Int) (Sn.mk [(1 : Int)] [] (0 : Int) (0
  : Int)) == (21 : Int)) = false → true = false ∧ True ∧ True)) ∧ ((opensB (Proofs.YtcglahfmnoghjaaDoor.allOf [(2 : Int), (1 : Int)]) (0 : Int) (Sn.mk
  [(1 : Int), (2 : Int)] [] (0 : Int) (0 : Int)) == (0 : Int)) = false → true = false ∧ True ∧ True)

theorem sureG_eq : sureGVC = fnS E46 f14 (bodyOf f14) sureLS noAnn := by kernel_rfl
theorem sureG_vc : sureGVC := by
  intro _ _
  have o1 : opensB (allOf [2, 1]) 0 ⟨[1, 2], [], 0, 0⟩ = 0 := by
    unfold opensB
    rw [allOf_21, opensN_fine fine_21]
    simp [missIdx, zeros32]
  have o2 : opensB (allOf [2, 1]) 0 ⟨[1], [], 0, 0⟩ = 21 := by
    unfold opensB
    rw [allOf_21, opensN_fine fine_21]
    simp [missIdx]
  refine ⟨rfl, trivial, (show 2 ≤ 1000000 by decide), ⟨⟨rfl, trivial⟩, rfl, rfl, rfl, rfl, rfl, trivial⟩, trivial, bytes_nil, fun _ => ⟨⟨⟨rfl, trivial⟩, rfl, rfl, rfl, rfl, rfl, trivial⟩, trivial, bytes_nil, fun _ _ => ⟨fun _ => ⟨by decide, ?_, ?_⟩, fun h => ?_⟩, fun h => ?_⟩, fun h => ?_⟩
  · rw [allOf_21]; simp
  · intro y hy
    rw [allOf_21] at hy
    simp at hy
    cases hy
    exact ⟨trivial, by simp, trivial, trivial⟩
  · rw [allOf_21] at h; simp at h
  · rw [o2] at h; simp at h
  · rw [o1] at h; simp at h
theorem sureG_ok : Fits E46 f14 (bodyOf f14) sureLS noAnn := by
  constructor
  rw [← sureG_eq]
  exact sureG_vc
theorem known47 : Known prog L47 := by
  unfold L47
  exact known46.lent mixed f14_has E46_eq sureG_ok (fun _ _ => Nat.le_refl _) (fun _ _ => rfl)

theorem drop_cons' {xs : List Int} {i : Nat} (h : i < xs.length) : xs.drop i = xs.getD i 0 :: xs.drop (i + 1) := by
  rw [List.drop_eq_getElem_cons h, List.getD_eq_getElem?_getD, List.getElem?_eq_getElem h]
  rfl
def hasVC : Prop := ∀ (x : List Int × Int), True → (∃ x_1, (x_1 ≤ x.fst.length ∧ (x.snd ∈ x.fst ↔ x.snd ∈ List.drop x_1 x.fst)) ∧ (↑x_1 : Int) = (0 : Int) ∧ True ∧ True) ∧
  ∀ (x_1 : Nat), x_1 ≤ x.fst.length ∧ (x.snd ∈ x.fst ↔ x.snd ∈ List.drop x_1 x.fst) → (↑x.fst.length : Int) ≤ (9223372036854775807 : Int) → (decide
  ((↑x_1 : Int) < (↑x.fst.length : Int)) = true → (0 : Int) ≤ (↑x_1 : Int) ∧ (↑x_1 : Int) < (↑x.fst.length : Int) ∧ (↑x_1 : Int).toNat < x.fst.length ∧
  ((x.fst.getD (↑x_1 : Int).toNat (0 : Int) == x.snd) = true → decide (x.snd ∈ x.fst) = true ∧ True ∧ True) ∧ ((x.fst.getD (↑x_1 : Int).toNat (0 : Int)
  == x.snd) = false → inI64 ((↑x_1 : Int) + (1 : Int)) ∧ ∃ y, (y ≤ x.fst.length ∧ (x.snd ∈ x.fst ↔ x.snd ∈ List.drop y x.fst)) ∧ x.fst.length - y <
  x.fst.length - x_1 ∧ (↑y : Int) = (↑x_1 : Int) + (1 : Int) ∧ True ∧ True)) ∧ (decide ((↑x_1 : Int) < (↑x.fst.length : Int)) = false → decide (x.snd ∈
  x.fst) = false ∧ True ∧ True)

theorem has_eq : hasVC = fnS E47 f49 (bodyOf f49) hasLS hasAnn := by kernel_rfl
theorem has_vc : hasVC := by
  rintro ⟨xs, k⟩ _
  simp only [and_true, true_and, decide_eq_true_eq, decide_eq_false_iff_not, beq_iff_eq, beq_eq_false_iff_ne, ne_eq, Int.toNat_natCast]
  refine ⟨⟨0, ⟨Nat.zero_le _, Iff.rfl⟩, rfl⟩, fun i hi hl => ⟨fun h => ?_, fun h => ?_⟩⟩
  · have hi' : i < xs.length := by omega
    have hd := drop_cons' hi'
    refine ⟨by omega, by omega, hi', fun h1 => ?_, fun h1 => ⟨by unfold inI64; omega, i + 1, ⟨hi', ?_⟩, by omega, by omega⟩⟩
    · rw [hi.2, hd, h1]; simp
    · rw [hi.2, hd]
      simp only [List.mem_cons]
      exact ⟨fun h => h.elim (fun e => absurd e.symm h1) id, .inr⟩
  · rw [hi.2, List.drop_of_length_le (by omega)]
    simp
theorem has_ok : Fits E47 f49 (bodyOf f49) hasLS hasAnn := by
  constructor
  rw [← has_eq]
  exact has_vc
theorem f49_has : Has prog 49 f49 (bodyOf f49) := ⟨by kernel_rfl, by kernel_rfl, by kernel_rfl⟩
theorem known48 : Known prog L48 := by
  unfold L48
  exact known47.lent mixed f49_has E47_eq has_ok (fun _ _ => Nat.le_refl _) (fun _ _ => rfl)
def rOpensVC : Prop := ∀ (x : List Br × Int × Sn), Bytes x.snd.snd.secret ∧ x.fst.length ≤ (9223372036854775807 : Nat) ∧ x.snd.snd.signed.length ≤ (9223372036854775807 : Nat)
  → x.fst.length.le (9223372036854775807 : Nat) ∧ (((bif fineB x.fst then (0 : Int) else (1 : Int)) != (0 : Int)) = true → (opensB x.fst x.snd.fst
  x.snd.snd = bif fineB x.fst then (0 : Int) else (1 : Int)) ∧ True ∧ True) ∧ (((bif fineB x.fst then (0 : Int) else (1 : Int)) != (0 : Int)) = false →
  (decide (x.snd.fst < (0 : Int)) = true → opensB x.fst x.snd.fst x.snd.snd = (4 : Int) ∧ True ∧ True) ∧ (decide (x.snd.fst < (0 : Int)) = false →
  (↑x.fst.length : Int) ≤ (9223372036854775807 : Int) → (decide (x.snd.fst ≥ (↑x.fst.length : Int)) = true → opensB x.fst x.snd.fst x.snd.snd = (4 : Int)
  ∧ True ∧ True) ∧ (decide (x.snd.fst ≥ (↑x.fst.length : Int)) = false → (0 : Int) ≤ x.snd.fst ∧ x.snd.fst < (↑x.fst.length : Int) ∧ ∀ (y : AA (48 :
  Nat)), x.fst[x.snd.fst.toNat]? = some y → (∃ x_1, (x_1 ≤ y.keys.length ∧ missIdx x.snd.snd.signed y.keys (0 : Nat) = missIdx x.snd.snd.signed
  (List.drop x_1 y.keys) x_1) ∧ (↑x_1 : Int) = (0 : Int) ∧ ((x.fst = x.fst ∧ True) ∧ (x.snd.snd.signed = x.snd.snd.signed ∧ x.snd.snd.secret =
  x.snd.snd.secret ∧ x.snd.snd.height = x.snd.snd.height ∧ x.snd.snd.age = x.snd.snd.age ∧ True) ∧ (y.keys = y.keys ∧ y.lock = y.lock ∧ y.after = y.after
  ∧ y.older = y.older ∧ True) ∧ True) ∧ True) ∧ ∀ (x_1 : Nat), x_1 ≤ y.keys.length ∧ missIdx x.snd.snd.signed y.keys (0 : Nat) = missIdx x.snd.snd.signed
  (List.drop x_1 y.keys) x_1 → (↑y.keys.length : Int) ≤ (9223372036854775807 : Int) → (decide ((↑x_1 : Int) < (↑y.keys.length : Int)) = true → (0 : Int)
  ≤ (↑x_1 : Int) ∧ (↑x_1 : Int) < (↑y.keys.length : Int) ∧ (↑x_1 : Int).toNat < y.keys.length ∧ (x.snd.snd.signed = x.snd.snd.signed ∧ y.keys.getD (↑x_1
  : Int).toNat (0 : Int) = y.keys.getD (↑x_1 : Int).toNat (0 : Int)) ∧ True ∧ True ∧ ((!decide (y.keys.getD (↑x_1 : Int).toNat (0 : Int) ∈
  x.snd.snd.signed)) = true → opensB x.fst x.snd.fst x.snd.snd = (21 : Int) ∧ True ∧ True) ∧ ((!decide (y.keys.getD (↑x_1 : Int).toNat (0 : Int) ∈
  x.snd.snd.signed)) = false → inI64 ((↑x_1 : Int) + (1 : Int)) ∧ ∃ y_1, (y_1 ≤ y.keys.length ∧ missIdx x.snd.snd.signed y.keys (0 : Nat) = missIdx
  x.snd.snd.signed (List.drop y_1 y.keys) y_1) ∧ y.keys.length - y_1 < y.keys.length - x_1 ∧ (↑y_1 : Int) = (↑x_1 : Int) + (1 : Int) ∧ ((x.fst = x.fst ∧
  True) ∧ (x.snd.snd.signed = x.snd.snd.signed ∧ x.snd.snd.secret = x.snd.snd.secret ∧ x.snd.snd.height = x.snd.snd.height ∧ x.snd.snd.age =
  x.snd.snd.age ∧ True) ∧ (y.keys = y.keys ∧ y.lock = y.lock ∧ y.after = y.after ∧ y.older = y.older ∧ True) ∧ True) ∧ True)) ∧ (decide ((↑x_1 : Int) <
  (↑y.keys.length : Int)) = false → ((!y.lock == List.replicate (32 : Nat) (0 : Int)) = true → x.snd.snd.secret = x.snd.snd.secret ∧ True ∧ Bytes
  x.snd.snd.secret ∧ ((!sumB orderL x.snd.snd.secret == y.lock) = true → opensB x.fst x.snd.fst x.snd.snd = (22 : Int) ∧ True ∧ True) ∧ ((!sumB orderL
  x.snd.snd.secret == y.lock) = false → (decide (y.after > x.snd.snd.height) = true → opensB x.fst x.snd.fst x.snd.snd = (23 : Int) ∧ True ∧ True) ∧
  (decide (y.after > x.snd.snd.height) = false → (decide (y.older > x.snd.snd.age) = true → opensB x.fst x.snd.fst x.snd.snd = (23 : Int) ∧ True ∧ True)
  ∧ (decide (y.older > x.snd.snd.age) = false → opensB x.fst x.snd.fst x.snd.snd = (0 : Int) ∧ True ∧ True)))) ∧ ((!y.lock == List.replicate (32 : Nat)
  (0 : Int)) = false → (decide (y.after > x.snd.snd.height) = true → opensB x.fst x.snd.fst x.snd.snd = (23 : Int) ∧ True ∧ True) ∧ (decide (y.after >
  x.snd.snd.height) = false → (decide (y.older > x.snd.snd.age) = true → opensB x.fst x.snd.fst x.snd.snd = (23 : Int) ∧ True ∧ True) ∧ (decide (y.older
  > x.snd.snd.age) = false → opensB x.fst x.snd.fst x.snd.snd = (0 : Int) ∧ True ∧ True)))))))

theorem rOpens_eq : rOpensVC = fnS E48 f20 (bodyOf f20) rOpensLS rOpensAnn := by kernel_rfl
theorem rOpens_vc : rOpensVC := by
  rintro ⟨bs, br, s⟩ ⟨hb, hn, hn2⟩
  simp only [and_true, true_and, decide_eq_true_eq, decide_eq_false_iff_not, Bool.not_eq_true', Bool.not_eq_false', beq_iff_eq, beq_eq_false_iff_ne, bne_iff_ne, bne_eq_false_iff_eq, ne_eq, Int.toNat_natCast] at hb hn hn2 ⊢
  refine ⟨hn, fun h => ?_, fun h => ?_⟩
  · have hf : fineB bs = false := by
      cases e : fineB bs with
      | false => rfl
      | true => rw [e] at h; exact absurd rfl h
    unfold opensB
    rw [opensN_not hf, hf]; rfl
  have hf : fineB bs = true := by
    cases e : fineB bs with
    | true => rfl
    | false => rw [e] at h; exact absurd h (by decide)
  unfold opensB
  rw [opensN_fine hf]
  refine ⟨fun h1 => ?_, fun h1 hl => ⟨fun h2 => ?_, fun h2 => ?_⟩⟩
  · rw [if_pos (.inl h1)]
  · rw [if_pos (.inr h2)]
  rw [if_neg (by omega)]
  refine ⟨by omega, by omega, fun y hy => ?_⟩
  change bs[br.toNat]? = some (show Br from y) at hy
  rw [hy]
  simp only
  refine ⟨⟨0, ⟨Nat.zero_le _, rfl⟩, rfl⟩, fun i hi hl => ⟨fun h3 => ?_, fun h3 => ?_⟩⟩
  · have hi' : i < (Br.keys y).length := by omega
    have hd := drop_cons' hi'
    refine ⟨by omega, by omega, hi', fun h4 => ?_, fun h4 => ⟨by unfold inI64; omega, i + 1, ⟨hi', ?_⟩, by omega, by omega⟩⟩
    · rw [if_pos]
      rw [hi.2, hd]
      simp only [missIdx, if_neg h4]
      omega
    · rw [hi.2, hd]
      simp only [missIdx, if_pos h4]
  · have hm : missIdx s.signed (Br.keys y) 0 = -1 := by
      rw [hi.2, List.drop_of_length_le (by omega)]
      rfl
    rw [hm, if_neg (by decide)]
    refine ⟨fun h4 => ⟨hb, fun h5 => ?_, fun h5 => ?_⟩, fun h4 => ?_⟩
    · rw [if_pos ⟨h4, fun e => h5 e.symm⟩]
    · rw [if_neg (fun h => h.2 h5.symm)]
      refine ⟨fun h5 => ?_, fun h5 => ⟨fun h6 => ?_, fun h6 => ?_⟩⟩
      · rw [if_pos (.inl h5)]
      · rw [if_pos (.inr h6)]
      · rw [if_neg (fun h => h.elim h5 h6)]
    · rw [if_neg (fun h => h.1 h4)]
      refine ⟨fun h5 => ?_, fun h5 => ⟨fun h6 => ?_, fun h6 => ?_⟩⟩
      · rw [if_pos (.inl h5)]
      · rw [if_pos (.inr h6)]
      · rw [if_neg (fun h => h.elim h5 h6)]
theorem rOpens_ok : Fits E48 f20 (bodyOf f20) rOpensLS rOpensAnn := by
  constructor
  rw [← rOpens_eq]
  exact rOpens_vc
theorem f20_has : Has prog 20 f20 (bodyOf f20) := ⟨by kernel_rfl, by kernel_rfl, by kernel_rfl⟩
theorem known49 : Known prog L49 := by
  unfold L49
  exact known48.lent mixed f20_has E48_eq rOpens_ok (fun _ _ => Nat.le_refl _) (fun _ _ => rfl)

def opensLawVC : Prop := ∀ (x : OpX), x.Ok → (weight x.bs).le (1099511627776 : Nat) ∧ (decide ((300 : Nat) < weight x.bs) = true → True ∧ True ∧ True ∧ true = true ∧ True ∧
  True) ∧ (decide ((300 : Nat) < weight x.bs) = false → (↑x.s.signed.length : Int) ≤ (9223372036854775807 : Int) → (decide ((↑x.s.signed.length : Int) >
  (300 : Int)) = true → True ∧ True ∧ True ∧ true = true ∧ True ∧ True) ∧ (decide ((↑x.s.signed.length : Int) > (300 : Int)) = false → (weight x.bs).le
  (300 : Nat) ∧ (x.bs = x.bs ∧ True) ∧ True ∧ True ∧ x.bs.length.le (9223372036854775807 : Nat) ∧ ((checkN x.bs == bif fineB x.bs then (0 : Int) else (1
  : Int)) = true → (weight x.bs).le (300 : Nat) ∧ ((x.bs = x.bs ∧ True) ∧ x.br = x.br ∧ x.s.signed = x.s.signed ∧ x.s.secret = x.s.secret ∧ x.s.height =
  x.s.height ∧ x.s.age = x.s.age ∧ True) ∧ True ∧ Bytes x.s.secret ∧ ((x.bs = x.bs ∧ True) ∧ x.br = x.br ∧ x.s.signed = x.s.signed ∧ x.s.secret =
  x.s.secret ∧ x.s.height = x.s.height ∧ x.s.age = x.s.age ∧ True) ∧ True ∧ (Bytes x.s.secret ∧ x.bs.length ≤ (9223372036854775807 : Nat) ∧
  x.s.signed.length ≤ (9223372036854775807 : Nat)) ∧ ((opensB x.bs x.br (Sn.mk x.s.signed x.s.secret x.s.height x.s.age) == opensB x.bs x.br (Sn.mk
  x.s.signed x.s.secret x.s.height x.s.age)) = true → x.s.secret = x.s.secret ∧ True ∧ Bytes x.s.secret ∧ x.s.secret = x.s.secret ∧ True ∧ Bytes
  x.s.secret ∧ ((sumB orderL x.s.secret == sumB orderL x.s.secret) = true → True ∧ True ∧ True ∧ true = true ∧ True ∧ True) ∧ ((sumB orderL x.s.secret ==
  sumB orderL x.s.secret) = false → true = false ∧ True ∧ True)) ∧ ((opensB x.bs x.br (Sn.mk x.s.signed x.s.secret x.s.height x.s.age) == opensB x.bs
  x.br (Sn.mk x.s.signed x.s.secret x.s.height x.s.age)) = false → true = false ∧ True ∧ True)) ∧ ((checkN x.bs == bif fineB x.bs then (0 : Int) else (1
  : Int)) = false → true = false ∧ True ∧ True)))

theorem opensLaw_eq : opensLawVC = fnS E49 f3 (bodyOf f3) opensLawLS noAnn := by kernel_rfl
theorem opensLaw_vc : opensLawVC := by
  rintro ⟨bs, br, s⟩ ⟨hw, hb, hn⟩
  simp only at hw hb hn
  have hbl : bs.length ≤ 9223372036854775807 := by
    unfold weight at hw; omega
  have hcf : checkN bs = bif fineB bs then 0 else 1 := rfl
  simp only [and_true, true_and, decide_eq_true_eq, decide_eq_false_iff_not, beq_self_eq_true, hcf, Bool.true_eq_false, false_implies, implies_true]
  exact ⟨hw, fun h _ h2 => ⟨Nat.le_of_not_lt h, hbl, fun _ => ⟨Nat.le_of_not_lt h, hb, ⟨hb, hbl, by omega⟩, fun _ => ⟨hb, hb⟩⟩⟩⟩
theorem opensLaw_ok : Fits E49 f3 (bodyOf f3) opensLawLS noAnn := by
  constructor
  rw [← opensLaw_eq]
  exact opensLaw_vc
theorem f3_has : Has prog 3 f3 (bodyOf f3) := ⟨by kernel_rfl, by kernel_rfl, by kernel_rfl⟩
end Go.Proofs.YtcglahfmnoghjaaDoor

/-! What the readings of a Seen and of numbers come to; CondOpens' call. Conditions: none. -/
namespace Go.Proofs.YtcglahfmnoghjaaDoor
open Go Go.Eng Go.Proofs.Tryd Go.ChangeShapes Go.WideShapes Go.RowKit

theorem cells26 : prog.cellsOf 26 = 1 := by kernel_rfl
theorem cells28 : prog.cellsOf 28 = 4 := by kernel_rfl
theorem wf8 {x : Int} (h : (Lit.int .u8 x).wf = true) : 0 ≤ x ∧ x < 256 := by
  simp only [Lit.wf, Bool.and_eq_true, decide_eq_true_eq] at h
  have h1 : IntKind.u8.min = 0 := rfl
  have h2 : IntKind.u8.max = 255 := rfl
  omega
theorem wf64 {x : Int} (h : (Lit.int .i64 x).wf = true) : -9223372036854775808 ≤ x := by
  simp only [Lit.wf, Bool.and_eq_true, decide_eq_true_eq] at h
  exact h.1
theorem int_of_ok {P : Program} {W : World} {r : Reach} {base : Nat} {t : TypeId} {k : IntKind} (ht : P.underlying t = some (.int k)) {v : Value} (h : Value.okWide P W r base t v) : ∃ n, v = .int k n := by
  unfold Value.okWide at h
  rw [ht] at h
  change Cell.okWide P W r base t v at h
  cases v with
  | int k' n =>
    simp only [Cell.okWide, Cell.ok, ht] at h
    exact ⟨n, by rw [h.1]⟩
  | _ => simp [Cell.okWide, Cell.ok, ht] at h
section
variable {H : Type} {enc : TypeId × Value → H} {w : World} {sp : Nat → Bool} {held : Bool}
structure SnIs (s : Sn) (n : Nat) : Prop where
  bytes : ∀ y, y ∈ s.secret → 0 ≤ y ∧ y < 256
  len : s.signed.length + s.secret.length ≤ n
  height : -9223372036854775808 ≤ s.height
  age : -9223372036854775808 ≤ s.age
theorem rd_seen_of {P : Program} {tS tK tB tI tE : TypeId} {fs : Array Field} {C : Enc AA} (hS : P.underlying tS = some (.struct fs))
    (hfs : fs.toList.map (fun f => (f.type, f.offset)) = [(tK, 0), (tB, 1), (tI, 2), (tI, 3)]) (hK : P.underlying tK = some (.slice tI)) (hI : P.underlying tI = some (.int .i64)) (hB : P.underlying tB = some (.slice tE)) (hE : P.underlying tE = some (.int .u8))
    (cS : P.cellsOf tS = 4) (cK : P.cellsOf tK = 1) (cI : P.cellsOf tI = 1) (cB : P.cellsOf tB = 1) (cE : P.cellsOf tE = 1) :
    RdT enc P w sp held C tS fun sl d => ∃ s : Sn, sl = snSL s ∧ SnIs s (Rows.uptoBulk d) := by
  match hl : fs.toList, hfs with
  | [f1, f2, f3, f4], hfs =>
    simp only [List.map_cons, List.map_nil, List.cons.injEq, Prod.mk.injEq, and_true] at hfs
    obtain ⟨⟨t1, o1⟩, ⟨t2, o2⟩, ⟨t3, o3⟩, t4, o4⟩ := hfs
    refine RdT.mono (rd_struct hS (by
      rw [hl]
      exact rd_fs_cons o1 (by rw [t1]; exact rd_ints hK hI cI) (rd_fs_cons (by rw [t1, cK, o2]) (by rw [t2]; exact rd_ints hB hE cE)
        (rd_fs_cons (by rw [t1, t2, cK, cB, o3]) (by rw [t3]; exact rd_int hI) (rd_fs_cons (by rw [t1, t2, t3, cK, cB, cI, o4]) (by rw [t4]; exact rd_int hI) (rd_fs_nil (by rw [t1, t2, t3, t4, cK, cB, cI, cS]; omega))))))) ?_
    rintro sl d ⟨ds, rfl, s1, s2, d1, ds1, rfl, rfl, ⟨ks, rfl, h1, h2⟩, s3, s4, d2, ds2, rfl, rfl, ⟨lk, rfl, h3, h4⟩, s5, s6, d3, ds3, rfl, rfl, ⟨af, rfl, h5⟩, s7, s8, d4, ds4, rfl, rfl, ⟨ol, rfl, h6⟩, rfl, rfl⟩
    refine ⟨⟨ks, lk, af, ol⟩, rfl, fun y hy => wf8 (h4 y hy), ?_, wf64 h5, wf64 h6⟩
    have := delems_le d1
    have := delems_le d2
    simp only [Rows.uptoBulk, Rows.uptoBulkAll]
    omega
  | [], hfs => simp at hfs
  | [_], hfs => simp at hfs
  | [_, _], hfs => simp at hfs
  | [_, _, _], hfs => simp at hfs
  | _ :: _ :: _ :: _ :: _ :: _, hfs => simp at hfs
theorem rd_seen : RdT enc prog w sp held CC 28 fun sl d => ∃ s : Sn, sl = snSL s ∧ SnIs s (Rows.uptoBulk d) :=
  rd_seen_of underlying28 rfl underlying25 underlying3 underlying26 underlying5 cells28 cells25 cells3 cells26 cells5
end
theorem opens_calls {W : World} {vs : List Value} {x : OpX} (hx : x.Ok) (ha : ArgsR NoO [] W CC [.agg (.cell (.rseq 48 x.bs) .nil), .int .i64 x.br, .agg (snSL x.s)] vs) (hg : Glob GG NoO [] W CC) :
    Calls prog 3 vs.toArray W fun e W' => e = .returned (.bool true) ∧ Below W.heap.size W W' := by
  have hS : Sound E49 := by rw [E49_eq]; exact sound mixed known49
  exact law_calls (ee_P E49_eq) hS f3_has opensLaw_ok x hx rfl rfl (fun _ _ => Nat.le_refl _) (by rw [ee_C E49_eq]; exact ha) (by rw [ee_GL E49_eq, ee_C E49_eq]; exact hg)
end Go.Proofs.YtcglahfmnoghjaaDoor

/-! Numbers laid as bytes, by the program and by the document: what is said of them. Conditions: none. -/
namespace Go.Proofs.YtcglahfmnoghjaaDoor
open Go Go.Eng Go.Proofs.Tryd

/-- A number's bytes, the highest first. -/
def digsF : Nat → Nat → List Int
  | 0, _ => []
  | f + 1, n => if n = 0 then [] else digsF f (n / 256) ++ [((n % 256 : Nat) : Int)]
def digs (n : Int) : List Int := digsF 8 n.toNat
/-- .. behind their count. -/
def uintB (n : Int) : List Int := ((digs n).length : Int) :: digs n
structure U64 (n : Int) : Prop where
  lo : 0 ≤ n
  hi : n < 18446744073709551616
def bitlen (n : Nat) : Nat := if n = 0 then 0 else n.log2 + 1

def len64LS : LS AA where
  X := Int
  pre := U64
  args := fun n => [.int .u64 n]
  hin := fun _ => []
  res := fun n => [.int .i64 (bitlen n.toNat : Nat)]
  hout := fun _ => []
def asU : SV AA → Option Int
  | .int .u64 n => some n
  | .lit .u64 n => some n
  | _ => none
def u64Get (args : List (SV AA)) (_ : List (SO AA)) : Option Int := match args with
  | [s] => asU s
  | _ => none
def L60 : List (Nat × SpecT AA) := (128, tLent len64LS u64Get) :: L49
noncomputable def E60 : Eng AA := EE prog L60
theorem E60_eq : E60 = EE prog L60 := by
  unfold E60
  rfl
def widthLS : LS AA where
  X := Int
  pre := U64
  args := fun n => [.int .u64 n]
  hin := fun _ => []
  res := fun n => [.int .i64 ((digs n).length : Nat)]
  hout := fun _ => []
def L61 : List (Nat × SpecT AA) := (98, tLent widthLS u64Get) :: L60
noncomputable def E61 : Eng AA := EE prog L61
theorem E61_eq : E61 = EE prog L61 := by
  unfold E61
  rfl
structure BN where
  xs : List Int
  n : Int
structure BN.Ok (x : BN) : Prop where
  len : x.xs.length ≤ 1099511627776
  n : U64 x.n
structure BN.Low (x : BN) : Prop where
  len : x.xs.length ≤ 1000000000000
  n : U64 x.n
/-- The bytes laid behind others, unturned. -/
def highLS : LS AA where
  X := BN
  pre := BN.Ok
  args := fun x => [.vec 0, .int .u64 x.n, .lit .u8 0]
  hin := fun x => [.ivec 5 .u8 x.xs]
  res := fun _ => [.vec 1]
  hout := fun x => [.dead, .ivec 5 .u8 (x.xs ++ digs x.n)]
def highGet (args : List (SV AA)) (sh : List (SO AA)) : Option BN := match args with
  | [s, n, _] => match gI .u8 sh s, asU n with
    | some xs, some n => some ⟨xs, n⟩
    | _, _ => none
  | _ => none
def highAnn (x : BN) : Anns AA := fun _ _ _ => some {
  X := Nat
  inv := fun i => i ≤ (digs x.n).length
  meas := fun i => (digs x.n).length - i
  slots := fun i => [(0, .vec 1), (7, .int .i64 ((digs x.n).length - 1 - i : Int))]
  heap := fun _ => [(0, .dead)]
  more := fun i => [.ivec 5 .u8 (x.xs ++ (digs x.n).take i)] }
def L62 : List (Nat × SpecT AA) := (97, tLent highLS highGet) :: L61
noncomputable def E62 : Eng AA := EE prog L62
theorem E62_eq : E62 = EE prog L62 := by
  unfold E62
  rfl
/-! ## The writer -/
def wcell (i : Nat) : SO AA := .cells 164 (.cell (.vec i) .nil)
def newLS : LS AA where
  X := Unit
  pre := fun _ => True
  args := fun _ => []
  hin := fun _ => []
  res := fun _ => [.ptr 0 0]
  hout := fun _ => [.cells 164 (.cell (.val (.slice none 0 0)) .nil)]
def newGet (args : List (SV AA)) (_ : List (SO AA)) : Option Unit := match args with
  | [] => some ()
  | _ => none
def L63 : List (Nat × SpecT AA) := (56, tLent newLS newGet) :: L62
noncomputable def E63 : Eng AA := EE prog L63
theorem E63_eq : E63 = EE prog L63 := by
  unfold E63
  rfl
def wUintLS : LS AA where
  X := BN
  pre := BN.Low
  args := fun x => [.ptr 0 0, .int .u64 x.n]
  hin := fun x => [wcell 1, .ivec 5 .u8 x.xs]
  res := fun _ => [.ptr 0 0]
  hout := fun x => [wcell 2, .dead, .ivec 5 .u8 (x.xs ++ uintB x.n)]
/-- What a writer has laid. -/
def lineOf (sh : List (SO AA)) : SV AA → Option (List Int)
  | .ptr i _ => match nth sh i with
    | some (.cells _ (.cell s .nil)) => gI .u8 sh s
    | _ => none
  | _ => none
def wUintGet (args : List (SV AA)) (sh : List (SO AA)) : Option BN := match args with
  | [w, n] => match lineOf sh w, asU n with
    | some xs, some n => some ⟨xs, n⟩
    | _, _ => none
  | _ => none
def L64 : List (Nat × SpecT AA) := (57, tLent wUintLS wUintGet) :: L63
noncomputable def E64 : Eng AA := EE prog L64
theorem E64_eq : E64 = EE prog L64 := by
  unfold E64
  rfl
structure BH where
  xs : List Int
  h : List Int
structure BH.Ok (x : BH) : Prop where
  len : x.xs.length ≤ 1099511627776
  h : x.h.length = 32
def wHashLS : LS AA where
  X := BH
  pre := BH.Ok
  args := fun x => [.ptr 0 0, .agg (.run .u8 32 x.h .nil)]
  hin := fun x => [wcell 1, .ivec 5 .u8 x.xs]
  res := fun _ => [.ptr 0 0]
  hout := fun x => [wcell 2, .dead, .ivec 5 .u8 (x.xs ++ x.h)]
def asH : SV AA → Option (List Int)
  | .agg (.run .u8 _ h .nil) => some h
  | _ => none
def wHashGet (args : List (SV AA)) (sh : List (SO AA)) : Option BH := match args with
  | [w, h] => match lineOf sh w, asH h with
    | some xs, some h => some ⟨xs, h⟩
    | _, _ => none
  | _ => none
def L65 : List (Nat × SpecT AA) := (58, tLent wHashLS wHashGet) :: L64
noncomputable def E65 : Eng AA := EE prog L65
theorem E65_eq : E65 = EE prog L65 := by
  unfold E65
  rfl
def cloneULS : LS AA where
  X := List Int
  pre := fun xs => xs.length ≤ 1099511627776
  args := fun xs => [.rints .u8 xs]
  hin := fun _ => []
  res := fun _ => [.vec 0]
  hout := fun xs => [.ivec 5 .u8 xs]
def u8sGet (args : List (SV AA)) (sh : List (SO AA)) : Option (List Int) := match args with
  | [s] => gI .u8 sh s
  | _ => none
def L66 : List (Nat × SpecT AA) := (100, tLent cloneULS u8sGet) :: L65
noncomputable def E66 : Eng AA := EE prog L66
theorem E66_eq : E66 = EE prog L66 := by
  unfold E66
  rfl
def wDoneLS : LS AA where
  X := List Int
  pre := fun xs => xs.length ≤ 1099511627776
  args := fun _ => [.ptr 0 0]
  hin := fun xs => [wcell 1, .ivec 5 .u8 xs]
  res := fun _ => [.vec 2]
  hout := fun xs => [wcell 1, .ivec 5 .u8 xs, .ivec 5 .u8 xs]
def wDoneGet (args : List (SV AA)) (sh : List (SO AA)) : Option (List Int) := match args with
  | [w] => lineOf sh w
  | _ => none
def L67 : List (Nat × SpecT AA) := (60, tLent wDoneLS wDoneGet) :: L66
noncomputable def E67 : Eng AA := EE prog L67
theorem E67_eq : E67 = EE prog L67 := by
  unfold E67
  rfl
/-- Room for so many, behind nothing. -/
def growLS : LS AA where
  X := Int
  pre := fun n => 0 ≤ n ∧ n ≤ 1099511627776
  args := fun n => [.val (.slice none 0 0), .int .i64 n]
  hin := fun _ => []
  res := fun _ => [.vec 0]
  hout := fun _ => [.ivec 5 .u8 []]
def growGet (args : List (SV AA)) (_ : List (SO AA)) : Option Int := match args with
  | [_, n] => asI n
  | _ => none
def L68 : List (Nat × SpecT AA) := (99, tLent growLS growGet) :: L67
noncomputable def E68 : Eng AA := EE prog L68
theorem E68_eq : E68 = EE prog L68 := by
  unfold E68
  rfl
def flat : List (List Int) → List Int
  | [] => []
  | x :: l => x ++ flat l
structure LL (l : List (List Int)) : Prop where
  n : l.length ≤ 1000
  len : (flat l).length ≤ 1099511627776
def concatLS : LS AA where
  X := List (List Int)
  pre := LL
  args := fun l => [.rseq 26 (show List (AA 26) from l)]
  hin := fun _ => []
  res := fun _ => [.vec 0]
  hout := fun l => [.ivec 5 .u8 (flat l)]
def concatGet (args : List (SV AA)) (sh : List (SO AA)) : Option (List (List Int)) := match args with
  | [s] => seqOfS 26 sh s
  | _ => none
def concatAnn (l : List (List Int)) : Anns AA := fun k _ _ => if k = 4 then some {
    X := Nat
    inv := fun i => i ≤ l.length
    meas := fun i => l.length - i
    slots := fun i => [(11, .int .i64 i), (3, .int .i64 ((flat (l.take i)).length : Nat))]
    heap := fun _ => [] }
  else some {
    X := Nat
    inv := fun i => i ≤ l.length
    meas := fun i => l.length - i
    slots := fun i => [(27, .int .i64 i), (6, .vec 1)]
    heap := fun _ => [(0, .dead)]
    more := fun i => [.ivec 5 .u8 (flat (l.take i))] }
def L69 : List (Nat × SpecT AA) := (59, tLent concatLS concatGet) :: L68
noncomputable def E69 : Eng AA := EE prog L69
theorem E69_eq : E69 = EE prog L69 := by
  unfold E69
  rfl
/-! ## The document's -/
def digitsLS : LS AA where
  X := Int
  pre := U64
  args := fun n => [.int .u64 n]
  hin := fun _ => []
  res := fun n => [.rints .u8 (digs n)]
  hout := fun _ => []
def digitsAnn (n : Int) : Anns AA := fun _ _ _ => some {
  X := Nat
  inv := fun i => i ≤ (digs n).length
  meas := fun i => (digs n).length - i
  slots := fun i => [(0, .int .u64 ((n.toNat / 256 ^ i : Nat) : Int)), (3, .rints .u8 ((digs n).drop ((digs n).length - i)))]
  heap := fun _ => [] }
def L70 : List (Nat × SpecT AA) := (101, tLent digitsLS u64Get) :: L69
noncomputable def E70 : Eng AA := EE prog L70
theorem E70_eq : E70 = EE prog L70 := by
  unfold E70
  rfl
def ownULS : LS AA where
  X := List Int
  pre := fun xs => xs.length ≤ 1099511627776
  args := fun xs => [.rints .u8 xs]
  hin := fun _ => []
  res := fun _ => [.vec 0]
  hout := fun xs => [.ivec 5 .u8 xs]
def L71 : List (Nat × SpecT AA) := (102, tLent ownULS u8sGet) :: L70
noncomputable def E71 : Eng AA := EE prog L71
theorem E71_eq : E71 = EE prog L71 := by
  unfold E71
  rfl
def rUintLS : LS AA where
  X := BN
  pre := BN.Low
  args := fun x => [.rints .u8 x.xs, .int .u64 x.n]
  hin := fun _ => []
  res := fun _ => [.vec 0]
  hout := fun x => [.ivec 5 .u8 (x.xs ++ uintB x.n)]
def rUintGet (args : List (SV AA)) (sh : List (SO AA)) : Option BN := match args with
  | [s, n] => match gI .u8 sh s, asU n with
    | some xs, some n => some ⟨xs, n⟩
    | _, _ => none
  | _ => none
def L72 : List (Nat × SpecT AA) := (61, tLent rUintLS rUintGet) :: L71
noncomputable def E72 : Eng AA := EE prog L72
theorem E72_eq : E72 = EE prog L72 := by
  unfold E72
  rfl
def rHashLS : LS AA where
  X := BH
  pre := BH.Ok
  args := fun x => [.rints .u8 x.xs, .agg (.run .u8 32 x.h .nil)]
  hin := fun _ => []
  res := fun _ => [.vec 0]
  hout := fun x => [.ivec 5 .u8 (x.xs ++ x.h)]
def rHashGet (args : List (SV AA)) (sh : List (SO AA)) : Option BH := match args with
  | [s, h] => match gI .u8 sh s, asH h with
    | some xs, some h => some ⟨xs, h⟩
    | _, _ => none
  | _ => none
def L73 : List (Nat × SpecT AA) := (62, tLent rHashLS rHashGet) :: L72
noncomputable def E73 : Eng AA := EE prog L73
theorem E73_eq : E73 = EE prog L73 := by
  unfold E73
  rfl
end Go.Proofs.YtcglahfmnoghjaaDoor

/-! Numbers laid as bytes: plain laws; what was said of the program and of the document holds. Conditions: none. -/
namespace Go.Proofs.YtcglahfmnoghjaaDoor
open Go Go.Eng Go.Proofs.Tryd

def tabL : List UInt8 := (([(0 : UInt8), (1 : UInt8), (2 : UInt8), (2 : UInt8), (3 : UInt8), (3 : UInt8), (3 : UInt8), (3 : UInt8), (4 : UInt8), (4 : UInt8), (4 : UInt8), (4 :
  UInt8), (4 : UInt8), (4 : UInt8), (4 : UInt8), (4 : UInt8), (5 : UInt8), (5 : UInt8), (5 : UInt8), (5 : UInt8), (5 : UInt8), (5 : UInt8), (5 : UInt8),
  (5 : UInt8), (5 : UInt8), (5 : UInt8), (5 : UInt8), (5 : UInt8), (5 : UInt8), (5 : UInt8), (5 : UInt8), (5 : UInt8), (6 : UInt8), (6 : UInt8), (6 :
  UInt8), (6 : UInt8), (6 : UInt8), (6 : UInt8), (6 : UInt8), (6 : UInt8), (6 : UInt8), (6 : UInt8), (6 : UInt8), (6 : UInt8), (6 : UInt8), (6 : UInt8),
  (6 : UInt8), (6 : UInt8), (6 : UInt8), (6 : UInt8), (6 : UInt8), (6 : UInt8), (6 : UInt8), (6 : UInt8), (6 : UInt8), (6 : UInt8), (6 : UInt8), (6 :
  UInt8), (6 : UInt8), (6 : UInt8), (6 : UInt8), (6 : UInt8), (6 : UInt8), (6 : UInt8)].append [(7 : UInt8), (7 : UInt8), (7 : UInt8), (7 : UInt8), (7 :
  UInt8), (7 : UInt8), (7 : UInt8), (7 : UInt8), (7 : UInt8), (7 : UInt8), (7 : UInt8), (7 : UInt8), (7 : UInt8), (7 : UInt8), (7 : UInt8), (7 : UInt8),
  (7 : UInt8), (7 : UInt8), (7 : UInt8), (7 : UInt8), (7 : UInt8), (7 : UInt8), (7 : UInt8), (7 : UInt8), (7 : UInt8), (7 : UInt8), (7 : UInt8), (7 :
  UInt8), (7 : UInt8), (7 : UInt8), (7 : UInt8), (7 : UInt8), (7 : UInt8), (7 : UInt8), (7 : UInt8), (7 : UInt8), (7 : UInt8), (7 : UInt8), (7 : UInt8),
  (7 : UInt8), (7 : UInt8), (7 : UInt8), (7 : UInt8), (7 : UInt8), (7 : UInt8), (7 : UInt8), (7 : UInt8), (7 : UInt8), (7 : UInt8), (7 : UInt8), (7 :
  UInt8), (7 : UInt8), (7 : UInt8), (7 : UInt8), (7 : UInt8), (7 : UInt8), (7 : UInt8), (7 : UInt8), (7 : UInt8), (7 : UInt8), (7 : UInt8), (7 : UInt8),
  (7 : UInt8), (7 : UInt8)]).append ([(8 : UInt8), (8 : UInt8), (8 : UInt8), (8 : UInt8), (8 : UInt8), (8 : UInt8), (8 : UInt8), (8 : UInt8), (8 :
  UInt8), (8 : UInt8), (8 : UInt8), (8 : UInt8), (8 : UInt8), (8 : UInt8), (8 : UInt8), (8 : UInt8), (8 : UInt8), (8 : UInt8), (8 : UInt8), (8 : UInt8),
  (8 : UInt8), (8 : UInt8), (8 : UInt8), (8 : UInt8), (8 : UInt8), (8 : UInt8), (8 : UInt8), (8 : UInt8), (8 : UInt8), (8 : UInt8), (8 : UInt8), (8 :
  UInt8), (8 : UInt8), (8 : UInt8), (8 : UInt8), (8 : UInt8), (8 : UInt8), (8 : UInt8), (8 : UInt8), (8 : UInt8), (8 : UInt8), (8 : UInt8), (8 : UInt8),
  (8 : UInt8), (8 : UInt8), (8 : UInt8), (8 : UInt8), (8 : UInt8), (8 : UInt8), (8 : UInt8), (8 : UInt8), (8 : UInt8), (8 : UInt8), (8 : UInt8), (8 :
  UInt8), (8 : UInt8), (8 : UInt8), (8 : UInt8), (8 : UInt8), (8 : UInt8), (8 : UInt8), (8 : UInt8), (8 : UInt8), (8 : UInt8)].append [(8 : UInt8), (8 :
  UInt8), (8 : UInt8), (8 : UInt8), (8 : UInt8), (8 : UInt8), (8 : UInt8), (8 : UInt8), (8 : UInt8), (8 : UInt8), (8 : UInt8), (8 : UInt8), (8 : UInt8),
  (8 : UInt8), (8 : UInt8), (8 : UInt8), (8 : UInt8), (8 : UInt8), (8 : UInt8), (8 : UInt8), (8 : UInt8), (8 : UInt8), (8 : UInt8), (8 : UInt8), (8 :
  UInt8), (8 : UInt8), (8 : UInt8), (8 : UInt8), (8 : UInt8), (8 : UInt8), (8 : UInt8), (8 : UInt8), (8 : UInt8), (8 : UInt8), (8 : UInt8), (8 : UInt8),
  (8 : UInt8), (8 : UInt8), (8 : UInt8), (8 : UInt8), (8 : UInt8), (8 : UInt8), (8 : UInt8), (8 : UInt8), (8 : UInt8), (8 : UInt8), (8 : UInt8), (8 :
  UInt8), (8 : UInt8), (8 : UInt8), (8 : UInt8), (8 : UInt8), (8 : UInt8), (8 : UInt8), (8 : UInt8), (8 : UInt8), (8 : UInt8), (8 : UInt8), (8 : UInt8),
  (8 : UInt8), (8 : UInt8), (8 : UInt8), (8 : UInt8), (8 : UInt8)]))
def tab8 : ByteArray := ByteArray.mk tabL.toArray

/-! ## Plain laws -/
theorem bitlen_le (n k : Nat) : bitlen n ≤ k ↔ n < 2 ^ k := by
  unfold bitlen
  split
  · rename_i h
    subst h
    exact ⟨fun _ => Nat.two_pow_pos k, fun _ => Nat.zero_le _⟩
  · rename_i h
    exact Nat.log2_lt h
theorem bitlen_shift {n k : Nat} (h : n / 2 ^ k ≠ 0) : bitlen n = bitlen (n / 2 ^ k) + k := by
  have key : ∀ j, bitlen n ≤ j ↔ bitlen (n / 2 ^ k) + k ≤ j := by
    intro j
    rw [bitlen_le]
    rcases Nat.lt_or_ge j k with hj | hj
    · constructor
      · intro h1
        exact absurd (Nat.div_eq_of_lt (Nat.lt_of_lt_of_le h1 (Nat.pow_le_pow_right (by decide) (Nat.le_of_lt hj)))) h
      · intro h1; omega
    · obtain ⟨i, rfl⟩ : ∃ i, j = i + k := ⟨j - k, by omega⟩
      rw [Nat.add_le_add_iff_right, bitlen_le, Nat.div_lt_iff_lt_mul (Nat.two_pow_pos k), Nat.pow_add]
  have h1 := (key (bitlen (n / 2 ^ k) + k)).2 (Nat.le_refl _)
  have h2 := (key (bitlen n)).1 (Nat.le_refl _)
  omega
theorem bitlen_zero : bitlen 0 = 0 := rfl
theorem bitlen_pos {n : Nat} (h : n ≠ 0) : 1 ≤ bitlen n := by
  unfold bitlen
  rw [if_neg h]
  omega
theorem digsF_len : ∀ (f n : Nat), n < 256 ^ f → (digsF f n).length = (bitlen n + 7) / 8
  | 0, n, h => by
    have h0 : n = 0 := by simpa using h
    subst h0
    rfl
  | f + 1, n, h => by
    unfold digsF
    split
    · rename_i h0
      subst h0
      rfl
    · rename_i h0
      rw [List.length_append, digsF_len f (n / 256) (by rw [Nat.pow_succ] at h; exact Nat.div_lt_of_lt_mul (by rw [Nat.mul_comm]; exact h)), List.length_singleton]
      by_cases h1 : n / 256 = 0
      · have h2 : bitlen n ≤ 8 := (bitlen_le n 8).2 (by omega)
        have h3 := bitlen_pos h0
        rw [h1, bitlen_zero]
        omega
      · have h2 := bitlen_shift (n := n) (k := 8) (by simpa using h1)
        simp only [Nat.reducePow] at h2
        omega
theorem digsF_get : ∀ (f n i : Nat), n < 256 ^ f → i < (digsF f n).length → (digsF f n).getD i 0 = ((n / 256 ^ ((digsF f n).length - 1 - i) % 256 : Nat) : Int)
  | 0, n, i, h, hi => by simp [digsF] at hi
  | f + 1, n, i, h, hi => by
    unfold digsF at hi ⊢
    split at hi
    · simp at hi
    · rename_i h0
      rw [if_neg h0]
      have hn : n / 256 < 256 ^ f := by rw [Nat.pow_succ] at h; exact Nat.div_lt_of_lt_mul (by rw [Nat.mul_comm]; exact h)
      have ih := digsF_get f (n / 256) i hn
      generalize digsF f (n / 256) = D at hi ih ⊢
      simp only [List.length_append, List.length_singleton] at hi ⊢
      rw [List.getD_eq_getElem?_getD]
      rcases Nat.lt_or_ge i D.length with hd | hd
      · rw [List.getElem?_append_left hd, ← List.getD_eq_getElem?_getD, ih hd, Nat.div_div_eq_div_mul, ← Nat.pow_succ', show D.length + 1 - 1 - i = D.length - 1 - i + 1 from by omega]
      · have e : i = D.length := by omega
        subst e
        rw [List.getElem?_append_right (Nat.le_refl _)]
        simp
theorem u64_lt {n : Int} (h : U64 n) : n.toNat < 256 ^ 8 := by
  have h1 := h.lo
  have h2 := h.hi
  have e : (256 : Nat) ^ 8 = 18446744073709551616 := by decide
  rw [e]
  omega
theorem digs_len {n : Int} (h : U64 n) : (digs n).length = (bitlen n.toNat + 7) / 8 := digsF_len 8 _ (u64_lt h)
theorem digs_le {n : Int} (h : U64 n) : (digs n).length ≤ 8 := by
  rw [digs_len h]
  have h1 := u64_lt h
  have : bitlen n.toNat ≤ 64 := (bitlen_le _ 64).2 (by simpa using h1)
  omega
theorem digs_get {n : Int} (h : U64 n) {i : Nat} (hi : i < (digs n).length) : (digs n).getD i 0 = ((n.toNat / 256 ^ ((digs n).length - 1 - i) % 256 : Nat) : Int) := digsF_get 8 _ i (u64_lt h) hi
theorem pow256 (i : Nat) : 256 ^ i = 2 ^ (8 * i) := by
  rw [Nat.pow_mul]
theorem digs_lt {n : Int} (h : U64 n) (i : Nat) : i < (digs n).length ↔ 0 < n.toNat / 256 ^ i := by
  rw [digs_len h, pow256]
  have h1 := bitlen_le n.toNat (8 * i)
  have h2 := Nat.div_pos_iff (a := n.toNat) (b := 2 ^ (8 * i))
  have h3 := Nat.two_pow_pos (8 * i)
  constructor
  · intro h4
    refine h2.2 ⟨h3, ?_⟩
    have h5 : ¬ bitlen n.toNat ≤ 8 * i := by omega
    rw [h1] at h5
    omega
  · intro h4
    have h5 := (h2.1 h4).2
    have h6 : ¬ n.toNat < 2 ^ (8 * i) := by omega
    rw [← h1] at h6
    omega
theorem digs_byte {n : Int} {y : Int} (h : y ∈ digs n) : 0 ≤ y ∧ y < 256 := by
  have key : ∀ (f n : Nat) (y : Int), y ∈ digsF f n → 0 ≤ y ∧ y < 256 := by
    intro f
    induction f with
    | zero => intro n y h; simp [digsF] at h
    | succ f ih =>
      intro n y h
      unfold digsF at h
      split at h
      · simp at h
      · rcases List.mem_append.1 h with h | h
        · exact ih _ _ h
        · simp only [List.mem_singleton] at h
          omega
  exact key 8 _ _ h
theorem shr_nat (m k : Nat) (hk : k ≤ 64) : shr .u64 (m : Int) (k : Int) = ((m / 2 ^ k : Nat) : Int) := by
  unfold shr
  have e : min (k : Int).toNat IntKind.u64.bits = k := by
    simp only [Int.toNat_natCast]
    exact Nat.min_eq_left hk
  rw [e, Int.fdiv_eq_ediv_of_nonneg _ (Int.le_of_lt (Int.pow_pos (by decide)))]
  rw [Int.natCast_ediv, Int.natCast_pow]
  rfl
theorem xor_zero {x : Int} (h1 : 0 ≤ x) (h2 : x < 256) : bitop .xor .u8 x 0 = x := by
  have e : BitVec.ofInt 8 (0 : Int) = 0#8 := by decide
  show IntKind.u8.wrap (BitVec.ofInt 8 x ^^^ BitVec.ofInt 8 0).toNat = x
  rw [e, BitVec.xor_zero, BitVec.toNat_ofInt, IntKind.wrap_u8]
  omega

/-! ## The walks -/
theorem tab_at : ∀ j, j < 256 → (tabL.getD j 0).toNat = bitlen j := of_decide_eq_true (by kernel_rfl)
theorem tab_size : tab8.size = 256 := by kernel_rfl
theorem len_leaf {q c b : Nat} (hq : q < 256) (hc : c ≤ 56) (hb : b = c + bitlen q) {cI : Int} (hcI : cI = (c : Int)) :
    (0 : Int) ≤ wr .u8 (q : Int) ∧ wr .u8 (q : Int) < ((tab8.size : Nat) : Int) ∧ inI64 (cI + wr .i64 (((tabL.getD (wr .u8 (q : Int)).toNat 0).toNat : Nat) : Int)) ∧
      ((b : Nat) : Int) = cI + wr .i64 (((tabL.getD (wr .u8 (q : Int)).toNat 0).toNat : Nat) : Int) ∧ True ∧ True := by
  have e : wr .u8 (q : Int) = q := by rw [wr8]; omega
  have h8 : bitlen q ≤ 8 := (bitlen_le q 8).2 hq
  rw [e, Int.toNat_natCast, tab_at q hq, tab_size, wr64 (by unfold inI64; omega)]
  exact ⟨by omega, by omega, by unfold inI64; omega, by omega, trivial, trivial⟩
def len64VC : Prop := ∀ (x : Int), U64 x → (decide (x ≥ (4294967296 : Int)) = true → (0 : Int) ≤ (32 : Int) ∧ (decide (shr IntKind.u64 x (32 : Int) ≥ (65536 : Int)) = true →
  (0 : Int) ≤ (16 : Int) ∧ (decide (shr IntKind.u64 (shr IntKind.u64 x (32 : Int)) (16 : Int) ≥ (256 : Int)) = true → (0 : Int) ≤ (8 : Int) ∧ (0 : Int) ≤
  wr IntKind.u8 (shr IntKind.u64 (shr IntKind.u64 (shr IntKind.u64 x (32 : Int)) (16 : Int)) (8 : Int)) ∧ wr IntKind.u8 (shr IntKind.u64 (shr IntKind.u64
  (shr IntKind.u64 x (32 : Int)) (16 : Int)) (8 : Int)) < (↑tab8.size : Int) ∧ inI64 (wr IntKind.i64 (wr IntKind.i64 ((32 : Int) + (16 : Int)) + (8 :
  Int)) + wr IntKind.i64 (↑(tabL.getD (wr IntKind.u8 (shr IntKind.u64 (shr IntKind.u64 (shr IntKind.u64 x (32 : Int)) (16 : Int)) (8 : Int))).toNat (0 :
  UInt8)).toNat : Int)) ∧ (↑(bitlen x.toNat) : Int) = wr IntKind.i64 (wr IntKind.i64 ((32 : Int) + (16 : Int)) + (8 : Int)) + wr IntKind.i64 (↑(tabL.getD
  (wr IntKind.u8 (shr IntKind.u64 (shr IntKind.u64 (shr IntKind.u64 x (32 : Int)) (16 : Int)) (8 : Int))).toNat (0 : UInt8)).toNat : Int) ∧ True ∧ True)
  ∧ (decide (shr IntKind.u64 (shr IntKind.u64 x (32 : Int)) (16 : Int) ≥ (256 : Int)) = false → (0 : Int) ≤ wr IntKind.u8 (shr IntKind.u64 (shr
  IntKind.u64 x (32 : Int)) (16 : Int)) ∧ wr IntKind.u8 (shr IntKind.u64 (shr IntKind.u64 x (32 : Int)) (16 : Int)) < (↑tab8.size : Int) ∧ inI64 (wr
  IntKind.i64 ((32 : Int) + (16 : Int)) + wr IntKind.i64 (↑(tabL.getD (wr IntKind.u8 (shr IntKind.u64 (shr IntKind.u64 x (32 : Int)) (16 : Int))).toNat
  (0 : UInt8)).toNat : Int)) ∧ (↑(bitlen x.toNat) : Int) = wr IntKind.i64 ((32 : Int) + (16 : Int)) + wr IntKind.i64 (↑(tabL.getD (wr IntKind.u8 (shr
  IntKind.u64 (shr IntKind.u64 x (32 : Int)) (16 : Int))).toNat (0 : UInt8)).toNat : Int) ∧ True ∧ True)) ∧ (decide (shr IntKind.u64 x (32 : Int) ≥
  (65536 : Int)) = false → (decide (shr IntKind.u64 x (32 : Int) ≥ (256 : Int)) = true → (0 : Int) ≤ (8 : Int) ∧ (0 : Int) ≤ wr IntKind.u8 (shr
  IntKind.u64 (shr IntKind.u64 x (32 : Int)) (8 : Int)) ∧ wr IntKind.u8 (shr IntKind.u64 (shr IntKind.u64 x (32 : Int)) (8 : Int)) < (↑tab8.size : Int) ∧
  inI64 (wr IntKind.i64 ((32 : Int) + (8 : Int)) + wr IntKind.i64 (↑(tabL.getD (wr IntKind.u8 (shr IntKind.u64 (shr IntKind.u64 x (32 : Int)) (8 :
  Int))).toNat (0 : UInt8)).toNat : Int)) ∧ (↑(bitlen x.toNat) : Int) = wr IntKind.i64 ((32 : Int) + (8 : Int)) + wr IntKind.i64 (↑(tabL.getD (wr
  IntKind.u8 (shr IntKind.u64 (shr IntKind.u64 x (32 : Int)) (8 : Int))).toNat (0 : UInt8)).toNat : Int) ∧ True ∧ True) ∧ (decide (shr IntKind.u64 x (32
  : Int) ≥ (256 : Int)) = false → (0 : Int) ≤ wr IntKind.u8 (shr IntKind.u64 x (32 : Int)) ∧ wr IntKind.u8 (shr IntKind.u64 x (32 : Int)) < (↑tab8.size :
  Int) ∧ inI64 ((32 : Int) + wr IntKind.i64 (↑(tabL.getD (wr IntKind.u8 (shr IntKind.u64 x (32 : Int))).toNat (0 : UInt8)).toNat : Int)) ∧ (↑(bitlen
  x.toNat) : Int) = (32 : Int) + wr IntKind.i64 (↑(tabL.getD (wr IntKind.u8 (shr IntKind.u64 x (32 : Int))).toNat (0 : UInt8)).toNat : Int) ∧ True ∧
  True))) ∧ (decide (x ≥ (4294967296 : Int)) = false → (decide (x ≥ (65536 : Int)) = true → (0 : Int) ≤ (16 : Int) ∧ (decide (shr IntKind.u64 x (16 :
  Int) ≥ (256 : Int)) = true → (0 : Int) ≤ (8 : Int) ∧ (0 : Int) ≤ wr IntKind.u8 (shr IntKind.u64 (shr IntKind.u64 x (16 : Int)) (8 : Int)) ∧ wr
  IntKind.u8 (shr IntKind.u64 (shr IntKind.u64 x (16 : Int)) (8 : Int)) < (↑tab8.size : Int) ∧ inI64 (wr IntKind.i64 (wr IntKind.i64 ((0 : Int) + (16 :
  Int)) + (8 : Int)) + wr IntKind.i64 (↑(tabL.getD (wr IntKind.u8 (shr IntKind.u64 (shr IntKind.u64 x (16 : Int)) (8 : Int))).toNat (0 : UInt8)).toNat :
  Int)) ∧ (↑(bitlen x.toNat) : Int) = wr IntKind.i64 (wr IntKind.i64 ((0 : Int) + (16 : Int)) + (8 : Int)) + wr IntKind.i64 (↑(tabL.getD (wr IntKind.u8
  (shr IntKind.u64 (shr IntKind.u64 x (16 : Int)) (8 : Int))).toNat (0 : UInt8)).toNat : Int) ∧ True ∧ True) ∧ (decide (shr IntKind.u64 x (16 : Int) ≥
  (256 : Int)) = false → (0 : Int) ≤ wr IntKind.u8 (shr IntKind.u64 x (16 : Int)) ∧ wr IntKind.u8 (shr IntKind.u64 x (16 : Int)) < (↑tab8.size : Int) ∧
  inI64 (wr IntKind.i64 ((0 : Int) + (16 : Int)) + wr IntKind.i64 (↑(tabL.getD (wr IntKind.u8 (shr IntKind.u64 x (16 : Int))).toNat (0 : UInt8)).toNat :
  Int)) ∧ (↑(bitlen x.toNat) : Int) = wr IntKind.i64 ((0 : Int) + (16 : Int)) + wr IntKind.i64 (↑(tabL.getD (wr IntKind.u8 (shr IntKind.u64 x (16 :
  Int))).toNat (0 : UInt8)).toNat : Int) ∧ True ∧ True)) ∧ (decide (x ≥ (65536 : Int)) = false → (decide (x ≥ (256 : Int)) = true → (0 : Int) ≤ (8 : Int)
  ∧ (0 : Int) ≤ wr IntKind.u8 (shr IntKind.u64 x (8 : Int)) ∧ wr IntKind.u8 (shr IntKind.u64 x (8 : Int)) < (↑tab8.size : Int) ∧ inI64 (wr IntKind.i64
  ((0 : Int) + (8 : Int)) + wr IntKind.i64 (↑(tabL.getD (wr IntKind.u8 (shr IntKind.u64 x (8 : Int))).toNat (0 : UInt8)).toNat : Int)) ∧ (↑(bitlen
  x.toNat) : Int) = wr IntKind.i64 ((0 : Int) + (8 : Int)) + wr IntKind.i64 (↑(tabL.getD (wr IntKind.u8 (shr IntKind.u64 x (8 : Int))).toNat (0 :
  UInt8)).toNat : Int) ∧ True ∧ True) ∧ (decide (x ≥ (256 : Int)) = false → (0 : Int) ≤ wr IntKind.u8 x ∧ wr IntKind.u8 x < (↑tab8.size : Int) ∧ inI64
  ((0 : Int) + wr IntKind.i64 (↑(tabL.getD (wr IntKind.u8 x).toNat (0 : UInt8)).toNat : Int)) ∧ (↑(bitlen x.toNat) : Int) = (0 : Int) + wr IntKind.i64
  (↑(tabL.getD (wr IntKind.u8 x).toNat (0 : UInt8)).toNat : Int) ∧ True ∧ True)))

theorem len64_eq : len64VC = fnS E49 f128 (bodyOf f128) len64LS noAnn := by kernel_rfl
theorem len64_vc : len64VC := by
  intro x hx
  obtain ⟨m, rfl⟩ : ∃ m : Nat, x = m := ⟨x.toNat, by have := hx.lo; omega⟩
  have hm : m < 18446744073709551616 := by have := hx.hi; omega
  have s32 : ∀ q : Nat, shr .u64 (q : Int) 32 = ((q / 4294967296 : Nat) : Int) := fun q => shr_nat q 32 (by decide)
  have s16 : ∀ q : Nat, shr .u64 (q : Int) 16 = ((q / 65536 : Nat) : Int) := fun q => shr_nat q 16 (by decide)
  have s8 : ∀ q : Nat, shr .u64 (q : Int) 8 = ((q / 256 : Nat) : Int) := fun q => shr_nat q 8 (by decide)
  have b32 : ∀ q : Nat, 4294967296 ≤ q → bitlen q = bitlen (q / 4294967296) + 32 := fun q h => bitlen_shift (n := q) (k := 32) (by show q / 4294967296 ≠ 0; omega)
  have b16 : ∀ q : Nat, 65536 ≤ q → bitlen q = bitlen (q / 65536) + 16 := fun q h => bitlen_shift (n := q) (k := 16) (by show q / 65536 ≠ 0; omega)
  have b8 : ∀ q : Nat, 256 ≤ q → bitlen q = bitlen (q / 256) + 8 := fun q h => bitlen_shift (n := q) (k := 8) (by show q / 256 ≠ 0; omega)
  simp only [s32, s16, s8, Int.toNat_natCast, decide_eq_true_eq, decide_eq_false_iff_not]
  refine ⟨fun h1 => ⟨by decide, fun h2 => ⟨by decide, fun h3 => ⟨by decide, ?_⟩, fun h3 => ?_⟩, fun h2 => ⟨fun h3 => ⟨by decide, ?_⟩, fun h3 => ?_⟩⟩, fun h1 => ⟨fun h2 => ⟨by decide, fun h3 => ⟨by decide, ?_⟩, fun h3 => ?_⟩, fun h2 => ⟨fun h3 => ⟨by decide, ?_⟩, fun h3 => ?_⟩⟩⟩
  · have e1 := b32 m (by omega)
    have e2 := b16 (m / 4294967296) (by omega)
    have e3 := b8 (m / 4294967296 / 65536) (by omega)
    exact len_leaf (c := 56) (by omega) (by decide) (by omega) (by decide)
  · have e1 := b32 m (by omega)
    have e2 := b16 (m / 4294967296) (by omega)
    exact len_leaf (c := 48) (by omega) (by decide) (by omega) (by decide)
  · have e1 := b32 m (by omega)
    have e3 := b8 (m / 4294967296) (by omega)
    exact len_leaf (c := 40) (by omega) (by decide) (by omega) (by decide)
  · have e1 := b32 m (by omega)
    exact len_leaf (c := 32) (by omega) (by decide) (by omega) (by decide)
  · have e2 := b16 m (by omega)
    have e3 := b8 (m / 65536) (by omega)
    exact len_leaf (c := 24) (by omega) (by decide) (by omega) (by decide)
  · have e2 := b16 m (by omega)
    exact len_leaf (c := 16) (by omega) (by decide) (by omega) (by decide)
  · have e3 := b8 m (by omega)
    exact len_leaf (c := 8) (by omega) (by decide) (by omega) (by decide)
  · exact len_leaf (c := 0) (by omega) (by decide) (by omega) (by decide)
theorem len64_ok : Fits E49 f128 (bodyOf f128) len64LS noAnn := by
  constructor
  rw [← len64_eq]
  exact len64_vc
theorem f128_has : Has prog 128 f128 (bodyOf f128) := ⟨by kernel_rfl, by kernel_rfl, by kernel_rfl⟩
theorem known60 : Known prog L60 := by
  unfold L60
  exact known49.lent mixed f128_has E49_eq len64_ok (fun _ _ => Nat.le_refl _) (fun _ _ => rfl)
def widthVC : Prop := ∀ (x : Int), U64 x → x = x ∧ True ∧ U64 x ∧ inI64 ((↑(bitlen x.toNat) : Int) + (7 : Int)) ∧ (8 : Int) ≠ (0 : Int) ∧ (↑(digs x).length : Int) = wr
  IntKind.i64 (((↑(bitlen x.toNat) : Int) + (7 : Int)).tdiv (8 : Int)) ∧ True ∧ True

theorem width_eq : widthVC = fnS E60 f98 (bodyOf f98) widthLS noAnn := by kernel_rfl
theorem width_vc : widthVC := by
  intro x hx
  have h1 : bitlen x.toNat ≤ 64 := (bitlen_le _ 64).2 (by simpa using u64_lt hx)
  refine ⟨rfl, trivial, hx, by unfold inI64; omega, by decide, ?_, trivial, trivial⟩
  rw [digs_len hx]
  have e : ((bitlen x.toNat : Nat) : Int) + 7 = ((bitlen x.toNat + 7 : Nat) : Int) := by omega
  rw [e, show ((bitlen x.toNat + 7 : Nat) : Int).tdiv 8 = (((bitlen x.toNat + 7) / 8 : Nat) : Int) from rfl, wr64 (by unfold inI64; omega)]
theorem width_ok : Fits E60 f98 (bodyOf f98) widthLS noAnn := by
  constructor
  rw [← width_eq]
  exact width_vc
theorem f98_has : Has prog 98 f98 (bodyOf f98) := ⟨by kernel_rfl, by kernel_rfl, by kernel_rfl⟩
theorem known61 : Known prog L61 := by
  unfold L61
  exact known60.lent mixed f98_has E60_eq width_ok (fun _ _ => Nat.le_refl _) (fun _ _ => rfl)
theorem digs_code {n : Int} (hn : U64 n) {i : Nat} (hi : i < (digs n).length) : bitop .xor .u8 (wr .u8 (shr .u64 n (8 * (((digs n).length : Int) - 1 - (i : Int))))) 0 = (digs n).getD i 0 := by
  have h8 := digs_le hn
  obtain ⟨m, rfl⟩ : ∃ m : Nat, n = m := ⟨n.toNat, by have := hn.lo; omega⟩
  rw [digs_get hn hi, Int.toNat_natCast]
  have e : 8 * (((digs (m : Int)).length : Int) - 1 - (i : Int)) = ((8 * ((digs (m : Int)).length - 1 - i) : Nat) : Int) := by omega
  rw [e, shr_nat _ _ (by omega), ← pow256, wr8, xor_zero (Int.emod_nonneg _ (by decide)) (Int.emod_lt_of_pos _ (by decide))]
  omega
def highVC : Prop := ∀ (x : BN), x.Ok → x.n = x.n ∧ True ∧ U64 x.n ∧ inI64 ((↑(digs x.n).length : Int) - (1 : Int)) ∧ (∃ x_1, Nat.le x_1 (digs x.n).length ∧ (True ∧ (↑(digs
  x.n).length : Int) - (1 : Int) - (↑x_1 : Int) = (↑(digs x.n).length : Int) - (1 : Int)) ∧ True ∧ x.xs ++ List.take x_1 (digs x.n) = x.xs ∧ True) ∧ ∀
  (x_1 : Nat), x_1.le (digs x.n).length → (decide ((↑(digs x.n).length : Int) - (1 : Int) - (↑x_1 : Int) ≥ (0 : Int)) = true → inI64 ((8 : Int) *
  ((↑(digs x.n).length : Int) - (1 : Int) - (↑x_1 : Int))) ∧ (0 : Int) ≤ (8 : Int) * ((↑(digs x.n).length : Int) - (1 : Int) - (↑x_1 : Int)) ∧ ((x.xs ++
  List.take x_1 (digs x.n)).length + [bitop BinOp.xor IntKind.u8 (wr IntKind.u8 (shr IntKind.u64 x.n ((8 : Int) * ((↑(digs x.n).length : Int) - (1 : Int)
  - (↑x_1 : Int))))) (0 : Int)].length) * (1 : Nat) ≤ (140737488355328 : Nat) ∧ (x.xs ++ List.take x_1 (digs x.n)).length + [bitop BinOp.xor IntKind.u8
  (wr IntKind.u8 (shr IntKind.u64 x.n ((8 : Int) * ((↑(digs x.n).length : Int) - (1 : Int) - (↑x_1 : Int))))) (0 : Int)].length ≤ (1152921504606846976 :
  Nat) ∧ inI64 ((↑(digs x.n).length : Int) - (1 : Int) - (↑x_1 : Int) - (1 : Int)) ∧ ∃ y, Nat.le y (digs x.n).length ∧ (digs x.n).length - y < (digs
  x.n).length - x_1 ∧ (True ∧ (↑(digs x.n).length : Int) - (1 : Int) - (↑y : Int) = (↑(digs x.n).length : Int) - (1 : Int) - (↑x_1 : Int) - (1 : Int)) ∧
  True ∧ x.xs ++ List.take y (digs x.n) = x.xs ++ List.take x_1 (digs x.n) ++ [bitop BinOp.xor IntKind.u8 (wr IntKind.u8 (shr IntKind.u64 x.n ((8 : Int)
  * ((↑(digs x.n).length : Int) - (1 : Int) - (↑x_1 : Int))))) (0 : Int)] ∧ True) ∧ (decide ((↑(digs x.n).length : Int) - (1 : Int) - (↑x_1 : Int) ≥ (0 :
  Int)) = false → True ∧ True ∧ x.xs ++ digs x.n = x.xs ++ List.take x_1 (digs x.n) ∧ True)

theorem high_eq : highVC = fnS E61 f97 (bodyOf f97) highLS highAnn := by kernel_rfl
theorem high_vc : highVC := by
  rintro ⟨xs, n⟩ ⟨hl, hn⟩
  simp only at hl hn
  have h8 := digs_le hn
  simp only [true_and, and_true, decide_eq_true_eq, decide_eq_false_iff_not, List.length_append, List.length_singleton, List.length_take]
  refine ⟨hn, by unfold inI64; omega, ⟨0, Nat.zero_le _, by omega, by simp⟩, fun i hi => ⟨fun h => ?_, fun h => ?_⟩⟩
  · have hi' : i < (digs n).length := by omega
    refine ⟨by unfold inI64; omega, by omega, by omega, by omega, by unfold inI64; omega, i + 1, hi', by omega, by omega, ?_⟩
    rw [digs_code hn hi', take_up hi' rfl, List.append_assoc]
  · have hi' : (digs n).length ≤ i := by omega
    rw [List.take_of_length_le hi']
theorem high_ok : Fits E61 f97 (bodyOf f97) highLS highAnn := by
  constructor
  rw [← high_eq]
  exact high_vc
theorem f97_has : Has prog 97 f97 (bodyOf f97) := ⟨by kernel_rfl, by kernel_rfl, by kernel_rfl⟩
theorem known62 : Known prog L62 := by
  unfold L62
  exact known61.lent mixed f97_has E61_eq high_ok (fun _ _ => by simp [highLS]) (fun h => by cases h)
def wnewVC : Prop := ∀ (_ : Unit), True → True ∧ True ∧ ((SV.val (A := AA) (Value.slice none (0 : Nat) (0 : Nat)) : SV AA) = SV.val (A := AA) (Value.slice none (0 : Nat) (0
  : Nat)) ∧ True) ∧ True

theorem wnew_eq : wnewVC = fnS E62 f56 (bodyOf f56) newLS noAnn := by kernel_rfl
theorem wnew_ok : Fits E62 f56 (bodyOf f56) newLS noAnn := by
  constructor
  rw [← wnew_eq]
  exact fun _ _ => ⟨trivial, trivial, ⟨rfl, trivial⟩, trivial⟩
theorem f56_has : Has prog 56 f56 (bodyOf f56) := ⟨by kernel_rfl, by kernel_rfl, by kernel_rfl⟩
theorem known63 : Known prog L63 := by
  unfold L63
  exact known62.lent mixed f56_has E62_eq wnew_ok (fun _ _ => Nat.zero_le _) (fun _ _ => rfl)
def wUintVC : Prop := ∀ (x : BN), x.Low → x.n = x.n ∧ True ∧ U64 x.n ∧ (x.xs.length + [wr IntKind.u8 (↑(digs x.n).length : Int)].length) * (1 : Nat) ≤ (140737488355328 :
  Nat) ∧ x.xs.length + [wr IntKind.u8 (↑(digs x.n).length : Int)].length ≤ (1152921504606846976 : Nat) ∧ (True ∧ x.n = x.n ∧ (0 : Int) = (0 : Int)) ∧
  (x.xs ++ [wr IntKind.u8 (↑(digs x.n).length : Int)] = x.xs ++ [wr IntKind.u8 (↑(digs x.n).length : Int)] ∧ True) ∧ (BN.mk (x.xs ++ [wr IntKind.u8
  (↑(digs x.n).length : Int)]) x.n).Ok ∧ True ∧ ((True ∧ True) ∧ True) ∧ x.xs ++ uintB x.n = x.xs ++ [wr IntKind.u8 (↑(digs x.n).length : Int)] ++ digs
  x.n ∧ True

theorem wUint_eq : wUintVC = fnS E63 f57 (bodyOf f57) wUintLS noAnn := by kernel_rfl
theorem wUint_vc : wUintVC := by
  rintro ⟨xs, n⟩ ⟨hl, hn⟩
  simp only at hl hn
  have h8 := digs_le hn
  have e : wr .u8 ((digs n).length : Int) = ((digs n).length : Int) := by rw [wr8]; omega
  simp only [e, true_and, and_true, List.length_singleton, uintB, List.append_assoc, List.singleton_append]
  exact ⟨hn, by omega, by omega, ⟨by simp only [List.length_append, List.length_singleton]; omega, hn⟩⟩
theorem wUint_ok : Fits E63 f57 (bodyOf f57) wUintLS noAnn := by
  constructor
  rw [← wUint_eq]
  exact wUint_vc
theorem f57_has : Has prog 57 f57 (bodyOf f57) := ⟨by kernel_rfl, by kernel_rfl, by kernel_rfl⟩
theorem known64 : Known prog L64 := by
  unfold L64
  exact known63.lent mixed f57_has E63_eq wUint_ok (fun _ _ => by simp [wUintLS]) (fun h => by cases h)
def wHashVC : Prop := ∀ (x : BH), x.Ok → (x.xs.length + x.h.length) * (1 : Nat) ≤ (140737488355328 : Nat) ∧ x.xs.length + x.h.length ≤ (1152921504606846976 : Nat) ∧ True ∧
  ((True ∧ True) ∧ True) ∧ x.xs ++ x.h = x.xs ++ x.h ∧ True

theorem wHash_eq : wHashVC = fnS E64 f58 (bodyOf f58) wHashLS noAnn := by kernel_rfl
theorem wHash_vc : wHashVC := by
  rintro ⟨xs, h⟩ ⟨hl, hh⟩
  simp only at hl hh
  exact ⟨by simp only; omega, by simp only; omega, trivial, ⟨⟨trivial, trivial⟩, trivial⟩, rfl, trivial⟩
theorem wHash_ok : Fits E64 f58 (bodyOf f58) wHashLS noAnn := by
  constructor
  rw [← wHash_eq]
  exact wHash_vc
theorem f58_has : Has prog 58 f58 (bodyOf f58) := ⟨by kernel_rfl, by kernel_rfl, by kernel_rfl⟩
theorem known65 : Known prog L65 := by
  unfold L65
  exact known64.lent mixed f58_has E64_eq wHash_ok (fun _ _ => by simp [wHashLS]) (fun h => by cases h)
def cloneUVC : Prop := ∀ (x : List Int), x.length.le (1099511627776 : Nat) → ∀ (b : Bool), (x ≠ [] → b = false) → (b = true → (SV.val (A := AA) (Value.slice none (0 : Nat) (0
  : Nat)) : SV AA) = SV.val (A := AA) (Value.slice none (0 : Nat) (0 : Nat)) ∧ True ∧ x = [] ∧ True) ∧ (b = false → (([] : List Int).length + x.length) *
  (1 : Nat) ≤ (140737488355328 : Nat) ∧ ([] : List Int).length + x.length ≤ (1152921504606846976 : Nat) ∧ True ∧ True ∧ x = [] ++ x ∧ True)

theorem cloneU_eq : cloneUVC = fnS E65 f100 (bodyOf f100) cloneULS noAnn := by kernel_rfl
theorem cloneU_vc : cloneUVC := by
  intro x hx b hb
  have hx' : x.length ≤ 1099511627776 := hx
  refine ⟨fun h => ⟨rfl, trivial, Classical.byContradiction fun hne => ?_, trivial⟩, fun _ => ⟨?_, ?_, trivial, trivial, rfl, trivial⟩⟩
  · have := hb hne
    rw [h] at this
    cases this
  · simp only [List.length_nil]; omega
  · simp only [List.length_nil]; omega
theorem cloneU_ok : Fits E65 f100 (bodyOf f100) cloneULS noAnn := by
  constructor
  rw [← cloneU_eq]
  exact cloneU_vc
theorem f100_has : Has prog 100 f100 (bodyOf f100) := ⟨by kernel_rfl, by kernel_rfl, by kernel_rfl⟩
theorem known66 : Known prog L66 := by
  unfold L66
  exact known65.lent mixed f100_has E65_eq cloneU_ok (fun _ _ => Nat.zero_le _) (fun _ _ => rfl)
def wDoneVC : Prop := ∀ (x : List Int), x.length.le (1099511627776 : Nat) → x = x ∧ True ∧ x.length.le (1099511627776 : Nat) ∧ True ∧ ((True ∧ True) ∧ x = x ∧ True) ∧ x = x
  ∧ True

theorem wDone_eq : wDoneVC = fnS E66 f60 (bodyOf f60) wDoneLS noAnn := by kernel_rfl
theorem wDone_ok : Fits E66 f60 (bodyOf f60) wDoneLS noAnn := by
  constructor
  rw [← wDone_eq]
  exact fun _ hx => ⟨rfl, trivial, hx, trivial, ⟨⟨trivial, trivial⟩, rfl, trivial⟩, rfl, trivial⟩
theorem f60_has : Has prog 60 f60 (bodyOf f60) := ⟨by kernel_rfl, by kernel_rfl, by kernel_rfl⟩
theorem known67 : Known prog L67 := by
  unfold L67
  exact known66.lent mixed f60_has E66_eq wDone_ok (fun _ _ => by simp [wDoneLS]) (fun h => by cases h)
def growVC : Prop := ∀ (x : Int), (0 : Int) ≤ x ∧ x ≤ (1099511627776 : Int) → (decide (x < (0 : Int)) = true → False) ∧ (decide (x < (0 : Int)) = false → inI64 (x - wr
  IntKind.i64 ((0 : Int) - (0 : Int))) ∧ (decide (x - wr IntKind.i64 ((0 : Int) - (0 : Int)) > (0 : Int)) = true → (0 : Int) ≤ x - wr IntKind.i64 ((0 :
  Int) - (0 : Int)) ∧ (x - wr IntKind.i64 ((0 : Int) - (0 : Int))) * (↑(1 : Nat) : Int) ≤ (140737488355328 : Int) ∧ x - wr IntKind.i64 ((0 : Int) - (0 :
  Int)) ≤ (1152921504606846976 : Int) ∧ (0 : Int) ≤ (0 : Int) ∧ (0 : Int) ≤ (↑(List.replicate (x - wr IntKind.i64 ((0 : Int) - (0 : Int))).toNat (0 :
  Int)).length : Int) ∧ True ∧ True ∧ [] = List.take (Int.toNat (0 : Int)) (List.replicate (x - wr IntKind.i64 ((0 : Int) - (0 : Int))).toNat (0 : Int))
  ∧ True) ∧ (decide (x - wr IntKind.i64 ((0 : Int) - (0 : Int)) > (0 : Int)) = false → (SV.val (A := AA) (Value.slice none (0 : Nat) (0 : Nat)) : SV AA)
  = SV.val (A := AA) (Value.slice none (0 : Nat) (0 : Nat)) ∧ True ∧ ([] : List Int) = [] ∧ True))

theorem grow_eq : growVC = fnS E67 f99 (bodyOf f99) growLS noAnn := by kernel_rfl
theorem grow_vc : growVC := by
  rintro x ⟨h1, h2⟩
  have e : wr .i64 0 = 0 := by decide
  simp only [Int.sub_zero, e, true_and, and_true, decide_eq_true_eq, decide_eq_false_iff_not]
  refine ⟨fun h => by omega, fun _ => ⟨by unfold inI64; omega, fun h => ⟨h1, by omega, by omega, by decide, by simp; omega⟩, fun _ => trivial⟩⟩
theorem grow_ok : Fits E67 f99 (bodyOf f99) growLS noAnn := by
  constructor
  rw [← grow_eq]
  exact grow_vc
theorem f99_has : Has prog 99 f99 (bodyOf f99) := ⟨by kernel_rfl, by kernel_rfl, by kernel_rfl⟩
theorem known68 : Known prog L68 := by
  unfold L68
  exact known67.lent mixed f99_has E67_eq grow_ok (fun _ _ => Nat.zero_le _) (fun _ _ => rfl)
theorem flat_append : ∀ (a b : List (List Int)), flat (a ++ b) = flat a ++ flat b
  | [], b => rfl
  | x :: a, b => by simp [flat, flat_append a b]
theorem flat_take {l : List (List Int)} {i : Nat} {y : List Int} (h : l[i]? = some y) : flat (l.take (i + 1)) = flat (l.take i) ++ y := by
  rw [List.take_add_one, h, flat_append]
  simp [flat]
theorem flat_le (l : List (List Int)) (i : Nat) : (flat (l.take i)).length ≤ (flat l).length := by
  have h := congrArg (fun x => (flat x).length) (List.take_append_drop i l)
  simp only [flat_append, List.length_append] at h
  omega
def concatVC : Prop := ∀ (x : List (List Int)), LL x → (↑x.length : Int) ≤ (9223372036854775807 : Int) → (∃ x_1, Nat.le x_1 x.length ∧ ((↑x_1 : Int) = (0 : Int) ∧ (↑(flat
  (List.take x_1 x)).length : Int) = (0 : Int)) ∧ True ∧ True) ∧ ∀ (x_1 : Nat), x_1.le x.length → (decide ((↑x_1 : Int) < (↑x.length : Int)) = true → (0
  : Int) ≤ (↑x_1 : Int) ∧ (↑x_1 : Int) < (↑x.length : Int) ∧ ∀ (y : AA (26 : Nat)), x[(↑x_1 : Int).toNat]? = some y → (↑(List.length y) : Int) ≤
  (9223372036854775807 : Int) → inI64 ((↑(flat (List.take x_1 x)).length : Int) + (↑(List.length y) : Int)) ∧ (decide ((↑(flat (List.take x_1 x)).length
  : Int) + (↑(List.length y) : Int) < (0 : Int)) = true → False) ∧ (decide ((↑(flat (List.take x_1 x)).length : Int) + (↑(List.length y) : Int) < (0 :
  Int)) = false → inI64 ((↑x_1 : Int) + (1 : Int)) ∧ ∃ y_1, Nat.le y_1 x.length ∧ x.length - y_1 < x.length - x_1 ∧ ((↑y_1 : Int) = (↑x_1 : Int) + (1 :
  Int) ∧ (↑(flat (List.take y_1 x)).length : Int) = (↑(flat (List.take x_1 x)).length : Int) + (↑(List.length y) : Int)) ∧ True ∧ True)) ∧ (decide ((↑x_1
  : Int) < (↑x.length : Int)) = false → ((SV.val (A := AA) (Value.slice none (0 : Nat) (0 : Nat)) : SV AA) = SV.val (A := AA) (Value.slice none (0 : Nat)
  (0 : Nat)) ∧ (↑(flat (List.take x_1 x)).length : Int) = (↑(flat (List.take x_1 x)).length : Int)) ∧ True ∧ ((0 : Int) ≤ (↑(flat (List.take x_1
  x)).length : Int) ∧ (↑(flat (List.take x_1 x)).length : Int) ≤ (1099511627776 : Int)) ∧ ((↑x.length : Int) ≤ (9223372036854775807 : Int) → (∃ x_2,
  Nat.le x_2 x.length ∧ ((↑x_2 : Int) = (0 : Int) ∧ True) ∧ True ∧ flat (List.take x_2 x) = [] ∧ True) ∧ ∀ (x_2 : Nat), x_2.le x.length → (decide ((↑x_2
  : Int) < (↑x.length : Int)) = true → (0 : Int) ≤ (↑x_2 : Int) ∧ (↑x_2 : Int) < (↑x.length : Int) ∧ ∀ (y : AA (26 : Nat)), x[(↑x_2 : Int).toNat]? = some
  y → ((flat (List.take x_2 x)).length + List.length y) * (1 : Nat) ≤ (140737488355328 : Nat) ∧ (flat (List.take x_2 x)).length + List.length y ≤
  (1152921504606846976 : Nat) ∧ inI64 ((↑x_2 : Int) + (1 : Int)) ∧ ∃ y_1, Nat.le y_1 x.length ∧ x.length - y_1 < x.length - x_2 ∧ ((↑y_1 : Int) = (↑x_2 :
  Int) + (1 : Int) ∧ True) ∧ True ∧ flat (List.take y_1 x) = flat (List.take x_2 x) ++ (show List Int from y) ∧ True) ∧ (decide ((↑x_2 : Int) < (↑x.length : Int)) = false →
  True ∧ True ∧ flat x = flat (List.take x_2 x) ∧ True)))

theorem concat_eq : concatVC = fnS E68 f59 (bodyOf f59) concatLS concatAnn := by kernel_rfl
theorem concat_vc : concatVC := by
  rintro l ⟨h1, h2⟩
  simp only [true_and, and_true, decide_eq_true_eq, decide_eq_false_iff_not, Int.toNat_natCast]
  have len : ∀ {i : Nat} {y : List Int}, l[i]? = some y → (flat (l.take i)).length + y.length ≤ 1099511627776 := fun {i y} hy => by
    have h3 := flat_le l (i + 1)
    rw [flat_take hy, List.length_append] at h3
    omega
  refine fun _ => ⟨⟨0, Nat.zero_le _, rfl, by simp [flat]⟩, fun i hi => ⟨fun h => ?_, fun h => ?_⟩⟩
  · have hi' : i < l.length := by omega
    refine ⟨by omega, by omega, fun y hy _ => ?_⟩
    have h3 := len (y := y) hy
    replace h3 : (flat (l.take i)).length + @List.length Int y ≤ 1099511627776 := h3
    refine ⟨by unfold inI64; omega, fun h4 => by omega, fun _ => ⟨by unfold inI64; omega, i + 1, hi', by omega, by omega, ?_⟩⟩
    have h6 : (flat (l.take (i + 1))).length = (flat (l.take i)).length + @List.length Int y := (congrArg List.length (flat_take (y := y) hy)).trans List.length_append
    omega
  · have h3 := flat_le l i
    refine ⟨⟨by omega, by omega⟩, fun _ => ⟨⟨0, Nat.zero_le _, rfl, rfl⟩, fun k hk => ⟨fun h4 => ?_, fun h4 => ?_⟩⟩⟩
    · have hk' : k < l.length := by omega
      refine ⟨by omega, by omega, fun y hy => ?_⟩
      have h5 := len (y := y) hy
      replace h5 : (flat (l.take k)).length + @List.length Int y ≤ 1099511627776 := h5
      exact ⟨by omega, by omega, by unfold inI64; omega, k + 1, hk', by omega, by omega, flat_take (y := y) hy⟩
    · rw [List.take_of_length_le (by omega)]
theorem concat_ok : Fits E68 f59 (bodyOf f59) concatLS concatAnn := by
  constructor
  rw [← concat_eq]
  exact concat_vc
theorem f59_has : Has prog 59 f59 (bodyOf f59) := ⟨by kernel_rfl, by kernel_rfl, by kernel_rfl⟩
theorem known69 : Known prog L69 := by
  unfold L69
  exact known68.lent mixed f59_has E68_eq concat_ok (fun _ _ => Nat.zero_le _) (fun _ _ => rfl)
/-! ## The document's -/
theorem digs_step {n : Int} (hn : U64 n) {i : Nat} (hi : i < (digs n).length) :
    (digs n).drop ((digs n).length - (i + 1)) = [((n.toNat / 256 ^ i % 256 : Nat) : Int)] ++ (digs n).drop ((digs n).length - i) := by
  have hj : (digs n).length - (i + 1) < (digs n).length := by omega
  rw [drop_cons' hj, digs_get hn hj, show (digs n).length - 1 - ((digs n).length - (i + 1)) = i from by omega, show (digs n).length - (i + 1) + 1 = (digs n).length - i from by omega]
  rfl
def digitsVC : Prop := ∀ (x : Int), U64 x → (∃ x_1, Nat.le x_1 (digs x).length ∧ ((↑(x.toNat / (256 : Nat) ^ x_1) : Int) = x ∧ List.drop ((digs x).length - x_1) (digs x) =
  []) ∧ True ∧ True) ∧ ∀ (x_1 : Nat), x_1.le (digs x).length → (decide ((↑(x.toNat / (256 : Nat) ^ x_1) : Int) > (0 : Int)) = true → (256 : Int) ≠ (0 :
  Int) ∧ [wr IntKind.u8 ((↑(x.toNat / (256 : Nat) ^ x_1) : Int).tmod (256 : Int))].length * (1 : Nat) ≤ (140737488355328 : Nat) ∧ [wr IntKind.u8
  ((↑(x.toNat / (256 : Nat) ^ x_1) : Int).tmod (256 : Int))].length ≤ (1152921504606846976 : Nat) ∧ ([wr IntKind.u8 ((↑(x.toNat / (256 : Nat) ^ x_1) :
  Int).tmod (256 : Int))].length + (List.drop ((digs x).length - x_1) (digs x)).length) * (1 : Nat) ≤ (140737488355328 : Nat) ∧ [wr IntKind.u8
  ((↑(x.toNat / (256 : Nat) ^ x_1) : Int).tmod (256 : Int))].length + (List.drop ((digs x).length - x_1) (digs x)).length ≤ (1152921504606846976 : Nat) ∧
  (256 : Int) ≠ (0 : Int) ∧ ∃ y, Nat.le y (digs x).length ∧ (digs x).length - y < (digs x).length - x_1 ∧ ((↑(x.toNat / (256 : Nat) ^ y) : Int) = wr
  IntKind.u64 ((↑(x.toNat / (256 : Nat) ^ x_1) : Int).tdiv (256 : Int)) ∧ List.drop ((digs x).length - y) (digs x) = [wr IntKind.u8 ((↑(x.toNat / (256 :
  Nat) ^ x_1) : Int).tmod (256 : Int))] ++ List.drop ((digs x).length - x_1) (digs x)) ∧ True ∧ True) ∧ (decide ((↑(x.toNat / (256 : Nat) ^ x_1) : Int) >
  (0 : Int)) = false → digs x = List.drop ((digs x).length - x_1) (digs x) ∧ True ∧ True)

theorem digits_eq : digitsVC = fnS E69 f101 (bodyOf f101) digitsLS digitsAnn := by kernel_rfl
theorem digits_vc : digitsVC := by
  intro n hn
  have h8 := digs_le hn
  have h0 := hn.lo
  have h1 := hn.hi
  have key : ∀ q : Nat, q < 18446744073709551616 → wr .u8 ((q : Int).tmod 256) = ((q % 256 : Nat) : Int) ∧ wr .u64 ((q : Int).tdiv 256) = ((q / 256 : Nat) : Int) := fun q hq => by
    rw [wr8, wr64u, show (q : Int).tmod 256 = ((q % 256 : Nat) : Int) from rfl, show (q : Int).tdiv 256 = ((q / 256 : Nat) : Int) from rfl]
    omega
  simp only [true_and, and_true, decide_eq_true_eq, decide_eq_false_iff_not, List.length_singleton, List.length_drop]
  refine ⟨⟨0, Nat.zero_le _, by simp; omega, by simp⟩, fun i hi => ⟨fun h => ?_, fun h => ?_⟩⟩
  · have hq : n.toNat / 256 ^ i < 18446744073709551616 := Nat.lt_of_le_of_lt (Nat.div_le_self _ _) (by omega)
    obtain ⟨k1, k2⟩ := key _ hq
    have hi' : i < (digs n).length := (digs_lt hn i).2 (by omega)
    rw [k1, k2]
    refine ⟨by decide, by decide, by decide, by omega, by omega, by decide, i + 1, hi', by omega, ?_, digs_step hn hi'⟩
    rw [Nat.pow_succ, Nat.div_div_eq_div_mul]
  · have hi' : ¬ i < (digs n).length := fun h2 => by have := (digs_lt hn i).1 h2; omega
    rw [show (digs n).length - i = 0 from by omega, List.drop_zero]
theorem digits_ok : Fits E69 f101 (bodyOf f101) digitsLS digitsAnn := by
  constructor
  rw [← digits_eq]
  exact digits_vc
theorem f101_has : Has prog 101 f101 (bodyOf f101) := ⟨by kernel_rfl, by kernel_rfl, by kernel_rfl⟩
theorem known70 : Known prog L70 := by
  unfold L70
  exact known69.lent mixed f101_has E69_eq digits_ok (fun _ _ => Nat.le_refl _) (fun _ _ => rfl)
def ownUVC : Prop := ∀ (x : List Int), x.length.le (1099511627776 : Nat) → x.length * (1 : Nat) ≤ (140737488355328 : Nat) ∧ x.length ≤ (1152921504606846976 : Nat) ∧ True ∧
  True ∧ x = x ∧ True

theorem ownU_eq : ownUVC = fnS E70 f102 (bodyOf f102) ownULS noAnn := by kernel_rfl
theorem ownU_ok : Fits E70 f102 (bodyOf f102) ownULS noAnn := by
  constructor
  rw [← ownU_eq]
  intro x hx
  have hx' : x.length ≤ 1099511627776 := hx
  exact ⟨by omega, by omega, trivial, trivial, rfl, trivial⟩
theorem f102_has : Has prog 102 f102 (bodyOf f102) := ⟨by kernel_rfl, by kernel_rfl, by kernel_rfl⟩
theorem known71 : Known prog L71 := by
  unfold L71
  exact known70.lent mixed f102_has E70_eq ownU_ok (fun _ _ => Nat.zero_le _) (fun _ _ => rfl)
def rUintVC : Prop := ∀ (x : BN), x.Low → x.n = x.n ∧ True ∧ U64 x.n ∧ x.xs = x.xs ∧ True ∧ x.xs.length.le (1099511627776 : Nat) ∧ ((↑(digs x.n).length : Int) ≤
  (9223372036854775807 : Int) → (x.xs.length + [wr IntKind.u8 (↑(digs x.n).length : Int)].length) * (1 : Nat) ≤ (140737488355328 : Nat) ∧ x.xs.length +
  [wr IntKind.u8 (↑(digs x.n).length : Int)].length ≤ (1152921504606846976 : Nat) ∧ ((x.xs ++ [wr IntKind.u8 (↑(digs x.n).length : Int)]).length + (digs
  x.n).length) * (1 : Nat) ≤ (140737488355328 : Nat) ∧ (x.xs ++ [wr IntKind.u8 (↑(digs x.n).length : Int)]).length + (digs x.n).length ≤
  (1152921504606846976 : Nat) ∧ True ∧ True ∧ x.xs ++ uintB x.n = x.xs ++ [wr IntKind.u8 (↑(digs x.n).length : Int)] ++ digs x.n ∧ True)

theorem rUint_eq : rUintVC = fnS E71 f61 (bodyOf f61) rUintLS noAnn := by kernel_rfl
theorem rUint_vc : rUintVC := by
  rintro ⟨xs, n⟩ ⟨hl, hn⟩
  simp only at hl hn
  have h8 := digs_le hn
  have e : wr .u8 ((digs n).length : Int) = ((digs n).length : Int) := by rw [wr8]; omega
  have hl2 : Nat.le xs.length 1099511627776 := show xs.length ≤ 1099511627776 by omega
  simp only [e, true_and, and_true, List.length_singleton, List.length_append, uintB, List.append_assoc, List.singleton_append]
  exact ⟨hn, hl2, fun _ => ⟨by omega, by omega, by omega, by omega⟩⟩
theorem rUint_ok : Fits E71 f61 (bodyOf f61) rUintLS noAnn := by
  constructor
  rw [← rUint_eq]
  exact rUint_vc
theorem f61_has : Has prog 61 f61 (bodyOf f61) := ⟨by kernel_rfl, by kernel_rfl, by kernel_rfl⟩
theorem known72 : Known prog L72 := by
  unfold L72
  exact known71.lent mixed f61_has E71_eq rUint_ok (fun _ _ => Nat.zero_le _) (fun _ _ => rfl)
def rHashVC : Prop := ∀ (x : BH), x.Ok → x.xs = x.xs ∧ True ∧ x.xs.length.le (1099511627776 : Nat) ∧ (x.xs.length + x.h.length) * (1 : Nat) ≤ (140737488355328 : Nat) ∧
  x.xs.length + x.h.length ≤ (1152921504606846976 : Nat) ∧ True ∧ True ∧ x.xs ++ x.h = x.xs ++ x.h ∧ True

theorem rHash_eq : rHashVC = fnS E72 f62 (bodyOf f62) rHashLS noAnn := by kernel_rfl
theorem rHash_vc : rHashVC := by
  rintro ⟨xs, h⟩ ⟨hl, hh⟩
  simp only at hl hh
  exact ⟨rfl, trivial, hl, by simp only; omega, by simp only; omega, trivial, trivial, rfl, trivial⟩
theorem rHash_ok : Fits E72 f62 (bodyOf f62) rHashLS noAnn := by
  constructor
  rw [← rHash_eq]
  exact rHash_vc
theorem f62_has : Has prog 62 f62 (bodyOf f62) := ⟨by kernel_rfl, by kernel_rfl, by kernel_rfl⟩
theorem known73 : Known prog L73 := by
  unfold L73
  exact known72.lent mixed f62_has E72_eq rHash_ok (fun _ _ => Nat.zero_le _) (fun _ _ => rfl)
end Go.Proofs.YtcglahfmnoghjaaDoor

/-! A condition laid as bytes, by the program and by the document; the document's All; CondAll: what is said of them. Conditions: none. -/
namespace Go.Proofs.YtcglahfmnoghjaaDoor
open Go Go.Eng Go.Proofs.Tryd

def keysB : List Int → List Int
  | [] => []
  | k :: l => uintB (wr .u64 k) ++ keysB l
def brB (b : Br) : List Int := uintB (wr .u64 (b.keys.length : Int)) ++ keysB b.keys ++ b.lock ++ uintB (wr .u64 b.after) ++ uintB (wr .u64 b.older)
def brsB : List Br → List Int
  | [] => []
  | b :: l => brB b ++ brsB l
def putB (bs : List Br) : List Int := uintB (wr .u64 (bs.length : Int)) ++ brsB bs
def Locks (bs : List Br) : Prop := ∀ b, b ∈ bs → b.lock.length = 32
structure PutX where
  b : List Int
  bs : List Br
structure PutX.Ok (x : PutX) : Prop where
  len : x.b.length ≤ 10000000000
  w : weight x.bs ≤ 2000000
  locks : Locks x.bs
def putLS : LS AA where
  X := PutX
  pre := PutX.Ok
  args := fun x => [.rints .u8 x.b, .agg (.cell (.rseq 93 (show List (AA 93) from x.bs)) .nil)]
  hin := fun _ => []
  res := fun _ => [.vec 0]
  hout := fun x => [.ivec 5 .u8 (x.b ++ putB x.bs)]
def putGet (args : List (SV AA)) (sh : List (SO AA)) : Option PutX := match args with
  | [s, c] => match gI .u8 sh s, condG 93 sh c with
    | some b, some bs => some ⟨b, bs⟩
    | _, _ => none
  | _ => none
def rPutGet (args : List (SV AA)) (sh : List (SO AA)) : Option PutX := match args with
  | [s, c] => match gI .u8 sh s, condG 48 sh c with
    | some b, some bs => some ⟨b, bs⟩
    | _, _ => none
  | _ => none
/-- The writer that a slot speaks of: its entry, its line's entry, its line. -/
def writerAt (ts : List (SV AA)) (sh : List (SO AA)) (t : Nat) : Option (Nat × Nat × List Int) := match nth ts t with
  | some (.ptr i _) => match nth sh i with
    | some (.cells _ (.cell (.vec j) .nil)) => match nth sh j with
      | some (.ivec _ _ xs) => some (i, j, xs)
      | _ => none
    | _ => none
  | _ => none
def putAnn (x : PutX) : Anns AA := fun k ts sh => match writerAt ts sh 5 with
  | some (i, j, xs) => if k = 4 then some {
      X := Nat
      inv := fun n => n ≤ x.bs.length
      meas := fun n => x.bs.length - n
      slots := fun n => [(19, .int .i64 n)]
      heap := fun _ => [(i, wcell (cnt sh)), (j, .dead)]
      more := fun n => [.ivec 5 .u8 (xs ++ brsB (x.bs.take n))] }
    else (match nth ts 30 with
      | some (.rints _ ks) => some {
        X := Nat
        inv := fun n => n ≤ ks.length
        meas := fun n => ks.length - n
        slots := fun n => [(32, .int .i64 n)]
        heap := fun _ => [(i, wcell (cnt sh)), (j, .dead)]
        more := fun n => [.ivec 5 .u8 (xs ++ keysB (ks.take n))] }
      | _ => none)
  | none => none
def L74 : List (Nat × SpecT AA) := (25, tLent putLS putGet) :: L73
noncomputable def E74 : Eng AA := EE prog L74
theorem E74_eq : E74 = EE prog L74 := by
  unfold E74
  rfl
def rPutLS : LS AA where
  X := PutX
  pre := PutX.Ok
  args := fun x => [.rints .u8 x.b, .agg (.cell (.rseq 48 (show List (AA 48) from x.bs)) .nil)]
  hin := fun _ => []
  res := fun x => [.rints .u8 (x.b ++ putB x.bs)]
  hout := fun _ => []
/-- A vector that a loop lets go. -/
def deadOf : SV AA → List (Nat × SO AA)
  | .vec j => [(j, .dead)]
  | _ => []
def rPutAnn (x : PutX) : Anns AA := fun k ts sh => match nth ts 5 with
  | some s => match gI .u8 sh s with
    | some xs => if k = 5 then some {
        X := Nat
        inv := fun n => n ≤ x.bs.length
        meas := fun n => x.bs.length - n
        slots := fun n => [(6, .int .i64 n), (5, .rints .u8 (xs ++ brsB (x.bs.take n)))]
        heap := fun _ => deadOf s }
      else (match nth ts 7 with
        | some (.ptr j _) => match nth sh j with
          | some (.cells _ (.cell (.rints _ ks) _)) => some {
            X := Nat
            inv := fun n => n ≤ ks.length
            meas := fun n => ks.length - n
            slots := fun n => [(8, .int .i64 n), (5, .rints .u8 (xs ++ keysB (ks.take n)))]
            heap := fun _ => deadOf s }
          | _ => none
        | _ => none)
    | none => none
  | none => none
def L75 : List (Nat × SpecT AA) := (26, tLent rPutLS rPutGet) :: L74
noncomputable def E75 : Eng AA := EE prog L75
theorem E75_eq : E75 = EE prog L75 := by
  unfold E75
  rfl
/-! ## The document's All -/
/-- How many of these are less, from the first on. -/
def lowN (k : Int) : List Int → Nat
  | [] => 0
  | x :: l => if x < k then lowN k l + 1 else 0
def insU (l : List Int) (k : Int) : List Int := if k ∈ l then l else l.take (lowN k l) ++ [k] ++ l.drop (lowN k l)
def upOf (l : List Int) : List Int := l.foldl insU []
def rAllLS : LS AA where
  X := List Int
  pre := fun xs => xs.length ≤ 1000000
  args := fun xs => [.rints .i64 xs]
  hin := fun _ => []
  res := fun ks => [.agg (.cell (.rseq 48 (show List Br from [⟨upOf ks, List.replicate 32 0, 0, 0⟩])) .nil)]
  hout := fun _ => []
def rAllAnn (xs : List Int) : Anns AA := fun k ts _ => if k = 4 then some {
    X := Nat
    inv := fun n => n ≤ xs.length
    meas := fun n => xs.length - n
    slots := fun n => [(4, .int .i64 n), (3, .rints .i64 (upOf (xs.take n)))]
    heap := fun _ => [] }
  else (match nth ts 3, nth ts 17 with
    | some (.rints _ l), some (.int _ y) => some {
      X := Nat
      inv := fun n => n ≤ l.length ∧ lowN y l = n + lowN y (l.drop n)
      meas := fun n => l.length - n
      slots := fun n => [(5, .int .i64 n)]
      heap := fun _ => [] }
    | _, _ => none)
def L76 : List (Nat × SpecT AA) := (27, tLent rAllLS cloneIGet) :: L75
noncomputable def E76 : Eng AA := EE prog L76
theorem E76_eq : E76 = EE prog L76 := by
  unfold E76
  rfl
/-! ## The law -/
def allLawLS : LS AA where
  X := List Int
  pre := fun _ => True
  args := fun xs => [.rints .i64 xs]
  hin := fun _ => []
  res := fun _ => [.sb 0 true]
  hout := fun _ => []
end Go.Proofs.YtcglahfmnoghjaaDoor

/-! A condition laid as bytes: plain laws; the program's and the document's walk hold. Conditions: none. -/
namespace Go.Proofs.YtcglahfmnoghjaaDoor
open Go Go.Eng Go.Proofs.Tryd

theorem u64_wr (x : Int) : U64 (wr .u64 x) := by
  rw [wr64u]
  exact ⟨Int.emod_nonneg _ (by decide), Int.emod_lt_of_pos _ (by decide)⟩
theorem uintB_le (x : Int) : (uintB (wr .u64 x)).length ≤ 9 := by
  have := digs_le (u64_wr x)
  simp only [uintB, List.length_cons]
  omega
theorem keysB_le : ∀ ks : List Int, (keysB ks).length ≤ 9 * ks.length
  | [] => by simp [keysB]
  | k :: l => by
    have h1 := keysB_le l
    have h2 := uintB_le k
    simp only [keysB, List.length_append, List.length_cons]
    omega
theorem keysB_app : ∀ a b : List Int, keysB (a ++ b) = keysB a ++ keysB b
  | [], b => rfl
  | k :: a, b => by simp [keysB, keysB_app a b]
theorem keysB_up {ks : List Int} {i : Nat} (h : i < ks.length) : keysB (ks.take (i + 1)) = keysB (ks.take i) ++ uintB (wr .u64 (ks.getD i 0)) := by
  rw [take_up h rfl, keysB_app]
  simp [keysB]
theorem brB_le {b : Br} (h : b.lock.length = 32) : (brB b).length ≤ 59 + 9 * b.keys.length := by
  have h1 := uintB_le (b.keys.length : Int)
  have h2 := keysB_le b.keys
  have h3 := uintB_le b.after
  have h4 := uintB_le b.older
  simp only [brB, List.length_append, h]
  omega
theorem brsB_le : ∀ {bs : List Br}, Locks bs → (brsB bs).length ≤ 59 * weight bs
  | [], _ => by simp [brsB]
  | b :: l, h => by
    have h1 := brB_le (h b List.mem_cons_self)
    have h2 := brsB_le (bs := l) (fun c hc => h c (List.mem_cons_of_mem _ hc))
    unfold weight at h2 ⊢
    simp only [brsB, sumK, List.length_append, List.length_cons]
    omega
theorem brsB_app : ∀ a b : List Br, brsB (a ++ b) = brsB a ++ brsB b
  | [], b => rfl
  | k :: a, b => by simp [brsB, brsB_app a b]
theorem brsB_up {bs : List Br} {i : Nat} {y : Br} (h : bs[i]? = some y) : brsB (bs.take (i + 1)) = brsB (bs.take i) ++ brB y := by
  rw [List.take_add_one, h, brsB_app]
  simp [brsB]
theorem brsB_take_le {bs : List Br} (h : Locks bs) (i : Nat) : (brsB (bs.take i)).length ≤ 59 * weight bs := by
  have h1 := brsB_le h
  have h2 := congrArg (fun x => (brsB x).length) (List.take_append_drop i bs)
  simp only [brsB_app, List.length_append] at h2
  omega
theorem keysB_take_le (ks : List Int) (i : Nat) : (keysB (ks.take i)).length ≤ 9 * ks.length := by
  have h1 := keysB_le ks
  have h2 := congrArg (fun x => (keysB x).length) (List.take_append_drop i ks)
  simp only [keysB_app, List.length_append] at h2
  omega
theorem key_w {bs : List Br} {i : Nat} {y : Br} (h : bs[i]? = some y) : y.keys.length ≤ weight bs := by
  have := len_weight h
  unfold weight
  omega
theorem putB_le {bs : List Br} (h : Locks bs) : (putB bs).length ≤ 9 + 59 * weight bs := by
  have h1 := brsB_le h
  have h2 := uintB_le (bs.length : Int)
  simp only [putB, List.length_append]
  omega

def putVC : Prop := ∀ (x : PutX), x.Ok → (↑x.bs.length : Int) ≤ (9223372036854775807 : Int) → True ∧ True ∧ True ∧ (True ∧ wr IntKind.u64 (↑x.bs.length : Int) = wr
  IntKind.u64 (↑x.bs.length : Int)) ∧ (((SV.val (A := AA) (Value.slice none (0 : Nat) (0 : Nat)) : SV AA) = SV.val (A := AA) (Value.slice none (0 : Nat)
  (0 : Nat)) ∧ True) ∧ ([] : List Int) = [] ∧ True) ∧ (BN.mk [] (wr IntKind.u64 (↑x.bs.length : Int))).Low ∧ ((↑x.bs.length : Int) ≤ (9223372036854775807
  : Int) → (∃ x_1, Nat.le x_1 x.bs.length ∧ (↑x_1 : Int) = (0 : Int) ∧ ((x.bs = x.bs ∧ True) ∧ (True ∧ True) ∧ True) ∧ [] ++ uintB (wr IntKind.u64
  (↑x.bs.length : Int)) ++ brsB (List.take x_1 x.bs) = [] ++ uintB (wr IntKind.u64 (↑x.bs.length : Int)) ∧ True) ∧ ∀ (x_1 : Nat), x_1.le x.bs.length →
  (decide ((↑x_1 : Int) < (↑x.bs.length : Int)) = true → (0 : Int) ≤ (↑x_1 : Int) ∧ (↑x_1 : Int) < (↑x.bs.length : Int) ∧ ∀ (y : AA (93 : Nat)),
  x.bs[(↑x_1 : Int).toNat]? = some y → (↑y.keys.length : Int) ≤ (9223372036854775807 : Int) → (True ∧ wr IntKind.u64 (↑y.keys.length : Int) = wr
  IntKind.u64 (↑y.keys.length : Int)) ∧ ((True ∧ True) ∧ [] ++ uintB (wr IntKind.u64 (↑x.bs.length : Int)) ++ brsB (List.take x_1 x.bs) = [] ++ uintB (wr
  IntKind.u64 (↑x.bs.length : Int)) ++ brsB (List.take x_1 x.bs) ∧ True) ∧ (BN.mk ([] ++ uintB (wr IntKind.u64 (↑x.bs.length : Int)) ++ brsB (List.take
  x_1 x.bs)) (wr IntKind.u64 (↑y.keys.length : Int))).Low ∧ ((↑y.keys.length : Int) ≤ (9223372036854775807 : Int) → (∃ x_2, Nat.le x_2 y.keys.length ∧
  (↑x_2 : Int) = (0 : Int) ∧ ((x.bs = x.bs ∧ True) ∧ (True ∧ True) ∧ (y.keys = y.keys ∧ y.lock = y.lock ∧ y.after = y.after ∧ y.older = y.older ∧ True) ∧
  True) ∧ [] ++ uintB (wr IntKind.u64 (↑x.bs.length : Int)) ++ brsB (List.take x_1 x.bs) ++ uintB (wr IntKind.u64 (↑y.keys.length : Int)) ++ keysB
  (List.take x_2 y.keys) = [] ++ uintB (wr IntKind.u64 (↑x.bs.length : Int)) ++ brsB (List.take x_1 x.bs) ++ uintB (wr IntKind.u64 (↑y.keys.length :
  Int)) ∧ True) ∧ ∀ (x_2 : Nat), x_2.le y.keys.length → (decide ((↑x_2 : Int) < (↑y.keys.length : Int)) = true → (0 : Int) ≤ (↑x_2 : Int) ∧ (↑x_2 : Int)
  < (↑y.keys.length : Int) ∧ (↑x_2 : Int).toNat < y.keys.length ∧ (True ∧ wr IntKind.u64 (y.keys.getD (↑x_2 : Int).toNat (0 : Int)) = wr IntKind.u64
  (y.keys.getD (↑x_2 : Int).toNat (0 : Int))) ∧ ((True ∧ True) ∧ [] ++ uintB (wr IntKind.u64 (↑x.bs.length : Int)) ++ brsB (List.take x_1 x.bs) ++ uintB
  (wr IntKind.u64 (↑y.keys.length : Int)) ++ keysB (List.take x_2 y.keys) = [] ++ uintB (wr IntKind.u64 (↑x.bs.length : Int)) ++ brsB (List.take x_1
  x.bs) ++ uintB (wr IntKind.u64 (↑y.keys.length : Int)) ++ keysB (List.take x_2 y.keys) ∧ True) ∧ (BN.mk ([] ++ uintB (wr IntKind.u64 (↑x.bs.length :
  Int)) ++ brsB (List.take x_1 x.bs) ++ uintB (wr IntKind.u64 (↑y.keys.length : Int)) ++ keysB (List.take x_2 y.keys)) (wr IntKind.u64 (y.keys.getD (↑x_2
  : Int).toNat (0 : Int)))).Low ∧ inI64 ((↑x_2 : Int) + (1 : Int)) ∧ ∃ y_1, Nat.le y_1 y.keys.length ∧ y.keys.length - y_1 < y.keys.length - x_2 ∧ (↑y_1
  : Int) = (↑x_2 : Int) + (1 : Int) ∧ ((x.bs = x.bs ∧ True) ∧ (True ∧ True) ∧ (y.keys = y.keys ∧ y.lock = y.lock ∧ y.after = y.after ∧ y.older = y.older
  ∧ True) ∧ True) ∧ [] ++ uintB (wr IntKind.u64 (↑x.bs.length : Int)) ++ brsB (List.take x_1 x.bs) ++ uintB (wr IntKind.u64 (↑y.keys.length : Int)) ++
  keysB (List.take y_1 y.keys) = [] ++ uintB (wr IntKind.u64 (↑x.bs.length : Int)) ++ brsB (List.take x_1 x.bs) ++ uintB (wr IntKind.u64 (↑y.keys.length
  : Int)) ++ keysB (List.take x_2 y.keys) ++ uintB (wr IntKind.u64 (y.keys.getD (↑x_2 : Int).toNat (0 : Int))) ∧ True) ∧ (decide ((↑x_2 : Int) <
  (↑y.keys.length : Int)) = false → ((True ∧ y.lock = y.lock ∧ True) ∧ ((True ∧ True) ∧ [] ++ uintB (wr IntKind.u64 (↑x.bs.length : Int)) ++ brsB
  (List.take x_1 x.bs) ++ uintB (wr IntKind.u64 (↑y.keys.length : Int)) ++ keysB (List.take x_2 y.keys) = [] ++ uintB (wr IntKind.u64 (↑x.bs.length :
  Int)) ++ brsB (List.take x_1 x.bs) ++ uintB (wr IntKind.u64 (↑y.keys.length : Int)) ++ keysB (List.take x_2 y.keys) ∧ True) ∧ (BH.mk ([] ++ uintB (wr
  IntKind.u64 (↑x.bs.length : Int)) ++ brsB (List.take x_1 x.bs) ++ uintB (wr IntKind.u64 (↑y.keys.length : Int)) ++ keysB (List.take x_2 y.keys))
  y.lock).Ok ∧ ((True ∧ wr IntKind.u64 y.after = wr IntKind.u64 y.after) ∧ ((True ∧ True) ∧ [] ++ uintB (wr IntKind.u64 (↑x.bs.length : Int)) ++ brsB
  (List.take x_1 x.bs) ++ uintB (wr IntKind.u64 (↑y.keys.length : Int)) ++ keysB (List.take x_2 y.keys) ++ y.lock = [] ++ uintB (wr IntKind.u64
  (↑x.bs.length : Int)) ++ brsB (List.take x_1 x.bs) ++ uintB (wr IntKind.u64 (↑y.keys.length : Int)) ++ keysB (List.take x_2 y.keys) ++ y.lock ∧ True) ∧
  (BN.mk ([] ++ uintB (wr IntKind.u64 (↑x.bs.length : Int)) ++ brsB (List.take x_1 x.bs) ++ uintB (wr IntKind.u64 (↑y.keys.length : Int)) ++ keysB
  (List.take x_2 y.keys) ++ y.lock) (wr IntKind.u64 y.after)).Low ∧ (True ∧ wr IntKind.u64 y.older = wr IntKind.u64 y.older) ∧ ((True ∧ True) ∧ [] ++
  uintB (wr IntKind.u64 (↑x.bs.length : Int)) ++ brsB (List.take x_1 x.bs) ++ uintB (wr IntKind.u64 (↑y.keys.length : Int)) ++ keysB (List.take x_2
  y.keys) ++ y.lock ++ uintB (wr IntKind.u64 y.after) = [] ++ uintB (wr IntKind.u64 (↑x.bs.length : Int)) ++ brsB (List.take x_1 x.bs) ++ uintB (wr
  IntKind.u64 (↑y.keys.length : Int)) ++ keysB (List.take x_2 y.keys) ++ y.lock ++ uintB (wr IntKind.u64 y.after) ∧ True) ∧ (BN.mk ([] ++ uintB (wr
  IntKind.u64 (↑x.bs.length : Int)) ++ brsB (List.take x_1 x.bs) ++ uintB (wr IntKind.u64 (↑y.keys.length : Int)) ++ keysB (List.take x_2 y.keys) ++
  y.lock ++ uintB (wr IntKind.u64 y.after)) (wr IntKind.u64 y.older)).Low ∧ inI64 ((↑x_1 : Int) + (1 : Int)) ∧ ∃ y_1, Nat.le y_1 x.bs.length ∧
  x.bs.length - y_1 < x.bs.length - x_1 ∧ (↑y_1 : Int) = (↑x_1 : Int) + (1 : Int) ∧ ((x.bs = x.bs ∧ True) ∧ (True ∧ True) ∧ True) ∧ [] ++ uintB (wr
  IntKind.u64 (↑x.bs.length : Int)) ++ brsB (List.take y_1 x.bs) = [] ++ uintB (wr IntKind.u64 (↑x.bs.length : Int)) ++ brsB (List.take x_1 x.bs) ++
  uintB (wr IntKind.u64 (↑y.keys.length : Int)) ++ keysB (List.take x_2 y.keys) ++ y.lock ++ uintB (wr IntKind.u64 y.after) ++ uintB (wr IntKind.u64
  y.older) ∧ True) ∧ (True ∧ wr IntKind.u64 y.after = wr IntKind.u64 y.after) ∧ ((True ∧ True) ∧ [] ++ uintB (wr IntKind.u64 (↑x.bs.length : Int)) ++
  brsB (List.take x_1 x.bs) ++ uintB (wr IntKind.u64 (↑y.keys.length : Int)) ++ keysB (List.take x_2 y.keys) ++ y.lock = [] ++ uintB (wr IntKind.u64
  (↑x.bs.length : Int)) ++ brsB (List.take x_1 x.bs) ++ uintB (wr IntKind.u64 (↑y.keys.length : Int)) ++ keysB (List.take x_2 y.keys) ++ y.lock ∧ True) ∧
  (BN.mk ([] ++ uintB (wr IntKind.u64 (↑x.bs.length : Int)) ++ brsB (List.take x_1 x.bs) ++ uintB (wr IntKind.u64 (↑y.keys.length : Int)) ++ keysB
  (List.take x_2 y.keys) ++ y.lock) (wr IntKind.u64 y.after)).Low ∧ (True ∧ wr IntKind.u64 y.older = wr IntKind.u64 y.older) ∧ ((True ∧ True) ∧ [] ++
  uintB (wr IntKind.u64 (↑x.bs.length : Int)) ++ brsB (List.take x_1 x.bs) ++ uintB (wr IntKind.u64 (↑y.keys.length : Int)) ++ keysB (List.take x_2
  y.keys) ++ y.lock ++ uintB (wr IntKind.u64 y.after) = [] ++ uintB (wr IntKind.u64 (↑x.bs.length : Int)) ++ brsB (List.take x_1 x.bs) ++ uintB (wr
  IntKind.u64 (↑y.keys.length : Int)) ++ keysB (List.take x_2 y.keys) ++ y.lock ++ uintB (wr IntKind.u64 y.after) ∧ True) ∧ (BN.mk ([] ++ uintB (wr
  IntKind.u64 (↑x.bs.length : Int)) ++ brsB (List.take x_1 x.bs) ++ uintB (wr IntKind.u64 (↑y.keys.length : Int)) ++ keysB (List.take x_2 y.keys) ++
  y.lock ++ uintB (wr IntKind.u64 y.after)) (wr IntKind.u64 y.older)).Low ∧ inI64 ((↑x_1 : Int) + (1 : Int)) ∧ ∃ y_1, Nat.le y_1 x.bs.length ∧
  x.bs.length - y_1 < x.bs.length - x_1 ∧ (↑y_1 : Int) = (↑x_1 : Int) + (1 : Int) ∧ ((x.bs = x.bs ∧ True) ∧ (True ∧ True) ∧ True) ∧ [] ++ uintB (wr
  IntKind.u64 (↑x.bs.length : Int)) ++ brsB (List.take y_1 x.bs) = [] ++ uintB (wr IntKind.u64 (↑x.bs.length : Int)) ++ brsB (List.take x_1 x.bs) ++
  uintB (wr IntKind.u64 (↑y.keys.length : Int)) ++ keysB (List.take x_2 y.keys) ++ y.lock ++ uintB (wr IntKind.u64 y.after) ++ uintB (wr IntKind.u64
  y.older) ∧ True) ∧ (((True ∧ y.lock = y.lock ∧ True) ∧ ((True ∧ True) ∧ [] ++ uintB (wr IntKind.u64 (↑x.bs.length : Int)) ++ brsB (List.take x_1 x.bs)
  ++ uintB (wr IntKind.u64 (↑y.keys.length : Int)) ++ keysB (List.take x_2 y.keys) = [] ++ uintB (wr IntKind.u64 (↑x.bs.length : Int)) ++ brsB (List.take
  x_1 x.bs) ++ uintB (wr IntKind.u64 (↑y.keys.length : Int)) ++ keysB (List.take x_2 y.keys) ∧ True) ∧ (BH.mk ([] ++ uintB (wr IntKind.u64 (↑x.bs.length
  : Int)) ++ brsB (List.take x_1 x.bs) ++ uintB (wr IntKind.u64 (↑y.keys.length : Int)) ++ keysB (List.take x_2 y.keys)) y.lock).Ok ∧ ((True ∧ wr
  IntKind.u64 y.after = wr IntKind.u64 y.after) ∧ ((True ∧ True) ∧ [] ++ uintB (wr IntKind.u64 (↑x.bs.length : Int)) ++ brsB (List.take x_1 x.bs) ++
  uintB (wr IntKind.u64 (↑y.keys.length : Int)) ++ keysB (List.take x_2 y.keys) ++ y.lock = [] ++ uintB (wr IntKind.u64 (↑x.bs.length : Int)) ++ brsB
  (List.take x_1 x.bs) ++ uintB (wr IntKind.u64 (↑y.keys.length : Int)) ++ keysB (List.take x_2 y.keys) ++ y.lock ∧ True) ∧ (BN.mk ([] ++ uintB (wr
  IntKind.u64 (↑x.bs.length : Int)) ++ brsB (List.take x_1 x.bs) ++ uintB (wr IntKind.u64 (↑y.keys.length : Int)) ++ keysB (List.take x_2 y.keys) ++
  y.lock) (wr IntKind.u64 y.after)).Low ∧ (True ∧ wr IntKind.u64 y.older = wr IntKind.u64 y.older) ∧ ((True ∧ True) ∧ [] ++ uintB (wr IntKind.u64
  (↑x.bs.length : Int)) ++ brsB (List.take x_1 x.bs) ++ uintB (wr IntKind.u64 (↑y.keys.length : Int)) ++ keysB (List.take x_2 y.keys) ++ y.lock ++ uintB
  (wr IntKind.u64 y.after) = [] ++ uintB (wr IntKind.u64 (↑x.bs.length : Int)) ++ brsB (List.take x_1 x.bs) ++ uintB (wr IntKind.u64 (↑y.keys.length :
  Int)) ++ keysB (List.take x_2 y.keys) ++ y.lock ++ uintB (wr IntKind.u64 y.after) ∧ True) ∧ (BN.mk ([] ++ uintB (wr IntKind.u64 (↑x.bs.length : Int))
  ++ brsB (List.take x_1 x.bs) ++ uintB (wr IntKind.u64 (↑y.keys.length : Int)) ++ keysB (List.take x_2 y.keys) ++ y.lock ++ uintB (wr IntKind.u64
  y.after)) (wr IntKind.u64 y.older)).Low ∧ inI64 ((↑x_1 : Int) + (1 : Int)) ∧ ∃ y_1, Nat.le y_1 x.bs.length ∧ x.bs.length - y_1 < x.bs.length - x_1 ∧
  (↑y_1 : Int) = (↑x_1 : Int) + (1 : Int) ∧ ((x.bs = x.bs ∧ True) ∧ (True ∧ True) ∧ True) ∧ [] ++ uintB (wr IntKind.u64 (↑x.bs.length : Int)) ++ brsB
  (List.take y_1 x.bs) = [] ++ uintB (wr IntKind.u64 (↑x.bs.length : Int)) ++ brsB (List.take x_1 x.bs) ++ uintB (wr IntKind.u64 (↑y.keys.length : Int))
  ++ keysB (List.take x_2 y.keys) ++ y.lock ++ uintB (wr IntKind.u64 y.after) ++ uintB (wr IntKind.u64 y.older) ∧ True) ∧ (True ∧ wr IntKind.u64 y.after
  = wr IntKind.u64 y.after) ∧ ((True ∧ True) ∧ [] ++ uintB (wr IntKind.u64 (↑x.bs.length : Int)) ++ brsB (List.take x_1 x.bs) ++ uintB (wr IntKind.u64
  (↑y.keys.length : Int)) ++ keysB (List.take x_2 y.keys) ++ y.lock = [] ++ uintB (wr IntKind.u64 (↑x.bs.length : Int)) ++ brsB (List.take x_1 x.bs) ++
  uintB (wr IntKind.u64 (↑y.keys.length : Int)) ++ keysB (List.take x_2 y.keys) ++ y.lock ∧ True) ∧ (BN.mk ([] ++ uintB (wr IntKind.u64 (↑x.bs.length :
  Int)) ++ brsB (List.take x_1 x.bs) ++ uintB (wr IntKind.u64 (↑y.keys.length : Int)) ++ keysB (List.take x_2 y.keys) ++ y.lock) (wr IntKind.u64
  y.after)).Low ∧ (True ∧ wr IntKind.u64 y.older = wr IntKind.u64 y.older) ∧ ((True ∧ True) ∧ [] ++ uintB (wr IntKind.u64 (↑x.bs.length : Int)) ++ brsB
  (List.take x_1 x.bs) ++ uintB (wr IntKind.u64 (↑y.keys.length : Int)) ++ keysB (List.take x_2 y.keys) ++ y.lock ++ uintB (wr IntKind.u64 y.after) = []
  ++ uintB (wr IntKind.u64 (↑x.bs.length : Int)) ++ brsB (List.take x_1 x.bs) ++ uintB (wr IntKind.u64 (↑y.keys.length : Int)) ++ keysB (List.take x_2
  y.keys) ++ y.lock ++ uintB (wr IntKind.u64 y.after) ∧ True) ∧ (BN.mk ([] ++ uintB (wr IntKind.u64 (↑x.bs.length : Int)) ++ brsB (List.take x_1 x.bs) ++
  uintB (wr IntKind.u64 (↑y.keys.length : Int)) ++ keysB (List.take x_2 y.keys) ++ y.lock ++ uintB (wr IntKind.u64 y.after)) (wr IntKind.u64
  y.older)).Low ∧ inI64 ((↑x_1 : Int) + (1 : Int)) ∧ ∃ y_1, Nat.le y_1 x.bs.length ∧ x.bs.length - y_1 < x.bs.length - x_1 ∧ (↑y_1 : Int) = (↑x_1 : Int)
  + (1 : Int) ∧ ((x.bs = x.bs ∧ True) ∧ (True ∧ True) ∧ True) ∧ [] ++ uintB (wr IntKind.u64 (↑x.bs.length : Int)) ++ brsB (List.take y_1 x.bs) = [] ++
  uintB (wr IntKind.u64 (↑x.bs.length : Int)) ++ brsB (List.take x_1 x.bs) ++ uintB (wr IntKind.u64 (↑y.keys.length : Int)) ++ keysB (List.take x_2
  y.keys) ++ y.lock ++ uintB (wr IntKind.u64 y.after) ++ uintB (wr IntKind.u64 y.older) ∧ True) ∧ (True ∧ y.lock = y.lock ∧ True) ∧ ((True ∧ True) ∧ []
  ++ uintB (wr IntKind.u64 (↑x.bs.length : Int)) ++ brsB (List.take x_1 x.bs) ++ uintB (wr IntKind.u64 (↑y.keys.length : Int)) ++ keysB (List.take x_2
  y.keys) = [] ++ uintB (wr IntKind.u64 (↑x.bs.length : Int)) ++ brsB (List.take x_1 x.bs) ++ uintB (wr IntKind.u64 (↑y.keys.length : Int)) ++ keysB
  (List.take x_2 y.keys) ∧ True) ∧ (BH.mk ([] ++ uintB (wr IntKind.u64 (↑x.bs.length : Int)) ++ brsB (List.take x_1 x.bs) ++ uintB (wr IntKind.u64
  (↑y.keys.length : Int)) ++ keysB (List.take x_2 y.keys)) y.lock).Ok ∧ (True ∧ wr IntKind.u64 y.after = wr IntKind.u64 y.after) ∧ ((True ∧ True) ∧ [] ++
  uintB (wr IntKind.u64 (↑x.bs.length : Int)) ++ brsB (List.take x_1 x.bs) ++ uintB (wr IntKind.u64 (↑y.keys.length : Int)) ++ keysB (List.take x_2
  y.keys) ++ y.lock = [] ++ uintB (wr IntKind.u64 (↑x.bs.length : Int)) ++ brsB (List.take x_1 x.bs) ++ uintB (wr IntKind.u64 (↑y.keys.length : Int)) ++
  keysB (List.take x_2 y.keys) ++ y.lock ∧ True) ∧ (BN.mk ([] ++ uintB (wr IntKind.u64 (↑x.bs.length : Int)) ++ brsB (List.take x_1 x.bs) ++ uintB (wr
  IntKind.u64 (↑y.keys.length : Int)) ++ keysB (List.take x_2 y.keys) ++ y.lock) (wr IntKind.u64 y.after)).Low ∧ (True ∧ wr IntKind.u64 y.older = wr
  IntKind.u64 y.older) ∧ ((True ∧ True) ∧ [] ++ uintB (wr IntKind.u64 (↑x.bs.length : Int)) ++ brsB (List.take x_1 x.bs) ++ uintB (wr IntKind.u64
  (↑y.keys.length : Int)) ++ keysB (List.take x_2 y.keys) ++ y.lock ++ uintB (wr IntKind.u64 y.after) = [] ++ uintB (wr IntKind.u64 (↑x.bs.length : Int))
  ++ brsB (List.take x_1 x.bs) ++ uintB (wr IntKind.u64 (↑y.keys.length : Int)) ++ keysB (List.take x_2 y.keys) ++ y.lock ++ uintB (wr IntKind.u64
  y.after) ∧ True) ∧ (BN.mk ([] ++ uintB (wr IntKind.u64 (↑x.bs.length : Int)) ++ brsB (List.take x_1 x.bs) ++ uintB (wr IntKind.u64 (↑y.keys.length :
  Int)) ++ keysB (List.take x_2 y.keys) ++ y.lock ++ uintB (wr IntKind.u64 y.after)) (wr IntKind.u64 y.older)).Low ∧ inI64 ((↑x_1 : Int) + (1 : Int)) ∧ ∃
  y_1, Nat.le y_1 x.bs.length ∧ x.bs.length - y_1 < x.bs.length - x_1 ∧ (↑y_1 : Int) = (↑x_1 : Int) + (1 : Int) ∧ ((x.bs = x.bs ∧ True) ∧ (True ∧ True) ∧
  True) ∧ [] ++ uintB (wr IntKind.u64 (↑x.bs.length : Int)) ++ brsB (List.take y_1 x.bs) = [] ++ uintB (wr IntKind.u64 (↑x.bs.length : Int)) ++ brsB
  (List.take x_1 x.bs) ++ uintB (wr IntKind.u64 (↑y.keys.length : Int)) ++ keysB (List.take x_2 y.keys) ++ y.lock ++ uintB (wr IntKind.u64 y.after) ++
  uintB (wr IntKind.u64 y.older) ∧ True) ∧ ((True ∧ y.lock = y.lock ∧ True) ∧ ((True ∧ True) ∧ [] ++ uintB (wr IntKind.u64 (↑x.bs.length : Int)) ++ brsB
  (List.take x_1 x.bs) ++ uintB (wr IntKind.u64 (↑y.keys.length : Int)) ++ keysB (List.take x_2 y.keys) = [] ++ uintB (wr IntKind.u64 (↑x.bs.length :
  Int)) ++ brsB (List.take x_1 x.bs) ++ uintB (wr IntKind.u64 (↑y.keys.length : Int)) ++ keysB (List.take x_2 y.keys) ∧ True) ∧ (BH.mk ([] ++ uintB (wr
  IntKind.u64 (↑x.bs.length : Int)) ++ brsB (List.take x_1 x.bs) ++ uintB (wr IntKind.u64 (↑y.keys.length : Int)) ++ keysB (List.take x_2 y.keys))
  y.lock).Ok ∧ (True ∧ wr IntKind.u64 y.after = wr IntKind.u64 y.after) ∧ ((True ∧ True) ∧ [] ++ uintB (wr IntKind.u64 (↑x.bs.length : Int)) ++ brsB
  (List.take x_1 x.bs) ++ uintB (wr IntKind.u64 (↑y.keys.length : Int)) ++ keysB (List.take x_2 y.keys) ++ y.lock = [] ++ uintB (wr IntKind.u64
  (↑x.bs.length : Int)) ++ brsB (List.take x_1 x.bs) ++ uintB (wr IntKind.u64 (↑y.keys.length : Int)) ++ keysB (List.take x_2 y.keys) ++ y.lock ∧ True) ∧
  (BN.mk ([] ++ uintB (wr IntKind.u64 (↑x.bs.length : Int)) ++ brsB (List.take x_1 x.bs) ++ uintB (wr IntKind.u64 (↑y.keys.length : Int)) ++ keysB
  (List.take x_2 y.keys) ++ y.lock) (wr IntKind.u64 y.after)).Low ∧ (True ∧ wr IntKind.u64 y.older = wr IntKind.u64 y.older) ∧ ((True ∧ True) ∧ [] ++
  uintB (wr IntKind.u64 (↑x.bs.length : Int)) ++ brsB (List.take x_1 x.bs) ++ uintB (wr IntKind.u64 (↑y.keys.length : Int)) ++ keysB (List.take x_2
  y.keys) ++ y.lock ++ uintB (wr IntKind.u64 y.after) = [] ++ uintB (wr IntKind.u64 (↑x.bs.length : Int)) ++ brsB (List.take x_1 x.bs) ++ uintB (wr
  IntKind.u64 (↑y.keys.length : Int)) ++ keysB (List.take x_2 y.keys) ++ y.lock ++ uintB (wr IntKind.u64 y.after) ∧ True) ∧ (BN.mk ([] ++ uintB (wr
  IntKind.u64 (↑x.bs.length : Int)) ++ brsB (List.take x_1 x.bs) ++ uintB (wr IntKind.u64 (↑y.keys.length : Int)) ++ keysB (List.take x_2 y.keys) ++
  y.lock ++ uintB (wr IntKind.u64 y.after)) (wr IntKind.u64 y.older)).Low ∧ inI64 ((↑x_1 : Int) + (1 : Int)) ∧ ∃ y_1, Nat.le y_1 x.bs.length ∧
  x.bs.length - y_1 < x.bs.length - x_1 ∧ (↑y_1 : Int) = (↑x_1 : Int) + (1 : Int) ∧ ((x.bs = x.bs ∧ True) ∧ (True ∧ True) ∧ True) ∧ [] ++ uintB (wr
  IntKind.u64 (↑x.bs.length : Int)) ++ brsB (List.take y_1 x.bs) = [] ++ uintB (wr IntKind.u64 (↑x.bs.length : Int)) ++ brsB (List.take x_1 x.bs) ++
  uintB (wr IntKind.u64 (↑y.keys.length : Int)) ++ keysB (List.take x_2 y.keys) ++ y.lock ++ uintB (wr IntKind.u64 y.after) ++ uintB (wr IntKind.u64
  y.older) ∧ True) ∧ (True ∧ y.lock = y.lock ∧ True) ∧ ((True ∧ True) ∧ [] ++ uintB (wr IntKind.u64 (↑x.bs.length : Int)) ++ brsB (List.take x_1 x.bs) ++
  uintB (wr IntKind.u64 (↑y.keys.length : Int)) ++ keysB (List.take x_2 y.keys) = [] ++ uintB (wr IntKind.u64 (↑x.bs.length : Int)) ++ brsB (List.take
  x_1 x.bs) ++ uintB (wr IntKind.u64 (↑y.keys.length : Int)) ++ keysB (List.take x_2 y.keys) ∧ True) ∧ (BH.mk ([] ++ uintB (wr IntKind.u64 (↑x.bs.length
  : Int)) ++ brsB (List.take x_1 x.bs) ++ uintB (wr IntKind.u64 (↑y.keys.length : Int)) ++ keysB (List.take x_2 y.keys)) y.lock).Ok ∧ (True ∧ wr
  IntKind.u64 y.after = wr IntKind.u64 y.after) ∧ ((True ∧ True) ∧ [] ++ uintB (wr IntKind.u64 (↑x.bs.length : Int)) ++ brsB (List.take x_1 x.bs) ++
  uintB (wr IntKind.u64 (↑y.keys.length : Int)) ++ keysB (List.take x_2 y.keys) ++ y.lock = [] ++ uintB (wr IntKind.u64 (↑x.bs.length : Int)) ++ brsB
  (List.take x_1 x.bs) ++ uintB (wr IntKind.u64 (↑y.keys.length : Int)) ++ keysB (List.take x_2 y.keys) ++ y.lock ∧ True) ∧ (BN.mk ([] ++ uintB (wr
  IntKind.u64 (↑x.bs.length : Int)) ++ brsB (List.take x_1 x.bs) ++ uintB (wr IntKind.u64 (↑y.keys.length : Int)) ++ keysB (List.take x_2 y.keys) ++
  y.lock) (wr IntKind.u64 y.after)).Low ∧ (True ∧ wr IntKind.u64 y.older = wr IntKind.u64 y.older) ∧ ((True ∧ True) ∧ [] ++ uintB (wr IntKind.u64
  (↑x.bs.length : Int)) ++ brsB (List.take x_1 x.bs) ++ uintB (wr IntKind.u64 (↑y.keys.length : Int)) ++ keysB (List.take x_2 y.keys) ++ y.lock ++ uintB
  (wr IntKind.u64 y.after) = [] ++ uintB (wr IntKind.u64 (↑x.bs.length : Int)) ++ brsB (List.take x_1 x.bs) ++ uintB (wr IntKind.u64 (↑y.keys.length :
  Int)) ++ keysB (List.take x_2 y.keys) ++ y.lock ++ uintB (wr IntKind.u64 y.after) ∧ True) ∧ (BN.mk ([] ++ uintB (wr IntKind.u64 (↑x.bs.length : Int))
  ++ brsB (List.take x_1 x.bs) ++ uintB (wr IntKind.u64 (↑y.keys.length : Int)) ++ keysB (List.take x_2 y.keys) ++ y.lock ++ uintB (wr IntKind.u64
  y.after)) (wr IntKind.u64 y.older)).Low ∧ inI64 ((↑x_1 : Int) + (1 : Int)) ∧ ∃ y_1, Nat.le y_1 x.bs.length ∧ x.bs.length - y_1 < x.bs.length - x_1 ∧
  (↑y_1 : Int) = (↑x_1 : Int) + (1 : Int) ∧ ((x.bs = x.bs ∧ True) ∧ (True ∧ True) ∧ True) ∧ [] ++ uintB (wr IntKind.u64 (↑x.bs.length : Int)) ++ brsB
  (List.take y_1 x.bs) = [] ++ uintB (wr IntKind.u64 (↑x.bs.length : Int)) ++ brsB (List.take x_1 x.bs) ++ uintB (wr IntKind.u64 (↑y.keys.length : Int))
  ++ keysB (List.take x_2 y.keys) ++ y.lock ++ uintB (wr IntKind.u64 y.after) ++ uintB (wr IntKind.u64 y.older) ∧ True))) ∧ (decide ((↑x_1 : Int) <
  (↑x.bs.length : Int)) = false → True ∧ ((True ∧ True) ∧ [] ++ uintB (wr IntKind.u64 (↑x.bs.length : Int)) ++ brsB (List.take x_1 x.bs) = [] ++ uintB
  (wr IntKind.u64 (↑x.bs.length : Int)) ++ brsB (List.take x_1 x.bs) ∧ True) ∧ ([] ++ uintB (wr IntKind.u64 (↑x.bs.length : Int)) ++ brsB (List.take x_1
  x.bs)).length.le (1099511627776 : Nat) ∧ (x.b = x.b ∧ True) ∧ ([] ++ uintB (wr IntKind.u64 (↑x.bs.length : Int)) ++ brsB (List.take x_1 x.bs) = [] ++
  uintB (wr IntKind.u64 (↑x.bs.length : Int)) ++ brsB (List.take x_1 x.bs) ∧ True) ∧ [x.b, [] ++ uintB (wr IntKind.u64 (↑x.bs.length : Int)) ++ brsB
  (List.take x_1 x.bs)] = [x.b, [] ++ uintB (wr IntKind.u64 (↑x.bs.length : Int)) ++ brsB (List.take x_1 x.bs)] ∧ True ∧ LL [x.b, [] ++ uintB (wr
  IntKind.u64 (↑x.bs.length : Int)) ++ brsB (List.take x_1 x.bs)] ∧ True ∧ True ∧ x.b ++ putB x.bs = flat [x.b, [] ++ uintB (wr IntKind.u64 (↑x.bs.length
  : Int)) ++ brsB (List.take x_1 x.bs)] ∧ True))

theorem put_eq : putVC = fnS E73 f25 (bodyOf f25) putLS putAnn := by kernel_rfl
theorem put_vc : putVC := by
  rintro ⟨b, bs⟩ ⟨hb, hw, hlk⟩
  simp only at hb hw hlk
  have low : ∀ (xs : List Int) (n : Int), xs.length ≤ 1000000000000 → (BN.mk xs (wr .u64 n)).Low := fun xs n h => ⟨h, u64_wr n⟩
  have p0 := uintB_le (bs.length : Int)
  simp only [true_and, and_true, decide_eq_true_eq, decide_eq_false_iff_not, Int.toNat_natCast, List.nil_append]
  refine fun _ => ⟨low _ _ (by simp), fun _ => ⟨⟨0, Nat.zero_le _, rfl, by simp [brsB]⟩, fun i hi => ⟨fun h => ?_, fun h => ?_⟩⟩⟩
  · have hi' : i < bs.length := by omega
    have p1 := brsB_take_le hlk i
    refine ⟨by omega, by omega, fun y hy _ => ?_⟩
    have p2 := uintB_le (y.keys.length : Int)
    have p3 : y.keys.length ≤ weight bs := key_w hy
    have hl : y.lock.length = 32 := hlk y (List.mem_of_getElem? hy)
    refine ⟨low _ _ (by simp only [List.length_append]; omega), fun _ => ⟨⟨0, Nat.zero_le _, rfl, by simp [keysB]⟩, fun k hk => ⟨fun h2 => ?_, fun h2 => ?_⟩⟩⟩
    · have hk' : k < y.keys.length := by omega
      have p4 := keysB_take_le y.keys k
      exact ⟨by omega, by omega, by omega, low _ _ (by simp only [List.length_append]; omega), by unfold inI64; omega, k + 1, hk', by omega, by omega, by rw [keysB_up hk']; simp only [List.append_assoc]⟩
    · have p4 := keysB_take_le y.keys k
      have p5 := uintB_le y.after
      have e1 : y.keys.take k = y.keys := List.take_of_length_le (by omega)
      have F1 : (BH.mk (uintB (wr .u64 (bs.length : Int)) ++ brsB (bs.take i) ++ uintB (wr .u64 (y.keys.length : Int)) ++ keysB (y.keys.take k)) y.lock).Ok := ⟨by simp only [List.length_append]; omega, hl⟩
      have F2 : (BN.mk (uintB (wr .u64 (bs.length : Int)) ++ brsB (bs.take i) ++ uintB (wr .u64 (y.keys.length : Int)) ++ keysB (y.keys.take k) ++ y.lock) (wr .u64 y.after)).Low := low _ _ (by simp only [List.length_append]; omega)
      have F3 : (BN.mk (uintB (wr .u64 (bs.length : Int)) ++ brsB (bs.take i) ++ uintB (wr .u64 (y.keys.length : Int)) ++ keysB (y.keys.take k) ++ y.lock ++ uintB (wr .u64 y.after)) (wr .u64 y.older)).Low := low _ _ (by simp only [List.length_append]; omega)
      have F4 : inI64 ((i : Int) + 1) := by unfold inI64; omega
      have F5 : ∃ j, Nat.le j bs.length ∧ bs.length - j < bs.length - i ∧ (j : Int) = (i : Int) + 1 ∧ uintB (wr .u64 (bs.length : Int)) ++ brsB (bs.take j) = uintB (wr .u64 (bs.length : Int)) ++ brsB (bs.take i) ++ uintB (wr .u64 (y.keys.length : Int)) ++ keysB (y.keys.take k) ++ y.lock ++ uintB (wr .u64 y.after) ++ uintB (wr .u64 y.older) :=
        ⟨i + 1, hi', by omega, by omega, by rw [brsB_up (y := y) hy, e1]; simp only [brB, List.append_assoc]⟩
      simp only [F1, F2, F3, F4, F5, and_self]
  · have p1 := brsB_le hlk
    have e1 : bs.take i = bs := List.take_of_length_le (by omega)
    rw [e1]
    refine ⟨show (uintB (wr .u64 (bs.length : Int)) ++ brsB bs).length ≤ 1099511627776 by simp only [List.length_append]; omega, ⟨by simp, by simp only [flat, List.length_append, List.length_nil]; omega⟩, by simp only [flat, putB, List.append_nil]⟩
theorem put_ok : Fits E73 f25 (bodyOf f25) putLS putAnn := by
  constructor
  rw [← put_eq]
  exact put_vc
theorem f25_has : Has prog 25 f25 (bodyOf f25) := ⟨by kernel_rfl, by kernel_rfl, by kernel_rfl⟩
theorem known74 : Known prog L74 := by
  unfold L74
  exact known73.lent mixed f25_has E73_eq put_ok (fun _ _ => Nat.zero_le _) (fun _ _ => rfl)

theorem dup {A B L C : Prop} (a : A) (b : B) (c : C) : (A ∧ B ∧ (L → C)) ∧ (L → A ∧ B ∧ C) := ⟨⟨a, b, fun _ => c⟩, fun _ => ⟨a, b, c⟩⟩
def rPutVC : Prop := ∀ (x : PutX), x.Ok → (x.b.length * (1 : Nat) ≤ (140737488355328 : Nat) ∧ x.b.length ≤ (1152921504606846976 : Nat) ∧ ((↑x.bs.length : Int) ≤
  (9223372036854775807 : Int) → (x.b = x.b ∧ wr IntKind.u64 (↑x.bs.length : Int) = wr IntKind.u64 (↑x.bs.length : Int)) ∧ True ∧ (BN.mk x.b (wr
  IntKind.u64 (↑x.bs.length : Int))).Low ∧ (∃ x_1, Nat.le x_1 x.bs.length ∧ ((↑x_1 : Int) = (0 : Int) ∧ x.b ++ uintB (wr IntKind.u64 (↑x.bs.length :
  Int)) ++ brsB (List.take x_1 x.bs) = x.b ++ uintB (wr IntKind.u64 (↑x.bs.length : Int))) ∧ ((x.bs = x.bs ∧ True) ∧ x.b = x.b ∧ True) ∧ True) ∧ ∀ (x_1 :
  Nat), x_1.le x.bs.length → (↑x.bs.length : Int) ≤ (9223372036854775807 : Int) → (decide ((↑x_1 : Int) < (↑x.bs.length : Int)) = true → (0 : Int) ≤
  (↑x_1 : Int) ∧ (↑x_1 : Int) < (↑x.bs.length : Int) ∧ ∀ (y : AA (48 : Nat)), x.bs[(↑x_1 : Int).toNat]? = some y → (↑y.keys.length : Int) ≤
  (9223372036854775807 : Int) → (x.b ++ uintB (wr IntKind.u64 (↑x.bs.length : Int)) ++ brsB (List.take x_1 x.bs) = x.b ++ uintB (wr IntKind.u64
  (↑x.bs.length : Int)) ++ brsB (List.take x_1 x.bs) ∧ wr IntKind.u64 (↑y.keys.length : Int) = wr IntKind.u64 (↑y.keys.length : Int)) ∧ True ∧ (BN.mk
  (x.b ++ uintB (wr IntKind.u64 (↑x.bs.length : Int)) ++ brsB (List.take x_1 x.bs)) (wr IntKind.u64 (↑y.keys.length : Int))).Low ∧ (∃ x_2, Nat.le x_2
  y.keys.length ∧ ((↑x_2 : Int) = (0 : Int) ∧ x.b ++ uintB (wr IntKind.u64 (↑x.bs.length : Int)) ++ brsB (List.take x_1 x.bs) ++ uintB (wr IntKind.u64
  (↑y.keys.length : Int)) ++ keysB (List.take x_2 y.keys) = x.b ++ uintB (wr IntKind.u64 (↑x.bs.length : Int)) ++ brsB (List.take x_1 x.bs) ++ uintB (wr
  IntKind.u64 (↑y.keys.length : Int))) ∧ ((x.bs = x.bs ∧ True) ∧ x.b = x.b ∧ (y.keys = y.keys ∧ y.lock = y.lock ∧ y.after = y.after ∧ y.older = y.older ∧
  True) ∧ True) ∧ True) ∧ ∀ (x_2 : Nat), x_2.le y.keys.length → (↑y.keys.length : Int) ≤ (9223372036854775807 : Int) → (decide ((↑x_2 : Int) <
  (↑y.keys.length : Int)) = true → (0 : Int) ≤ (↑x_2 : Int) ∧ (↑x_2 : Int) < (↑y.keys.length : Int) ∧ (↑x_2 : Int).toNat < y.keys.length ∧ (x.b ++ uintB
  (wr IntKind.u64 (↑x.bs.length : Int)) ++ brsB (List.take x_1 x.bs) ++ uintB (wr IntKind.u64 (↑y.keys.length : Int)) ++ keysB (List.take x_2 y.keys) =
  x.b ++ uintB (wr IntKind.u64 (↑x.bs.length : Int)) ++ brsB (List.take x_1 x.bs) ++ uintB (wr IntKind.u64 (↑y.keys.length : Int)) ++ keysB (List.take
  x_2 y.keys) ∧ wr IntKind.u64 (y.keys.getD (↑x_2 : Int).toNat (0 : Int)) = wr IntKind.u64 (y.keys.getD (↑x_2 : Int).toNat (0 : Int))) ∧ True ∧ (BN.mk
  (x.b ++ uintB (wr IntKind.u64 (↑x.bs.length : Int)) ++ brsB (List.take x_1 x.bs) ++ uintB (wr IntKind.u64 (↑y.keys.length : Int)) ++ keysB (List.take
  x_2 y.keys)) (wr IntKind.u64 (y.keys.getD (↑x_2 : Int).toNat (0 : Int)))).Low ∧ inI64 ((↑x_2 : Int) + (1 : Int)) ∧ ∃ y_1, Nat.le y_1 y.keys.length ∧
  y.keys.length - y_1 < y.keys.length - x_2 ∧ ((↑y_1 : Int) = (↑x_2 : Int) + (1 : Int) ∧ x.b ++ uintB (wr IntKind.u64 (↑x.bs.length : Int)) ++ brsB
  (List.take x_1 x.bs) ++ uintB (wr IntKind.u64 (↑y.keys.length : Int)) ++ keysB (List.take y_1 y.keys) = x.b ++ uintB (wr IntKind.u64 (↑x.bs.length :
  Int)) ++ brsB (List.take x_1 x.bs) ++ uintB (wr IntKind.u64 (↑y.keys.length : Int)) ++ keysB (List.take x_2 y.keys) ++ uintB (wr IntKind.u64
  (y.keys.getD (↑x_2 : Int).toNat (0 : Int)))) ∧ ((x.bs = x.bs ∧ True) ∧ x.b = x.b ∧ (y.keys = y.keys ∧ y.lock = y.lock ∧ y.after = y.after ∧ y.older =
  y.older ∧ True) ∧ True) ∧ True) ∧ (decide ((↑x_2 : Int) < (↑y.keys.length : Int)) = false → (x.b ++ uintB (wr IntKind.u64 (↑x.bs.length : Int)) ++ brsB
  (List.take x_1 x.bs) ++ uintB (wr IntKind.u64 (↑y.keys.length : Int)) ++ keysB (List.take x_2 y.keys) = x.b ++ uintB (wr IntKind.u64 (↑x.bs.length :
  Int)) ++ brsB (List.take x_1 x.bs) ++ uintB (wr IntKind.u64 (↑y.keys.length : Int)) ++ keysB (List.take x_2 y.keys) ∧ y.lock = y.lock ∧ True) ∧ True ∧
  (BH.mk (x.b ++ uintB (wr IntKind.u64 (↑x.bs.length : Int)) ++ brsB (List.take x_1 x.bs) ++ uintB (wr IntKind.u64 (↑y.keys.length : Int)) ++ keysB
  (List.take x_2 y.keys)) y.lock).Ok ∧ (x.b ++ uintB (wr IntKind.u64 (↑x.bs.length : Int)) ++ brsB (List.take x_1 x.bs) ++ uintB (wr IntKind.u64
  (↑y.keys.length : Int)) ++ keysB (List.take x_2 y.keys) ++ y.lock = x.b ++ uintB (wr IntKind.u64 (↑x.bs.length : Int)) ++ brsB (List.take x_1 x.bs) ++
  uintB (wr IntKind.u64 (↑y.keys.length : Int)) ++ keysB (List.take x_2 y.keys) ++ y.lock ∧ wr IntKind.u64 y.after = wr IntKind.u64 y.after) ∧ True ∧
  (BN.mk (x.b ++ uintB (wr IntKind.u64 (↑x.bs.length : Int)) ++ brsB (List.take x_1 x.bs) ++ uintB (wr IntKind.u64 (↑y.keys.length : Int)) ++ keysB
  (List.take x_2 y.keys) ++ y.lock) (wr IntKind.u64 y.after)).Low ∧ (x.b ++ uintB (wr IntKind.u64 (↑x.bs.length : Int)) ++ brsB (List.take x_1 x.bs) ++
  uintB (wr IntKind.u64 (↑y.keys.length : Int)) ++ keysB (List.take x_2 y.keys) ++ y.lock ++ uintB (wr IntKind.u64 y.after) = x.b ++ uintB (wr
  IntKind.u64 (↑x.bs.length : Int)) ++ brsB (List.take x_1 x.bs) ++ uintB (wr IntKind.u64 (↑y.keys.length : Int)) ++ keysB (List.take x_2 y.keys) ++
  y.lock ++ uintB (wr IntKind.u64 y.after) ∧ wr IntKind.u64 y.older = wr IntKind.u64 y.older) ∧ True ∧ (BN.mk (x.b ++ uintB (wr IntKind.u64 (↑x.bs.length
  : Int)) ++ brsB (List.take x_1 x.bs) ++ uintB (wr IntKind.u64 (↑y.keys.length : Int)) ++ keysB (List.take x_2 y.keys) ++ y.lock ++ uintB (wr
  IntKind.u64 y.after)) (wr IntKind.u64 y.older)).Low ∧ inI64 ((↑x_1 : Int) + (1 : Int)) ∧ ∃ y_1, Nat.le y_1 x.bs.length ∧ x.bs.length - y_1 <
  x.bs.length - x_1 ∧ ((↑y_1 : Int) = (↑x_1 : Int) + (1 : Int) ∧ x.b ++ uintB (wr IntKind.u64 (↑x.bs.length : Int)) ++ brsB (List.take y_1 x.bs) = x.b ++
  uintB (wr IntKind.u64 (↑x.bs.length : Int)) ++ brsB (List.take x_1 x.bs) ++ uintB (wr IntKind.u64 (↑y.keys.length : Int)) ++ keysB (List.take x_2
  y.keys) ++ y.lock ++ uintB (wr IntKind.u64 y.after) ++ uintB (wr IntKind.u64 y.older)) ∧ ((x.bs = x.bs ∧ True) ∧ x.b = x.b ∧ True) ∧ True)) ∧ (decide
  ((↑x_1 : Int) < (↑x.bs.length : Int)) = false → x.b ++ putB x.bs = x.b ++ uintB (wr IntKind.u64 (↑x.bs.length : Int)) ++ brsB (List.take x_1 x.bs) ∧
  True ∧ True))) ∧ ((↑x.bs.length : Int) ≤ (9223372036854775807 : Int) → x.b.length * (1 : Nat) ≤ (140737488355328 : Nat) ∧ x.b.length ≤
  (1152921504606846976 : Nat) ∧ (x.b = x.b ∧ wr IntKind.u64 (↑x.bs.length : Int) = wr IntKind.u64 (↑x.bs.length : Int)) ∧ True ∧ (BN.mk x.b (wr
  IntKind.u64 (↑x.bs.length : Int))).Low ∧ (∃ x_1, Nat.le x_1 x.bs.length ∧ ((↑x_1 : Int) = (0 : Int) ∧ x.b ++ uintB (wr IntKind.u64 (↑x.bs.length :
  Int)) ++ brsB (List.take x_1 x.bs) = x.b ++ uintB (wr IntKind.u64 (↑x.bs.length : Int))) ∧ ((x.bs = x.bs ∧ True) ∧ x.b = x.b ∧ True) ∧ True) ∧ ∀ (x_1 :
  Nat), x_1.le x.bs.length → (↑x.bs.length : Int) ≤ (9223372036854775807 : Int) → (decide ((↑x_1 : Int) < (↑x.bs.length : Int)) = true → (0 : Int) ≤
  (↑x_1 : Int) ∧ (↑x_1 : Int) < (↑x.bs.length : Int) ∧ ∀ (y : AA (48 : Nat)), x.bs[(↑x_1 : Int).toNat]? = some y → (↑y.keys.length : Int) ≤
  (9223372036854775807 : Int) → (x.b ++ uintB (wr IntKind.u64 (↑x.bs.length : Int)) ++ brsB (List.take x_1 x.bs) = x.b ++ uintB (wr IntKind.u64
  (↑x.bs.length : Int)) ++ brsB (List.take x_1 x.bs) ∧ wr IntKind.u64 (↑y.keys.length : Int) = wr IntKind.u64 (↑y.keys.length : Int)) ∧ True ∧ (BN.mk
  (x.b ++ uintB (wr IntKind.u64 (↑x.bs.length : Int)) ++ brsB (List.take x_1 x.bs)) (wr IntKind.u64 (↑y.keys.length : Int))).Low ∧ (∃ x_2, Nat.le x_2
  y.keys.length ∧ ((↑x_2 : Int) = (0 : Int) ∧ x.b ++ uintB (wr IntKind.u64 (↑x.bs.length : Int)) ++ brsB (List.take x_1 x.bs) ++ uintB (wr IntKind.u64
  (↑y.keys.length : Int)) ++ keysB (List.take x_2 y.keys) = x.b ++ uintB (wr IntKind.u64 (↑x.bs.length : Int)) ++ brsB (List.take x_1 x.bs) ++ uintB (wr
  IntKind.u64 (↑y.keys.length : Int))) ∧ ((x.bs = x.bs ∧ True) ∧ x.b = x.b ∧ (y.keys = y.keys ∧ y.lock = y.lock ∧ y.after = y.after ∧ y.older = y.older ∧
  True) ∧ True) ∧ True) ∧ ∀ (x_2 : Nat), x_2.le y.keys.length → (↑y.keys.length : Int) ≤ (9223372036854775807 : Int) → (decide ((↑x_2 : Int) <
  (↑y.keys.length : Int)) = true → (0 : Int) ≤ (↑x_2 : Int) ∧ (↑x_2 : Int) < (↑y.keys.length : Int) ∧ (↑x_2 : Int).toNat < y.keys.length ∧ (x.b ++ uintB
  (wr IntKind.u64 (↑x.bs.length : Int)) ++ brsB (List.take x_1 x.bs) ++ uintB (wr IntKind.u64 (↑y.keys.length : Int)) ++ keysB (List.take x_2 y.keys) =
  x.b ++ uintB (wr IntKind.u64 (↑x.bs.length : Int)) ++ brsB (List.take x_1 x.bs) ++ uintB (wr IntKind.u64 (↑y.keys.length : Int)) ++ keysB (List.take
  x_2 y.keys) ∧ wr IntKind.u64 (y.keys.getD (↑x_2 : Int).toNat (0 : Int)) = wr IntKind.u64 (y.keys.getD (↑x_2 : Int).toNat (0 : Int))) ∧ True ∧ (BN.mk
  (x.b ++ uintB (wr IntKind.u64 (↑x.bs.length : Int)) ++ brsB (List.take x_1 x.bs) ++ uintB (wr IntKind.u64 (↑y.keys.length : Int)) ++ keysB (List.take
  x_2 y.keys)) (wr IntKind.u64 (y.keys.getD (↑x_2 : Int).toNat (0 : Int)))).Low ∧ inI64 ((↑x_2 : Int) + (1 : Int)) ∧ ∃ y_1, Nat.le y_1 y.keys.length ∧
  y.keys.length - y_1 < y.keys.length - x_2 ∧ ((↑y_1 : Int) = (↑x_2 : Int) + (1 : Int) ∧ x.b ++ uintB (wr IntKind.u64 (↑x.bs.length : Int)) ++ brsB
  (List.take x_1 x.bs) ++ uintB (wr IntKind.u64 (↑y.keys.length : Int)) ++ keysB (List.take y_1 y.keys) = x.b ++ uintB (wr IntKind.u64 (↑x.bs.length :
  Int)) ++ brsB (List.take x_1 x.bs) ++ uintB (wr IntKind.u64 (↑y.keys.length : Int)) ++ keysB (List.take x_2 y.keys) ++ uintB (wr IntKind.u64
  (y.keys.getD (↑x_2 : Int).toNat (0 : Int)))) ∧ ((x.bs = x.bs ∧ True) ∧ x.b = x.b ∧ (y.keys = y.keys ∧ y.lock = y.lock ∧ y.after = y.after ∧ y.older =
  y.older ∧ True) ∧ True) ∧ True) ∧ (decide ((↑x_2 : Int) < (↑y.keys.length : Int)) = false → (x.b ++ uintB (wr IntKind.u64 (↑x.bs.length : Int)) ++ brsB
  (List.take x_1 x.bs) ++ uintB (wr IntKind.u64 (↑y.keys.length : Int)) ++ keysB (List.take x_2 y.keys) = x.b ++ uintB (wr IntKind.u64 (↑x.bs.length :
  Int)) ++ brsB (List.take x_1 x.bs) ++ uintB (wr IntKind.u64 (↑y.keys.length : Int)) ++ keysB (List.take x_2 y.keys) ∧ y.lock = y.lock ∧ True) ∧ True ∧
  (BH.mk (x.b ++ uintB (wr IntKind.u64 (↑x.bs.length : Int)) ++ brsB (List.take x_1 x.bs) ++ uintB (wr IntKind.u64 (↑y.keys.length : Int)) ++ keysB
  (List.take x_2 y.keys)) y.lock).Ok ∧ (x.b ++ uintB (wr IntKind.u64 (↑x.bs.length : Int)) ++ brsB (List.take x_1 x.bs) ++ uintB (wr IntKind.u64
  (↑y.keys.length : Int)) ++ keysB (List.take x_2 y.keys) ++ y.lock = x.b ++ uintB (wr IntKind.u64 (↑x.bs.length : Int)) ++ brsB (List.take x_1 x.bs) ++
  uintB (wr IntKind.u64 (↑y.keys.length : Int)) ++ keysB (List.take x_2 y.keys) ++ y.lock ∧ wr IntKind.u64 y.after = wr IntKind.u64 y.after) ∧ True ∧
  (BN.mk (x.b ++ uintB (wr IntKind.u64 (↑x.bs.length : Int)) ++ brsB (List.take x_1 x.bs) ++ uintB (wr IntKind.u64 (↑y.keys.length : Int)) ++ keysB
  (List.take x_2 y.keys) ++ y.lock) (wr IntKind.u64 y.after)).Low ∧ (x.b ++ uintB (wr IntKind.u64 (↑x.bs.length : Int)) ++ brsB (List.take x_1 x.bs) ++
  uintB (wr IntKind.u64 (↑y.keys.length : Int)) ++ keysB (List.take x_2 y.keys) ++ y.lock ++ uintB (wr IntKind.u64 y.after) = x.b ++ uintB (wr
  IntKind.u64 (↑x.bs.length : Int)) ++ brsB (List.take x_1 x.bs) ++ uintB (wr IntKind.u64 (↑y.keys.length : Int)) ++ keysB (List.take x_2 y.keys) ++
  y.lock ++ uintB (wr IntKind.u64 y.after) ∧ wr IntKind.u64 y.older = wr IntKind.u64 y.older) ∧ True ∧ (BN.mk (x.b ++ uintB (wr IntKind.u64 (↑x.bs.length
  : Int)) ++ brsB (List.take x_1 x.bs) ++ uintB (wr IntKind.u64 (↑y.keys.length : Int)) ++ keysB (List.take x_2 y.keys) ++ y.lock ++ uintB (wr
  IntKind.u64 y.after)) (wr IntKind.u64 y.older)).Low ∧ inI64 ((↑x_1 : Int) + (1 : Int)) ∧ ∃ y_1, Nat.le y_1 x.bs.length ∧ x.bs.length - y_1 <
  x.bs.length - x_1 ∧ ((↑y_1 : Int) = (↑x_1 : Int) + (1 : Int) ∧ x.b ++ uintB (wr IntKind.u64 (↑x.bs.length : Int)) ++ brsB (List.take y_1 x.bs) = x.b ++
  uintB (wr IntKind.u64 (↑x.bs.length : Int)) ++ brsB (List.take x_1 x.bs) ++ uintB (wr IntKind.u64 (↑y.keys.length : Int)) ++ keysB (List.take x_2
  y.keys) ++ y.lock ++ uintB (wr IntKind.u64 y.after) ++ uintB (wr IntKind.u64 y.older)) ∧ ((x.bs = x.bs ∧ True) ∧ x.b = x.b ∧ True) ∧ True)) ∧ (decide
  ((↑x_1 : Int) < (↑x.bs.length : Int)) = false → x.b ++ putB x.bs = x.b ++ uintB (wr IntKind.u64 (↑x.bs.length : Int)) ++ brsB (List.take x_1 x.bs) ∧
  True ∧ True))

theorem rPut_eq : rPutVC = fnS E74 f26 (bodyOf f26) rPutLS rPutAnn := by kernel_rfl
theorem rPut_vc : rPutVC := by
  rintro ⟨b, bs⟩ ⟨hb, hw, hlk⟩
  simp only at hb hw hlk
  have low : ∀ (xs : List Int) (n : Int), xs.length ≤ 1000000000000 → (BN.mk xs (wr .u64 n)).Low := fun xs n h => ⟨h, u64_wr n⟩
  have p0 := uintB_le (bs.length : Int)
  simp only [true_and, and_true, decide_eq_true_eq, decide_eq_false_iff_not, Int.toNat_natCast]
  refine dup (by omega) (by omega) ⟨low _ _ (by omega), ⟨0, Nat.zero_le _, rfl, by simp [brsB]⟩, fun i hi _ => ⟨fun h => ?_, fun h => ?_⟩⟩
  · have hi' : i < bs.length := by omega
    have p1 := brsB_take_le hlk i
    refine ⟨by omega, by omega, fun y hy _ => ?_⟩
    have p2 := uintB_le (y.keys.length : Int)
    have p3 : y.keys.length ≤ weight bs := key_w hy
    have hl : y.lock.length = 32 := hlk y (List.mem_of_getElem? hy)
    refine ⟨low _ _ (by simp only [List.length_append]; omega), ⟨0, Nat.zero_le _, rfl, by simp [keysB]⟩, fun k hk _ => ⟨fun h2 => ?_, fun h2 => ?_⟩⟩
    · have hk' : k < y.keys.length := by omega
      have p4 := keysB_take_le y.keys k
      exact ⟨by omega, by omega, by omega, low _ _ (by simp only [List.length_append]; omega), by unfold inI64; omega, k + 1, hk', by omega, by omega, by rw [keysB_up hk']; simp only [List.append_assoc]⟩
    · have p4 := keysB_take_le y.keys k
      have p5 := uintB_le y.after
      have e1 : y.keys.take k = y.keys := List.take_of_length_le (by omega)
      have F1 : (BH.mk (b ++ uintB (wr .u64 (bs.length : Int)) ++ brsB (bs.take i) ++ uintB (wr .u64 (y.keys.length : Int)) ++ keysB (y.keys.take k)) y.lock).Ok := ⟨by simp only [List.length_append]; omega, hl⟩
      have F2 : (BN.mk (b ++ uintB (wr .u64 (bs.length : Int)) ++ brsB (bs.take i) ++ uintB (wr .u64 (y.keys.length : Int)) ++ keysB (y.keys.take k) ++ y.lock) (wr .u64 y.after)).Low := low _ _ (by simp only [List.length_append]; omega)
      have F3 : (BN.mk (b ++ uintB (wr .u64 (bs.length : Int)) ++ brsB (bs.take i) ++ uintB (wr .u64 (y.keys.length : Int)) ++ keysB (y.keys.take k) ++ y.lock ++ uintB (wr .u64 y.after)) (wr .u64 y.older)).Low := low _ _ (by simp only [List.length_append]; omega)
      have F4 : inI64 ((i : Int) + 1) := by unfold inI64; omega
      have F5 : ∃ j, Nat.le j bs.length ∧ bs.length - j < bs.length - i ∧ (j : Int) = (i : Int) + 1 ∧ b ++ uintB (wr .u64 (bs.length : Int)) ++ brsB (bs.take j) = b ++ uintB (wr .u64 (bs.length : Int)) ++ brsB (bs.take i) ++ uintB (wr .u64 (y.keys.length : Int)) ++ keysB (y.keys.take k) ++ y.lock ++ uintB (wr .u64 y.after) ++ uintB (wr .u64 y.older) :=
        ⟨i + 1, hi', by omega, by omega, by rw [brsB_up (y := y) hy, e1]; simp only [brB, List.append_assoc]⟩
      simp only [F1, F2, F3, F4, F5, and_self]
  · have p1 := brsB_le hlk
    have e1 : bs.take i = bs := List.take_of_length_le (by omega)
    rw [e1]
    simp only [putB, List.append_assoc]
theorem rPut_ok : Fits E74 f26 (bodyOf f26) rPutLS rPutAnn := by
  constructor
  rw [← rPut_eq]
  exact rPut_vc
theorem f26_has : Has prog 26 f26 (bodyOf f26) := ⟨by kernel_rfl, by kernel_rfl, by kernel_rfl⟩
theorem known75 : Known prog L75 := by
  unfold L75
  exact known74.lent mixed f26_has E74_eq rPut_ok (fun _ _ => Nat.le_refl _) (fun _ _ => rfl)
end Go.Proofs.YtcglahfmnoghjaaDoor

/-! Bytes read back: what is said of the reader. Conditions: none. -/
namespace Go.Proofs.YtcglahfmnoghjaaDoor
open Go Go.Eng Go.Proofs.Tryd

/-- A reader: its bytes, where it stands, its error. -/
structure Rd where
  b : List Int
  i : Int
  e : Int
structure Rd.Ok (r : Rd) : Prop where
  byt : ∀ y, y ∈ r.b → 0 ≤ y ∧ y < 256
  lo : 0 ≤ r.i
  hi : r.i ≤ r.b.length
  len : r.b.length ≤ 1000000000000
def rcell (r : Rd) : SO AA := .cells 174 (.cell (.rints .u8 r.b) (.cell (.int .i64 r.i) (.cell (.err 94 r.e) .nil)))
def asE : SV AA → Option Int
  | .err _ n => some n
  | .val .nilIface => some 0
  | .iface _ s => asI s
  | _ => none
def rdOf (sh : List (SO AA)) : SV AA → Option Rd
  | .ptr i _ => match nth sh i with
    | some (.cells _ (.cell b (.cell n (.cell e .nil)))) => match gI .u8 sh b, asI n, asE e with
      | some b, some n, some e => some ⟨b, n, e⟩
      | _, _, _ => none
    | _ => none
  | _ => none
def rdGet (args : List (SV AA)) (sh : List (SO AA)) : Option Rd := match args with
  | [r] => rdOf sh r
  | _ => none
def Rd.left (r : Rd) : List Int := r.b.drop r.i.toNat
def Rd.fail (r : Rd) (n : Int) : Rd := ⟨r.b, r.i, if r.e = 0 then n else r.e⟩
/-! ## Has it failed; what is left; an error -/
def offLS : LS AA where
  X := Rd
  pre := fun _ => True
  args := fun _ => [.ptr 0 0]
  hin := fun r => [rcell r]
  res := fun r => [.sb 0 (decide (r.e ≠ 0))]
  hout := fun r => [rcell r]
def L120 : List (Nat × SpecT AA) := (107, tLent offLS rdGet) :: L74
noncomputable def F120 : Eng AA := EF prog L120
theorem F120_eq : F120 = EF prog L120 := by
  unfold F120
  rfl
noncomputable def F74 : Eng AA := EF prog L74
theorem F74_eq : F74 = EF prog L74 := by
  unfold F74
  rfl
def restLS : LS AA where
  X := Rd
  pre := Rd.Ok
  args := fun _ => [.ptr 0 0]
  hin := fun r => [rcell r]
  res := fun r => [.rints .u8 r.left]
  hout := fun r => [rcell r]
def L121 : List (Nat × SpecT AA) := (109, tLent restLS rdGet) :: L120
noncomputable def F121 : Eng AA := EF prog L121
theorem F121_eq : F121 = EF prog L121 := by
  unfold F121
  rfl
structure RdE where
  r : Rd
  n : Int
def rdeGet (args : List (SV AA)) (sh : List (SO AA)) : Option RdE := match args with
  | [r, n] => match rdOf sh r, asE n with
    | some r, some n => some ⟨r, n⟩
    | _, _ => none
  | _ => none
def failLS : LS AA where
  X := RdE
  pre := fun _ => True
  args := fun x => [.ptr 0 0, .err 94 x.n]
  hin := fun x => [rcell x.r]
  res := fun _ => []
  hout := fun x => [rcell (x.r.fail x.n)]
def L122 : List (Nat × SpecT AA) := (110, tLent failLS rdeGet) :: L121
noncomputable def F122 : Eng AA := EF prog L122
theorem F122_eq : F122 = EF prog L122 := by
  unfold F122
  rfl
/-! ## Numbers -/
/-- So many bytes, the highest first. -/
def bigE (l : List Int) : Int := l.foldl (fun a b => a * 256 + b) 0
/-- What is wrong with a number's digits. -/
def lowE (s : List Int) (n : Int) : Int := if (s.length : Int) < n then 12 else if n > 0 ∧ s.head? = some 0 then 3 else 0
structure LowX where
  r : Rd
  n : Int
structure LowX.Ok (x : LowX) : Prop where
  r : x.r.Ok
  more : x.r.i < x.r.b.length
  lo : 0 ≤ x.n
  hi : x.n ≤ 8
def lowN2 (s : List Int) (n : Int) : Int := if lowE s n = 0 then bigE (s.take n.toNat) else 0
def lowLS : LS AA where
  X := LowX
  pre := LowX.Ok
  args := fun x => [.ptr 0 0, .int .i64 x.n, .lit .u8 0]
  hin := fun x => [rcell x.r]
  res := fun x => [.int .u64 (lowN2 x.r.left.tail x.n), .err 94 (lowE x.r.left.tail x.n)]
  hout := fun x => [rcell x.r]
def lowGet (args : List (SV AA)) (sh : List (SO AA)) : Option LowX := match args with
  | [r, n, _] => match rdOf sh r, asI n with
    | some r, some n => some ⟨r, n⟩
    | _, _ => none
  | _ => none
def lowAnn (x : LowX) : Anns AA := fun _ _ _ => some {
  X := Nat
  inv := fun k => (k : Int) ≤ x.n
  meas := fun k => x.n.toNat - k
  slots := fun k => [(34, .int .i64 k), (9, .int .u64 (bigE (x.r.left.tail.take k)))]
  heap := fun _ => [] }
def L123 : List (Nat × SpecT AA) := (129, tLent lowLS lowGet) :: L122
noncomputable def F123 : Eng AA := EF prog L123
theorem F123_eq : F123 = EF prog L123 := by
  unfold F123
  rfl
/-- What is wrong with a number; the number; how many bytes it has. -/
def numE (l : List Int) (most : Int) : Int := match l with
  | [] => 12
  | c :: s => if c > 8 then 3 else if lowE s c ≠ 0 then lowE s c else if bigE (s.take c.toNat) > most then 4 else 0
def numV (l : List Int) : Int := match l with
  | [] => 0
  | c :: s => bigE (s.take c.toNat)
def numW (l : List Int) : Int := match l with
  | [] => 0
  | c :: _ => 1 + c
structure RdN where
  r : Rd
  n : Int
structure RdN.Ok (x : RdN) : Prop where
  r : x.r.Ok
  lo : 0 ≤ x.n
def numberLS : LS AA where
  X := RdN
  pre := RdN.Ok
  args := fun x => [.ptr 0 0, .int .u64 x.n]
  hin := fun x => [rcell x.r]
  res := fun x => [.int .u64 (if numE x.r.left x.n = 0 then numV x.r.left else 0), .int .i64 (if numE x.r.left x.n = 0 then numW x.r.left else 0), .sb 0 (decide (numE x.r.left x.n = 0))]
  hout := fun x => [rcell (if numE x.r.left x.n = 0 then x.r else x.r.fail (numE x.r.left x.n))]
def rdnGet (args : List (SV AA)) (sh : List (SO AA)) : Option RdN := match args with
  | [r, n] => match rdOf sh r, asU n with
    | some r, some n => some ⟨r, n⟩
    | _, _ => none
  | _ => none
def L124 : List (Nat × SpecT AA) := (108, tLent numberLS rdnGet) :: L123
noncomputable def F124 : Eng AA := EF prog L124
theorem F124_eq : F124 = EF prog L124 := by
  unfold F124
  rfl
def uintR (r : Rd) (most : Int) : Int × Rd := if r.e ≠ 0 then (0, r) else if numE r.left most ≠ 0 then (0, ⟨r.b, r.i, numE r.left most⟩) else (numV r.left, ⟨r.b, r.i + numW r.left, 0⟩)
def rUintLS2 : LS AA where
  X := RdN
  pre := RdN.Ok
  args := fun x => [.ptr 0 0, .int .u64 x.n]
  hin := fun x => [rcell x.r]
  res := fun x => [.int .u64 (uintR x.r x.n).1]
  hout := fun x => [rcell (uintR x.r x.n).2]
def L125 : List (Nat × SpecT AA) := (78, tLent rUintLS2 rdnGet) :: L124
noncomputable def F125 : Eng AA := EF prog L125
theorem F125_eq : F125 = EF prog L125 := by
  unfold F125
  rfl
def countR (r : Rd) (most : Int) : Int × Rd := if r.e ≠ 0 then (0, r) else if numE r.left most ≠ 0 then (0, ⟨r.b, r.i, numE r.left most⟩)
  else if numV r.left > r.left.length - numW r.left then (0, ⟨r.b, r.i, 2⟩) else (numV r.left, ⟨r.b, r.i + numW r.left, 0⟩)
def rdiGet (args : List (SV AA)) (sh : List (SO AA)) : Option RdN := match args with
  | [r, n] => match rdOf sh r, asI n with
    | some r, some n => some ⟨r, n⟩
    | _, _ => none
  | _ => none
structure RdN.Few (x : RdN) : Prop extends RdN.Ok x where
  hi : x.n ≤ 1000000
def countLS : LS AA where
  X := RdN
  pre := RdN.Few
  args := fun x => [.ptr 0 0, .int .i64 x.n]
  hin := fun x => [rcell x.r]
  res := fun x => [.int .i64 (countR x.r x.n).1]
  hout := fun x => [rcell (countR x.r x.n).2]
def L126 : List (Nat × SpecT AA) := (77, tLent countLS rdiGet) :: L125
noncomputable def F126 : Eng AA := EF prog L126
theorem F126_eq : F126 = EF prog L126 := by
  unfold F126
  rfl
/-! ## A hash; the end -/
def hashR (r : Rd) : List Int × Rd := if r.e ≠ 0 then (List.replicate 32 0, r) else if r.left.length < 32 then (List.replicate 32 0, ⟨r.b, r.i, 12⟩) else (r.left.take 32, ⟨r.b, r.i + 32, 0⟩)
def rHashLS2 : LS AA where
  X := Rd
  pre := Rd.Ok
  args := fun _ => [.ptr 0 0]
  hin := fun r => [rcell r]
  res := fun r => [hashV (hashR r).1]
  hout := fun r => [rcell (hashR r).2]
def L127 : List (Nat × SpecT AA) := (79, tLent rHashLS2 rdGet) :: L126
noncomputable def F127 : Eng AA := EF prog L127
theorem F127_eq : F127 = EF prog L127 := by
  unfold F127
  rfl
def doneR (r : Rd) : Int := if r.e ≠ 0 then r.e else if r.i < r.b.length then 3 else 0
def rDoneLS : LS AA where
  X := Rd
  pre := fun _ => True
  args := fun _ => [.ptr 0 0]
  hin := fun r => [rcell r]
  res := fun r => [.err 94 (doneR r)]
  hout := fun r => [rcell r]
def L128 : List (Nat × SpecT AA) := (80, tLent rDoneLS rdGet) :: L127
noncomputable def F128 : Eng AA := EF prog L128
theorem F128_eq : F128 = EF prog L128 := by
  unfold F128
  rfl
def readLS : LS AA where
  X := List Int
  pre := fun _ => True
  args := fun b => [.rints .u8 b]
  hin := fun _ => []
  res := fun _ => [.ptr 0 0]
  hout := fun b => [rcell ⟨b, 0, 0⟩]
def bytesGet1 (args : List (SV AA)) (sh : List (SO AA)) : Option (List Int) := match args with
  | [s] => gI .u8 sh s
  | _ => none
def L129 : List (Nat × SpecT AA) := (76, tLent readLS bytesGet1) :: L128
noncomputable def F129 : Eng AA := EF prog L129
theorem F129_eq : F129 = EF prog L129 := by
  unfold F129
  rfl
end Go.Proofs.YtcglahfmnoghjaaDoor

/-! A condition made of bytes, in plain words: what its own bytes are read as. Conditions: none. -/
namespace Go.Proofs.YtcglahfmnoghjaaDoor
open Go Go.Eng Go.Proofs.Tryd

/-! ## What is read -/
def dKeys : Nat → Rd → List Int × Rd
  | 0, r => ([], r)
  | k + 1, r => ((dKeys k r).1 ++ [(uintR (dKeys k r).2 16).1], (uintR (dKeys k r).2 16).2)
def dK (r : Rd) : List Int × Rd := dKeys (countR r 16).1.toNat (countR r 16).2
def dH (r : Rd) : List Int × Rd := hashR (dK r).2
def dA (r : Rd) : Int × Rd := uintR (dH r).2 1099511627776
def dO (r : Rd) : Int × Rd := uintR (dA r).2 65536
def dBr (r : Rd) : Br × Rd := (⟨(dK r).1, (dH r).1, (dA r).1, (dO r).1⟩, (dO r).2)
def dBrs : Nat → Rd → List Br × Rd
  | 0, r => ([], r)
  | k + 1, r => ((dBrs k r).1 ++ [(dBr (dBrs k r).2).1], (dBr (dBrs k r).2).2)
def dCond (b : List Int) : List Br × Rd := dBrs (countR ⟨b, 0, 0⟩ 8).1.toNat (countR ⟨b, 0, 0⟩ 8).2
noncomputable def decOk (b : List Int) : Bool := decide (doneR (dCond b).2 = 0) && fineB (dCond b).1
noncomputable def decB (b : List Int) : List Br := if decOk b then (dCond b).1 else []
noncomputable def decE (b : List Int) : Int := if decOk b then 0 else 3
/-! ## A number's bytes tell it -/
theorem bigE_digsF : ∀ (f n : Nat), n < 256 ^ f → bigE (digsF f n) = (n : Int)
  | 0, n, h => by
    have : n = 0 := by simpa using h
    subst this
    rfl
  | f + 1, n, h => by
    simp only [digsF]
    split
    · rename_i h0
      rw [h0]; rfl
    · have h1 : n / 256 < 256 ^ f := by
        rw [Nat.pow_succ] at h
        omega
      have ih := bigE_digsF f (n / 256) h1
      unfold bigE at ih ⊢
      rw [List.foldl_append, ih]
      simp only [List.foldl_cons, List.foldl_nil]
      omega
theorem bigE_digs {n : Int} (h : U64 n) : bigE (digs n) = n := by
  unfold digs
  rw [bigE_digsF 8 _ (u64_lt h)]
  have := h.lo
  omega
theorem digs_first {n : Int} (h : U64 n) {x : Int} {l : List Int} (e : digs n = x :: l) : x ≠ 0 := by
  have h1 := (digs_lt h l.length).1 (by rw [e]; simp)
  have h2 : ¬ (0 < n.toNat / 256 ^ (l.length + 1)) := fun h2 => by
    have := (digs_lt h (l.length + 1)).2 h2
    rw [e] at this
    simp at this
  have h3 := digs_get h (i := 0) (by rw [e]; simp)
  rw [e] at h3
  simp only [List.getD_cons_zero, List.length_cons, Nat.add_sub_cancel, Nat.sub_zero] at h3
  rw [Nat.pow_succ, ← Nat.div_div_eq_div_mul] at h2
  rw [h3]
  omega
/-! ## A reader that stands ahead of bytes -/
structure At (r : Rd) (l : List Int) : Prop where
  ok : r.Ok
  e : r.e = 0
  left : r.left = l
theorem left_len (r : Rd) (h : r.Ok) : (r.left.length : Int) = r.b.length - r.i := by
  unfold Rd.left
  have := h.lo
  have := h.hi
  rw [List.length_drop]
  omega
theorem At.step {r : Rd} {a l : List Int} (h : At r (a ++ l)) : At ⟨r.b, r.i + (a.length : Int), 0⟩ l := by
  have h1 := left_len r h.ok
  rw [h.left, List.length_append] at h1
  have h2 := h.ok.lo
  refine ⟨⟨h.ok.byt, ?_, ?_, h.ok.len⟩, rfl, ?_⟩
  · show 0 ≤ r.i + (a.length : Int); omega
  · show r.i + (a.length : Int) ≤ r.b.length; omega
  · show List.drop (r.i + (a.length : Int)).toNat r.b = l
    have h3 := h.left
    unfold Rd.left at h3
    rw [show (r.i + (a.length : Int)).toNat = r.i.toNat + a.length by omega, ← List.drop_drop, h3, List.drop_left]
theorem num_at {l : List Int} {n m : Int} (hn : U64 n) : numE (uintB n ++ l) m = (if n > m then 4 else 0) ∧ numV (uintB n ++ l) = n ∧ numW (uintB n ++ l) = ((uintB n).length : Int) := by
  have h8 := digs_le hn
  have hb := bigE_digs hn
  have e1 : uintB n ++ l = ((digs n).length : Int) :: (digs n ++ l) := rfl
  have ht : (digs n ++ l).take ((digs n).length : Int).toNat = digs n := by
    rw [Int.toNat_natCast, List.take_left]
  have hl : lowE (digs n ++ l) ((digs n).length : Int) = 0 := by
    unfold lowE
    rw [if_neg (by rw [List.length_append]; omega), if_neg]
    rintro ⟨h1, h2⟩
    cases e : digs n with
    | nil => rw [e] at h1; simp at h1
    | cons x xs =>
      rw [e] at h2
      simp only [List.cons_append, List.head?_cons, Option.some.injEq] at h2
      exact digs_first hn e h2
  rw [e1]
  refine ⟨?_, ?_, ?_⟩
  · simp only [numE]
    rw [if_neg (by omega), if_neg (fun h => h hl), ht, hb]
  · simp only [numV]
    rw [ht, hb]
  · simp only [numW, uintB, List.length_cons]
    omega
theorem uint_at {r : Rd} {l : List Int} {n m : Int} (h : At r (uintB n ++ l)) (hn : U64 n) : n ≤ m ∧ (uintR r m).1 = n ∧ At (uintR r m).2 l ∨ m < n ∧ (uintR r m).2.e ≠ 0 := by
  obtain ⟨h1, h2, h3⟩ := num_at (l := l) (m := m) hn
  unfold uintR
  rw [if_neg (by simp [h.e]), h.left, h1, h2, h3]
  by_cases hm : n ≤ m
  · rw [if_neg (by rw [if_neg (by omega)]; simp)]
    exact .inl ⟨hm, rfl, h.step⟩
  · rw [if_pos (by rw [if_pos (by omega)]; simp)]
    refine .inr ⟨by omega, ?_⟩
    show (if n > m then (4 : Int) else 0) ≠ 0
    rw [if_pos (by omega)]
    simp
theorem count_at {r : Rd} {l : List Int} {n m : Int} (h : At r (uintB n ++ l)) (hn : U64 n) (hl : n ≤ m → n ≤ l.length) : n ≤ m ∧ (countR r m).1 = n ∧ At (countR r m).2 l ∨ m < n ∧ (countR r m).2.e ≠ 0 := by
  obtain ⟨h1, h2, h3⟩ := num_at (l := l) (m := m) hn
  unfold countR
  rw [if_neg (by simp [h.e]), h.left, h1, h2, h3]
  by_cases hm : n ≤ m
  · have := hl hm
    rw [if_neg (by rw [if_neg (by omega)]; simp), if_neg (by rw [List.length_append]; omega)]
    exact .inl ⟨hm, rfl, h.step⟩
  · rw [if_pos (by rw [if_pos (by omega)]; simp)]
    refine .inr ⟨by omega, ?_⟩
    show (if n > m then (4 : Int) else 0) ≠ 0
    rw [if_pos (by omega)]
    simp
theorem hash_at {r : Rd} {h l : List Int} (hr : At r (h ++ l)) (hl : h.length = 32) : (hashR r).1 = h ∧ At (hashR r).2 l := by
  unfold hashR
  rw [if_neg (by simp [hr.e]), hr.left, if_neg (by rw [List.length_append]; omega)]
  refine ⟨?_, ?_⟩
  · show (h ++ l).take 32 = h
    rw [← hl, List.take_left]
  · have := hr.step
    rw [hl] at this
    exact this
/-! ## A reader that has failed -/
theorem uint_dead {r : Rd} {m : Int} (h : r.e ≠ 0) : (uintR r m).2 = r := by unfold uintR; rw [if_pos h]
theorem count_dead {r : Rd} {m : Int} (h : r.e ≠ 0) : countR r m = (0, r) := by unfold countR; rw [if_pos h]
theorem hash_dead {r : Rd} (h : r.e ≠ 0) : (hashR r).2 = r := by unfold hashR; rw [if_pos h]
theorem keys_dead {r : Rd} (h : r.e ≠ 0) : ∀ k, (dKeys k r).2 = r
  | 0 => rfl
  | k + 1 => by
    show (uintR (dKeys k r).2 16).2 = r
    rw [keys_dead h k, uint_dead h]
theorem br_dead3 {r : Rd} (h : (dA r).2.e ≠ 0) : (dBr r).2.e ≠ 0 := by
  show (uintR (dA r).2 65536).2.e ≠ 0
  rw [uint_dead h]; exact h
theorem br_dead2 {r : Rd} (h : (dK r).2.e ≠ 0) : (dBr r).2.e ≠ 0 := by
  refine br_dead3 ?_
  show (uintR (hashR (dK r).2).2 1099511627776).2.e ≠ 0
  rw [hash_dead h, uint_dead h]; exact h
theorem br_dead1 {r : Rd} (h : (countR r 16).2.e ≠ 0) : (dBr r).2.e ≠ 0 := by
  refine br_dead2 ?_
  show (dKeys _ (countR r 16).2).2.e ≠ 0
  rw [keys_dead h]; exact h
theorem br_dead {r : Rd} (h : r.e ≠ 0) : (dBr r).2.e ≠ 0 := br_dead1 (by rw [count_dead h]; exact h)
/-! ## Keys -/
theorem u64_i64 {x m : Int} (h : inI64 x) (hm : 0 ≤ m) (h63 : m < 9223372036854775808) : (wr .u64 x ≤ m → wr .u64 x = x ∧ 0 ≤ x ∧ x ≤ m) ∧ (m < wr .u64 x → x < 0 ∨ m < x) := by
  unfold inI64 at h
  rw [wr64u]
  constructor
  · intro h1; omega
  · intro h1; omega
theorem keys_at {r : Rd} {ks l : List Int} (h : At r (keysB ks ++ l)) (hk : ∀ x, x ∈ ks → inI64 x) : ∀ k, k ≤ ks.length →
    ((dKeys k r).1 = ks.take k ∧ At (dKeys k r).2 (keysB (ks.drop k) ++ l)) ∨ ((∃ x, x ∈ ks ∧ (x < 0 ∨ 16 < x)) ∧ (dKeys k r).2.e ≠ 0)
  | 0, _ => .inl ⟨rfl, h⟩
  | k + 1, hl => by
    rcases keys_at h hk k (by omega) with ⟨h1, h2⟩ | ⟨h1, h2⟩
    · have hd : ks.drop k = ks.getD k 0 :: ks.drop (k + 1) := by
        rw [List.drop_eq_getElem_cons (by omega), List.getD_eq_getElem?_getD, List.getElem?_eq_getElem (by omega)]
        rfl
      have hm : ks.getD k 0 ∈ ks := by
        rw [List.getD_eq_getElem?_getD, List.getElem?_eq_getElem (by omega)]
        exact List.getElem_mem _
      rw [hd] at h2
      simp only [keysB, List.append_assoc] at h2
      obtain ⟨i1, i2⟩ := u64_i64 (m := 16) (hk _ hm) (by omega) (by omega)
      rcases uint_at (m := 16) h2 (u64_wr _) with ⟨h3, h4, h5⟩ | ⟨h3, h4⟩
      · refine .inl ⟨?_, h5⟩
        show (dKeys k r).1 ++ [(uintR (dKeys k r).2 16).1] = _
        rw [h1, h4, (i1 h3).1, List.take_add_one, List.getD_eq_getElem?_getD, List.getElem?_eq_getElem (by omega)]
        rfl
      · exact .inr ⟨⟨_, hm, i2 h3⟩, h4⟩
    · refine .inr ⟨h1, ?_⟩
      show (uintR (dKeys k r).2 16).2.e ≠ 0
      rw [uint_dead h2]; exact h2
/-! ## A branch -/
structure BrIn (b : Br) : Prop where
  keys : ∀ x, x ∈ b.keys → inI64 x
  lock : b.lock.length = 32
  after : inI64 b.after
  older : inI64 b.older
  few : b.keys.length ≤ 1000000000
theorem up_ge {ks : List Int} {n : Nat} (h : Up ks n) : ∀ i, i < n → (i : Int) ≤ ks.getD i 0
  | 0, hi => (h 0 hi).1
  | i + 1, hi => by
    have h1 := up_ge h i (by omega)
    rcases (h (i + 1) hi).2.2 with h2 | h2
    · omega
    · simp only [Nat.add_sub_cancel] at h2
      omega
theorem may_few {b : Br} (h : May b) : b.keys.length ≤ 16 := by
  have h1 := h.2.1
  have h2 := up_ge h.1 (b.keys.length - 1) (by omega)
  have h3 := (h.1 (b.keys.length - 1) (by omega)).2.1
  omega
theorem may_key {b : Br} (h : May b) {x : Int} (hx : x ∈ b.keys) : 0 ≤ x ∧ x ≤ 16 := by
  obtain ⟨i, hi, e⟩ := List.getElem_of_mem hx
  have h1 := h.1 i hi
  rw [List.getD_eq_getElem?_getD, List.getElem?_eq_getElem hi] at h1
  simp only [Option.getD_some, e] at h1
  omega
theorem keysB_ge : ∀ ks : List Int, ks.length ≤ (keysB ks).length
  | [] => Nat.le_refl _
  | k :: l => by
    have := keysB_ge l
    simp only [keysB, uintB, List.length_cons, List.length_append]
    omega
theorem u64_len {n : Nat} (h : n ≤ 1000000000) : wr .u64 (n : Int) = (n : Int) := by rw [wr64u]; omega
theorem br_at {r : Rd} {b : Br} {l : List Int} (h : At r (brB b ++ l)) (hb : BrIn b) : ((dBr r).1 = b ∧ At (dBr r).2 l) ∨ (¬ May b ∧ (dBr r).2.e ≠ 0) := by
  unfold brB at h
  simp only [List.append_assoc] at h
  have hn := u64_len hb.few
  rcases count_at (m := 16) h (u64_wr _) (fun _ => by
    have := keysB_ge b.keys
    rw [hn]
    simp only [List.length_append]
    omega) with ⟨h1, h2, h3⟩ | ⟨h1, h2⟩
  · rw [hn] at h2
    have e1 : dK r = dKeys b.keys.length (countR r 16).2 := by
      unfold dK
      rw [h2, Int.toNat_natCast]
    rcases keys_at h3 hb.keys b.keys.length (Nat.le_refl _) with ⟨h4, h5⟩ | ⟨⟨x, hx, h4⟩, h5⟩
    · rw [List.take_length] at h4
      rw [List.drop_length] at h5
      rw [← e1] at h4 h5
      simp only [keysB, List.nil_append] at h5
      obtain ⟨h6, h7⟩ := hash_at h5 hb.lock
      obtain ⟨a1, a2⟩ := u64_i64 (m := 1099511627776) hb.after (by omega) (by omega)
      rcases uint_at (m := 1099511627776) h7 (u64_wr _) with ⟨h8, h9, h10⟩ | ⟨h8, h9⟩
      · obtain ⟨o1, o2⟩ := u64_i64 (m := 65536) hb.older (by omega) (by omega)
        rcases uint_at (m := 65536) h10 (u64_wr _) with ⟨h11, h12, h13⟩ | ⟨h11, h12⟩
        · refine .inl ⟨?_, h13⟩
          show Br.mk (dK r).1 (hashR (dK r).2).1 (uintR (hashR (dK r).2).2 1099511627776).1 (uintR (uintR (hashR (dK r).2).2 1099511627776).2 65536).1 = b
          rw [h4, h6, h9, h12, (a1 h8).1, (o1 h11).1]
        · exact .inr ⟨fun hm => by
            have := hm.2.2.2.2
            have := o2 h11
            omega, h12⟩
      · exact .inr ⟨fun hm => by
          have := hm.2.2.1
          have := hm.2.2.2.1
          have := a2 h8
          omega, br_dead3 h9⟩
    · rw [← e1] at h5
      exact .inr ⟨fun hm => by
        have := may_key hm hx
        omega, br_dead2 h5⟩
  · rw [hn] at h1
    exact .inr ⟨fun hm => by
      have := may_few hm
      omega, br_dead1 h2⟩
/-! ## Branches -/
theorem brs_at {r : Rd} {bs : List Br} {l : List Int} (h : At r (brsB bs ++ l)) (hb : ∀ b, b ∈ bs → BrIn b) : ∀ k, k ≤ bs.length →
    ((dBrs k r).1 = bs.take k ∧ At (dBrs k r).2 (brsB (bs.drop k) ++ l)) ∨ ((∃ b, b ∈ bs ∧ ¬ May b) ∧ (dBrs k r).2.e ≠ 0)
  | 0, _ => .inl ⟨rfl, h⟩
  | k + 1, hl => by
    have hk : k < bs.length := by omega
    rcases brs_at h hb k (by omega) with ⟨h1, h2⟩ | ⟨h1, h2⟩
    · have hd : bs.drop k = bs[k] :: bs.drop (k + 1) := List.drop_eq_getElem_cons hk
      have hm : bs[k] ∈ bs := List.getElem_mem _
      rw [hd] at h2
      simp only [brsB, List.append_assoc] at h2
      rcases br_at h2 (hb _ hm) with ⟨h3, h4⟩ | ⟨h3, h4⟩
      · refine .inl ⟨?_, h4⟩
        show (dBrs k r).1 ++ [(dBr (dBrs k r).2).1] = _
        rw [h1, h3, List.take_add_one, List.getElem?_eq_getElem hk]
        rfl
      · exact .inr ⟨⟨_, hm, h3⟩, h4⟩
    · exact .inr ⟨h1, br_dead h2⟩
theorem firstOdd_ge : ∀ (bs : List Br) (i : Nat), firstOdd bs i < 0 → ∀ b, b ∈ bs → May b
  | [], _, _, b, hb => by cases hb
  | x :: bs, i, h, b, hb => by
    by_cases hx : May x
    · simp only [firstOdd, mayB_true hx] at h
      rcases List.mem_cons.1 hb with e | e
      · rw [e]; exact hx
      · exact firstOdd_ge bs (i + 1) (by simpa using h) b e
    · simp only [firstOdd, mayB_false hx] at h
      simp at h
      omega
theorem brsB_ge : ∀ bs : List Br, bs.length ≤ (brsB bs).length
  | [] => Nat.le_refl _
  | b :: l => by
    have := brsB_ge l
    simp only [brsB, brB, uintB, List.length_cons, List.length_append]
    omega
theorem conds_at {r : Rd} {bs : List Br} {l : List Int} (h : At r (putB bs ++ l)) (hb : ∀ b, b ∈ bs → BrIn b) (hn : bs.length ≤ 1000000000) :
    ((dBrs (countR r 8).1.toNat (countR r 8).2).1 = bs ∧ At (dBrs (countR r 8).1.toNat (countR r 8).2).2 l) ∨ (¬ Fine bs ∧ (dBrs (countR r 8).1.toNat (countR r 8).2).2.e ≠ 0) := by
  unfold putB at h
  simp only [List.append_assoc] at h
  have hw := u64_len hn
  rcases count_at (m := 8) h (u64_wr _) (fun _ => by
    have := brsB_ge bs
    rw [hw]
    simp only [List.length_append]
    omega) with ⟨h1, h2, h3⟩ | ⟨h1, h2⟩
  · rw [hw] at h2
    rw [h2, Int.toNat_natCast]
    rcases brs_at h3 hb bs.length (Nat.le_refl _) with ⟨h4, h5⟩ | ⟨⟨x, hx, h4⟩, h5⟩
    · rw [List.take_length] at h4
      rw [List.drop_length] at h5
      exact .inl ⟨h4, h5⟩
    · exact .inr ⟨fun hF => h4 (firstOdd_ge _ _ hF.2.2 x hx), h5⟩
  · rw [hw] at h1
    refine .inr ⟨fun hF => ?_, ?_⟩
    · have := hF.2.1
      omega
    · have : ∀ k, (dBrs k (countR r 8).2).2.e ≠ 0 := by
        intro k
        induction k with
        | zero => exact h2
        | succ k ih => exact br_dead ih
      exact this _
/-! ## The law, plainly -/
theorem byt_putB {bs : List Br} (h : ∀ b, b ∈ bs → ∀ y, y ∈ b.lock → 0 ≤ y ∧ y < 256) : ∀ y, y ∈ putB bs → 0 ≤ y ∧ y < 256 := by
  have hu : ∀ (x y : Int), y ∈ uintB (wr .u64 x) → 0 ≤ y ∧ y < 256 := fun x y hy => by
    unfold uintB at hy
    rcases List.mem_cons.1 hy with e | e
    · have := digs_le (u64_wr x)
      omega
    · exact digs_byte e
  have hk : ∀ (ks : List Int) (y : Int), y ∈ keysB ks → 0 ≤ y ∧ y < 256 := by
    intro ks
    induction ks with
    | nil => intro y hy; cases hy
    | cons k ks ih =>
      intro y hy
      simp only [keysB] at hy
      rcases List.mem_append.1 hy with e | e
      · exact hu _ _ e
      · exact ih _ e
  have hbs : ∀ l : List Br, (∀ b, b ∈ l → ∀ y, y ∈ b.lock → 0 ≤ y ∧ y < 256) → ∀ y, y ∈ brsB l → 0 ≤ y ∧ y < 256 := by
    intro l
    induction l with
    | nil => intro _ y hy; cases hy
    | cons b l ih =>
      intro h y hy
      simp only [brsB, brB, List.mem_append] at hy
      rcases hy with ((((e | e) | e) | e) | e) | e
      · exact hu _ _ e
      · exact hk _ _ e
      · exact h b List.mem_cons_self _ e
      · exact hu _ _ e
      · exact hu _ _ e
      · exact ih (fun b hb => h b (List.mem_cons_of_mem _ hb)) _ e
  intro y hy
  unfold putB at hy
  rcases List.mem_append.1 hy with e | e
  · exact hu _ _ e
  · exact hbs bs h y e
theorem dec_put {bs : List Br} (hb : ∀ b, b ∈ bs → BrIn b ∧ ∀ y, y ∈ b.lock → 0 ≤ y ∧ y < 256) (hn : bs.length ≤ 1000000000) (hl : (putB bs).length ≤ 1000000000000) :
    decB (putB bs) = (if fineB bs then bs else []) ∧ decE (putB bs) = (if fineB bs then 0 else 3) := by
  have h0 : At ⟨putB bs, 0, 0⟩ (putB bs ++ []) := ⟨⟨byt_putB fun b h => (hb b h).2, by show (0 : Int) ≤ 0; omega, by show (0 : Int) ≤ _; omega, hl⟩, rfl, by
    rw [List.append_nil]
    rfl⟩
  have hd : decOk (putB bs) = fineB bs ∧ (fineB bs = true → (dCond (putB bs)).1 = bs) := by
    unfold decOk
    rcases conds_at h0 (fun b h => (hb b h).1) hn with ⟨h1, h2⟩ | ⟨h1, h2⟩
    · change (dCond (putB bs)).1 = bs at h1
      change At (dCond (putB bs)).2 [] at h2
      rw [h1]
      refine ⟨?_, fun _ => rfl⟩
      have h3 := left_len _ h2.ok
      rw [h2.left] at h3
      simp only [List.length_nil] at h3
      unfold doneR
      rw [if_neg (by simp [h2.e]), if_neg (by omega)]
      rfl
    · change (dCond (putB bs)).2.e ≠ 0 at h2
      have h3 := fineB_not.2 h1
      rw [h3]
      refine ⟨?_, fun h => by cases h⟩
      unfold doneR
      rw [if_pos h2, decide_eq_false h2]
      rfl
  unfold decB decE
  rw [hd.1]
  cases hf : fineB bs with
  | true => exact ⟨by simpa using hd.2 hf, rfl⟩
  | false => exact ⟨rfl, rfl⟩
end Go.Proofs.YtcglahfmnoghjaaDoor

/-! The reader's walks. Conditions: none. -/
namespace Go.Proofs.YtcglahfmnoghjaaDoor
open Go Go.Eng Go.Proofs.Tryd

theorem or_byte {a c : Int} (h1 : 0 ≤ a) (h2 : a < 72057594037927936) (h3 : 0 ≤ c) (h4 : c < 256) : bitop .or .u64 (shl .u64 a 8) (wr .u64 (bitop .xor .u8 c 0)) = a * 256 + c := by
  rw [xor_zero h3 h4]
  obtain ⟨a, rfl⟩ := Int.eq_ofNat_of_zero_le h1
  obtain ⟨c, rfl⟩ := Int.eq_ofNat_of_zero_le h3
  have e1 : shl .u64 (a : Int) 8 = ((2 ^ 8 * a : Nat) : Int) := by
    show wr .u64 ((a : Int) * 256) = _
    rw [wr64u]; omega
  have e2 : wr .u64 (c : Int) = (c : Int) := by rw [wr64u]; omega
  rw [e1, e2]
  show IntKind.u64.wrap (BitVec.ofInt 64 ((2 ^ 8 * a : Nat) : Int) ||| BitVec.ofInt 64 (c : Int)).toNat = _
  rw [BitVec.toNat_or]
  have h5 : (BitVec.ofInt 64 ((2 ^ 8 * a : Nat) : Int)).toNat = 2 ^ 8 * a := by rw [BitVec.toNat_ofInt]; omega
  have h6 : (BitVec.ofInt 64 (c : Int)).toNat = c := by rw [BitVec.toNat_ofInt]; omega
  rw [h5, h6, ← Nat.two_pow_add_eq_or_of_lt (by omega) a]
  show wr .u64 ((2 ^ 8 * a + c : Nat) : Int) = _
  rw [wr64u]; omega
theorem bigE_up {s : List Int} {k : Nat} (h : k < s.length) : bigE (s.take (k + 1)) = bigE (s.take k) * 256 + s.getD k 0 := by
  rw [List.take_add_one, List.getElem?_eq_getElem h, List.getD_eq_getElem?_getD, List.getElem?_eq_getElem h]
  unfold bigE
  rw [List.foldl_append]
  rfl
theorem byte_getD {b : List Int} (h : ∀ y, y ∈ b → 0 ≤ y ∧ y < 256) (i : Nat) : 0 ≤ b.getD i 0 ∧ b.getD i 0 < 256 := by
  rw [List.getD_eq_getElem?_getD]
  cases e : b[i]? with
  | none => simp
  | some y => exact h y (List.mem_of_getElem? e)
theorem bigE_lt {s : List Int} (h : ∀ y, y ∈ s → 0 ≤ y ∧ y < 256) : ∀ k, k ≤ s.length → 0 ≤ bigE (s.take k) ∧ bigE (s.take k) < ((256 ^ k : Nat) : Int)
  | 0, _ => by simp [bigE]
  | k + 1, hk => by
    have ih := bigE_lt h k (by omega)
    have h1 := byte_getD h k
    rw [bigE_up (by omega), Nat.pow_succ]
    omega
theorem left_byt {r : Rd} (h : r.Ok) : ∀ y, y ∈ r.left → 0 ≤ y ∧ y < 256 := fun y hy => h.byt y (List.mem_of_mem_drop hy)
theorem tail_byt {s : List Int} (h : ∀ y, y ∈ s → 0 ≤ y ∧ y < 256) : ∀ y, y ∈ s.tail → 0 ≤ y ∧ y < 256 := fun y hy => h y (List.mem_of_mem_tail hy)
/-! ## off, rest, fail -/
def offVC : Prop := ∀ (x : Rd), True → decide (x.e ≠ (0 : Int)) = !x.e == (0 : Int) ∧ ((x.b = x.b ∧ x.i = x.i ∧ x.e = x.e ∧ True) ∧ True) ∧ True

theorem off_eq : offVC = fnS F74 f107 (bodyOf f107) offLS noAnn := by kernel_rfl
theorem off_vc : offVC := by
  rintro ⟨b, i, e⟩ _
  refine ⟨?_, ⟨⟨rfl, rfl, rfl, trivial⟩, trivial⟩, trivial⟩
  by_cases h : e = 0 <;> simp [h]
theorem off_ok : Fits F74 f107 (bodyOf f107) offLS noAnn := by
  constructor
  rw [← off_eq]
  exact off_vc
theorem f107_has : Has prog 107 f107 (bodyOf f107) := ⟨by kernel_rfl, by kernel_rfl, by kernel_rfl⟩
theorem known120 : Known prog L120 := by
  unfold L120
  exact known74.lent mixed f107_has F74_eq off_ok (fun _ _ => Nat.le_refl _) (fun h => by cases h)
def restVC : Prop := ∀ (x : Rd), x.Ok → (0 : Int) ≤ x.i ∧ x.i ≤ (↑x.b.length : Int) ∧ (↑x.b.length : Int) ≤ (↑x.b.length : Int) ∧ x.left = List.drop x.i.toNat (List.take
  (↑x.b.length : Int).toNat x.b) ∧ ((x.b = x.b ∧ x.i = x.i ∧ x.e = x.e ∧ True) ∧ True) ∧ True

theorem rest_eq : restVC = fnS F120 f109 (bodyOf f109) restLS noAnn := by kernel_rfl
theorem rest_vc : restVC := by
  rintro ⟨b, i, e⟩ hr
  refine ⟨hr.lo, hr.hi, by simp, ?_, ⟨⟨rfl, rfl, rfl, trivial⟩, trivial⟩, trivial⟩
  simp only [Int.toNat_natCast, List.take_length]
  rfl
theorem rest_ok : Fits F120 f109 (bodyOf f109) restLS noAnn := by
  constructor
  rw [← rest_eq]
  exact rest_vc
theorem f109_has : Has prog 109 f109 (bodyOf f109) := ⟨by kernel_rfl, by kernel_rfl, by kernel_rfl⟩
theorem known121 : Known prog L121 := by
  unfold L121
  exact known120.lent mixed f109_has F120_eq rest_ok (fun _ _ => Nat.le_refl _) (fun h => by cases h)
def failVC : Prop := ∀ (x : RdE), True → ((x.r.e == (0 : Int)) = true → True ∧ ((x.r.b = x.r.b ∧ x.r.i = x.r.i ∧ (if x.r.e = (0 : Int) then x.n else x.r.e) = x.n ∧ True) ∧
  True) ∧ True) ∧ ((x.r.e == (0 : Int)) = false → True ∧ ((x.r.b = x.r.b ∧ x.r.i = x.r.i ∧ (if x.r.e = (0 : Int) then x.n else x.r.e) = x.r.e ∧ True) ∧
  True) ∧ True)

theorem fail_eq : failVC = fnS F121 f110 (bodyOf f110) failLS noAnn := by kernel_rfl
theorem fail_vc : failVC := by
  rintro ⟨⟨b, i, e⟩, n⟩ _
  refine ⟨fun h => ⟨trivial, ⟨⟨rfl, rfl, ?_, trivial⟩, trivial⟩, trivial⟩, fun h => ⟨trivial, ⟨⟨rfl, rfl, ?_, trivial⟩, trivial⟩, trivial⟩⟩
  · rw [if_pos (by simpa using h)]
  · rw [if_neg (by simpa using h)]
theorem fail_ok : Fits F121 f110 (bodyOf f110) failLS noAnn := by
  constructor
  rw [← fail_eq]
  exact fail_vc
theorem f110_has : Has prog 110 f110 (bodyOf f110) := ⟨by kernel_rfl, by kernel_rfl, by kernel_rfl⟩
theorem known122 : Known prog L122 := by
  unfold L122
  exact known121.lent mixed f110_has F121_eq fail_ok (fun _ _ => Nat.le_refl _) (fun h => by cases h)
/-! ## Numbers -/
def lowVC : Prop := ∀ (x : LowX), x.Ok → True ∧ ((x.r.b = x.r.b ∧ x.r.i = x.r.i ∧ x.r.e = x.r.e ∧ True) ∧ True) ∧ (Rd.mk x.r.b x.r.i x.r.e).Ok ∧ (0 : Int) ≤ (1 : Int) ∧ (1
  : Int) ≤ (↑(Rd.mk x.r.b x.r.i x.r.e).left.length : Int) ∧ (↑(Rd.mk x.r.b x.r.i x.r.e).left.length : Int) ≤ (↑(Rd.mk x.r.b x.r.i x.r.e).left.length :
  Int) ∧ ((↑(List.drop (Int.toNat (1 : Int)) (List.take (↑(Rd.mk x.r.b x.r.i x.r.e).left.length : Int).toNat (Rd.mk x.r.b x.r.i x.r.e).left)).length :
  Int) ≤ (9223372036854775807 : Int) → (decide ((↑(List.drop (Int.toNat (1 : Int)) (List.take (↑(Rd.mk x.r.b x.r.i x.r.e).left.length : Int).toNat (Rd.mk
  x.r.b x.r.i x.r.e).left)).length : Int) < x.n) = true → (lowN2 x.r.left.tail x.n = (0 : Int) ∧ lowE x.r.left.tail x.n = (12 : Int) ∧ (12 : Int) ≠ (0 :
  Int)) ∧ ((x.r.b = x.r.b ∧ x.r.i = x.r.i ∧ x.r.e = x.r.e ∧ True) ∧ True) ∧ True) ∧ (decide ((↑(List.drop (Int.toNat (1 : Int)) (List.take (↑(Rd.mk x.r.b
  x.r.i x.r.e).left.length : Int).toNat (Rd.mk x.r.b x.r.i x.r.e).left)).length : Int) < x.n) = false → (decide (x.n > (0 : Int)) = true → (0 : Int) ≤ (0
  : Int) ∧ (0 : Int) < (↑(List.drop (Int.toNat (1 : Int)) (List.take (↑(Rd.mk x.r.b x.r.i x.r.e).left.length : Int).toNat (Rd.mk x.r.b x.r.i
  x.r.e).left)).length : Int) ∧ Int.toNat (0 : Int) < (List.drop (Int.toNat (1 : Int)) (List.take (↑(Rd.mk x.r.b x.r.i x.r.e).left.length : Int).toNat
  (Rd.mk x.r.b x.r.i x.r.e).left)).length ∧ (((List.drop (Int.toNat (1 : Int)) (List.take (↑(Rd.mk x.r.b x.r.i x.r.e).left.length : Int).toNat (Rd.mk
  x.r.b x.r.i x.r.e).left)).getD (Int.toNat (0 : Int)) (0 : Int) == (0 : Int)) = true → (lowN2 x.r.left.tail x.n = (0 : Int) ∧ lowE x.r.left.tail x.n =
  (3 : Int) ∧ (3 : Int) ≠ (0 : Int)) ∧ ((x.r.b = x.r.b ∧ x.r.i = x.r.i ∧ x.r.e = x.r.e ∧ True) ∧ True) ∧ True) ∧ (((List.drop (Int.toNat (1 : Int))
  (List.take (↑(Rd.mk x.r.b x.r.i x.r.e).left.length : Int).toNat (Rd.mk x.r.b x.r.i x.r.e).left)).getD (Int.toNat (0 : Int)) (0 : Int) == (0 : Int)) =
  false → (0 : Int) ≤ (0 : Int) ∧ (0 : Int) ≤ x.n ∧ x.n ≤ (↑(List.drop (Int.toNat (1 : Int)) (List.take (↑(Rd.mk x.r.b x.r.i x.r.e).left.length :
  Int).toNat (Rd.mk x.r.b x.r.i x.r.e).left)).length : Int) ∧ ((↑(List.drop (Int.toNat (0 : Int)) (List.take x.n.toNat (List.drop (Int.toNat (1 : Int))
  (List.take (↑(Rd.mk x.r.b x.r.i x.r.e).left.length : Int).toNat (Rd.mk x.r.b x.r.i x.r.e).left)))).length : Int) ≤ (9223372036854775807 : Int) → (∃ (x_1 : Nat), (x.n - (↑x_1 : Int)).NonNeg ∧ ((↑x_1 : Int) = (0 : Int) ∧ bigE (List.take x_1 x.r.left.tail) = (0 : Int)) ∧ ((x.r.b = x.r.b ∧ x.r.i = x.r.i ∧
  x.r.e = x.r.e ∧ True) ∧ True) ∧ True) ∧ ∀ (x_1 : Nat), (x.n - (↑x_1 : Int)).NonNeg → (decide ((↑x_1 : Int) < (↑(List.drop (Int.toNat (0 : Int))
  (List.take x.n.toNat (List.drop (Int.toNat (1 : Int)) (List.take (↑(Rd.mk x.r.b x.r.i x.r.e).left.length : Int).toNat (Rd.mk x.r.b x.r.i
  x.r.e).left)))).length : Int)) = true → (0 : Int) ≤ (↑x_1 : Int) ∧ (↑x_1 : Int) < (↑(List.drop (Int.toNat (0 : Int)) (List.take x.n.toNat (List.drop
  (Int.toNat (1 : Int)) (List.take (↑(Rd.mk x.r.b x.r.i x.r.e).left.length : Int).toNat (Rd.mk x.r.b x.r.i x.r.e).left)))).length : Int) ∧ (↑x_1 :
  Int).toNat < (List.drop (Int.toNat (0 : Int)) (List.take x.n.toNat (List.drop (Int.toNat (1 : Int)) (List.take (↑(Rd.mk x.r.b x.r.i x.r.e).left.length
  : Int).toNat (Rd.mk x.r.b x.r.i x.r.e).left)))).length ∧ (0 : Int) ≤ (8 : Int) ∧ inI64 ((↑x_1 : Int) + (1 : Int)) ∧ ∃ (y : Nat), (x.n - (↑y : Int)).NonNeg ∧
  x.n.toNat - y < x.n.toNat - x_1 ∧ ((↑y : Int) = (↑x_1 : Int) + (1 : Int) ∧ bigE (List.take y x.r.left.tail) = bitop BinOp.or IntKind.u64 (shl
  IntKind.u64 (bigE (List.take x_1 x.r.left.tail)) (8 : Int)) (wr IntKind.u64 (bitop BinOp.xor IntKind.u8 ((List.drop (Int.toNat (0 : Int)) (List.take
  x.n.toNat (List.drop (Int.toNat (1 : Int)) (List.take (↑(Rd.mk x.r.b x.r.i x.r.e).left.length : Int).toNat (Rd.mk x.r.b x.r.i x.r.e).left)))).getD
  (↑x_1 : Int).toNat (0 : Int)) (0 : Int)))) ∧ ((x.r.b = x.r.b ∧ x.r.i = x.r.i ∧ x.r.e = x.r.e ∧ True) ∧ True) ∧ True) ∧ (decide ((↑x_1 : Int) <
  (↑(List.drop (Int.toNat (0 : Int)) (List.take x.n.toNat (List.drop (Int.toNat (1 : Int)) (List.take (↑(Rd.mk x.r.b x.r.i x.r.e).left.length :
  Int).toNat (Rd.mk x.r.b x.r.i x.r.e).left)))).length : Int)) = false → (lowN2 x.r.left.tail x.n = bigE (List.take x_1 x.r.left.tail) ∧ lowE
  x.r.left.tail x.n = (0 : Int)) ∧ ((x.r.b = x.r.b ∧ x.r.i = x.r.i ∧ x.r.e = x.r.e ∧ True) ∧ True) ∧ True)))) ∧ (decide (x.n > (0 : Int)) = false → (0 :
  Int) ≤ (0 : Int) ∧ (0 : Int) ≤ x.n ∧ x.n ≤ (↑(List.drop (Int.toNat (1 : Int)) (List.take (↑(Rd.mk x.r.b x.r.i x.r.e).left.length : Int).toNat (Rd.mk
  x.r.b x.r.i x.r.e).left)).length : Int) ∧ ((↑(List.drop (Int.toNat (0 : Int)) (List.take x.n.toNat (List.drop (Int.toNat (1 : Int)) (List.take (↑(Rd.mk
  x.r.b x.r.i x.r.e).left.length : Int).toNat (Rd.mk x.r.b x.r.i x.r.e).left)))).length : Int) ≤ (9223372036854775807 : Int) → (∃ (x_1 : Nat), (x.n - (↑x_1 :
  Int)).NonNeg ∧ ((↑x_1 : Int) = (0 : Int) ∧ bigE (List.take x_1 x.r.left.tail) = (0 : Int)) ∧ ((x.r.b = x.r.b ∧ x.r.i = x.r.i ∧ x.r.e = x.r.e ∧ True) ∧
  True) ∧ True) ∧ ∀ (x_1 : Nat), (x.n - (↑x_1 : Int)).NonNeg → (decide ((↑x_1 : Int) < (↑(List.drop (Int.toNat (0 : Int)) (List.take x.n.toNat (List.drop
  (Int.toNat (1 : Int)) (List.take (↑(Rd.mk x.r.b x.r.i x.r.e).left.length : Int).toNat (Rd.mk x.r.b x.r.i x.r.e).left)))).length : Int)) = true → (0 :
  Int) ≤ (↑x_1 : Int) ∧ (↑x_1 : Int) < (↑(List.drop (Int.toNat (0 : Int)) (List.take x.n.toNat (List.drop (Int.toNat (1 : Int)) (List.take (↑(Rd.mk x.r.b
  x.r.i x.r.e).left.length : Int).toNat (Rd.mk x.r.b x.r.i x.r.e).left)))).length : Int) ∧ (↑x_1 : Int).toNat < (List.drop (Int.toNat (0 : Int))
  (List.take x.n.toNat (List.drop (Int.toNat (1 : Int)) (List.take (↑(Rd.mk x.r.b x.r.i x.r.e).left.length : Int).toNat (Rd.mk x.r.b x.r.i
  x.r.e).left)))).length ∧ (0 : Int) ≤ (8 : Int) ∧ inI64 ((↑x_1 : Int) + (1 : Int)) ∧ ∃ (y : Nat), (x.n - (↑y : Int)).NonNeg ∧ x.n.toNat - y < x.n.toNat - x_1 ∧
  ((↑y : Int) = (↑x_1 : Int) + (1 : Int) ∧ bigE (List.take y x.r.left.tail) = bitop BinOp.or IntKind.u64 (shl IntKind.u64 (bigE (List.take x_1
  x.r.left.tail)) (8 : Int)) (wr IntKind.u64 (bitop BinOp.xor IntKind.u8 ((List.drop (Int.toNat (0 : Int)) (List.take x.n.toNat (List.drop (Int.toNat (1
  : Int)) (List.take (↑(Rd.mk x.r.b x.r.i x.r.e).left.length : Int).toNat (Rd.mk x.r.b x.r.i x.r.e).left)))).getD (↑x_1 : Int).toNat (0 : Int)) (0 :
  Int)))) ∧ ((x.r.b = x.r.b ∧ x.r.i = x.r.i ∧ x.r.e = x.r.e ∧ True) ∧ True) ∧ True) ∧ (decide ((↑x_1 : Int) < (↑(List.drop (Int.toNat (0 : Int))
  (List.take x.n.toNat (List.drop (Int.toNat (1 : Int)) (List.take (↑(Rd.mk x.r.b x.r.i x.r.e).left.length : Int).toNat (Rd.mk x.r.b x.r.i
  x.r.e).left)))).length : Int)) = false → (lowN2 x.r.left.tail x.n = bigE (List.take x_1 x.r.left.tail) ∧ lowE x.r.left.tail x.n = (0 : Int)) ∧ ((x.r.b
  = x.r.b ∧ x.r.i = x.r.i ∧ x.r.e = x.r.e ∧ True) ∧ True) ∧ True)))))

theorem low_eq : lowVC = fnS F122 f129 (bodyOf f129) lowLS lowAnn := by kernel_rfl
theorem low_vc : lowVC := by
  rintro ⟨⟨b, i, e⟩, n⟩ ⟨hr, more, lo, hi⟩
  have hl := left_len _ hr
  have hb := tail_byt (left_byt hr)
  have hlen := hr.len
  have hlo := hr.lo
  simp only at hl more lo hi hlen hlo
  have hs : ((Rd.mk b i e).left.tail.length : Int) = (Rd.mk b i e).left.length - 1 := by rw [List.length_tail]; omega
  have ht : (Int.toNat (1 : Int)) = 1 := rfl
  have h0 : (Int.toNat (0 : Int)) = 0 := rfl
  simp only [hr, ht, h0, Int.toNat_natCast, List.take_length, List.drop_one, List.drop_zero, List.length_take, and_self, and_true, true_and, Int.le_refl, decide_eq_true_eq, decide_eq_false_iff_not, ne_eq]
  generalize hS : (Rd.mk b i e).left.tail = s at *
  have step : ∀ k : Nat, (k : Int) < n → (n : Int) ≤ s.length → bigE (s.take (k + 1)) = bitop .or .u64 (shl .u64 (bigE (s.take k)) 8) (wr .u64 (bitop .xor .u8 ((s.take n.toNat).getD k 0) 0)) := fun k hk hn => by
    have h1 := bigE_lt hb k (by omega)
    have h2 := byte_getD hb k
    have h3 : (256 ^ k : Nat) ≤ 256 ^ 7 := Nat.pow_le_pow_right (by omega) (by omega)
    have h4 : (s.take n.toNat).getD k 0 = s.getD k 0 := by
      rw [List.getD_eq_getElem?_getD, List.getElem?_take, if_pos (by omega), ← List.getD_eq_getElem?_getD]
    rw [h4, bigE_up (by omega), or_byte h1.1 (by omega) h2.1 h2.2]
  have loop : (n : Int) ≤ s.length → lowE s n = 0 →
      (∃ (x_1 : Nat), (n - (↑x_1 : Int)).NonNeg ∧ ((↑x_1 : Int) = (0 : Int) ∧ bigE (List.take x_1 s) = (0 : Int))) ∧ ∀ (x_1 : Nat), (n - (↑x_1 : Int)).NonNeg → ((↑x_1 : Int) < ((min n.toNat s.length : Nat) : Int) → (0 : Int) ≤ (↑x_1 : Int) ∧ (↑x_1 : Int) < ((min n.toNat s.length : Nat) : Int) ∧ x_1 < min n.toNat s.length ∧ (0 : Int) ≤ (8 : Int) ∧ inI64 ((↑x_1 : Int) + (1 : Int)) ∧ ∃ (y : Nat), (n - (↑y : Int)).NonNeg ∧ n.toNat - y < n.toNat - x_1 ∧ ((↑y : Int) = (↑x_1 : Int) + (1 : Int) ∧ bigE (List.take y s) = bitop BinOp.or IntKind.u64 (shl IntKind.u64 (bigE (List.take x_1 s)) (8 : Int)) (wr IntKind.u64 (bitop BinOp.xor IntKind.u8 ((List.take n.toNat s).getD x_1 (0 : Int)) (0 : Int))))) ∧ (¬ ((↑x_1 : Int) < ((min n.toNat s.length : Nat) : Int)) → (lowN2 s n = bigE (List.take x_1 s) ∧ lowE s n = (0 : Int))) := fun h1 h2 => by
    refine ⟨⟨0, ?_, rfl, rfl⟩, fun k hk => ⟨fun h3 => ⟨by omega, by omega, by omega, by omega, by unfold inI64; omega, k + 1, ?_, by omega, by omega, step k (by omega) h1⟩, fun h3 => ⟨?_, h2⟩⟩⟩
    · show ((0 : Nat) : Int) ≤ n
      omega
    · show ((k + 1 : Nat) : Int) ≤ n
      omega
    · have hk : (k : Int) ≤ n := hk
      unfold lowN2
      rw [if_pos h2, show n.toNat = k by omega]
  have g : s.getD 0 0 = 0 ↔ (s = [] ∨ s.head? = some 0) := by cases s <;> simp
  refine ⟨by omega, by omega, fun _ => ⟨fun h => ?_, fun h => ⟨fun h1 => ⟨by omega, by omega, fun h2 => ?_, fun h2 => ⟨lo, by omega, fun _ => loop (by omega) ?_⟩⟩, fun h1 => ⟨lo, by omega, fun _ => loop (by omega) ?_⟩⟩⟩⟩
  · have h2 : lowE s n = 12 := by unfold lowE; rw [if_pos h]
    exact ⟨by unfold lowN2; rw [h2]; rfl, h2, by omega⟩
  · have h3 : s.head? = some 0 := by
      rcases g.1 (by simpa using h2) with e | e
      · rw [e] at h
        simp only [List.length_nil] at h
        omega
      · exact e
    have h2 : lowE s n = 3 := by unfold lowE; rw [if_neg h, if_pos ⟨h1, h3⟩]
    exact ⟨by unfold lowN2; rw [h2]; rfl, h2, by omega⟩
  · unfold lowE
    rw [if_neg h, if_neg (fun h3 => by
      have := g.2 (.inr h3.2)
      rw [this] at h2
      simp at h2)]
  · unfold lowE
    rw [if_neg h, if_neg (fun h3 => h1 h3.1)]
theorem low_ok : Fits F122 f129 (bodyOf f129) lowLS lowAnn := by
  constructor
  rw [← low_eq]
  exact low_vc
theorem f129_has : Has prog 129 f129 (bodyOf f129) := ⟨by kernel_rfl, by kernel_rfl, by kernel_rfl⟩
theorem known123 : Known prog L123 := by
  unfold L123
  exact known122.lent mixed f129_has F122_eq low_ok (fun _ _ => Nat.le_refl _) (fun h => by cases h)
def numberVC : Prop := ∀ (x : RdN), x.Ok → True ∧ ((x.r.b = x.r.b ∧ x.r.i = x.r.i ∧ x.r.e = x.r.e ∧ True) ∧ True) ∧ (Rd.mk x.r.b x.r.i x.r.e).Ok ∧ ((↑(Rd.mk x.r.b x.r.i
  x.r.e).left.length : Int) ≤ (9223372036854775807 : Int) → (((↑(Rd.mk x.r.b x.r.i x.r.e).left.length : Int) == (0 : Int)) = true → (True ∧ (12 : Int) =
  (12 : Int) ∧ (12 : Int) ≠ (0 : Int)) ∧ ((x.r.b = x.r.b ∧ x.r.i = x.r.i ∧ x.r.e = x.r.e ∧ True) ∧ True) ∧ True ∧ ((if numE x.r.left x.n = (0 : Int) then
  numV x.r.left else (0 : Int)) = (0 : Int) ∧ (if numE x.r.left x.n = (0 : Int) then numW x.r.left else (0 : Int)) = (0 : Int) ∧ decide (numE x.r.left
  x.n = (0 : Int)) = false) ∧ (((if numE x.r.left x.n = (0 : Int) then x.r else x.r.fail (numE x.r.left x.n)).b = x.r.b ∧ (if numE x.r.left x.n = (0 :
  Int) then x.r else x.r.fail (numE x.r.left x.n)).i = x.r.i ∧ ((if numE x.r.left x.n = (0 : Int) then x.r else x.r.fail (numE x.r.left x.n)).e = if
  x.r.e = (0 : Int) then (12 : Int) else x.r.e) ∧ True) ∧ True) ∧ True) ∧ (((↑(Rd.mk x.r.b x.r.i x.r.e).left.length : Int) == (0 : Int)) = false → (0 :
  Int) ≤ (0 : Int) ∧ (0 : Int) < (↑(Rd.mk x.r.b x.r.i x.r.e).left.length : Int) ∧ Int.toNat (0 : Int) < (Rd.mk x.r.b x.r.i x.r.e).left.length ∧ (decide
  ((Rd.mk x.r.b x.r.i x.r.e).left.getD (Int.toNat (0 : Int)) (0 : Int) > (8 : Int)) = true → (True ∧ (3 : Int) = (3 : Int) ∧ (3 : Int) ≠ (0 : Int)) ∧
  ((x.r.b = x.r.b ∧ x.r.i = x.r.i ∧ x.r.e = x.r.e ∧ True) ∧ True) ∧ True ∧ ((if numE x.r.left x.n = (0 : Int) then numV x.r.left else (0 : Int)) = (0 :
  Int) ∧ (if numE x.r.left x.n = (0 : Int) then numW x.r.left else (0 : Int)) = (0 : Int) ∧ decide (numE x.r.left x.n = (0 : Int)) = false) ∧ (((if numE
  x.r.left x.n = (0 : Int) then x.r else x.r.fail (numE x.r.left x.n)).b = x.r.b ∧ (if numE x.r.left x.n = (0 : Int) then x.r else x.r.fail (numE
  x.r.left x.n)).i = x.r.i ∧ ((if numE x.r.left x.n = (0 : Int) then x.r else x.r.fail (numE x.r.left x.n)).e = if x.r.e = (0 : Int) then (3 : Int) else
  x.r.e) ∧ True) ∧ True) ∧ True) ∧ (decide ((Rd.mk x.r.b x.r.i x.r.e).left.getD (Int.toNat (0 : Int)) (0 : Int) > (8 : Int)) = false → (0 : Int) ≤ (0 :
  Int) ∧ (0 : Int) < (↑(Rd.mk x.r.b x.r.i x.r.e).left.length : Int) ∧ Int.toNat (0 : Int) < (Rd.mk x.r.b x.r.i x.r.e).left.length ∧ (True ∧ wr
  IntKind.i64 ((Rd.mk x.r.b x.r.i x.r.e).left.getD (Int.toNat (0 : Int)) (0 : Int)) = wr IntKind.i64 ((Rd.mk x.r.b x.r.i x.r.e).left.getD (Int.toNat (0 :
  Int)) (0 : Int)) ∧ (0 : Int) = (0 : Int)) ∧ ((x.r.b = x.r.b ∧ x.r.i = x.r.i ∧ x.r.e = x.r.e ∧ True) ∧ True) ∧ (LowX.mk (Rd.mk x.r.b x.r.i x.r.e) (wr
  IntKind.i64 ((Rd.mk x.r.b x.r.i x.r.e).left.getD (Int.toNat (0 : Int)) (0 : Int)))).Ok ∧ ((lowE (Rd.mk x.r.b x.r.i x.r.e).left.tail (wr IntKind.i64
  ((Rd.mk x.r.b x.r.i x.r.e).left.getD (Int.toNat (0 : Int)) (0 : Int))) == (0 : Int)) = true → (decide (lowN2 (Rd.mk x.r.b x.r.i x.r.e).left.tail (wr
  IntKind.i64 ((Rd.mk x.r.b x.r.i x.r.e).left.getD (Int.toNat (0 : Int)) (0 : Int))) > x.n) = true → ((!false) = true → (True ∧ (4 : Int) = (4 : Int) ∧
  (4 : Int) ≠ (0 : Int)) ∧ ((x.r.b = x.r.b ∧ x.r.i = x.r.i ∧ x.r.e = x.r.e ∧ True) ∧ True) ∧ True ∧ ((if numE x.r.left x.n = (0 : Int) then numV x.r.left
  else (0 : Int)) = (0 : Int) ∧ (if numE x.r.left x.n = (0 : Int) then numW x.r.left else (0 : Int)) = (0 : Int) ∧ decide (numE x.r.left x.n = (0 : Int))
  = false) ∧ (((if numE x.r.left x.n = (0 : Int) then x.r else x.r.fail (numE x.r.left x.n)).b = x.r.b ∧ (if numE x.r.left x.n = (0 : Int) then x.r else
  x.r.fail (numE x.r.left x.n)).i = x.r.i ∧ ((if numE x.r.left x.n = (0 : Int) then x.r else x.r.fail (numE x.r.left x.n)).e = if x.r.e = (0 : Int) then
  (4 : Int) else x.r.e) ∧ True) ∧ True) ∧ True) ∧ ((!false) = false → (0 : Int) ≤ (0 : Int) ∧ (0 : Int) < (↑(Rd.mk x.r.b x.r.i x.r.e).left.length : Int)
  ∧ Int.toNat (0 : Int) < (Rd.mk x.r.b x.r.i x.r.e).left.length ∧ inI64 ((1 : Int) + wr IntKind.i64 ((Rd.mk x.r.b x.r.i x.r.e).left.getD (Int.toNat (0 :
  Int)) (0 : Int))) ∧ ((if numE x.r.left x.n = (0 : Int) then numV x.r.left else (0 : Int)) = lowN2 (Rd.mk x.r.b x.r.i x.r.e).left.tail (wr IntKind.i64
  ((Rd.mk x.r.b x.r.i x.r.e).left.getD (Int.toNat (0 : Int)) (0 : Int))) ∧ (if numE x.r.left x.n = (0 : Int) then numW x.r.left else (0 : Int)) = (1 :
  Int) + wr IntKind.i64 ((Rd.mk x.r.b x.r.i x.r.e).left.getD (Int.toNat (0 : Int)) (0 : Int)) ∧ decide (numE x.r.left x.n = (0 : Int)) = true) ∧ (((if
  numE x.r.left x.n = (0 : Int) then x.r else x.r.fail (numE x.r.left x.n)).b = x.r.b ∧ (if numE x.r.left x.n = (0 : Int) then x.r else x.r.fail (numE
  x.r.left x.n)).i = x.r.i ∧ (if numE x.r.left x.n = (0 : Int) then x.r else x.r.fail (numE x.r.left x.n)).e = x.r.e ∧ True) ∧ True) ∧ True)) ∧ (decide
  (lowN2 (Rd.mk x.r.b x.r.i x.r.e).left.tail (wr IntKind.i64 ((Rd.mk x.r.b x.r.i x.r.e).left.getD (Int.toNat (0 : Int)) (0 : Int))) > x.n) = false →
  ((!lowE (Rd.mk x.r.b x.r.i x.r.e).left.tail (wr IntKind.i64 ((Rd.mk x.r.b x.r.i x.r.e).left.getD (Int.toNat (0 : Int)) (0 : Int))) == (0 : Int)) = true
  → (True ∧ lowE (Rd.mk x.r.b x.r.i x.r.e).left.tail (wr IntKind.i64 ((Rd.mk x.r.b x.r.i x.r.e).left.getD (Int.toNat (0 : Int)) (0 : Int))) = lowE (Rd.mk
  x.r.b x.r.i x.r.e).left.tail (wr IntKind.i64 ((Rd.mk x.r.b x.r.i x.r.e).left.getD (Int.toNat (0 : Int)) (0 : Int)))) ∧ ((x.r.b = x.r.b ∧ x.r.i = x.r.i
  ∧ x.r.e = x.r.e ∧ True) ∧ True) ∧ True ∧ ((if numE x.r.left x.n = (0 : Int) then numV x.r.left else (0 : Int)) = (0 : Int) ∧ (if numE x.r.left x.n = (0
  : Int) then numW x.r.left else (0 : Int)) = (0 : Int) ∧ decide (numE x.r.left x.n = (0 : Int)) = false) ∧ (((if numE x.r.left x.n = (0 : Int) then x.r
  else x.r.fail (numE x.r.left x.n)).b = x.r.b ∧ (if numE x.r.left x.n = (0 : Int) then x.r else x.r.fail (numE x.r.left x.n)).i = x.r.i ∧ ((if numE
  x.r.left x.n = (0 : Int) then x.r else x.r.fail (numE x.r.left x.n)).e = if x.r.e = (0 : Int) then lowE (Rd.mk x.r.b x.r.i x.r.e).left.tail (wr
  IntKind.i64 ((Rd.mk x.r.b x.r.i x.r.e).left.getD (Int.toNat (0 : Int)) (0 : Int))) else x.r.e) ∧ True) ∧ True) ∧ True) ∧ ((!lowE (Rd.mk x.r.b x.r.i
  x.r.e).left.tail (wr IntKind.i64 ((Rd.mk x.r.b x.r.i x.r.e).left.getD (Int.toNat (0 : Int)) (0 : Int))) == (0 : Int)) = false → (0 : Int) ≤ (0 : Int) ∧
  (0 : Int) < (↑(Rd.mk x.r.b x.r.i x.r.e).left.length : Int) ∧ Int.toNat (0 : Int) < (Rd.mk x.r.b x.r.i x.r.e).left.length ∧ inI64 ((1 : Int) + wr
  IntKind.i64 ((Rd.mk x.r.b x.r.i x.r.e).left.getD (Int.toNat (0 : Int)) (0 : Int))) ∧ ((if numE x.r.left x.n = (0 : Int) then numV x.r.left else (0 :
  Int)) = lowN2 (Rd.mk x.r.b x.r.i x.r.e).left.tail (wr IntKind.i64 ((Rd.mk x.r.b x.r.i x.r.e).left.getD (Int.toNat (0 : Int)) (0 : Int))) ∧ (if numE
  x.r.left x.n = (0 : Int) then numW x.r.left else (0 : Int)) = (1 : Int) + wr IntKind.i64 ((Rd.mk x.r.b x.r.i x.r.e).left.getD (Int.toNat (0 : Int)) (0
  : Int)) ∧ decide (numE x.r.left x.n = (0 : Int)) = true) ∧ (((if numE x.r.left x.n = (0 : Int) then x.r else x.r.fail (numE x.r.left x.n)).b = x.r.b ∧
  (if numE x.r.left x.n = (0 : Int) then x.r else x.r.fail (numE x.r.left x.n)).i = x.r.i ∧ (if numE x.r.left x.n = (0 : Int) then x.r else x.r.fail
  (numE x.r.left x.n)).e = x.r.e ∧ True) ∧ True) ∧ True))) ∧ ((lowE (Rd.mk x.r.b x.r.i x.r.e).left.tail (wr IntKind.i64 ((Rd.mk x.r.b x.r.i
  x.r.e).left.getD (Int.toNat (0 : Int)) (0 : Int))) == (0 : Int)) = false → ((!lowE (Rd.mk x.r.b x.r.i x.r.e).left.tail (wr IntKind.i64 ((Rd.mk x.r.b
  x.r.i x.r.e).left.getD (Int.toNat (0 : Int)) (0 : Int))) == (0 : Int)) = true → (True ∧ lowE (Rd.mk x.r.b x.r.i x.r.e).left.tail (wr IntKind.i64
  ((Rd.mk x.r.b x.r.i x.r.e).left.getD (Int.toNat (0 : Int)) (0 : Int))) = lowE (Rd.mk x.r.b x.r.i x.r.e).left.tail (wr IntKind.i64 ((Rd.mk x.r.b x.r.i
  x.r.e).left.getD (Int.toNat (0 : Int)) (0 : Int)))) ∧ ((x.r.b = x.r.b ∧ x.r.i = x.r.i ∧ x.r.e = x.r.e ∧ True) ∧ True) ∧ True ∧ ((if numE x.r.left x.n =
  (0 : Int) then numV x.r.left else (0 : Int)) = (0 : Int) ∧ (if numE x.r.left x.n = (0 : Int) then numW x.r.left else (0 : Int)) = (0 : Int) ∧ decide
  (numE x.r.left x.n = (0 : Int)) = false) ∧ (((if numE x.r.left x.n = (0 : Int) then x.r else x.r.fail (numE x.r.left x.n)).b = x.r.b ∧ (if numE
  x.r.left x.n = (0 : Int) then x.r else x.r.fail (numE x.r.left x.n)).i = x.r.i ∧ ((if numE x.r.left x.n = (0 : Int) then x.r else x.r.fail (numE
  x.r.left x.n)).e = if x.r.e = (0 : Int) then lowE (Rd.mk x.r.b x.r.i x.r.e).left.tail (wr IntKind.i64 ((Rd.mk x.r.b x.r.i x.r.e).left.getD (Int.toNat
  (0 : Int)) (0 : Int))) else x.r.e) ∧ True) ∧ True) ∧ True) ∧ ((!lowE (Rd.mk x.r.b x.r.i x.r.e).left.tail (wr IntKind.i64 ((Rd.mk x.r.b x.r.i
  x.r.e).left.getD (Int.toNat (0 : Int)) (0 : Int))) == (0 : Int)) = false → (0 : Int) ≤ (0 : Int) ∧ (0 : Int) < (↑(Rd.mk x.r.b x.r.i x.r.e).left.length
  : Int) ∧ Int.toNat (0 : Int) < (Rd.mk x.r.b x.r.i x.r.e).left.length ∧ inI64 ((1 : Int) + wr IntKind.i64 ((Rd.mk x.r.b x.r.i x.r.e).left.getD
  (Int.toNat (0 : Int)) (0 : Int))) ∧ ((if numE x.r.left x.n = (0 : Int) then numV x.r.left else (0 : Int)) = lowN2 (Rd.mk x.r.b x.r.i x.r.e).left.tail
  (wr IntKind.i64 ((Rd.mk x.r.b x.r.i x.r.e).left.getD (Int.toNat (0 : Int)) (0 : Int))) ∧ (if numE x.r.left x.n = (0 : Int) then numW x.r.left else (0 :
  Int)) = (1 : Int) + wr IntKind.i64 ((Rd.mk x.r.b x.r.i x.r.e).left.getD (Int.toNat (0 : Int)) (0 : Int)) ∧ decide (numE x.r.left x.n = (0 : Int)) =
  true) ∧ (((if numE x.r.left x.n = (0 : Int) then x.r else x.r.fail (numE x.r.left x.n)).b = x.r.b ∧ (if numE x.r.left x.n = (0 : Int) then x.r else
  x.r.fail (numE x.r.left x.n)).i = x.r.i ∧ (if numE x.r.left x.n = (0 : Int) then x.r else x.r.fail (numE x.r.left x.n)).e = x.r.e ∧ True) ∧ True) ∧
  True)))))

theorem number_eq : numberVC = fnS F123 f108 (bodyOf f108) numberLS noAnn := by kernel_rfl
theorem number_vc : numberVC := by
  rintro ⟨⟨b, i, e⟩, m⟩ ⟨hr, hm⟩
  have hl := left_len _ hr
  have hb := left_byt hr
  have hlen := hr.len
  have hlo := hr.lo
  simp only at hl hlen hlo hm
  cases hL : (Rd.mk b i e).left with
  | nil => simp [hr, numE, Rd.fail]
  | cons c s =>
    have hc : 0 ≤ c ∧ c < 256 := hb c (by rw [hL]; exact List.mem_cons_self)
    have hw : wr .i64 c = c := by rw [wr64 (by unfold inI64; omega)]
    have hi : inI64 (1 + c) := by unfold inI64; omega
    by_cases h8 : c > 8
    · have hE : numE (c :: s) m = 3 := by simp [numE, h8]
      simp [hE, h8, hr, Rd.fail]
      try omega
    · have hlow : (LowX.mk (Rd.mk b i e) c).Ok := ⟨hr, by rw [hL] at hl; simp only [List.length_cons] at hl; simp only; omega, hc.1, by simp only; omega⟩
      by_cases hE : lowE s c = 0
      · have hN : lowN2 s c = bigE (s.take c.toNat) := by unfold lowN2; rw [if_pos hE]
        by_cases hB : bigE (s.take c.toNat) > m
        · have hE2 : numE (c :: s) m = 4 := by simp only [numE]; rw [if_neg h8, if_neg (fun h => h hE), if_pos hB]
          simp [hE, hE2, h8, hr, Rd.fail, hw, hlow, hN, hB]
          try omega
        · have hE2 : numE (c :: s) m = 0 := by simp only [numE]; rw [if_neg h8, if_neg (fun h => h hE), if_neg hB]
          simp [hE, hE2, h8, hr, hw, hlow, hN, hB, hi, numV, numW]
          try omega
      · have hE2 : numE (c :: s) m = lowE s c := by simp only [numE]; rw [if_neg h8, if_pos hE]
        simp [hE, hE2, h8, hr, Rd.fail, hw, hlow]
        try omega
theorem number_ok : Fits F123 f108 (bodyOf f108) numberLS noAnn := by
  constructor
  rw [← number_eq]
  exact number_vc
theorem f108_has : Has prog 108 f108 (bodyOf f108) := ⟨by kernel_rfl, by kernel_rfl, by kernel_rfl⟩
theorem known124 : Known prog L124 := by
  unfold L124
  exact known123.lent mixed f108_has F123_eq number_ok (fun _ _ => Nat.le_refl _) (fun h => by cases h)
/-- What a number that is one has. -/
theorem num_facts {r : Rd} (hr : r.Ok) {m : Int} (h : numE r.left m = 0) : 0 ≤ numV r.left ∧ numV r.left ≤ m ∧ 1 ≤ numW r.left ∧ numW r.left ≤ r.left.length := by
  have hb := left_byt hr
  cases hL : r.left with
  | nil => rw [hL] at h; simp [numE] at h
  | cons c s =>
    rw [hL] at h hb
    have hc := hb c List.mem_cons_self
    simp only [numE] at h
    split at h
    · omega
    split at h
    · omega
    split at h
    · omega
    rename_i h1 h2 h3
    have h4 : ¬ ((s.length : Int) < c) := fun h => h2 (by unfold lowE; rw [if_pos h]; omega)
    have h5 := bigE_lt (fun y hy => hb y (List.mem_cons_of_mem _ hy)) c.toNat (by omega)
    simp only [numV, numW, List.length_cons]
    omega
def rdUintVC : Prop := ∀ (x : RdN), x.Ok → True ∧ ((x.r.b = x.r.b ∧ x.r.i = x.r.i ∧ x.r.e = x.r.e ∧ True) ∧ True) ∧ True ∧ (decide (x.r.e ≠ (0 : Int)) = true → (uintR x.r
  x.n).fst = (0 : Int) ∧ (((uintR x.r x.n).snd.b = x.r.b ∧ (uintR x.r x.n).snd.i = x.r.i ∧ (uintR x.r x.n).snd.e = x.r.e ∧ True) ∧ True) ∧ True) ∧
  (decide (x.r.e ≠ (0 : Int)) = false → (True ∧ x.n = x.n) ∧ ((x.r.b = x.r.b ∧ x.r.i = x.r.i ∧ x.r.e = x.r.e ∧ True) ∧ True) ∧ (RdN.mk (Rd.mk x.r.b x.r.i
  x.r.e) x.n).Ok ∧ (decide (numE (Rd.mk x.r.b x.r.i x.r.e).left x.n = (0 : Int)) = true → inI64 ((if numE (Rd.mk x.r.b x.r.i x.r.e).left x.n = (0 : Int)
  then Rd.mk x.r.b x.r.i x.r.e else (Rd.mk x.r.b x.r.i x.r.e).fail (numE (Rd.mk x.r.b x.r.i x.r.e).left x.n)).i + if numE (Rd.mk x.r.b x.r.i x.r.e).left
  x.n = (0 : Int) then numW (Rd.mk x.r.b x.r.i x.r.e).left else (0 : Int)) ∧ ((uintR x.r x.n).fst = if numE (Rd.mk x.r.b x.r.i x.r.e).left x.n = (0 :
  Int) then numV (Rd.mk x.r.b x.r.i x.r.e).left else (0 : Int)) ∧ (((uintR x.r x.n).snd.b = (if numE (Rd.mk x.r.b x.r.i x.r.e).left x.n = (0 : Int) then
  Rd.mk x.r.b x.r.i x.r.e else (Rd.mk x.r.b x.r.i x.r.e).fail (numE (Rd.mk x.r.b x.r.i x.r.e).left x.n)).b ∧ ((uintR x.r x.n).snd.i = (if numE (Rd.mk
  x.r.b x.r.i x.r.e).left x.n = (0 : Int) then Rd.mk x.r.b x.r.i x.r.e else (Rd.mk x.r.b x.r.i x.r.e).fail (numE (Rd.mk x.r.b x.r.i x.r.e).left x.n)).i +
  if numE (Rd.mk x.r.b x.r.i x.r.e).left x.n = (0 : Int) then numW (Rd.mk x.r.b x.r.i x.r.e).left else (0 : Int)) ∧ (uintR x.r x.n).snd.e = (if numE
  (Rd.mk x.r.b x.r.i x.r.e).left x.n = (0 : Int) then Rd.mk x.r.b x.r.i x.r.e else (Rd.mk x.r.b x.r.i x.r.e).fail (numE (Rd.mk x.r.b x.r.i x.r.e).left
  x.n)).e ∧ True) ∧ True) ∧ True) ∧ (decide (numE (Rd.mk x.r.b x.r.i x.r.e).left x.n = (0 : Int)) = false → ((uintR x.r x.n).fst = if numE (Rd.mk x.r.b
  x.r.i x.r.e).left x.n = (0 : Int) then numV (Rd.mk x.r.b x.r.i x.r.e).left else (0 : Int)) ∧ (((uintR x.r x.n).snd.b = (if numE (Rd.mk x.r.b x.r.i
  x.r.e).left x.n = (0 : Int) then Rd.mk x.r.b x.r.i x.r.e else (Rd.mk x.r.b x.r.i x.r.e).fail (numE (Rd.mk x.r.b x.r.i x.r.e).left x.n)).b ∧ (uintR x.r
  x.n).snd.i = (if numE (Rd.mk x.r.b x.r.i x.r.e).left x.n = (0 : Int) then Rd.mk x.r.b x.r.i x.r.e else (Rd.mk x.r.b x.r.i x.r.e).fail (numE (Rd.mk
  x.r.b x.r.i x.r.e).left x.n)).i ∧ (uintR x.r x.n).snd.e = (if numE (Rd.mk x.r.b x.r.i x.r.e).left x.n = (0 : Int) then Rd.mk x.r.b x.r.i x.r.e else
  (Rd.mk x.r.b x.r.i x.r.e).fail (numE (Rd.mk x.r.b x.r.i x.r.e).left x.n)).e ∧ True) ∧ True) ∧ True))

theorem rdUint_eq : rdUintVC = fnS F124 f78 (bodyOf f78) rUintLS2 noAnn := by kernel_rfl
theorem rdUint_vc : rdUintVC := by
  rintro ⟨⟨b, i, e⟩, m⟩ hx
  have hr := hx.r
  simp only at hr
  by_cases he : e = 0
  · subst he
    have hl := left_len _ hr
    have nf := num_facts hr (m := m)
    have hlen := hr.len
    have hlo := hr.lo
    simp only at hl hlen hlo
    by_cases hz : numE (Rd.mk b i 0).left m = 0
    · have := nf hz
      have hi : inI64 (i + numW (Rd.mk b i 0).left) := by unfold inI64; omega
      simp [uintR, hz, hx, hi]
    · simp [uintR, hz, hx, Rd.fail]
  · simp [uintR, he]
theorem rdUint_ok : Fits F124 f78 (bodyOf f78) rUintLS2 noAnn := by
  constructor
  rw [← rdUint_eq]
  exact rdUint_vc
theorem f78_has : Has prog 78 f78 (bodyOf f78) := ⟨by kernel_rfl, by kernel_rfl, by kernel_rfl⟩
theorem known125 : Known prog L125 := by
  unfold L125
  exact known124.lent mixed f78_has F124_eq rdUint_ok (fun _ _ => Nat.le_refl _) (fun h => by cases h)
def countVC : Prop := ∀ (x : RdN), x.Few → True ∧ ((x.r.b = x.r.b ∧ x.r.i = x.r.i ∧ x.r.e = x.r.e ∧ True) ∧ True) ∧ True ∧ (decide (x.r.e ≠ (0 : Int)) = true → (countR x.r
  x.n).fst = (0 : Int) ∧ (((countR x.r x.n).snd.b = x.r.b ∧ (countR x.r x.n).snd.i = x.r.i ∧ (countR x.r x.n).snd.e = x.r.e ∧ True) ∧ True) ∧ True) ∧
  (decide (x.r.e ≠ (0 : Int)) = false → (True ∧ wr IntKind.u64 (max (0 : Int) x.n) = wr IntKind.u64 (max (0 : Int) x.n)) ∧ ((x.r.b = x.r.b ∧ x.r.i =
  x.r.i ∧ x.r.e = x.r.e ∧ True) ∧ True) ∧ (RdN.mk (Rd.mk x.r.b x.r.i x.r.e) (wr IntKind.u64 (max (0 : Int) x.n))).Ok ∧ (decide (numE (Rd.mk x.r.b x.r.i
  x.r.e).left (wr IntKind.u64 (max (0 : Int) x.n)) = (0 : Int)) = true → True ∧ (((if numE (Rd.mk x.r.b x.r.i x.r.e).left (wr IntKind.u64 (max (0 : Int)
  x.n)) = (0 : Int) then Rd.mk x.r.b x.r.i x.r.e else (Rd.mk x.r.b x.r.i x.r.e).fail (numE (Rd.mk x.r.b x.r.i x.r.e).left (wr IntKind.u64 (max (0 : Int)
  x.n)))).b = (if numE (Rd.mk x.r.b x.r.i x.r.e).left (wr IntKind.u64 (max (0 : Int) x.n)) = (0 : Int) then Rd.mk x.r.b x.r.i x.r.e else (Rd.mk x.r.b
  x.r.i x.r.e).fail (numE (Rd.mk x.r.b x.r.i x.r.e).left (wr IntKind.u64 (max (0 : Int) x.n)))).b ∧ (if numE (Rd.mk x.r.b x.r.i x.r.e).left (wr
  IntKind.u64 (max (0 : Int) x.n)) = (0 : Int) then Rd.mk x.r.b x.r.i x.r.e else (Rd.mk x.r.b x.r.i x.r.e).fail (numE (Rd.mk x.r.b x.r.i x.r.e).left (wr
  IntKind.u64 (max (0 : Int) x.n)))).i = (if numE (Rd.mk x.r.b x.r.i x.r.e).left (wr IntKind.u64 (max (0 : Int) x.n)) = (0 : Int) then Rd.mk x.r.b x.r.i
  x.r.e else (Rd.mk x.r.b x.r.i x.r.e).fail (numE (Rd.mk x.r.b x.r.i x.r.e).left (wr IntKind.u64 (max (0 : Int) x.n)))).i ∧ (if numE (Rd.mk x.r.b x.r.i
  x.r.e).left (wr IntKind.u64 (max (0 : Int) x.n)) = (0 : Int) then Rd.mk x.r.b x.r.i x.r.e else (Rd.mk x.r.b x.r.i x.r.e).fail (numE (Rd.mk x.r.b x.r.i
  x.r.e).left (wr IntKind.u64 (max (0 : Int) x.n)))).e = (if numE (Rd.mk x.r.b x.r.i x.r.e).left (wr IntKind.u64 (max (0 : Int) x.n)) = (0 : Int) then
  Rd.mk x.r.b x.r.i x.r.e else (Rd.mk x.r.b x.r.i x.r.e).fail (numE (Rd.mk x.r.b x.r.i x.r.e).left (wr IntKind.u64 (max (0 : Int) x.n)))).e ∧ True) ∧
  True) ∧ (Rd.mk (if numE (Rd.mk x.r.b x.r.i x.r.e).left (wr IntKind.u64 (max (0 : Int) x.n)) = (0 : Int) then Rd.mk x.r.b x.r.i x.r.e else (Rd.mk x.r.b
  x.r.i x.r.e).fail (numE (Rd.mk x.r.b x.r.i x.r.e).left (wr IntKind.u64 (max (0 : Int) x.n)))).b (if numE (Rd.mk x.r.b x.r.i x.r.e).left (wr IntKind.u64
  (max (0 : Int) x.n)) = (0 : Int) then Rd.mk x.r.b x.r.i x.r.e else (Rd.mk x.r.b x.r.i x.r.e).fail (numE (Rd.mk x.r.b x.r.i x.r.e).left (wr IntKind.u64
  (max (0 : Int) x.n)))).i (if numE (Rd.mk x.r.b x.r.i x.r.e).left (wr IntKind.u64 (max (0 : Int) x.n)) = (0 : Int) then Rd.mk x.r.b x.r.i x.r.e else
  (Rd.mk x.r.b x.r.i x.r.e).fail (numE (Rd.mk x.r.b x.r.i x.r.e).left (wr IntKind.u64 (max (0 : Int) x.n)))).e).Ok ∧ ((↑(Rd.mk (if numE (Rd.mk x.r.b
  x.r.i x.r.e).left (wr IntKind.u64 (max (0 : Int) x.n)) = (0 : Int) then Rd.mk x.r.b x.r.i x.r.e else (Rd.mk x.r.b x.r.i x.r.e).fail (numE (Rd.mk x.r.b
  x.r.i x.r.e).left (wr IntKind.u64 (max (0 : Int) x.n)))).b (if numE (Rd.mk x.r.b x.r.i x.r.e).left (wr IntKind.u64 (max (0 : Int) x.n)) = (0 : Int)
  then Rd.mk x.r.b x.r.i x.r.e else (Rd.mk x.r.b x.r.i x.r.e).fail (numE (Rd.mk x.r.b x.r.i x.r.e).left (wr IntKind.u64 (max (0 : Int) x.n)))).i (if numE
  (Rd.mk x.r.b x.r.i x.r.e).left (wr IntKind.u64 (max (0 : Int) x.n)) = (0 : Int) then Rd.mk x.r.b x.r.i x.r.e else (Rd.mk x.r.b x.r.i x.r.e).fail (numE
  (Rd.mk x.r.b x.r.i x.r.e).left (wr IntKind.u64 (max (0 : Int) x.n)))).e).left.length : Int) ≤ (9223372036854775807 : Int) → inI64 ((↑(Rd.mk (if numE
  (Rd.mk x.r.b x.r.i x.r.e).left (wr IntKind.u64 (max (0 : Int) x.n)) = (0 : Int) then Rd.mk x.r.b x.r.i x.r.e else (Rd.mk x.r.b x.r.i x.r.e).fail (numE
  (Rd.mk x.r.b x.r.i x.r.e).left (wr IntKind.u64 (max (0 : Int) x.n)))).b (if numE (Rd.mk x.r.b x.r.i x.r.e).left (wr IntKind.u64 (max (0 : Int) x.n)) =
  (0 : Int) then Rd.mk x.r.b x.r.i x.r.e else (Rd.mk x.r.b x.r.i x.r.e).fail (numE (Rd.mk x.r.b x.r.i x.r.e).left (wr IntKind.u64 (max (0 : Int)
  x.n)))).i (if numE (Rd.mk x.r.b x.r.i x.r.e).left (wr IntKind.u64 (max (0 : Int) x.n)) = (0 : Int) then Rd.mk x.r.b x.r.i x.r.e else (Rd.mk x.r.b x.r.i
  x.r.e).fail (numE (Rd.mk x.r.b x.r.i x.r.e).left (wr IntKind.u64 (max (0 : Int) x.n)))).e).left.length : Int) - if numE (Rd.mk x.r.b x.r.i x.r.e).left
  (wr IntKind.u64 (max (0 : Int) x.n)) = (0 : Int) then numW (Rd.mk x.r.b x.r.i x.r.e).left else (0 : Int)) ∧ (decide ((if numE (Rd.mk x.r.b x.r.i
  x.r.e).left (wr IntKind.u64 (max (0 : Int) x.n)) = (0 : Int) then numV (Rd.mk x.r.b x.r.i x.r.e).left else (0 : Int)) > wr IntKind.u64 ((↑(Rd.mk (if
  numE (Rd.mk x.r.b x.r.i x.r.e).left (wr IntKind.u64 (max (0 : Int) x.n)) = (0 : Int) then Rd.mk x.r.b x.r.i x.r.e else (Rd.mk x.r.b x.r.i x.r.e).fail
  (numE (Rd.mk x.r.b x.r.i x.r.e).left (wr IntKind.u64 (max (0 : Int) x.n)))).b (if numE (Rd.mk x.r.b x.r.i x.r.e).left (wr IntKind.u64 (max (0 : Int)
  x.n)) = (0 : Int) then Rd.mk x.r.b x.r.i x.r.e else (Rd.mk x.r.b x.r.i x.r.e).fail (numE (Rd.mk x.r.b x.r.i x.r.e).left (wr IntKind.u64 (max (0 : Int)
  x.n)))).i (if numE (Rd.mk x.r.b x.r.i x.r.e).left (wr IntKind.u64 (max (0 : Int) x.n)) = (0 : Int) then Rd.mk x.r.b x.r.i x.r.e else (Rd.mk x.r.b x.r.i
  x.r.e).fail (numE (Rd.mk x.r.b x.r.i x.r.e).left (wr IntKind.u64 (max (0 : Int) x.n)))).e).left.length : Int) - if numE (Rd.mk x.r.b x.r.i x.r.e).left
  (wr IntKind.u64 (max (0 : Int) x.n)) = (0 : Int) then numW (Rd.mk x.r.b x.r.i x.r.e).left else (0 : Int))) = true → (True ∧ (2 : Int) = (2 : Int) ∧ (2
  : Int) ≠ (0 : Int)) ∧ (((if numE (Rd.mk x.r.b x.r.i x.r.e).left (wr IntKind.u64 (max (0 : Int) x.n)) = (0 : Int) then Rd.mk x.r.b x.r.i x.r.e else
  (Rd.mk x.r.b x.r.i x.r.e).fail (numE (Rd.mk x.r.b x.r.i x.r.e).left (wr IntKind.u64 (max (0 : Int) x.n)))).b = (if numE (Rd.mk x.r.b x.r.i x.r.e).left
  (wr IntKind.u64 (max (0 : Int) x.n)) = (0 : Int) then Rd.mk x.r.b x.r.i x.r.e else (Rd.mk x.r.b x.r.i x.r.e).fail (numE (Rd.mk x.r.b x.r.i x.r.e).left
  (wr IntKind.u64 (max (0 : Int) x.n)))).b ∧ (if numE (Rd.mk x.r.b x.r.i x.r.e).left (wr IntKind.u64 (max (0 : Int) x.n)) = (0 : Int) then Rd.mk x.r.b
  x.r.i x.r.e else (Rd.mk x.r.b x.r.i x.r.e).fail (numE (Rd.mk x.r.b x.r.i x.r.e).left (wr IntKind.u64 (max (0 : Int) x.n)))).i = (if numE (Rd.mk x.r.b
  x.r.i x.r.e).left (wr IntKind.u64 (max (0 : Int) x.n)) = (0 : Int) then Rd.mk x.r.b x.r.i x.r.e else (Rd.mk x.r.b x.r.i x.r.e).fail (numE (Rd.mk x.r.b
  x.r.i x.r.e).left (wr IntKind.u64 (max (0 : Int) x.n)))).i ∧ (if numE (Rd.mk x.r.b x.r.i x.r.e).left (wr IntKind.u64 (max (0 : Int) x.n)) = (0 : Int)
  then Rd.mk x.r.b x.r.i x.r.e else (Rd.mk x.r.b x.r.i x.r.e).fail (numE (Rd.mk x.r.b x.r.i x.r.e).left (wr IntKind.u64 (max (0 : Int) x.n)))).e = (if
  numE (Rd.mk x.r.b x.r.i x.r.e).left (wr IntKind.u64 (max (0 : Int) x.n)) = (0 : Int) then Rd.mk x.r.b x.r.i x.r.e else (Rd.mk x.r.b x.r.i x.r.e).fail
  (numE (Rd.mk x.r.b x.r.i x.r.e).left (wr IntKind.u64 (max (0 : Int) x.n)))).e ∧ True) ∧ True) ∧ True ∧ (countR x.r x.n).fst = (0 : Int) ∧ (((countR x.r
  x.n).snd.b = (if numE (Rd.mk x.r.b x.r.i x.r.e).left (wr IntKind.u64 (max (0 : Int) x.n)) = (0 : Int) then Rd.mk x.r.b x.r.i x.r.e else (Rd.mk x.r.b
  x.r.i x.r.e).fail (numE (Rd.mk x.r.b x.r.i x.r.e).left (wr IntKind.u64 (max (0 : Int) x.n)))).b ∧ (countR x.r x.n).snd.i = (if numE (Rd.mk x.r.b x.r.i
  x.r.e).left (wr IntKind.u64 (max (0 : Int) x.n)) = (0 : Int) then Rd.mk x.r.b x.r.i x.r.e else (Rd.mk x.r.b x.r.i x.r.e).fail (numE (Rd.mk x.r.b x.r.i
  x.r.e).left (wr IntKind.u64 (max (0 : Int) x.n)))).i ∧ ((countR x.r x.n).snd.e = if (if numE (Rd.mk x.r.b x.r.i x.r.e).left (wr IntKind.u64 (max (0 :
  Int) x.n)) = (0 : Int) then Rd.mk x.r.b x.r.i x.r.e else (Rd.mk x.r.b x.r.i x.r.e).fail (numE (Rd.mk x.r.b x.r.i x.r.e).left (wr IntKind.u64 (max (0 :
  Int) x.n)))).e = (0 : Int) then (2 : Int) else (if numE (Rd.mk x.r.b x.r.i x.r.e).left (wr IntKind.u64 (max (0 : Int) x.n)) = (0 : Int) then Rd.mk
  x.r.b x.r.i x.r.e else (Rd.mk x.r.b x.r.i x.r.e).fail (numE (Rd.mk x.r.b x.r.i x.r.e).left (wr IntKind.u64 (max (0 : Int) x.n)))).e) ∧ True) ∧ True) ∧
  True) ∧ (decide ((if numE (Rd.mk x.r.b x.r.i x.r.e).left (wr IntKind.u64 (max (0 : Int) x.n)) = (0 : Int) then numV (Rd.mk x.r.b x.r.i x.r.e).left else
  (0 : Int)) > wr IntKind.u64 ((↑(Rd.mk (if numE (Rd.mk x.r.b x.r.i x.r.e).left (wr IntKind.u64 (max (0 : Int) x.n)) = (0 : Int) then Rd.mk x.r.b x.r.i
  x.r.e else (Rd.mk x.r.b x.r.i x.r.e).fail (numE (Rd.mk x.r.b x.r.i x.r.e).left (wr IntKind.u64 (max (0 : Int) x.n)))).b (if numE (Rd.mk x.r.b x.r.i
  x.r.e).left (wr IntKind.u64 (max (0 : Int) x.n)) = (0 : Int) then Rd.mk x.r.b x.r.i x.r.e else (Rd.mk x.r.b x.r.i x.r.e).fail (numE (Rd.mk x.r.b x.r.i
  x.r.e).left (wr IntKind.u64 (max (0 : Int) x.n)))).i (if numE (Rd.mk x.r.b x.r.i x.r.e).left (wr IntKind.u64 (max (0 : Int) x.n)) = (0 : Int) then
  Rd.mk x.r.b x.r.i x.r.e else (Rd.mk x.r.b x.r.i x.r.e).fail (numE (Rd.mk x.r.b x.r.i x.r.e).left (wr IntKind.u64 (max (0 : Int) x.n)))).e).left.length
  : Int) - if numE (Rd.mk x.r.b x.r.i x.r.e).left (wr IntKind.u64 (max (0 : Int) x.n)) = (0 : Int) then numW (Rd.mk x.r.b x.r.i x.r.e).left else (0 :
  Int))) = false → inI64 ((if numE (Rd.mk x.r.b x.r.i x.r.e).left (wr IntKind.u64 (max (0 : Int) x.n)) = (0 : Int) then Rd.mk x.r.b x.r.i x.r.e else
  (Rd.mk x.r.b x.r.i x.r.e).fail (numE (Rd.mk x.r.b x.r.i x.r.e).left (wr IntKind.u64 (max (0 : Int) x.n)))).i + if numE (Rd.mk x.r.b x.r.i x.r.e).left
  (wr IntKind.u64 (max (0 : Int) x.n)) = (0 : Int) then numW (Rd.mk x.r.b x.r.i x.r.e).left else (0 : Int)) ∧ (countR x.r x.n).fst = wr IntKind.i64 (if
  numE (Rd.mk x.r.b x.r.i x.r.e).left (wr IntKind.u64 (max (0 : Int) x.n)) = (0 : Int) then numV (Rd.mk x.r.b x.r.i x.r.e).left else (0 : Int)) ∧
  (((countR x.r x.n).snd.b = (if numE (Rd.mk x.r.b x.r.i x.r.e).left (wr IntKind.u64 (max (0 : Int) x.n)) = (0 : Int) then Rd.mk x.r.b x.r.i x.r.e else
  (Rd.mk x.r.b x.r.i x.r.e).fail (numE (Rd.mk x.r.b x.r.i x.r.e).left (wr IntKind.u64 (max (0 : Int) x.n)))).b ∧ ((countR x.r x.n).snd.i = (if numE
  (Rd.mk x.r.b x.r.i x.r.e).left (wr IntKind.u64 (max (0 : Int) x.n)) = (0 : Int) then Rd.mk x.r.b x.r.i x.r.e else (Rd.mk x.r.b x.r.i x.r.e).fail (numE
  (Rd.mk x.r.b x.r.i x.r.e).left (wr IntKind.u64 (max (0 : Int) x.n)))).i + if numE (Rd.mk x.r.b x.r.i x.r.e).left (wr IntKind.u64 (max (0 : Int) x.n)) =
  (0 : Int) then numW (Rd.mk x.r.b x.r.i x.r.e).left else (0 : Int)) ∧ (countR x.r x.n).snd.e = (if numE (Rd.mk x.r.b x.r.i x.r.e).left (wr IntKind.u64
  (max (0 : Int) x.n)) = (0 : Int) then Rd.mk x.r.b x.r.i x.r.e else (Rd.mk x.r.b x.r.i x.r.e).fail (numE (Rd.mk x.r.b x.r.i x.r.e).left (wr IntKind.u64
  (max (0 : Int) x.n)))).e ∧ True) ∧ True) ∧ True))) ∧ (decide (numE (Rd.mk x.r.b x.r.i x.r.e).left (wr IntKind.u64 (max (0 : Int) x.n)) = (0 : Int)) =
  false → (countR x.r x.n).fst = wr IntKind.i64 (if numE (Rd.mk x.r.b x.r.i x.r.e).left (wr IntKind.u64 (max (0 : Int) x.n)) = (0 : Int) then numV (Rd.mk
  x.r.b x.r.i x.r.e).left else (0 : Int)) ∧ (((countR x.r x.n).snd.b = (if numE (Rd.mk x.r.b x.r.i x.r.e).left (wr IntKind.u64 (max (0 : Int) x.n)) = (0
  : Int) then Rd.mk x.r.b x.r.i x.r.e else (Rd.mk x.r.b x.r.i x.r.e).fail (numE (Rd.mk x.r.b x.r.i x.r.e).left (wr IntKind.u64 (max (0 : Int) x.n)))).b ∧
  (countR x.r x.n).snd.i = (if numE (Rd.mk x.r.b x.r.i x.r.e).left (wr IntKind.u64 (max (0 : Int) x.n)) = (0 : Int) then Rd.mk x.r.b x.r.i x.r.e else
  (Rd.mk x.r.b x.r.i x.r.e).fail (numE (Rd.mk x.r.b x.r.i x.r.e).left (wr IntKind.u64 (max (0 : Int) x.n)))).i ∧ (countR x.r x.n).snd.e = (if numE (Rd.mk
  x.r.b x.r.i x.r.e).left (wr IntKind.u64 (max (0 : Int) x.n)) = (0 : Int) then Rd.mk x.r.b x.r.i x.r.e else (Rd.mk x.r.b x.r.i x.r.e).fail (numE (Rd.mk
  x.r.b x.r.i x.r.e).left (wr IntKind.u64 (max (0 : Int) x.n)))).e ∧ True) ∧ True) ∧ True))

theorem count_eq : countVC = fnS F125 f77 (bodyOf f77) countLS noAnn := by kernel_rfl
theorem count_vc : countVC := by
  rintro ⟨⟨b, i, e⟩, m⟩ hx
  have hr := hx.r
  have hm := hx.lo
  have hm2 := hx.hi
  simp only at hr hm hm2
  have hw : wr .u64 (max 0 m) = m := by rw [Int.max_eq_right hm, wr64u]; omega
  have hok : (RdN.mk (Rd.mk b i e) m).Ok := hx.toOk
  by_cases he : e = 0
  · subst he
    have hl := left_len _ hr
    have nf := num_facts hr (m := m)
    have hlen := hr.len
    have hlo := hr.lo
    simp only at hl hlen hlo
    by_cases hz : numE (Rd.mk b i 0).left m = 0
    · have := nf hz
      have hi : inI64 (i + numW (Rd.mk b i 0).left) := by unfold inI64; omega
      have hi2 : inI64 (((Rd.mk b i 0).left.length : Int) - numW (Rd.mk b i 0).left) := by unfold inI64; omega
      have hw2 : wr .u64 (((Rd.mk b i 0).left.length : Int) - numW (Rd.mk b i 0).left) = ((Rd.mk b i 0).left.length : Int) - numW (Rd.mk b i 0).left := by rw [wr64u]; omega
      have hw3 : wr .i64 (numV (Rd.mk b i 0).left) = numV (Rd.mk b i 0).left := wr64 (by unfold inI64; omega)
      by_cases hc : numV (Rd.mk b i 0).left > ((Rd.mk b i 0).left.length : Int) - numW (Rd.mk b i 0).left
      · simp [countR, hz, hw, hok, hi, hi2, hw2, hw3, hc, hr]
      · simp [countR, hz, hw, hok, hi, hi2, hw2, hw3, hc, hr]
    · have h0 : wr .i64 0 = 0 := by decide
      simp [countR, hz, hw, hok, Rd.fail, h0]
  · simp [countR, he]
theorem count_ok : Fits F125 f77 (bodyOf f77) countLS noAnn := by
  constructor
  rw [← count_eq]
  exact count_vc
theorem f77_has : Has prog 77 f77 (bodyOf f77) := ⟨by kernel_rfl, by kernel_rfl, by kernel_rfl⟩
theorem known126 : Known prog L126 := by
  unfold L126
  exact known125.lent mixed f77_has F125_eq count_ok (fun _ _ => Nat.le_refl _) (fun h => by cases h)
/-! ## A hash; the end -/
def rdHashVC : Prop := ∀ (x : Rd), x.Ok → True ∧ ((x.b = x.b ∧ x.i = x.i ∧ x.e = x.e ∧ True) ∧ True) ∧ True ∧ (decide (x.e ≠ (0 : Int)) = true → ((hashR x).fst =
  List.replicate (32 : Nat) (0 : Int) ∧ True) ∧ (((hashR x).snd.b = x.b ∧ (hashR x).snd.i = x.i ∧ (hashR x).snd.e = x.e ∧ True) ∧ True) ∧ True) ∧ (decide
  (x.e ≠ (0 : Int)) = false → True ∧ ((x.b = x.b ∧ x.i = x.i ∧ x.e = x.e ∧ True) ∧ True) ∧ (Rd.mk x.b x.i x.e).Ok ∧ ((↑(Rd.mk x.b x.i x.e).left.length :
  Int) ≤ (9223372036854775807 : Int) → (decide ((↑(Rd.mk x.b x.i x.e).left.length : Int) < (32 : Int)) = true → (True ∧ (12 : Int) = (12 : Int) ∧ (12 :
  Int) ≠ (0 : Int)) ∧ ((x.b = x.b ∧ x.i = x.i ∧ x.e = x.e ∧ True) ∧ True) ∧ True ∧ ((hashR x).fst = List.replicate (32 : Nat) (0 : Int) ∧ True) ∧
  (((hashR x).snd.b = x.b ∧ (hashR x).snd.i = x.i ∧ ((hashR x).snd.e = if x.e = (0 : Int) then (12 : Int) else x.e) ∧ True) ∧ True) ∧ True) ∧ (decide
  ((↑(Rd.mk x.b x.i x.e).left.length : Int) < (32 : Int)) = false → (True ∧ ((x.b = x.b ∧ x.i = x.i ∧ x.e = x.e ∧ True) ∧ True) ∧ (Rd.mk x.b x.i x.e).Ok
  ∧ inI64 (x.i + (↑(min (Rd.mk x.b x.i x.e).left.length (nat_lit 31 + (1 : Nat))) : Int)) ∧ ((hashR x).fst = copyInts (List.replicate (32 : Nat) (0 :
  Int)) (Rd.mk x.b x.i x.e).left ∧ True) ∧ (((hashR x).snd.b = x.b ∧ (hashR x).snd.i = x.i + (↑(min (Rd.mk x.b x.i x.e).left.length (nat_lit 31 + (1 :
  Nat))) : Int) ∧ (hashR x).snd.e = x.e ∧ True) ∧ True) ∧ True) ∧ True ∧ ((x.b = x.b ∧ x.i = x.i ∧ x.e = x.e ∧ True) ∧ True) ∧ (Rd.mk x.b x.i x.e).Ok ∧
  (inI64 (x.i + (↑(min (Rd.mk x.b x.i x.e).left.length (nat_lit 31 + (1 : Nat))) : Int)) ∧ ((hashR x).fst = copyInts (List.replicate (32 : Nat) (0 :
  Int)) (Rd.mk x.b x.i x.e).left ∧ True) ∧ (((hashR x).snd.b = x.b ∧ (hashR x).snd.i = x.i + (↑(min (Rd.mk x.b x.i x.e).left.length (nat_lit 31 + (1 :
  Nat))) : Int) ∧ (hashR x).snd.e = x.e ∧ True) ∧ True) ∧ True) ∧ inI64 (x.i + (↑(min (Rd.mk x.b x.i x.e).left.length (nat_lit 31 + (1 : Nat))) : Int)) ∧
  ((hashR x).fst = copyInts (List.replicate (32 : Nat) (0 : Int)) (Rd.mk x.b x.i x.e).left ∧ True) ∧ (((hashR x).snd.b = x.b ∧ (hashR x).snd.i = x.i +
  (↑(min (Rd.mk x.b x.i x.e).left.length (nat_lit 31 + (1 : Nat))) : Int) ∧ (hashR x).snd.e = x.e ∧ True) ∧ True) ∧ True)))

theorem rdHash_eq : rdHashVC = fnS F126 f79 (bodyOf f79) rHashLS2 noAnn := by kernel_rfl
theorem rdHash_vc : rdHashVC := by
  rintro ⟨b, i, e⟩ hr
  by_cases he : e = 0
  · subst he
    have hl := left_len _ hr
    have hlen := hr.len
    have hlo := hr.lo
    simp only at hl hlen hlo
    by_cases hz : (Rd.mk b i 0).left.length < 32
    · simp [hashR, hz, hr]
      try omega
    · have hm : min (Rd.mk b i 0).left.length 32 = 32 := by omega
      have hc : copyInts (List.replicate 32 0) (Rd.mk b i 0).left = (Rd.mk b i 0).left.take 32 := by
        unfold copyInts
        rw [List.length_replicate, List.drop_of_length_le (by rw [List.length_replicate]; omega), List.append_nil]
      have hi : inI64 (i + 32) := by unfold inI64; omega
      simp [hashR, hz, hr, hm, hi]
      exact fun _ => ⟨by omega, fun _ => hc.symm⟩
  · simp [hashR, he]
theorem rdHash_ok : Fits F126 f79 (bodyOf f79) rHashLS2 noAnn := by
  constructor
  rw [← rdHash_eq]
  exact rdHash_vc
theorem f79_has : Has prog 79 f79 (bodyOf f79) := ⟨by kernel_rfl, by kernel_rfl, by kernel_rfl⟩
theorem known127 : Known prog L127 := by
  unfold L127
  exact known126.lent mixed f79_has F126_eq rdHash_ok (fun _ _ => Nat.le_refl _) (fun h => by cases h)
def rdDoneVC : Prop := ∀ (x : Rd), True → ((!x.e == (0 : Int)) = true → doneR x = x.e ∧ ((x.b = x.b ∧ x.i = x.i ∧ x.e = x.e ∧ True) ∧ True) ∧ True) ∧ ((!x.e == (0 : Int)) =
  false → (↑x.b.length : Int) ≤ (9223372036854775807 : Int) → (decide (x.i < (↑x.b.length : Int)) = true → (doneR x = (3 : Int) ∧ (3 : Int) ≠ (0 : Int))
  ∧ ((x.b = x.b ∧ x.i = x.i ∧ x.e = x.e ∧ True) ∧ True) ∧ True) ∧ (decide (x.i < (↑x.b.length : Int)) = false → doneR x = (0 : Int) ∧ ((x.b = x.b ∧ x.i =
  x.i ∧ x.e = x.e ∧ True) ∧ True) ∧ True))

theorem rdDone_eq : rdDoneVC = fnS F127 f80 (bodyOf f80) rDoneLS noAnn := by kernel_rfl
theorem rdDone_vc : rdDoneVC := by
  rintro ⟨b, i, e⟩ _
  by_cases he : e = 0
  · subst he
    by_cases hz : i < b.length
    · simp [doneR, hz]
    · simp [doneR, hz]
  · simp [doneR, he]
theorem rdDone_ok : Fits F127 f80 (bodyOf f80) rDoneLS noAnn := by
  constructor
  rw [← rdDone_eq]
  exact rdDone_vc
theorem f80_has : Has prog 80 f80 (bodyOf f80) := ⟨by kernel_rfl, by kernel_rfl, by kernel_rfl⟩
theorem known128 : Known prog L128 := by
  unfold L128
  exact known127.lent mixed f80_has F127_eq rdDone_ok (fun _ _ => Nat.le_refl _) (fun h => by cases h)
def readVC : Prop := ∀ (x : List Int), True → True ∧ True ∧ (x = x ∧ (0 : Int) = (0 : Int) ∧ (0 : Int) = (0 : Int) ∧ True) ∧ True

theorem read_eq : readVC = fnS F128 f76 (bodyOf f76) readLS noAnn := by kernel_rfl
theorem read_vc : readVC := fun _ _ => ⟨trivial, trivial, ⟨rfl, rfl, rfl, trivial⟩, trivial⟩
theorem read_ok : Fits F128 f76 (bodyOf f76) readLS noAnn := by
  constructor
  rw [← read_eq]
  exact read_vc
theorem f76_has : Has prog 76 f76 (bodyOf f76) := ⟨by kernel_rfl, by kernel_rfl, by kernel_rfl⟩
theorem known129 : Known prog L129 := by
  unfold L129
  exact known128.lent mixed f76_has F128_eq read_ok (fun _ _ => Nat.zero_le _) (fun _ _ => rfl)
end Go.Proofs.YtcglahfmnoghjaaDoor

/-! A condition of bytes; two conditions the same; CondBack: what is said of them. Conditions: none. -/
namespace Go.Proofs.YtcglahfmnoghjaaDoor
open Go Go.Eng Go.Proofs.Tryd

structure DecIn (b : List Int) : Prop where
  byt : ∀ y, y ∈ b → 0 ≤ y ∧ y < 256
  len : b.length ≤ 1000000000000
noncomputable def decLS : LS AA where
  X := List Int
  pre := DecIn
  args := fun b => [.rints .u8 b]
  hin := fun _ => []
  res := fun b => [.agg (.cell (.rseq 93 (show List (AA 93) from decB b)) .nil), .err 94 (decE b)]
  hout := fun _ => []
def decAnn (b : List Int) : Anns AA := fun k ts sh => if k = 5 then some {
    X := Nat
    inv := fun i => (i : Int) ≤ (countR ⟨b, 0, 0⟩ 8).1
    meas := fun i => (countR ⟨b, 0, 0⟩ 8).1.toNat - i
    slots := fun i => [(11, .int .i64 i)]
    heap := fun i => [(1, rcell (dBrs i (countR ⟨b, 0, 0⟩ 8).2).2), (2, .cells 38 (.cell (.vec (cnt sh)) .nil))]
    more := fun i => [.svec 93 (show List (AA 93) from (dBrs i (countR ⟨b, 0, 0⟩ 8).2).1)] }
  else (match nth ts 6, nth ts 14, rdOf sh (.ptr 1 0) with
    | some (.ptr j _), some (.int _ n), some r => (match nth sh j with
      | some (.cells t (.cell _ rest)) => some {
        X := Nat
        inv := fun i => (i : Int) ≤ n
        meas := fun i => n.toNat - i
        slots := fun i => [(15, .int .i64 i)]
        heap := fun i => [(1, rcell (dKeys i r).2), (j, .cells t (.cell (.vec (cnt sh)) rest))]
        more := fun i => [.ivec 3 .i64 (dKeys i r).1] }
      | _ => none)
    | _, _, _ => none)
def L130 : List (Nat × SpecT AA) := (40, tLent decLS bytesGet1) :: L129
noncomputable def F130 : Eng AA := EF prog L130
theorem F130_eq : F130 = EF prog L130 := by
  unfold F130
  rfl
/-! ## Bytes, and conditions, the same -/
def bEqLS : LS AA where
  X := List Int × List Int
  pre := fun _ => True
  args := fun x => [.rints .u8 x.1, .rints .u8 x.2]
  hin := fun _ => []
  res := fun x => [.sb 0 ((strOfNums x.1).toList == (strOfNums x.2).toList)]
  hout := fun _ => []
def bytesGet2 (args : List (SV AA)) (sh : List (SO AA)) : Option (List Int × List Int) := match args with
  | [s, t] => match gI .u8 sh s, gI .u8 sh t with
    | some a, some b => some (a, b)
    | _, _ => none
  | _ => none
def L131 : List (Nat × SpecT AA) := (81, tLent bEqLS bytesGet2) :: L130
noncomputable def F131 : Eng AA := EF prog L131
theorem F131_eq : F131 = EF prog L131 := by
  unfold F131
  rfl
structure SamIn (x : List Br × List Br) : Prop where
  w1 : weight x.1 ≤ 2000000
  l1 : Locks x.1
  w2 : weight x.2 ≤ 2000000
  l2 : Locks x.2
def samLS : LS AA where
  X := List Br × List Br
  pre := SamIn
  args := fun x => [.agg (.cell (.rseq 93 (show List (AA 93) from x.1)) .nil), .agg (.cell (.rseq 93 (show List (AA 93) from x.2)) .nil)]
  hin := fun _ => []
  res := fun x => [.sb 0 ((strOfNums (putB x.1)).toList == (strOfNums (putB x.2)).toList)]
  hout := fun _ => []
def condGet2 (args : List (SV AA)) (sh : List (SO AA)) : Option (List Br × List Br) := match args with
  | [c, d] => match condG 93 sh c, condG 93 sh d with
    | some a, some b => some (a, b)
    | _, _ => none
  | _ => none
def L132 : List (Nat × SpecT AA) := (41, tLent samLS condGet2) :: L131
noncomputable def F132 : Eng AA := EF prog L132
theorem F132_eq : F132 = EF prog L132 := by
  unfold F132
  rfl
/-! ## The law -/
structure BackIn (bs : List Br) : Prop where
  w : weight bs ≤ 2000000
  b : ∀ b, b ∈ bs → BrIn b ∧ ∀ y, y ∈ b.lock → 0 ≤ y ∧ y < 256
def backLS : LS AA where
  X := List Br
  pre := BackIn
  args := fun bs => [.agg (.cell (.rseq 48 (show List (AA 48) from bs)) .nil)]
  hin := fun _ => []
  res := fun _ => [.sb 0 true]
  hout := fun _ => []
end Go.Proofs.YtcglahfmnoghjaaDoor

/-! A condition of bytes: the walks. Conditions: none. -/
namespace Go.Proofs.YtcglahfmnoghjaaDoor
open Go Go.Eng Go.Proofs.Tryd

/-! ## A reader stays one -/
theorem uintR_ok {r : Rd} (h : r.Ok) {m : Int} (hm : 0 ≤ m) : (uintR r m).2.Ok ∧ 0 ≤ (uintR r m).1 ∧ (uintR r m).1 ≤ m := by
  unfold uintR
  split
  · exact ⟨h, by show (0 : Int) ≤ 0; omega, hm⟩
  split
  · exact ⟨⟨h.byt, h.lo, h.hi, h.len⟩, by show (0 : Int) ≤ 0; omega, hm⟩
  rename_i h1 h2
  have nf := num_facts h (m := m) (Classical.not_not.1 h2)
  have hl := left_len r h
  have := h.lo
  exact ⟨⟨h.byt, by show 0 ≤ r.i + numW r.left; omega, by show r.i + numW r.left ≤ r.b.length; omega, h.len⟩, nf.1, nf.2.1⟩
theorem countR_ok {r : Rd} (h : r.Ok) {m : Int} (hm : 0 ≤ m) : (countR r m).2.Ok ∧ 0 ≤ (countR r m).1 ∧ (countR r m).1 ≤ m := by
  unfold countR
  split
  · exact ⟨h, by show (0 : Int) ≤ 0; omega, hm⟩
  split
  · exact ⟨⟨h.byt, h.lo, h.hi, h.len⟩, by show (0 : Int) ≤ 0; omega, hm⟩
  rename_i h1 h2
  have nf := num_facts h (m := m) (Classical.not_not.1 h2)
  have hl := left_len r h
  have := h.lo
  split
  · exact ⟨⟨h.byt, h.lo, h.hi, h.len⟩, by show (0 : Int) ≤ 0; omega, hm⟩
  exact ⟨⟨h.byt, by show 0 ≤ r.i + numW r.left; omega, by show r.i + numW r.left ≤ r.b.length; omega, h.len⟩, nf.1, nf.2.1⟩
theorem hashR_ok {r : Rd} (h : r.Ok) : (hashR r).2.Ok ∧ (hashR r).1.length = 32 := by
  unfold hashR
  split
  · exact ⟨h, by simp⟩
  split
  · exact ⟨⟨h.byt, h.lo, h.hi, h.len⟩, by simp⟩
  have hl := left_len r h
  have := h.lo
  exact ⟨⟨h.byt, by show 0 ≤ r.i + 32; omega, by show r.i + 32 ≤ r.b.length; omega, h.len⟩, by
    show (r.left.take 32).length = 32
    rw [List.length_take]; omega⟩
theorem keysR_ok {r : Rd} (h : r.Ok) : ∀ k, (dKeys k r).2.Ok ∧ (dKeys k r).1.length = k
  | 0 => ⟨h, rfl⟩
  | k + 1 => by
    obtain ⟨h1, h2⟩ := keysR_ok h k
    refine ⟨(uintR_ok h1 (m := 16) (by omega)).1, ?_⟩
    show ((dKeys k r).1 ++ [(uintR (dKeys k r).2 16).1]).length = k + 1
    rw [List.length_append, h2]
    rfl
theorem kR_ok {r : Rd} (h : r.Ok) : (dK r).2.Ok ∧ (dK r).1.length ≤ 16 := by
  obtain ⟨h1, h2, h3⟩ := countR_ok h (m := 16) (by omega)
  obtain ⟨h4, h5⟩ := keysR_ok h1 (countR r 16).1.toNat
  refine ⟨h4, ?_⟩
  show (dKeys (countR r 16).1.toNat (countR r 16).2).1.length ≤ 16
  omega
theorem hR_ok {r : Rd} (h : r.Ok) : (dH r).2.Ok ∧ (dH r).1.length = 32 := hashR_ok (kR_ok h).1
theorem aR_ok {r : Rd} (h : r.Ok) : (dA r).2.Ok ∧ 0 ≤ (dA r).1 ∧ (dA r).1 ≤ 1099511627776 := uintR_ok (hR_ok h).1 (by omega)
theorem oR_ok {r : Rd} (h : r.Ok) : (dO r).2.Ok ∧ 0 ≤ (dO r).1 ∧ (dO r).1 ≤ 65536 := uintR_ok (aR_ok h).1 (by omega)
theorem brsR_ok {r : Rd} (h : r.Ok) : ∀ k, (dBrs k r).2.Ok ∧ (dBrs k r).1.length = k
  | 0 => ⟨h, rfl⟩
  | k + 1 => by
    obtain ⟨h1, h2⟩ := brsR_ok h k
    refine ⟨(oR_ok h1).1, ?_⟩
    show ((dBrs k r).1 ++ [(dBr (dBrs k r).2).1]).length = k + 1
    rw [List.length_append, h2]
    rfl
end Go.Proofs.YtcglahfmnoghjaaDoor

/-! A condition of bytes; CondBack: the walks. Conditions: none. -/
namespace Go.Proofs.YtcglahfmnoghjaaDoor
open Go Go.Eng Go.Proofs.Tryd

theorem both {P : Prop} (h : P) : P ∧ P := ⟨h, h⟩
theorem wr_small {x m : Int} (h : 0 ≤ x ∧ x ≤ m) (hm : m ≤ 1099511627776) : wr .i64 x = x := wr64 (by unfold inI64; omega)
def decVC : Prop := ∀ (x : List Int), DecIn x → x = x ∧ True ∧ True ∧ (True ∧ (8 : Int) = (8 : Int)) ∧ ((x = x ∧ (0 : Int) = (0 : Int) ∧ (0 : Int) = (0 : Int) ∧ True) ∧
  True) ∧ (RdN.mk (Rd.mk x (0 : Int) (0 : Int)) (8 : Int)).Few ∧ (∃ (x_1 : Nat), ((countR (Rd.mk x (0 : Int) (0 : Int)) (8 : Int)).fst - (↑x_1 :
  Int)).NonNeg ∧ (↑x_1 : Int) = (0 : Int) ∧ (((SV.val (A := AA) (Value.slice none (0 : Nat) (0 : Nat)) : SV AA) = SV.val (A := AA) (Value.slice none (0 :
  Nat) (0 : Nat)) ∧ True) ∧ ((dBrs x_1 (countR (Rd.mk x (0 : Int) (0 : Int)) (8 : Int)).snd).snd.b = (countR (Rd.mk x (0 : Int) (0 : Int)) (8 :
  Int)).snd.b ∧ (dBrs x_1 (countR (Rd.mk x (0 : Int) (0 : Int)) (8 : Int)).snd).snd.i = (countR (Rd.mk x (0 : Int) (0 : Int)) (8 : Int)).snd.i ∧ (dBrs
  x_1 (countR (Rd.mk x (0 : Int) (0 : Int)) (8 : Int)).snd).snd.e = (countR (Rd.mk x (0 : Int) (0 : Int)) (8 : Int)).snd.e ∧ True) ∧ ((SV.val (A := AA)
  (Value.slice none (0 : Nat) (0 : Nat)) : SV AA) = SV.val (A := AA) (Value.slice none (0 : Nat) (0 : Nat)) ∧ True) ∧ True) ∧ (dBrs x_1 (countR (Rd.mk x
  (0 : Int) (0 : Int)) (8 : Int)).snd).fst = [] ∧ True) ∧ ∀ (x_1 : Nat), ((countR (Rd.mk x (0 : Int) (0 : Int)) (8 : Int)).fst - (↑x_1 : Int)).NonNeg →
  (decide ((↑x_1 : Int) < (countR (Rd.mk x (0 : Int) (0 : Int)) (8 : Int)).fst) = true → (True ∧ (16 : Int) = (16 : Int)) ∧ (((dBrs x_1 (countR (Rd.mk x
  (0 : Int) (0 : Int)) (8 : Int)).snd).snd.b = (dBrs x_1 (countR (Rd.mk x (0 : Int) (0 : Int)) (8 : Int)).snd).snd.b ∧ (dBrs x_1 (countR (Rd.mk x (0 :
  Int) (0 : Int)) (8 : Int)).snd).snd.i = (dBrs x_1 (countR (Rd.mk x (0 : Int) (0 : Int)) (8 : Int)).snd).snd.i ∧ (dBrs x_1 (countR (Rd.mk x (0 : Int) (0
  : Int)) (8 : Int)).snd).snd.e = (dBrs x_1 (countR (Rd.mk x (0 : Int) (0 : Int)) (8 : Int)).snd).snd.e ∧ True) ∧ True) ∧ (RdN.mk (dBrs x_1 (countR
  (Rd.mk x (0 : Int) (0 : Int)) (8 : Int)).snd).snd (16 : Int)).Few ∧ (∃ (x_2 : Nat), ((countR (dBrs x_1 (countR (Rd.mk x (0 : Int) (0 : Int)) (8 :
  Int)).snd).snd (16 : Int)).fst - (↑x_2 : Int)).NonNeg ∧ (↑x_2 : Int) = (0 : Int) ∧ (((SV.val (A := AA) (Value.slice none (0 : Nat) (0 : Nat)) : SV AA)
  = SV.val (A := AA) (Value.slice none (0 : Nat) (0 : Nat)) ∧ True) ∧ ((dKeys x_2 (countR (dBrs x_1 (countR (Rd.mk x (0 : Int) (0 : Int)) (8 :
  Int)).snd).snd (16 : Int)).snd).snd.b = (countR (dBrs x_1 (countR (Rd.mk x (0 : Int) (0 : Int)) (8 : Int)).snd).snd (16 : Int)).snd.b ∧ (dKeys x_2
  (countR (dBrs x_1 (countR (Rd.mk x (0 : Int) (0 : Int)) (8 : Int)).snd).snd (16 : Int)).snd).snd.i = (countR (dBrs x_1 (countR (Rd.mk x (0 : Int) (0 :
  Int)) (8 : Int)).snd).snd (16 : Int)).snd.i ∧ (dKeys x_2 (countR (dBrs x_1 (countR (Rd.mk x (0 : Int) (0 : Int)) (8 : Int)).snd).snd (16 :
  Int)).snd).snd.e = (countR (dBrs x_1 (countR (Rd.mk x (0 : Int) (0 : Int)) (8 : Int)).snd).snd (16 : Int)).snd.e ∧ True) ∧ (True ∧ True) ∧ (dBrs x_1
  (countR (Rd.mk x (0 : Int) (0 : Int)) (8 : Int)).snd).fst = (dBrs x_1 (countR (Rd.mk x (0 : Int) (0 : Int)) (8 : Int)).snd).fst ∧ ((SV.val (A := AA)
  (Value.slice none (0 : Nat) (0 : Nat)) : SV AA) = SV.val (A := AA) (Value.slice none (0 : Nat) (0 : Nat)) ∧ List.replicate (32 : Nat) (0 : Int) =
  List.replicate (32 : Nat) (0 : Int) ∧ (0 : Int) = (0 : Int) ∧ (0 : Int) = (0 : Int) ∧ True) ∧ True) ∧ (dKeys x_2 (countR (dBrs x_1 (countR (Rd.mk x (0
  : Int) (0 : Int)) (8 : Int)).snd).snd (16 : Int)).snd).fst = [] ∧ True) ∧ ∀ (x_2 : Nat), ((countR (dBrs x_1 (countR (Rd.mk x (0 : Int) (0 : Int)) (8 :
  Int)).snd).snd (16 : Int)).fst - (↑x_2 : Int)).NonNeg → (decide ((↑x_2 : Int) < (countR (dBrs x_1 (countR (Rd.mk x (0 : Int) (0 : Int)) (8 :
  Int)).snd).snd (16 : Int)).fst) = true → ((True ∧ (16 : Int) = (16 : Int)) ∧ (((dKeys x_2 (countR (dBrs x_1 (countR (Rd.mk x (0 : Int) (0 : Int)) (8 :
  Int)).snd).snd (16 : Int)).snd).snd.b = (dKeys x_2 (countR (dBrs x_1 (countR (Rd.mk x (0 : Int) (0 : Int)) (8 : Int)).snd).snd (16 : Int)).snd).snd.b ∧
  (dKeys x_2 (countR (dBrs x_1 (countR (Rd.mk x (0 : Int) (0 : Int)) (8 : Int)).snd).snd (16 : Int)).snd).snd.i = (dKeys x_2 (countR (dBrs x_1 (countR
  (Rd.mk x (0 : Int) (0 : Int)) (8 : Int)).snd).snd (16 : Int)).snd).snd.i ∧ (dKeys x_2 (countR (dBrs x_1 (countR (Rd.mk x (0 : Int) (0 : Int)) (8 :
  Int)).snd).snd (16 : Int)).snd).snd.e = (dKeys x_2 (countR (dBrs x_1 (countR (Rd.mk x (0 : Int) (0 : Int)) (8 : Int)).snd).snd (16 : Int)).snd).snd.e ∧
  True) ∧ True) ∧ (RdN.mk (dKeys x_2 (countR (dBrs x_1 (countR (Rd.mk x (0 : Int) (0 : Int)) (8 : Int)).snd).snd (16 : Int)).snd).snd (16 : Int)).Ok ∧
  ((dKeys x_2 (countR (dBrs x_1 (countR (Rd.mk x (0 : Int) (0 : Int)) (8 : Int)).snd).snd (16 : Int)).snd).fst.length + [wr IntKind.i64 (uintR (dKeys x_2
  (countR (dBrs x_1 (countR (Rd.mk x (0 : Int) (0 : Int)) (8 : Int)).snd).snd (16 : Int)).snd).snd (16 : Int)).fst].length) * (8 : Nat) ≤
  (140737488355328 : Nat) ∧ (dKeys x_2 (countR (dBrs x_1 (countR (Rd.mk x (0 : Int) (0 : Int)) (8 : Int)).snd).snd (16 : Int)).snd).fst.length + [wr
  IntKind.i64 (uintR (dKeys x_2 (countR (dBrs x_1 (countR (Rd.mk x (0 : Int) (0 : Int)) (8 : Int)).snd).snd (16 : Int)).snd).snd (16 : Int)).fst].length
  ≤ (1152921504606846976 : Nat) ∧ inI64 ((↑x_2 : Int) + (1 : Int)) ∧ ∃ (y : Nat), ((countR (dBrs x_1 (countR (Rd.mk x (0 : Int) (0 : Int)) (8 :
  Int)).snd).snd (16 : Int)).fst - (↑y : Int)).NonNeg ∧ (countR (dBrs x_1 (countR (Rd.mk x (0 : Int) (0 : Int)) (8 : Int)).snd).snd (16 : Int)).fst.toNat
  - y < (countR (dBrs x_1 (countR (Rd.mk x (0 : Int) (0 : Int)) (8 : Int)).snd).snd (16 : Int)).fst.toNat - x_2 ∧ (↑y : Int) = (↑x_2 : Int) + (1 : Int) ∧
  (((SV.val (A := AA) (Value.slice none (0 : Nat) (0 : Nat)) : SV AA) = SV.val (A := AA) (Value.slice none (0 : Nat) (0 : Nat)) ∧ True) ∧ ((dKeys y
  (countR (dBrs x_1 (countR (Rd.mk x (0 : Int) (0 : Int)) (8 : Int)).snd).snd (16 : Int)).snd).snd.b = (uintR (dKeys x_2 (countR (dBrs x_1 (countR (Rd.mk
  x (0 : Int) (0 : Int)) (8 : Int)).snd).snd (16 : Int)).snd).snd (16 : Int)).snd.b ∧ (dKeys y (countR (dBrs x_1 (countR (Rd.mk x (0 : Int) (0 : Int)) (8
  : Int)).snd).snd (16 : Int)).snd).snd.i = (uintR (dKeys x_2 (countR (dBrs x_1 (countR (Rd.mk x (0 : Int) (0 : Int)) (8 : Int)).snd).snd (16 :
  Int)).snd).snd (16 : Int)).snd.i ∧ (dKeys y (countR (dBrs x_1 (countR (Rd.mk x (0 : Int) (0 : Int)) (8 : Int)).snd).snd (16 : Int)).snd).snd.e = (uintR
  (dKeys x_2 (countR (dBrs x_1 (countR (Rd.mk x (0 : Int) (0 : Int)) (8 : Int)).snd).snd (16 : Int)).snd).snd (16 : Int)).snd.e ∧ True) ∧ (True ∧ True) ∧
  (dBrs x_1 (countR (Rd.mk x (0 : Int) (0 : Int)) (8 : Int)).snd).fst = (dBrs x_1 (countR (Rd.mk x (0 : Int) (0 : Int)) (8 : Int)).snd).fst ∧ (True ∧
  List.replicate (32 : Nat) (0 : Int) = List.replicate (32 : Nat) (0 : Int) ∧ (0 : Int) = (0 : Int) ∧ (0 : Int) = (0 : Int) ∧ True) ∧ True) ∧ (dKeys y
  (countR (dBrs x_1 (countR (Rd.mk x (0 : Int) (0 : Int)) (8 : Int)).snd).snd (16 : Int)).snd).fst = (dKeys x_2 (countR (dBrs x_1 (countR (Rd.mk x (0 :
  Int) (0 : Int)) (8 : Int)).snd).snd (16 : Int)).snd).fst ++ [wr IntKind.i64 (uintR (dKeys x_2 (countR (dBrs x_1 (countR (Rd.mk x (0 : Int) (0 : Int))
  (8 : Int)).snd).snd (16 : Int)).snd).snd (16 : Int)).fst] ∧ True) ∧ (True ∧ (16 : Int) = (16 : Int)) ∧ (((dKeys x_2 (countR (dBrs x_1 (countR (Rd.mk x
  (0 : Int) (0 : Int)) (8 : Int)).snd).snd (16 : Int)).snd).snd.b = (dKeys x_2 (countR (dBrs x_1 (countR (Rd.mk x (0 : Int) (0 : Int)) (8 :
  Int)).snd).snd (16 : Int)).snd).snd.b ∧ (dKeys x_2 (countR (dBrs x_1 (countR (Rd.mk x (0 : Int) (0 : Int)) (8 : Int)).snd).snd (16 : Int)).snd).snd.i =
  (dKeys x_2 (countR (dBrs x_1 (countR (Rd.mk x (0 : Int) (0 : Int)) (8 : Int)).snd).snd (16 : Int)).snd).snd.i ∧ (dKeys x_2 (countR (dBrs x_1 (countR
  (Rd.mk x (0 : Int) (0 : Int)) (8 : Int)).snd).snd (16 : Int)).snd).snd.e = (dKeys x_2 (countR (dBrs x_1 (countR (Rd.mk x (0 : Int) (0 : Int)) (8 :
  Int)).snd).snd (16 : Int)).snd).snd.e ∧ True) ∧ True) ∧ (RdN.mk (dKeys x_2 (countR (dBrs x_1 (countR (Rd.mk x (0 : Int) (0 : Int)) (8 : Int)).snd).snd
  (16 : Int)).snd).snd (16 : Int)).Ok ∧ ((dKeys x_2 (countR (dBrs x_1 (countR (Rd.mk x (0 : Int) (0 : Int)) (8 : Int)).snd).snd (16 :
  Int)).snd).fst.length + [wr IntKind.i64 (uintR (dKeys x_2 (countR (dBrs x_1 (countR (Rd.mk x (0 : Int) (0 : Int)) (8 : Int)).snd).snd (16 :
  Int)).snd).snd (16 : Int)).fst].length) * (8 : Nat) ≤ (140737488355328 : Nat) ∧ (dKeys x_2 (countR (dBrs x_1 (countR (Rd.mk x (0 : Int) (0 : Int)) (8 :
  Int)).snd).snd (16 : Int)).snd).fst.length + [wr IntKind.i64 (uintR (dKeys x_2 (countR (dBrs x_1 (countR (Rd.mk x (0 : Int) (0 : Int)) (8 :
  Int)).snd).snd (16 : Int)).snd).snd (16 : Int)).fst].length ≤ (1152921504606846976 : Nat) ∧ inI64 ((↑x_2 : Int) + (1 : Int)) ∧ ∃ (y : Nat), ((countR
  (dBrs x_1 (countR (Rd.mk x (0 : Int) (0 : Int)) (8 : Int)).snd).snd (16 : Int)).fst - (↑y : Int)).NonNeg ∧ (countR (dBrs x_1 (countR (Rd.mk x (0 : Int)
  (0 : Int)) (8 : Int)).snd).snd (16 : Int)).fst.toNat - y < (countR (dBrs x_1 (countR (Rd.mk x (0 : Int) (0 : Int)) (8 : Int)).snd).snd (16 :
  Int)).fst.toNat - x_2 ∧ (↑y : Int) = (↑x_2 : Int) + (1 : Int) ∧ (((SV.val (A := AA) (Value.slice none (0 : Nat) (0 : Nat)) : SV AA) = SV.val (A := AA)
  (Value.slice none (0 : Nat) (0 : Nat)) ∧ True) ∧ ((dKeys y (countR (dBrs x_1 (countR (Rd.mk x (0 : Int) (0 : Int)) (8 : Int)).snd).snd (16 :
  Int)).snd).snd.b = (uintR (dKeys x_2 (countR (dBrs x_1 (countR (Rd.mk x (0 : Int) (0 : Int)) (8 : Int)).snd).snd (16 : Int)).snd).snd (16 : Int)).snd.b
  ∧ (dKeys y (countR (dBrs x_1 (countR (Rd.mk x (0 : Int) (0 : Int)) (8 : Int)).snd).snd (16 : Int)).snd).snd.i = (uintR (dKeys x_2 (countR (dBrs x_1
  (countR (Rd.mk x (0 : Int) (0 : Int)) (8 : Int)).snd).snd (16 : Int)).snd).snd (16 : Int)).snd.i ∧ (dKeys y (countR (dBrs x_1 (countR (Rd.mk x (0 :
  Int) (0 : Int)) (8 : Int)).snd).snd (16 : Int)).snd).snd.e = (uintR (dKeys x_2 (countR (dBrs x_1 (countR (Rd.mk x (0 : Int) (0 : Int)) (8 :
  Int)).snd).snd (16 : Int)).snd).snd (16 : Int)).snd.e ∧ True) ∧ (True ∧ True) ∧ (dBrs x_1 (countR (Rd.mk x (0 : Int) (0 : Int)) (8 : Int)).snd).fst =
  (dBrs x_1 (countR (Rd.mk x (0 : Int) (0 : Int)) (8 : Int)).snd).fst ∧ (True ∧ List.replicate (32 : Nat) (0 : Int) = List.replicate (32 : Nat) (0 : Int)
  ∧ (0 : Int) = (0 : Int) ∧ (0 : Int) = (0 : Int) ∧ True) ∧ True) ∧ (dKeys y (countR (dBrs x_1 (countR (Rd.mk x (0 : Int) (0 : Int)) (8 : Int)).snd).snd
  (16 : Int)).snd).fst = (dKeys x_2 (countR (dBrs x_1 (countR (Rd.mk x (0 : Int) (0 : Int)) (8 : Int)).snd).snd (16 : Int)).snd).fst ++ [wr IntKind.i64
  (uintR (dKeys x_2 (countR (dBrs x_1 (countR (Rd.mk x (0 : Int) (0 : Int)) (8 : Int)).snd).snd (16 : Int)).snd).snd (16 : Int)).fst] ∧ True) ∧ (decide
  ((↑x_2 : Int) < (countR (dBrs x_1 (countR (Rd.mk x (0 : Int) (0 : Int)) (8 : Int)).snd).snd (16 : Int)).fst) = false → True ∧ (((dKeys x_2 (countR
  (dBrs x_1 (countR (Rd.mk x (0 : Int) (0 : Int)) (8 : Int)).snd).snd (16 : Int)).snd).snd.b = (dKeys x_2 (countR (dBrs x_1 (countR (Rd.mk x (0 : Int) (0
  : Int)) (8 : Int)).snd).snd (16 : Int)).snd).snd.b ∧ (dKeys x_2 (countR (dBrs x_1 (countR (Rd.mk x (0 : Int) (0 : Int)) (8 : Int)).snd).snd (16 :
  Int)).snd).snd.i = (dKeys x_2 (countR (dBrs x_1 (countR (Rd.mk x (0 : Int) (0 : Int)) (8 : Int)).snd).snd (16 : Int)).snd).snd.i ∧ (dKeys x_2 (countR
  (dBrs x_1 (countR (Rd.mk x (0 : Int) (0 : Int)) (8 : Int)).snd).snd (16 : Int)).snd).snd.e = (dKeys x_2 (countR (dBrs x_1 (countR (Rd.mk x (0 : Int) (0
  : Int)) (8 : Int)).snd).snd (16 : Int)).snd).snd.e ∧ True) ∧ True) ∧ (dKeys x_2 (countR (dBrs x_1 (countR (Rd.mk x (0 : Int) (0 : Int)) (8 :
  Int)).snd).snd (16 : Int)).snd).snd.Ok ∧ (True ∧ (1099511627776 : Int) = (1099511627776 : Int)) ∧ (((hashR (dKeys x_2 (countR (dBrs x_1 (countR (Rd.mk
  x (0 : Int) (0 : Int)) (8 : Int)).snd).snd (16 : Int)).snd).snd).snd.b = (hashR (dKeys x_2 (countR (dBrs x_1 (countR (Rd.mk x (0 : Int) (0 : Int)) (8 :
  Int)).snd).snd (16 : Int)).snd).snd).snd.b ∧ (hashR (dKeys x_2 (countR (dBrs x_1 (countR (Rd.mk x (0 : Int) (0 : Int)) (8 : Int)).snd).snd (16 :
  Int)).snd).snd).snd.i = (hashR (dKeys x_2 (countR (dBrs x_1 (countR (Rd.mk x (0 : Int) (0 : Int)) (8 : Int)).snd).snd (16 : Int)).snd).snd).snd.i ∧
  (hashR (dKeys x_2 (countR (dBrs x_1 (countR (Rd.mk x (0 : Int) (0 : Int)) (8 : Int)).snd).snd (16 : Int)).snd).snd).snd.e = (hashR (dKeys x_2 (countR
  (dBrs x_1 (countR (Rd.mk x (0 : Int) (0 : Int)) (8 : Int)).snd).snd (16 : Int)).snd).snd).snd.e ∧ True) ∧ True) ∧ (RdN.mk (hashR (dKeys x_2 (countR
  (dBrs x_1 (countR (Rd.mk x (0 : Int) (0 : Int)) (8 : Int)).snd).snd (16 : Int)).snd).snd).snd (1099511627776 : Int)).Ok ∧ (True ∧ (65536 : Int) =
  (65536 : Int)) ∧ (((uintR (hashR (dKeys x_2 (countR (dBrs x_1 (countR (Rd.mk x (0 : Int) (0 : Int)) (8 : Int)).snd).snd (16 : Int)).snd).snd).snd
  (1099511627776 : Int)).snd.b = (uintR (hashR (dKeys x_2 (countR (dBrs x_1 (countR (Rd.mk x (0 : Int) (0 : Int)) (8 : Int)).snd).snd (16 :
  Int)).snd).snd).snd (1099511627776 : Int)).snd.b ∧ (uintR (hashR (dKeys x_2 (countR (dBrs x_1 (countR (Rd.mk x (0 : Int) (0 : Int)) (8 : Int)).snd).snd
  (16 : Int)).snd).snd).snd (1099511627776 : Int)).snd.i = (uintR (hashR (dKeys x_2 (countR (dBrs x_1 (countR (Rd.mk x (0 : Int) (0 : Int)) (8 :
  Int)).snd).snd (16 : Int)).snd).snd).snd (1099511627776 : Int)).snd.i ∧ (uintR (hashR (dKeys x_2 (countR (dBrs x_1 (countR (Rd.mk x (0 : Int) (0 :
  Int)) (8 : Int)).snd).snd (16 : Int)).snd).snd).snd (1099511627776 : Int)).snd.e = (uintR (hashR (dKeys x_2 (countR (dBrs x_1 (countR (Rd.mk x (0 :
  Int) (0 : Int)) (8 : Int)).snd).snd (16 : Int)).snd).snd).snd (1099511627776 : Int)).snd.e ∧ True) ∧ True) ∧ (RdN.mk (uintR (hashR (dKeys x_2 (countR
  (dBrs x_1 (countR (Rd.mk x (0 : Int) (0 : Int)) (8 : Int)).snd).snd (16 : Int)).snd).snd).snd (1099511627776 : Int)).snd (65536 : Int)).Ok ∧ ((dKeys
  x_2 (countR (dBrs x_1 (countR (Rd.mk x (0 : Int) (0 : Int)) (8 : Int)).snd).snd (16 : Int)).snd).fst = (dKeys x_2 (countR (dBrs x_1 (countR (Rd.mk x (0
  : Int) (0 : Int)) (8 : Int)).snd).snd (16 : Int)).snd).fst ∧ (hashR (dKeys x_2 (countR (dBrs x_1 (countR (Rd.mk x (0 : Int) (0 : Int)) (8 :
  Int)).snd).snd (16 : Int)).snd).snd).fst = (hashR (dKeys x_2 (countR (dBrs x_1 (countR (Rd.mk x (0 : Int) (0 : Int)) (8 : Int)).snd).snd (16 :
  Int)).snd).snd).fst ∧ wr IntKind.i64 (uintR (hashR (dKeys x_2 (countR (dBrs x_1 (countR (Rd.mk x (0 : Int) (0 : Int)) (8 : Int)).snd).snd (16 :
  Int)).snd).snd).snd (1099511627776 : Int)).fst = wr IntKind.i64 (uintR (hashR (dKeys x_2 (countR (dBrs x_1 (countR (Rd.mk x (0 : Int) (0 : Int)) (8 :
  Int)).snd).snd (16 : Int)).snd).snd).snd (1099511627776 : Int)).fst ∧ wr IntKind.i64 (uintR (uintR (hashR (dKeys x_2 (countR (dBrs x_1 (countR (Rd.mk x
  (0 : Int) (0 : Int)) (8 : Int)).snd).snd (16 : Int)).snd).snd).snd (1099511627776 : Int)).snd (65536 : Int)).fst = wr IntKind.i64 (uintR (uintR (hashR
  (dKeys x_2 (countR (dBrs x_1 (countR (Rd.mk x (0 : Int) (0 : Int)) (8 : Int)).snd).snd (16 : Int)).snd).snd).snd (1099511627776 : Int)).snd (65536 :
  Int)).fst ∧ True) ∧ ((dBrs x_1 (countR (Rd.mk x (0 : Int) (0 : Int)) (8 : Int)).snd).fst.length + [Br.mk (dKeys x_2 (countR (dBrs x_1 (countR (Rd.mk x
  (0 : Int) (0 : Int)) (8 : Int)).snd).snd (16 : Int)).snd).fst (hashR (dKeys x_2 (countR (dBrs x_1 (countR (Rd.mk x (0 : Int) (0 : Int)) (8 :
  Int)).snd).snd (16 : Int)).snd).snd).fst (wr IntKind.i64 (uintR (hashR (dKeys x_2 (countR (dBrs x_1 (countR (Rd.mk x (0 : Int) (0 : Int)) (8 :
  Int)).snd).snd (16 : Int)).snd).snd).snd (1099511627776 : Int)).fst) (wr IntKind.i64 (uintR (uintR (hashR (dKeys x_2 (countR (dBrs x_1 (countR (Rd.mk x
  (0 : Int) (0 : Int)) (8 : Int)).snd).snd (16 : Int)).snd).snd).snd (1099511627776 : Int)).snd (65536 : Int)).fst)].length) * (72 : Nat) ≤
  (140737488355328 : Nat) ∧ (dBrs x_1 (countR (Rd.mk x (0 : Int) (0 : Int)) (8 : Int)).snd).fst.length + [Br.mk (dKeys x_2 (countR (dBrs x_1 (countR
  (Rd.mk x (0 : Int) (0 : Int)) (8 : Int)).snd).snd (16 : Int)).snd).fst (hashR (dKeys x_2 (countR (dBrs x_1 (countR (Rd.mk x (0 : Int) (0 : Int)) (8 :
  Int)).snd).snd (16 : Int)).snd).snd).fst (wr IntKind.i64 (uintR (hashR (dKeys x_2 (countR (dBrs x_1 (countR (Rd.mk x (0 : Int) (0 : Int)) (8 :
  Int)).snd).snd (16 : Int)).snd).snd).snd (1099511627776 : Int)).fst) (wr IntKind.i64 (uintR (uintR (hashR (dKeys x_2 (countR (dBrs x_1 (countR (Rd.mk x
  (0 : Int) (0 : Int)) (8 : Int)).snd).snd (16 : Int)).snd).snd).snd (1099511627776 : Int)).snd (65536 : Int)).fst)].length ≤ (1152921504606846976 : Nat)
  ∧ inI64 ((↑x_1 : Int) + (1 : Int)) ∧ ∃ (y : Nat), ((countR (Rd.mk x (0 : Int) (0 : Int)) (8 : Int)).fst - (↑y : Int)).NonNeg ∧ (countR (Rd.mk x (0 :
  Int) (0 : Int)) (8 : Int)).fst.toNat - y < (countR (Rd.mk x (0 : Int) (0 : Int)) (8 : Int)).fst.toNat - x_1 ∧ (↑y : Int) = (↑x_1 : Int) + (1 : Int) ∧
  ((SV.val (A := AA) (Value.slice none (0 : Nat) (0 : Nat)) = SV.val (A := AA) (Value.slice none (0 : Nat) (0 : Nat)) ∧ True) ∧ ((dBrs y (countR (Rd.mk x
  (0 : Int) (0 : Int)) (8 : Int)).snd).snd.b = (uintR (uintR (hashR (dKeys x_2 (countR (dBrs x_1 (countR (Rd.mk x (0 : Int) (0 : Int)) (8 :
  Int)).snd).snd (16 : Int)).snd).snd).snd (1099511627776 : Int)).snd (65536 : Int)).snd.b ∧ (dBrs y (countR (Rd.mk x (0 : Int) (0 : Int)) (8 :
  Int)).snd).snd.i = (uintR (uintR (hashR (dKeys x_2 (countR (dBrs x_1 (countR (Rd.mk x (0 : Int) (0 : Int)) (8 : Int)).snd).snd (16 :
  Int)).snd).snd).snd (1099511627776 : Int)).snd (65536 : Int)).snd.i ∧ (dBrs y (countR (Rd.mk x (0 : Int) (0 : Int)) (8 : Int)).snd).snd.e = (uintR
  (uintR (hashR (dKeys x_2 (countR (dBrs x_1 (countR (Rd.mk x (0 : Int) (0 : Int)) (8 : Int)).snd).snd (16 : Int)).snd).snd).snd (1099511627776 :
  Int)).snd (65536 : Int)).snd.e ∧ True) ∧ (True ∧ True) ∧ True) ∧ (dBrs y (countR (Rd.mk x (0 : Int) (0 : Int)) (8 : Int)).snd).fst = (dBrs x_1 (countR
  (Rd.mk x (0 : Int) (0 : Int)) (8 : Int)).snd).fst ++ [Br.mk (dKeys x_2 (countR (dBrs x_1 (countR (Rd.mk x (0 : Int) (0 : Int)) (8 : Int)).snd).snd (16
  : Int)).snd).fst (hashR (dKeys x_2 (countR (dBrs x_1 (countR (Rd.mk x (0 : Int) (0 : Int)) (8 : Int)).snd).snd (16 : Int)).snd).snd).fst (wr
  IntKind.i64 (uintR (hashR (dKeys x_2 (countR (dBrs x_1 (countR (Rd.mk x (0 : Int) (0 : Int)) (8 : Int)).snd).snd (16 : Int)).snd).snd).snd
  (1099511627776 : Int)).fst) (wr IntKind.i64 (uintR (uintR (hashR (dKeys x_2 (countR (dBrs x_1 (countR (Rd.mk x (0 : Int) (0 : Int)) (8 : Int)).snd).snd
  (16 : Int)).snd).snd).snd (1099511627776 : Int)).snd (65536 : Int)).fst)] ∧ True)) ∧ (decide ((↑x_1 : Int) < (countR (Rd.mk x (0 : Int) (0 : Int)) (8 :
  Int)).fst) = false → True ∧ (((dBrs x_1 (countR (Rd.mk x (0 : Int) (0 : Int)) (8 : Int)).snd).snd.b = (dBrs x_1 (countR (Rd.mk x (0 : Int) (0 : Int))
  (8 : Int)).snd).snd.b ∧ (dBrs x_1 (countR (Rd.mk x (0 : Int) (0 : Int)) (8 : Int)).snd).snd.i = (dBrs x_1 (countR (Rd.mk x (0 : Int) (0 : Int)) (8 :
  Int)).snd).snd.i ∧ (dBrs x_1 (countR (Rd.mk x (0 : Int) (0 : Int)) (8 : Int)).snd).snd.e = (dBrs x_1 (countR (Rd.mk x (0 : Int) (0 : Int)) (8 :
  Int)).snd).snd.e ∧ True) ∧ True) ∧ True ∧ ((!doneR (dBrs x_1 (countR (Rd.mk x (0 : Int) (0 : Int)) (8 : Int)).snd).snd == (0 : Int)) = true → ((decB x
  = [] ∧ True) ∧ decE x = (3 : Int) ∧ (3 : Int) ≠ (0 : Int)) ∧ True ∧ True) ∧ ((!doneR (dBrs x_1 (countR (Rd.mk x (0 : Int) (0 : Int)) (8 :
  Int)).snd).snd == (0 : Int)) = false → ((dBrs x_1 (countR (Rd.mk x (0 : Int) (0 : Int)) (8 : Int)).snd).fst = (dBrs x_1 (countR (Rd.mk x (0 : Int) (0 :
  Int)) (8 : Int)).snd).fst ∧ True) ∧ True ∧ True ∧ ((!checkN (dBrs x_1 (countR (Rd.mk x (0 : Int) (0 : Int)) (8 : Int)).snd).fst == (0 : Int)) = true →
  ((decB x = [] ∧ True) ∧ decE x = (3 : Int) ∧ (3 : Int) ≠ (0 : Int)) ∧ True ∧ True) ∧ ((!checkN (dBrs x_1 (countR (Rd.mk x (0 : Int) (0 : Int)) (8 :
  Int)).snd).fst == (0 : Int)) = false → ((decB x = (dBrs x_1 (countR (Rd.mk x (0 : Int) (0 : Int)) (8 : Int)).snd).fst ∧ True) ∧ decE x = (0 : Int)) ∧
  True ∧ True)))

theorem dec_eq : decVC = fnS F129 f40 (bodyOf f40) decLS decAnn := by kernel_rfl
theorem dec_vc : decVC := by
  intro x hx
  have h0 : (Rd.mk x 0 0).Ok := ⟨hx.byt, by show (0 : Int) ≤ 0; omega, by show (0 : Int) ≤ x.length; omega, hx.len⟩
  have few : ∀ {r : Rd}, r.Ok → ∀ {m : Int}, 0 ≤ m → m ≤ 1000 → (RdN.mk r m).Few := fun hr m h1 h2 => ⟨⟨hr, h1⟩, by show m ≤ 1000000; omega⟩
  obtain ⟨c1, c2, c3⟩ := countR_ok h0 (m := 8) (by omega)
  refine ⟨rfl, trivial, trivial, ⟨trivial, rfl⟩, ⟨⟨rfl, rfl, rfl, trivial⟩, trivial⟩, few h0 (by omega) (by omega), ⟨0, ?_, rfl, ⟨⟨rfl, trivial⟩, ⟨rfl, rfl, rfl, trivial⟩, ⟨rfl, trivial⟩, trivial⟩, rfl, trivial⟩, fun i hi => ⟨fun h1 => ?_, fun h1 => ?_⟩⟩
  · show ((0 : Nat) : Int) ≤ (countR (Rd.mk x 0 0) 8).1
    omega
  · simp only [decide_eq_true_eq] at h1
    obtain ⟨b1, b2⟩ := brsR_ok c1 i
    obtain ⟨d1, d2, d3⟩ := countR_ok b1 (m := 16) (by omega)
    refine ⟨⟨trivial, rfl⟩, ⟨⟨rfl, rfl, rfl, trivial⟩, trivial⟩, few b1 (by omega) (by omega), ⟨0, ?_, rfl, ⟨⟨rfl, trivial⟩, ⟨rfl, rfl, rfl, trivial⟩, ⟨trivial, trivial⟩, rfl, ⟨rfl, rfl, rfl, rfl, trivial⟩, trivial⟩, rfl, trivial⟩, fun j hj => ⟨fun h2 => both ?_, fun h2 => ?_⟩⟩
    · show ((0 : Nat) : Int) ≤ (countR (dBrs i (countR (Rd.mk x 0 0) 8).2).2 16).1
      omega
    · simp only [decide_eq_true_eq] at h2
      obtain ⟨k1, k2⟩ := keysR_ok d1 j
      obtain ⟨u1, u2⟩ := uintR_ok k1 (m := 16) (by omega)
      refine ⟨⟨trivial, rfl⟩, ⟨⟨rfl, rfl, rfl, trivial⟩, trivial⟩, ⟨k1, by show (0 : Int) ≤ 16; omega⟩, ?_, ?_, by unfold inI64; omega, j + 1, ?_, by omega, by omega, ⟨⟨rfl, trivial⟩, ⟨rfl, rfl, rfl, trivial⟩, ⟨trivial, trivial⟩, rfl, ⟨trivial, rfl, rfl, rfl, trivial⟩, trivial⟩, ?_, trivial⟩
      · rw [k2]; simp only [List.length_singleton]; omega
      · rw [k2]; simp only [List.length_singleton]; omega
      · show ((j + 1 : Nat) : Int) ≤ (countR (dBrs i (countR (Rd.mk x 0 0) 8).2).2 16).1
        omega
      · rw [wr_small u2 (by omega)]
        rfl
    · simp only [decide_eq_false_iff_not] at h2
      have hj' : (j : Int) ≤ (countR (dBrs i (countR (Rd.mk x 0 0) 8).2).2 16).1 := hj
      have ej : dKeys j (countR (dBrs i (countR (Rd.mk x 0 0) 8).2).2 16).2 = dK (dBrs i (countR (Rd.mk x 0 0) 8).2).2 := by
        unfold dK
        rw [show (countR (dBrs i (countR (Rd.mk x 0 0) 8).2).2 16).1.toNat = j by omega]
      rw [ej]
      refine ⟨trivial, ⟨⟨rfl, rfl, rfl, trivial⟩, trivial⟩, (kR_ok b1).1, ⟨trivial, rfl⟩, ⟨⟨rfl, rfl, rfl, trivial⟩, trivial⟩, ⟨(hR_ok b1).1, by show (0 : Int) ≤ 1099511627776; omega⟩, ⟨trivial, rfl⟩, ⟨⟨rfl, rfl, rfl, trivial⟩, trivial⟩, ⟨(aR_ok b1).1, by show (0 : Int) ≤ 65536; omega⟩, ⟨rfl, rfl, rfl, rfl, trivial⟩, ?_, ?_, by unfold inI64; omega, i + 1, ?_, by omega, by omega, ⟨⟨rfl, trivial⟩, ⟨rfl, rfl, rfl, trivial⟩, ⟨trivial, trivial⟩, trivial⟩, ?_, trivial⟩
      · rw [b2]; simp only [List.length_singleton]; omega
      · rw [b2]; simp only [List.length_singleton]; omega
      · show ((i + 1 : Nat) : Int) ≤ (countR (Rd.mk x 0 0) 8).1
        omega
      · have e1 : wr .i64 (dA (dBrs i (countR (Rd.mk x 0 0) 8).2).2).1 = (dA (dBrs i (countR (Rd.mk x 0 0) 8).2).2).1 := wr_small (aR_ok b1).2 (by omega)
        have e2 : wr .i64 (dO (dBrs i (countR (Rd.mk x 0 0) 8).2).2).1 = (dO (dBrs i (countR (Rd.mk x 0 0) 8).2).2).1 := wr_small (oR_ok b1).2 (by omega)
        show _ = (dBrs i (countR (Rd.mk x 0 0) 8).2).1 ++ [Br.mk _ _ (wr .i64 (dA (dBrs i (countR (Rd.mk x 0 0) 8).2).2).1) (wr .i64 (dO (dBrs i (countR (Rd.mk x 0 0) 8).2).2).1)]
        rw [e1, e2]
        rfl
  · simp only [decide_eq_false_iff_not] at h1
    have hi' : (i : Int) ≤ (countR (Rd.mk x 0 0) 8).1 := hi
    have ei : dBrs i (countR (Rd.mk x 0 0) 8).2 = dCond x := by
      unfold dCond
      rw [show (countR (Rd.mk x 0 0) 8).1.toNat = i by omega]
    rw [ei]
    have hB : ∀ b, decOk x = b → decB x = (if b then (dCond x).1 else []) ∧ decE x = (if b then 0 else 3) := fun b hb => by
      unfold decB decE
      rw [hb]
      exact ⟨rfl, rfl⟩
    refine ⟨trivial, ⟨⟨rfl, rfl, rfl, trivial⟩, trivial⟩, trivial, fun h2 => ?_, fun h2 => ⟨⟨rfl, trivial⟩, trivial, trivial, fun h3 => ?_, fun h3 => ?_⟩⟩
    · have hd : decOk x = false := by
        unfold decOk
        rw [decide_eq_false (by simpa using h2)]
        rfl
      exact ⟨⟨⟨(hB _ hd).1, trivial⟩, (hB _ hd).2, by omega⟩, trivial, trivial⟩
    · have hd : decOk x = false := by
        unfold decOk
        rw [show fineB (dCond x).1 = false by
          cases hf : fineB (dCond x).1 with
          | false => rfl
          | true => rw [checkN_zero.2 hf] at h3; simp at h3, Bool.and_false]
      exact ⟨⟨⟨(hB _ hd).1, trivial⟩, (hB _ hd).2, by omega⟩, trivial, trivial⟩
    · have hd : decOk x = true := by
        unfold decOk
        rw [decide_eq_true (by simpa using h2), checkN_zero.1 (by simpa using h3)]
        rfl
      exact ⟨⟨⟨(hB _ hd).1, trivial⟩, (hB _ hd).2⟩, trivial, trivial⟩
theorem dec_ok : Fits F129 f40 (bodyOf f40) decLS decAnn := by
  constructor
  rw [← dec_eq]
  exact dec_vc
theorem f40_has : Has prog 40 f40 (bodyOf f40) := ⟨by kernel_rfl, by kernel_rfl, by kernel_rfl⟩
theorem known130 : Known prog L130 := by
  unfold L130
  exact known129.lent mixed f40_has F129_eq dec_ok (fun _ _ => Nat.zero_le _) (fun _ _ => rfl)
def bEqVC : Prop := ∀ (x : List Int × List Int), True → ((strOfNums x.fst).toList == (strOfNums x.snd).toList) = ((strOfNums x.fst).toList == (strOfNums x.snd).toList) ∧
  True ∧ True

theorem bEq_eq : bEqVC = fnS F130 f81 (bodyOf f81) bEqLS noAnn := by kernel_rfl
theorem bEq_vc : bEqVC := fun _ _ => by simp
theorem bEq_ok : Fits F130 f81 (bodyOf f81) bEqLS noAnn := by
  constructor
  rw [← bEq_eq]
  exact bEq_vc
theorem f81_has : Has prog 81 f81 (bodyOf f81) := ⟨by kernel_rfl, by kernel_rfl, by kernel_rfl⟩
theorem known131 : Known prog L131 := by
  unfold L131
  exact known130.lent mixed f81_has F130_eq bEq_ok (fun _ _ => Nat.zero_le _) (fun _ _ => rfl)
def samVC : Prop := ∀ (x : List Br × List Br), SamIn x → (([] : List Int) = [] ∧ x.fst = x.fst ∧ True) ∧ True ∧ (PutX.mk [] x.fst).Ok ∧ (([] : List Int) = [] ∧ x.snd =
  x.snd ∧ True) ∧ True ∧ (PutX.mk [] x.snd).Ok ∧ ([] ++ putB x.fst = [] ++ putB x.fst ∧ [] ++ putB x.snd = [] ++ putB x.snd) ∧ True ∧ True ∧ ((strOfNums
  (putB x.fst)).toList == (strOfNums (putB x.snd)).toList) = ((strOfNums ([] ++ putB x.fst)).toList == (strOfNums ([] ++ putB x.snd)).toList) ∧ True ∧
  True

theorem sam_eq : samVC = fnS F131 f41 (bodyOf f41) samLS noAnn := by kernel_rfl
theorem sam_vc : samVC := fun _ hx =>
  ⟨⟨rfl, rfl, trivial⟩, trivial, ⟨by simp, hx.w1, hx.l1⟩, ⟨rfl, rfl, trivial⟩, trivial, ⟨by simp, hx.w2, hx.l2⟩, ⟨rfl, rfl⟩, trivial, trivial, rfl, trivial, trivial⟩
theorem sam_ok : Fits F131 f41 (bodyOf f41) samLS noAnn := by
  constructor
  rw [← sam_eq]
  exact sam_vc
theorem f41_has : Has prog 41 f41 (bodyOf f41) := ⟨by kernel_rfl, by kernel_rfl, by kernel_rfl⟩
theorem known132 : Known prog L132 := by
  unfold L132
  exact known131.lent mixed f41_has F131_eq sam_ok (fun _ _ => Nat.zero_le _) (fun _ _ => rfl)
/-! ## The law -/
def backVC : Prop := ∀ (x : List Br), BackIn x → (weight x).le (1099511627776 : Nat) ∧ (decide ((300 : Nat) < weight x) = true → True ∧ True ∧ True ∧ true = true ∧ True ∧
  True) ∧ (decide ((300 : Nat) < weight x) = false → (weight x).le (300 : Nat) ∧ (([] : List Int) = [] ∧ x = x ∧ True) ∧ True ∧ (PutX.mk [] x).Ok ∧ [] ++
  putB x = [] ++ putB x ∧ True ∧ DecIn ([] ++ putB x) ∧ (x = x ∧ True) ∧ True ∧ True ∧ ((!checkN x == (0 : Int)) = true → ((decE ([] ++ putB x) == (3 :
  Int)) = true → (↑(decB ([] ++ putB x)).length : Int) ≤ (9223372036854775807 : Int) → (((↑(decB ([] ++ putB x)).length : Int) == (0 : Int)) = true →
  True ∧ True ∧ True ∧ true = true ∧ True ∧ True) ∧ (((↑(decB ([] ++ putB x)).length : Int) == (0 : Int)) = false → true = false ∧ True ∧ True)) ∧ ((decE
  ([] ++ putB x) == (3 : Int)) = false → true = false ∧ True ∧ True)) ∧ ((!checkN x == (0 : Int)) = false → ((decE ([] ++ putB x) == (0 : Int)) = true →
  ((decB ([] ++ putB x) = decB ([] ++ putB x) ∧ True) ∧ x = x ∧ True) ∧ True ∧ SamIn (decB ([] ++ putB x), x) ∧ (((strOfNums (putB (decB ([] ++ putB
  x)))).toList == (strOfNums (putB x)).toList) = true → True ∧ True ∧ True ∧ true = true ∧ True ∧ True) ∧ (((strOfNums (putB (decB ([] ++ putB
  x)))).toList == (strOfNums (putB x)).toList) = false → true = false ∧ True ∧ True)) ∧ ((decE ([] ++ putB x) == (0 : Int)) = false → true = false ∧ True
  ∧ True)))

theorem back_eq : backVC = fnS F132 f12 (bodyOf f12) backLS noAnn := by kernel_rfl
theorem back_vc : backVC := by
  intro bs hx
  have hl : Locks bs := fun b hb => (hx.b b hb).1.lock
  have hw := hx.w
  have hn : bs.length ≤ 1000000000 := by unfold weight at hw; omega
  have hp := putB_le hl
  obtain ⟨d1, d2⟩ := dec_put hx.b hn (by omega)
  have hby := byt_putB (bs := bs) fun b hb => (hx.b b hb).2
  rw [List.nil_append, d1, d2]
  refine ⟨by show weight bs ≤ 1099511627776; omega, fun _ => ⟨trivial, trivial, trivial, rfl, trivial, trivial⟩, fun h => ⟨?_, ⟨rfl, rfl, trivial⟩, trivial, ⟨by simp, hw, hl⟩, rfl, trivial, ⟨hby, by omega⟩, ⟨rfl, trivial⟩, trivial, trivial, ?_⟩⟩
  · show weight bs ≤ 300
    simpa using h
  cases hf : fineB bs with
  | true =>
    rw [checkN_fine hf]
    simp only [if_true, beq_self_eq_true, Bool.not_true, Bool.false_eq_true, false_implies, true_and, Bool.true_eq_false, and_true, forall_const]
    exact ⟨hw, hl, hw, hl⟩
  | false =>
    rw [checkN_not (fineB_not.1 hf)]
    simp
theorem back_ok : Fits F132 f12 (bodyOf f12) backLS noAnn := by
  constructor
  rw [← back_eq]
  exact back_vc
theorem f12_has : Has prog 12 f12 (bodyOf f12) := ⟨by kernel_rfl, by kernel_rfl, by kernel_rfl⟩
end Go.Proofs.YtcglahfmnoghjaaDoor

/-! CondBack's call. Conditions: none. -/
namespace Go.Proofs.YtcglahfmnoghjaaDoor
open Go Go.Eng Go.Proofs.Tryd Go.ChangeShapes Go.WideShapes Go.RowKit

theorem wf_i64 {x : Int} (h : (Lit.int .i64 x).wf = true) : inI64 x := by
  simp only [Lit.wf, Bool.and_eq_true, decide_eq_true_eq] at h
  have h1 : IntKind.i64.min = -9223372036854775808 := rfl
  have h2 : IntKind.i64.max = 9223372036854775807 := rfl
  unfold inI64
  omega
theorem back_in {bs : List Br} (hw : weight bs ≤ 2000000) (h : CondWf bs) : BackIn bs where
  w := hw
  b := fun b hb => ⟨⟨fun x hx => wf_i64 ((h b hb).keys x hx), (h b hb).lock, wf_i64 (h b hb).after, wf_i64 (h b hb).older, by
    obtain ⟨i, hi⟩ := List.getElem?_of_mem hb
    have := key_w hi
    omega⟩, fun y hy => wf8 ((h b hb).bytes y hy)⟩
theorem back_calls {W : World} {vs : List Value} {bs : List Br} (hx : BackIn bs) (ha : ArgsR NoO [] W CC [.agg (.cell (.rseq 48 bs) .nil)] vs) (hg : Glob GG NoO [] W CC) :
    Calls prog 12 vs.toArray W fun e W' => e = .returned (.bool true) ∧ Below W.heap.size W W' := by
  have hS : Sound F132 := by rw [F132_eq]; exact sound mixed known132
  exact law_calls (ee_P F132_eq) hS f12_has back_ok bs hx rfl rfl (fun _ _ => Nat.le_refl _) (by rw [ee_C F132_eq]; exact ha) (by rw [ee_GL F132_eq, ee_C F132_eq]; exact hg)
end Go.Proofs.YtcglahfmnoghjaaDoor
