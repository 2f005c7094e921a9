/- Part 5 of the texts behind the last one: what they say stands ahead of each. Conditions: none. -/
import Derived.Test.YtcglahfmnoghjaaDoorMp4
/-! A condition copied, two joined, CondEither: they hold. Conditions: none. -/
namespace Go.Proofs.YtcglahfmnoghjaaDoor
open Go Go.Eng Go.Proofs.Tryd

def cloneBVC : Prop := ∀ (x : List Br), x.length.le (1000000 : Nat) → ∀ (b : Bool), (x ≠ [] → b = false) → (b = true → (SV.val (A := AA) (Value.slice none (0 : Nat) (0 :
  Nat)) : SV AA) = SV.val (A := AA) (Value.slice none (0 : Nat) (0 : Nat)) ∧ True ∧ x = [] ∧ True) ∧ (b = false → (([] : List Int).length + x.length) *
  (72 : Nat) ≤ (140737488355328 : Nat) ∧ ([] : List Int).length + x.length ≤ (1152921504606846976 : Nat) ∧ True ∧ True ∧ x = [] ++ x ∧ True)

theorem cloneB_eq : cloneBVC = fnS E49 f94 (bodyOf f94) cloneBLS noAnn := by kernel_rfl
theorem cloneB_vc : cloneBVC := by
  intro x hx b hb
  have hx' : x.length ≤ 1000000 := hx
  refine ⟨fun h => ⟨rfl, trivial, Classical.byContradiction fun hne => ?_, trivial⟩, fun _ => ⟨?_, ?_, trivial, trivial, rfl, trivial⟩⟩
  · have := hb hne
    rw [h] at this
    cases this
  · simp only [List.length_nil]; omega
  · simp only [List.length_nil]; omega
theorem cloneB_ok : Fits E49 f94 (bodyOf f94) cloneBLS noAnn := by
  constructor
  rw [← cloneB_eq]
  exact cloneB_vc
theorem f94_has : Has prog 94 f94 (bodyOf f94) := ⟨by kernel_rfl, by kernel_rfl, by kernel_rfl⟩
theorem known50 : Known prog L50 := by
  unfold L50
  exact known49.lent mixed f94_has E49_eq cloneB_ok (fun _ _ => Nat.zero_le _) (fun _ _ => rfl)
theorem f52_has : Has prog 52 f52 (bodyOf f52) := ⟨by kernel_rfl, by kernel_rfl, by kernel_rfl⟩
theorem known51 : Known prog L51 := by
  unfold L51
  exact known50.inl mixed f52_has E50_eq (by rfl)

theorem keys_le {bs : List Br} {b : Br} (h : b ∈ bs) : b.keys.length ≤ weight bs := by
  unfold weight
  induction bs with
  | nil => cases h
  | cons c bs ih =>
    simp only [sumK, List.length_cons] at ih ⊢
    rcases List.mem_cons.1 h with rfl | h
    · omega
    · have := ih h; omega
theorem lenW (bs : List Br) : bs.length ≤ weight bs := by
  unfold weight
  omega
theorem set_same {bs : List Br} {i : Nat} {y z : Br} (hy : bs[i]? = some y) (hz : bs[i]? = some z) : bs = bs.set i (Br.mk y.keys z.lock z.after z.older) := by
  obtain rfl : y = z := Option.some.inj (hy.symm.trans hz)
  apply List.ext_getElem?
  intro j
  rw [List.getElem?_set]
  have hl := (List.getElem?_eq_some_iff.1 hy).1
  by_cases e : i = j
  · subst e
    rw [hy]
    simp [hl]
  · simp [e]
def orVC : Prop := ∀ (x : OrX), x.Ok → (x.as_ = x.as_ ∧ True ∧ x.as_.length.le (1000000 : Nat) ∧ ((↑x.as_.length : Int) ≤ (9223372036854775807 : Int) → (∃ x_1, Nat.le x_1
  x.as_.length ∧ (↑x_1 : Int) = (0 : Int) ∧ ((x.as_ = x.as_ ∧ True) ∧ (x.bs = x.bs ∧ True) ∧ ((SV.val (A := AA) (Value.slice none (0 : Nat) (0 : Nat)) :
  SV AA) = SV.val (A := AA) (Value.slice none (0 : Nat) (0 : Nat)) ∧ True) ∧ (x.as_ = x.as_ ∧ True) ∧ ((SV.val (A := AA) (Value.slice none (0 : Nat) (0 :
  Nat)) : SV AA) = SV.val (A := AA) (Value.slice none (0 : Nat) (0 : Nat)) ∧ True) ∧ x.as_ = x.as_ ∧ True) ∧ True) ∧ ∀ (x_1 : Nat), x_1.le x.as_.length →
  (decide ((↑x_1 : Int) < (↑x.as_.length : Int)) = true → (0 : Int) ≤ (↑x_1 : Int) ∧ (↑x_1 : Int) < (↑x.as_.length : Int) ∧ (↑x_1 : Int).toNat <
  x.as_.length ∧ ∀ (y : AA (93 : TypeId)), x.as_[(↑x_1 : Int).toNat]? = some y → y.keys = y.keys ∧ True ∧ y.keys.length.le (1000000 : Nat) ∧ (0 : Int) ≤
  (↑x_1 : Int) ∧ (↑x_1 : Int) < (↑x.as_.length : Int) ∧ (↑x_1 : Int).toNat < x.as_.length ∧ ∀ (y_1 : AA (93 : TypeId)), x.as_[(↑x_1 : Int).toNat]? = some
  y_1 → (y.keys = y.keys ∧ y_1.lock = y_1.lock ∧ y_1.after = y_1.after ∧ y_1.older = y_1.older ∧ True) ∧ inI64 ((↑x_1 : Int) + (1 : Int)) ∧ ∃ y_2, Nat.le
  y_2 x.as_.length ∧ x.as_.length - y_2 < x.as_.length - x_1 ∧ (↑y_2 : Int) = (↑x_1 : Int) + (1 : Int) ∧ ((x.as_ = x.as_ ∧ True) ∧ (x.bs = x.bs ∧ True) ∧
  ((SV.val (A := AA) (Value.slice none (0 : Nat) (0 : Nat)) : SV AA) = SV.val (A := AA) (Value.slice none (0 : Nat) (0 : Nat)) ∧ True) ∧ (x.as_ = x.as_ ∧
  True) ∧ ((SV.val (A := AA) (Value.slice none (0 : Nat) (0 : Nat)) : SV AA) = SV.val (A := AA) (Value.slice none (0 : Nat) (0 : Nat)) ∧ True) ∧ x.as_ =
  x.as_.set (↑x_1 : Int).toNat (Br.mk y.keys y_1.lock y_1.after y_1.older) ∧ True) ∧ True) ∧ (decide ((↑x_1 : Int) < (↑x.as_.length : Int)) = false →
  x.bs = x.bs ∧ True ∧ x.bs.length.le (1000000 : Nat) ∧ ((↑x.bs.length : Int) ≤ (9223372036854775807 : Int) → (∃ x_2, Nat.le x_2 x.bs.length ∧ (↑x_2 :
  Int) = (0 : Int) ∧ ((x.as_ = x.as_ ∧ True) ∧ (x.bs = x.bs ∧ True) ∧ ((SV.val (A := AA) (Value.slice none (0 : Nat) (0 : Nat)) : SV AA) = SV.val (A :=
  AA) (Value.slice none (0 : Nat) (0 : Nat)) ∧ True) ∧ (x.as_ = x.as_ ∧ True) ∧ (True ∧ True) ∧ x.as_ = x.as_ ∧ (x.bs = x.bs ∧ True) ∧ ((SV.val (A := AA)
  (Value.slice none (0 : Nat) (0 : Nat)) : SV AA) = SV.val (A := AA) (Value.slice none (0 : Nat) (0 : Nat)) ∧ True) ∧ x.bs = x.bs ∧ True) ∧ True) ∧ ∀
  (x_2 : Nat), x_2.le x.bs.length → (decide ((↑x_2 : Int) < (↑x.bs.length : Int)) = true → (0 : Int) ≤ (↑x_2 : Int) ∧ (↑x_2 : Int) < (↑x.bs.length : Int)
  ∧ (↑x_2 : Int).toNat < x.bs.length ∧ ∀ (y : AA (93 : TypeId)), x.bs[(↑x_2 : Int).toNat]? = some y → y.keys = y.keys ∧ True ∧ y.keys.length.le (1000000
  : Nat) ∧ (0 : Int) ≤ (↑x_2 : Int) ∧ (↑x_2 : Int) < (↑x.bs.length : Int) ∧ (↑x_2 : Int).toNat < x.bs.length ∧ ∀ (y_1 : AA (93 : TypeId)), x.bs[(↑x_2 :
  Int).toNat]? = some y_1 → (y.keys = y.keys ∧ y_1.lock = y_1.lock ∧ y_1.after = y_1.after ∧ y_1.older = y_1.older ∧ True) ∧ inI64 ((↑x_2 : Int) + (1 :
  Int)) ∧ ∃ y_2, Nat.le y_2 x.bs.length ∧ x.bs.length - y_2 < x.bs.length - x_2 ∧ (↑y_2 : Int) = (↑x_2 : Int) + (1 : Int) ∧ ((x.as_ = x.as_ ∧ True) ∧
  (x.bs = x.bs ∧ True) ∧ (SV.val (A := AA) (Value.slice none (0 : Nat) (0 : Nat)) = SV.val (A := AA) (Value.slice none (0 : Nat) (0 : Nat)) ∧ True) ∧
  (x.as_ = x.as_ ∧ True) ∧ (True ∧ True) ∧ x.as_ = x.as_ ∧ (x.bs = x.bs ∧ True) ∧ (SV.val (A := AA) (Value.slice none (0 : Nat) (0 : Nat)) = SV.val (A :=
  AA) (Value.slice none (0 : Nat) (0 : Nat)) ∧ True) ∧ x.bs = x.bs.set (↑x_2 : Int).toNat (Br.mk y.keys y_1.lock y_1.after y_1.older) ∧ True) ∧ True) ∧
  (decide ((↑x_2 : Int) < (↑x.bs.length : Int)) = false → (x.as_.length + x.bs.length) * (72 : Nat) ≤ (140737488355328 : Nat) ∧ x.as_.length +
  x.bs.length ≤ (1152921504606846976 : Nat) ∧ (x.as_ ++ x.bs = x.as_ ++ x.bs ∧ True) ∧ True ∧ True))))) ∧ x.as_ = x.as_ ∧ True ∧ x.as_.length.le (1000000
  : Nat) ∧ ((↑x.as_.length : Int) ≤ (9223372036854775807 : Int) → (∃ x_1, Nat.le x_1 x.as_.length ∧ (↑x_1 : Int) = (0 : Int) ∧ ((x.as_ = x.as_ ∧ True) ∧
  (x.bs = x.bs ∧ True) ∧ ((SV.val (A := AA) (Value.slice none (0 : Nat) (0 : Nat)) : SV AA) = SV.val (A := AA) (Value.slice none (0 : Nat) (0 : Nat)) ∧
  True) ∧ (x.as_ = x.as_ ∧ True) ∧ ((SV.val (A := AA) (Value.slice none (0 : Nat) (0 : Nat)) : SV AA) = SV.val (A := AA) (Value.slice none (0 : Nat) (0 :
  Nat)) ∧ True) ∧ x.as_ = x.as_ ∧ True) ∧ True) ∧ ∀ (x_1 : Nat), x_1.le x.as_.length → (decide ((↑x_1 : Int) < (↑x.as_.length : Int)) = true → (0 : Int)
  ≤ (↑x_1 : Int) ∧ (↑x_1 : Int) < (↑x.as_.length : Int) ∧ (↑x_1 : Int).toNat < x.as_.length ∧ ∀ (y : AA (93 : TypeId)), x.as_[(↑x_1 : Int).toNat]? = some
  y → y.keys = y.keys ∧ True ∧ y.keys.length.le (1000000 : Nat) ∧ (0 : Int) ≤ (↑x_1 : Int) ∧ (↑x_1 : Int) < (↑x.as_.length : Int) ∧ (↑x_1 : Int).toNat <
  x.as_.length ∧ ∀ (y_1 : AA (93 : TypeId)), x.as_[(↑x_1 : Int).toNat]? = some y_1 → (y.keys = y.keys ∧ y_1.lock = y_1.lock ∧ y_1.after = y_1.after ∧
  y_1.older = y_1.older ∧ True) ∧ inI64 ((↑x_1 : Int) + (1 : Int)) ∧ ∃ y_2, Nat.le y_2 x.as_.length ∧ x.as_.length - y_2 < x.as_.length - x_1 ∧ (↑y_2 :
  Int) = (↑x_1 : Int) + (1 : Int) ∧ ((x.as_ = x.as_ ∧ True) ∧ (x.bs = x.bs ∧ True) ∧ ((SV.val (A := AA) (Value.slice none (0 : Nat) (0 : Nat)) : SV AA) =
  SV.val (A := AA) (Value.slice none (0 : Nat) (0 : Nat)) ∧ True) ∧ (x.as_ = x.as_ ∧ True) ∧ ((SV.val (A := AA) (Value.slice none (0 : Nat) (0 : Nat)) :
  SV AA) = SV.val (A := AA) (Value.slice none (0 : Nat) (0 : Nat)) ∧ True) ∧ x.as_ = x.as_.set (↑x_1 : Int).toNat (Br.mk y.keys y_1.lock y_1.after
  y_1.older) ∧ True) ∧ True) ∧ (decide ((↑x_1 : Int) < (↑x.as_.length : Int)) = false → x.bs = x.bs ∧ True ∧ x.bs.length.le (1000000 : Nat) ∧
  ((↑x.bs.length : Int) ≤ (9223372036854775807 : Int) → (∃ x_2, Nat.le x_2 x.bs.length ∧ (↑x_2 : Int) = (0 : Int) ∧ ((x.as_ = x.as_ ∧ True) ∧ (x.bs =
  x.bs ∧ True) ∧ ((SV.val (A := AA) (Value.slice none (0 : Nat) (0 : Nat)) : SV AA) = SV.val (A := AA) (Value.slice none (0 : Nat) (0 : Nat)) ∧ True) ∧
  (x.as_ = x.as_ ∧ True) ∧ (True ∧ True) ∧ x.as_ = x.as_ ∧ (x.bs = x.bs ∧ True) ∧ ((SV.val (A := AA) (Value.slice none (0 : Nat) (0 : Nat)) : SV AA) =
  SV.val (A := AA) (Value.slice none (0 : Nat) (0 : Nat)) ∧ True) ∧ x.bs = x.bs ∧ True) ∧ True) ∧ ∀ (x_2 : Nat), x_2.le x.bs.length → (decide ((↑x_2 :
  Int) < (↑x.bs.length : Int)) = true → (0 : Int) ≤ (↑x_2 : Int) ∧ (↑x_2 : Int) < (↑x.bs.length : Int) ∧ (↑x_2 : Int).toNat < x.bs.length ∧ ∀ (y : AA (93
  : TypeId)), x.bs[(↑x_2 : Int).toNat]? = some y → y.keys = y.keys ∧ True ∧ y.keys.length.le (1000000 : Nat) ∧ (0 : Int) ≤ (↑x_2 : Int) ∧ (↑x_2 : Int) <
  (↑x.bs.length : Int) ∧ (↑x_2 : Int).toNat < x.bs.length ∧ ∀ (y_1 : AA (93 : TypeId)), x.bs[(↑x_2 : Int).toNat]? = some y_1 → (y.keys = y.keys ∧
  y_1.lock = y_1.lock ∧ y_1.after = y_1.after ∧ y_1.older = y_1.older ∧ True) ∧ inI64 ((↑x_2 : Int) + (1 : Int)) ∧ ∃ y_2, Nat.le y_2 x.bs.length ∧
  x.bs.length - y_2 < x.bs.length - x_2 ∧ (↑y_2 : Int) = (↑x_2 : Int) + (1 : Int) ∧ ((x.as_ = x.as_ ∧ True) ∧ (x.bs = x.bs ∧ True) ∧ (SV.val (A := AA)
  (Value.slice none (0 : Nat) (0 : Nat)) = SV.val (A := AA) (Value.slice none (0 : Nat) (0 : Nat)) ∧ True) ∧ (x.as_ = x.as_ ∧ True) ∧ (True ∧ True) ∧
  x.as_ = x.as_ ∧ (x.bs = x.bs ∧ True) ∧ (SV.val (A := AA) (Value.slice none (0 : Nat) (0 : Nat)) = SV.val (A := AA) (Value.slice none (0 : Nat) (0 :
  Nat)) ∧ True) ∧ x.bs = x.bs.set (↑x_2 : Int).toNat (Br.mk y.keys y_1.lock y_1.after y_1.older) ∧ True) ∧ True) ∧ (decide ((↑x_2 : Int) < (↑x.bs.length
  : Int)) = false → (x.as_.length + x.bs.length) * (72 : Nat) ≤ (140737488355328 : Nat) ∧ x.as_.length + x.bs.length ≤ (1152921504606846976 : Nat) ∧
  (x.as_ ++ x.bs = x.as_ ++ x.bs ∧ True) ∧ True ∧ True))))

theorem or_eq : orVC = fnS E51 f23 (bodyOf f23) orLS noAnn := by kernel_rfl
theorem or_vc : orVC := by
  rintro ⟨as_, bs⟩ ⟨ha, hb⟩
  simp only at ha hb
  have hal := lenW as_
  have hbl := lenW bs
  have fin : (as_.length + bs.length) * 72 ≤ 140737488355328 ∧ as_.length + bs.length ≤ 1152921504606846976 := ⟨by omega, by omega⟩
  have l1 : as_.length.le 1000000 := show as_.length ≤ 1000000 by omega
  have l2 : bs.length.le 1000000 := show bs.length ≤ 1000000 by omega
  have step : ∀ (cs : List Br), weight cs ≤ 300 → ∀ i, Nat.le i cs.length → decide ((i : Int) < (cs.length : Int)) = true → (0 : Int) ≤ (i : Int) ∧ (i : Int) < (cs.length : Int) ∧ ((i : Nat) : Int).toNat < cs.length ∧ ∀ y : Br, cs[((i : Nat) : Int).toNat]? = some y →
      Nat.le y.keys.length 1000000 ∧ ∀ z : Br, cs[((i : Nat) : Int).toNat]? = some z → inI64 ((i : Int) + 1) ∧ ∃ j, Nat.le j cs.length ∧ cs.length - j < cs.length - i ∧ (j : Int) = (i : Int) + 1 ∧ cs = cs.set ((i : Nat) : Int).toNat (Br.mk y.keys z.lock z.after z.older) := by
    intro cs hw i hi hlt
    have hlt' := of_decide_eq_true hlt
    have hcl := lenW cs
    have hi' : i < cs.length := by omega
    refine ⟨by omega, hlt', by simpa using hi', fun y hy => ⟨?_, fun z hz => ⟨by unfold inI64; omega, i + 1, hi', by omega, by omega, set_same hy hz⟩⟩⟩
    have := keys_le (List.mem_of_getElem? hy)
    show y.keys.length ≤ 1000000
    omega
  have s1 := step as_ ha
  have s2 := step bs hb
  clear step
  simp only [true_and, and_true, Int.toNat_natCast] at s1 s2 ⊢
  have key : ∀ {P : Prop}, P → P ∧ P := fun h => ⟨h, h⟩
  refine key ⟨l1, fun _ => ⟨⟨0, Nat.zero_le _, rfl⟩, fun i hi => ⟨fun hlt => ?_, fun _ => ⟨l2, fun _ => ⟨⟨0, Nat.zero_le _, rfl⟩, fun k hk => ⟨fun hlt => ?_, fun _ => fin⟩⟩⟩⟩⟩⟩
  · obtain ⟨h1, h2, h3, h4⟩ := s1 i hi hlt
    refine ⟨h1, h2, h3, fun y hy => ?_⟩
    obtain ⟨h5, h6⟩ := h4 y hy
    exact ⟨h5, h1, h2, h3, fun z hz => h6 z hz⟩
  · obtain ⟨h1, h2, h3, h4⟩ := s2 k hk hlt
    refine ⟨h1, h2, h3, fun y hy => ?_⟩
    obtain ⟨h5, h6⟩ := h4 y hy
    exact ⟨h5, h1, h2, h3, fun z hz => h6 z hz⟩
theorem or_ok : Fits E51 f23 (bodyOf f23) orLS noAnn := by
  constructor
  rw [← or_eq]
  exact or_vc
theorem f23_has : Has prog 23 f23 (bodyOf f23) := ⟨by kernel_rfl, by kernel_rfl, by kernel_rfl⟩
theorem known52 : Known prog L52 := by
  unfold L52
  exact known51.lent mixed f23_has E51_eq or_ok (fun _ _ => Nat.le_refl _) (fun _ _ => rfl)

theorem fine_len {bs : List Br} (h : fineB bs = true) : 1 ≤ bs.length := (fineB_iff.1 h).1
/-- An index that is reckoned of any number. -/
theorem idx_of {n : Int} {L : Nat} (h1 : 1 ≤ L) (h2 : L ≤ 300) : wr .u64 (L : Int) ≠ 0 ∧ ∃ i : Nat, i < L ∧ wr .i64 ((wr .u64 n).tmod (wr .u64 (L : Int))) = (i : Int) := by
  rw [wr64u, wr64u]
  have e : ((L : Nat) : Int) % 18446744073709551616 = L := by omega
  rw [e]
  refine ⟨by omega, ((n % 18446744073709551616).tmod (L : Int)).toNat, ?_⟩
  have hp : 0 ≤ n % 18446744073709551616 := Int.emod_nonneg _ (by decide)
  rw [Int.tmod_eq_emod_of_nonneg hp]
  have g1 : 0 ≤ n % 18446744073709551616 % (L : Int) := Int.emod_nonneg _ (by omega)
  have g2 : n % 18446744073709551616 % (L : Int) < L := Int.emod_lt_of_pos _ (by omega)
  refine ⟨by omega, ?_⟩
  rw [wr64 (by unfold inI64; omega)]
  omega
theorem opens_left {as_ bs : List Br} {i : Nat} {s : Sn} (h1 : fineB as_ = true) (h2 : fineB (as_ ++ bs) = true) (hi : i < as_.length) : opensB as_ (i : Int) s = opensB (as_ ++ bs) (i : Int) s := by
  unfold opensB
  rw [opensN_fine h1, opensN_fine h2, if_neg (by omega), if_neg (by simp only [List.length_append]; omega), Int.toNat_natCast, List.getElem?_append_left hi]
theorem opens_right {as_ bs : List Br} {k : Nat} {s : Sn} (h1 : fineB bs = true) (h2 : fineB (as_ ++ bs) = true) (hk : k < bs.length) : opensB bs (k : Int) s = opensB (as_ ++ bs) ((as_.length : Int) + (k : Int)) s := by
  unfold opensB
  rw [opensN_fine h1, opensN_fine h2, if_neg (by omega), if_neg (by simp only [List.length_append]; omega), Int.toNat_natCast, show ((as_.length : Int) + (k : Int)).toNat = as_.length + k from by omega, List.getElem?_append_right (by omega), Nat.add_sub_cancel_left]
def eitherVC : Prop := ∀ (x : EitherX), x.Ok → (weight x.as_).le (1099511627776 : Nat) ∧ (decide ((300 : Nat) < weight x.as_) = true → True ∧ True ∧ True ∧ true = true ∧ True
  ∧ True) ∧ (decide ((300 : Nat) < weight x.as_) = false → (weight x.bs).le (1099511627776 : Nat) ∧ (decide ((300 : Nat) < weight x.bs) = true → True ∧
  True ∧ True ∧ true = true ∧ True ∧ True) ∧ (decide ((300 : Nat) < weight x.bs) = false → (↑x.s.signed.length : Int) ≤ (9223372036854775807 : Int) →
  (decide ((↑x.s.signed.length : Int) > (100 : Int)) = true → True ∧ True ∧ True ∧ true = true ∧ True ∧ True) ∧ (decide ((↑x.s.signed.length : Int) >
  (100 : Int)) = false → ((weight x.as_).le (300 : Nat) ∧ ((weight x.bs).le (300 : Nat) ∧ (((x.as_ = x.as_ ∧ True) ∧ x.bs = x.bs ∧ True) ∧ True ∧ (OrX.mk
  x.as_ x.bs).Ok ∧ (x.as_ = x.as_ ∧ True) ∧ True ∧ True ∧ ((!checkN x.as_ == (0 : Int)) = true → True ∧ True ∧ True ∧ true = true ∧ True ∧ True) ∧
  ((!checkN x.as_ == (0 : Int)) = false → (x.bs = x.bs ∧ True) ∧ True ∧ True ∧ ((!checkN x.bs == (0 : Int)) = true → True ∧ True ∧ True ∧ true = true ∧
  True ∧ True) ∧ ((!checkN x.bs == (0 : Int)) = false → (x.as_ ++ x.bs = x.as_ ++ x.bs ∧ True) ∧ True ∧ True ∧ ((!checkN (x.as_ ++ x.bs) == (0 : Int)) =
  true → True ∧ True ∧ True ∧ true = true ∧ True ∧ True) ∧ ((!checkN (x.as_ ++ x.bs) == (0 : Int)) = false → (↑x.as_.length : Int) ≤ (9223372036854775807
  : Int) → wr IntKind.u64 (↑x.as_.length : Int) ≠ (0 : Int) ∧ ((↑x.bs.length : Int) ≤ (9223372036854775807 : Int) → wr IntKind.u64 (↑x.bs.length : Int) ≠
  (0 : Int) ∧ ((x.as_ = x.as_ ∧ True) ∧ wr IntKind.i64 ((wr IntKind.u64 x.n).tmod (wr IntKind.u64 (↑x.as_.length : Int))) = wr IntKind.i64 ((wr
  IntKind.u64 x.n).tmod (wr IntKind.u64 (↑x.as_.length : Int))) ∧ x.s.signed = x.s.signed ∧ x.s.secret = x.s.secret ∧ x.s.height = x.s.height ∧ x.s.age =
  x.s.age ∧ True) ∧ True ∧ Bytes x.s.secret ∧ ((x.as_ ++ x.bs = x.as_ ++ x.bs ∧ True) ∧ wr IntKind.i64 ((wr IntKind.u64 x.n).tmod (wr IntKind.u64
  (↑x.as_.length : Int))) = wr IntKind.i64 ((wr IntKind.u64 x.n).tmod (wr IntKind.u64 (↑x.as_.length : Int))) ∧ x.s.signed = x.s.signed ∧ x.s.secret =
  x.s.secret ∧ x.s.height = x.s.height ∧ x.s.age = x.s.age ∧ True) ∧ True ∧ Bytes x.s.secret ∧ ((opensB x.as_ (wr IntKind.i64 ((wr IntKind.u64 x.n).tmod
  (wr IntKind.u64 (↑x.as_.length : Int)))) (Sn.mk x.s.signed x.s.secret x.s.height x.s.age) == opensB (x.as_ ++ x.bs) (wr IntKind.i64 ((wr IntKind.u64
  x.n).tmod (wr IntKind.u64 (↑x.as_.length : Int)))) (Sn.mk x.s.signed x.s.secret x.s.height x.s.age)) = true → (↑x.as_.length : Int) ≤
  (9223372036854775807 : Int) → inI64 ((↑x.as_.length : Int) + wr IntKind.i64 ((wr IntKind.u64 x.n).tmod (wr IntKind.u64 (↑x.bs.length : Int)))) ∧ ((x.bs
  = x.bs ∧ True) ∧ wr IntKind.i64 ((wr IntKind.u64 x.n).tmod (wr IntKind.u64 (↑x.bs.length : Int))) = wr IntKind.i64 ((wr IntKind.u64 x.n).tmod (wr
  IntKind.u64 (↑x.bs.length : Int))) ∧ x.s.signed = x.s.signed ∧ x.s.secret = x.s.secret ∧ x.s.height = x.s.height ∧ x.s.age = x.s.age ∧ True) ∧ True ∧
  Bytes x.s.secret ∧ ((x.as_ ++ x.bs = x.as_ ++ x.bs ∧ True) ∧ (↑x.as_.length : Int) + wr IntKind.i64 ((wr IntKind.u64 x.n).tmod (wr IntKind.u64
  (↑x.bs.length : Int))) = (↑x.as_.length : Int) + wr IntKind.i64 ((wr IntKind.u64 x.n).tmod (wr IntKind.u64 (↑x.bs.length : Int))) ∧ x.s.signed =
  x.s.signed ∧ x.s.secret = x.s.secret ∧ x.s.height = x.s.height ∧ x.s.age = x.s.age ∧ True) ∧ True ∧ Bytes x.s.secret ∧ ((opensB x.bs (wr IntKind.i64
  ((wr IntKind.u64 x.n).tmod (wr IntKind.u64 (↑x.bs.length : Int)))) (Sn.mk x.s.signed x.s.secret x.s.height x.s.age) == opensB (x.as_ ++ x.bs)
  ((↑x.as_.length : Int) + wr IntKind.i64 ((wr IntKind.u64 x.n).tmod (wr IntKind.u64 (↑x.bs.length : Int)))) (Sn.mk x.s.signed x.s.secret x.s.height
  x.s.age)) = true → True ∧ True ∧ True ∧ true = true ∧ True ∧ True) ∧ ((opensB x.bs (wr IntKind.i64 ((wr IntKind.u64 x.n).tmod (wr IntKind.u64
  (↑x.bs.length : Int)))) (Sn.mk x.s.signed x.s.secret x.s.height x.s.age) == opensB (x.as_ ++ x.bs) ((↑x.as_.length : Int) + wr IntKind.i64 ((wr
  IntKind.u64 x.n).tmod (wr IntKind.u64 (↑x.bs.length : Int)))) (Sn.mk x.s.signed x.s.secret x.s.height x.s.age)) = false → true = false ∧ True ∧ True))
  ∧ ((opensB x.as_ (wr IntKind.i64 ((wr IntKind.u64 x.n).tmod (wr IntKind.u64 (↑x.as_.length : Int)))) (Sn.mk x.s.signed x.s.secret x.s.height x.s.age)
  == opensB (x.as_ ++ x.bs) (wr IntKind.i64 ((wr IntKind.u64 x.n).tmod (wr IntKind.u64 (↑x.as_.length : Int)))) (Sn.mk x.s.signed x.s.secret x.s.height
  x.s.age)) = false → true = false ∧ True ∧ True)))))) ∧ ((x.as_ = x.as_ ∧ True) ∧ x.bs = x.bs ∧ True) ∧ True ∧ (OrX.mk x.as_ x.bs).Ok ∧ (x.as_ = x.as_ ∧
  True) ∧ True ∧ True ∧ ((!checkN x.as_ == (0 : Int)) = true → True ∧ True ∧ True ∧ true = true ∧ True ∧ True) ∧ ((!checkN x.as_ == (0 : Int)) = false →
  (x.bs = x.bs ∧ True) ∧ True ∧ True ∧ ((!checkN x.bs == (0 : Int)) = true → True ∧ True ∧ True ∧ true = true ∧ True ∧ True) ∧ ((!checkN x.bs == (0 :
  Int)) = false → (x.as_ ++ x.bs = x.as_ ++ x.bs ∧ True) ∧ True ∧ True ∧ ((!checkN (x.as_ ++ x.bs) == (0 : Int)) = true → True ∧ True ∧ True ∧ true =
  true ∧ True ∧ True) ∧ ((!checkN (x.as_ ++ x.bs) == (0 : Int)) = false → (↑x.as_.length : Int) ≤ (9223372036854775807 : Int) → wr IntKind.u64
  (↑x.as_.length : Int) ≠ (0 : Int) ∧ ((↑x.bs.length : Int) ≤ (9223372036854775807 : Int) → wr IntKind.u64 (↑x.bs.length : Int) ≠ (0 : Int) ∧ ((x.as_ =
  x.as_ ∧ True) ∧ wr IntKind.i64 ((wr IntKind.u64 x.n).tmod (wr IntKind.u64 (↑x.as_.length : Int))) = wr IntKind.i64 ((wr IntKind.u64 x.n).tmod (wr
  IntKind.u64 (↑x.as_.length : Int))) ∧ x.s.signed = x.s.signed ∧ x.s.secret = x.s.secret ∧ x.s.height = x.s.height ∧ x.s.age = x.s.age ∧ True) ∧ True ∧
  Bytes x.s.secret ∧ ((x.as_ ++ x.bs = x.as_ ++ x.bs ∧ True) ∧ wr IntKind.i64 ((wr IntKind.u64 x.n).tmod (wr IntKind.u64 (↑x.as_.length : Int))) = wr
  IntKind.i64 ((wr IntKind.u64 x.n).tmod (wr IntKind.u64 (↑x.as_.length : Int))) ∧ x.s.signed = x.s.signed ∧ x.s.secret = x.s.secret ∧ x.s.height =
  x.s.height ∧ x.s.age = x.s.age ∧ True) ∧ True ∧ Bytes x.s.secret ∧ ((opensB x.as_ (wr IntKind.i64 ((wr IntKind.u64 x.n).tmod (wr IntKind.u64
  (↑x.as_.length : Int)))) (Sn.mk x.s.signed x.s.secret x.s.height x.s.age) == opensB (x.as_ ++ x.bs) (wr IntKind.i64 ((wr IntKind.u64 x.n).tmod (wr
  IntKind.u64 (↑x.as_.length : Int)))) (Sn.mk x.s.signed x.s.secret x.s.height x.s.age)) = true → (↑x.as_.length : Int) ≤ (9223372036854775807 : Int) →
  inI64 ((↑x.as_.length : Int) + wr IntKind.i64 ((wr IntKind.u64 x.n).tmod (wr IntKind.u64 (↑x.bs.length : Int)))) ∧ ((x.bs = x.bs ∧ True) ∧ wr
  IntKind.i64 ((wr IntKind.u64 x.n).tmod (wr IntKind.u64 (↑x.bs.length : Int))) = wr IntKind.i64 ((wr IntKind.u64 x.n).tmod (wr IntKind.u64 (↑x.bs.length
  : Int))) ∧ x.s.signed = x.s.signed ∧ x.s.secret = x.s.secret ∧ x.s.height = x.s.height ∧ x.s.age = x.s.age ∧ True) ∧ True ∧ Bytes x.s.secret ∧ ((x.as_
  ++ x.bs = x.as_ ++ x.bs ∧ True) ∧ (↑x.as_.length : Int) + wr IntKind.i64 ((wr IntKind.u64 x.n).tmod (wr IntKind.u64 (↑x.bs.length : Int))) =
  (↑x.as_.length : Int) + wr IntKind.i64 ((wr IntKind.u64 x.n).tmod (wr IntKind.u64 (↑x.bs.length : Int))) ∧ x.s.signed = x.s.signed ∧ x.s.secret =
  x.s.secret ∧ x.s.height = x.s.height ∧ x.s.age = x.s.age ∧ True) ∧ True ∧ Bytes x.s.secret ∧ ((opensB x.bs (wr IntKind.i64 ((wr IntKind.u64 x.n).tmod
  (wr IntKind.u64 (↑x.bs.length : Int)))) (Sn.mk x.s.signed x.s.secret x.s.height x.s.age) == opensB (x.as_ ++ x.bs) ((↑x.as_.length : Int) + wr
  IntKind.i64 ((wr IntKind.u64 x.n).tmod (wr IntKind.u64 (↑x.bs.length : Int)))) (Sn.mk x.s.signed x.s.secret x.s.height x.s.age)) = true → True ∧ True ∧
  True ∧ true = true ∧ True ∧ True) ∧ ((opensB x.bs (wr IntKind.i64 ((wr IntKind.u64 x.n).tmod (wr IntKind.u64 (↑x.bs.length : Int)))) (Sn.mk x.s.signed
  x.s.secret x.s.height x.s.age) == opensB (x.as_ ++ x.bs) ((↑x.as_.length : Int) + wr IntKind.i64 ((wr IntKind.u64 x.n).tmod (wr IntKind.u64
  (↑x.bs.length : Int)))) (Sn.mk x.s.signed x.s.secret x.s.height x.s.age)) = false → true = false ∧ True ∧ True)) ∧ ((opensB x.as_ (wr IntKind.i64 ((wr
  IntKind.u64 x.n).tmod (wr IntKind.u64 (↑x.as_.length : Int)))) (Sn.mk x.s.signed x.s.secret x.s.height x.s.age) == opensB (x.as_ ++ x.bs) (wr
  IntKind.i64 ((wr IntKind.u64 x.n).tmod (wr IntKind.u64 (↑x.as_.length : Int)))) (Sn.mk x.s.signed x.s.secret x.s.height x.s.age)) = false → true =
  false ∧ True ∧ True)))))) ∧ (((weight x.bs).le (300 : Nat) ∧ ((x.as_ = x.as_ ∧ True) ∧ x.bs = x.bs ∧ True) ∧ True ∧ (OrX.mk x.as_ x.bs).Ok ∧ (x.as_ =
  x.as_ ∧ True) ∧ True ∧ True ∧ ((!checkN x.as_ == (0 : Int)) = true → True ∧ True ∧ True ∧ true = true ∧ True ∧ True) ∧ ((!checkN x.as_ == (0 : Int)) =
  false → (x.bs = x.bs ∧ True) ∧ True ∧ True ∧ ((!checkN x.bs == (0 : Int)) = true → True ∧ True ∧ True ∧ true = true ∧ True ∧ True) ∧ ((!checkN x.bs ==
  (0 : Int)) = false → (x.as_ ++ x.bs = x.as_ ++ x.bs ∧ True) ∧ True ∧ True ∧ ((!checkN (x.as_ ++ x.bs) == (0 : Int)) = true → True ∧ True ∧ True ∧ true
  = true ∧ True ∧ True) ∧ ((!checkN (x.as_ ++ x.bs) == (0 : Int)) = false → (↑x.as_.length : Int) ≤ (9223372036854775807 : Int) → wr IntKind.u64
  (↑x.as_.length : Int) ≠ (0 : Int) ∧ ((↑x.bs.length : Int) ≤ (9223372036854775807 : Int) → wr IntKind.u64 (↑x.bs.length : Int) ≠ (0 : Int) ∧ ((x.as_ =
  x.as_ ∧ True) ∧ wr IntKind.i64 ((wr IntKind.u64 x.n).tmod (wr IntKind.u64 (↑x.as_.length : Int))) = wr IntKind.i64 ((wr IntKind.u64 x.n).tmod (wr
  IntKind.u64 (↑x.as_.length : Int))) ∧ x.s.signed = x.s.signed ∧ x.s.secret = x.s.secret ∧ x.s.height = x.s.height ∧ x.s.age = x.s.age ∧ True) ∧ True ∧
  Bytes x.s.secret ∧ ((x.as_ ++ x.bs = x.as_ ++ x.bs ∧ True) ∧ wr IntKind.i64 ((wr IntKind.u64 x.n).tmod (wr IntKind.u64 (↑x.as_.length : Int))) = wr
  IntKind.i64 ((wr IntKind.u64 x.n).tmod (wr IntKind.u64 (↑x.as_.length : Int))) ∧ x.s.signed = x.s.signed ∧ x.s.secret = x.s.secret ∧ x.s.height =
  x.s.height ∧ x.s.age = x.s.age ∧ True) ∧ True ∧ Bytes x.s.secret ∧ ((opensB x.as_ (wr IntKind.i64 ((wr IntKind.u64 x.n).tmod (wr IntKind.u64
  (↑x.as_.length : Int)))) (Sn.mk x.s.signed x.s.secret x.s.height x.s.age) == opensB (x.as_ ++ x.bs) (wr IntKind.i64 ((wr IntKind.u64 x.n).tmod (wr
  IntKind.u64 (↑x.as_.length : Int)))) (Sn.mk x.s.signed x.s.secret x.s.height x.s.age)) = true → (↑x.as_.length : Int) ≤ (9223372036854775807 : Int) →
  inI64 ((↑x.as_.length : Int) + wr IntKind.i64 ((wr IntKind.u64 x.n).tmod (wr IntKind.u64 (↑x.bs.length : Int)))) ∧ ((x.bs = x.bs ∧ True) ∧ wr
  IntKind.i64 ((wr IntKind.u64 x.n).tmod (wr IntKind.u64 (↑x.bs.length : Int))) = wr IntKind.i64 ((wr IntKind.u64 x.n).tmod (wr IntKind.u64 (↑x.bs.length
  : Int))) ∧ x.s.signed = x.s.signed ∧ x.s.secret = x.s.secret ∧ x.s.height = x.s.height ∧ x.s.age = x.s.age ∧ True) ∧ True ∧ Bytes x.s.secret ∧ ((x.as_
  ++ x.bs = x.as_ ++ x.bs ∧ True) ∧ (↑x.as_.length : Int) + wr IntKind.i64 ((wr IntKind.u64 x.n).tmod (wr IntKind.u64 (↑x.bs.length : Int))) =
  (↑x.as_.length : Int) + wr IntKind.i64 ((wr IntKind.u64 x.n).tmod (wr IntKind.u64 (↑x.bs.length : Int))) ∧ x.s.signed = x.s.signed ∧ x.s.secret =
  x.s.secret ∧ x.s.height = x.s.height ∧ x.s.age = x.s.age ∧ True) ∧ True ∧ Bytes x.s.secret ∧ ((opensB x.bs (wr IntKind.i64 ((wr IntKind.u64 x.n).tmod
  (wr IntKind.u64 (↑x.bs.length : Int)))) (Sn.mk x.s.signed x.s.secret x.s.height x.s.age) == opensB (x.as_ ++ x.bs) ((↑x.as_.length : Int) + wr
  IntKind.i64 ((wr IntKind.u64 x.n).tmod (wr IntKind.u64 (↑x.bs.length : Int)))) (Sn.mk x.s.signed x.s.secret x.s.height x.s.age)) = true → True ∧ True ∧
  True ∧ true = true ∧ True ∧ True) ∧ ((opensB x.bs (wr IntKind.i64 ((wr IntKind.u64 x.n).tmod (wr IntKind.u64 (↑x.bs.length : Int)))) (Sn.mk x.s.signed
  x.s.secret x.s.height x.s.age) == opensB (x.as_ ++ x.bs) ((↑x.as_.length : Int) + wr IntKind.i64 ((wr IntKind.u64 x.n).tmod (wr IntKind.u64
  (↑x.bs.length : Int)))) (Sn.mk x.s.signed x.s.secret x.s.height x.s.age)) = false → true = false ∧ True ∧ True)) ∧ ((opensB x.as_ (wr IntKind.i64 ((wr
  IntKind.u64 x.n).tmod (wr IntKind.u64 (↑x.as_.length : Int)))) (Sn.mk x.s.signed x.s.secret x.s.height x.s.age) == opensB (x.as_ ++ x.bs) (wr
  IntKind.i64 ((wr IntKind.u64 x.n).tmod (wr IntKind.u64 (↑x.as_.length : Int)))) (Sn.mk x.s.signed x.s.secret x.s.height x.s.age)) = false → true =
  false ∧ True ∧ True)))))) ∧ (weight x.bs).le (300 : Nat) ∧ ((x.as_ = x.as_ ∧ True) ∧ x.bs = x.bs ∧ True) ∧ True ∧ (OrX.mk x.as_ x.bs).Ok ∧ (x.as_ =
  x.as_ ∧ True) ∧ True ∧ True ∧ ((!checkN x.as_ == (0 : Int)) = true → True ∧ True ∧ True ∧ true = true ∧ True ∧ True) ∧ ((!checkN x.as_ == (0 : Int)) =
  false → (x.bs = x.bs ∧ True) ∧ True ∧ True ∧ ((!checkN x.bs == (0 : Int)) = true → True ∧ True ∧ True ∧ true = true ∧ True ∧ True) ∧ ((!checkN x.bs ==
  (0 : Int)) = false → (x.as_ ++ x.bs = x.as_ ++ x.bs ∧ True) ∧ True ∧ True ∧ ((!checkN (x.as_ ++ x.bs) == (0 : Int)) = true → True ∧ True ∧ True ∧ true
  = true ∧ True ∧ True) ∧ ((!checkN (x.as_ ++ x.bs) == (0 : Int)) = false → (↑x.as_.length : Int) ≤ (9223372036854775807 : Int) → wr IntKind.u64
  (↑x.as_.length : Int) ≠ (0 : Int) ∧ ((↑x.bs.length : Int) ≤ (9223372036854775807 : Int) → wr IntKind.u64 (↑x.bs.length : Int) ≠ (0 : Int) ∧ ((x.as_ =
  x.as_ ∧ True) ∧ wr IntKind.i64 ((wr IntKind.u64 x.n).tmod (wr IntKind.u64 (↑x.as_.length : Int))) = wr IntKind.i64 ((wr IntKind.u64 x.n).tmod (wr
  IntKind.u64 (↑x.as_.length : Int))) ∧ x.s.signed = x.s.signed ∧ x.s.secret = x.s.secret ∧ x.s.height = x.s.height ∧ x.s.age = x.s.age ∧ True) ∧ True ∧
  Bytes x.s.secret ∧ ((x.as_ ++ x.bs = x.as_ ++ x.bs ∧ True) ∧ wr IntKind.i64 ((wr IntKind.u64 x.n).tmod (wr IntKind.u64 (↑x.as_.length : Int))) = wr
  IntKind.i64 ((wr IntKind.u64 x.n).tmod (wr IntKind.u64 (↑x.as_.length : Int))) ∧ x.s.signed = x.s.signed ∧ x.s.secret = x.s.secret ∧ x.s.height =
  x.s.height ∧ x.s.age = x.s.age ∧ True) ∧ True ∧ Bytes x.s.secret ∧ ((opensB x.as_ (wr IntKind.i64 ((wr IntKind.u64 x.n).tmod (wr IntKind.u64
  (↑x.as_.length : Int)))) (Sn.mk x.s.signed x.s.secret x.s.height x.s.age) == opensB (x.as_ ++ x.bs) (wr IntKind.i64 ((wr IntKind.u64 x.n).tmod (wr
  IntKind.u64 (↑x.as_.length : Int)))) (Sn.mk x.s.signed x.s.secret x.s.height x.s.age)) = true → (↑x.as_.length : Int) ≤ (9223372036854775807 : Int) →
  inI64 ((↑x.as_.length : Int) + wr IntKind.i64 ((wr IntKind.u64 x.n).tmod (wr IntKind.u64 (↑x.bs.length : Int)))) ∧ ((x.bs = x.bs ∧ True) ∧ wr
  IntKind.i64 ((wr IntKind.u64 x.n).tmod (wr IntKind.u64 (↑x.bs.length : Int))) = wr IntKind.i64 ((wr IntKind.u64 x.n).tmod (wr IntKind.u64 (↑x.bs.length
  : Int))) ∧ x.s.signed = x.s.signed ∧ x.s.secret = x.s.secret ∧ x.s.height = x.s.height ∧ x.s.age = x.s.age ∧ True) ∧ True ∧ Bytes x.s.secret ∧ ((x.as_
  ++ x.bs = x.as_ ++ x.bs ∧ True) ∧ (↑x.as_.length : Int) + wr IntKind.i64 ((wr IntKind.u64 x.n).tmod (wr IntKind.u64 (↑x.bs.length : Int))) =
  (↑x.as_.length : Int) + wr IntKind.i64 ((wr IntKind.u64 x.n).tmod (wr IntKind.u64 (↑x.bs.length : Int))) ∧ x.s.signed = x.s.signed ∧ x.s.secret =
  x.s.secret ∧ x.s.height = x.s.height ∧ x.s.age = x.s.age ∧ True) ∧ True ∧ Bytes x.s.secret ∧ ((opensB x.bs (wr IntKind.i64 ((wr IntKind.u64 x.n).tmod
  (wr IntKind.u64 (↑x.bs.length : Int)))) (Sn.mk x.s.signed x.s.secret x.s.height x.s.age) == opensB (x.as_ ++ x.bs) ((↑x.as_.length : Int) + wr
  IntKind.i64 ((wr IntKind.u64 x.n).tmod (wr IntKind.u64 (↑x.bs.length : Int)))) (Sn.mk x.s.signed x.s.secret x.s.height x.s.age)) = true → True ∧ True ∧
  True ∧ true = true ∧ True ∧ True) ∧ ((opensB x.bs (wr IntKind.i64 ((wr IntKind.u64 x.n).tmod (wr IntKind.u64 (↑x.bs.length : Int)))) (Sn.mk x.s.signed
  x.s.secret x.s.height x.s.age) == opensB (x.as_ ++ x.bs) ((↑x.as_.length : Int) + wr IntKind.i64 ((wr IntKind.u64 x.n).tmod (wr IntKind.u64
  (↑x.bs.length : Int)))) (Sn.mk x.s.signed x.s.secret x.s.height x.s.age)) = false → true = false ∧ True ∧ True)) ∧ ((opensB x.as_ (wr IntKind.i64 ((wr
  IntKind.u64 x.n).tmod (wr IntKind.u64 (↑x.as_.length : Int)))) (Sn.mk x.s.signed x.s.secret x.s.height x.s.age) == opensB (x.as_ ++ x.bs) (wr
  IntKind.i64 ((wr IntKind.u64 x.n).tmod (wr IntKind.u64 (↑x.as_.length : Int)))) (Sn.mk x.s.signed x.s.secret x.s.height x.s.age)) = false → true =
  false ∧ True ∧ True)))))) ∧ ((weight x.bs).le (300 : Nat) ∧ ((x.as_ = x.as_ ∧ True) ∧ x.bs = x.bs ∧ True) ∧ True ∧ (OrX.mk x.as_ x.bs).Ok ∧ (x.as_ =
  x.as_ ∧ True) ∧ True ∧ True ∧ ((!checkN x.as_ == (0 : Int)) = true → True ∧ True ∧ True ∧ true = true ∧ True ∧ True) ∧ ((!checkN x.as_ == (0 : Int)) =
  false → (x.bs = x.bs ∧ True) ∧ True ∧ True ∧ ((!checkN x.bs == (0 : Int)) = true → True ∧ True ∧ True ∧ true = true ∧ True ∧ True) ∧ ((!checkN x.bs ==
  (0 : Int)) = false → (x.as_ ++ x.bs = x.as_ ++ x.bs ∧ True) ∧ True ∧ True ∧ ((!checkN (x.as_ ++ x.bs) == (0 : Int)) = true → True ∧ True ∧ True ∧ true
  = true ∧ True ∧ True) ∧ ((!checkN (x.as_ ++ x.bs) == (0 : Int)) = false → (↑x.as_.length : Int) ≤ (9223372036854775807 : Int) → wr IntKind.u64
  (↑x.as_.length : Int) ≠ (0 : Int) ∧ ((↑x.bs.length : Int) ≤ (9223372036854775807 : Int) → wr IntKind.u64 (↑x.bs.length : Int) ≠ (0 : Int) ∧ ((x.as_ =
  x.as_ ∧ True) ∧ wr IntKind.i64 ((wr IntKind.u64 x.n).tmod (wr IntKind.u64 (↑x.as_.length : Int))) = wr IntKind.i64 ((wr IntKind.u64 x.n).tmod (wr
  IntKind.u64 (↑x.as_.length : Int))) ∧ x.s.signed = x.s.signed ∧ x.s.secret = x.s.secret ∧ x.s.height = x.s.height ∧ x.s.age = x.s.age ∧ True) ∧ True ∧
  Bytes x.s.secret ∧ ((x.as_ ++ x.bs = x.as_ ++ x.bs ∧ True) ∧ wr IntKind.i64 ((wr IntKind.u64 x.n).tmod (wr IntKind.u64 (↑x.as_.length : Int))) = wr
  IntKind.i64 ((wr IntKind.u64 x.n).tmod (wr IntKind.u64 (↑x.as_.length : Int))) ∧ x.s.signed = x.s.signed ∧ x.s.secret = x.s.secret ∧ x.s.height =
  x.s.height ∧ x.s.age = x.s.age ∧ True) ∧ True ∧ Bytes x.s.secret ∧ ((opensB x.as_ (wr IntKind.i64 ((wr IntKind.u64 x.n).tmod (wr IntKind.u64
  (↑x.as_.length : Int)))) (Sn.mk x.s.signed x.s.secret x.s.height x.s.age) == opensB (x.as_ ++ x.bs) (wr IntKind.i64 ((wr IntKind.u64 x.n).tmod (wr
  IntKind.u64 (↑x.as_.length : Int)))) (Sn.mk x.s.signed x.s.secret x.s.height x.s.age)) = true → (↑x.as_.length : Int) ≤ (9223372036854775807 : Int) →
  inI64 ((↑x.as_.length : Int) + wr IntKind.i64 ((wr IntKind.u64 x.n).tmod (wr IntKind.u64 (↑x.bs.length : Int)))) ∧ ((x.bs = x.bs ∧ True) ∧ wr
  IntKind.i64 ((wr IntKind.u64 x.n).tmod (wr IntKind.u64 (↑x.bs.length : Int))) = wr IntKind.i64 ((wr IntKind.u64 x.n).tmod (wr IntKind.u64 (↑x.bs.length
  : Int))) ∧ x.s.signed = x.s.signed ∧ x.s.secret = x.s.secret ∧ x.s.height = x.s.height ∧ x.s.age = x.s.age ∧ True) ∧ True ∧ Bytes x.s.secret ∧ ((x.as_
  ++ x.bs = x.as_ ++ x.bs ∧ True) ∧ (↑x.as_.length : Int) + wr IntKind.i64 ((wr IntKind.u64 x.n).tmod (wr IntKind.u64 (↑x.bs.length : Int))) =
  (↑x.as_.length : Int) + wr IntKind.i64 ((wr IntKind.u64 x.n).tmod (wr IntKind.u64 (↑x.bs.length : Int))) ∧ x.s.signed = x.s.signed ∧ x.s.secret =
  x.s.secret ∧ x.s.height = x.s.height ∧ x.s.age = x.s.age ∧ True) ∧ True ∧ Bytes x.s.secret ∧ ((opensB x.bs (wr IntKind.i64 ((wr IntKind.u64 x.n).tmod
  (wr IntKind.u64 (↑x.bs.length : Int)))) (Sn.mk x.s.signed x.s.secret x.s.height x.s.age) == opensB (x.as_ ++ x.bs) ((↑x.as_.length : Int) + wr
  IntKind.i64 ((wr IntKind.u64 x.n).tmod (wr IntKind.u64 (↑x.bs.length : Int)))) (Sn.mk x.s.signed x.s.secret x.s.height x.s.age)) = true → True ∧ True ∧
  True ∧ true = true ∧ True ∧ True) ∧ ((opensB x.bs (wr IntKind.i64 ((wr IntKind.u64 x.n).tmod (wr IntKind.u64 (↑x.bs.length : Int)))) (Sn.mk x.s.signed
  x.s.secret x.s.height x.s.age) == opensB (x.as_ ++ x.bs) ((↑x.as_.length : Int) + wr IntKind.i64 ((wr IntKind.u64 x.n).tmod (wr IntKind.u64
  (↑x.bs.length : Int)))) (Sn.mk x.s.signed x.s.secret x.s.height x.s.age)) = false → true = false ∧ True ∧ True)) ∧ ((opensB x.as_ (wr IntKind.i64 ((wr
  IntKind.u64 x.n).tmod (wr IntKind.u64 (↑x.as_.length : Int)))) (Sn.mk x.s.signed x.s.secret x.s.height x.s.age) == opensB (x.as_ ++ x.bs) (wr
  IntKind.i64 ((wr IntKind.u64 x.n).tmod (wr IntKind.u64 (↑x.as_.length : Int)))) (Sn.mk x.s.signed x.s.secret x.s.height x.s.age)) = false → true =
  false ∧ True ∧ True)))))) ∧ (weight x.bs).le (300 : Nat) ∧ ((x.as_ = x.as_ ∧ True) ∧ x.bs = x.bs ∧ True) ∧ True ∧ (OrX.mk x.as_ x.bs).Ok ∧ (x.as_ =
  x.as_ ∧ True) ∧ True ∧ True ∧ ((!checkN x.as_ == (0 : Int)) = true → True ∧ True ∧ True ∧ true = true ∧ True ∧ True) ∧ ((!checkN x.as_ == (0 : Int)) =
  false → (x.bs = x.bs ∧ True) ∧ True ∧ True ∧ ((!checkN x.bs == (0 : Int)) = true → True ∧ True ∧ True ∧ true = true ∧ True ∧ True) ∧ ((!checkN x.bs ==
  (0 : Int)) = false → (x.as_ ++ x.bs = x.as_ ++ x.bs ∧ True) ∧ True ∧ True ∧ ((!checkN (x.as_ ++ x.bs) == (0 : Int)) = true → True ∧ True ∧ True ∧ true
  = true ∧ True ∧ True) ∧ ((!checkN (x.as_ ++ x.bs) == (0 : Int)) = false → (↑x.as_.length : Int) ≤ (9223372036854775807 : Int) → wr IntKind.u64
  (↑x.as_.length : Int) ≠ (0 : Int) ∧ ((↑x.bs.length : Int) ≤ (9223372036854775807 : Int) → wr IntKind.u64 (↑x.bs.length : Int) ≠ (0 : Int) ∧ ((x.as_ =
  x.as_ ∧ True) ∧ wr IntKind.i64 ((wr IntKind.u64 x.n).tmod (wr IntKind.u64 (↑x.as_.length : Int))) = wr IntKind.i64 ((wr IntKind.u64 x.n).tmod (wr
  IntKind.u64 (↑x.as_.length : Int))) ∧ x.s.signed = x.s.signed ∧ x.s.secret = x.s.secret ∧ x.s.height = x.s.height ∧ x.s.age = x.s.age ∧ True) ∧ True ∧
  Bytes x.s.secret ∧ ((x.as_ ++ x.bs = x.as_ ++ x.bs ∧ True) ∧ wr IntKind.i64 ((wr IntKind.u64 x.n).tmod (wr IntKind.u64 (↑x.as_.length : Int))) = wr
  IntKind.i64 ((wr IntKind.u64 x.n).tmod (wr IntKind.u64 (↑x.as_.length : Int))) ∧ x.s.signed = x.s.signed ∧ x.s.secret = x.s.secret ∧ x.s.height =
  x.s.height ∧ x.s.age = x.s.age ∧ True) ∧ True ∧ Bytes x.s.secret ∧ ((opensB x.as_ (wr IntKind.i64 ((wr IntKind.u64 x.n).tmod (wr IntKind.u64
  (↑x.as_.length : Int)))) (Sn.mk x.s.signed x.s.secret x.s.height x.s.age) == opensB (x.as_ ++ x.bs) (wr IntKind.i64 ((wr IntKind.u64 x.n).tmod (wr
  IntKind.u64 (↑x.as_.length : Int)))) (Sn.mk x.s.signed x.s.secret x.s.height x.s.age)) = true → (↑x.as_.length : Int) ≤ (9223372036854775807 : Int) →
  inI64 ((↑x.as_.length : Int) + wr IntKind.i64 ((wr IntKind.u64 x.n).tmod (wr IntKind.u64 (↑x.bs.length : Int)))) ∧ ((x.bs = x.bs ∧ True) ∧ wr
  IntKind.i64 ((wr IntKind.u64 x.n).tmod (wr IntKind.u64 (↑x.bs.length : Int))) = wr IntKind.i64 ((wr IntKind.u64 x.n).tmod (wr IntKind.u64 (↑x.bs.length
  : Int))) ∧ x.s.signed = x.s.signed ∧ x.s.secret = x.s.secret ∧ x.s.height = x.s.height ∧ x.s.age = x.s.age ∧ True) ∧ True ∧ Bytes x.s.secret ∧ ((x.as_
  ++ x.bs = x.as_ ++ x.bs ∧ True) ∧ (↑x.as_.length : Int) + wr IntKind.i64 ((wr IntKind.u64 x.n).tmod (wr IntKind.u64 (↑x.bs.length : Int))) =
  (↑x.as_.length : Int) + wr IntKind.i64 ((wr IntKind.u64 x.n).tmod (wr IntKind.u64 (↑x.bs.length : Int))) ∧ x.s.signed = x.s.signed ∧ x.s.secret =
  x.s.secret ∧ x.s.height = x.s.height ∧ x.s.age = x.s.age ∧ True) ∧ True ∧ Bytes x.s.secret ∧ ((opensB x.bs (wr IntKind.i64 ((wr IntKind.u64 x.n).tmod
  (wr IntKind.u64 (↑x.bs.length : Int)))) (Sn.mk x.s.signed x.s.secret x.s.height x.s.age) == opensB (x.as_ ++ x.bs) ((↑x.as_.length : Int) + wr
  IntKind.i64 ((wr IntKind.u64 x.n).tmod (wr IntKind.u64 (↑x.bs.length : Int)))) (Sn.mk x.s.signed x.s.secret x.s.height x.s.age)) = true → True ∧ True ∧
  True ∧ true = true ∧ True ∧ True) ∧ ((opensB x.bs (wr IntKind.i64 ((wr IntKind.u64 x.n).tmod (wr IntKind.u64 (↑x.bs.length : Int)))) (Sn.mk x.s.signed
  x.s.secret x.s.height x.s.age) == opensB (x.as_ ++ x.bs) ((↑x.as_.length : Int) + wr IntKind.i64 ((wr IntKind.u64 x.n).tmod (wr IntKind.u64
  (↑x.bs.length : Int)))) (Sn.mk x.s.signed x.s.secret x.s.height x.s.age)) = false → true = false ∧ True ∧ True)) ∧ ((opensB x.as_ (wr IntKind.i64 ((wr
  IntKind.u64 x.n).tmod (wr IntKind.u64 (↑x.as_.length : Int)))) (Sn.mk x.s.signed x.s.secret x.s.height x.s.age) == opensB (x.as_ ++ x.bs) (wr
  IntKind.i64 ((wr IntKind.u64 x.n).tmod (wr IntKind.u64 (↑x.as_.length : Int)))) (Sn.mk x.s.signed x.s.secret x.s.height x.s.age)) = false → true =
  false ∧ True ∧ True)))))) ∧ (((weight x.as_).le (300 : Nat) ∧ ((weight x.bs).le (300 : Nat) ∧ ((x.as_ = x.as_ ∧ True) ∧ x.bs = x.bs ∧ True) ∧ True ∧
  (OrX.mk x.as_ x.bs).Ok ∧ (x.as_ = x.as_ ∧ True) ∧ True ∧ True ∧ ((!checkN x.as_ == (0 : Int)) = true → True ∧ True ∧ True ∧ true = true ∧ True ∧ True)
  ∧ ((!checkN x.as_ == (0 : Int)) = false → (x.bs = x.bs ∧ True) ∧ True ∧ True ∧ ((!checkN x.bs == (0 : Int)) = true → True ∧ True ∧ True ∧ true = true ∧
  True ∧ True) ∧ ((!checkN x.bs == (0 : Int)) = false → (x.as_ ++ x.bs = x.as_ ++ x.bs ∧ True) ∧ True ∧ True ∧ ((!checkN (x.as_ ++ x.bs) == (0 : Int)) =
  true → True ∧ True ∧ True ∧ true = true ∧ True ∧ True) ∧ ((!checkN (x.as_ ++ x.bs) == (0 : Int)) = false → (↑x.as_.length : Int) ≤ (9223372036854775807
  : Int) → wr IntKind.u64 (↑x.as_.length : Int) ≠ (0 : Int) ∧ ((↑x.bs.length : Int) ≤ (9223372036854775807 : Int) → wr IntKind.u64 (↑x.bs.length : Int) ≠
  (0 : Int) ∧ ((x.as_ = x.as_ ∧ True) ∧ wr IntKind.i64 ((wr IntKind.u64 x.n).tmod (wr IntKind.u64 (↑x.as_.length : Int))) = wr IntKind.i64 ((wr
  IntKind.u64 x.n).tmod (wr IntKind.u64 (↑x.as_.length : Int))) ∧ x.s.signed = x.s.signed ∧ x.s.secret = x.s.secret ∧ x.s.height = x.s.height ∧ x.s.age =
  x.s.age ∧ True) ∧ True ∧ Bytes x.s.secret ∧ ((x.as_ ++ x.bs = x.as_ ++ x.bs ∧ True) ∧ wr IntKind.i64 ((wr IntKind.u64 x.n).tmod (wr IntKind.u64
  (↑x.as_.length : Int))) = wr IntKind.i64 ((wr IntKind.u64 x.n).tmod (wr IntKind.u64 (↑x.as_.length : Int))) ∧ x.s.signed = x.s.signed ∧ x.s.secret =
  x.s.secret ∧ x.s.height = x.s.height ∧ x.s.age = x.s.age ∧ True) ∧ True ∧ Bytes x.s.secret ∧ ((opensB x.as_ (wr IntKind.i64 ((wr IntKind.u64 x.n).tmod
  (wr IntKind.u64 (↑x.as_.length : Int)))) (Sn.mk x.s.signed x.s.secret x.s.height x.s.age) == opensB (x.as_ ++ x.bs) (wr IntKind.i64 ((wr IntKind.u64
  x.n).tmod (wr IntKind.u64 (↑x.as_.length : Int)))) (Sn.mk x.s.signed x.s.secret x.s.height x.s.age)) = true → (↑x.as_.length : Int) ≤
  (9223372036854775807 : Int) → inI64 ((↑x.as_.length : Int) + wr IntKind.i64 ((wr IntKind.u64 x.n).tmod (wr IntKind.u64 (↑x.bs.length : Int)))) ∧ ((x.bs
  = x.bs ∧ True) ∧ wr IntKind.i64 ((wr IntKind.u64 x.n).tmod (wr IntKind.u64 (↑x.bs.length : Int))) = wr IntKind.i64 ((wr IntKind.u64 x.n).tmod (wr
  IntKind.u64 (↑x.bs.length : Int))) ∧ x.s.signed = x.s.signed ∧ x.s.secret = x.s.secret ∧ x.s.height = x.s.height ∧ x.s.age = x.s.age ∧ True) ∧ True ∧
  Bytes x.s.secret ∧ ((x.as_ ++ x.bs = x.as_ ++ x.bs ∧ True) ∧ (↑x.as_.length : Int) + wr IntKind.i64 ((wr IntKind.u64 x.n).tmod (wr IntKind.u64
  (↑x.bs.length : Int))) = (↑x.as_.length : Int) + wr IntKind.i64 ((wr IntKind.u64 x.n).tmod (wr IntKind.u64 (↑x.bs.length : Int))) ∧ x.s.signed =
  x.s.signed ∧ x.s.secret = x.s.secret ∧ x.s.height = x.s.height ∧ x.s.age = x.s.age ∧ True) ∧ True ∧ Bytes x.s.secret ∧ ((opensB x.bs (wr IntKind.i64
  ((wr IntKind.u64 x.n).tmod (wr IntKind.u64 (↑x.bs.length : Int)))) (Sn.mk x.s.signed x.s.secret x.s.height x.s.age) == opensB (x.as_ ++ x.bs)
  ((↑x.as_.length : Int) + wr IntKind.i64 ((wr IntKind.u64 x.n).tmod (wr IntKind.u64 (↑x.bs.length : Int)))) (Sn.mk x.s.signed x.s.secret x.s.height
  x.s.age)) = true → True ∧ True ∧ True ∧ true = true ∧ True ∧ True) ∧ ((opensB x.bs (wr IntKind.i64 ((wr IntKind.u64 x.n).tmod (wr IntKind.u64
  (↑x.bs.length : Int)))) (Sn.mk x.s.signed x.s.secret x.s.height x.s.age) == opensB (x.as_ ++ x.bs) ((↑x.as_.length : Int) + wr IntKind.i64 ((wr
  IntKind.u64 x.n).tmod (wr IntKind.u64 (↑x.bs.length : Int)))) (Sn.mk x.s.signed x.s.secret x.s.height x.s.age)) = false → true = false ∧ True ∧ True))
  ∧ ((opensB x.as_ (wr IntKind.i64 ((wr IntKind.u64 x.n).tmod (wr IntKind.u64 (↑x.as_.length : Int)))) (Sn.mk x.s.signed x.s.secret x.s.height x.s.age)
  == opensB (x.as_ ++ x.bs) (wr IntKind.i64 ((wr IntKind.u64 x.n).tmod (wr IntKind.u64 (↑x.as_.length : Int)))) (Sn.mk x.s.signed x.s.secret x.s.height
  x.s.age)) = false → true = false ∧ True ∧ True)))))) ∧ (weight x.bs).le (300 : Nat) ∧ ((x.as_ = x.as_ ∧ True) ∧ x.bs = x.bs ∧ True) ∧ True ∧ (OrX.mk
  x.as_ x.bs).Ok ∧ (x.as_ = x.as_ ∧ True) ∧ True ∧ True ∧ ((!checkN x.as_ == (0 : Int)) = true → True ∧ True ∧ True ∧ true = true ∧ True ∧ True) ∧
  ((!checkN x.as_ == (0 : Int)) = false → (x.bs = x.bs ∧ True) ∧ True ∧ True ∧ ((!checkN x.bs == (0 : Int)) = true → True ∧ True ∧ True ∧ true = true ∧
  True ∧ True) ∧ ((!checkN x.bs == (0 : Int)) = false → (x.as_ ++ x.bs = x.as_ ++ x.bs ∧ True) ∧ True ∧ True ∧ ((!checkN (x.as_ ++ x.bs) == (0 : Int)) =
  true → True ∧ True ∧ True ∧ true = true ∧ True ∧ True) ∧ ((!checkN (x.as_ ++ x.bs) == (0 : Int)) = false → (↑x.as_.length : Int) ≤ (9223372036854775807
  : Int) → wr IntKind.u64 (↑x.as_.length : Int) ≠ (0 : Int) ∧ ((↑x.bs.length : Int) ≤ (9223372036854775807 : Int) → wr IntKind.u64 (↑x.bs.length : Int) ≠
  (0 : Int) ∧ ((x.as_ = x.as_ ∧ True) ∧ wr IntKind.i64 ((wr IntKind.u64 x.n).tmod (wr IntKind.u64 (↑x.as_.length : Int))) = wr IntKind.i64 ((wr
  IntKind.u64 x.n).tmod (wr IntKind.u64 (↑x.as_.length : Int))) ∧ x.s.signed = x.s.signed ∧ x.s.secret = x.s.secret ∧ x.s.height = x.s.height ∧ x.s.age =
  x.s.age ∧ True) ∧ True ∧ Bytes x.s.secret ∧ ((x.as_ ++ x.bs = x.as_ ++ x.bs ∧ True) ∧ wr IntKind.i64 ((wr IntKind.u64 x.n).tmod (wr IntKind.u64
  (↑x.as_.length : Int))) = wr IntKind.i64 ((wr IntKind.u64 x.n).tmod (wr IntKind.u64 (↑x.as_.length : Int))) ∧ x.s.signed = x.s.signed ∧ x.s.secret =
  x.s.secret ∧ x.s.height = x.s.height ∧ x.s.age = x.s.age ∧ True) ∧ True ∧ Bytes x.s.secret ∧ ((opensB x.as_ (wr IntKind.i64 ((wr IntKind.u64 x.n).tmod
  (wr IntKind.u64 (↑x.as_.length : Int)))) (Sn.mk x.s.signed x.s.secret x.s.height x.s.age) == opensB (x.as_ ++ x.bs) (wr IntKind.i64 ((wr IntKind.u64
  x.n).tmod (wr IntKind.u64 (↑x.as_.length : Int)))) (Sn.mk x.s.signed x.s.secret x.s.height x.s.age)) = true → (↑x.as_.length : Int) ≤
  (9223372036854775807 : Int) → inI64 ((↑x.as_.length : Int) + wr IntKind.i64 ((wr IntKind.u64 x.n).tmod (wr IntKind.u64 (↑x.bs.length : Int)))) ∧ ((x.bs
  = x.bs ∧ True) ∧ wr IntKind.i64 ((wr IntKind.u64 x.n).tmod (wr IntKind.u64 (↑x.bs.length : Int))) = wr IntKind.i64 ((wr IntKind.u64 x.n).tmod (wr
  IntKind.u64 (↑x.bs.length : Int))) ∧ x.s.signed = x.s.signed ∧ x.s.secret = x.s.secret ∧ x.s.height = x.s.height ∧ x.s.age = x.s.age ∧ True) ∧ True ∧
  Bytes x.s.secret ∧ ((x.as_ ++ x.bs = x.as_ ++ x.bs ∧ True) ∧ (↑x.as_.length : Int) + wr IntKind.i64 ((wr IntKind.u64 x.n).tmod (wr IntKind.u64
  (↑x.bs.length : Int))) = (↑x.as_.length : Int) + wr IntKind.i64 ((wr IntKind.u64 x.n).tmod (wr IntKind.u64 (↑x.bs.length : Int))) ∧ x.s.signed =
  x.s.signed ∧ x.s.secret = x.s.secret ∧ x.s.height = x.s.height ∧ x.s.age = x.s.age ∧ True) ∧ True ∧ Bytes x.s.secret ∧ ((opensB x.bs (wr IntKind.i64
  ((wr IntKind.u64 x.n).tmod (wr IntKind.u64 (↑x.bs.length : Int)))) (Sn.mk x.s.signed x.s.secret x.s.height x.s.age) == opensB (x.as_ ++ x.bs)
  ((↑x.as_.length : Int) + wr IntKind.i64 ((wr IntKind.u64 x.n).tmod (wr IntKind.u64 (↑x.bs.length : Int)))) (Sn.mk x.s.signed x.s.secret x.s.height
  x.s.age)) = true → True ∧ True ∧ True ∧ true = true ∧ True ∧ True) ∧ ((opensB x.bs (wr IntKind.i64 ((wr IntKind.u64 x.n).tmod (wr IntKind.u64
  (↑x.bs.length : Int)))) (Sn.mk x.s.signed x.s.secret x.s.height x.s.age) == opensB (x.as_ ++ x.bs) ((↑x.as_.length : Int) + wr IntKind.i64 ((wr
  IntKind.u64 x.n).tmod (wr IntKind.u64 (↑x.bs.length : Int)))) (Sn.mk x.s.signed x.s.secret x.s.height x.s.age)) = false → true = false ∧ True ∧ True))
  ∧ ((opensB x.as_ (wr IntKind.i64 ((wr IntKind.u64 x.n).tmod (wr IntKind.u64 (↑x.as_.length : Int)))) (Sn.mk x.s.signed x.s.secret x.s.height x.s.age)
  == opensB (x.as_ ++ x.bs) (wr IntKind.i64 ((wr IntKind.u64 x.n).tmod (wr IntKind.u64 (↑x.as_.length : Int)))) (Sn.mk x.s.signed x.s.secret x.s.height
  x.s.age)) = false → true = false ∧ True ∧ True)))))) ∧ (weight x.as_).le (300 : Nat) ∧ (weight x.bs).le (300 : Nat) ∧ ((x.as_ = x.as_ ∧ True) ∧ x.bs =
  x.bs ∧ True) ∧ True ∧ (OrX.mk x.as_ x.bs).Ok ∧ (x.as_ = x.as_ ∧ True) ∧ True ∧ True ∧ ((!checkN x.as_ == (0 : Int)) = true → True ∧ True ∧ True ∧ true
  = true ∧ True ∧ True) ∧ ((!checkN x.as_ == (0 : Int)) = false → (x.bs = x.bs ∧ True) ∧ True ∧ True ∧ ((!checkN x.bs == (0 : Int)) = true → True ∧ True
  ∧ True ∧ true = true ∧ True ∧ True) ∧ ((!checkN x.bs == (0 : Int)) = false → (x.as_ ++ x.bs = x.as_ ++ x.bs ∧ True) ∧ True ∧ True ∧ ((!checkN (x.as_ ++
  x.bs) == (0 : Int)) = true → True ∧ True ∧ True ∧ true = true ∧ True ∧ True) ∧ ((!checkN (x.as_ ++ x.bs) == (0 : Int)) = false → (↑x.as_.length : Int)
  ≤ (9223372036854775807 : Int) → wr IntKind.u64 (↑x.as_.length : Int) ≠ (0 : Int) ∧ ((↑x.bs.length : Int) ≤ (9223372036854775807 : Int) → wr IntKind.u64
  (↑x.bs.length : Int) ≠ (0 : Int) ∧ ((x.as_ = x.as_ ∧ True) ∧ wr IntKind.i64 ((wr IntKind.u64 x.n).tmod (wr IntKind.u64 (↑x.as_.length : Int))) = wr
  IntKind.i64 ((wr IntKind.u64 x.n).tmod (wr IntKind.u64 (↑x.as_.length : Int))) ∧ x.s.signed = x.s.signed ∧ x.s.secret = x.s.secret ∧ x.s.height =
  x.s.height ∧ x.s.age = x.s.age ∧ True) ∧ True ∧ Bytes x.s.secret ∧ ((x.as_ ++ x.bs = x.as_ ++ x.bs ∧ True) ∧ wr IntKind.i64 ((wr IntKind.u64 x.n).tmod
  (wr IntKind.u64 (↑x.as_.length : Int))) = wr IntKind.i64 ((wr IntKind.u64 x.n).tmod (wr IntKind.u64 (↑x.as_.length : Int))) ∧ x.s.signed = x.s.signed ∧
  x.s.secret = x.s.secret ∧ x.s.height = x.s.height ∧ x.s.age = x.s.age ∧ True) ∧ True ∧ Bytes x.s.secret ∧ ((opensB x.as_ (wr IntKind.i64 ((wr
  IntKind.u64 x.n).tmod (wr IntKind.u64 (↑x.as_.length : Int)))) (Sn.mk x.s.signed x.s.secret x.s.height x.s.age) == opensB (x.as_ ++ x.bs) (wr
  IntKind.i64 ((wr IntKind.u64 x.n).tmod (wr IntKind.u64 (↑x.as_.length : Int)))) (Sn.mk x.s.signed x.s.secret x.s.height x.s.age)) = true →
  (↑x.as_.length : Int) ≤ (9223372036854775807 : Int) → inI64 ((↑x.as_.length : Int) + wr IntKind.i64 ((wr IntKind.u64 x.n).tmod (wr IntKind.u64
  (↑x.bs.length : Int)))) ∧ ((x.bs = x.bs ∧ True) ∧ wr IntKind.i64 ((wr IntKind.u64 x.n).tmod (wr IntKind.u64 (↑x.bs.length : Int))) = wr IntKind.i64
  ((wr IntKind.u64 x.n).tmod (wr IntKind.u64 (↑x.bs.length : Int))) ∧ x.s.signed = x.s.signed ∧ x.s.secret = x.s.secret ∧ x.s.height = x.s.height ∧
  x.s.age = x.s.age ∧ True) ∧ True ∧ Bytes x.s.secret ∧ ((x.as_ ++ x.bs = x.as_ ++ x.bs ∧ True) ∧ (↑x.as_.length : Int) + wr IntKind.i64 ((wr IntKind.u64
  x.n).tmod (wr IntKind.u64 (↑x.bs.length : Int))) = (↑x.as_.length : Int) + wr IntKind.i64 ((wr IntKind.u64 x.n).tmod (wr IntKind.u64 (↑x.bs.length :
  Int))) ∧ x.s.signed = x.s.signed ∧ x.s.secret = x.s.secret ∧ x.s.height = x.s.height ∧ x.s.age = x.s.age ∧ True) ∧ True ∧ Bytes x.s.secret ∧ ((opensB
  x.bs (wr IntKind.i64 ((wr IntKind.u64 x.n).tmod (wr IntKind.u64 (↑x.bs.length : Int)))) (Sn.mk x.s.signed x.s.secret x.s.height x.s.age) == opensB
  (x.as_ ++ x.bs) ((↑x.as_.length : Int) + wr IntKind.i64 ((wr IntKind.u64 x.n).tmod (wr IntKind.u64 (↑x.bs.length : Int)))) (Sn.mk x.s.signed x.s.secret
  x.s.height x.s.age)) = true → True ∧ True ∧ True ∧ true = true ∧ True ∧ True) ∧ ((opensB x.bs (wr IntKind.i64 ((wr IntKind.u64 x.n).tmod (wr
  IntKind.u64 (↑x.bs.length : Int)))) (Sn.mk x.s.signed x.s.secret x.s.height x.s.age) == opensB (x.as_ ++ x.bs) ((↑x.as_.length : Int) + wr IntKind.i64
  ((wr IntKind.u64 x.n).tmod (wr IntKind.u64 (↑x.bs.length : Int)))) (Sn.mk x.s.signed x.s.secret x.s.height x.s.age)) = false → true = false ∧ True ∧
  True)) ∧ ((opensB x.as_ (wr IntKind.i64 ((wr IntKind.u64 x.n).tmod (wr IntKind.u64 (↑x.as_.length : Int)))) (Sn.mk x.s.signed x.s.secret x.s.height
  x.s.age) == opensB (x.as_ ++ x.bs) (wr IntKind.i64 ((wr IntKind.u64 x.n).tmod (wr IntKind.u64 (↑x.as_.length : Int)))) (Sn.mk x.s.signed x.s.secret
  x.s.height x.s.age)) = false → true = false ∧ True ∧ True)))))) ∧ ((weight x.as_).le (300 : Nat) ∧ ((weight x.bs).le (300 : Nat) ∧ ((x.as_ = x.as_ ∧
  True) ∧ x.bs = x.bs ∧ True) ∧ True ∧ (OrX.mk x.as_ x.bs).Ok ∧ (x.as_ = x.as_ ∧ True) ∧ True ∧ True ∧ ((!checkN x.as_ == (0 : Int)) = true → True ∧ True
  ∧ True ∧ true = true ∧ True ∧ True) ∧ ((!checkN x.as_ == (0 : Int)) = false → (x.bs = x.bs ∧ True) ∧ True ∧ True ∧ ((!checkN x.bs == (0 : Int)) = true
  → True ∧ True ∧ True ∧ true = true ∧ True ∧ True) ∧ ((!checkN x.bs == (0 : Int)) = false → (x.as_ ++ x.bs = x.as_ ++ x.bs ∧ True) ∧ True ∧ True ∧
  ((!checkN (x.as_ ++ x.bs) == (0 : Int)) = true → True ∧ True ∧ True ∧ true = true ∧ True ∧ True) ∧ ((!checkN (x.as_ ++ x.bs) == (0 : Int)) = false →
  (↑x.as_.length : Int) ≤ (9223372036854775807 : Int) → wr IntKind.u64 (↑x.as_.length : Int) ≠ (0 : Int) ∧ ((↑x.bs.length : Int) ≤ (9223372036854775807 :
  Int) → wr IntKind.u64 (↑x.bs.length : Int) ≠ (0 : Int) ∧ ((x.as_ = x.as_ ∧ True) ∧ wr IntKind.i64 ((wr IntKind.u64 x.n).tmod (wr IntKind.u64
  (↑x.as_.length : Int))) = wr IntKind.i64 ((wr IntKind.u64 x.n).tmod (wr IntKind.u64 (↑x.as_.length : Int))) ∧ x.s.signed = x.s.signed ∧ x.s.secret =
  x.s.secret ∧ x.s.height = x.s.height ∧ x.s.age = x.s.age ∧ True) ∧ True ∧ Bytes x.s.secret ∧ ((x.as_ ++ x.bs = x.as_ ++ x.bs ∧ True) ∧ wr IntKind.i64
  ((wr IntKind.u64 x.n).tmod (wr IntKind.u64 (↑x.as_.length : Int))) = wr IntKind.i64 ((wr IntKind.u64 x.n).tmod (wr IntKind.u64 (↑x.as_.length : Int)))
  ∧ x.s.signed = x.s.signed ∧ x.s.secret = x.s.secret ∧ x.s.height = x.s.height ∧ x.s.age = x.s.age ∧ True) ∧ True ∧ Bytes x.s.secret ∧ ((opensB x.as_
  (wr IntKind.i64 ((wr IntKind.u64 x.n).tmod (wr IntKind.u64 (↑x.as_.length : Int)))) (Sn.mk x.s.signed x.s.secret x.s.height x.s.age) == opensB (x.as_
  ++ x.bs) (wr IntKind.i64 ((wr IntKind.u64 x.n).tmod (wr IntKind.u64 (↑x.as_.length : Int)))) (Sn.mk x.s.signed x.s.secret x.s.height x.s.age)) = true →
  (↑x.as_.length : Int) ≤ (9223372036854775807 : Int) → inI64 ((↑x.as_.length : Int) + wr IntKind.i64 ((wr IntKind.u64 x.n).tmod (wr IntKind.u64
  (↑x.bs.length : Int)))) ∧ ((x.bs = x.bs ∧ True) ∧ wr IntKind.i64 ((wr IntKind.u64 x.n).tmod (wr IntKind.u64 (↑x.bs.length : Int))) = wr IntKind.i64
  ((wr IntKind.u64 x.n).tmod (wr IntKind.u64 (↑x.bs.length : Int))) ∧ x.s.signed = x.s.signed ∧ x.s.secret = x.s.secret ∧ x.s.height = x.s.height ∧
  x.s.age = x.s.age ∧ True) ∧ True ∧ Bytes x.s.secret ∧ ((x.as_ ++ x.bs = x.as_ ++ x.bs ∧ True) ∧ (↑x.as_.length : Int) + wr IntKind.i64 ((wr IntKind.u64
  x.n).tmod (wr IntKind.u64 (↑x.bs.length : Int))) = (↑x.as_.length : Int) + wr IntKind.i64 ((wr IntKind.u64 x.n).tmod (wr IntKind.u64 (↑x.bs.length :
  Int))) ∧ x.s.signed = x.s.signed ∧ x.s.secret = x.s.secret ∧ x.s.height = x.s.height ∧ x.s.age = x.s.age ∧ True) ∧ True ∧ Bytes x.s.secret ∧ ((opensB
  x.bs (wr IntKind.i64 ((wr IntKind.u64 x.n).tmod (wr IntKind.u64 (↑x.bs.length : Int)))) (Sn.mk x.s.signed x.s.secret x.s.height x.s.age) == opensB
  (x.as_ ++ x.bs) ((↑x.as_.length : Int) + wr IntKind.i64 ((wr IntKind.u64 x.n).tmod (wr IntKind.u64 (↑x.bs.length : Int)))) (Sn.mk x.s.signed x.s.secret
  x.s.height x.s.age)) = true → True ∧ True ∧ True ∧ true = true ∧ True ∧ True) ∧ ((opensB x.bs (wr IntKind.i64 ((wr IntKind.u64 x.n).tmod (wr
  IntKind.u64 (↑x.bs.length : Int)))) (Sn.mk x.s.signed x.s.secret x.s.height x.s.age) == opensB (x.as_ ++ x.bs) ((↑x.as_.length : Int) + wr IntKind.i64
  ((wr IntKind.u64 x.n).tmod (wr IntKind.u64 (↑x.bs.length : Int)))) (Sn.mk x.s.signed x.s.secret x.s.height x.s.age)) = false → true = false ∧ True ∧
  True)) ∧ ((opensB x.as_ (wr IntKind.i64 ((wr IntKind.u64 x.n).tmod (wr IntKind.u64 (↑x.as_.length : Int)))) (Sn.mk x.s.signed x.s.secret x.s.height
  x.s.age) == opensB (x.as_ ++ x.bs) (wr IntKind.i64 ((wr IntKind.u64 x.n).tmod (wr IntKind.u64 (↑x.as_.length : Int)))) (Sn.mk x.s.signed x.s.secret
  x.s.height x.s.age)) = false → true = false ∧ True ∧ True)))))) ∧ (weight x.bs).le (300 : Nat) ∧ ((x.as_ = x.as_ ∧ True) ∧ x.bs = x.bs ∧ True) ∧ True ∧
  (OrX.mk x.as_ x.bs).Ok ∧ (x.as_ = x.as_ ∧ True) ∧ True ∧ True ∧ ((!checkN x.as_ == (0 : Int)) = true → True ∧ True ∧ True ∧ true = true ∧ True ∧ True)
  ∧ ((!checkN x.as_ == (0 : Int)) = false → (x.bs = x.bs ∧ True) ∧ True ∧ True ∧ ((!checkN x.bs == (0 : Int)) = true → True ∧ True ∧ True ∧ true = true ∧
  True ∧ True) ∧ ((!checkN x.bs == (0 : Int)) = false → (x.as_ ++ x.bs = x.as_ ++ x.bs ∧ True) ∧ True ∧ True ∧ ((!checkN (x.as_ ++ x.bs) == (0 : Int)) =
  true → True ∧ True ∧ True ∧ true = true ∧ True ∧ True) ∧ ((!checkN (x.as_ ++ x.bs) == (0 : Int)) = false → (↑x.as_.length : Int) ≤ (9223372036854775807
  : Int) → wr IntKind.u64 (↑x.as_.length : Int) ≠ (0 : Int) ∧ ((↑x.bs.length : Int) ≤ (9223372036854775807 : Int) → wr IntKind.u64 (↑x.bs.length : Int) ≠
  (0 : Int) ∧ ((x.as_ = x.as_ ∧ True) ∧ wr IntKind.i64 ((wr IntKind.u64 x.n).tmod (wr IntKind.u64 (↑x.as_.length : Int))) = wr IntKind.i64 ((wr
  IntKind.u64 x.n).tmod (wr IntKind.u64 (↑x.as_.length : Int))) ∧ x.s.signed = x.s.signed ∧ x.s.secret = x.s.secret ∧ x.s.height = x.s.height ∧ x.s.age =
  x.s.age ∧ True) ∧ True ∧ Bytes x.s.secret ∧ ((x.as_ ++ x.bs = x.as_ ++ x.bs ∧ True) ∧ wr IntKind.i64 ((wr IntKind.u64 x.n).tmod (wr IntKind.u64
  (↑x.as_.length : Int))) = wr IntKind.i64 ((wr IntKind.u64 x.n).tmod (wr IntKind.u64 (↑x.as_.length : Int))) ∧ x.s.signed = x.s.signed ∧ x.s.secret =
  x.s.secret ∧ x.s.height = x.s.height ∧ x.s.age = x.s.age ∧ True) ∧ True ∧ Bytes x.s.secret ∧ ((opensB x.as_ (wr IntKind.i64 ((wr IntKind.u64 x.n).tmod
  (wr IntKind.u64 (↑x.as_.length : Int)))) (Sn.mk x.s.signed x.s.secret x.s.height x.s.age) == opensB (x.as_ ++ x.bs) (wr IntKind.i64 ((wr IntKind.u64
  x.n).tmod (wr IntKind.u64 (↑x.as_.length : Int)))) (Sn.mk x.s.signed x.s.secret x.s.height x.s.age)) = true → (↑x.as_.length : Int) ≤
  (9223372036854775807 : Int) → inI64 ((↑x.as_.length : Int) + wr IntKind.i64 ((wr IntKind.u64 x.n).tmod (wr IntKind.u64 (↑x.bs.length : Int)))) ∧ ((x.bs
  = x.bs ∧ True) ∧ wr IntKind.i64 ((wr IntKind.u64 x.n).tmod (wr IntKind.u64 (↑x.bs.length : Int))) = wr IntKind.i64 ((wr IntKind.u64 x.n).tmod (wr
  IntKind.u64 (↑x.bs.length : Int))) ∧ x.s.signed = x.s.signed ∧ x.s.secret = x.s.secret ∧ x.s.height = x.s.height ∧ x.s.age = x.s.age ∧ True) ∧ True ∧
  Bytes x.s.secret ∧ ((x.as_ ++ x.bs = x.as_ ++ x.bs ∧ True) ∧ (↑x.as_.length : Int) + wr IntKind.i64 ((wr IntKind.u64 x.n).tmod (wr IntKind.u64
  (↑x.bs.length : Int))) = (↑x.as_.length : Int) + wr IntKind.i64 ((wr IntKind.u64 x.n).tmod (wr IntKind.u64 (↑x.bs.length : Int))) ∧ x.s.signed =
  x.s.signed ∧ x.s.secret = x.s.secret ∧ x.s.height = x.s.height ∧ x.s.age = x.s.age ∧ True) ∧ True ∧ Bytes x.s.secret ∧ ((opensB x.bs (wr IntKind.i64
  ((wr IntKind.u64 x.n).tmod (wr IntKind.u64 (↑x.bs.length : Int)))) (Sn.mk x.s.signed x.s.secret x.s.height x.s.age) == opensB (x.as_ ++ x.bs)
  ((↑x.as_.length : Int) + wr IntKind.i64 ((wr IntKind.u64 x.n).tmod (wr IntKind.u64 (↑x.bs.length : Int)))) (Sn.mk x.s.signed x.s.secret x.s.height
  x.s.age)) = true → True ∧ True ∧ True ∧ true = true ∧ True ∧ True) ∧ ((opensB x.bs (wr IntKind.i64 ((wr IntKind.u64 x.n).tmod (wr IntKind.u64
  (↑x.bs.length : Int)))) (Sn.mk x.s.signed x.s.secret x.s.height x.s.age) == opensB (x.as_ ++ x.bs) ((↑x.as_.length : Int) + wr IntKind.i64 ((wr
  IntKind.u64 x.n).tmod (wr IntKind.u64 (↑x.bs.length : Int)))) (Sn.mk x.s.signed x.s.secret x.s.height x.s.age)) = false → true = false ∧ True ∧ True))
  ∧ ((opensB x.as_ (wr IntKind.i64 ((wr IntKind.u64 x.n).tmod (wr IntKind.u64 (↑x.as_.length : Int)))) (Sn.mk x.s.signed x.s.secret x.s.height x.s.age)
  == opensB (x.as_ ++ x.bs) (wr IntKind.i64 ((wr IntKind.u64 x.n).tmod (wr IntKind.u64 (↑x.as_.length : Int)))) (Sn.mk x.s.signed x.s.secret x.s.height
  x.s.age)) = false → true = false ∧ True ∧ True)))))) ∧ (weight x.as_).le (300 : Nat) ∧ (weight x.bs).le (300 : Nat) ∧ ((x.as_ = x.as_ ∧ True) ∧ x.bs =
  x.bs ∧ True) ∧ True ∧ (OrX.mk x.as_ x.bs).Ok ∧ (x.as_ = x.as_ ∧ True) ∧ True ∧ True ∧ ((!checkN x.as_ == (0 : Int)) = true → True ∧ True ∧ True ∧ true
  = true ∧ True ∧ True) ∧ ((!checkN x.as_ == (0 : Int)) = false → (x.bs = x.bs ∧ True) ∧ True ∧ True ∧ ((!checkN x.bs == (0 : Int)) = true → True ∧ True
  ∧ True ∧ true = true ∧ True ∧ True) ∧ ((!checkN x.bs == (0 : Int)) = false → (x.as_ ++ x.bs = x.as_ ++ x.bs ∧ True) ∧ True ∧ True ∧ ((!checkN (x.as_ ++
  x.bs) == (0 : Int)) = true → True ∧ True ∧ True ∧ true = true ∧ True ∧ True) ∧ ((!checkN (x.as_ ++ x.bs) == (0 : Int)) = false → (↑x.as_.length : Int)
  ≤ (9223372036854775807 : Int) → wr IntKind.u64 (↑x.as_.length : Int) ≠ (0 : Int) ∧ ((↑x.bs.length : Int) ≤ (9223372036854775807 : Int) → wr IntKind.u64
  (↑x.bs.length : Int) ≠ (0 : Int) ∧ ((x.as_ = x.as_ ∧ True) ∧ wr IntKind.i64 ((wr IntKind.u64 x.n).tmod (wr IntKind.u64 (↑x.as_.length : Int))) = wr
  IntKind.i64 ((wr IntKind.u64 x.n).tmod (wr IntKind.u64 (↑x.as_.length : Int))) ∧ x.s.signed = x.s.signed ∧ x.s.secret = x.s.secret ∧ x.s.height =
  x.s.height ∧ x.s.age = x.s.age ∧ True) ∧ True ∧ Bytes x.s.secret ∧ ((x.as_ ++ x.bs = x.as_ ++ x.bs ∧ True) ∧ wr IntKind.i64 ((wr IntKind.u64 x.n).tmod
  (wr IntKind.u64 (↑x.as_.length : Int))) = wr IntKind.i64 ((wr IntKind.u64 x.n).tmod (wr IntKind.u64 (↑x.as_.length : Int))) ∧ x.s.signed = x.s.signed ∧
  x.s.secret = x.s.secret ∧ x.s.height = x.s.height ∧ x.s.age = x.s.age ∧ True) ∧ True ∧ Bytes x.s.secret ∧ ((opensB x.as_ (wr IntKind.i64 ((wr
  IntKind.u64 x.n).tmod (wr IntKind.u64 (↑x.as_.length : Int)))) (Sn.mk x.s.signed x.s.secret x.s.height x.s.age) == opensB (x.as_ ++ x.bs) (wr
  IntKind.i64 ((wr IntKind.u64 x.n).tmod (wr IntKind.u64 (↑x.as_.length : Int)))) (Sn.mk x.s.signed x.s.secret x.s.height x.s.age)) = true →
  (↑x.as_.length : Int) ≤ (9223372036854775807 : Int) → inI64 ((↑x.as_.length : Int) + wr IntKind.i64 ((wr IntKind.u64 x.n).tmod (wr IntKind.u64
  (↑x.bs.length : Int)))) ∧ ((x.bs = x.bs ∧ True) ∧ wr IntKind.i64 ((wr IntKind.u64 x.n).tmod (wr IntKind.u64 (↑x.bs.length : Int))) = wr IntKind.i64
  ((wr IntKind.u64 x.n).tmod (wr IntKind.u64 (↑x.bs.length : Int))) ∧ x.s.signed = x.s.signed ∧ x.s.secret = x.s.secret ∧ x.s.height = x.s.height ∧
  x.s.age = x.s.age ∧ True) ∧ True ∧ Bytes x.s.secret ∧ ((x.as_ ++ x.bs = x.as_ ++ x.bs ∧ True) ∧ (↑x.as_.length : Int) + wr IntKind.i64 ((wr IntKind.u64
  x.n).tmod (wr IntKind.u64 (↑x.bs.length : Int))) = (↑x.as_.length : Int) + wr IntKind.i64 ((wr IntKind.u64 x.n).tmod (wr IntKind.u64 (↑x.bs.length :
  Int))) ∧ x.s.signed = x.s.signed ∧ x.s.secret = x.s.secret ∧ x.s.height = x.s.height ∧ x.s.age = x.s.age ∧ True) ∧ True ∧ Bytes x.s.secret ∧ ((opensB
  x.bs (wr IntKind.i64 ((wr IntKind.u64 x.n).tmod (wr IntKind.u64 (↑x.bs.length : Int)))) (Sn.mk x.s.signed x.s.secret x.s.height x.s.age) == opensB
  (x.as_ ++ x.bs) ((↑x.as_.length : Int) + wr IntKind.i64 ((wr IntKind.u64 x.n).tmod (wr IntKind.u64 (↑x.bs.length : Int)))) (Sn.mk x.s.signed x.s.secret
  x.s.height x.s.age)) = true → True ∧ True ∧ True ∧ true = true ∧ True ∧ True) ∧ ((opensB x.bs (wr IntKind.i64 ((wr IntKind.u64 x.n).tmod (wr
  IntKind.u64 (↑x.bs.length : Int)))) (Sn.mk x.s.signed x.s.secret x.s.height x.s.age) == opensB (x.as_ ++ x.bs) ((↑x.as_.length : Int) + wr IntKind.i64
  ((wr IntKind.u64 x.n).tmod (wr IntKind.u64 (↑x.bs.length : Int)))) (Sn.mk x.s.signed x.s.secret x.s.height x.s.age)) = false → true = false ∧ True ∧
  True)) ∧ ((opensB x.as_ (wr IntKind.i64 ((wr IntKind.u64 x.n).tmod (wr IntKind.u64 (↑x.as_.length : Int)))) (Sn.mk x.s.signed x.s.secret x.s.height
  x.s.age) == opensB (x.as_ ++ x.bs) (wr IntKind.i64 ((wr IntKind.u64 x.n).tmod (wr IntKind.u64 (↑x.as_.length : Int)))) (Sn.mk x.s.signed x.s.secret
  x.s.height x.s.age)) = false → true = false ∧ True ∧ True))))))))

theorem either_eq : eitherVC = fnS E52 f6 (bodyOf f6) eitherLS noAnn := by kernel_rfl
theorem either_vc : eitherVC := by
  rintro ⟨as_, bs, n, s⟩ ⟨ha, hb, hs, hn⟩
  simp only at ha hb hs hn
  have ha' : Nat.le (weight as_) 1099511627776 := ha
  have hb' : Nat.le (weight bs) 1099511627776 := hb
  by_cases w1 : weight as_ ≤ 300
  case neg =>
    have w1' : decide (300 < weight as_) = true := decide_eq_true (by omega)
    simp only [ha', w1', and_true, true_and, Bool.true_eq_false, false_implies, implies_true]
  by_cases w2 : weight bs ≤ 300
  case neg =>
    have w1' : decide (300 < weight as_) = false := decide_eq_false (by omega)
    have w2' : decide (300 < weight bs) = true := decide_eq_true (by omega)
    simp only [ha', hb', w1', w2', and_true, true_and, Bool.true_eq_false, Bool.false_eq_true, false_implies, implies_true]
  have w1' : decide (300 < weight as_) = false := decide_eq_false (by omega)
  have w2' : decide (300 < weight bs) = false := decide_eq_false (by omega)
  have w1n : Nat.le (weight as_) 300 := w1
  have w2n : Nat.le (weight bs) 300 := w2
  have hor : (OrX.mk as_ bs).Ok := ⟨w1, w2⟩
  by_cases c1 : checkN as_ = 0
  case neg =>
    have c1' : (checkN as_ == 0) = false := by simpa using c1
    simp only [ha', hb', w1', w2', w1n, w2n, hor, c1', Bool.not_false, and_true, true_and, Bool.true_eq_false, Bool.false_eq_true, false_implies, implies_true]
  by_cases c2 : checkN bs = 0
  case neg =>
    have c2' : (checkN bs == 0) = false := by simpa using c2
    simp only [ha', hb', w1', w2', w1n, w2n, hor, c1, c2', beq_self_eq_true, Bool.not_true, Bool.not_false, and_true, true_and, Bool.true_eq_false, Bool.false_eq_true, false_implies, implies_true]
  by_cases c3 : checkN (as_ ++ bs) = 0
  case neg =>
    have c3' : (checkN (as_ ++ bs) == 0) = false := by simpa using c3
    simp only [ha', hb', w1', w2', w1n, w2n, hor, c1, c2, c3', beq_self_eq_true, Bool.not_true, Bool.not_false, and_true, true_and, Bool.true_eq_false, Bool.false_eq_true, false_implies, implies_true]
  have f1 := fine_of_checkN c1
  have f2 := fine_of_checkN c2
  have f3 := fine_of_checkN c3
  have l1 := lenW as_
  have l2 := lenW bs
  obtain ⟨z1, i, hi, ei⟩ := idx_of (n := n) (fine_len f1) (by omega)
  obtain ⟨z2, k, hk, ek⟩ := idx_of (n := n) (fine_len f2) (by omega)
  have o1 := opens_left (s := Sn.mk s.signed s.secret s.height s.age) f1 f3 hi
  have o2 := opens_right (s := Sn.mk s.signed s.secret s.height s.age) f2 f3 hk
  have i1 : inI64 ((as_.length : Int) + (k : Int)) := by unfold inI64; omega
  simp only [ha', hb', w1', w2', w1n, w2n, hor, c1, c2, c3, ei, ek, o1, o2, i1, z1, z2, hs, ne_eq, not_false_eq_true, beq_self_eq_true, Bool.not_true, Bool.not_false, and_true, true_and, and_self, Bool.true_eq_false, Bool.false_eq_true, false_implies, implies_true]
theorem either_ok : Fits E52 f6 (bodyOf f6) eitherLS noAnn := by
  constructor
  rw [← either_eq]
  exact either_vc
theorem f6_has : Has prog 6 f6 (bodyOf f6) := ⟨by kernel_rfl, by kernel_rfl, by kernel_rfl⟩
end Go.Proofs.YtcglahfmnoghjaaDoor

/-! CondEither's call; what the reading of a Shown comes to. Conditions: none. -/
namespace Go.Proofs.YtcglahfmnoghjaaDoor
open Go Go.Eng Go.Proofs.Tryd Go.ChangeShapes Go.WideShapes Go.RowKit

section
variable {H : Type} {enc : TypeId × Value → H} {w : World} {sp : Nat → Bool} {held : Bool}
theorem rd_shown_of {tS tI tC : TypeId} {fs : Array Field} (hS : prog.underlying tS = some (.struct fs)) (hfs : fs.toList.map (fun f => (f.type, f.offset)) = [(tI, 0), (tC, 1)]) (hI : prog.underlying tI = some (.int .i64))
    (hC : tC = 28) (cS : prog.cellsOf tS = 5) (cI : prog.cellsOf tI = 1) :
    RdT enc prog w sp held CC tS fun sl d => ∃ (n : Int) (s : Sn), sl = .cell (.int .i64 n) (snSL s) ∧ SnIs s (Rows.uptoBulk d) := by
  subst hC
  match hl : fs.toList, hfs with
  | [f1, f2], hfs =>
    simp only [List.map_cons, List.map_nil, List.cons.injEq, Prod.mk.injEq, and_true] at hfs
    obtain ⟨⟨t1, o1⟩, t2, o2⟩ := hfs
    refine RdT.mono (rd_struct hS (by
      rw [hl]
      exact rd_fs_cons o1 (by rw [t1]; exact rd_int hI) (rd_fs_cons (by rw [t1, cI, o2]) (by rw [t2]; exact rd_seen) (rd_fs_nil (by rw [t1, t2, cI, cells28, cS]; omega))))) ?_
    rintro sl d ⟨ds, rfl, s1, s2, d1, ds1, rfl, rfl, ⟨n, rfl, h1⟩, s3, s4, d2, ds2, rfl, rfl, ⟨s, rfl, h2⟩, rfl, rfl⟩
    refine ⟨n, s, ?_, ⟨h2.bytes, ?_, h2.height, h2.age⟩⟩
    · simp [SL.app, snSL]
    · have := h2.len
      simp only [Rows.uptoBulk, Rows.uptoBulkAll] at *
      omega
  | [], hfs => simp at hfs
  | [_], hfs => simp at hfs
  | _ :: _ :: _ :: _, hfs => simp at hfs
theorem cells50 : prog.cellsOf 50 = 5 := by kernel_rfl
theorem rd_shown : RdT enc prog w sp held CC 50 fun sl d => ∃ (n : Int) (s : Sn), sl = .cell (.int .i64 n) (snSL s) ∧ SnIs s (Rows.uptoBulk d) :=
  rd_shown_of underlying50 rfl underlying3 rfl cells50 cells3
end
theorem either_calls {W : World} {vs : List Value} {x : EitherX} (hx : x.Ok) (ha : ArgsR NoO [] W CC [.agg (.cell (.rseq 48 x.as_) .nil), .agg (.cell (.rseq 48 x.bs) .nil), .agg (.cell (.int .i64 x.n) (snSL x.s))] vs) (hg : Glob GG NoO [] W CC) :
    Calls prog 6 vs.toArray W fun e W' => e = .returned (.bool true) ∧ Below W.heap.size W W' := by
  have hS : Sound E52 := by rw [E52_eq]; exact sound mixed known52
  exact law_calls (ee_P E52_eq) hS f6_has either_ok x hx rfl rfl (fun _ _ => Nat.le_refl _) (by rw [ee_C E52_eq]; exact ha) (by rw [ee_GL E52_eq, ee_C E52_eq]; exact hg)
end Go.Proofs.YtcglahfmnoghjaaDoor
