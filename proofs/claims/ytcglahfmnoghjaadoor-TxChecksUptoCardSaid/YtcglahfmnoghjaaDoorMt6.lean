/- Part 6 of the texts behind the last one: what they say stands ahead of each. Conditions: none. -/
import Derived.Test.YtcglahfmnoghjaaDoorMt5
/-! A transaction given; the document's check; TxChecks: the walks hold. Conditions: none. -/
namespace Go.Proofs.YtcglahfmnoghjaaDoor
open Go Go.Eng Go.Proofs.Tryd

def giveTxVC : Prop := ∀ (x : TxD), Small x → (∃ x_1, Nat.le x_1 x.ins.length ∧ (↑x_1 : Int) = (0 : Int) ∧ ((x.lock = x.lock ∧ x.ins = x.ins ∧ x.outs = x.outs ∧ True) ∧ ((0 :
  Int) = (0 : Int) ∧ (SV.val (A := AA) (Value.slice none (0 : Nat) (0 : Nat)) : SV AA) = SV.val (A := AA) (Value.slice none (0 : Nat) (0 : Nat)) ∧
  (SV.val (A := AA) (Value.slice none (0 : Nat) (0 : Nat)) : SV AA) = SV.val (A := AA) (Value.slice none (0 : Nat) (0 : Nat)) ∧ True) ∧ (x.lock = x.lock
  ∧ (SV.val (A := AA) (Value.slice none (0 : Nat) (0 : Nat)) : SV AA) = SV.val (A := AA) (Value.slice none (0 : Nat) (0 : Nat)) ∧ (SV.val (A := AA)
  (Value.slice none (0 : Nat) (0 : Nat)) : SV AA) = SV.val (A := AA) (Value.slice none (0 : Nat) (0 : Nat)) ∧ True) ∧ True) ∧ List.take x_1 x.ins = [] ∧
  True) ∧ ∀ (x_1 : Nat), x_1.le x.ins.length → (↑x.ins.length : Int) ≤ (9223372036854775807 : Int) → (decide ((↑x_1 : Int) < (↑x.ins.length : Int)) =
  true → (0 : Int) ≤ (↑x_1 : Int) ∧ (↑x_1 : Int) < (↑x.ins.length : Int) ∧ ∀ (y : AA (117 : Nat)), x.ins[(↑x_1 : Int).toNat]? = some y → (0 : Int) ≤
  (↑x_1 : Int) ∧ (↑x_1 : Int) < (↑x.ins.length : Int) ∧ ∀ (y_1 : AA (117 : Nat)), x.ins[(↑x_1 : Int).toNat]? = some y_1 → (0 : Int) ≤ (↑x_1 : Int) ∧
  (↑x_1 : Int) < (↑x.ins.length : Int) ∧ ∀ (y_2 : AA (117 : Nat)), x.ins[(↑x_1 : Int).toNat]? = some y_2 → y_2.secret.length * (1 : Nat) ≤
  (140737488355328 : Nat) ∧ y_2.secret.length ≤ (1152921504606846976 : Nat) ∧ (y.tx = y.tx ∧ y.n = y.n ∧ y_1.branch = y_1.branch ∧ y_2.secret =
  y_2.secret ∧ True) ∧ ((List.take x_1 x.ins).length + [TIn.mk y.tx y.n y_1.branch y_2.secret].length) * (72 : Nat) ≤ (140737488355328 : Nat) ∧
  (List.take x_1 x.ins).length + [TIn.mk y.tx y.n y_1.branch y_2.secret].length ≤ (1152921504606846976 : Nat) ∧ inI64 ((↑x_1 : Int) + (1 : Int)) ∧ ∃ y_3,
  Nat.le y_3 x.ins.length ∧ x.ins.length - y_3 < x.ins.length - x_1 ∧ (↑y_3 : Int) = (↑x_1 : Int) + (1 : Int) ∧ ((x.lock = x.lock ∧ x.ins = x.ins ∧
  x.outs = x.outs ∧ True) ∧ ((0 : Int) = (0 : Int) ∧ (SV.val (A := AA) (Value.slice none (0 : Nat) (0 : Nat)) : SV AA) = SV.val (A := AA) (Value.slice
  none (0 : Nat) (0 : Nat)) ∧ (SV.val (A := AA) (Value.slice none (0 : Nat) (0 : Nat)) : SV AA) = SV.val (A := AA) (Value.slice none (0 : Nat) (0 : Nat))
  ∧ True) ∧ (x.lock = x.lock ∧ True ∧ (SV.val (A := AA) (Value.slice none (0 : Nat) (0 : Nat)) : SV AA) = SV.val (A := AA) (Value.slice none (0 : Nat) (0
  : Nat)) ∧ True) ∧ True) ∧ List.take y_3 x.ins = List.take x_1 x.ins ++ [TIn.mk y.tx y.n y_1.branch y_2.secret] ∧ True) ∧ (decide ((↑x_1 : Int) <
  (↑x.ins.length : Int)) = false → (∃ x_2, Nat.le x_2 x.outs.length ∧ (↑x_2 : Int) = (0 : Int) ∧ ((x.lock = x.lock ∧ x.ins = x.ins ∧ x.outs = x.outs ∧
  True) ∧ ((0 : Int) = (0 : Int) ∧ (SV.val (A := AA) (Value.slice none (0 : Nat) (0 : Nat)) : SV AA) = SV.val (A := AA) (Value.slice none (0 : Nat) (0 :
  Nat)) ∧ (SV.val (A := AA) (Value.slice none (0 : Nat) (0 : Nat)) : SV AA) = SV.val (A := AA) (Value.slice none (0 : Nat) (0 : Nat)) ∧ True) ∧ (x.lock =
  x.lock ∧ True ∧ (SV.val (A := AA) (Value.slice none (0 : Nat) (0 : Nat)) : SV AA) = SV.val (A := AA) (Value.slice none (0 : Nat) (0 : Nat)) ∧ True) ∧
  List.take x_1 x.ins = List.take x_1 x.ins ∧ True) ∧ List.take x_2 x.outs = [] ∧ True) ∧ ∀ (x_2 : Nat), x_2.le x.outs.length → (↑x.outs.length : Int) ≤
  (9223372036854775807 : Int) → (decide ((↑x_2 : Int) < (↑x.outs.length : Int)) = true → (0 : Int) ≤ (↑x_2 : Int) ∧ (↑x_2 : Int) < (↑x.outs.length : Int)
  ∧ ∀ (y : AA (79 : Nat)), x.outs[(↑x_2 : Int).toNat]? = some y → (0 : Int) ≤ (↑x_2 : Int) ∧ (↑x_2 : Int) < (↑x.outs.length : Int) ∧ ∀ (y_1 : AA (79 :
  Nat)), x.outs[(↑x_2 : Int).toNat]? = some y_1 → (y_1.cond = y_1.cond ∧ True) ∧ True ∧ (weight y_1.cond).le (2000000 : Nat) ∧ (y.amount = y.amount ∧
  y_1.cond = y_1.cond ∧ True) ∧ ((List.take x_2 x.outs).length + [TOut.mk y.amount y_1.cond].length) * (32 : Nat) ≤ (140737488355328 : Nat) ∧ (List.take
  x_2 x.outs).length + [TOut.mk y.amount y_1.cond].length ≤ (1152921504606846976 : Nat) ∧ inI64 ((↑x_2 : Int) + (1 : Int)) ∧ ∃ y_2, Nat.le y_2
  x.outs.length ∧ x.outs.length - y_2 < x.outs.length - x_2 ∧ (↑y_2 : Int) = (↑x_2 : Int) + (1 : Int) ∧ ((x.lock = x.lock ∧ x.ins = x.ins ∧ x.outs =
  x.outs ∧ True) ∧ ((0 : Int) = (0 : Int) ∧ SV.val (A := AA) (Value.slice none (0 : Nat) (0 : Nat)) = SV.val (A := AA) (Value.slice none (0 : Nat) (0 :
  Nat)) ∧ SV.val (A := AA) (Value.slice none (0 : Nat) (0 : Nat)) = SV.val (A := AA) (Value.slice none (0 : Nat) (0 : Nat)) ∧ True) ∧ (x.lock = x.lock ∧
  True ∧ True ∧ True) ∧ List.take x_1 x.ins = List.take x_1 x.ins ∧ True) ∧ List.take y_2 x.outs = List.take x_2 x.outs ++ [TOut.mk y.amount y_1.cond] ∧
  True) ∧ (decide ((↑x_2 : Int) < (↑x.outs.length : Int)) = false → (x.lock = x.lock ∧ True ∧ True ∧ True) ∧ True ∧ x.ins = List.take x_1 x.ins ∧ x.outs
  = List.take x_2 x.outs ∧ True))

theorem giveTx_eq : giveTxVC = fnS F97 f32 (bodyOf f32) giveTxLS giveTxAnn := by kernel_rfl
theorem giveTx_vc : giveTxVC := by
  intro t hs
  have hn := hs.n
  have hm := hs.m
  simp only [true_and, and_true, decide_eq_true_eq, decide_eq_false_iff_not, Int.toNat_natCast, and_self]
  refine ⟨⟨0, Nat.zero_le _, rfl, rfl⟩, fun i hi _ => ⟨fun hlt => ⟨by omega, hlt, fun y hy => ⟨by omega, hlt, fun y1 hy1 => ⟨by omega, hlt, fun y2 hy2 => ?_⟩⟩⟩, fun hge => ⟨⟨0, Nat.zero_le _, rfl, rfl⟩, fun j hj _ => ⟨fun hlt => ⟨by omega, hlt, fun y hy => ⟨by omega, hlt, fun y1 hy1 => ?_⟩⟩, fun hge2 => ?_⟩⟩⟩⟩
  · change TIn at y
    change TIn at y1
    change TIn at y2
    have e : y = y1 := by rw [hy] at hy1; exact Option.some.inj hy1
    subst e
    have e : y = y2 := by rw [hy] at hy2; exact Option.some.inj hy2
    subst e
    have hs1 := hs.s y (List.mem_of_getElem? hy)
    have hl : (t.ins.take i).length = i := by rw [List.length_take]; omega
    have hcat : t.ins.take (i + 1) = t.ins.take i ++ [show TIn from y] := by
      have hy' : t.ins[i]? = some y := hy
      rw [List.take_add_one, hy']; rfl
    have hi' : i < t.ins.length := by omega
    have h1 : (t.ins.take i).length + 1 ≤ 2000000 := by omega
    exact ⟨by omega, by omega, Nat.le_trans (Nat.mul_le_mul_right 72 h1) (by decide), Nat.le_trans h1 (by decide), by unfold inI64; omega, i + 1, hi', by omega, by omega, hcat⟩
  · change TOut at y
    change TOut at y1
    have e : y = y1 := by rw [hy] at hy1; exact Option.some.inj hy1
    subst e
    have hc := hs.cond hy
    have hl : (t.outs.take j).length = j := by rw [List.length_take]; omega
    have hcat : t.outs.take (j + 1) = t.outs.take j ++ [show TOut from y] := by
      have hy' : t.outs[j]? = some y := hy
      rw [List.take_add_one, hy']; rfl
    have hj' : j < t.outs.length := by omega
    have h1 : (t.outs.take j).length + 1 ≤ 2000000 := by omega
    exact ⟨hc, Nat.le_trans (Nat.mul_le_mul_right 32 h1) (by decide), Nat.le_trans h1 (by decide), by unfold inI64; omega, j + 1, hj', by omega, by omega, hcat⟩
  · exact ⟨(List.take_of_length_le (by omega)).symm, (List.take_of_length_le (by omega)).symm⟩
theorem giveTx_ok : Fits F97 f32 (bodyOf f32) giveTxLS giveTxAnn := by
  constructor
  rw [← giveTx_eq]
  exact giveTx_vc
theorem f32_has : Has prog 32 f32 (bodyOf f32) := ⟨by kernel_rfl, by kernel_rfl, by kernel_rfl⟩
theorem known98 : Known prog L98 := by
  unfold L98
  exact known97.lent mixed f32_has F97_eq giveTx_ok (fun _ _ => Nat.zero_le _) (fun _ _ => rfl)
/-! ## The document's check -/
def Odd4 (t : TxD) : Prop := t.lock < 0 ∨ t.lock > 1099511627776 ∨ someB t.ins.length = false ∨ someB t.outs.length = false ∨ badIn t.ins 0 ≥ 0
theorem checkT_4 {t : TxD} (h : Odd4 t) : checkT t = 4 := by
  unfold checkT
  exact if_pos h
theorem checkT_9 {t : TxD} (h : ¬ Odd4 t) (h2 : ¬ (t.ins.map ptOf).Nodup) : checkT t = 9 := by
  unfold checkT
  exact (if_neg h).trans (if_pos h2)
theorem checkT_o {t : TxD} (h : ¬ Odd4 t) (h2 : (t.ins.map ptOf).Nodup) : checkT t = if outsE t.outs ≠ 0 then outsE t.outs else (totG t.outs 0).2 := by
  unfold checkT
  refine (if_neg h).trans ((if_neg (fun h3 => h3 h2)).trans ?_)
  split <;> rfl
theorem some_out {n : Int} (h : n < 1 ∨ n > 64) : someB n = false := by
  unfold someB
  simp only [Bool.and_eq_false_imp, decide_eq_true_eq, decide_eq_false_iff_not]
  omega
theorem some_in {n : Int} (h : ¬ n < 1) (h2 : ¬ n > 64) : someB n = true := by
  unfold someB
  simp only [Bool.and_eq_true, decide_eq_true_eq]
  omega
theorem inOk_iff {x : TIn} : inOk x = true ↔ 0 ≤ x.n ∧ x.n < 64 ∧ 0 ≤ x.branch ∧ x.branch < 8 ∧ (x.secret.length : Int) ≤ 64 := by
  unfold inOk
  simp only [Bool.and_eq_true, decide_eq_true_eq]
def rcheckVC : Prop := ∀ (x : TxD), Lens x → (decide (x.lock < (0 : Int)) = true → checkT x = (4 : Int) ∧ True ∧ True) ∧ (decide (x.lock < (0 : Int)) = false → (decide
  (x.lock > (1099511627776 : Int)) = true → checkT x = (4 : Int) ∧ True ∧ True) ∧ (decide (x.lock > (1099511627776 : Int)) = false → (↑x.ins.length :
  Int) ≤ (9223372036854775807 : Int) → (decide ((↑x.ins.length : Int) < (1 : Int)) = true → checkT x = (4 : Int) ∧ True ∧ True) ∧ (decide ((↑x.ins.length
  : Int) < (1 : Int)) = false → (↑x.ins.length : Int) ≤ (9223372036854775807 : Int) → (decide ((↑x.ins.length : Int) > (64 : Int)) = true → checkT x = (4
  : Int) ∧ True ∧ True) ∧ (decide ((↑x.ins.length : Int) > (64 : Int)) = false → (↑x.outs.length : Int) ≤ (9223372036854775807 : Int) → (decide
  ((↑x.outs.length : Int) < (1 : Int)) = true → checkT x = (4 : Int) ∧ True ∧ True) ∧ (decide ((↑x.outs.length : Int) < (1 : Int)) = false →
  (↑x.outs.length : Int) ≤ (9223372036854775807 : Int) → (decide ((↑x.outs.length : Int) > (64 : Int)) = true → checkT x = (4 : Int) ∧ True ∧ True) ∧
  (decide ((↑x.outs.length : Int) > (64 : Int)) = false → (∃ (x_1 : Nat), (x_1 ≤ x.ins.length ∧ badIn x.ins (0 : Nat) = badIn (List.drop x_1 x.ins) x_1) ∧ (↑x_1
  : Int) = (0 : Int) ∧ ((x.lock = x.lock ∧ x.ins = x.ins ∧ x.outs = x.outs ∧ True) ∧ True) ∧ True) ∧ ∀ (x_1 : Nat), x_1 ≤ x.ins.length ∧ badIn x.ins (0 :
  Nat) = badIn (List.drop x_1 x.ins) x_1 → (↑x.ins.length : Int) ≤ (9223372036854775807 : Int) → (decide ((↑x_1 : Int) < (↑x.ins.length : Int)) = true →
  (0 : Int) ≤ (↑x_1 : Int) ∧ (↑x_1 : Int) < (↑x.ins.length : Int) ∧ ∀ (y : AA (117 : Nat)), x.ins[(↑x_1 : Int).toNat]? = some y → (decide (y.n < (0 :
  Int)) = true → checkT x = (4 : Int) ∧ True ∧ True) ∧ (decide (y.n < (0 : Int)) = false → (decide (y.n > (63 : Int)) = true → checkT x = (4 : Int) ∧
  True ∧ True) ∧ (decide (y.n > (63 : Int)) = false → (decide (y.branch < (0 : Int)) = true → checkT x = (4 : Int) ∧ True ∧ True) ∧ (decide (y.branch <
  (0 : Int)) = false → (decide (y.branch > (7 : Int)) = true → checkT x = (4 : Int) ∧ True ∧ True) ∧ (decide (y.branch > (7 : Int)) = false →
  (↑y.secret.length : Int) ≤ (9223372036854775807 : Int) → (decide ((↑y.secret.length : Int) > (64 : Int)) = true → checkT x = (4 : Int) ∧ True ∧ True) ∧
  (decide ((↑y.secret.length : Int) > (64 : Int)) = false → inI64 ((↑x_1 : Int) + (1 : Int)) ∧ ∃ (y : Nat), (y ≤ x.ins.length ∧ badIn x.ins (0 : Nat) = badIn
  (List.drop y x.ins) y) ∧ x.ins.length - y < x.ins.length - x_1 ∧ (↑y : Int) = (↑x_1 : Int) + (1 : Int) ∧ ((x.lock = x.lock ∧ x.ins = x.ins ∧ x.outs =
  x.outs ∧ True) ∧ True) ∧ True)))))) ∧ (decide ((↑x_1 : Int) < (↑x.ins.length : Int)) = false → (∃ (x_2 : Nat), (x_2 ≤ x.ins.length ∧ (List.map ptOf (List.take
  x_2 x.ins)).Nodup) ∧ (↑x_2 : Int) = (0 : Int) ∧ ((x.lock = x.lock ∧ x.ins = x.ins ∧ x.outs = x.outs ∧ True) ∧ True) ∧ True) ∧ ∀ (x_2 : Nat), x_2 ≤
  x.ins.length ∧ (List.map ptOf (List.take x_2 x.ins)).Nodup → (↑x.ins.length : Int) ≤ (9223372036854775807 : Int) → (decide ((↑x_2 : Int) <
  (↑x.ins.length : Int)) = true → (∃ (x_3 : Nat), ((↑x_3 : Int) ≤ (↑x_2 : Int) ∧ ∀ (x_4 : TIn), x.ins[(↑x_2 : Int).toNat]? = some x_4 → ¬ptOf x_4 ∈ List.map ptOf
  (List.take x_3 x.ins)) ∧ (↑x_3 : Int) = (0 : Int) ∧ ((x.lock = x.lock ∧ x.ins = x.ins ∧ x.outs = x.outs ∧ True) ∧ True) ∧ True) ∧ ∀ (x_3 : Nat), ((↑x_3
  : Int) ≤ (↑x_2 : Int) ∧ ∀ (x_4 : TIn), x.ins[(↑x_2 : Int).toNat]? = some x_4 → ¬ptOf x_4 ∈ List.map ptOf (List.take x_3 x.ins)) → (decide ((↑x_3 : Int)
  < (↑x_2 : Int)) = true → (0 : Int) ≤ (↑x_2 : Int) ∧ (↑x_2 : Int) < (↑x.ins.length : Int) ∧ ∀ (y : AA (117 : Nat)), x.ins[(↑x_2 : Int).toNat]? = some y
  → (0 : Int) ≤ (↑x_3 : Int) ∧ (↑x_3 : Int) < (↑x.ins.length : Int) ∧ ∀ (y_1 : AA (117 : Nat)), x.ins[(↑x_3 : Int).toNat]? = some y_1 → ((y.tx == y_1.tx
  && (y.n == y_1.n && true)) = true → checkT x = (9 : Int) ∧ True ∧ True) ∧ ((y.tx == y_1.tx && (y.n == y_1.n && true)) = false → inI64 ((↑x_3 : Int) +
  (1 : Int)) ∧ ∃ (y : Nat), ((↑y : Int) ≤ (↑x_2 : Int) ∧ ∀ (x_4 : TIn), x.ins[(↑x_2 : Int).toNat]? = some x_4 → ¬ptOf x_4 ∈ List.map ptOf (List.take y x.ins)) ∧
  (↑x_2 : Int).toNat - y < (↑x_2 : Int).toNat - x_3 ∧ (↑y : Int) = (↑x_3 : Int) + (1 : Int) ∧ ((x.lock = x.lock ∧ x.ins = x.ins ∧ x.outs = x.outs ∧ True)
  ∧ True) ∧ True)) ∧ (decide ((↑x_3 : Int) < (↑x_2 : Int)) = false → inI64 ((↑x_2 : Int) + (1 : Int)) ∧ ∃ (y : Nat), (y ≤ x.ins.length ∧ (List.map ptOf
  (List.take y x.ins)).Nodup) ∧ x.ins.length - y < x.ins.length - x_2 ∧ (↑y : Int) = (↑x_2 : Int) + (1 : Int) ∧ ((x.lock = x.lock ∧ x.ins = x.ins ∧
  x.outs = x.outs ∧ True) ∧ True) ∧ True)) ∧ (decide ((↑x_2 : Int) < (↑x.ins.length : Int)) = false → (∃ (x_3 : Nat), (x_3 ≤ x.outs.length ∧ outsE x.outs = outsE
  (List.drop x_3 x.outs)) ∧ (↑x_3 : Int) = (0 : Int) ∧ ((x.lock = x.lock ∧ x.ins = x.ins ∧ x.outs = x.outs ∧ True) ∧ True) ∧ True) ∧ ∀ (x_3 : Nat), x_3 ≤
  x.outs.length ∧ outsE x.outs = outsE (List.drop x_3 x.outs) → (↑x.outs.length : Int) ≤ (9223372036854775807 : Int) → (decide ((↑x_3 : Int) <
  (↑x.outs.length : Int)) = true → (0 : Int) ≤ (↑x_3 : Int) ∧ (↑x_3 : Int) < (↑x.outs.length : Int) ∧ ∀ (y : AA (79 : Nat)), x.outs[(↑x_3 : Int).toNat]?
  = some y → (decide (y.amount < (10 : Int)) = true → checkT x = (27 : Int) ∧ True ∧ True) ∧ (decide (y.amount < (10 : Int)) = false → (0 : Int) ≤ (↑x_3
  : Int) ∧ (↑x_3 : Int) < (↑x.outs.length : Int) ∧ ∀ (y : AA (79 : Nat)), x.outs[(↑x_3 : Int).toNat]? = some y → (decide (y.amount > (1125899906842624 :
  Int)) = true → checkT x = (5 : Int) ∧ True ∧ True) ∧ (decide (y.amount > (1125899906842624 : Int)) = false → (0 : Int) ≤ (↑x_3 : Int) ∧ (↑x_3 : Int) <
  (↑x.outs.length : Int) ∧ ∀ (y : AA (79 : Nat)), x.outs[(↑x_3 : Int).toNat]? = some y → y.cond.length.le (9223372036854775807 : Nat) ∧ (((bif fineB
  y.cond then (0 : Int) else (1 : Int)) != (0 : Int)) = true → (checkT x = bif fineB y.cond then (0 : Int) else (1 : Int)) ∧ True ∧ True) ∧ (((bif fineB
  y.cond then (0 : Int) else (1 : Int)) != (0 : Int)) = false → inI64 ((↑x_3 : Int) + (1 : Int)) ∧ ∃ (y : Nat), (y ≤ x.outs.length ∧ outsE x.outs = outsE
  (List.drop y x.outs)) ∧ x.outs.length - y < x.outs.length - x_3 ∧ (↑y : Int) = (↑x_3 : Int) + (1 : Int) ∧ ((x.lock = x.lock ∧ x.ins = x.ins ∧ x.outs =
  x.outs ∧ True) ∧ True) ∧ True)))) ∧ (decide ((↑x_3 : Int) < (↑x.outs.length : Int)) = false → (x.lock = x.lock ∧ x.ins = x.ins ∧ x.outs = x.outs ∧
  True) ∧ True ∧ True ∧ checkT x = (totG x.outs (0 : Int)).snd ∧ True ∧ True)))))))))

theorem rcheck_eq : rcheckVC = fnS F98 f36 (bodyOf f36) rcheckLS rcheckAnn := by kernel_rfl
theorem rcheck_vc : rcheckVC := by
  intro t hs
  have hn := hs.n
  have hm := hs.m
  simp only [true_and, and_true, decide_eq_true_eq, decide_eq_false_iff_not, Int.toNat_natCast]
  refine ⟨fun h => checkT_4 (.inl h), fun a1 => ⟨fun h => checkT_4 (.inr (.inl h)), fun a2 _ => ⟨fun h => checkT_4 (.inr (.inr (.inl (some_out (.inl h))))), fun a3 _ => ⟨fun h => checkT_4 (.inr (.inr (.inl (some_out (.inr h))))),
    fun a4 _ => ⟨fun h => checkT_4 (.inr (.inr (.inr (.inl (some_out (.inl h)))))), fun a5 _ => ⟨fun h => checkT_4 (.inr (.inr (.inr (.inl (some_out (.inr h)))))), fun a6 => ?_⟩⟩⟩⟩⟩⟩
  refine ⟨⟨0, ⟨Nat.zero_le _, rfl⟩, rfl⟩, fun i hi _ => ⟨fun hlt => ⟨by omega, hlt, fun y hy => ?_⟩, fun hge => ?_⟩⟩
  · change TIn at y
    have hd := dropAt (α := TIn) (y := y) hy
    have hb := hi.2
    rw [hd] at hb
    simp only [badIn] at hb
    have bad : ¬ inOk y = true → checkT t = 4 := fun h => by
      rw [if_neg h] at hb
      exact checkT_4 (.inr (.inr (.inr (.inr (by rw [hb]; omega)))))
    refine ⟨fun h => bad (by rw [inOk_iff]; omega), fun b1 => ⟨fun h => bad (by rw [inOk_iff]; omega), fun b2 => ⟨fun h => bad (by rw [inOk_iff]; omega), fun b3 => ⟨fun h => bad (by rw [inOk_iff]; omega), fun b4 _ => ⟨fun h => bad (by rw [inOk_iff]; omega), fun b5 =>
      ⟨by unfold inI64; omega, i + 1, ⟨by omega, ?_⟩, by omega, by omega⟩⟩⟩⟩⟩⟩
    rw [hb, if_pos (by rw [inOk_iff]; omega)]
  have hb : badIn t.ins 0 = -1 := by
    rw [hi.2, List.drop_of_length_le (by omega)]
    rfl
  have first : ¬ Odd4 t := by
    rintro (h | h | h | h | h)
    · exact a1 h
    · exact a2 h
    · rw [some_in a3 a4] at h; cases h
    · rw [some_in a5 a6] at h; cases h
    · omega
  refine ⟨⟨0, ⟨Nat.zero_le _, by simp⟩, rfl⟩, fun i2 hi2 _ => ⟨fun hlt => ?_, fun hge2 => ?_⟩⟩
  · have hl2 : i2 < t.ins.length := by omega
    refine ⟨⟨0, ⟨by omega, fun x _ => by simp⟩, rfl⟩, fun j hj => ⟨fun hlt2 => ⟨by omega, hlt, fun y hy => ⟨by omega, by omega, fun y1 hy1 => ⟨fun heq => ?_, fun hne => ?_⟩⟩⟩, fun hge3 => ?_⟩⟩
    · change TIn at y
      change TIn at y1
      refine checkT_9 first fun hnd => ?_
      have hp : ptOf y = ptOf y1 := by
        simp only [Bool.and_eq_true, beq_iff_eq, and_true] at heq
        unfold ptOf
        rw [heq.1, heq.2]
      have hy' : t.ins[i2]? = some y := hy
      have hy1' : t.ins[j]? = some y1 := hy1
      have hjl : j < t.ins.length := by omega
      have h1 := List.pairwise_iff_getElem.1 hnd j i2 (by simpa using hjl) (by simpa using hl2) (by omega)
      rw [List.getElem?_eq_getElem hl2] at hy'
      rw [List.getElem?_eq_getElem hjl] at hy1'
      rw [List.getElem_map, List.getElem_map, Option.some.inj hy', Option.some.inj hy1'] at h1
      exact h1 hp.symm
    · change TIn at y
      change TIn at y1
      refine ⟨by unfold inI64; omega, j + 1, ⟨by omega, fun x hx => ?_⟩, by omega, by omega⟩
      have e : y = x := by
        have hy' : t.ins[i2]? = some y := hy
        rw [hy'] at hx
        exact Option.some.inj hx
      subst e
      have hy1' : t.ins[j]? = some y1 := hy1
      rw [List.take_add_one, hy1', List.map_append, List.mem_append]
      rintro (h | h)
      · exact hj.2 y hx h
      · simp only [Option.toList_some, List.map_cons, List.map_nil, List.mem_singleton] at h
        simp only [ptOf, Pt.mk.injEq] at h
        simp [h.1, h.2] at hne
    · refine ⟨by unfold inI64; omega, i2 + 1, ⟨by omega, ?_⟩, by omega, by omega⟩
      have hij : j = i2 := by omega
      subst hij
      have hx : t.ins[j]? = some t.ins[j] := List.getElem?_eq_getElem hl2
      rw [List.take_add_one, hx, List.map_append, List.nodup_append]
      refine ⟨hi2.2, by simp, fun p hp q hq e => ?_⟩
      simp only [Option.toList_some, List.map_cons, List.map_nil, List.mem_singleton] at hq
      subst e
      rw [hq] at hp
      exact hj.2 _ hx hp
  have hnd : (t.ins.map ptOf).Nodup := by
    have := hi2.2
    rwa [List.take_of_length_le (by omega)] at this
  have hout := checkT_o first hnd
  refine ⟨⟨0, ⟨Nat.zero_le _, rfl⟩, rfl⟩, fun k hk _ => ⟨fun hlt => ⟨by omega, hlt, fun y hy => ?_⟩, fun hge4 => ?_⟩⟩
  · change TOut at y
    have hd := dropAt (α := TOut) (y := y) hy
    have ho := hk.2
    rw [hd] at ho
    simp only [outsE] at ho
    have bad : outE y ≠ 0 → checkT t = outE y := fun h => by
      rw [if_neg h] at ho
      rw [hout, ho, if_pos h]
    refine ⟨fun h => ?_, fun c1 => ⟨by omega, hlt, fun y2 hy2 => ?_⟩⟩
    · have : outE y = 27 := by unfold outE; rw [if_pos h]
      rw [bad (by rw [this]; decide), this]
    have e : y = y2 := by rw [hy] at hy2; exact Option.some.inj hy2
    subst e
    refine ⟨fun h => ?_, fun c2 => ⟨by omega, hlt, fun y2 hy2 => ?_⟩⟩
    · have : outE y = 5 := by unfold outE; rw [if_neg c1, if_pos h]
      rw [bad (by rw [this]; decide), this]
    have e : y = y2 := by rw [hy] at hy2; exact Option.some.inj hy2
    subst e
    have hce : outE y = checkN y.cond := by unfold outE; rw [if_neg c1, if_neg c2]
    have hc := hs.c y (List.mem_of_getElem? hy)
    refine ⟨Nat.le_trans hc (by decide), fun h => ?_, fun h => ⟨by unfold inI64; omega, k + 1, ⟨by omega, ?_⟩, by omega, by omega⟩⟩
    · have h' : outE y ≠ 0 := by rw [hce]; simpa [checkN] using h
      rw [bad h', hce]
      rfl
    · have h' : outE y = 0 := by rw [hce]; simpa [checkN] using h
      rw [ho, if_pos h']
  · rw [hout, hk.2, List.drop_of_length_le (by omega)]
    rfl
theorem rcheck_ok : Fits F98 f36 (bodyOf f36) rcheckLS rcheckAnn := by
  constructor
  rw [← rcheck_eq]
  exact rcheck_vc
theorem f36_has : Has prog 36 f36 (bodyOf f36) := ⟨by kernel_rfl, by kernel_rfl, by kernel_rfl⟩
theorem known99 : Known prog L99 := by
  unfold L99
  exact known98.lent mixed f36_has F98_eq rcheck_ok (fun _ _ => Nat.le_refl _) (fun _ _ => rfl)
/-! ## The law -/
theorem Small.lens {t : TxD} (h : Small t) : Lens t where
  n := h.n
  m := h.m
  c := fun o ho => by
    have := weight_le ho
    have := h.w
    unfold weight at *
    omega
def checksTxVC : Prop := ∀ (x : TxD), Small x → (x.lock = x.lock ∧ x.ins = x.ins ∧ x.outs = x.outs ∧ True) ∧ True ∧ Small (TxD.mk x.lock x.ins x.outs) ∧ (longB (TxD.mk x.lock
  x.ins x.outs) = true → True ∧ True ∧ True ∧ true = true ∧ True ∧ True) ∧ (longB (TxD.mk x.lock x.ins x.outs) = false → (x.lock = x.lock ∧ x.ins = x.ins
  ∧ x.outs = x.outs ∧ True) ∧ True ∧ Small (TxD.mk x.lock x.ins x.outs) ∧ (x.lock = x.lock ∧ x.ins = x.ins ∧ x.outs = x.outs ∧ True) ∧ True ∧ True ∧
  (x.lock = x.lock ∧ x.ins = x.ins ∧ x.outs = x.outs ∧ True) ∧ True ∧ True ∧ (x.lock = x.lock ∧ x.ins = x.ins ∧ x.outs = x.outs ∧ True) ∧ True ∧ Small
  (TxD.mk x.lock x.ins x.outs) ∧ (x.lock = x.lock ∧ x.ins = x.ins ∧ x.outs = x.outs ∧ True) ∧ True ∧ True ∧ (x.lock = x.lock ∧ x.ins = x.ins ∧ x.outs =
  x.outs ∧ True) ∧ True ∧ Lens (TxD.mk x.lock x.ins x.outs) ∧ ((checkT (TxD.mk x.lock x.ins x.outs) == checkT (TxD.mk x.lock x.ins x.outs)) = true →
  (((totG x.outs (0 : Int)).fst == (totG x.outs (0 : Int)).fst) = true → (((totG x.outs (0 : Int)).snd == (totG x.outs (0 : Int)).snd) = true → True ∧
  True ∧ True ∧ true = true ∧ True ∧ True) ∧ (((totG x.outs (0 : Int)).snd == (totG x.outs (0 : Int)).snd) = false → true = false ∧ True ∧ True)) ∧
  (((totG x.outs (0 : Int)).fst == (totG x.outs (0 : Int)).fst) = false → true = false ∧ True ∧ True)) ∧ ((checkT (TxD.mk x.lock x.ins x.outs) == checkT
  (TxD.mk x.lock x.ins x.outs)) = false → true = false ∧ True ∧ True))

theorem checksTx_eq : checksTxVC = fnS F99 f8 (bodyOf f8) checksTxLS noAnn := by kernel_rfl
theorem checksTx_vc : checksTxVC := by
  intro t hs
  have h2 := hs.lens
  have h1 : Small (TxD.mk t.lock t.ins t.outs) := hs
  have h3 : Lens (TxD.mk t.lock t.ins t.outs) := h2
  simp only [h1, h3, and_self, beq_self_eq_true, implies_true, Bool.true_eq_false, false_implies]
theorem checksTx_ok : Fits F99 f8 (bodyOf f8) checksTxLS noAnn := by
  constructor
  rw [← checksTx_eq]
  exact checksTx_vc
theorem f8_has : Has prog 8 f8 (bodyOf f8) := ⟨by kernel_rfl, by kernel_rfl, by kernel_rfl⟩
end Go.Proofs.YtcglahfmnoghjaaDoor

/-! What the reading of a transaction comes to; TxChecks' call. Conditions: none. -/
namespace Go.Proofs.YtcglahfmnoghjaaDoor
open Go Go.Eng Go.Proofs.Tryd Go.ChangeShapes Go.WideShapes Go.RowKit

section
variable {H : Type} {enc : TypeId × Value → H} {w : World} {sp : Nat → Bool} {held : Bool}
theorem bulk_mem {d : DataW H} : ∀ {ds : List (DataW H)}, d ∈ ds → Rows.uptoBulk d ≤ Rows.uptoBulkAll ds
  | x :: ds, h => by
    simp only [Rows.uptoBulkAll]
    rcases List.mem_cons.1 h with e | h
    · subst e; omega
    · have := bulk_mem h; omega
theorem delems_all (d : DataW H) : Rows.uptoBulkAll (delems d) ≤ Rows.uptoBulk d := by
  cases d with
  | slice e sp => have := bulks.slice_elems e sp; simp only [delems]; omega
  | _ => simp [delems, Rows.uptoBulkAll]
structure GIn (x : TIn) (d : DataW H) : Prop where
  tx : x.tx.length = 32 ∧ Byt x.tx
  sec : x.secret.length ≤ Rows.uptoBulk d
  bytes : Byt x.secret
structure GOut (o : TOut) (d : DataW H) : Prop where
  wf : CondWf o.cond
  w : weight o.cond ≤ Rows.uptoBulk d
theorem rd_point_of {tP tL tI tE : TypeId} {fs : Array Field} (hP : prog.underlying tP = some (.struct fs)) (hfs : fs.toList.map (fun f => (f.type, f.offset)) = [(tL, 0), (tI, 32)]) (hL : prog.underlying tL = some (.array 32 tE)) (hE : prog.underlying tE = some (.int .u8))
    (hI : prog.underlying tI = some (.int .i64)) (cP : prog.cellsOf tP = 33) (cL : prog.cellsOf tL = 32) (cE : prog.cellsOf tE = 1) (cI : prog.cellsOf tI = 1) :
    RdT enc prog w sp held CC tP fun sl _ => ∃ p : Pt, sl = encPt p ∧ p.tx.length = 32 ∧ Byt p.tx := by
  match hl : fs.toList, hfs with
  | [f1, f2], hfs =>
    simp only [List.map_cons, List.map_nil, List.cons.injEq, Prod.mk.injEq, and_true] at hfs
    obtain ⟨⟨t1, o1⟩, t2, o2⟩ := hfs
    refine RdT.mono (rd_struct hP (by
      rw [hl]
      exact rd_fs_cons o1 (by rw [t1]; exact rd_arr hL hE cE cL) (rd_fs_cons (by rw [t1, cL, o2]) (by rw [t2]; exact rd_int hI) (rd_fs_nil (by rw [t1, t2, cL, cI, cP]; omega))))) ?_
    rintro sl d ⟨ds, rfl, s1, s2, d1, ds1, rfl, rfl, ⟨lk, rfl, h3, h4⟩, s3, s4, d2, ds2, rfl, rfl, ⟨n, rfl, h1⟩, rfl, rfl⟩
    exact ⟨⟨lk, n⟩, rfl, h3, fun y hy => wf8 (h4 y hy)⟩
  | [], hfs => simp at hfs
  | [_], hfs => simp at hfs
  | _ :: _ :: _ :: _, hfs => simp at hfs
theorem cells87 : prog.cellsOf 87 = 33 := by kernel_rfl
theorem rd_point : RdT enc prog w sp held CC 87 fun sl _ => ∃ p : Pt, sl = encPt p ∧ p.tx.length = 32 ∧ Byt p.tx :=
  rd_point_of underlying87 rfl underlying44 underlying5 underlying3 cells87 cells44 cells5 cells3
theorem rd_tin_of {tN tP tI tS tE : TypeId} {fs : Array Field} (hN : prog.underlying tN = some (.struct fs)) (hfs : fs.toList.map (fun f => (f.type, f.offset)) = [(tP, 0), (tI, 33), (tS, 34)]) (hP : tP = 87)
    (hI : prog.underlying tI = some (.int .i64)) (hS : prog.underlying tS = some (.slice tE)) (hE : prog.underlying tE = some (.int .u8)) (cN : prog.cellsOf tN = 35) (cI : prog.cellsOf tI = 1) (cS : prog.cellsOf tS = 1) (cE : prog.cellsOf tE = 1) :
    RdT enc prog w sp held CC tN fun sl d => ∃ x : AA 117, sl = CC.enc 117 x ∧ GIn (H := H) x d := by
  subst hP
  match hl : fs.toList, hfs with
  | [f1, f2, f3], hfs =>
    simp only [List.map_cons, List.map_nil, List.cons.injEq, Prod.mk.injEq, and_true] at hfs
    obtain ⟨⟨t1, o1⟩, ⟨t2, o2⟩, t3, o3⟩ := hfs
    refine RdT.mono (rd_struct hN (by
      rw [hl]
      exact rd_fs_cons o1 (by rw [t1]; exact rd_point) (rd_fs_cons (by rw [t1, cells87, o2]) (by rw [t2]; exact rd_int hI)
        (rd_fs_cons (by rw [t1, t2, cells87, cI, o3]) (by rw [t3]; exact rd_ints hS hE cE) (rd_fs_nil (by rw [t1, t2, t3, cells87, cI, cS, cN]; omega)))))) ?_
    rintro sl d ⟨ds, rfl, s1, s2, d1, ds1, rfl, rfl, ⟨p, rfl, h1, h2⟩, s3, s4, d2, ds2, rfl, rfl, ⟨n, rfl, _⟩, s5, s6, d3, ds3, rfl, rfl, ⟨xs, rfl, h3, h4⟩, rfl, rfl⟩
    refine ⟨TIn.mk p.tx p.n n xs, ?_, ⟨⟨h1, h2⟩, ?_, fun y hy => wf8 (h4 y hy)⟩⟩
    · rfl
    · have := delems_le d3
      simp only [Rows.uptoBulk, Rows.uptoBulkAll]
      omega
  | [], hfs => simp at hfs
  | [_], hfs => simp at hfs
  | [_, _], hfs => simp at hfs
  | _ :: _ :: _ :: _ :: _, hfs => simp at hfs
theorem cells117 : prog.cellsOf 117 = 35 := by kernel_rfl
theorem cells26' : prog.cellsOf 26 = 1 := by kernel_rfl
theorem rd_tin : RdT enc prog w sp held CC 117 fun sl d => ∃ x : AA 117, sl = CC.enc 117 x ∧ GIn (H := H) x d :=
  rd_tin_of underlying117 rfl rfl underlying3 underlying26 underlying5 cells117 cells3 cells26' cells5
theorem rd_tout_of {tO tI tC : TypeId} {fs : Array Field} (hO : prog.underlying tO = some (.struct fs)) (hfs : fs.toList.map (fun f => (f.type, f.offset)) = [(tI, 0), (tC, 1)]) (hI : prog.underlying tI = some (.int .i64)) (hC : tC = 24)
    (cO : prog.cellsOf tO = 2) (cI : prog.cellsOf tI = 1) :
    RdT enc prog w sp held CC tO fun sl d => ∃ x : AA 79, sl = CC.enc 79 x ∧ GOut (H := H) x d := by
  subst hC
  match hl : fs.toList, hfs with
  | [f1, f2], hfs =>
    simp only [List.map_cons, List.map_nil, List.cons.injEq, Prod.mk.injEq, and_true] at hfs
    obtain ⟨⟨t1, o1⟩, t2, o2⟩ := hfs
    refine RdT.mono (rd_struct hO (by
      rw [hl]
      exact rd_fs_cons o1 (by rw [t1]; exact rd_int hI) (rd_fs_cons (by rw [t1, cI, o2]) (by rw [t2]; exact rd_cond) (rd_fs_nil (by rw [t1, t2, cI, cells24, cO]; omega))))) ?_
    rintro sl d ⟨ds, rfl, s1, s2, d1, ds1, rfl, rfl, ⟨n, rfl, _⟩, s3, s4, d2, ds2, rfl, rfl, ⟨bs, rfl, h1, h2⟩, rfl, rfl⟩
    refine ⟨TOut.mk n bs, rfl, ⟨h1, ?_⟩⟩
    simp only [Rows.uptoBulk, Rows.uptoBulkAll]
    omega
  | [], hfs => simp at hfs
  | [_], hfs => simp at hfs
  | _ :: _ :: _ :: _, hfs => simp at hfs
theorem cells79 : prog.cellsOf 79 = 2 := by kernel_rfl
theorem rd_tout : RdT enc prog w sp held CC 79 fun sl d => ∃ x : AA 79, sl = CC.enc 79 x ∧ GOut (H := H) x d :=
  rd_tout_of underlying79 rfl underlying3 rfl cells79 cells3
theorem sumW_le : ∀ {os : List TOut} {ds : List (DataW H)}, os.length = ds.length → (∀ (j : Nat) y d, os[j]? = some y → ds[j]? = some d → GOut y d) → sumW os ≤ Rows.uptoBulkAll ds
  | [], [], _, _ => by simp [sumW]
  | o :: os, d :: ds, hl, h => by
    have h1 := (h 0 o d rfl rfl).w
    have h2 := sumW_le (os := os) (ds := ds) (by simpa using hl) (fun j y d' hy hd => h (j + 1) y d' (by simpa using hy) (by simpa using hd))
    simp only [sumW, Rows.uptoBulkAll]
    omega
  | [], _ :: _, hl, _ => by simp at hl
  | _ :: _, [], hl, _ => by simp at hl
structure TxIs (t : TxD) (n : Nat) : Prop where
  ins : t.ins.length ≤ n
  outs : t.outs.length ≤ n
  w : sumW t.outs ≤ n
  i : ∀ x, x ∈ t.ins → (x.tx.length = 32 ∧ Byt x.tx) ∧ x.secret.length ≤ n ∧ Byt x.secret
  o : ∀ o, o ∈ t.outs → CondWf o.cond
theorem rd_tx_of {tT tI tA tB : TypeId} {fs : Array Field} (hT : prog.underlying tT = some (.struct fs)) (hfs : fs.toList.map (fun f => (f.type, f.offset)) = [(tI, 0), (tA, 1), (tB, 2)]) (hI : prog.underlying tI = some (.int .i64))
    (hA : prog.underlying tA = some (.slice 117)) (hB : prog.underlying tB = some (.slice 79)) (cT : prog.cellsOf tT = 3) (cI : prog.cellsOf tI = 1) (cA : prog.cellsOf tA = 1) (cB : prog.cellsOf tB = 1) :
    RdT enc prog w sp held CC tT fun sl d => ∃ t : TxD, sl = txRSL t ∧ TxIs t (Rows.uptoBulk d) := by
  match hl : fs.toList, hfs with
  | [f1, f2, f3], hfs =>
    simp only [List.map_cons, List.map_nil, List.cons.injEq, Prod.mk.injEq, and_true] at hfs
    obtain ⟨⟨t1, o1⟩, ⟨t2, o2⟩, t3, o3⟩ := hfs
    refine RdT.mono (rd_struct hT (by
      rw [hl]
      exact rd_fs_cons o1 (by rw [t1]; exact rd_int hI) (rd_fs_cons (by rw [t1, cI, o2]) (by rw [t2]; exact rd_seq (u := 117) (G := fun x d => GIn (H := H) x d) hA cells117 (by decide) rd_tin)
        (rd_fs_cons (by rw [t1, t2, cI, cA, o3]) (by rw [t3]; exact rd_seq (u := 79) (G := fun x d => GOut (H := H) x d) hB cells79 (by decide) rd_tout) (rd_fs_nil (by rw [t1, t2, t3, cI, cA, cB, cT]; omega)))))) ?_
    rintro sl d ⟨ds, rfl, s1, s2, d1, ds1, rfl, rfl, ⟨n, rfl, _⟩, s3, s4, d2, ds2, rfl, rfl, ⟨xs, rfl, h1, h2⟩, s5, s6, d3, ds3, rfl, rfl, ⟨os, rfl, h3, h4⟩, rfl, rfl⟩
    have g1 := delems_le d2
    have g2 := delems_le d3
    have g3 := delems_all d2
    have g4 := delems_all d3
    have g5 := sumW_le (os := os) h3 h4
    have hb : Rows.uptoBulk d2 + Rows.uptoBulk d3 ≤ Rows.uptoBulk (.agg [d1, d2, d3]) := by
      simp only [Rows.uptoBulk, Rows.uptoBulkAll]
      omega
    refine ⟨TxD.mk n xs os, rfl, ⟨?_, ?_, ?_, fun x hx => ?_, fun o ho => ?_⟩⟩
    · have : xs.length = (delems d2).length := h1
      show xs.length ≤ _
      omega
    · have : os.length = (delems d3).length := h3
      show os.length ≤ _
      omega
    · show sumW os ≤ _
      omega
    · obtain ⟨j, hj⟩ := List.getElem?_of_mem hx
      have hl2 : j < (delems d2).length := by
        have := (List.getElem?_eq_some_iff.1 hj).1
        rw [← h1]; exact this
      have hd := List.getElem?_eq_getElem hl2
      have h5 := h2 j x _ hj hd
      have h6 := bulk_mem (List.mem_of_getElem? hd)
      exact ⟨h5.tx, by have := h5.sec; omega, h5.bytes⟩
    · obtain ⟨j, hj⟩ := List.getElem?_of_mem ho
      have hl2 : j < (delems d3).length := by
        have := (List.getElem?_eq_some_iff.1 hj).1
        rw [← h3]; exact this
      exact (h4 j o _ hj (List.getElem?_eq_getElem hl2)).wf
  | [], hfs => simp at hfs
  | [_], hfs => simp at hfs
  | [_, _], hfs => simp at hfs
  | _ :: _ :: _ :: _ :: _, hfs => simp at hfs
theorem cells63 : prog.cellsOf 63 = 3 := by kernel_rfl
theorem cells60 : prog.cellsOf 60 = 1 := by kernel_rfl
theorem cells61 : prog.cellsOf 61 = 1 := by kernel_rfl
theorem rd_tx : RdT enc prog w sp held CC 63 fun sl d => ∃ t : TxD, sl = txRSL t ∧ TxIs t (Rows.uptoBulk d) :=
  rd_tx_of underlying63 rfl underlying3 underlying60 underlying61 cells63 cells3 cells60 cells61
end
theorem TxIs.small {t : TxD} {n : Nat} (h : TxIs t n) (hn : n ≤ 1048576) : Small t where
  n := Nat.le_trans h.ins (by omega)
  m := Nat.le_trans h.outs (by omega)
  s := fun x hx => Nat.le_trans (h.i x hx).2.1 (by omega)
  w := Nat.le_trans h.w (by omega)
theorem checksTx_calls {W : World} {vs : List Value} {t : TxD} (hx : Small t) (ha : ArgsR NoO [] W CC [.agg (txRSL t)] vs) (hg : Glob GG NoO [] W CC) :
    Calls prog 8 vs.toArray W fun e W' => e = .returned (.bool true) ∧ Below W.heap.size W W' := by
  have hS : Sound F99 := by rw [F99_eq]; exact sound mixed known99
  exact law_calls (ee_P F99_eq) hS f8_has checksTx_ok t hx rfl rfl (fun _ _ => Nat.le_refl _) (by rw [ee_C F99_eq]; exact ha) (by rw [ee_GL F99_eq, ee_C F99_eq]; exact hg)
end Go.Proofs.YtcglahfmnoghjaaDoor
