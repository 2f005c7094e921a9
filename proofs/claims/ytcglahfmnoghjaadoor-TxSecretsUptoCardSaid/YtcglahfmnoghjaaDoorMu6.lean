/- Part 6 of the texts behind the last one: what they say stands ahead of each. Conditions: none. -/
import Derived.Test.YtcglahfmnoghjaaDoorMu5
/-! A transaction given; the document's check; TxChecks: the walks hold. Conditions: none. -/
namespace Go.Proofs.YtcglahfmnoghjaaDoor
open Go Go.Eng Go.Proofs.Tryd

def giveTxVC : Prop := ∀ (x : TxD), Small x → (∃ x_1, Nat.le x_1 x.ins.length ∧ (↑x_1 : Int) = (0 : Int) ∧ ((x.lock = x.lock ∧ x.ins = x.ins ∧ x.outs = x.outs ∧ True) ∧ ((0 :
  Int) = (0 : Int) ∧ (SV.val (A := AA) (Value.slice none (0 : Nat) (0 : Nat)) : SV AA) = SV.val (A := AA) (Value.slice none (0 : Nat) (0 : Nat)) ∧
  (SV.val (A := AA) (Value.slice none (0 : Nat) (0 : Nat)) : SV AA) = SV.val (A := AA) (Value.slice none (0 : Nat) (0 : Nat)) ∧ True) ∧ (x.lock = x.lock
  ∧ (SV.val (A := AA) (Value.slice none (0 : Nat) (0 : Nat)) : SV AA) = SV.val (A := AA) (Value.slice none (0 : Nat) (0 : Nat)) ∧ (SV.val (A := AA)
  (Value.slice none (0 : Nat) (0 : Nat)) : SV AA) = SV.val (A := AA) (Value.slice none (0 : Nat) (0 : Nat)) ∧ True) ∧ True) ∧ List.take x_1 x.ins = [] ∧
  True) ∧ ∀ (x_1 : Nat), x_1.le x.ins.length → (↑x.ins.length : Int) ≤ (9223372036854775807 : Int) → (decide ((↑x_1 : Int) < (↑x.ins.length : Int)) =
  true → (0 : Int) ≤ (↑x_1 : Int) ∧ (↑x_1 : Int) < (↑x.ins.length : Int) ∧ ∀ (y : AA (117 : Nat)), x.ins[(↑x_1 : Int).toNat]? = some y → (0 : Int) ≤
  (↑x_1 : Int) ∧ (↑x_1 : Int) < (↑x.ins.length : Int) ∧ ∀ (y_1 : AA (117 : Nat)), x.ins[(↑x_1 : Int).toNat]? = some y_1 → (0 : Int) ≤ (↑x_1 : Int) ∧
  (↑x_1 : Int) < (↑x.ins.length : Int) ∧ ∀ (y_2 : AA (117 : Nat)), x.ins[(↑x_1 : Int).toNat]? = some y_2 → y_2.secret.length * (1 : Nat) ≤
  (140737488355328 : Nat) ∧ y_2.secret.length ≤ (1152921504606846976 : Nat) ∧ (y.tx = y.tx ∧ y.n = y.n ∧ y_1.branch = y_1.branch ∧ y_2.secret =
  y_2.secret ∧ True) ∧ ((List.take x_1 x.ins).length + [TIn.mk y.tx y.n y_1.branch y_2.secret].length) * (72 : Nat) ≤ (140737488355328 : Nat) ∧
  (List.take x_1 x.ins).length + [TIn.mk y.tx y.n y_1.branch y_2.secret].length ≤ (1152921504606846976 : Nat) ∧ inI64 ((↑x_1 : Int) + (1 : Int)) ∧ ∃ y_3,
  Nat.le y_3 x.ins.length ∧ x.ins.length - y_3 < x.ins.length - x_1 ∧ (↑y_3 : Int) = (↑x_1 : Int) + (1 : Int) ∧ ((x.lock = x.lock ∧ x.ins = x.ins ∧
  x.outs = x.outs ∧ True) ∧ ((0 : Int) = (0 : Int) ∧ (SV.val (A := AA) (Value.slice none (0 : Nat) (0 : Nat)) : SV AA) = SV.val (A := AA) (Value.slice
  none (0 : Nat) (0 : Nat)) ∧ (SV.val (A := AA) (Value.slice none (0 : Nat) (0 : Nat)) : SV AA) = SV.val (A := AA) (Value.slice none (0 : Nat) (0 : Nat))
  ∧ True) ∧ (x.lock = x.lock ∧ True ∧ (SV.val (A := AA) (Value.slice none (0 : Nat) (0 : Nat)) : SV AA) = SV.val (A := AA) (Value.slice none (0 : Nat) (0
  : Nat)) ∧ True) ∧ True) ∧ List.take y_3 x.ins = List.take x_1 x.ins ++ [TIn.mk y.tx y.n y_1.branch y_2.secret] ∧ True) ∧ (decide ((↑x_1 : Int) <
  (↑x.ins.length : Int)) = false → (∃ x_2, Nat.le x_2 x.outs.length ∧ (↑x_2 : Int) = (0 : Int) ∧ ((x.lock = x.lock ∧ x.ins = x.ins ∧ x.outs = x.outs ∧
  True) ∧ ((0 : Int) = (0 : Int) ∧ (SV.val (A := AA) (Value.slice none (0 : Nat) (0 : Nat)) : SV AA) = SV.val (A := AA) (Value.slice none (0 : Nat) (0 :
  Nat)) ∧ (SV.val (A := AA) (Value.slice none (0 : Nat) (0 : Nat)) : SV AA) = SV.val (A := AA) (Value.slice none (0 : Nat) (0 : Nat)) ∧ True) ∧ (x.lock =
  x.lock ∧ True ∧ (SV.val (A := AA) (Value.slice none (0 : Nat) (0 : Nat)) : SV AA) = SV.val (A := AA) (Value.slice none (0 : Nat) (0 : Nat)) ∧ True) ∧
  List.take x_1 x.ins = List.take x_1 x.ins ∧ True) ∧ List.take x_2 x.outs = [] ∧ True) ∧ ∀ (x_2 : Nat), x_2.le x.outs.length → (↑x.outs.length : Int) ≤
  (9223372036854775807 : Int) → (decide ((↑x_2 : Int) < (↑x.outs.length : Int)) = true → (0 : Int) ≤ (↑x_2 : Int) ∧ (↑x_2 : Int) < (↑x.outs.length : Int)
  ∧ ∀ (y : AA (79 : Nat)), x.outs[(↑x_2 : Int).toNat]? = some y → (0 : Int) ≤ (↑x_2 : Int) ∧ (↑x_2 : Int) < (↑x.outs.length : Int) ∧ ∀ (y_1 : AA (79 :
  Nat)), x.outs[(↑x_2 : Int).toNat]? = some y_1 → (y_1.cond = y_1.cond ∧ True) ∧ True ∧ (weight y_1.cond).le (2000000 : Nat) ∧ (y.amount = y.amount ∧
  y_1.cond = y_1.cond ∧ True) ∧ ((List.take x_2 x.outs).length + [TOut.mk y.amount y_1.cond].length) * (32 : Nat) ≤ (140737488355328 : Nat) ∧ (List.take
  x_2 x.outs).length + [TOut.mk y.amount y_1.cond].length ≤ (1152921504606846976 : Nat) ∧ inI64 ((↑x_2 : Int) + (1 : Int)) ∧ ∃ y_2, Nat.le y_2
  x.outs.length ∧ x.outs.length - y_2 < x.outs.length - x_2 ∧ (↑y_2 : Int) = (↑x_2 : Int) + (1 : Int) ∧ ((x.lock = x.lock ∧ x.ins = x.ins ∧ x.outs =
  x.outs ∧ True) ∧ ((0 : Int) = (0 : Int) ∧ SV.val (A := AA) (Value.slice none (0 : Nat) (0 : Nat)) = SV.val (A := AA) (Value.slice none (0 : Nat) (0 :
  Nat)) ∧ SV.val (A := AA) (Value.slice none (0 : Nat) (0 : Nat)) = SV.val (A := AA) (Value.slice none (0 : Nat) (0 : Nat)) ∧ True) ∧ (x.lock = x.lock ∧
  True ∧ True ∧ True) ∧ List.take x_1 x.ins = List.take x_1 x.ins ∧ True) ∧ List.take y_2 x.outs = List.take x_2 x.outs ++ [TOut.mk y.amount y_1.cond] ∧
  True) ∧ (decide ((↑x_2 : Int) < (↑x.outs.length : Int)) = false → (x.lock = x.lock ∧ True ∧ True ∧ True) ∧ True ∧ x.ins = List.take x_1 x.ins ∧ x.outs
  = List.take x_2 x.outs ∧ True))

theorem giveTx_eq : giveTxVC = fnS F97 f32 (bodyOf f32) giveTxLS giveTxAnn := by kernel_rfl
theorem giveTx_vc : giveTxVC := by
  intro t hs
  have hn := hs.n
  have hm := hs.m
  simp only [true_and, and_true, decide_eq_true_eq, decide_eq_false_iff_not, Int.toNat_natCast, and_self]
  refine ⟨⟨0, Nat.zero_le _, rfl, rfl⟩, fun i hi _ => ⟨fun hlt => ⟨by omega, hlt, fun y hy => ⟨by omega, hlt, fun y1 hy1 => ⟨by omega, hlt, fun y2 hy2 => ?_⟩⟩⟩, fun hge => ⟨⟨0, Nat.zero_le _, rfl, rfl⟩, fun j hj _ => ⟨fun hlt => ⟨by omega, hlt, fun y hy => ⟨by omega, hlt, fun y1 hy1 => ?_⟩⟩, fun hge2 => ?_⟩⟩⟩⟩
  · change TIn at y
    change TIn at y1
    change TIn at y2
    have e : y = y1 := by rw [hy] at hy1; exact Option.some.inj hy1
    subst e
    have e : y = y2 := by rw [hy] at hy2; exact Option.some.inj hy2
    subst e
    have hs1 := hs.s y (List.mem_of_getElem? hy)
    have hl : (t.ins.take i).length = i := by rw [List.length_take]; omega
    have hcat : t.ins.take (i + 1) = t.ins.take i ++ [show TIn from y] := by
      have hy' : t.ins[i]? = some y := hy
      rw [List.take_add_one, hy']; rfl
    have hi' : i < t.ins.length := by omega
    have h1 : (t.ins.take i).length + 1 ≤ 2000000 := by omega
    exact ⟨by omega, by omega, Nat.le_trans (Nat.mul_le_mul_right 72 h1) (by decide), Nat.le_trans h1 (by decide), by unfold inI64; omega, i + 1, hi', by omega, by omega, hcat⟩
  · change TOut at y
    change TOut at y1
    have e : y = y1 := by rw [hy] at hy1; exact Option.some.inj hy1
    subst e
    have hc := hs.cond hy
    have hl : (t.outs.take j).length = j := by rw [List.length_take]; omega
    have hcat : t.outs.take (j + 1) = t.outs.take j ++ [show TOut from y] := by
      have hy' : t.outs[j]? = some y := hy
      rw [List.take_add_one, hy']; rfl
    have hj' : j < t.outs.length := by omega
    have h1 : (t.outs.take j).length + 1 ≤ 2000000 := by omega
    exact ⟨hc, Nat.le_trans (Nat.mul_le_mul_right 32 h1) (by decide), Nat.le_trans h1 (by decide), by unfold inI64; omega, j + 1, hj', by omega, by omega, hcat⟩
  · exact ⟨(List.take_of_length_le (by omega)).symm, (List.take_of_length_le (by omega)).symm⟩
theorem giveTx_ok : Fits F97 f32 (bodyOf f32) giveTxLS giveTxAnn := by
  constructor
  rw [← giveTx_eq]
  exact giveTx_vc
theorem f32_has : Has prog 32 f32 (bodyOf f32) := ⟨by kernel_rfl, by kernel_rfl, by kernel_rfl⟩
theorem known98 : Known prog L98 := by
  unfold L98
  exact known97.lent mixed f32_has F97_eq giveTx_ok (fun _ _ => Nat.zero_le _) (fun _ _ => rfl)
/-! ## The document's check -/
def Odd4 (t : TxD) : Prop := t.lock < 0 ∨ t.lock > 1099511627776 ∨ someB t.ins.length = false ∨ someB t.outs.length = false ∨ badIn t.ins 0 ≥ 0
theorem checkT_4 {t : TxD} (h : Odd4 t) : checkT t = 4 := by
  unfold checkT
  exact if_pos h
theorem checkT_9 {t : TxD} (h : ¬ Odd4 t) (h2 : ¬ (t.ins.map ptOf).Nodup) : checkT t = 9 := by
  unfold checkT
  exact (if_neg h).trans (if_pos h2)
theorem checkT_o {t : TxD} (h : ¬ Odd4 t) (h2 : (t.ins.map ptOf).Nodup) : checkT t = if outsE t.outs ≠ 0 then outsE t.outs else (totG t.outs 0).2 := by
  unfold checkT
  refine (if_neg h).trans ((if_neg (fun h3 => h3 h2)).trans ?_)
  split <;> rfl
theorem some_out {n : Int} (h : n < 1 ∨ n > 64) : someB n = false := by
  unfold someB
  simp only [Bool.and_eq_false_imp, decide_eq_true_eq, decide_eq_false_iff_not]
  omega
theorem some_in {n : Int} (h : ¬ n < 1) (h2 : ¬ n > 64) : someB n = true := by
  unfold someB
  simp only [Bool.and_eq_true, decide_eq_true_eq]
  omega
theorem inOk_iff {x : TIn} : inOk x = true ↔ 0 ≤ x.n ∧ x.n < 64 ∧ 0 ≤ x.branch ∧ x.branch < 8 ∧ (x.secret.length : Int) ≤ 64 := by
  unfold inOk
  simp only [Bool.and_eq_true, decide_eq_true_eq]
def rcheckVC : Prop := ∀ (x : TxD), Lens x → (decide (x.lock < (0 : Int)) = true → checkT x = (4 : Int) ∧ True ∧ True) ∧ (decide (x.lock < (0 : Int)) = false → (decide
  (x.lock > (1099511627776 : Int)) = true → checkT x = (4 : Int) ∧ True ∧ True) ∧ (decide (x.lock > (1099511627776 : Int)) = false → (↑x.ins.length :
  Int) ≤ (9223372036854775807 : Int) → (decide ((↑x.ins.length : Int) < (1 : Int)) = true → checkT x = (4 : Int) ∧ True ∧ True) ∧ (decide ((↑x.ins.length
  : Int) < (1 : Int)) = false → (↑x.ins.length : Int) ≤ (9223372036854775807 : Int) → (decide ((↑x.ins.length : Int) > (64 : Int)) = true → checkT x = (4
  : Int) ∧ True ∧ True) ∧ (decide ((↑x.ins.length : Int) > (64 : Int)) = false → (↑x.outs.length : Int) ≤ (9223372036854775807 : Int) → (decide
  ((↑x.outs.length : Int) < (1 : Int)) = true → checkT x = (4 : Int) ∧ True ∧ True) ∧ (decide ((↑x.outs.length : Int) < (1 : Int)) = false →
  (↑x.outs.length : Int) ≤ (9223372036854775807 : Int) → (decide ((↑x.outs.length : Int) > (64 : Int)) = true → checkT x = (4 : Int) ∧ True ∧ True) ∧
  (decide ((↑x.outs.length : Int) > (64 : Int)) = false → (∃ (x_1 : Nat), (x_1 ≤ x.ins.length ∧ badIn x.ins (0 : Nat) = badIn (List.drop x_1 x.ins) x_1) ∧ (↑x_1
  : Int) = (0 : Int) ∧ ((x.lock = x.lock ∧ x.ins = x.ins ∧ x.outs = x.outs ∧ True) ∧ True) ∧ True) ∧ ∀ (x_1 : Nat), x_1 ≤ x.ins.length ∧ badIn x.ins (0 :
  Nat) = badIn (List.drop x_1 x.ins) x_1 → (↑x.ins.length : Int) ≤ (9223372036854775807 : Int) → (decide ((↑x_1 : Int) < (↑x.ins.length : Int)) = true →
  (0 : Int) ≤ (↑x_1 : Int) ∧ (↑x_1 : Int) < (↑x.ins.length : Int) ∧ ∀ (y : AA (117 : Nat)), x.ins[(↑x_1 : Int).toNat]? = some y → (decide (y.n < (0 :
  Int)) = true → checkT x = (4 : Int) ∧ True ∧ True) ∧ (decide (y.n < (0 : Int)) = false → (decide (y.n > (63 : Int)) = true → checkT x = (4 : Int) ∧
  True ∧ True) ∧ (decide (y.n > (63 : Int)) = false → (decide (y.branch < (0 : Int)) = true → checkT x = (4 : Int) ∧ True ∧ True) ∧ (decide (y.branch <
  (0 : Int)) = false → (decide (y.branch > (7 : Int)) = true → checkT x = (4 : Int) ∧ True ∧ True) ∧ (decide (y.branch > (7 : Int)) = false →
  (↑y.secret.length : Int) ≤ (9223372036854775807 : Int) → (decide ((↑y.secret.length : Int) > (64 : Int)) = true → checkT x = (4 : Int) ∧ True ∧ True) ∧
  (decide ((↑y.secret.length : Int) > (64 : Int)) = false → inI64 ((↑x_1 : Int) + (1 : Int)) ∧ ∃ (y : Nat), (y ≤ x.ins.length ∧ badIn x.ins (0 : Nat) = badIn
  (List.drop y x.ins) y) ∧ x.ins.length - y < x.ins.length - x_1 ∧ (↑y : Int) = (↑x_1 : Int) + (1 : Int) ∧ ((x.lock = x.lock ∧ x.ins = x.ins ∧ x.outs =
  x.outs ∧ True) ∧ True) ∧ True)))))) ∧ (decide ((↑x_1 : Int) < (↑x.ins.length : Int)) = false → (∃ (x_2 : Nat), (x_2 ≤ x.ins.length ∧ (List.map ptOf (List.take
  x_2 x.ins)).Nodup) ∧ (↑x_2 : Int) = (0 : Int) ∧ ((x.lock = x.lock ∧ x.ins = x.ins ∧ x.outs = x.outs ∧ True) ∧ True) ∧ True) ∧ ∀ (x_2 : Nat), x_2 ≤
  x.ins.length ∧ (List.map ptOf (List.take x_2 x.ins)).Nodup → (↑x.ins.length : Int) ≤ (9223372036854775807 : Int) → (decide ((↑x_2 : Int) <
  (↑x.ins.length : Int)) = true → (∃ (x_3 : Nat), ((↑x_3 : Int) ≤ (↑x_2 : Int) ∧ ∀ (x_4 : TIn), x.ins[(↑x_2 : Int).toNat]? = some x_4 → ¬ptOf x_4 ∈ List.map ptOf
  (List.take x_3 x.ins)) ∧ (↑x_3 : Int) = (0 : Int) ∧ ((x.lock = x.lock ∧ x.ins = x.ins ∧ x.outs = x.outs ∧ True) ∧ True) ∧ True) ∧ ∀ (x_3 : Nat), ((↑x_3
  : Int) ≤ (↑x_2 : Int) ∧ ∀ (x_4 : TIn), x.ins[(↑x_2 : Int).toNat]? = some x_4 → ¬ptOf x_4 ∈ List.map ptOf (List.take x_3 x.ins)) → (decide ((↑x_3 : Int)
  < (↑x_2 : Int)) = true → (0 : Int) ≤ (↑x_2 : Int) ∧ (↑x_2 : Int) < (↑x.ins.length : Int) ∧ ∀ (y : AA (117 : Nat)), x.ins[(↑x_2 : Int).toNat]? = some y
  → (0 : Int) ≤ (↑x_3 : Int) ∧ (↑x_3 : Int) < (↑x.ins.length : Int) ∧ ∀ (y_1 : AA (117 : Nat)), x.ins[(↑x_3 : Int).toNat]? = some y_1 → ((y.tx == y_1.tx
  && (y.n == y_1.n && true)) = true → checkT x = (9 : Int) ∧ True ∧ True) ∧ ((y.tx == y_1.tx && (y.n == y_1.n && true)) = false → inI64 ((↑x_3 : Int) +
  (1 : Int)) ∧ ∃ (y : Nat), ((↑y : Int) ≤ (↑x_2 : Int) ∧ ∀ (x_4 : TIn), x.ins[(↑x_2 : Int).toNat]? = some x_4 → ¬ptOf x_4 ∈ List.map ptOf (List.take y x.ins)) ∧
  (↑x_2 : Int).toNat - y < (↑x_2 : Int).toNat - x_3 ∧ (↑y : Int) = (↑x_3 : Int) + (1 : Int) ∧ ((x.lock = x.lock ∧ x.ins = x.ins ∧ x.outs = x.outs ∧ True)
  ∧ True) ∧ True)) ∧ (decide ((↑x_3 : Int) < (↑x_2 : Int)) = false → inI64 ((↑x_2 : Int) + (1 : Int)) ∧ ∃ (y : Nat), (y ≤ x.ins.length ∧ (List.map ptOf
  (List.take y x.ins)).Nodup) ∧ x.ins.length - y < x.ins.length - x_2 ∧ (↑y : Int) = (↑x_2 : Int) + (1 : Int) ∧ ((x.lock = x.lock ∧ x.ins = x.ins ∧
  x.outs = x.outs ∧ True) ∧ True) ∧ True)) ∧ (decide ((↑x_2 : Int) < (↑x.ins.length : Int)) = false → (∃ (x_3 : Nat), (x_3 ≤ x.outs.length ∧ outsE x.outs = outsE
  (List.drop x_3 x.outs)) ∧ (↑x_3 : Int) = (0 : Int) ∧ ((x.lock = x.lock ∧ x.ins = x.ins ∧ x.outs = x.outs ∧ True) ∧ True) ∧ True) ∧ ∀ (x_3 : Nat), x_3 ≤
  x.outs.length ∧ outsE x.outs = outsE (List.drop x_3 x.outs) → (↑x.outs.length : Int) ≤ (9223372036854775807 : Int) → (decide ((↑x_3 : Int) <
  (↑x.outs.length : Int)) = true → (0 : Int) ≤ (↑x_3 : Int) ∧ (↑x_3 : Int) < (↑x.outs.length : Int) ∧ ∀ (y : AA (79 : Nat)), x.outs[(↑x_3 : Int).toNat]?
  = some y → (decide (y.amount < (10 : Int)) = true → checkT x = (27 : Int) ∧ True ∧ True) ∧ (decide (y.amount < (10 : Int)) = false → (0 : Int) ≤ (↑x_3
  : Int) ∧ (↑x_3 : Int) < (↑x.outs.length : Int) ∧ ∀ (y : AA (79 : Nat)), x.outs[(↑x_3 : Int).toNat]? = some y → (decide (y.amount > (1125899906842624 :
  Int)) = true → checkT x = (5 : Int) ∧ True ∧ True) ∧ (decide (y.amount > (1125899906842624 : Int)) = false → (0 : Int) ≤ (↑x_3 : Int) ∧ (↑x_3 : Int) <
  (↑x.outs.length : Int) ∧ ∀ (y : AA (79 : Nat)), x.outs[(↑x_3 : Int).toNat]? = some y → y.cond.length.le (9223372036854775807 : Nat) ∧ (((bif fineB
  y.cond then (0 : Int) else (1 : Int)) != (0 : Int)) = true → (checkT x = bif fineB y.cond then (0 : Int) else (1 : Int)) ∧ True ∧ True) ∧ (((bif fineB
  y.cond then (0 : Int) else (1 : Int)) != (0 : Int)) = false → inI64 ((↑x_3 : Int) + (1 : Int)) ∧ ∃ (y : Nat), (y ≤ x.outs.length ∧ outsE x.outs = outsE
  (List.drop y x.outs)) ∧ x.outs.length - y < x.outs.length - x_3 ∧ (↑y : Int) = (↑x_3 : Int) + (1 : Int) ∧ ((x.lock = x.lock ∧ x.ins = x.ins ∧ x.outs =
  x.outs ∧ True) ∧ True) ∧ True)))) ∧ (decide ((↑x_3 : Int) < (↑x.outs.length : Int)) = false → (x.lock = x.lock ∧ x.ins = x.ins ∧ x.outs = x.outs ∧
  True) ∧ True ∧ True ∧ checkT x = (totG x.outs (0 : Int)).snd ∧ True ∧ True)))))))))

theorem rcheck_eq : rcheckVC = fnS F98 f36 (bodyOf f36) rcheckLS rcheckAnn := by kernel_rfl
theorem rcheck_vc : rcheckVC := by
  intro t hs
  have hn := hs.n
  have hm := hs.m
  simp only [true_and, and_true, decide_eq_true_eq, decide_eq_false_iff_not, Int.toNat_natCast]
  refine ⟨fun h => checkT_4 (.inl h), fun a1 => ⟨fun h => checkT_4 (.inr (.inl h)), fun a2 _ => ⟨fun h => checkT_4 (.inr (.inr (.inl (some_out (.inl h))))), fun a3 _ => ⟨fun h => checkT_4 (.inr (.inr (.inl (some_out (.inr h))))),
    fun a4 _ => ⟨fun h => checkT_4 (.inr (.inr (.inr (.inl (some_out (.inl h)))))), fun a5 _ => ⟨fun h => checkT_4 (.inr (.inr (.inr (.inl (some_out (.inr h)))))), fun a6 => ?_⟩⟩⟩⟩⟩⟩
  refine ⟨⟨0, ⟨Nat.zero_le _, rfl⟩, rfl⟩, fun i hi _ => ⟨fun hlt => ⟨by omega, hlt, fun y hy => ?_⟩, fun hge => ?_⟩⟩
  · change TIn at y
    have hd := dropAt (α := TIn) (y := y) hy
    have hb := hi.2
    rw [hd] at hb
    simp only [badIn] at hb
    have bad : ¬ inOk y = true → checkT t = 4 := fun h => by
      rw [if_neg h] at hb
      exact checkT_4 (.inr (.inr (.inr (.inr (by rw [hb]; omega)))))
    refine ⟨fun h => bad (by rw [inOk_iff]; omega), fun b1 => ⟨fun h => bad (by rw [inOk_iff]; omega), fun b2 => ⟨fun h => bad (by rw [inOk_iff]; omega), fun b3 => ⟨fun h => bad (by rw [inOk_iff]; omega), fun b4 _ => ⟨fun h => bad (by rw [inOk_iff]; omega), fun b5 =>
      ⟨by unfold inI64; omega, i + 1, ⟨by omega, ?_⟩, by omega, by omega⟩⟩⟩⟩⟩⟩
    rw [hb, if_pos (by rw [inOk_iff]; omega)]
  have hb : badIn t.ins 0 = -1 := by
    rw [hi.2, List.drop_of_length_le (by omega)]
    rfl
  have first : ¬ Odd4 t := by
    rintro (h | h | h | h | h)
    · exact a1 h
    · exact a2 h
    · rw [some_in a3 a4] at h; cases h
    · rw [some_in a5 a6] at h; cases h
    · omega
  refine ⟨⟨0, ⟨Nat.zero_le _, by simp⟩, rfl⟩, fun i2 hi2 _ => ⟨fun hlt => ?_, fun hge2 => ?_⟩⟩
  · have hl2 : i2 < t.ins.length := by omega
    refine ⟨⟨0, ⟨by omega, fun x _ => by simp⟩, rfl⟩, fun j hj => ⟨fun hlt2 => ⟨by omega, hlt, fun y hy => ⟨by omega, by omega, fun y1 hy1 => ⟨fun heq => ?_, fun hne => ?_⟩⟩⟩, fun hge3 => ?_⟩⟩
    · change TIn at y
      change TIn at y1
      refine checkT_9 first fun hnd => ?_
      have hp : ptOf y = ptOf y1 := by
        simp only [Bool.and_eq_true, beq_iff_eq, and_true] at heq
        unfold ptOf
        rw [heq.1, heq.2]
      have hy' : t.ins[i2]? = some y := hy
      have hy1' : t.ins[j]? = some y1 := hy1
      have hjl : j < t.ins.length := by omega
      have h1 := List.pairwise_iff_getElem.1 hnd j i2 (by simpa using hjl) (by simpa using hl2) (by omega)
      rw [List.getElem?_eq_getElem hl2] at hy'
      rw [List.getElem?_eq_getElem hjl] at hy1'
      rw [List.getElem_map, List.getElem_map, Option.some.inj hy', Option.some.inj hy1'] at h1
      exact h1 hp.symm
    · change TIn at y
      change TIn at y1
      refine ⟨by unfold inI64; omega, j + 1, ⟨by omega, fun x hx => ?_⟩, by omega, by omega⟩
      have e : y = x := by
        have hy' : t.ins[i2]? = some y := hy
        rw [hy'] at hx
        exact Option.some.inj hx
      subst e
      have hy1' : t.ins[j]? = some y1 := hy1
      rw [List.take_add_one, hy1', List.map_append, List.mem_append]
      rintro (h | h)
      · exact hj.2 y hx h
      · simp only [Option.toList_some, List.map_cons, List.map_nil, List.mem_singleton] at h
        simp only [ptOf, Pt.mk.injEq] at h
        simp [h.1, h.2] at hne
    · refine ⟨by unfold inI64; omega, i2 + 1, ⟨by omega, ?_⟩, by omega, by omega⟩
      have hij : j = i2 := by omega
      subst hij
      have hx : t.ins[j]? = some t.ins[j] := List.getElem?_eq_getElem hl2
      rw [List.take_add_one, hx, List.map_append, List.nodup_append]
      refine ⟨hi2.2, by simp, fun p hp q hq e => ?_⟩
      simp only [Option.toList_some, List.map_cons, List.map_nil, List.mem_singleton] at hq
      subst e
      rw [hq] at hp
      exact hj.2 _ hx hp
  have hnd : (t.ins.map ptOf).Nodup := by
    have := hi2.2
    rwa [List.take_of_length_le (by omega)] at this
  have hout := checkT_o first hnd
  refine ⟨⟨0, ⟨Nat.zero_le _, rfl⟩, rfl⟩, fun k hk _ => ⟨fun hlt => ⟨by omega, hlt, fun y hy => ?_⟩, fun hge4 => ?_⟩⟩
  · change TOut at y
    have hd := dropAt (α := TOut) (y := y) hy
    have ho := hk.2
    rw [hd] at ho
    simp only [outsE] at ho
    have bad : outE y ≠ 0 → checkT t = outE y := fun h => by
      rw [if_neg h] at ho
      rw [hout, ho, if_pos h]
    refine ⟨fun h => ?_, fun c1 => ⟨by omega, hlt, fun y2 hy2 => ?_⟩⟩
    · have : outE y = 27 := by unfold outE; rw [if_pos h]
      rw [bad (by rw [this]; decide), this]
    have e : y = y2 := by rw [hy] at hy2; exact Option.some.inj hy2
    subst e
    refine ⟨fun h => ?_, fun c2 => ⟨by omega, hlt, fun y2 hy2 => ?_⟩⟩
    · have : outE y = 5 := by unfold outE; rw [if_neg c1, if_pos h]
      rw [bad (by rw [this]; decide), this]
    have e : y = y2 := by rw [hy] at hy2; exact Option.some.inj hy2
    subst e
    have hce : outE y = checkN y.cond := by unfold outE; rw [if_neg c1, if_neg c2]
    have hc := hs.c y (List.mem_of_getElem? hy)
    refine ⟨Nat.le_trans hc (by decide), fun h => ?_, fun h => ⟨by unfold inI64; omega, k + 1, ⟨by omega, ?_⟩, by omega, by omega⟩⟩
    · have h' : outE y ≠ 0 := by rw [hce]; simpa [checkN] using h
      rw [bad h', hce]
      rfl
    · have h' : outE y = 0 := by rw [hce]; simpa [checkN] using h
      rw [ho, if_pos h']
  · rw [hout, hk.2, List.drop_of_length_le (by omega)]
    rfl
theorem rcheck_ok : Fits F98 f36 (bodyOf f36) rcheckLS rcheckAnn := by
  constructor
  rw [← rcheck_eq]
  exact rcheck_vc
theorem f36_has : Has prog 36 f36 (bodyOf f36) := ⟨by kernel_rfl, by kernel_rfl, by kernel_rfl⟩
theorem known99 : Known prog L99 := by
  unfold L99
  exact known98.lent mixed f36_has F98_eq rcheck_ok (fun _ _ => Nat.le_refl _) (fun _ _ => rfl)
/-! ## The law -/
theorem Small.lens {t : TxD} (h : Small t) : Lens t where
  n := h.n
  m := h.m
  c := fun o ho => by
    have := weight_le ho
    have := h.w
    unfold weight at *
    omega
def checksTxVC : Prop := ∀ (x : TxD), Small x → (x.lock = x.lock ∧ x.ins = x.ins ∧ x.outs = x.outs ∧ True) ∧ True ∧ Small (TxD.mk x.lock x.ins x.outs) ∧ (longB (TxD.mk x.lock
  x.ins x.outs) = true → True ∧ True ∧ True ∧ true = true ∧ True ∧ True) ∧ (longB (TxD.mk x.lock x.ins x.outs) = false → (x.lock = x.lock ∧ x.ins = x.ins
  ∧ x.outs = x.outs ∧ True) ∧ True ∧ Small (TxD.mk x.lock x.ins x.outs) ∧ (x.lock = x.lock ∧ x.ins = x.ins ∧ x.outs = x.outs ∧ True) ∧ True ∧ True ∧
  (x.lock = x.lock ∧ x.ins = x.ins ∧ x.outs = x.outs ∧ True) ∧ True ∧ True ∧ (x.lock = x.lock ∧ x.ins = x.ins ∧ x.outs = x.outs ∧ True) ∧ True ∧ Small
  (TxD.mk x.lock x.ins x.outs) ∧ (x.lock = x.lock ∧ x.ins = x.ins ∧ x.outs = x.outs ∧ True) ∧ True ∧ True ∧ (x.lock = x.lock ∧ x.ins = x.ins ∧ x.outs =
  x.outs ∧ True) ∧ True ∧ Lens (TxD.mk x.lock x.ins x.outs) ∧ ((checkT (TxD.mk x.lock x.ins x.outs) == checkT (TxD.mk x.lock x.ins x.outs)) = true →
  (((totG x.outs (0 : Int)).fst == (totG x.outs (0 : Int)).fst) = true → (((totG x.outs (0 : Int)).snd == (totG x.outs (0 : Int)).snd) = true → True ∧
  True ∧ True ∧ true = true ∧ True ∧ True) ∧ (((totG x.outs (0 : Int)).snd == (totG x.outs (0 : Int)).snd) = false → true = false ∧ True ∧ True)) ∧
  (((totG x.outs (0 : Int)).fst == (totG x.outs (0 : Int)).fst) = false → true = false ∧ True ∧ True)) ∧ ((checkT (TxD.mk x.lock x.ins x.outs) == checkT
  (TxD.mk x.lock x.ins x.outs)) = false → true = false ∧ True ∧ True))

theorem checksTx_eq : checksTxVC = fnS F99 f8 (bodyOf f8) checksTxLS noAnn := by kernel_rfl
theorem checksTx_vc : checksTxVC := by
  intro t hs
  have h2 := hs.lens
  have h1 : Small (TxD.mk t.lock t.ins t.outs) := hs
  have h3 : Lens (TxD.mk t.lock t.ins t.outs) := h2
  simp only [h1, h3, and_self, beq_self_eq_true, implies_true, Bool.true_eq_false, false_implies]
theorem checksTx_ok : Fits F99 f8 (bodyOf f8) checksTxLS noAnn := by
  constructor
  rw [← checksTx_eq]
  exact checksTx_vc
theorem f8_has : Has prog 8 f8 (bodyOf f8) := ⟨by kernel_rfl, by kernel_rfl, by kernel_rfl⟩
end Go.Proofs.YtcglahfmnoghjaaDoor

/-! What the reading of a transaction comes to; TxChecks' call. Conditions: none. -/
namespace Go.Proofs.YtcglahfmnoghjaaDoor
open Go Go.Eng Go.Proofs.Tryd Go.ChangeShapes Go.WideShapes Go.RowKit

section
variable {H : Type} {enc : TypeId × Value → H} {w : World} {sp : Nat → Bool} {held : Bool}
theorem bulk_mem {d : DataW H} : ∀ {ds : List (DataW H)}, d ∈ ds → Rows.uptoBulk d ≤ Rows.uptoBulkAll ds
  | x :: ds, h => by
    simp only [Rows.uptoBulkAll]
    rcases List.mem_cons.1 h with e | h
    · subst e; omega
    · have := bulk_mem h; omega
theorem delems_all (d : DataW H) : Rows.uptoBulkAll (delems d) ≤ Rows.uptoBulk d := by
  cases d with
  | slice e sp => have := bulks.slice_elems e sp; simp only [delems]; omega
  | _ => simp [delems, Rows.uptoBulkAll]
structure GIn (x : TIn) (d : DataW H) : Prop where
  tx : x.tx.length = 32 ∧ Byt x.tx
  sec : x.secret.length ≤ Rows.uptoBulk d
  bytes : Byt x.secret
structure GOut (o : TOut) (d : DataW H) : Prop where
  wf : CondWf o.cond
  w : weight o.cond ≤ Rows.uptoBulk d
theorem rd_point_of {tP tL tI tE : TypeId} {fs : Array Field} (hP : prog.underlying tP = some (.struct fs)) (hfs : fs.toList.map (fun f => (f.type, f.offset)) = [(tL, 0), (tI, 32)]) (hL : prog.underlying tL = some (.array 32 tE)) (hE : prog.underlying tE = some (.int .u8))
    (hI : prog.underlying tI = some (.int .i64)) (cP : prog.cellsOf tP = 33) (cL : prog.cellsOf tL = 32) (cE : prog.cellsOf tE = 1) (cI : prog.cellsOf tI = 1) :
    RdT enc prog w sp held CC tP fun sl _ => ∃ p : Pt, sl = encPt p ∧ p.tx.length = 32 ∧ Byt p.tx := by
  match hl : fs.toList, hfs with
  | [f1, f2], hfs =>
    simp only [List.map_cons, List.map_nil, List.cons.injEq, Prod.mk.injEq, and_true] at hfs
    obtain ⟨⟨t1, o1⟩, t2, o2⟩ := hfs
    refine RdT.mono (rd_struct hP (by
      rw [hl]
      exact rd_fs_cons o1 (by rw [t1]; exact rd_arr hL hE cE cL) (rd_fs_cons (by rw [t1, cL, o2]) (by rw [t2]; exact rd_int hI) (rd_fs_nil (by rw [t1, t2, cL, cI, cP]; omega))))) ?_
    rintro sl d ⟨ds, rfl, s1, s2, d1, ds1, rfl, rfl, ⟨lk, rfl, h3, h4⟩, s3, s4, d2, ds2, rfl, rfl, ⟨n, rfl, h1⟩, rfl, rfl⟩
    exact ⟨⟨lk, n⟩, rfl, h3, fun y hy => wf8 (h4 y hy)⟩
  | [], hfs => simp at hfs
  | [_], hfs => simp at hfs
  | _ :: _ :: _ :: _, hfs => simp at hfs
theorem cells87 : prog.cellsOf 87 = 33 := by kernel_rfl
theorem rd_point : RdT enc prog w sp held CC 87 fun sl _ => ∃ p : Pt, sl = encPt p ∧ p.tx.length = 32 ∧ Byt p.tx :=
  rd_point_of underlying87 rfl underlying44 underlying5 underlying3 cells87 cells44 cells5 cells3
theorem rd_tin_of {tN tP tI tS tE : TypeId} {fs : Array Field} (hN : prog.underlying tN = some (.struct fs)) (hfs : fs.toList.map (fun f => (f.type, f.offset)) = [(tP, 0), (tI, 33), (tS, 34)]) (hP : tP = 87)
    (hI : prog.underlying tI = some (.int .i64)) (hS : prog.underlying tS = some (.slice tE)) (hE : prog.underlying tE = some (.int .u8)) (cN : prog.cellsOf tN = 35) (cI : prog.cellsOf tI = 1) (cS : prog.cellsOf tS = 1) (cE : prog.cellsOf tE = 1) :
    RdT enc prog w sp held CC tN fun sl d => ∃ x : AA 117, sl = CC.enc 117 x ∧ GIn (H := H) x d := by
  subst hP
  match hl : fs.toList, hfs with
  | [f1, f2, f3], hfs =>
    simp only [List.map_cons, List.map_nil, List.cons.injEq, Prod.mk.injEq, and_true] at hfs
    obtain ⟨⟨t1, o1⟩, ⟨t2, o2⟩, t3, o3⟩ := hfs
    refine RdT.mono (rd_struct hN (by
      rw [hl]
      exact rd_fs_cons o1 (by rw [t1]; exact rd_point) (rd_fs_cons (by rw [t1, cells87, o2]) (by rw [t2]; exact rd_int hI)
        (rd_fs_cons (by rw [t1, t2, cells87, cI, o3]) (by rw [t3]; exact rd_ints hS hE cE) (rd_fs_nil (by rw [t1, t2, t3, cells87, cI, cS, cN]; omega)))))) ?_
    rintro sl d ⟨ds, rfl, s1, s2, d1, ds1, rfl, rfl, ⟨p, rfl, h1, h2⟩, s3, s4, d2, ds2, rfl, rfl, ⟨n, rfl, _⟩, s5, s6, d3, ds3, rfl, rfl, ⟨xs, rfl, h3, h4⟩, rfl, rfl⟩
    refine ⟨TIn.mk p.tx p.n n xs, ?_, ⟨⟨h1, h2⟩, ?_, fun y hy => wf8 (h4 y hy)⟩⟩
    · rfl
    · have := delems_le d3
      simp only [Rows.uptoBulk, Rows.uptoBulkAll]
      omega
  | [], hfs => simp at hfs
  | [_], hfs => simp at hfs
  | [_, _], hfs => simp at hfs
  | _ :: _ :: _ :: _ :: _, hfs => simp at hfs
theorem cells117 : prog.cellsOf 117 = 35 := by kernel_rfl
theorem cells26' : prog.cellsOf 26 = 1 := by kernel_rfl
theorem rd_tin : RdT enc prog w sp held CC 117 fun sl d => ∃ x : AA 117, sl = CC.enc 117 x ∧ GIn (H := H) x d :=
  rd_tin_of underlying117 rfl rfl underlying3 underlying26 underlying5 cells117 cells3 cells26' cells5
theorem rd_tout_of {tO tI tC : TypeId} {fs : Array Field} (hO : prog.underlying tO = some (.struct fs)) (hfs : fs.toList.map (fun f => (f.type, f.offset)) = [(tI, 0), (tC, 1)]) (hI : prog.underlying tI = some (.int .i64)) (hC : tC = 24)
    (cO : prog.cellsOf tO = 2) (cI : prog.cellsOf tI = 1) :
    RdT enc prog w sp held CC tO fun sl d => ∃ x : AA 79, sl = CC.enc 79 x ∧ GOut (H := H) x d := by
  subst hC
  match hl : fs.toList, hfs with
  | [f1, f2], hfs =>
    simp only [List.map_cons, List.map_nil, List.cons.injEq, Prod.mk.injEq, and_true] at hfs
    obtain ⟨⟨t1, o1⟩, t2, o2⟩ := hfs
    refine RdT.mono (rd_struct hO (by
      rw [hl]
      exact rd_fs_cons o1 (by rw [t1]; exact rd_int hI) (rd_fs_cons (by rw [t1, cI, o2]) (by rw [t2]; exact rd_cond) (rd_fs_nil (by rw [t1, t2, cI, cells24, cO]; omega))))) ?_
    rintro sl d ⟨ds, rfl, s1, s2, d1, ds1, rfl, rfl, ⟨n, rfl, _⟩, s3, s4, d2, ds2, rfl, rfl, ⟨bs, rfl, h1, h2⟩, rfl, rfl⟩
    refine ⟨TOut.mk n bs, rfl, ⟨h1, ?_⟩⟩
    simp only [Rows.uptoBulk, Rows.uptoBulkAll]
    omega
  | [], hfs => simp at hfs
  | [_], hfs => simp at hfs
  | _ :: _ :: _ :: _, hfs => simp at hfs
theorem cells79 : prog.cellsOf 79 = 2 := by kernel_rfl
theorem rd_tout : RdT enc prog w sp held CC 79 fun sl d => ∃ x : AA 79, sl = CC.enc 79 x ∧ GOut (H := H) x d :=
  rd_tout_of underlying79 rfl underlying3 rfl cells79 cells3
theorem sumW_le : ∀ {os : List TOut} {ds : List (DataW H)}, os.length = ds.length → (∀ (j : Nat) y d, os[j]? = some y → ds[j]? = some d → GOut y d) → sumW os ≤ Rows.uptoBulkAll ds
  | [], [], _, _ => by simp [sumW]
  | o :: os, d :: ds, hl, h => by
    have h1 := (h 0 o d rfl rfl).w
    have h2 := sumW_le (os := os) (ds := ds) (by simpa using hl) (fun j y d' hy hd => h (j + 1) y d' (by simpa using hy) (by simpa using hd))
    simp only [sumW, Rows.uptoBulkAll]
    omega
  | [], _ :: _, hl, _ => by simp at hl
  | _ :: _, [], hl, _ => by simp at hl
theorem sumS_le : ∀ {xs : List TIn} {ds : List (DataW H)}, xs.length = ds.length → (∀ (j : Nat) y d, xs[j]? = some y → ds[j]? = some d → GIn y d) → sumS xs ≤ Rows.uptoBulkAll ds
  | [], [], _, _ => by simp [sumS]
  | o :: os, d :: ds, hl, h => by
    have h1 := (h 0 o d rfl rfl).sec
    have h2 := sumS_le (xs := os) (ds := ds) (by simpa using hl) (fun j y d' hy hd => h (j + 1) y d' (by simpa using hy) (by simpa using hd))
    simp only [sumS, Rows.uptoBulkAll]
    omega
  | [], _ :: _, hl, _ => by simp at hl
  | _ :: _, [], hl, _ => by simp at hl
structure TxIs (t : TxD) (n : Nat) : Prop where
  sum : sumS t.ins ≤ n
  ins : t.ins.length ≤ n
  outs : t.outs.length ≤ n
  w : sumW t.outs ≤ n
  i : ∀ x, x ∈ t.ins → (x.tx.length = 32 ∧ Byt x.tx) ∧ x.secret.length ≤ n ∧ Byt x.secret
  o : ∀ o, o ∈ t.outs → CondWf o.cond
theorem rd_tx_of {tT tI tA tB : TypeId} {fs : Array Field} (hT : prog.underlying tT = some (.struct fs)) (hfs : fs.toList.map (fun f => (f.type, f.offset)) = [(tI, 0), (tA, 1), (tB, 2)]) (hI : prog.underlying tI = some (.int .i64))
    (hA : prog.underlying tA = some (.slice 117)) (hB : prog.underlying tB = some (.slice 79)) (cT : prog.cellsOf tT = 3) (cI : prog.cellsOf tI = 1) (cA : prog.cellsOf tA = 1) (cB : prog.cellsOf tB = 1) :
    RdT enc prog w sp held CC tT fun sl d => ∃ t : TxD, sl = txRSL t ∧ TxIs t (Rows.uptoBulk d) := by
  match hl : fs.toList, hfs with
  | [f1, f2, f3], hfs =>
    simp only [List.map_cons, List.map_nil, List.cons.injEq, Prod.mk.injEq, and_true] at hfs
    obtain ⟨⟨t1, o1⟩, ⟨t2, o2⟩, t3, o3⟩ := hfs
    refine RdT.mono (rd_struct hT (by
      rw [hl]
      exact rd_fs_cons o1 (by rw [t1]; exact rd_int hI) (rd_fs_cons (by rw [t1, cI, o2]) (by rw [t2]; exact rd_seq (u := 117) (G := fun x d => GIn (H := H) x d) hA cells117 (by decide) rd_tin)
        (rd_fs_cons (by rw [t1, t2, cI, cA, o3]) (by rw [t3]; exact rd_seq (u := 79) (G := fun x d => GOut (H := H) x d) hB cells79 (by decide) rd_tout) (rd_fs_nil (by rw [t1, t2, t3, cI, cA, cB, cT]; omega)))))) ?_
    rintro sl d ⟨ds, rfl, s1, s2, d1, ds1, rfl, rfl, ⟨n, rfl, _⟩, s3, s4, d2, ds2, rfl, rfl, ⟨xs, rfl, h1, h2⟩, s5, s6, d3, ds3, rfl, rfl, ⟨os, rfl, h3, h4⟩, rfl, rfl⟩
    have g1 := delems_le d2
    have g2 := delems_le d3
    have g3 := delems_all d2
    have g4 := delems_all d3
    have g5 := sumW_le (os := os) h3 h4
    have hb : Rows.uptoBulk d2 + Rows.uptoBulk d3 ≤ Rows.uptoBulk (.agg [d1, d2, d3]) := by
      simp only [Rows.uptoBulk, Rows.uptoBulkAll]
      omega
    have g6 := sumS_le (xs := xs) h1 h2
    refine ⟨TxD.mk n xs os, rfl, ⟨?_, ?_, ?_, ?_, fun x hx => ?_, fun o ho => ?_⟩⟩
    · show sumS xs ≤ _
      omega
    · have : xs.length = (delems d2).length := h1
      show xs.length ≤ _
      omega
    · have : os.length = (delems d3).length := h3
      show os.length ≤ _
      omega
    · show sumW os ≤ _
      omega
    · obtain ⟨j, hj⟩ := List.getElem?_of_mem hx
      have hl2 : j < (delems d2).length := by
        have := (List.getElem?_eq_some_iff.1 hj).1
        rw [← h1]; exact this
      have hd := List.getElem?_eq_getElem hl2
      have h5 := h2 j x _ hj hd
      have h6 := bulk_mem (List.mem_of_getElem? hd)
      exact ⟨h5.tx, by have := h5.sec; omega, h5.bytes⟩
    · obtain ⟨j, hj⟩ := List.getElem?_of_mem ho
      have hl2 : j < (delems d3).length := by
        have := (List.getElem?_eq_some_iff.1 hj).1
        rw [← h3]; exact this
      exact (h4 j o _ hj (List.getElem?_eq_getElem hl2)).wf
  | [], hfs => simp at hfs
  | [_], hfs => simp at hfs
  | [_, _], hfs => simp at hfs
  | _ :: _ :: _ :: _ :: _, hfs => simp at hfs
theorem cells63 : prog.cellsOf 63 = 3 := by kernel_rfl
theorem cells60 : prog.cellsOf 60 = 1 := by kernel_rfl
theorem cells61 : prog.cellsOf 61 = 1 := by kernel_rfl
theorem rd_tx : RdT enc prog w sp held CC 63 fun sl d => ∃ t : TxD, sl = txRSL t ∧ TxIs t (Rows.uptoBulk d) :=
  rd_tx_of underlying63 rfl underlying3 underlying60 underlying61 cells63 cells3 cells60 cells61
end
theorem TxIs.small {t : TxD} {n : Nat} (h : TxIs t n) (hn : n ≤ 1048576) : Small t where
  n := Nat.le_trans h.ins (by omega)
  m := Nat.le_trans h.outs (by omega)
  s := fun x hx => Nat.le_trans (h.i x hx).2.1 (by omega)
  w := Nat.le_trans h.w (by omega)
theorem TxIs.ok {t : TxD} {n : Nat} (h : TxIs t n) (hn : n ≤ 1048576) : TxOk t where
  n := Nat.le_trans h.ins (by omega)
  m := Nat.le_trans h.outs (by omega)
  w := Nat.le_trans h.w (by omega)
  tx := fun x hx => (h.i x hx).1
  locks := fun o ho => ⟨fun b hb => (h.o o ho b hb).lock, fun b hb y hy => wf8 ((h.o o ho b hb).bytes y hy)⟩
theorem checksTx_calls {W : World} {vs : List Value} {t : TxD} (hx : Small t) (ha : ArgsR NoO [] W CC [.agg (txRSL t)] vs) (hg : Glob GG NoO [] W CC) :
    Calls prog 8 vs.toArray W fun e W' => e = .returned (.bool true) ∧ Below W.heap.size W W' := by
  have hS : Sound F99 := by rw [F99_eq]; exact sound mixed known99
  exact law_calls (ee_P F99_eq) hS f8_has checksTx_ok t hx rfl rfl (fun _ _ => Nat.le_refl _) (by rw [ee_C F99_eq]; exact ha) (by rw [ee_GL F99_eq, ee_C F99_eq]; exact hg)
end Go.Proofs.YtcglahfmnoghjaaDoor

/-! A transaction's bytes; TxSecrets: what is said of them. Conditions: none. -/
namespace Go.Proofs.YtcglahfmnoghjaaDoor
open Go Go.Eng Go.Proofs.Tryd

/-- What a closure hands back: the secret. -/
def shownLS : LS AA where
  X := TIn
  pre := fun _ => True
  args := fun x => [.agg (tinSL x)]
  hin := fun _ => []
  res := fun x => [.rints .u8 x.secret]
  hout := fun _ => []
noncomputable def L110 : List (Nat × SpecT AA) := (72, tLent shownLS tinGet) :: L99
noncomputable def F110 : Eng AA := EF prog L110
theorem F110_eq : F110 = EF prog L110 := by
  unfold F110
  rfl
noncomputable def L111 : List (Nat × SpecT AA) := (70, tInline F110 f70 (bodyOf f70) tputAnn) :: L110
noncomputable def F111 : Eng AA := EF prog L111
theorem F111_eq : F111 = EF prog L111 := by
  unfold F111
  rfl
structure EncOk (t : TxD) : Prop extends TxOk t where
  s : sumS t.ins ≤ 3000000
noncomputable def encLS : LS AA where
  X := TxD
  pre := EncOk
  args := fun t => [.agg (txSL t)]
  hin := fun _ => []
  res := fun _ => [.vec 0]
  hout := fun t => [.ivec 5 .u8 (putTx (fun x => x.secret) t)]
noncomputable def L112 : List (Nat × SpecT AA) := (38, tLent encLS txGet) :: L111
noncomputable def F112 : Eng AA := EF prog L112
theorem F112_eq : F112 = EF prog L112 := by
  unfold F112
  rfl
/-! ## The law -/
structure SecX where
  t : TxD
  n : Int
  s : List Int
structure SecX.Ok (x : SecX) : Prop extends Small x.t, TxOk x.t where
  sum : sumS x.t.ins ≤ 2000000
  bytes : ∀ y, y ∈ x.t.ins → Byt y.secret
noncomputable def secretsLS : LS AA where
  X := SecX
  pre := SecX.Ok
  args := fun x => [.agg (txRSL x.t), .int .i64 x.n, .rints .u8 x.s]
  hin := fun _ => []
  res := fun _ => [.sb 0 true]
  hout := fun _ => []
end Go.Proofs.YtcglahfmnoghjaaDoor

/-! A transaction's bytes: the walk holds. Conditions: none. -/
namespace Go.Proofs.YtcglahfmnoghjaaDoor
open Go Go.Eng Go.Proofs.Tryd

def shownVC : Prop := ∀ (x : TIn), True → x.secret = x.secret ∧ True ∧ True

theorem shown_eq : shownVC = fnS F99 f72 (bodyOf f72) shownLS noAnn := by kernel_rfl
theorem shown_ok : Fits F99 f72 (bodyOf f72) shownLS noAnn := by
  constructor
  rw [← shown_eq]
  exact fun _ _ => ⟨rfl, trivial, trivial⟩
theorem f72_has : Has prog 72 f72 (bodyOf f72) := ⟨by kernel_rfl, by kernel_rfl, by kernel_rfl⟩
theorem known110 : Known prog L110 := by
  unfold L110
  exact known99.lent mixed f72_has F99_eq shown_ok (fun _ _ => Nat.le_refl _) (fun _ _ => rfl)
theorem known111 : Known prog L111 := by
  unfold L111
  exact known110.inl mixed f70_has F110_eq (by rfl)
/-! What the walk speaks of, in short. -/
def eA2 (x : TxD) (k : Nat) : List Int := tA1 x ++ insB (secOf (72 : Nat)) (List.take k x.ins)
def eA3 (x : TxD) (k : Nat) (y : TIn) : List Int := eA2 x k ++ y.tx
def eA4 (x : TxD) (k : Nat) (y : TIn) : List Int := eA3 x k y ++ uintB (wr IntKind.u64 y.n)
def eA5 (x : TxD) (k : Nat) (y : TIn) : List Int := eA4 x k y ++ uintB (wr IntKind.u64 y.branch)
def eA6 (x : TxD) (k : Nat) : List Int := eA2 x k ++ uintB (wr IntKind.u64 (↑x.outs.length : Int))
def eA7 (x : TxD) (k i : Nat) : List Int := eA6 x k ++ toutsB (List.take i x.outs)
def eH (x : TxD) : Prop := ((x.lock = x.lock ∧ x.ins = x.ins ∧ x.outs = x.outs ∧ True) ∧ (x.lock = x.lock ∧ x.ins = x.ins ∧ x.outs = x.outs ∧ True) ∧ (True ∧ True) ∧ True)
def eH2 (x : TxD) (k : Nat) : Prop := ((x.lock = x.lock ∧ x.ins = x.ins ∧ x.outs = x.outs ∧ True) ∧ (x.lock = x.lock ∧ x.ins = x.ins ∧ x.outs = x.outs ∧ True) ∧ (True ∧ True) ∧ eA6 x k = eA6 x k ∧ True)
theorem eH_ok (x : TxD) : eH x := ⟨⟨rfl, rfl, rfl, trivial⟩, ⟨rfl, rfl, rfl, trivial⟩, ⟨trivial, trivial⟩, trivial⟩
theorem eH2_ok (x : TxD) (k : Nat) : eH2 x k := ⟨⟨rfl, rfl, rfl, trivial⟩, ⟨rfl, rfl, rfl, trivial⟩, ⟨trivial, trivial⟩, rfl, trivial⟩
def eF (x : TxD) (k : Nat) (y : TIn) : Prop := inI64 ((↑k : Int) + (1 : Int)) ∧ ∃ y_1, Nat.le y_1 x.ins.length ∧ x.ins.length - y_1 < x.ins.length - k ∧ (↑y_1 : Int) = (↑k : Int) + (1 : Int) ∧ eH x ∧ tA1 x ++ insB (secOf (72 : Nat)) (List.take y_1 x.ins) = eA5 x k y ++ bytesB y.secret ∧ True
def eG (x : TxD) (k : Nat) (y : TIn) : Prop := (y.tx = y.tx ∧ y.n = y.n ∧ y.branch = y.branch ∧ y.secret = y.secret ∧ True) ∧ True ∧ True ∧ (True ∧ y.secret = y.secret) ∧ ((True ∧ True) ∧ eA5 x k y = eA5 x k y ∧ True) ∧ (BB.mk (eA5 x k y) y.secret).Ok ∧ eF x k y
def eK (x : TxD) (k : Nat) (y : TIn) : Prop := (True ∧ wr IntKind.u64 y.branch = wr IntKind.u64 y.branch) ∧ ((True ∧ True) ∧ eA4 x k y = eA4 x k y ∧ True) ∧ (BN.mk (eA4 x k y) (wr IntKind.u64 y.branch)).Low ∧ eG x k y
def eL (x : TxD) (k : Nat) (y : TIn) : Prop := (True ∧ wr IntKind.u64 y.n = wr IntKind.u64 y.n) ∧ ((True ∧ True) ∧ eA3 x k y = eA3 x k y ∧ True) ∧ (BN.mk (eA3 x k y) (wr IntKind.u64 y.n)).Low ∧ eK x k y
def eM (x : TxD) (k i : Nat) (y : TOut) : Prop := ((eA7 x k i).length + (tA8 y).length) * (1 : Nat) ≤ (140737488355328 : Nat) ∧ (eA7 x k i).length + (tA8 y).length ≤ (1152921504606846976 : Nat) ∧ (eA7 x k i ++ (tA8 y) = eA7 x k i ++ (tA8 y) ∧ y.cond = y.cond ∧ True) ∧ True ∧ (PutX.mk (eA7 x k i ++ (tA8 y)) y.cond).Ok ∧ inI64 ((↑i : Int) + (1 : Int)) ∧ ∃ y_1, Nat.le y_1 x.outs.length ∧ x.outs.length - y_1 < x.outs.length - i ∧ ((↑y_1 : Int) = (↑i : Int) + (1 : Int) ∧ True) ∧ eH2 x k ∧ eA6 x k ++ toutsB (List.take y_1 x.outs) = eA7 x k i ++ (tA8 y) ++ putB y.cond ∧ True
def eBody (x : TxD) : Prop := ((↑x.ins.length : Int) ≤ (9223372036854775807 : Int) → (∃ x_1, Nat.le x_1 x.ins.length ∧ (↑x_1 : Int) = (0 : Int) ∧ eH x ∧ eA2 x x_1 = tA1 x ∧ True) ∧
  ∀ (x_1 : Nat), x_1.le x.ins.length → (decide ((↑x_1 : Int) < (↑x.ins.length : Int)) = true → (0 : Int) ≤ (↑x_1 : Int) ∧ (↑x_1 : Int) < (↑x.ins.length :
  Int) ∧ ∀ (y : AA (83 : Nat)), x.ins[(↑x_1 : Int).toNat]? = some y → ((True ∧ y.tx = y.tx ∧ True) ∧ ((True ∧ True) ∧ eA2 x x_1 = eA2 x x_1 ∧ True) ∧
  (BH.mk (eA2 x x_1) y.tx).Ok ∧ ((True ∧ wr IntKind.u64 y.n = wr IntKind.u64 y.n) ∧ ((True ∧ True) ∧ eA3 x x_1 y = eA3 x x_1 y ∧ True) ∧ (BN.mk (eA3 x
  x_1 y) (wr IntKind.u64 y.n)).Low ∧ (eK x x_1 y) ∧ eK x x_1 y) ∧ (((True ∧ wr IntKind.u64 y.n = wr IntKind.u64 y.n) ∧ ((True ∧ True) ∧ eA3 x x_1 y = eA3
  x x_1 y ∧ True) ∧ (BN.mk (eA3 x x_1 y) (wr IntKind.u64 y.n)).Low ∧ (eK x x_1 y) ∧ eK x x_1 y) ∧ eL x x_1 y) ∧ (eL x x_1 y) ∧ eL x x_1 y) ∧ (((True ∧
  y.tx = y.tx ∧ True) ∧ ((True ∧ True) ∧ eA2 x x_1 = eA2 x x_1 ∧ True) ∧ (BH.mk (eA2 x x_1) y.tx).Ok ∧ ((True ∧ wr IntKind.u64 y.n = wr IntKind.u64 y.n)
  ∧ ((True ∧ True) ∧ eA3 x x_1 y = eA3 x x_1 y ∧ True) ∧ (BN.mk (eA3 x x_1 y) (wr IntKind.u64 y.n)).Low ∧ (eK x x_1 y) ∧ eK x x_1 y) ∧ (((True ∧ wr
  IntKind.u64 y.n = wr IntKind.u64 y.n) ∧ ((True ∧ True) ∧ eA3 x x_1 y = eA3 x x_1 y ∧ True) ∧ (BN.mk (eA3 x x_1 y) (wr IntKind.u64 y.n)).Low ∧ (eK x x_1
  y) ∧ eK x x_1 y) ∧ eL x x_1 y) ∧ (eL x x_1 y) ∧ eL x x_1 y) ∧ (((True ∧ y.tx = y.tx ∧ True) ∧ ((True ∧ True) ∧ eA2 x x_1 = eA2 x x_1 ∧ True) ∧ (BH.mk
  (eA2 x x_1) y.tx).Ok ∧ ((True ∧ wr IntKind.u64 y.n = wr IntKind.u64 y.n) ∧ ((True ∧ True) ∧ eA3 x x_1 y = eA3 x x_1 y ∧ True) ∧ (BN.mk (eA3 x x_1 y)
  (wr IntKind.u64 y.n)).Low ∧ (eK x x_1 y) ∧ eK x x_1 y) ∧ eL x x_1 y) ∧ (True ∧ y.tx = y.tx ∧ True) ∧ ((True ∧ True) ∧ eA2 x x_1 = eA2 x x_1 ∧ True) ∧
  (BH.mk (eA2 x x_1) y.tx).Ok ∧ eL x x_1 y) ∧ ((True ∧ y.tx = y.tx ∧ True) ∧ ((True ∧ True) ∧ eA2 x x_1 = eA2 x x_1 ∧ True) ∧ (BH.mk (eA2 x x_1) y.tx).Ok
  ∧ (eL x x_1 y) ∧ eL x x_1 y) ∧ (True ∧ y.tx = y.tx ∧ True) ∧ ((True ∧ True) ∧ eA2 x x_1 = eA2 x x_1 ∧ True) ∧ (BH.mk (eA2 x x_1) y.tx).Ok ∧ eL x x_1 y)
  ∧ (((True ∧ y.tx = y.tx ∧ True) ∧ ((True ∧ True) ∧ eA2 x x_1 = eA2 x x_1 ∧ True) ∧ (BH.mk (eA2 x x_1) y.tx).Ok ∧ ((True ∧ wr IntKind.u64 y.n = wr
  IntKind.u64 y.n) ∧ ((True ∧ True) ∧ eA3 x x_1 y = eA3 x x_1 y ∧ True) ∧ (BN.mk (eA3 x x_1 y) (wr IntKind.u64 y.n)).Low ∧ (eK x x_1 y) ∧ eK x x_1 y) ∧
  eL x x_1 y) ∧ (((True ∧ y.tx = y.tx ∧ True) ∧ ((True ∧ True) ∧ eA2 x x_1 = eA2 x x_1 ∧ True) ∧ (BH.mk (eA2 x x_1) y.tx).Ok ∧ ((True ∧ wr IntKind.u64
  y.n = wr IntKind.u64 y.n) ∧ ((True ∧ True) ∧ eA3 x x_1 y = eA3 x x_1 y ∧ True) ∧ (BN.mk (eA3 x x_1 y) (wr IntKind.u64 y.n)).Low ∧ (eK x x_1 y) ∧ eK x
  x_1 y) ∧ eL x x_1 y) ∧ (True ∧ y.tx = y.tx ∧ True) ∧ ((True ∧ True) ∧ eA2 x x_1 = eA2 x x_1 ∧ True) ∧ (BH.mk (eA2 x x_1) y.tx).Ok ∧ eL x x_1 y) ∧
  ((True ∧ y.tx = y.tx ∧ True) ∧ ((True ∧ True) ∧ eA2 x x_1 = eA2 x x_1 ∧ True) ∧ (BH.mk (eA2 x x_1) y.tx).Ok ∧ eL x x_1 y) ∧ (True ∧ y.tx = y.tx ∧ True)
  ∧ ((True ∧ True) ∧ eA2 x x_1 = eA2 x x_1 ∧ True) ∧ (BH.mk (eA2 x x_1) y.tx).Ok ∧ eL x x_1 y) ∧ ((True ∧ y.tx = y.tx ∧ True) ∧ ((True ∧ True) ∧ eA2 x
  x_1 = eA2 x x_1 ∧ True) ∧ (BH.mk (eA2 x x_1) y.tx).Ok ∧ (eL x x_1 y) ∧ eL x x_1 y) ∧ (((True ∧ y.tx = y.tx ∧ True) ∧ ((True ∧ True) ∧ eA2 x x_1 = eA2 x
  x_1 ∧ True) ∧ (BH.mk (eA2 x x_1) y.tx).Ok ∧ (eL x x_1 y) ∧ eL x x_1 y) ∧ (True ∧ y.tx = y.tx ∧ True) ∧ ((True ∧ True) ∧ eA2 x x_1 = eA2 x x_1 ∧ True) ∧
  (BH.mk (eA2 x x_1) y.tx).Ok ∧ eL x x_1 y) ∧ ((True ∧ y.tx = y.tx ∧ True) ∧ ((True ∧ True) ∧ eA2 x x_1 = eA2 x x_1 ∧ True) ∧ (BH.mk (eA2 x x_1) y.tx).Ok
  ∧ eL x x_1 y) ∧ (True ∧ y.tx = y.tx ∧ True) ∧ ((True ∧ True) ∧ eA2 x x_1 = eA2 x x_1 ∧ True) ∧ (BH.mk (eA2 x x_1) y.tx).Ok ∧ eL x x_1 y) ∧ (decide
  ((↑x_1 : Int) < (↑x.ins.length : Int)) = false → (↑x.outs.length : Int) ≤ (9223372036854775807 : Int) → (True ∧ wr IntKind.u64 (↑x.outs.length : Int) =
  wr IntKind.u64 (↑x.outs.length : Int)) ∧ ((True ∧ True) ∧ eA2 x x_1 = eA2 x x_1 ∧ True) ∧ (BN.mk (eA2 x x_1) (wr IntKind.u64 (↑x.outs.length :
  Int))).Low ∧ True ∧ ((True ∧ True) ∧ eA6 x x_1 = eA6 x x_1 ∧ True) ∧ (eA6 x x_1).length.le (1099511627776 : Nat) ∧ ((↑x.outs.length : Int) ≤
  (9223372036854775807 : Int) → (∃ x_2, Nat.le x_2 x.outs.length ∧ ((↑x_2 : Int) = (0 : Int) ∧ True) ∧ eH2 x x_1 ∧ eA7 x x_1 x_2 = eA6 x x_1 ∧ True) ∧ ∀
  (x_2 : Nat), x_2.le x.outs.length → (decide ((↑x_2 : Int) < (↑x.outs.length : Int)) = true → (0 : Int) ≤ (↑x_2 : Int) ∧ (↑x_2 : Int) < (↑x.outs.length
  : Int) ∧ ∀ (y : AA (77 : Nat)), x.outs[(↑x_2 : Int).toNat]? = some y → (True ∧ True ∧ True ∧ ((True ∧ wr IntKind.u64 y.amount = wr IntKind.u64
  y.amount) ∧ ((SV.val (A := AA) (Value.slice none (0 : Nat) (0 : Nat)) = SV.val (A := AA) (Value.slice none (0 : Nat) (0 : Nat)) ∧ True) ∧ ([] : List
  Int) = [] ∧ True) ∧ (BN.mk [] (wr IntKind.u64 y.amount)).Low ∧ (True ∧ ((True ∧ True) ∧ tA8 y = tA8 y ∧ True) ∧ (tA8 y).length.le (1099511627776 : Nat)
  ∧ (eM x x_1 x_2 y) ∧ eM x x_1 x_2 y) ∧ True ∧ ((True ∧ True) ∧ tA8 y = tA8 y ∧ True) ∧ (tA8 y).length.le (1099511627776 : Nat) ∧ eM x x_1 x_2 y) ∧
  (True ∧ wr IntKind.u64 y.amount = wr IntKind.u64 y.amount) ∧ ((SV.val (A := AA) (Value.slice none (0 : Nat) (0 : Nat)) = SV.val (A := AA) (Value.slice
  none (0 : Nat) (0 : Nat)) ∧ True) ∧ ([] : List Int) = [] ∧ True) ∧ (BN.mk [] (wr IntKind.u64 y.amount)).Low ∧ True ∧ ((True ∧ True) ∧ tA8 y = tA8 y ∧
  True) ∧ (tA8 y).length.le (1099511627776 : Nat) ∧ eM x x_1 x_2 y) ∧ True ∧ True ∧ True ∧ (True ∧ wr IntKind.u64 y.amount = wr IntKind.u64 y.amount) ∧
  ((SV.val (A := AA) (Value.slice none (0 : Nat) (0 : Nat)) = SV.val (A := AA) (Value.slice none (0 : Nat) (0 : Nat)) ∧ True) ∧ ([] : List Int) = [] ∧
  True) ∧ (BN.mk [] (wr IntKind.u64 y.amount)).Low ∧ True ∧ ((True ∧ True) ∧ tA8 y = tA8 y ∧ True) ∧ (tA8 y).length.le (1099511627776 : Nat) ∧ eM x x_1
  x_2 y) ∧ (decide ((↑x_2 : Int) < (↑x.outs.length : Int)) = false → True ∧ True ∧ putTx (fun x => x.secret) x = eA7 x x_1 x_2 ∧ True))))

def tencVC : Prop := ∀ (x : TxD), EncOk x → (True ∧ True ∧ True ∧ ((True ∧ wr IntKind.u64 x.lock = wr IntKind.u64 x.lock) ∧ (((SV.val (A := AA) (Value.slice none (0 : Nat)
  (0 : Nat)) : SV AA) = SV.val (A := AA) (Value.slice none (0 : Nat) (0 : Nat)) ∧ True) ∧ ([] : List Int) = [] ∧ True) ∧ (BN.mk [] (wr IntKind.u64
  x.lock)).Low ∧ ((↑x.ins.length : Int) ≤ (9223372036854775807 : Int) → (True ∧ wr IntKind.u64 (↑x.ins.length : Int) = wr IntKind.u64 (↑x.ins.length :
  Int)) ∧ ((True ∧ True) ∧ tA0 x = tA0 x ∧ True) ∧ (BN.mk (tA0 x) (wr IntKind.u64 (↑x.ins.length : Int))).Low ∧ eBody x)) ∧ ((↑x.ins.length : Int) ≤
  (9223372036854775807 : Int) → (True ∧ wr IntKind.u64 x.lock = wr IntKind.u64 x.lock) ∧ (((SV.val (A := AA) (Value.slice none (0 : Nat) (0 : Nat)) : SV
  AA) = SV.val (A := AA) (Value.slice none (0 : Nat) (0 : Nat)) ∧ True) ∧ ([] : List Int) = [] ∧ True) ∧ (BN.mk [] (wr IntKind.u64 x.lock)).Low ∧ (True ∧
  wr IntKind.u64 (↑x.ins.length : Int) = wr IntKind.u64 (↑x.ins.length : Int)) ∧ ((True ∧ True) ∧ tA0 x = tA0 x ∧ True) ∧ (BN.mk (tA0 x) (wr IntKind.u64
  (↑x.ins.length : Int))).Low ∧ eBody x)) ∧ ((↑x.ins.length : Int) ≤ (9223372036854775807 : Int) → True ∧ True ∧ True ∧ (True ∧ wr IntKind.u64 x.lock =
  wr IntKind.u64 x.lock) ∧ (((SV.val (A := AA) (Value.slice none (0 : Nat) (0 : Nat)) : SV AA) = SV.val (A := AA) (Value.slice none (0 : Nat) (0 : Nat))
  ∧ True) ∧ ([] : List Int) = [] ∧ True) ∧ (BN.mk [] (wr IntKind.u64 x.lock)).Low ∧ (True ∧ wr IntKind.u64 (↑x.ins.length : Int) = wr IntKind.u64
  (↑x.ins.length : Int)) ∧ ((True ∧ True) ∧ tA0 x = tA0 x ∧ True) ∧ (BN.mk (tA0 x) (wr IntKind.u64 (↑x.ins.length : Int))).Low ∧ eBody x)

theorem tenc_eq : tencVC = fnS F111 f38 (bodyOf f38) encLS noAnn := by kernel_rfl
theorem insS_le : ∀ {l : List TIn}, (∀ x, x ∈ l → x.tx.length = 32) → (insB (secOf 72) l).length ≤ 52 * l.length + 2 * sumS l
  | [], _ => by simp [insB]
  | x :: l, h => by
    have h1 := insS_le (l := l) (fun y hy => h y (List.mem_cons_of_mem _ hy))
    have h2 := h x List.mem_cons_self
    have h3 := uintB_le x.n
    have h4 := uintB_le x.branch
    have h5 := stuffB_le x.secret
    have e : secOf 72 x = x.secret := rfl
    simp only [insB, inB, bytesB, e, sumS, List.length_append, List.length_cons, List.length_nil]
    omega
theorem insS_take_le {l : List TIn} (h : ∀ x, x ∈ l → x.tx.length = 32) (i : Nat) : (insB (secOf 72) (l.take i)).length ≤ 52 * l.length + 2 * sumS l := by
  have h1 := insS_le h
  have h2 := congrArg (fun x => (insB (secOf 72) x).length) (List.take_append_drop i l)
  simp only [insB_app, List.length_append] at h2
  omega
theorem sec_le : ∀ {l : List TIn} {x : TIn}, x ∈ l → x.secret.length ≤ sumS l
  | y :: l, x, h => by
    simp only [sumS]
    rcases List.mem_cons.1 h with rfl | h
    · omega
    · have := sec_le h; omega
theorem eA2_le {x : TxD} (h : EncOk x) (k : Nat) : (eA2 x k).length ≤ 18 + (52 * x.ins.length + 2 * sumS x.ins) := by
  have h1 := tA1_le x
  have h2 := insS_take_le (fun y hy => (h.tx y hy).1) k
  simp only [eA2, List.length_append]
  omega
theorem eA6_le {x : TxD} (h : EncOk x) (k : Nat) : (eA6 x k).length ≤ 27 + (52 * x.ins.length + 2 * sumS x.ins) := by
  have h1 := eA2_le h k
  have h2 := uintB_le (x.outs.length : Int)
  simp only [eA6, List.length_append]
  omega
theorem eA7_le {x : TxD} (h : EncOk x) (k i : Nat) : (eA7 x k i).length ≤ 27 + (52 * x.ins.length + 2 * sumS x.ins) + 18 * x.outs.length + 59 * sumW x.outs := by
  have h1 := eA6_le h k
  have h2 := toutsB_take_le (fun o ho => (h.locks o ho).1) i
  simp only [eA7, List.length_append]
  omega
theorem eF_ok {x : TxD} (hx : EncOk x) {k : Nat} (hk : k < x.ins.length) {y : TIn} (hy : x.ins[k]? = some y) : eF x k y := by
  have h1 := hx.n
  refine ⟨by unfold inI64; omega, k + 1, hk, by omega, by omega, eH_ok x, ?_, trivial⟩
  rw [insB_up hy]
  simp only [eA5, eA4, eA3, eA2, inB, List.append_assoc]
  rfl
theorem eG_ok {x : TxD} (hx : EncOk x) {k : Nat} (hk : k < x.ins.length) {y : TIn} (hy : x.ins[k]? = some y) : eG x k y := by
  have h1 := hx.n
  have h2 := eA2_le hx k
  have h3 := (hx.tx y (List.mem_of_getElem? hy)).1
  have h4 := uintB_le y.n
  have h5 := uintB_le y.branch
  have h6 := hx.s
  have h7 := sec_le (List.mem_of_getElem? hy)
  refine ⟨⟨rfl, rfl, rfl, rfl, trivial⟩, trivial, trivial, ⟨trivial, rfl⟩, ⟨⟨trivial, trivial⟩, rfl, trivial⟩, ⟨?_, show y.secret.length ≤ 1000000000 by omega⟩, eF_ok hx hk hy⟩
  simp only [eA5, eA4, eA3, List.length_append]
  omega
theorem eK_ok {x : TxD} (hx : EncOk x) {k : Nat} (hk : k < x.ins.length) {y : TIn} (hy : x.ins[k]? = some y) : eK x k y := by
  have h1 := hx.n
  have h2 := eA2_le hx k
  have h3 := (hx.tx y (List.mem_of_getElem? hy)).1
  have h4 := uintB_le y.n
  have h6 := hx.s
  refine ⟨⟨trivial, rfl⟩, ⟨⟨trivial, trivial⟩, rfl, trivial⟩, low_of ?_, eG_ok hx hk hy⟩
  simp only [eA4, eA3, List.length_append]
  omega
theorem eL_ok {x : TxD} (hx : EncOk x) {k : Nat} (hk : k < x.ins.length) {y : TIn} (hy : x.ins[k]? = some y) : eL x k y := by
  have h1 := hx.n
  have h2 := eA2_le hx k
  have h3 := (hx.tx y (List.mem_of_getElem? hy)).1
  have h6 := hx.s
  refine ⟨⟨trivial, rfl⟩, ⟨⟨trivial, trivial⟩, rfl, trivial⟩, low_of ?_, eK_ok hx hk hy⟩
  simp only [eA3, List.length_append]
  omega
theorem eM_ok {x : TxD} (hx : EncOk x) (k : Nat) {i : Nat} (hi : i < x.outs.length) {y : TOut} (hy : x.outs[i]? = some y) : eM x k i y := by
  have h1 := hx.n
  have h2 := hx.m
  have h3 := hx.w
  have h4 := eA7_le hx k i
  have h5 := uintB_le y.amount
  have h6 := weight_sum (List.mem_of_getElem? hy)
  have h8 := hx.s
  have h7 : (tA8 y).length ≤ 9 := by simp only [tA8, List.nil_append]; exact h5
  refine ⟨by omega, by omega, ⟨rfl, rfl, trivial⟩, trivial, ⟨?_, show weight y.cond ≤ 2000000 by omega, (hx.locks y (List.mem_of_getElem? hy)).1⟩, by unfold inI64; omega, i + 1, hi, by omega, ⟨by omega, trivial⟩, eH2_ok x k, ?_, trivial⟩
  · simp only [List.length_append]
    omega
  · rw [toutsB_up hy]
    simp only [eA7, tA8, toutB, List.nil_append, List.append_assoc]
theorem eA7_all {x : TxD} {k i : Nat} (hk : x.ins.length ≤ k) (hi : x.outs.length ≤ i) : eA7 x k i = putTx (fun y => y.secret) x := by
  simp only [eA7, eA6, eA2, tA1, putTx, List.take_of_length_le hk, List.take_of_length_le hi, List.nil_append]
  rfl
theorem eBody_ok {x : TxD} (hx : EncOk x) : eBody x := by
  have h1 := hx.n
  have h2 := hx.m
  have h3 := hx.w
  have h0 := hx.s
  unfold eBody
  simp only [true_and, and_true, decide_eq_true_eq, decide_eq_false_iff_not, Int.toNat_natCast, eH_ok, eH2_ok]
  refine fun _ => ⟨⟨0, Nat.zero_le _, rfl, by simp [eA2, insB]⟩, fun k hk => ⟨fun h => ?_, fun h _ => ?_⟩⟩
  · have hk' : k < x.ins.length := by omega
    refine ⟨by omega, h, fun y hy => ?_⟩
    have p1 := eL_ok hx hk' (y := y) hy
    have p2 := eK_ok hx hk' (y := y) hy
    have p3 := eA2_le hx k
    have p4 : y.tx.length = 32 := (hx.tx y (List.mem_of_getElem? hy)).1
    have p5 : (BH.mk (eA2 x k) y.tx).Ok := ⟨show (eA2 x k).length ≤ 1099511627776 by omega, p4⟩
    have p6 : (BN.mk (eA3 x k y) (wr .u64 y.n)).Low := p1.2.2.1
    simp only [p1, p2, p5, p6, and_self]
  · have q1 := eA2_le hx k
    have q2 := eA6_le hx k
    refine ⟨low_of (by omega), show (eA6 x k).length ≤ 1099511627776 by omega, fun _ => ⟨⟨0, Nat.zero_le _, rfl, by simp [eA7, toutsB]⟩, fun i hi => ⟨fun h4 => ?_, fun h4 => ?_⟩⟩⟩
    · have hi' : i < x.outs.length := by omega
      refine ⟨by omega, h4, fun y hy => ?_⟩
      have p1 := eM_ok hx k hi' (y := y) hy
      have p2 : (BN.mk [] (wr .u64 y.amount)).Low := low_of (by simp)
      have p3 : (tA8 y).length.le 1099511627776 := by
        have := uintB_le y.amount
        show (tA8 y).length ≤ 1099511627776
        simp only [tA8, List.nil_append]
        omega
      simp only [p1, p2, p3, and_self]
    · rw [eA7_all (by omega) (by omega)]
theorem tenc_vc : tencVC := by
  intro x hx
  have h1 := eBody_ok hx
  have h2 : (BN.mk [] (wr .u64 x.lock)).Low := low_of (by simp)
  have h3 : (BN.mk (tA0 x) (wr .u64 (x.ins.length : Int))).Low := low_of (by
    have := uintB_le x.lock
    simp only [tA0, List.nil_append]
    omega)
  simp only [h1, h2, h3, and_self, implies_true]
theorem tenc_ok : Fits F111 f38 (bodyOf f38) encLS noAnn := by
  constructor
  rw [← tenc_eq]
  exact tenc_vc
theorem f38_has : Has prog 38 f38 (bodyOf f38) := ⟨by kernel_rfl, by kernel_rfl, by kernel_rfl⟩
theorem known112 : Known prog L112 := by
  unfold L112
  exact known111.lent mixed f38_has F111_eq tenc_ok (fun _ _ => Nat.zero_le _) (fun _ _ => rfl)
end Go.Proofs.YtcglahfmnoghjaaDoor

/-! TxSecrets: plain laws, and the walk. Conditions: none. -/
namespace Go.Proofs.YtcglahfmnoghjaaDoor
open Go Go.Eng Go.Proofs.Tryd

/-! ## Bytes as a string -/
theorem loop_eq (bs : ByteArray) : ∀ (k i : Nat) (r : List UInt8), bs.size - i = k → ByteArray.toList.loop bs i r = r.reverse ++ bs.data.toList.drop i := by
  intro k
  induction k with
  | zero =>
    intro i r h
    rw [ByteArray.toList.loop, if_neg (by omega), List.drop_of_length_le (by
      rw [Array.length_toList]
      show bs.size ≤ i
      omega), List.append_nil]
  | succ k ih =>
    intro i r h
    have hi : i < bs.size := by omega
    rw [ByteArray.toList.loop, if_pos hi, ih (i + 1) _ (by omega)]
    have hi' : i < bs.data.toList.length := by rw [Array.length_toList]; exact hi
    rw [List.drop_eq_getElem_cons hi', List.reverse_cons, List.append_assoc]
    have e : bs.get! i = bs.data.toList[i] := by
      show bs.data[i]! = _
      rw [getElem!_pos bs.data i hi, Array.getElem_toList]
    rw [e]
    rfl
theorem str_list (xs : List Int) : (strOfNums xs).toList = xs.map fun n => UInt8.ofNat n.toNat := by
  show ByteArray.toList.loop (strOfNums xs) 0 [] = _
  rw [loop_eq (strOfNums xs) _ 0 [] rfl]
  simp [strOfNums]
theorem byte_inj {a b : Int} (ha : 0 ≤ a ∧ a < 256) (hb : 0 ≤ b ∧ b < 256) (h : UInt8.ofNat a.toNat = UInt8.ofNat b.toNat) : a = b := by
  have := congrArg UInt8.toNat h
  simp only [UInt8.toNat_ofNat'] at this
  omega
theorem map_inj : ∀ {xs ys : List Int}, Byt xs → Byt ys → (xs.map fun n => UInt8.ofNat n.toNat) = (ys.map fun n => UInt8.ofNat n.toNat) → xs = ys
  | [], [], _, _, _ => rfl
  | [], _ :: _, _, _, h => by simp at h
  | _ :: _, [], _, _, h => by simp at h
  | x :: xs, y :: ys, hx, hy, h => by
    simp only [List.map_cons, List.cons.injEq] at h
    rw [byte_inj (hx x List.mem_cons_self) (hy y List.mem_cons_self) h.1, map_inj (fun z hz => hx z (List.mem_cons_of_mem _ hz)) (fun z hz => hy z (List.mem_cons_of_mem _ hz)) h.2]
theorem str_inj {xs ys : List Int} (hx : Byt xs) (hy : Byt ys) (h : (strOfNums xs).toList = (strOfNums ys).toList) : xs = ys := by
  rw [str_list, str_list] at h
  exact map_inj hx hy h
/-! ## A number's bytes tell it -/
def unB (l : List Int) : Int := l.foldl (fun a b => a * 256 + b) 0
theorem unB_digsF : ∀ (f n : Nat), n < 256 ^ f → unB (digsF f n) = (n : Int)
  | 0, n, h => by
    have : n = 0 := by simpa using h
    subst this
    rfl
  | f + 1, n, h => by
    simp only [digsF]
    split
    · rename_i h0
      rw [h0]; rfl
    · have h1 : n / 256 < 256 ^ f := by
        rw [Nat.pow_succ] at h
        omega
      have ih := unB_digsF f (n / 256) h1
      unfold unB at ih ⊢
      rw [List.foldl_append, ih]
      simp only [List.foldl_cons, List.foldl_nil]
      omega
theorem unB_digs {n : Int} (h : U64 n) : unB (digs n) = n := by
  unfold digs
  rw [unB_digsF 8 _ (u64_lt h)]
  have := h.lo
  omega
theorem uintB_inj {a b : Int} (ha : U64 a) (hb : U64 b) (h : uintB a = uintB b) : a = b := by
  unfold uintB at h
  simp only [List.cons.injEq] at h
  rw [← unB_digs ha, ← unB_digs hb, h.2]
theorem wrap_mod (n : Int) : IntKind.i64.wrap n % 18446744073709551616 = n % 18446744073709551616 := by
  simp only [IntKind.wrap, IntKind.signed, IntKind.bits, Bool.true_and, decide_eq_true_eq]
  split <;> omega
theorem xor_ne (l : Int) : wr IntKind.u64 (bitop BinOp.xor IntKind.i64 l 1) ≠ wr IntKind.u64 l := by
  rw [wr64u, wr64u]
  simp only [bitop]
  rw [wrap_mod]
  intro h
  have h1 : ((BitVec.ofInt IntKind.i64.bits l).toNat : Int) = l % 18446744073709551616 := by
    rw [BitVec.toNat_ofInt]
    simp only [IntKind.bits]
    omega
  have h2 : (BitVec.ofInt IntKind.i64.bits l ^^^ BitVec.ofInt IntKind.i64.bits 1).toNat < 18446744073709551616 := by
    have := (BitVec.ofInt IntKind.i64.bits l ^^^ BitVec.ofInt IntKind.i64.bits 1).isLt
    simpa [IntKind.bits] using this
  rw [← h1] at h
  have h3 : (BitVec.ofInt IntKind.i64.bits l ^^^ BitVec.ofInt IntKind.i64.bits 1).toNat = (BitVec.ofInt IntKind.i64.bits l).toNat := by omega
  have h4 := BitVec.eq_of_toNat_eq h3
  have h5 : ∀ A : BitVec 64, A ^^^ BitVec.ofInt 64 1 ≠ A := fun A h => by
    have h6 := congrArg (fun b => A ^^^ b) h
    simp only [← BitVec.xor_assoc, BitVec.xor_self, BitVec.zero_xor] at h6
    exact absurd h6 (by decide)
  exact h5 _ h4
/-! ## The law -/
theorem insB_same : ∀ {l : List TIn} {i : Nat} {y : TIn} (s : List Int), l[i]? = some y → insB (fun _ => []) (l.set i (TIn.mk y.tx y.n y.branch s)) = insB (fun _ => []) l
  | x :: l, 0, y, s, h => by
    simp at h
    subst h
    rfl
  | x :: l, i + 1, y, s, h => by
    simp only [List.set_cons_succ, insB]
    rw [insB_same s (by simpa using h)]
theorem idB_same {lock : Int} {ins : List TIn} {outs : List TOut} {i : Nat} {y : TIn} (s : List Int) (h : ins[i]? = some y) : idB (TxD.mk lock (ins.set i (TIn.mk y.tx y.n y.branch s)) outs) = idB (TxD.mk lock ins outs) := by
  unfold idB putTx
  simp only [insB_same s h, List.length_set]
theorem mem_set_in {l : List TIn} {i : Nat} {y z x : TIn} (hy : l[i]? = some y) (hz : z.tx = y.tx) (h : x ∈ l.set i z) : ∃ w ∈ l, x.tx = w.tx := by
  rcases List.mem_or_eq_of_mem_set h with h | h
  · exact ⟨x, h, rfl⟩
  · exact ⟨y, List.mem_of_getElem? hy, by rw [h, hz]⟩
theorem TxOk.set {t : TxD} (h : TxOk t) {i : Nat} {y : TIn} (s : List Int) (hy : t.ins[i]? = some y) : TxOk (TxD.mk t.lock (t.ins.set i (TIn.mk y.tx y.n y.branch s)) t.outs) where
  n := by simpa using h.n
  m := h.m
  w := h.w
  tx := fun x hx => by
    obtain ⟨w, hw, e⟩ := mem_set_in (z := TIn.mk y.tx y.n y.branch s) hy rfl hx
    rw [e]
    exact h.tx w hw
  locks := h.locks
theorem enc_byt {t : TxD} (h : TxOk t) (hs : ∀ y, y ∈ t.ins → Byt y.secret) : Byt (putTx (fun y => y.secret) t) := by
  have hi : ∀ {l : List TIn}, (∀ y, y ∈ l → Byt y.secret ∧ Byt y.tx) → Byt (insB (fun y => y.secret) l) := by
    intro l
    induction l with
    | nil => exact fun _ => byt_nil
    | cons x l ih => exact fun h => byt_app (byt_app (byt_app (byt_app (h x List.mem_cons_self).2 (uintB_byt _)) (uintB_byt _)) (bytesB_byt (h x List.mem_cons_self).1)) (ih fun y hy => h y (List.mem_cons_of_mem _ hy))
  exact byt_app (byt_app (byt_app (byt_app (uintB_byt _) (uintB_byt _)) (hi fun y hy => ⟨hs y hy, (h.tx y hy).2⟩)) (uintB_byt _)) (toutsB_byt fun o ho => (h.locks o ho).2)
theorem put_ne (t : TxD) (l : Int) (h : wr IntKind.u64 l ≠ wr IntKind.u64 t.lock) : putTx (fun y => y.secret) t ≠ putTx (fun y => y.secret) (TxD.mk l t.ins t.outs) := by
  intro e
  unfold putTx at e
  simp only [List.append_assoc] at e
  have := List.append_cancel_right e
  exact h (uintB_inj (u64_wr _) (u64_wr _) this).symm
theorem idx_ok {n : Int} {k : Nat} (h0 : 0 < k) (hk : k ≤ 2000000) :
    wr IntKind.u64 (k : Int) ≠ 0 ∧ 0 ≤ wr IntKind.i64 ((wr IntKind.u64 n).tmod (wr IntKind.u64 (k : Int))) ∧ wr IntKind.i64 ((wr IntKind.u64 n).tmod (wr IntKind.u64 (k : Int))) < (k : Int) := by
  have h1 : wr IntKind.u64 (k : Int) = (k : Int) := by rw [wr64u]; omega
  have h2 : 0 ≤ wr IntKind.u64 n := (u64_wr n).lo
  rw [h1, Int.tmod_eq_emod_of_nonneg h2]
  have h3 := Int.emod_nonneg (wr IntKind.u64 n) (b := (k : Int)) (by omega)
  have h4 := Int.emod_lt_of_pos (wr IntKind.u64 n) (b := (k : Int)) (by omega)
  rw [wr64 (by unfold inI64; omega)]
  exact ⟨by omega, h3, h4⟩
def secretsVC : Prop := ∀ (x : SecX), x.Ok → (x.t.lock = x.t.lock ∧ x.t.ins = x.t.ins ∧ x.t.outs = x.t.outs ∧ True) ∧ True ∧ Small (TxD.mk x.t.lock x.t.ins x.t.outs) ∧ (longB
  (TxD.mk x.t.lock x.t.ins x.t.outs) = true → True ∧ True ∧ True ∧ true = true ∧ True ∧ True) ∧ (longB (TxD.mk x.t.lock x.t.ins x.t.outs) = false →
  (↑x.s.length : Int) ≤ (9223372036854775807 : Int) → (decide ((↑x.s.length : Int) > (1000 : Int)) = true → True ∧ True ∧ True ∧ true = true ∧ True ∧
  True) ∧ (decide ((↑x.s.length : Int) > (1000 : Int)) = false → (x.t.lock = x.t.lock ∧ x.t.ins = x.t.ins ∧ x.t.outs = x.t.outs ∧ True) ∧ True ∧ Small
  (TxD.mk x.t.lock x.t.ins x.t.outs) ∧ (x.t.lock = x.t.lock ∧ x.t.ins = x.t.ins ∧ x.t.outs = x.t.outs ∧ True) ∧ True ∧ Small (TxD.mk x.t.lock x.t.ins
  x.t.outs) ∧ (x.t.lock = x.t.lock ∧ x.t.ins = x.t.ins ∧ x.t.outs = x.t.outs ∧ True) ∧ True ∧ Small (TxD.mk x.t.lock x.t.ins x.t.outs) ∧
  ((↑x.t.ins.length : Int) ≤ (9223372036854775807 : Int) → (decide ((↑x.t.ins.length : Int) > (0 : Int)) = true → (↑x.t.ins.length : Int) ≤
  (9223372036854775807 : Int) → wr IntKind.u64 (↑x.t.ins.length : Int) ≠ (0 : Int) ∧ (0 : Int) ≤ wr IntKind.i64 ((wr IntKind.u64 x.n).tmod (wr
  IntKind.u64 (↑x.t.ins.length : Int))) ∧ wr IntKind.i64 ((wr IntKind.u64 x.n).tmod (wr IntKind.u64 (↑x.t.ins.length : Int))) < (↑x.t.ins.length : Int) ∧
  (wr IntKind.i64 ((wr IntKind.u64 x.n).tmod (wr IntKind.u64 (↑x.t.ins.length : Int)))).toNat < x.t.ins.length ∧ ∀ (y : AA (83 : TypeId)), x.t.ins[(wr
  IntKind.i64 ((wr IntKind.u64 x.n).tmod (wr IntKind.u64 (↑x.t.ins.length : Int)))).toNat]? = some y → (y.tx = y.tx ∧ y.n = y.n ∧ y.branch = y.branch ∧
  x.s = x.s ∧ True) ∧ (x.t.lock = x.t.lock ∧ x.t.ins = x.t.ins ∧ x.t.outs = x.t.outs ∧ True) ∧ True ∧ TxOk (TxD.mk x.t.lock x.t.ins x.t.outs) ∧ (x.t.lock
  = x.t.lock ∧ x.t.ins.set (wr IntKind.i64 ((wr IntKind.u64 x.n).tmod (wr IntKind.u64 (↑x.t.ins.length : Int)))).toNat (TIn.mk y.tx y.n y.branch x.s) =
  x.t.ins.set (wr IntKind.i64 ((wr IntKind.u64 x.n).tmod (wr IntKind.u64 (↑x.t.ins.length : Int)))).toNat (TIn.mk y.tx y.n y.branch x.s) ∧ x.t.outs =
  x.t.outs ∧ True) ∧ True ∧ TxOk (TxD.mk x.t.lock (x.t.ins.set (wr IntKind.i64 ((wr IntKind.u64 x.n).tmod (wr IntKind.u64 (↑x.t.ins.length :
  Int)))).toNat (TIn.mk y.tx y.n y.branch x.s)) x.t.outs) ∧ ((idB (TxD.mk x.t.lock x.t.ins x.t.outs) == idB (TxD.mk x.t.lock (x.t.ins.set (wr IntKind.i64
  ((wr IntKind.u64 x.n).tmod (wr IntKind.u64 (↑x.t.ins.length : Int)))).toNat (TIn.mk y.tx y.n y.branch x.s)) x.t.outs)) = true → (x.t.lock = x.t.lock ∧
  x.t.ins = x.t.ins ∧ x.t.outs = x.t.outs ∧ True) ∧ True ∧ EncOk (TxD.mk x.t.lock x.t.ins x.t.outs) ∧ ((bitop BinOp.xor IntKind.i64 x.t.lock (1 : Int) =
  bitop BinOp.xor IntKind.i64 x.t.lock (1 : Int) ∧ x.t.ins = x.t.ins ∧ x.t.outs = x.t.outs ∧ True) ∧ True ∧ EncOk (TxD.mk (bitop BinOp.xor IntKind.i64
  x.t.lock (1 : Int)) x.t.ins x.t.outs) ∧ ((!(strOfNums (putTx (fun x => x.secret) (TxD.mk x.t.lock x.t.ins x.t.outs))).toList == (strOfNums (putTx (fun
  x => x.secret) (TxD.mk (bitop BinOp.xor IntKind.i64 x.t.lock (1 : Int)) x.t.ins x.t.outs))).toList) = true → True ∧ True ∧ True ∧ true = true ∧ True ∧
  True) ∧ ((!(strOfNums (putTx (fun x => x.secret) (TxD.mk x.t.lock x.t.ins x.t.outs))).toList == (strOfNums (putTx (fun x => x.secret) (TxD.mk (bitop
  BinOp.xor IntKind.i64 x.t.lock (1 : Int)) x.t.ins x.t.outs))).toList) = false → true = false ∧ True ∧ True)) ∧ (bitop BinOp.xor IntKind.i64 x.t.lock (1
  : Int) = bitop BinOp.xor IntKind.i64 x.t.lock (1 : Int) ∧ x.t.ins = x.t.ins ∧ x.t.outs = x.t.outs ∧ True) ∧ True ∧ EncOk (TxD.mk (bitop BinOp.xor
  IntKind.i64 x.t.lock (1 : Int)) x.t.ins x.t.outs) ∧ (((!(strOfNums (putTx (fun x => x.secret) (TxD.mk x.t.lock x.t.ins x.t.outs))).toList == (strOfNums
  (putTx (fun x => x.secret) (TxD.mk (bitop BinOp.xor IntKind.i64 x.t.lock (1 : Int)) x.t.ins x.t.outs))).toList) = true → True ∧ True ∧ True ∧ true =
  true ∧ True ∧ True) ∧ ((!(strOfNums (putTx (fun x => x.secret) (TxD.mk x.t.lock x.t.ins x.t.outs))).toList == (strOfNums (putTx (fun x => x.secret)
  (TxD.mk (bitop BinOp.xor IntKind.i64 x.t.lock (1 : Int)) x.t.ins x.t.outs))).toList) = false → true = false ∧ True ∧ True)) ∧ ((!(strOfNums (putTx (fun
  x => x.secret) (TxD.mk x.t.lock x.t.ins x.t.outs))).toList == (strOfNums (putTx (fun x => x.secret) (TxD.mk (bitop BinOp.xor IntKind.i64 x.t.lock (1 :
  Int)) x.t.ins x.t.outs))).toList) = true → True ∧ True ∧ True ∧ true = true ∧ True ∧ True) ∧ ((!(strOfNums (putTx (fun x => x.secret) (TxD.mk x.t.lock
  x.t.ins x.t.outs))).toList == (strOfNums (putTx (fun x => x.secret) (TxD.mk (bitop BinOp.xor IntKind.i64 x.t.lock (1 : Int)) x.t.ins
  x.t.outs))).toList) = false → true = false ∧ True ∧ True)) ∧ ((idB (TxD.mk x.t.lock x.t.ins x.t.outs) == idB (TxD.mk x.t.lock (x.t.ins.set (wr
  IntKind.i64 ((wr IntKind.u64 x.n).tmod (wr IntKind.u64 (↑x.t.ins.length : Int)))).toNat (TIn.mk y.tx y.n y.branch x.s)) x.t.outs)) = false → (true =
  false ∧ True ∧ True) ∧ (true = false ∧ True ∧ True) ∧ true = false ∧ True ∧ True)) ∧ (decide ((↑x.t.ins.length : Int) > (0 : Int)) = false → (x.t.lock
  = x.t.lock ∧ x.t.ins = x.t.ins ∧ x.t.outs = x.t.outs ∧ True) ∧ True ∧ TxOk (TxD.mk x.t.lock x.t.ins x.t.outs) ∧ (x.t.lock = x.t.lock ∧ x.t.ins =
  x.t.ins ∧ x.t.outs = x.t.outs ∧ True) ∧ True ∧ TxOk (TxD.mk x.t.lock x.t.ins x.t.outs) ∧ ((idB (TxD.mk x.t.lock x.t.ins x.t.outs) == idB (TxD.mk
  x.t.lock x.t.ins x.t.outs)) = true → (x.t.lock = x.t.lock ∧ x.t.ins = x.t.ins ∧ x.t.outs = x.t.outs ∧ True) ∧ True ∧ EncOk (TxD.mk x.t.lock x.t.ins
  x.t.outs) ∧ ((bitop BinOp.xor IntKind.i64 x.t.lock (1 : Int) = bitop BinOp.xor IntKind.i64 x.t.lock (1 : Int) ∧ x.t.ins = x.t.ins ∧ x.t.outs = x.t.outs
  ∧ True) ∧ True ∧ EncOk (TxD.mk (bitop BinOp.xor IntKind.i64 x.t.lock (1 : Int)) x.t.ins x.t.outs) ∧ ((!(strOfNums (putTx (fun x => x.secret) (TxD.mk
  x.t.lock x.t.ins x.t.outs))).toList == (strOfNums (putTx (fun x => x.secret) (TxD.mk (bitop BinOp.xor IntKind.i64 x.t.lock (1 : Int)) x.t.ins
  x.t.outs))).toList) = true → True ∧ True ∧ True ∧ true = true ∧ True ∧ True) ∧ ((!(strOfNums (putTx (fun x => x.secret) (TxD.mk x.t.lock x.t.ins
  x.t.outs))).toList == (strOfNums (putTx (fun x => x.secret) (TxD.mk (bitop BinOp.xor IntKind.i64 x.t.lock (1 : Int)) x.t.ins x.t.outs))).toList) =
  false → true = false ∧ True ∧ True)) ∧ (bitop BinOp.xor IntKind.i64 x.t.lock (1 : Int) = bitop BinOp.xor IntKind.i64 x.t.lock (1 : Int) ∧ x.t.ins =
  x.t.ins ∧ x.t.outs = x.t.outs ∧ True) ∧ True ∧ EncOk (TxD.mk (bitop BinOp.xor IntKind.i64 x.t.lock (1 : Int)) x.t.ins x.t.outs) ∧ (((!(strOfNums (putTx
  (fun x => x.secret) (TxD.mk x.t.lock x.t.ins x.t.outs))).toList == (strOfNums (putTx (fun x => x.secret) (TxD.mk (bitop BinOp.xor IntKind.i64 x.t.lock
  (1 : Int)) x.t.ins x.t.outs))).toList) = true → True ∧ True ∧ True ∧ true = true ∧ True ∧ True) ∧ ((!(strOfNums (putTx (fun x => x.secret) (TxD.mk
  x.t.lock x.t.ins x.t.outs))).toList == (strOfNums (putTx (fun x => x.secret) (TxD.mk (bitop BinOp.xor IntKind.i64 x.t.lock (1 : Int)) x.t.ins
  x.t.outs))).toList) = false → true = false ∧ True ∧ True)) ∧ ((!(strOfNums (putTx (fun x => x.secret) (TxD.mk x.t.lock x.t.ins x.t.outs))).toList ==
  (strOfNums (putTx (fun x => x.secret) (TxD.mk (bitop BinOp.xor IntKind.i64 x.t.lock (1 : Int)) x.t.ins x.t.outs))).toList) = true → True ∧ True ∧ True
  ∧ true = true ∧ True ∧ True) ∧ ((!(strOfNums (putTx (fun x => x.secret) (TxD.mk x.t.lock x.t.ins x.t.outs))).toList == (strOfNums (putTx (fun x =>
  x.secret) (TxD.mk (bitop BinOp.xor IntKind.i64 x.t.lock (1 : Int)) x.t.ins x.t.outs))).toList) = false → true = false ∧ True ∧ True)) ∧ ((idB (TxD.mk
  x.t.lock x.t.ins x.t.outs) == idB (TxD.mk x.t.lock x.t.ins x.t.outs)) = false → (true = false ∧ True ∧ True) ∧ (true = false ∧ True ∧ True) ∧ true =
  false ∧ True ∧ True)))))

theorem secrets_eq : secretsVC = fnS F112 f10 (bodyOf f10) secretsLS noAnn := by kernel_rfl
theorem secrets_vc : secretsVC := by
  rintro ⟨t, n, s⟩ hx
  have hs : Small t := hx.toSmall
  have ht : TxOk t := hx.toTxOk
  have hsum : sumS t.ins ≤ 2000000 := hx.sum
  have hby : ∀ y, y ∈ t.ins → Byt y.secret := hx.bytes
  have s1 : Small (TxD.mk t.lock t.ins t.outs) := hs
  have t1 : TxOk (TxD.mk t.lock t.ins t.outs) := ht
  have e1 : EncOk (TxD.mk t.lock t.ins t.outs) := { ht with s := by simp only; omega }
  have e2 : EncOk (TxD.mk (bitop BinOp.xor IntKind.i64 t.lock 1) t.ins t.outs) := { n := ht.n, m := ht.m, w := ht.w, tx := ht.tx, locks := ht.locks, s := by simp only; omega }
  have hne : (strOfNums (putTx (fun x => x.secret) (TxD.mk t.lock t.ins t.outs))).toList ≠ (strOfNums (putTx (fun x => x.secret) (TxD.mk (bitop BinOp.xor IntKind.i64 t.lock 1) t.ins t.outs))).toList := fun h =>
    put_ne t (bitop BinOp.xor IntKind.i64 t.lock 1) (xor_ne t.lock) (str_inj (enc_byt t1 hby) (enc_byt e2.toTxOk hby) h)
  have hbe : ((strOfNums (putTx (fun x => x.secret) (TxD.mk t.lock t.ins t.outs))).toList == (strOfNums (putTx (fun x => x.secret) (TxD.mk (bitop BinOp.xor IntKind.i64 t.lock 1) t.ins t.outs))).toList) = false := by
    rw [beq_eq_false_iff_ne]
    exact hne
  have hl := hs.n
  simp only [s1, t1, e1, e2, hbe, beq_self_eq_true, and_self, implies_true, forall_const, true_and, and_true, Bool.not_false, Bool.true_eq_false, false_implies, decide_eq_true_eq, decide_eq_false_iff_not]
  intro _ _ _ _ h0 _
  obtain ⟨i1, i2, i3⟩ := idx_ok (n := n) (k := t.ins.length) (by omega) hl
  refine ⟨i1, i2, i3, by omega, fun y hy => ?_⟩
  have ht2 := ht.set (y := y) s hy
  have hid := idB_same (lock := t.lock) (outs := t.outs) (y := y) s hy
  simp only [ht2, hid, beq_self_eq_true, and_self, implies_true, true_and, and_true, Bool.true_eq_false, false_implies]
theorem secrets_ok : Fits F112 f10 (bodyOf f10) secretsLS noAnn := by
  constructor
  rw [← secrets_eq]
  exact secrets_vc
theorem f10_has : Has prog 10 f10 (bodyOf f10) := ⟨by kernel_rfl, by kernel_rfl, by kernel_rfl⟩
end Go.Proofs.YtcglahfmnoghjaaDoor

/-! TxSecrets' call. Conditions: none. -/
namespace Go.Proofs.YtcglahfmnoghjaaDoor
open Go Go.Eng Go.Proofs.Tryd Go.ChangeShapes Go.WideShapes Go.RowKit

theorem rd_bytes {H : Type} {enc : TypeId × Value → H} {w : World} {sp : Nat → Bool} {held : Bool} : RdT enc prog w sp held CC 26 fun sl _ => ∃ xs : List Int, sl = .cell (.rints .u8 xs) .nil := by
  refine RdT.mono (rd_ints underlying26 underlying5 cells5) ?_
  rintro sl d ⟨xs, rfl, _, _⟩
  exact ⟨xs, rfl⟩
theorem slice_of_ok3 {P : Program} {W : World} {r : Reach} {base : Nat} {t e : TypeId} (ht : P.underlying t = some (.slice e)) {v : Value} (h : Value.okWide P W r base t v) : ∃ a n c, v = .slice a n c := by
  unfold Value.okWide at h
  rw [ht] at h
  change Cell.okWide P W r base t v at h
  cases v with
  | slice a n c => exact ⟨a, n, c, rfl⟩
  | _ => simp [Cell.okWide, Cell.ok, ht] at h
theorem secrets_calls {W : World} {vs : List Value} {x : SecX} (hx : x.Ok) (ha : ArgsR NoO [] W CC [.agg (txRSL x.t), .int .i64 x.n, .rints .u8 x.s] vs) (hg : Glob GG NoO [] W CC) :
    Calls prog 10 vs.toArray W fun e W' => e = .returned (.bool true) ∧ Below W.heap.size W W' := by
  have hS : Sound F112 := by rw [F112_eq]; exact sound mixed known112
  exact law_calls (ee_P F112_eq) hS f10_has secrets_ok x hx rfl rfl (fun _ _ => Nat.le_refl _) (by rw [ee_C F112_eq]; exact ha) (by rw [ee_GL F112_eq, ee_C F112_eq]; exact hg)
end Go.Proofs.YtcglahfmnoghjaaDoor
