/- TxOrder, where what it reads is of bulk at most 1048576: it answers true, and its arguments read behind the call as they did; the card ties the two listed variables to the program's text. Conditions: none. -/
import Derived.Test.YtcglahfmnoghjaaDoorMs5
namespace Go.Proofs.YtcglahfmnoghjaaDoor
open Go Go.Eng Go.Proofs.Tryd Go.ChangeShapes Go.WideShapes Go.RowKit

theorem c15_readable0 : prog.readableRec 87 = true := by kernel_rfl
theorem c15_row0 : 87 < prog.types.size := of_decide_eq_true (by kernel_rfl)
theorem f11_resT : f11.resultTypes = #[4] := by kernel_rfl
theorem f11_readT : ∀ t ∈ f11.params.toList, prog.readableRec t = true ∧ t < prog.types.size := by
  rw [params11]
  intro t ht
  simp only [List.mem_cons, List.not_mem_nil, or_false] at ht
  rcases ht with rfl | rfl | rfl
  · exact ⟨c15_readable0, c15_row0⟩
  · exact ⟨c15_readable0, c15_row0⟩
  · exact ⟨c15_readable0, c15_row0⟩
set_option maxRecDepth 100000 in
theorem order_one {H : Type} {enc : TypeId × Value → H} {W : World} {base : Nat} {args : Array Value} {ds gs : List (DataW H)} {before : List MemPlace}
    (hval : ∀ (j : Nat) t v, f11.params[j]? = some t → args[j]? = some v → Value.okWide prog W .any base t v)
    (hW : DataW.Whole enc prog f11.params.toList Rows.txOrderSpec.vars false W args.toList ds gs before) (hk : Rows.uptoSmall H (ds ++ gs) = true) (hg : Glob GG NoO [] W CC) :
    Calls prog 11 args W fun e W' => ∃ v, e = .returned v ∧ Rows.txOrderSpec.post enc prog f11 false true false false W args v W' := by
  have hW0 := hW
  obtain ⟨p, q, hA0, hV, rfl, _, _⟩ := hW0
  obtain ⟨rfl, rfl⟩ := trodVars_none hV
  have hA := hA0
  rw [params11] at hA hval
  obtain ⟨v0, vs0, d0, ds0, p0, q0, hargs, rfl, rfl, h0, r0⟩ := trodAll_cons hA
  obtain ⟨v1, vs1, d1, ds1, p1, q1, rfl, rfl, rfl, h1, r1⟩ := trodAll_cons r0
  obtain ⟨v2, vs2, d2, ds2, p2, q2, rfl, rfl, rfl, h2, r2⟩ := trodAll_cons r1
  obtain ⟨rfl, rfl, rfl⟩ := trodAll_nil r2
  obtain rfl : args = #[v0, v1, v2] := by cases args; simp_all
  have hv0 : Value.okWide prog W .any base 87 v0 := by
    exact hval 0 87 v0 (by simp) (by simp)
  have hv1 : Value.okWide prog W .any base 87 v1 := by
    exact hval 1 87 v1 (by simp) (by simp)
  have hv2 : Value.okWide prog W .any base 87 v2 := by
    exact hval 2 87 v2 (by simp) (by simp)
  obtain ⟨sl0, e0, x0, rfl, k0⟩ := rep_of_trod rd_point h0
  obtain ⟨sl1, e1, x1, rfl, k1⟩ := rep_of_trod rd_point h1
  obtain ⟨sl2, e2, x2, rfl, k2⟩ := rep_of_trod rd_point h2
  obtain ⟨cs0, rfl⟩ := agg_of_ok underlying87 hv0
  obtain ⟨cs1, rfl⟩ := agg_of_ok underlying87 hv1
  obtain ⟨cs2, rfl⟩ := agg_of_ok underlying87 hv2
  have i0 : RepL NoO [] W CC (encPt x0) cs0 := by simpa [Value.cells] using e0
  have i1 : RepL NoO [] W CC (encPt x1) cs1 := by simpa [Value.cells] using e1
  have i2 : RepL NoO [] W CC (encPt x2) cs2 := by simpa [Value.cells] using e2
  have ha : ArgsR NoO [] W CC [.agg (encPt x0), .agg (encPt x1), .agg (encPt x2)] [.agg cs0.toArray, .agg cs1.toArray, .agg cs2.toArray] :=
    ⟨_, _, rfl, .agg cs0 i0, _, _, rfl, .agg cs1 i1, _, _, rfl, .agg cs2 i2, rfl⟩
  have hx : OrdX.Ok (OrdX.mk x0 x1 x2) := ⟨k0, k1, k2⟩
  refine (order_calls hx ha hg).mono fun e W' ⟨he, hb'⟩ => ?_
  subst he
  exact ⟨_, rfl, law_post (tb := 4) laidOut f11_readT f11_resT underlying4 hW rfl rfl hb'⟩

def orderArgs : Array Value := #[.agg ((Array.replicate 32 (.int .u8 0)).push (.int .i64 0)), .agg ((Array.replicate 32 (.int .u8 0)).push (.int .i64 0)), .agg ((Array.replicate 32 (.int .u8 0)).push (.int .i64 0))]
theorem order_laid (os : Os) : laidMetH prog Rows.txOrderUptoRow.laid ((laidWorld os).forCall (fun _ _ => 0) ⟨#[], orderArgs, []⟩).memory :=
  laidMetH_of_parts (laidMet_of_run' 8 (by kernel_rfl) (by kernel_rfl)) (by kernel_rfl)
theorem order_reads (os : Os) {H : Type} (enc : TypeId × Value → H) : ∃ places, DataW.whole enc prog ((laidWorld os).forCall (fun _ _ => 0) ⟨#[], orderArgs, []⟩).memory f11.params.toList Rows.txOrderSpec.vars false orderArgs.toList 8 = some ([.agg [.agg (List.replicate 32 (.lit (.int .u8 0))), .lit (.int .i64 0)], .agg [.agg (List.replicate 32 (.lit (.int .u8 0))), .lit (.int .i64 0)], .agg [.agg (List.replicate 32 (.lit (.int .u8 0))), .lit (.int .i64 0)]], [], places) :=
  ⟨[], by kernel_rfl⟩

set_option maxRecDepth 100000 in
theorem order_lifted (os : Os) (started : os.Started) (H : Type) (enc : TypeId × Value → H) (F : Stop.Interp) :
    ReturnsInHanded {} Tryd.checked os 11 .any ((Rows.OpenSpec.upto Rows.txOrderSpec).preRow enc prog f11 Rows.txOrderUptoRow.domain false Rows.txOrderUptoRow.laid) (((Rows.OpenSpec.upto Rows.txOrderSpec).at F).post enc prog f11 false true false false) := by
  obtain ⟨places, hx⟩ := order_reads os enc
  refine returnsInHanded_of_row (C := Tryd.checked) (s := Rows.OpenSpec.upto Rows.txOrderSpec) own started (by kernel_rfl) func11
    (witness_row_at (enc := enc) (C := Tryd.checked) false (laidWorld os) orderArgs rfl (by kernel_rfl) (by kernel_rfl) (by kernel_rfl)
      (OpenSpec.preRow_of_cond 8 hx (by kernel_rfl) (fun k hk => by cases hk; kernel_rfl) (by kernel_rfl) (order_laid os))) ?_
  intro W base args ds gs before hval hW _ hcond _ hL _ _
  exact order_one hval hW (hcond _ rfl) (glob_of hL)

theorem order_said : Rows.TxOrderUptoSaid :=
  OpenClaim.holds_of_cond 11 f11 rfl rfl rfl rfl rfl rfl rfl ⟨rfl, rfl, rfl, rfl, rfl⟩ rfl rfl rfl rfl rfl (by kernel_rfl) func11 (by kernel_rfl)
    (of_decide_eq_true (by kernel_rfl)) (by unfold Func.isWrapper; first | (rw [if_pos (by decide +kernel)]; kernel_rfl) | (rw [if_neg (by decide +kernel)]; exact ⟨rfl, rfl⟩))
    (fun os started H enc _ F => by rw [OpenClaim.pre_eq_preRow]; exact order_lifted os started H enc F)

theorem order_plain (f : FuncId) (fn : Func) (hf : Tryd.pinned.checked.prog.funcNamed "bayou/bayoulaw05.TxOrder" = some f) (hfn : Tryd.pinned.checked.prog.funcs[f]? = some fn) :
    true = Tryd.pinned.checked.prog.looks [] ∧ ∀ (j : Nat) t, fn.params[j]? = some t → Tryd.pinned.checked.prog.wantsStandIn t = false := by
  obtain rfl : f = 11 := Option.some.inj ((show prog.funcNamed "bayou/bayoulaw05.TxOrder" = some 11 by kernel_rfl).symm.trans hf) |>.symm
  obtain rfl : fn = f11 := (Option.some.inj (func11.symm.trans hfn)).symm
  refine ⟨by kernel_rfl, fun j t ht => ?_⟩
  rw [params11] at ht
  have hm : t = 87 := by simpa using Array.mem_of_getElem? ht
  subst hm
  exact (show prog.wantsStandIn 87 = false by kernel_rfl)

theorem txOrder_holds : Rows.TxOrderUptoCardSaid :=
  Claim7.holds_tied_plain_at .later [] _ _ _ _ order_said (fun _ h => by cases h) (by kernel_rfl) (fun _ h => by cases h) txOrderUpto_row_tie rfl ⟨rfl, rfl⟩ (by kernel_rfl) rfl order_plain (by kernel_rfl)
#print axioms txOrder_holds
end Go.Proofs.YtcglahfmnoghjaaDoor
