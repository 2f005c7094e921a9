/- TxPoints, where what it reads is of bulk at most 1048576: it answers true, and its arguments read behind the call as they did; the card ties the two listed variables to the program's text. Conditions: none. -/
import Derived.Test.YtcglahfmnoghjaaGreatDoorMa6
namespace Go.Proofs.YtcglahfmnoghjaaGreatDoor
open Go Go.Eng Go.Proofs.Tryz Go.ChangeShapes Go.WideShapes Go.RowKit

theorem c23_readable0 : prog.readableRec 25 = true := by kernel_rfl
theorem c23_row0 : 25 < prog.types.size := of_decide_eq_true (by kernel_rfl)
theorem c23_readable1 : prog.readableRec 30 = true := by kernel_rfl
theorem c23_row1 : 30 < prog.types.size := of_decide_eq_true (by kernel_rfl)
theorem f3_resT : f3.resultTypes = #[4] := by kernel_rfl
theorem f3_readT : ∀ t ∈ f3.params.toList, prog.readableRec t = true ∧ t < prog.types.size := by
  rw [params3]
  intro t ht
  simp only [List.mem_cons, List.not_mem_nil, or_false] at ht
  rcases ht with rfl | rfl | rfl
  · exact ⟨c23_readable0, c23_row0⟩
  · exact ⟨c23_readable0, c23_row0⟩
  · exact ⟨c23_readable1, c23_row1⟩
set_option maxRecDepth 100000 in
theorem points_one {H : Type} {enc : TypeId × Value → H} {W : World} {base : Nat} {args : Array Value} {ds gs : List (DataW H)} {before : List MemPlace}
    (hval : ∀ (j : Nat) t v, f3.params[j]? = some t → args[j]? = some v → Value.okWide prog W .any base t v)
    (hW : DataW.Whole enc prog f3.params.toList Rows.txPointsSpec.vars false W args.toList ds gs before) (hk : Rows.uptoSmall H (ds ++ gs) = true) (hg : Glob GG NoO [] W CC) :
    Calls prog 3 args W fun e W' => ∃ v, e = .returned v ∧ Rows.txPointsSpec.post enc prog f3 false true false false W args v W' := by
  have hW0 := hW
  obtain ⟨p, q, hA0, hV, rfl, _, _⟩ := hW0
  obtain ⟨rfl, rfl⟩ := trodVars_none hV
  have hA := hA0
  rw [params3] at hA hval
  obtain ⟨v0, vs0, d0, ds0, p0, q0, hargs, rfl, rfl, h0, r0⟩ := trodAll_cons hA
  obtain ⟨v1, vs1, d1, ds1, p1, q1, rfl, rfl, rfl, h1, r1⟩ := trodAll_cons r0
  obtain ⟨v2, vs2, d2, ds2, p2, q2, rfl, rfl, rfl, h2, r2⟩ := trodAll_cons r1
  obtain ⟨rfl, rfl, rfl⟩ := trodAll_nil r2
  obtain rfl : args = #[v0, v1, v2] := by cases args; simp_all
  have hv0 : Value.okWide prog W .any base 25 v0 := by
    exact hval 0 25 v0 (by simp) (by simp)
  have hv1 : Value.okWide prog W .any base 25 v1 := by
    exact hval 1 25 v1 (by simp) (by simp)
  have hv2 : Value.okWide prog W .any base 30 v2 := by
    exact hval 2 30 v2 (by simp) (by simp)
  obtain ⟨sl0, e0, t, rfl, k0⟩ := rep_of_trod rd_tx h0
  obtain ⟨sl1, e1, u, rfl, k1⟩ := rep_of_trod rd_tx h1
  obtain ⟨sl2, e2, p, q, rfl, k2, k3⟩ := rep_of_trod rd_points h2
  have hb := of_decide_eq_true hk
  simp only [List.append_nil, Rows.uptoBulkAll] at hb
  obtain ⟨cs0, rfl⟩ := agg_of_ok underlying25 hv0
  obtain ⟨cs1, rfl⟩ := agg_of_ok underlying25 hv1
  obtain ⟨cs2, rfl⟩ := arr_of_ok underlying30 hv2
  have i0 : RepL NoO [] W CC (txRSL t) cs0 := by simpa [Value.cells] using e0
  have i1 : RepL NoO [] W CC (txRSL u) cs1 := by simpa [Value.cells] using e1
  have i2 : RepL NoO [] W CC ((encPt p).app (encPt q)) cs2 := by simpa [Value.cells] using e2
  have ha : ArgsR NoO [] W CC [.agg (txRSL t), .agg (txRSL u), .agg ((encPt p).app (encPt q))] [.agg cs0.toArray, .agg cs1.toArray, .agg cs2.toArray] := ⟨_, _, rfl, .agg cs0 i0, _, _, rfl, .agg cs1 i1, _, _, rfl, .agg cs2 i2, rfl⟩
  have hx : PtsX.Ok (PtsX.mk t u p q) := ⟨k0.enc (by omega), k0.small (by omega), k1.enc (by omega), k1.small (by omega), k2, k3⟩
  refine (points_calls hx ha hg).mono fun e W' ⟨he, hb'⟩ => ?_
  subst he
  exact ⟨_, rfl, law_post (tb := 4) laidOut f3_readT f3_resT underlying4 hW rfl rfl hb'⟩

def pointsArgs : Array Value := #[.agg #[.int .i64 0, .slice none 0 0, .slice none 0 0], .agg #[.int .i64 0, .slice none 0 0, .slice none 0 0], .agg (((Array.replicate 32 (.int .u8 0)).push (.int .i64 0)) ++ ((Array.replicate 32 (.int .u8 0)).push (.int .i64 0)))]
theorem points_laid (os : Os) : laidMetH prog Rows.txPointsUptoRow.laid ((laidWorld os).forCall (fun _ _ => 0) ⟨#[], pointsArgs, []⟩).memory :=
  laidMetH_of_parts (laidMet_of_run' 8 (by kernel_rfl) (by kernel_rfl)) (by kernel_rfl)
theorem points_reads (os : Os) {H : Type} (enc : TypeId × Value → H) : ∃ places, DataW.whole enc prog ((laidWorld os).forCall (fun _ _ => 0) ⟨#[], pointsArgs, []⟩).memory f3.params.toList Rows.txPointsSpec.vars false pointsArgs.toList 8 = some ([.agg [.lit (.int .i64 0), .nil, .nil], .agg [.lit (.int .i64 0), .nil, .nil], .agg [.agg [.agg (List.replicate 32 (.lit (.int .u8 0))), .lit (.int .i64 0)], .agg [.agg (List.replicate 32 (.lit (.int .u8 0))), .lit (.int .i64 0)]]], [], places) :=
  ⟨[], by kernel_rfl⟩

set_option maxRecDepth 100000 in
theorem points_lifted (os : Os) (started : os.Started) (H : Type) (enc : TypeId × Value → H) (F : Stop.Interp) :
    ReturnsInHanded {} Tryz.checked os 3 .any ((Rows.OpenSpec.upto Rows.txPointsSpec).preRow enc prog f3 Rows.txPointsUptoRow.domain false Rows.txPointsUptoRow.laid) (((Rows.OpenSpec.upto Rows.txPointsSpec).at F).post enc prog f3 false true false false) := by
  obtain ⟨places, hx⟩ := points_reads os enc
  refine returnsInHanded_of_row (C := Tryz.checked) (s := Rows.OpenSpec.upto Rows.txPointsSpec) own started (by kernel_rfl) func3
    (witness_row_at (enc := enc) (C := Tryz.checked) false (laidWorld os) pointsArgs rfl (by kernel_rfl) (by kernel_rfl) (by kernel_rfl)
      (OpenSpec.preRow_of_cond 8 hx (by kernel_rfl) (fun k hk => by cases hk; kernel_rfl) (by kernel_rfl) (points_laid os))) ?_
  intro W base args ds gs before hval hW _ hcond _ hL _ _
  exact points_one hval hW (hcond _ rfl) (glob_of hL)

theorem points_said : Rows.TxPointsUptoSaid :=
  OpenClaim.holds_of_cond 3 f3 rfl rfl rfl rfl rfl rfl rfl ⟨rfl, rfl, rfl, rfl, rfl⟩ rfl rfl rfl rfl rfl (by kernel_rfl) func3 (by kernel_rfl)
    (of_decide_eq_true (by kernel_rfl)) (by unfold Func.isWrapper; first | (rw [if_pos (by decide +kernel)]; kernel_rfl) | (rw [if_neg (by decide +kernel)]; exact ⟨rfl, rfl⟩))
    (fun os started H enc _ F => by rw [OpenClaim.pre_eq_preRow]; exact points_lifted os started H enc F)

theorem points_plain (f : FuncId) (fn : Func) (hf : Tryz.pinned.checked.prog.funcNamed "bayou/bayoulaw05.TxPoints" = some f) (hfn : Tryz.pinned.checked.prog.funcs[f]? = some fn) :
    true = Tryz.pinned.checked.prog.looks [] ∧ ∀ (j : Nat) t, fn.params[j]? = some t → Tryz.pinned.checked.prog.wantsStandIn t = false := by
  obtain rfl : f = 3 := Option.some.inj ((show prog.funcNamed "bayou/bayoulaw05.TxPoints" = some 3 by kernel_rfl).symm.trans hf) |>.symm
  obtain rfl : fn = f3 := (Option.some.inj (func3.symm.trans hfn)).symm
  refine ⟨by kernel_rfl, fun j t ht => ?_⟩
  rw [params3] at ht
  have hm : t = 25 ∨ t = 25 ∨ t = 30 := by simpa using Array.mem_of_getElem? ht
  rcases hm with rfl | rfl | rfl
  · exact (show prog.wantsStandIn 25 = false by kernel_rfl)
  · exact (show prog.wantsStandIn 25 = false by kernel_rfl)
  · exact (show prog.wantsStandIn 30 = false by kernel_rfl)

theorem txPoints_holds : Rows.TxPointsUptoCardSaid :=
  Claim7.holds_tied_plain_at .later [] _ _ _ _ points_said (fun _ h => by cases h) (by kernel_rfl) (fun _ h => by cases h) txPointsUpto_row_tie rfl ⟨rfl, rfl⟩ (by kernel_rfl) rfl points_plain (by kernel_rfl)
#print axioms txPoints_holds
end Go.Proofs.YtcglahfmnoghjaaGreatDoor
