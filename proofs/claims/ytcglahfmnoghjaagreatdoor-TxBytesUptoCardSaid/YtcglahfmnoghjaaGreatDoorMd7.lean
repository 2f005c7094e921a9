/- TxBytes, where what it reads is of bulk at most 1048576: it answers true, and its arguments read behind the call as they did; the card ties the two listed variables to the program's text. Conditions: none. -/
import Derived.Test.YtcglahfmnoghjaaGreatDoorMd6
namespace Go.Proofs.YtcglahfmnoghjaaGreatDoor
open Go Go.Eng Go.Proofs.Tryz Go.ChangeShapes Go.WideShapes Go.RowKit
theorem c29_readable0 : prog.readableRec 25 = true := by kernel_rfl
theorem c29_row0 : 25 < prog.types.size := of_decide_eq_true (by kernel_rfl)
theorem c29_readable1 : prog.readableRec 51 = true := by kernel_rfl
theorem c29_row1 : 51 < prog.types.size := of_decide_eq_true (by kernel_rfl)
theorem f5_resT : f5.resultTypes = #[4] := by kernel_rfl
theorem f5_readT : ∀ t ∈ f5.params.toList, prog.readableRec t = true ∧ t < prog.types.size := by
 rw [params5]
 intro t ht
 simp only [List.mem_cons, List.not_mem_nil, or_false] at ht
 rcases ht with rfl | rfl
 ·exact ⟨c29_readable0, c29_row0⟩
 ·exact ⟨c29_readable1, c29_row1⟩
set_option maxRecDepth 100000 in
theorem txBytes_one {H : Type} {enc : TypeId × Value → H} {W : World} {base : Nat} {args : Array Value} {ds gs : List (DataW H)} {before : List MemPlace}
  (hval : ∀ (j : Nat) t v, f5.params[j]? = some t → args[j]? = some v → Value.okWide prog W .any base t v)
  (hW : DataW.Whole enc prog f5.params.toList Rows.txBytesSpec.vars false W args.toList ds gs before) (hk : Rows.uptoSmall H (ds ++ gs) = true) (hg : Glob GG NoO [] W CC) :
  Calls prog 5 args W fun e W' => ∃ v, e = .returned v ∧ Rows.txBytesSpec.post enc prog f5 false true false false W args v W' := by
 have hW0 := hW
 obtain ⟨p, q, hA0, hV, rfl, _, _⟩ := hW0
 obtain ⟨rfl, rfl⟩ := trodVars_none hV
 have hA := hA0
 rw [params5] at hA hval
 obtain ⟨v0, vs0, d0, ds0, p0, q0, hargs, rfl, rfl, h0, r0⟩ := trodAll_cons hA
 obtain ⟨v1, vs1, d1, ds1, p1, q1, rfl, rfl, rfl, h1, r1⟩ := trodAll_cons r0
 obtain ⟨rfl, rfl, rfl⟩ := trodAll_nil r1
 obtain rfl : args = #[v0, v1] := by cases args; simp_all
 have hv0 : Value.okWide prog W .any base 25 v0 := by
  exact hval 0 25 v0 (by simp) (by simp)
 have hv1 : Value.okWide prog W .any base 51 v1 := by
  exact hval 1 51 v1 (by simp) (by simp)
 obtain ⟨sl0, e0, t, rfl, k0⟩ := rep_of_trod rd_tx h0
 obtain ⟨sl1, e1, b, rfl, k1, k2⟩ := rep_of_trod rd_byt h1
 have hb := of_decide_eq_true hk
 simp only [List.append_nil, Rows.uptoBulkAll] at hb
 obtain ⟨cs0, rfl⟩ := agg_of_ok underlying25 hv0
 obtain ⟨a1, n1, c1, rfl⟩ := slice_of_ok4 underlying51 hv1
 have i0 : RepL NoO [] W CC (txRSL t) cs0 := by simpa [Value.cells] using e0
 have i1 : Rep NoO [] W CC (.rints .u8 b) (.slice a1 n1 c1) := by
  obtain ⟨u, us, g1, g2, _⟩ := e1.inv_cell
  simp only [Value.cells] at g1
  cases g1
  exact g2
 have ha : ArgsR NoO [] W CC [.agg (txRSL t), .rints .u8 b] [.agg cs0.toArray, .slice a1 n1 c1] := ⟨_, _, rfl, .agg cs0 i0, _, _, rfl, i1, rfl⟩
 have hx : TxB.Ok (TxB.mk t b) := ⟨k0.encR (by omega), k0.small (by omega), k1, by show b.length ≤ 1000000000000; omega⟩
 refine (txBytes_calls hx ha hg).mono fun e W' ⟨he, hb'⟩ => ?_
 subst he
 exact ⟨_, rfl, law_post (tb := 4) laidOut f5_readT f5_resT underlying4 hW rfl rfl hb'⟩
def txBytesArgs : Array Value := #[.agg #[.int .i64 0, .slice none 0 0, .slice none 0 0], .slice none 0 0]
theorem txBytes_laid (os : Os) : laidMetH prog Rows.txBytesUptoRow.laid ((laidWorld os).forCall (fun _ _ => 0) ⟨#[], txBytesArgs, []⟩).memory :=
 laidMetH_of_parts (laidMet_of_run' 8 (by kernel_rfl) (by kernel_rfl)) (by kernel_rfl)
theorem txBytes_reads (os : Os) {H : Type} (enc : TypeId × Value → H) : ∃ places, DataW.whole enc prog ((laidWorld os).forCall (fun _ _ => 0) ⟨#[], txBytesArgs, []⟩).memory f5.params.toList Rows.txBytesSpec.vars false txBytesArgs.toList 8 = some ([.agg [.lit (.int .i64 0), .nil, .nil], .nil], [], places) :=
 ⟨[], by kernel_rfl⟩
set_option maxRecDepth 100000 in
theorem txBytes_lifted (os : Os) (started : os.Started) (H : Type) (enc : TypeId × Value → H) (F : Stop.Interp) :
  ReturnsInHanded {} Tryz.checked os 5 .any ((Rows.OpenSpec.upto Rows.txBytesSpec).preRow enc prog f5 Rows.txBytesUptoRow.domain false Rows.txBytesUptoRow.laid) (((Rows.OpenSpec.upto Rows.txBytesSpec).at F).post enc prog f5 false true false false) := by
 obtain ⟨places, hx⟩ := txBytes_reads os enc
 refine returnsInHanded_of_row (C := Tryz.checked) (s := Rows.OpenSpec.upto Rows.txBytesSpec) own started (by kernel_rfl) func5
  (witness_row_at (enc := enc) (C := Tryz.checked) false (laidWorld os) txBytesArgs rfl (by kernel_rfl) (by kernel_rfl) (by kernel_rfl)
   (OpenSpec.preRow_of_cond 8 hx (by kernel_rfl) (fun k hk => by cases hk; kernel_rfl) (by kernel_rfl) (txBytes_laid os))) ?_
 intro W base args ds gs before hval hW _ hcond _ hL _ _
 exact txBytes_one hval hW (hcond _ rfl) (glob_of hL)
theorem txBytes_said : Rows.TxBytesUptoSaid :=
 OpenClaim.holds_of_cond 5 f5 rfl rfl rfl rfl rfl rfl rfl ⟨rfl, rfl, rfl, rfl, rfl⟩ rfl rfl rfl rfl rfl (by kernel_rfl) func5 (by kernel_rfl)
  (of_decide_eq_true (by kernel_rfl)) (by unfold Func.isWrapper; first | (rw [if_pos (by decide +kernel)]; kernel_rfl) | (rw [if_neg (by decide +kernel)]; exact ⟨rfl, rfl⟩))
  (fun os started H enc _ F => by rw [OpenClaim.pre_eq_preRow]; exact txBytes_lifted os started H enc F)
theorem txBytes_plain (f : FuncId) (fn : Func) (hf : Tryz.pinned.checked.prog.funcNamed "bayou/bayoulaw05.TxBytes" = some f) (hfn : Tryz.pinned.checked.prog.funcs[f]? = some fn) :
  true = Tryz.pinned.checked.prog.looks [] ∧ ∀ (j : Nat) t, fn.params[j]? = some t → Tryz.pinned.checked.prog.wantsStandIn t = false := by
 obtain rfl : f = 5 := Option.some.inj ((show prog.funcNamed "bayou/bayoulaw05.TxBytes" = some 5 by kernel_rfl).symm.trans hf) |>.symm
 obtain rfl : fn = f5 := (Option.some.inj (func5.symm.trans hfn)).symm
 refine ⟨by kernel_rfl, fun j t ht => ?_⟩
 rw [params5] at ht
 have hm : t = 25 ∨ t = 51 := by simpa using Array.mem_of_getElem? ht
 rcases hm with rfl | rfl
 ·exact (show prog.wantsStandIn 25 = false by kernel_rfl)
 ·exact (show prog.wantsStandIn 51 = false by kernel_rfl)
theorem txBytes_holds : Rows.TxBytesUptoCardSaid :=
 Claim7.holds_tied_plain_at .later [] _ _ _ _ txBytes_said (fun _ h => by cases h) (by kernel_rfl) (fun _ h => by cases h) txBytesUpto_row_tie rfl ⟨rfl, rfl⟩ (by kernel_rfl) rfl txBytes_plain (by kernel_rfl)
#print axioms txBytes_holds
end Go.Proofs.YtcglahfmnoghjaaGreatDoor
