/- TxReads, where what it reads is of bulk at most 1048576: it answers true, and its arguments read behind the call as they did; the card ties the two listed variables to the program's text. Conditions: none. -/
import Derived.Test.YtcglahfmnoghjaaGreatDoorMc6
namespace Go.Proofs.YtcglahfmnoghjaaGreatDoor
open Go Go.Eng Go.Proofs.Tryz Go.ChangeShapes Go.WideShapes Go.RowKit
theorem c27_readable0 : prog.readableRec 51 = true := by kernel_rfl
theorem c27_row0 : 51 < prog.types.size := of_decide_eq_true (by kernel_rfl)
theorem f7_resT : f7.resultTypes = #[4] := by kernel_rfl
theorem f7_readT : ∀ t ∈ f7.params.toList, prog.readableRec t = true ∧ t < prog.types.size := by
 rw [params7]
 intro t ht
 simp only [List.mem_cons, List.not_mem_nil, or_false] at ht
 subst ht
 exact ⟨c27_readable0, c27_row0⟩
set_option maxRecDepth 100000 in
theorem txReads_one {H : Type} {enc : TypeId × Value → H} {W : World} {base : Nat} {args : Array Value} {ds gs : List (DataW H)} {before : List MemPlace}
  (hval : ∀ (j : Nat) t v, f7.params[j]? = some t → args[j]? = some v → Value.okWide prog W .any base t v)
  (hW : DataW.Whole enc prog f7.params.toList Rows.txReadsSpec.vars false W args.toList ds gs before) (hk : Rows.uptoSmall H (ds ++ gs) = true) (hg : Glob GG NoO [] W CC) :
  Calls prog 7 args W fun e W' => ∃ v, e = .returned v ∧ Rows.txReadsSpec.post enc prog f7 false true false false W args v W' := by
 have hW0 := hW
 obtain ⟨p, q, hA0, hV, rfl, _, _⟩ := hW0
 obtain ⟨rfl, rfl⟩ := trodVars_none hV
 have hA := hA0
 rw [params7] at hA hval
 obtain ⟨v0, vs0, d0, ds0, p0, q0, hargs, rfl, rfl, h0, r0⟩ := trodAll_cons hA
 obtain ⟨rfl, rfl, rfl⟩ := trodAll_nil r0
 obtain rfl : args = #[v0] := by cases args; simp_all
 have hv0 : Value.okWide prog W .any base 51 v0 := by
  exact hval 0 51 v0 (by simp) (by simp)
 obtain ⟨sl0, e0, b, rfl, k1, k2⟩ := rep_of_trod rd_byt h0
 have hb := of_decide_eq_true hk
 simp only [List.append_nil, Rows.uptoBulkAll] at hb
 obtain ⟨a0, n0, c0, rfl⟩ := slice_of_ok4 underlying51 hv0
 have i0 : Rep NoO [] W CC (.rints .u8 b) (.slice a0 n0 c0) := by
  obtain ⟨u, us, g1, g2, _⟩ := e0.inv_cell
  simp only [Value.cells] at g1
  cases g1
  exact g2
 have ha : ArgsR NoO [] W CC [.rints .u8 b] [.slice a0 n0 c0] := ⟨_, _, rfl, i0, rfl⟩
 have hx : DecIn b := ⟨k1, by omega⟩
 refine (txReads_calls hx ha hg).mono fun e W' ⟨he, hb'⟩ => ?_
 subst he
 exact ⟨_, rfl, law_post (tb := 4) laidOut f7_readT f7_resT underlying4 hW rfl rfl hb'⟩
def txReadsArgs : Array Value := #[.slice none 0 0]
theorem txReads_laid (os : Os) : laidMetH prog Rows.txReadsUptoRow.laid ((laidWorld os).forCall (fun _ _ => 0) ⟨#[], txReadsArgs, []⟩).memory :=
 laidMetH_of_parts (laidMet_of_run' 8 (by kernel_rfl) (by kernel_rfl)) (by kernel_rfl)
theorem txReads_reads (os : Os) {H : Type} (enc : TypeId × Value → H) : ∃ places, DataW.whole enc prog ((laidWorld os).forCall (fun _ _ => 0) ⟨#[], txReadsArgs, []⟩).memory f7.params.toList Rows.txReadsSpec.vars false txReadsArgs.toList 8 = some ([.nil], [], places) :=
 ⟨[], by kernel_rfl⟩
set_option maxRecDepth 100000 in
theorem txReads_lifted (os : Os) (started : os.Started) (H : Type) (enc : TypeId × Value → H) (F : Stop.Interp) :
  ReturnsInHanded {} Tryz.checked os 7 .any ((Rows.OpenSpec.upto Rows.txReadsSpec).preRow enc prog f7 Rows.txReadsUptoRow.domain false Rows.txReadsUptoRow.laid) (((Rows.OpenSpec.upto Rows.txReadsSpec).at F).post enc prog f7 false true false false) := by
 obtain ⟨places, hx⟩ := txReads_reads os enc
 refine returnsInHanded_of_row (C := Tryz.checked) (s := Rows.OpenSpec.upto Rows.txReadsSpec) own started (by kernel_rfl) func7
  (witness_row_at (enc := enc) (C := Tryz.checked) false (laidWorld os) txReadsArgs rfl (by kernel_rfl) (by kernel_rfl) (by kernel_rfl)
   (OpenSpec.preRow_of_cond 8 hx (by kernel_rfl) (fun k hk => by cases hk; kernel_rfl) (by kernel_rfl) (txReads_laid os))) ?_
 intro W base args ds gs before hval hW _ hcond _ hL _ _
 exact txReads_one hval hW (hcond _ rfl) (glob_of hL)
theorem txReads_said : Rows.TxReadsUptoSaid :=
 OpenClaim.holds_of_cond 7 f7 rfl rfl rfl rfl rfl rfl rfl ⟨rfl, rfl, rfl, rfl, rfl⟩ rfl rfl rfl rfl rfl (by kernel_rfl) func7 (by kernel_rfl)
  (of_decide_eq_true (by kernel_rfl)) (by unfold Func.isWrapper; first | (rw [if_pos (by decide +kernel)]; kernel_rfl) | (rw [if_neg (by decide +kernel)]; exact ⟨rfl, rfl⟩))
  (fun os started H enc _ F => by rw [OpenClaim.pre_eq_preRow]; exact txReads_lifted os started H enc F)
theorem txReads_plain (f : FuncId) (fn : Func) (hf : Tryz.pinned.checked.prog.funcNamed "bayou/bayoulaw05.TxReads" = some f) (hfn : Tryz.pinned.checked.prog.funcs[f]? = some fn) :
  true = Tryz.pinned.checked.prog.looks [] ∧ ∀ (j : Nat) t, fn.params[j]? = some t → Tryz.pinned.checked.prog.wantsStandIn t = false := by
 obtain rfl : f = 7 := Option.some.inj ((show prog.funcNamed "bayou/bayoulaw05.TxReads" = some 7 by kernel_rfl).symm.trans hf) |>.symm
 obtain rfl : fn = f7 := (Option.some.inj (func7.symm.trans hfn)).symm
 refine ⟨by kernel_rfl, fun j t ht => ?_⟩
 rw [params7] at ht
 have hm : t = 51 := by simpa using Array.mem_of_getElem? ht
 subst hm
 exact (show prog.wantsStandIn 51 = false by kernel_rfl)
theorem txReads_holds : Rows.TxReadsUptoCardSaid :=
 Claim7.holds_tied_plain_at .later [] _ _ _ _ txReads_said (fun _ h => by cases h) (by kernel_rfl) (fun _ h => by cases h) txReadsUpto_row_tie rfl ⟨rfl, rfl⟩ (by kernel_rfl) rfl txReads_plain (by kernel_rfl)
#print axioms txReads_holds
end Go.Proofs.YtcglahfmnoghjaaGreatDoor
