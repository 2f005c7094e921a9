/- TxBack, where what it reads is of bulk at most 1048576: it answers true, and its arguments read behind the call as they did; the card ties the two listed variables to the program's text. Conditions: none. -/
import Derived.Test.YtcglahfmnoghjaaGreatDoorMb6
namespace Go.Proofs.YtcglahfmnoghjaaGreatDoor
open Go Go.Eng Go.Proofs.Tryz Go.ChangeShapes Go.WideShapes Go.RowKit
theorem c25_readable0 : prog.readableRec 25 = true := by kernel_rfl
theorem c25_row0 : 25 < prog.types.size := of_decide_eq_true (by kernel_rfl)
theorem f6_resT : f6.resultTypes = #[4] := by kernel_rfl
theorem f6_readT : ∀ t ∈ f6.params.toList, prog.readableRec t = true ∧ t < prog.types.size := by
 rw [params6]
 intro t ht
 simp only [List.mem_cons, List.not_mem_nil, or_false] at ht
 subst ht
 exact ⟨c25_readable0, c25_row0⟩
set_option maxRecDepth 100000 in
theorem txBack_one {H : Type} {enc : TypeId × Value → H} {W : World} {base : Nat} {args : Array Value} {ds gs : List (DataW H)} {before : List MemPlace}
  (hval : ∀ (j : Nat) t v, f6.params[j]? = some t → args[j]? = some v → Value.okWide prog W .any base t v)
  (hW : DataW.Whole enc prog f6.params.toList Rows.txBackSpec.vars false W args.toList ds gs before) (hk : Rows.uptoSmall H (ds ++ gs) = true) (hg : Glob GG NoO [] W CC) :
  Calls prog 6 args W fun e W' => ∃ v, e = .returned v ∧ Rows.txBackSpec.post enc prog f6 false true false false W args v W' := by
 have hW0 := hW
 obtain ⟨p, q, hA0, hV, rfl, _, _⟩ := hW0
 obtain ⟨rfl, rfl⟩ := trodVars_none hV
 have hA := hA0
 rw [params6] at hA hval
 obtain ⟨v0, vs0, d0, ds0, p0, q0, hargs, rfl, rfl, h0, r0⟩ := trodAll_cons hA
 obtain ⟨rfl, rfl, rfl⟩ := trodAll_nil r0
 obtain rfl : args = #[v0] := by cases args; simp_all
 have hv0 : Value.okWide prog W .any base 25 v0 := by
  exact hval 0 25 v0 (by simp) (by simp)
 obtain ⟨sl0, e0, t, rfl, k0⟩ := rep_of_trod rd_tx h0
 have hb := of_decide_eq_true hk
 simp only [List.append_nil, Rows.uptoBulkAll] at hb
 obtain ⟨cs0, rfl⟩ := agg_of_ok underlying25 hv0
 have i0 : RepL NoO [] W CC (txRSL t) cs0 := by simpa [Value.cells] using e0
 have ha : ArgsR NoO [] W CC [.agg (txRSL t)] [.agg cs0.toArray] := ⟨_, _, rfl, .agg cs0 i0, rfl⟩
 have hx : TxWf t := k0.wf (by omega)
 refine (txBack_calls hx ha hg).mono fun e W' ⟨he, hb'⟩ => ?_
 subst he
 exact ⟨_, rfl, law_post (tb := 4) laidOut f6_readT f6_resT underlying4 hW rfl rfl hb'⟩
def txBackArgs : Array Value := #[.agg #[.int .i64 0, .slice none 0 0, .slice none 0 0]]
theorem txBack_laid (os : Os) : laidMetH prog Rows.txBackUptoRow.laid ((laidWorld os).forCall (fun _ _ => 0) ⟨#[], txBackArgs, []⟩).memory :=
 laidMetH_of_parts (laidMet_of_run' 8 (by kernel_rfl) (by kernel_rfl)) (by kernel_rfl)
theorem txBack_reads (os : Os) {H : Type} (enc : TypeId × Value → H) : ∃ places, DataW.whole enc prog ((laidWorld os).forCall (fun _ _ => 0) ⟨#[], txBackArgs, []⟩).memory f6.params.toList Rows.txBackSpec.vars false txBackArgs.toList 8 = some ([.agg [.lit (.int .i64 0), .nil, .nil]], [], places) :=
 ⟨[], by kernel_rfl⟩
set_option maxRecDepth 100000 in
theorem txBack_lifted (os : Os) (started : os.Started) (H : Type) (enc : TypeId × Value → H) (F : Stop.Interp) :
  ReturnsInHanded {} Tryz.checked os 6 .any ((Rows.OpenSpec.upto Rows.txBackSpec).preRow enc prog f6 Rows.txBackUptoRow.domain false Rows.txBackUptoRow.laid) (((Rows.OpenSpec.upto Rows.txBackSpec).at F).post enc prog f6 false true false false) := by
 obtain ⟨places, hx⟩ := txBack_reads os enc
 refine returnsInHanded_of_row (C := Tryz.checked) (s := Rows.OpenSpec.upto Rows.txBackSpec) own started (by kernel_rfl) func6
  (witness_row_at (enc := enc) (C := Tryz.checked) false (laidWorld os) txBackArgs rfl (by kernel_rfl) (by kernel_rfl) (by kernel_rfl)
   (OpenSpec.preRow_of_cond 8 hx (by kernel_rfl) (fun k hk => by cases hk; kernel_rfl) (by kernel_rfl) (txBack_laid os))) ?_
 intro W base args ds gs before hval hW _ hcond _ hL _ _
 exact txBack_one hval hW (hcond _ rfl) (glob_of hL)
theorem txBack_said : Rows.TxBackUptoSaid :=
 OpenClaim.holds_of_cond 6 f6 rfl rfl rfl rfl rfl rfl rfl ⟨rfl, rfl, rfl, rfl, rfl⟩ rfl rfl rfl rfl rfl (by kernel_rfl) func6 (by kernel_rfl)
  (of_decide_eq_true (by kernel_rfl)) (by unfold Func.isWrapper; first | (rw [if_pos (by decide +kernel)]; kernel_rfl) | (rw [if_neg (by decide +kernel)]; exact ⟨rfl, rfl⟩))
  (fun os started H enc _ F => by rw [OpenClaim.pre_eq_preRow]; exact txBack_lifted os started H enc F)
theorem txBack_plain (f : FuncId) (fn : Func) (hf : Tryz.pinned.checked.prog.funcNamed "bayou/bayoulaw05.TxBack" = some f) (hfn : Tryz.pinned.checked.prog.funcs[f]? = some fn) :
  true = Tryz.pinned.checked.prog.looks [] ∧ ∀ (j : Nat) t, fn.params[j]? = some t → Tryz.pinned.checked.prog.wantsStandIn t = false := by
 obtain rfl : f = 6 := Option.some.inj ((show prog.funcNamed "bayou/bayoulaw05.TxBack" = some 6 by kernel_rfl).symm.trans hf) |>.symm
 obtain rfl : fn = f6 := (Option.some.inj (func6.symm.trans hfn)).symm
 refine ⟨by kernel_rfl, fun j t ht => ?_⟩
 rw [params6] at ht
 have hm : t = 25 := by simpa using Array.mem_of_getElem? ht
 subst hm
 exact (show prog.wantsStandIn 25 = false by kernel_rfl)
theorem txBack_holds : Rows.TxBackUptoCardSaid :=
 Claim7.holds_tied_plain_at .later [] _ _ _ _ txBack_said (fun _ h => by cases h) (by kernel_rfl) (fun _ h => by cases h) txBackUpto_row_tie rfl ⟨rfl, rfl⟩ (by kernel_rfl) rfl txBack_plain (by kernel_rfl)
#print axioms txBack_holds
end Go.Proofs.YtcglahfmnoghjaaGreatDoor
