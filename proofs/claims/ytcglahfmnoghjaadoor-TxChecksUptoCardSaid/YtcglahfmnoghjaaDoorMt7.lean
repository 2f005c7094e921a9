/- TxChecks, where what it reads is of bulk at most 1048576: it answers true, and its arguments read behind the call as they did; the card ties the two listed variables to the program's text. Conditions: none. -/
import Derived.Test.YtcglahfmnoghjaaDoorMt6
namespace Go.Proofs.YtcglahfmnoghjaaDoor
open Go Go.Eng Go.Proofs.Tryd Go.ChangeShapes Go.WideShapes Go.RowKit

theorem c17_readable0 : prog.readableRec 63 = true := by kernel_rfl
theorem c17_row0 : 63 < prog.types.size := of_decide_eq_true (by kernel_rfl)
theorem f8_resT : f8.resultTypes = #[4] := by kernel_rfl
theorem f8_readT : ∀ t ∈ f8.params.toList, prog.readableRec t = true ∧ t < prog.types.size := by
  rw [params8]
  intro t ht
  simp only [List.mem_cons, List.not_mem_nil, or_false] at ht
  subst ht
  exact ⟨c17_readable0, c17_row0⟩
set_option maxRecDepth 100000 in
theorem checksTx_one {H : Type} {enc : TypeId × Value → H} {W : World} {base : Nat} {args : Array Value} {ds gs : List (DataW H)} {before : List MemPlace}
    (hval : ∀ (j : Nat) t v, f8.params[j]? = some t → args[j]? = some v → Value.okWide prog W .any base t v)
    (hW : DataW.Whole enc prog f8.params.toList Rows.txChecksSpec.vars false W args.toList ds gs before) (hk : Rows.uptoSmall H (ds ++ gs) = true) (hg : Glob GG NoO [] W CC) :
    Calls prog 8 args W fun e W' => ∃ v, e = .returned v ∧ Rows.txChecksSpec.post enc prog f8 false true false false W args v W' := by
  have hW0 := hW
  obtain ⟨p, q, hA0, hV, rfl, _, _⟩ := hW0
  obtain ⟨rfl, rfl⟩ := trodVars_none hV
  have hA := hA0
  rw [params8] at hA hval
  obtain ⟨v0, vs0, d0, ds0, p0, q0, hargs, rfl, rfl, h0, r0⟩ := trodAll_cons hA
  obtain ⟨rfl, rfl, rfl⟩ := trodAll_nil r0
  obtain rfl : args = #[v0] := by cases args; simp_all
  have hv0 : Value.okWide prog W .any base 63 v0 := by
    exact hval 0 63 v0 (by simp) (by simp)
  obtain ⟨sl0, e0, t, rfl, k0⟩ := rep_of_trod rd_tx h0
  have hb := of_decide_eq_true hk
  simp only [List.append_nil, Rows.uptoBulkAll] at hb
  obtain ⟨cs0, rfl⟩ := agg_of_ok underlying63 hv0
  have i0 : RepL NoO [] W CC (txRSL t) cs0 := by simpa [Value.cells] using e0
  have ha : ArgsR NoO [] W CC [.agg (txRSL t)] [.agg cs0.toArray] := ⟨_, _, rfl, .agg cs0 i0, rfl⟩
  have hx : Small t := k0.small (by omega)
  refine (checksTx_calls hx ha hg).mono fun e W' ⟨he, hb'⟩ => ?_
  subst he
  exact ⟨_, rfl, law_post (tb := 4) laidOut f8_readT f8_resT underlying4 hW rfl rfl hb'⟩

def checksTxArgs : Array Value := #[.agg #[.int .i64 0, .slice none 0 0, .slice none 0 0]]
theorem checksTx_laid (os : Os) : laidMetH prog Rows.txChecksUptoRow.laid ((laidWorld os).forCall (fun _ _ => 0) ⟨#[], checksTxArgs, []⟩).memory :=
  laidMetH_of_parts (laidMet_of_run' 8 (by kernel_rfl) (by kernel_rfl)) (by kernel_rfl)
theorem checksTx_reads (os : Os) {H : Type} (enc : TypeId × Value → H) : ∃ places, DataW.whole enc prog ((laidWorld os).forCall (fun _ _ => 0) ⟨#[], checksTxArgs, []⟩).memory f8.params.toList Rows.txChecksSpec.vars false checksTxArgs.toList 8 = some ([.agg [.lit (.int .i64 0), .nil, .nil]], [], places) :=
  ⟨[], by kernel_rfl⟩

set_option maxRecDepth 100000 in
theorem checksTx_lifted (os : Os) (started : os.Started) (H : Type) (enc : TypeId × Value → H) (F : Stop.Interp) :
    ReturnsInHanded {} Tryd.checked os 8 .any ((Rows.OpenSpec.upto Rows.txChecksSpec).preRow enc prog f8 Rows.txChecksUptoRow.domain false Rows.txChecksUptoRow.laid) (((Rows.OpenSpec.upto Rows.txChecksSpec).at F).post enc prog f8 false true false false) := by
  obtain ⟨places, hx⟩ := checksTx_reads os enc
  refine returnsInHanded_of_row (C := Tryd.checked) (s := Rows.OpenSpec.upto Rows.txChecksSpec) own started (by kernel_rfl) func8
    (witness_row_at (enc := enc) (C := Tryd.checked) false (laidWorld os) checksTxArgs rfl (by kernel_rfl) (by kernel_rfl) (by kernel_rfl)
      (OpenSpec.preRow_of_cond 8 hx (by kernel_rfl) (fun k hk => by cases hk; kernel_rfl) (by kernel_rfl) (checksTx_laid os))) ?_
  intro W base args ds gs before hval hW _ hcond _ hL _ _
  exact checksTx_one hval hW (hcond _ rfl) (glob_of hL)

theorem checksTx_said : Rows.TxChecksUptoSaid :=
  OpenClaim.holds_of_cond 8 f8 rfl rfl rfl rfl rfl rfl rfl ⟨rfl, rfl, rfl, rfl, rfl⟩ rfl rfl rfl rfl rfl (by kernel_rfl) func8 (by kernel_rfl)
    (of_decide_eq_true (by kernel_rfl)) (by unfold Func.isWrapper; first | (rw [if_pos (by decide +kernel)]; kernel_rfl) | (rw [if_neg (by decide +kernel)]; exact ⟨rfl, rfl⟩))
    (fun os started H enc _ F => by rw [OpenClaim.pre_eq_preRow]; exact checksTx_lifted os started H enc F)

theorem checksTx_plain (f : FuncId) (fn : Func) (hf : Tryd.pinned.checked.prog.funcNamed "bayou/bayoulaw05.TxChecks" = some f) (hfn : Tryd.pinned.checked.prog.funcs[f]? = some fn) :
    true = Tryd.pinned.checked.prog.looks [] ∧ ∀ (j : Nat) t, fn.params[j]? = some t → Tryd.pinned.checked.prog.wantsStandIn t = false := by
  obtain rfl : f = 8 := Option.some.inj ((show prog.funcNamed "bayou/bayoulaw05.TxChecks" = some 8 by kernel_rfl).symm.trans hf) |>.symm
  obtain rfl : fn = f8 := (Option.some.inj (func8.symm.trans hfn)).symm
  refine ⟨by kernel_rfl, fun j t ht => ?_⟩
  rw [params8] at ht
  have hm : t = 63 := by simpa using Array.mem_of_getElem? ht
  subst hm
  exact (show prog.wantsStandIn 63 = false by kernel_rfl)

theorem txChecks_holds : Rows.TxChecksUptoCardSaid :=
  Claim7.holds_tied_plain_at .later [] _ _ _ _ checksTx_said (fun _ h => by cases h) (by kernel_rfl) (fun _ h => by cases h) txChecksUpto_row_tie rfl ⟨rfl, rfl⟩ (by kernel_rfl) rfl checksTx_plain (by kernel_rfl)
#print axioms txChecks_holds
end Go.Proofs.YtcglahfmnoghjaaDoor
