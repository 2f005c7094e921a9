/- TxTotals, where what it reads is of bulk at most 1048576: it answers true, and its arguments read behind the call as they did; the card ties the two listed variables to the program's text. -/
import Derived.Test.YtcglahfmnoghjaaDoorMr5
namespace Go.Proofs.YtcglahfmnoghjaaDoor
open Go Go.Eng Go.Proofs.Tryd Go.ChangeShapes Go.WideShapes Go.RowKit

theorem c13_readable25 : prog.readableRec 25 = true := by kernel_rfl
theorem c13_row25 : 25 < prog.types.size := of_decide_eq_true (by kernel_rfl)
theorem f9_resT : f9.resultTypes = #[4] := by kernel_rfl
theorem f9_readT : ∀ t ∈ f9.params.toList, prog.readableRec t = true ∧ t < prog.types.size := by
  rw [params9]
  intro t ht
  simp only [List.mem_cons, List.not_mem_nil, or_false] at ht
  subst ht
  exact ⟨c13_readable25, c13_row25⟩
set_option maxRecDepth 100000 in
theorem totals_one {H : Type} {enc : TypeId × Value → H} {W : World} {base : Nat} {args : Array Value} {ds gs : List (DataW H)} {before : List MemPlace}
    (hval : ∀ (j : Nat) t v, f9.params[j]? = some t → args[j]? = some v → Value.okWide prog W .any base t v)
    (hW : DataW.Whole enc prog f9.params.toList Rows.txTotalsSpec.vars false W args.toList ds gs before) (hk : Rows.uptoSmall H (ds ++ gs) = true) (hg : Glob GG NoO [] W CC) :
    Calls prog 9 args W fun e W' => ∃ v, e = .returned v ∧ Rows.txTotalsSpec.post enc prog f9 false true false false W args v W' := by
  have hW0 := hW
  obtain ⟨p, q, hA0, hV, rfl, _, _⟩ := hW0
  obtain ⟨rfl, rfl⟩ := trodVars_none hV
  have hA := hA0
  rw [params9] at hA hval
  obtain ⟨v0, vs0, d0, ds0, p0, q0, hargs, rfl, rfl, h0, r0⟩ := trodAll_cons hA
  obtain ⟨rfl, rfl, rfl⟩ := trodAll_nil r0
  obtain rfl : args = #[v0] := by cases args; simp_all
  obtain ⟨sl0, e0, ks, rfl⟩ := rep_of_trod rd_keys2 h0
  have hv0 : Value.okWide prog W .any base 25 v0 := by
    exact hval 0 25 v0 (by simp) (by simp)
  obtain ⟨a0, n0, c0, rfl⟩ := slice_of_ok2 underlying25 hv0
  have i0 : Rep NoO [] W CC (.rints .i64 ks) (.slice a0 n0 c0) := by
    obtain ⟨u, us, g1, g2, _⟩ := e0.inv_cell
    simp only [Value.cells] at g1
    cases g1
    exact g2
  have ha : ArgsR NoO [] W CC [.rints .i64 ks] [.slice a0 n0 c0] := ⟨_, _, rfl, i0, rfl⟩
  refine (totals_calls ha hg).mono fun e W' ⟨he, hb'⟩ => ?_
  subst he
  exact ⟨_, rfl, law_post (tb := 4) laidOut f9_readT f9_resT underlying4 hW rfl rfl hb'⟩

def totalsArgs : Array Value := #[.slice none 0 0]
theorem totals_laid (os : Os) : laidMetH prog Rows.txTotalsUptoRow.laid ((laidWorld os).forCall (fun _ _ => 0) ⟨#[], totalsArgs, []⟩).memory :=
  laidMetH_of_parts (laidMet_of_run' 8 (by kernel_rfl) (by kernel_rfl)) (by kernel_rfl)
theorem totals_reads (os : Os) {H : Type} (enc : TypeId × Value → H) : ∃ places, DataW.whole enc prog ((laidWorld os).forCall (fun _ _ => 0) ⟨#[], totalsArgs, []⟩).memory f9.params.toList Rows.txTotalsSpec.vars false totalsArgs.toList 8 = some ([.nil], [], places) :=
  ⟨[], by kernel_rfl⟩

set_option maxRecDepth 100000 in
theorem totals_lifted (os : Os) (started : os.Started) (H : Type) (enc : TypeId × Value → H) (F : Stop.Interp) :
    ReturnsInHanded {} Tryd.checked os 9 .any ((Rows.OpenSpec.upto Rows.txTotalsSpec).preRow enc prog f9 Rows.txTotalsUptoRow.domain false Rows.txTotalsUptoRow.laid) (((Rows.OpenSpec.upto Rows.txTotalsSpec).at F).post enc prog f9 false true false false) := by
  obtain ⟨places, hx⟩ := totals_reads os enc
  refine returnsInHanded_of_row (C := Tryd.checked) (s := Rows.OpenSpec.upto Rows.txTotalsSpec) own started (by kernel_rfl) func9
    (witness_row_at (enc := enc) (C := Tryd.checked) false (laidWorld os) totalsArgs rfl (by kernel_rfl) (by kernel_rfl) (by kernel_rfl)
      (OpenSpec.preRow_of_cond 8 hx (by kernel_rfl) (fun k hk => by cases hk; kernel_rfl) (by kernel_rfl) (totals_laid os))) ?_
  intro W base args ds gs before hval hW _ hcond _ hL _ _
  exact totals_one hval hW (hcond _ rfl) (glob_of hL)

theorem totals_said : Rows.TxTotalsUptoSaid :=
  OpenClaim.holds_of_cond 9 f9 rfl rfl rfl rfl rfl rfl rfl ⟨rfl, rfl, rfl, rfl, rfl⟩ rfl rfl rfl rfl rfl (by kernel_rfl) func9 (by kernel_rfl)
    (of_decide_eq_true (by kernel_rfl)) (by unfold Func.isWrapper; first | (rw [if_pos (by decide +kernel)]; kernel_rfl) | (rw [if_neg (by decide +kernel)]; exact ⟨rfl, rfl⟩))
    (fun os started H enc _ F => by rw [OpenClaim.pre_eq_preRow]; exact totals_lifted os started H enc F)

theorem totals_plain (f : FuncId) (fn : Func) (hf : Tryd.pinned.checked.prog.funcNamed "bayou/bayoulaw05.TxTotals" = some f) (hfn : Tryd.pinned.checked.prog.funcs[f]? = some fn) :
    true = Tryd.pinned.checked.prog.looks [] ∧ ∀ (j : Nat) t, fn.params[j]? = some t → Tryd.pinned.checked.prog.wantsStandIn t = false := by
  obtain rfl : f = 9 := Option.some.inj ((show prog.funcNamed "bayou/bayoulaw05.TxTotals" = some 9 by kernel_rfl).symm.trans hf) |>.symm
  obtain rfl : fn = f9 := (Option.some.inj (func9.symm.trans hfn)).symm
  refine ⟨by kernel_rfl, fun j t ht => ?_⟩
  rw [params9] at ht
  have hm : t = 25 := by simpa using Array.mem_of_getElem? ht
  subst hm
  exact (show prog.wantsStandIn 25 = false by kernel_rfl)

theorem txTotals_holds : Rows.TxTotalsUptoCardSaid :=
  Claim7.holds_tied_plain_at .later [] _ _ _ _ totals_said (fun _ h => by cases h) (by kernel_rfl) (fun _ h => by cases h) txTotalsUpto_row_tie rfl ⟨rfl, rfl⟩ (by kernel_rfl) rfl totals_plain (by kernel_rfl)
#print axioms txTotals_holds
end Go.Proofs.YtcglahfmnoghjaaDoor
