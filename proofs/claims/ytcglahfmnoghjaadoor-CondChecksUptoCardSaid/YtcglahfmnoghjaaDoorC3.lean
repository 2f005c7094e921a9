/- CondChecks, where what it reads is of bulk at most 1048576: it answers true, and its argument reads behind the call as it did; the card ties the two listed variables to the program's text. -/
import Derived.Test.YtcglahfmnoghjaaDoorC2
namespace Go.Proofs.YtcglahfmnoghjaaDoor
open Go Go.Eng Go.Proofs.Tryd Go.ChangeShapes Go.WideShapes Go.RowKit

theorem laid_parts {W : World} (h : laidMetH prog [("errors.errorType", Rows.laid_errors_errorType), ("bayou/blake.order", Rows.laid_bayou_blake_order)] W) :
    laidMet prog [("bayou/blake.order", Rows.laid_bayou_blake_order)] W ∧ handlesMet prog [("errors.errorType", Rows.laid_errors_errorType)] W := h

theorem readable24 : prog.readableRec 24 = true := by kernel_rfl
theorem row24 : 24 < prog.types.size := of_decide_eq_true (by kernel_rfl)
theorem f5_results : f5.resultTypes = #[4] := by kernel_rfl
theorem f5_read : ∀ t ∈ f5.params.toList, prog.readableRec t = true ∧ t < prog.types.size := by
  rw [params5]
  intro t ht
  simp only [List.mem_singleton] at ht
  rw [ht]
  exact ⟨readable24, row24⟩
set_option maxRecDepth 100000 in
theorem checks_one {H : Type} {enc : TypeId × Value → H} {W : World} {base : Nat} {args : Array Value} {ds gs : List (DataW H)} {before : List MemPlace}
    (hval : ∀ (j : Nat) t v, f5.params[j]? = some t → args[j]? = some v → Value.okWide prog W .any base t v)
    (hW : DataW.Whole enc prog f5.params.toList Rows.condChecksSpec.vars false W args.toList ds gs before) (hk : Rows.uptoSmall H (ds ++ gs) = true) (hg : Glob GG NoO [] W CC) :
    Calls prog 5 args W fun e W' => ∃ v, e = .returned v ∧ Rows.condChecksSpec.post enc prog f5 false true false false W args v W' := by
  have hW0 := hW
  obtain ⟨p, q, hA0, hV, rfl, _, _⟩ := hW0
  obtain ⟨rfl, rfl⟩ := trodVars_none hV
  have hA := hA0
  rw [params5] at hA hval
  obtain ⟨v0, vs0, d0, ds0, p0, q0, hargs, rfl, rfl, h0, r0⟩ := trodAll_cons hA
  obtain ⟨rfl, rfl, rfl⟩ := trodAll_nil r0
  obtain rfl : args = #[v0] := by cases args; simp_all
  obtain ⟨sl, h1, bs, rfl, _, h2⟩ := rep_of_trod rd_cond h0
  have hb := of_decide_eq_true hk
  simp only [List.append_nil, Rows.uptoBulkAll] at hb
  have hp1 : (#[24] : Array TypeId)[0]? = some 24 := by simp
  have hp2 : (#[v0] : Array Value)[0]? = some v0 := by simp
  have hv : Value.okWide prog W .any base 24 v0 := by
    exact hval 0 24 v0 hp1 hp2
  obtain ⟨cs, rfl⟩ := agg_of_ok underlying24 hv
  have h3 : RepL NoO [] W CC (.cell (.rseq 48 bs) .nil) cs := by simpa [Value.cells] using h1
  have ha : ArgsR NoO [] W CC [.agg (.cell (.rseq 48 bs) .nil)] [.agg cs.toArray] := ⟨_, [], rfl, .agg cs h3, rfl⟩
  have hw : weight bs ≤ 1099511627776 := Nat.le_trans h2 (by omega)
  have hc := checks_calls hw ha hg
  refine hc.mono fun e W' ⟨he, hb'⟩ => ?_
  subst he
  exact ⟨_, rfl, law_post (tb := 4) laidOut f5_read f5_results underlying4 hW rfl rfl hb'⟩

theorem checks_laid (os : Os) : laidMetH prog Rows.condChecksUptoRow.laid ((laidWorld os).forCall (fun _ _ => 0) ⟨#[], #[.agg #[.slice none 0 0]], []⟩).memory :=
  laidMetH_of_parts (laidMet_of_run' 8 (by kernel_rfl) (by kernel_rfl)) (by kernel_rfl)
theorem checks_reads (os : Os) {H : Type} (enc : TypeId × Value → H) : ∃ places, DataW.whole enc prog ((laidWorld os).forCall (fun _ _ => 0) ⟨#[], #[.agg #[.slice none 0 0]], []⟩).memory f5.params.toList Rows.condChecksSpec.vars false #[Value.agg #[.slice none 0 0]].toList 8 = some ([.agg [.nil]], [], places) :=
  ⟨[], by kernel_rfl⟩

set_option maxRecDepth 100000 in
theorem checks_lifted (os : Os) (started : os.Started) (H : Type) (enc : TypeId × Value → H) (F : Stop.Interp) :
    ReturnsInHanded {} Tryd.checked os 5 .any ((Rows.OpenSpec.upto Rows.condChecksSpec).preRow enc prog f5 Rows.condChecksUptoRow.domain false Rows.condChecksUptoRow.laid) (((Rows.OpenSpec.upto Rows.condChecksSpec).at F).post enc prog f5 false true false false) := by
  obtain ⟨places, hx⟩ := checks_reads os enc
  refine returnsInHanded_of_row (C := Tryd.checked) (s := Rows.OpenSpec.upto Rows.condChecksSpec) own started (by kernel_rfl) func5
    (witness_row_at (enc := enc) (C := Tryd.checked) false (laidWorld os) #[.agg #[.slice none 0 0]] rfl (by kernel_rfl) (by kernel_rfl) (by kernel_rfl)
      (OpenSpec.preRow_of_cond 8 hx (by kernel_rfl) (fun k hk => by cases hk; kernel_rfl) (by kernel_rfl) (checks_laid os))) ?_
  intro W base args ds gs before hval hW _ hcond _ hL _ _
  exact checks_one hval hW (hcond _ rfl) (glob_of_laid (handle_of_laid (laid_parts hL).2))

theorem checks_said : Rows.CondChecksUptoSaid :=
  OpenClaim.holds_of_cond 5 f5 rfl rfl rfl rfl rfl rfl rfl ⟨rfl, rfl, rfl, rfl, rfl⟩ rfl rfl rfl rfl rfl (by kernel_rfl) func5 (by kernel_rfl)
    (of_decide_eq_true (by kernel_rfl)) (by unfold Func.isWrapper; first | (rw [if_pos (by decide +kernel)]; kernel_rfl) | (rw [if_neg (by decide +kernel)]; exact ⟨rfl, rfl⟩))
    (fun os started H enc _ F => by rw [OpenClaim.pre_eq_preRow]; exact checks_lifted os started H enc F)

theorem checks_plain (f : FuncId) (fn : Func) (hf : Tryd.pinned.checked.prog.funcNamed "bayou/bayoulaw04.CondChecks" = some f) (hfn : Tryd.pinned.checked.prog.funcs[f]? = some fn) :
    true = Tryd.pinned.checked.prog.looks [] ∧ ∀ (j : Nat) t, fn.params[j]? = some t → Tryd.pinned.checked.prog.wantsStandIn t = false := by
  obtain rfl : f = 5 := Option.some.inj ((show prog.funcNamed "bayou/bayoulaw04.CondChecks" = some 5 by kernel_rfl).symm.trans hf) |>.symm
  obtain rfl : fn = f5 := (Option.some.inj (func5.symm.trans hfn)).symm
  refine ⟨by kernel_rfl, fun j t ht => ?_⟩
  rw [params5] at ht
  obtain rfl : t = 24 := by simpa using Array.mem_of_getElem? ht
  exact (show prog.wantsStandIn 24 = false by kernel_rfl)

theorem condChecks_holds : Rows.CondChecksUptoCardSaid :=
  Claim7.holds_tied_plain_at .later [] _ _ _ _ checks_said (fun _ h => by cases h) (by kernel_rfl) (fun _ h => by cases h) condChecksUpto_row_tie rfl ⟨rfl, rfl⟩ (by kernel_rfl) rfl checks_plain (by kernel_rfl)
#print axioms condChecks_holds
end Go.Proofs.YtcglahfmnoghjaaDoor
