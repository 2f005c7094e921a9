/- CondBack, where what it reads is of bulk at most 1048576: it answers true, and its arguments read behind the call as they did; the card ties the two listed variables to the program's text. Conditions: none. -/
import Derived.Test.YtcglahfmnoghjaaDoorMv5
namespace Go.Proofs.YtcglahfmnoghjaaDoor
open Go Go.Eng Go.Proofs.Tryd Go.ChangeShapes Go.WideShapes Go.RowKit

theorem c21_readable0 : prog.readableRec 24 = true := by kernel_rfl
theorem c21_row0 : 24 < prog.types.size := of_decide_eq_true (by kernel_rfl)
theorem f12_resT : f12.resultTypes = #[4] := by kernel_rfl
theorem f12_readT : ∀ t ∈ f12.params.toList, prog.readableRec t = true ∧ t < prog.types.size := by
  rw [params12]
  intro t ht
  simp only [List.mem_cons, List.not_mem_nil, or_false] at ht
  subst ht
  exact ⟨c21_readable0, c21_row0⟩
set_option maxRecDepth 100000 in
theorem back_one {H : Type} {enc : TypeId × Value → H} {W : World} {base : Nat} {args : Array Value} {ds gs : List (DataW H)} {before : List MemPlace}
    (hval : ∀ (j : Nat) t v, f12.params[j]? = some t → args[j]? = some v → Value.okWide prog W .any base t v)
    (hW : DataW.Whole enc prog f12.params.toList Rows.condBackSpec.vars false W args.toList ds gs before) (hk : Rows.uptoSmall H (ds ++ gs) = true) (hg : Glob GG NoO [] W CC) :
    Calls prog 12 args W fun e W' => ∃ v, e = .returned v ∧ Rows.condBackSpec.post enc prog f12 false true false false W args v W' := by
  have hW0 := hW
  obtain ⟨p, q, hA0, hV, rfl, _, _⟩ := hW0
  obtain ⟨rfl, rfl⟩ := trodVars_none hV
  have hA := hA0
  rw [params12] at hA hval
  obtain ⟨v0, vs0, d0, ds0, p0, q0, hargs, rfl, rfl, h0, r0⟩ := trodAll_cons hA
  obtain ⟨rfl, rfl, rfl⟩ := trodAll_nil r0
  obtain rfl : args = #[v0] := by cases args; simp_all
  have hv0 : Value.okWide prog W .any base 24 v0 := by
    exact hval 0 24 v0 (by simp) (by simp)
  obtain ⟨sl0, e0, bs, rfl, kw, k0⟩ := rep_of_trod rd_cond h0
  have hb := of_decide_eq_true hk
  simp only [List.append_nil, Rows.uptoBulkAll] at hb
  obtain ⟨cs0, rfl⟩ := agg_of_ok underlying24 hv0
  have i0 : RepL NoO [] W CC (.cell (.rseq 48 bs) .nil) cs0 := by simpa [Value.cells] using e0
  have ha : ArgsR NoO [] W CC [.agg (.cell (.rseq 48 bs) .nil)] [.agg cs0.toArray] := ⟨_, _, rfl, .agg cs0 i0, rfl⟩
  have hx : BackIn bs := back_in (Nat.le_trans k0 (by omega)) kw
  refine (back_calls hx ha hg).mono fun e W' ⟨he, hb'⟩ => ?_
  subst he
  exact ⟨_, rfl, law_post (tb := 4) laidOut f12_readT f12_resT underlying4 hW rfl rfl hb'⟩

def backArgs : Array Value := #[.agg #[.slice none 0 0]]
theorem back_laid (os : Os) : laidMetH prog Rows.condBackUptoRow.laid ((laidWorld os).forCall (fun _ _ => 0) ⟨#[], backArgs, []⟩).memory :=
  laidMetH_of_parts (laidMet_of_run' 8 (by kernel_rfl) (by kernel_rfl)) (by kernel_rfl)
theorem back_reads (os : Os) {H : Type} (enc : TypeId × Value → H) : ∃ places, DataW.whole enc prog ((laidWorld os).forCall (fun _ _ => 0) ⟨#[], backArgs, []⟩).memory f12.params.toList Rows.condBackSpec.vars false backArgs.toList 8 = some ([.agg [.nil]], [], places) :=
  ⟨[], by kernel_rfl⟩

set_option maxRecDepth 100000 in
theorem back_lifted (os : Os) (started : os.Started) (H : Type) (enc : TypeId × Value → H) (F : Stop.Interp) :
    ReturnsInHanded {} Tryd.checked os 12 .any ((Rows.OpenSpec.upto Rows.condBackSpec).preRow enc prog f12 Rows.condBackUptoRow.domain false Rows.condBackUptoRow.laid) (((Rows.OpenSpec.upto Rows.condBackSpec).at F).post enc prog f12 false true false false) := by
  obtain ⟨places, hx⟩ := back_reads os enc
  refine returnsInHanded_of_row (C := Tryd.checked) (s := Rows.OpenSpec.upto Rows.condBackSpec) own started (by kernel_rfl) func12
    (witness_row_at (enc := enc) (C := Tryd.checked) false (laidWorld os) backArgs rfl (by kernel_rfl) (by kernel_rfl) (by kernel_rfl)
      (OpenSpec.preRow_of_cond 8 hx (by kernel_rfl) (fun k hk => by cases hk; kernel_rfl) (by kernel_rfl) (back_laid os))) ?_
  intro W base args ds gs before hval hW _ hcond _ hL _ _
  exact back_one hval hW (hcond _ rfl) (glob_of hL)

theorem back_said : Rows.CondBackUptoSaid :=
  OpenClaim.holds_of_cond 12 f12 rfl rfl rfl rfl rfl rfl rfl ⟨rfl, rfl, rfl, rfl, rfl⟩ rfl rfl rfl rfl rfl (by kernel_rfl) func12 (by kernel_rfl)
    (of_decide_eq_true (by kernel_rfl)) (by unfold Func.isWrapper; first | (rw [if_pos (by decide +kernel)]; kernel_rfl) | (rw [if_neg (by decide +kernel)]; exact ⟨rfl, rfl⟩))
    (fun os started H enc _ F => by rw [OpenClaim.pre_eq_preRow]; exact back_lifted os started H enc F)

theorem back_plain (f : FuncId) (fn : Func) (hf : Tryd.pinned.checked.prog.funcNamed "bayou/bayoulaw04.CondBack" = some f) (hfn : Tryd.pinned.checked.prog.funcs[f]? = some fn) :
    true = Tryd.pinned.checked.prog.looks [] ∧ ∀ (j : Nat) t, fn.params[j]? = some t → Tryd.pinned.checked.prog.wantsStandIn t = false := by
  obtain rfl : f = 12 := Option.some.inj ((show prog.funcNamed "bayou/bayoulaw04.CondBack" = some 12 by kernel_rfl).symm.trans hf) |>.symm
  obtain rfl : fn = f12 := (Option.some.inj (func12.symm.trans hfn)).symm
  refine ⟨by kernel_rfl, fun j t ht => ?_⟩
  rw [params12] at ht
  have hm : t = 24 := by simpa using Array.mem_of_getElem? ht
  subst hm
  exact (show prog.wantsStandIn 24 = false by kernel_rfl)

theorem condBack_holds : Rows.CondBackUptoCardSaid :=
  Claim7.holds_tied_plain_at .later [] _ _ _ _ back_said (fun _ h => by cases h) (by kernel_rfl) (fun _ h => by cases h) condBackUpto_row_tie rfl ⟨rfl, rfl⟩ (by kernel_rfl) rfl back_plain (by kernel_rfl)
#print axioms condBack_holds
end Go.Proofs.YtcglahfmnoghjaaDoor
