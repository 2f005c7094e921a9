/- CondEither, where what it reads is of bulk at most 1048576: it answers true, and its arguments read behind the call as they did; the card ties the two listed variables to the program's text. -/
import Derived.Test.YtcglahfmnoghjaaDoorMp5
namespace Go.Proofs.YtcglahfmnoghjaaDoor
open Go Go.Eng Go.Proofs.Tryd Go.ChangeShapes Go.WideShapes Go.RowKit

theorem c9_readable24 : prog.readableRec 24 = true := by kernel_rfl
theorem c9_row24 : 24 < prog.types.size := of_decide_eq_true (by kernel_rfl)
theorem c9_readable50 : prog.readableRec 50 = true := by kernel_rfl
theorem c9_row50 : 50 < prog.types.size := of_decide_eq_true (by kernel_rfl)
theorem f6_resT : f6.resultTypes = #[4] := by kernel_rfl
theorem f6_readT : ∀ t ∈ f6.params.toList, prog.readableRec t = true ∧ t < prog.types.size := by
  rw [params6]
  intro t ht
  simp only [List.mem_cons, List.not_mem_nil, or_false] at ht
  rcases ht with rfl | rfl | rfl
  · exact ⟨c9_readable24, c9_row24⟩
  · exact ⟨c9_readable24, c9_row24⟩
  · exact ⟨c9_readable50, c9_row50⟩
set_option maxRecDepth 100000 in
theorem either_one {H : Type} {enc : TypeId × Value → H} {W : World} {base : Nat} {args : Array Value} {ds gs : List (DataW H)} {before : List MemPlace}
    (hval : ∀ (j : Nat) t v, f6.params[j]? = some t → args[j]? = some v → Value.okWide prog W .any base t v)
    (hW : DataW.Whole enc prog f6.params.toList Rows.condEitherSpec.vars false W args.toList ds gs before) (hk : Rows.uptoSmall H (ds ++ gs) = true) (hg : Glob GG NoO [] W CC) :
    Calls prog 6 args W fun e W' => ∃ v, e = .returned v ∧ Rows.condEitherSpec.post enc prog f6 false true false false W args v W' := by
  have hW0 := hW
  obtain ⟨p, q, hA0, hV, rfl, _, _⟩ := hW0
  obtain ⟨rfl, rfl⟩ := trodVars_none hV
  have hA := hA0
  rw [params6] at hA hval
  obtain ⟨v0, vs0, d0, ds0, p0, q0, hargs, rfl, rfl, h0, r0⟩ := trodAll_cons hA
  obtain ⟨v1, vs1, d1, ds1, p1, q1, rfl, rfl, rfl, h1, r1⟩ := trodAll_cons r0
  obtain ⟨v2, vs2, d2, ds2, p2, q2, rfl, rfl, rfl, h2, r2⟩ := trodAll_cons r1
  obtain ⟨rfl, rfl, rfl⟩ := trodAll_nil r2
  obtain rfl : args = #[v0, v1, v2] := by cases args; simp_all
  obtain ⟨sl0, e0, as_, rfl, _, b0⟩ := rep_of_trod rd_cond h0
  obtain ⟨sl1, e1, bs, rfl, _, b1⟩ := rep_of_trod rd_cond h1
  obtain ⟨sl2, e2, n, s, rfl, b2⟩ := rep_of_trod rd_shown h2
  have hb := of_decide_eq_true hk
  simp only [List.append_nil, Rows.uptoBulkAll] at hb
  have hv0 : Value.okWide prog W .any base 24 v0 := by
    exact hval 0 24 v0 (by simp) (by simp)
  have hv1 : Value.okWide prog W .any base 24 v1 := by
    exact hval 1 24 v1 (by simp) (by simp)
  have hv2 : Value.okWide prog W .any base 50 v2 := by
    exact hval 2 50 v2 (by simp) (by simp)
  obtain ⟨cs0, rfl⟩ := agg_of_ok underlying24 hv0
  obtain ⟨cs1, rfl⟩ := agg_of_ok underlying24 hv1
  obtain ⟨cs2, rfl⟩ := agg_of_ok underlying50 hv2
  have i0 : RepL NoO [] W CC (.cell (.rseq 48 as_) .nil) cs0 := by simpa [Value.cells] using e0
  have i1 : RepL NoO [] W CC (.cell (.rseq 48 bs) .nil) cs1 := by simpa [Value.cells] using e1
  have i2 : RepL NoO [] W CC (.cell (.int .i64 n) (snSL s)) cs2 := by simpa [Value.cells] using e2
  have ha : ArgsR NoO [] W CC [.agg (.cell (.rseq 48 as_) .nil), .agg (.cell (.rseq 48 bs) .nil), .agg (.cell (.int .i64 n) (snSL s))] [.agg cs0.toArray, .agg cs1.toArray, .agg cs2.toArray] :=
    ⟨_, _, rfl, .agg cs0 i0, _, _, rfl, .agg cs1 i1, _, _, rfl, .agg cs2 i2, rfl⟩
  have hx : EitherX.Ok (EitherX.mk as_ bs n s) := by
    have := b2.len
    exact ⟨Nat.le_trans b0 (by omega), Nat.le_trans b1 (by omega), ⟨b2.bytes, by simp only; omega⟩, by simp only; omega⟩
  refine (either_calls hx ha hg).mono fun e W' ⟨he, hb'⟩ => ?_
  subst he
  exact ⟨_, rfl, law_post (tb := 4) laidOut f6_readT f6_resT underlying4 hW rfl rfl hb'⟩

def eitherArgs : Array Value := #[.agg #[.slice none 0 0], .agg #[.slice none 0 0], .agg #[.int .i64 0, .slice none 0 0, .slice none 0 0, .int .i64 0, .int .i64 0]]
theorem either_laid (os : Os) : laidMetH prog Rows.condEitherUptoRow.laid ((laidWorld os).forCall (fun _ _ => 0) ⟨#[], eitherArgs, []⟩).memory :=
  laidMetH_of_parts (laidMet_of_run' 8 (by kernel_rfl) (by kernel_rfl)) (by kernel_rfl)
theorem either_reads (os : Os) {H : Type} (enc : TypeId × Value → H) : ∃ places, DataW.whole enc prog ((laidWorld os).forCall (fun _ _ => 0) ⟨#[], eitherArgs, []⟩).memory f6.params.toList Rows.condEitherSpec.vars false eitherArgs.toList 8 = some ([.agg [.nil], .agg [.nil], .agg [.lit (.int .i64 0), .agg [.nil, .nil, .lit (.int .i64 0), .lit (.int .i64 0)]]], [], places) :=
  ⟨[], by kernel_rfl⟩

set_option maxRecDepth 100000 in
theorem either_lifted (os : Os) (started : os.Started) (H : Type) (enc : TypeId × Value → H) (F : Stop.Interp) :
    ReturnsInHanded {} Tryd.checked os 6 .any ((Rows.OpenSpec.upto Rows.condEitherSpec).preRow enc prog f6 Rows.condEitherUptoRow.domain false Rows.condEitherUptoRow.laid) (((Rows.OpenSpec.upto Rows.condEitherSpec).at F).post enc prog f6 false true false false) := by
  obtain ⟨places, hx⟩ := either_reads os enc
  refine returnsInHanded_of_row (C := Tryd.checked) (s := Rows.OpenSpec.upto Rows.condEitherSpec) own started (by kernel_rfl) func6
    (witness_row_at (enc := enc) (C := Tryd.checked) false (laidWorld os) eitherArgs rfl (by kernel_rfl) (by kernel_rfl) (by kernel_rfl)
      (OpenSpec.preRow_of_cond 8 hx (by kernel_rfl) (fun k hk => by cases hk; kernel_rfl) (by kernel_rfl) (either_laid os))) ?_
  intro W base args ds gs before hval hW _ hcond _ hL _ _
  exact either_one hval hW (hcond _ rfl) (glob_of hL)

theorem either_said : Rows.CondEitherUptoSaid :=
  OpenClaim.holds_of_cond 6 f6 rfl rfl rfl rfl rfl rfl rfl ⟨rfl, rfl, rfl, rfl, rfl⟩ rfl rfl rfl rfl rfl (by kernel_rfl) func6 (by kernel_rfl)
    (of_decide_eq_true (by kernel_rfl)) (by unfold Func.isWrapper; first | (rw [if_pos (by decide +kernel)]; kernel_rfl) | (rw [if_neg (by decide +kernel)]; exact ⟨rfl, rfl⟩))
    (fun os started H enc _ F => by rw [OpenClaim.pre_eq_preRow]; exact either_lifted os started H enc F)

theorem either_plain (f : FuncId) (fn : Func) (hf : Tryd.pinned.checked.prog.funcNamed "bayou/bayoulaw04.CondEither" = some f) (hfn : Tryd.pinned.checked.prog.funcs[f]? = some fn) :
    true = Tryd.pinned.checked.prog.looks [] ∧ ∀ (j : Nat) t, fn.params[j]? = some t → Tryd.pinned.checked.prog.wantsStandIn t = false := by
  obtain rfl : f = 6 := Option.some.inj ((show prog.funcNamed "bayou/bayoulaw04.CondEither" = some 6 by kernel_rfl).symm.trans hf) |>.symm
  obtain rfl : fn = f6 := (Option.some.inj (func6.symm.trans hfn)).symm
  refine ⟨by kernel_rfl, fun j t ht => ?_⟩
  rw [params6] at ht
  have hm : t = 24 ∨ t = 24 ∨ t = 50 := by simpa using Array.mem_of_getElem? ht
  rcases hm with rfl | rfl | rfl
  · exact (show prog.wantsStandIn 24 = false by kernel_rfl)
  · exact (show prog.wantsStandIn 24 = false by kernel_rfl)
  · exact (show prog.wantsStandIn 50 = false by kernel_rfl)

theorem condEither_holds : Rows.CondEitherUptoCardSaid :=
  Claim7.holds_tied_plain_at .later [] _ _ _ _ either_said (fun _ h => by cases h) (by kernel_rfl) (fun _ h => by cases h) condEitherUpto_row_tie rfl ⟨rfl, rfl⟩ (by kernel_rfl) rfl either_plain (by kernel_rfl)
#print axioms condEither_holds
end Go.Proofs.YtcglahfmnoghjaaDoor
