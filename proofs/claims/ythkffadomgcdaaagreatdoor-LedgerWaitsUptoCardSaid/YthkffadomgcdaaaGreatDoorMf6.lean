/- LedgerWaits, where what it reads is of bulk at most 1048576: it answers true, and its arguments read behind the call as they did; the card ties the two listed variables to the program's text. Conditions: none. -/
import Derived.Test.YthkffadomgcdaaaGreatDoorMf5
namespace Go.Proofs.YthkffadomgcdaaaGreatDoor
open Go Go.Eng Go.Proofs.Tryz Go.ChangeShapes Go.WideShapes Go.RowKit
theorem c33_readable0 : prog.readableRec 3 = true := by kernel_rfl
theorem c33_row0 : 3 < prog.types.size := of_decide_eq_true (by kernel_rfl)
theorem c33_readable1 : prog.readableRec 62 = true := by kernel_rfl
theorem c33_row1 : 62 < prog.types.size := of_decide_eq_true (by kernel_rfl)
theorem f4_resT : f4.resultTypes = #[4] := by kernel_rfl
theorem f4_readT : ∀ t ∈ f4.params.toList, prog.readableRec t = true ∧ t < prog.types.size := by
 rw [params4]
 intro t ht
 simp only [List.mem_cons, List.not_mem_nil, or_false] at ht
 rcases ht with rfl | rfl | rfl
 ·exact ⟨c33_readable0, c33_row0⟩
 ·exact ⟨c33_readable0, c33_row0⟩
 ·exact ⟨c33_readable1, c33_row1⟩
set_option maxRecDepth 100000 in
theorem ledgerWaits_one {H : Type} {enc : TypeId × Value → H} {W : World} {base : Nat} {args : Array Value} {ds gs : List (DataW H)} {before : List MemPlace}
  (hval : ∀ (j : Nat) t v, f4.params[j]? = some t → args[j]? = some v → Value.okWide prog W .any base t v)
  (hW : DataW.Whole enc prog f4.params.toList Rows.ledgerWaitsSpec.vars false W args.toList ds gs before) (hk : Rows.uptoSmall H (ds ++ gs) = true) (hg : Glob GG NoO [] W CC) :
  Calls prog 4 args W fun e W' => ∃ v, e = .returned v ∧ Rows.ledgerWaitsSpec.post enc prog f4 false true false false W args v W' := by
 have hW0 := hW
 obtain ⟨p, q, hA0, hV, rfl, _, _⟩ := hW0
 obtain ⟨rfl, rfl⟩ := trodVars_none hV
 have hA := hA0
 rw [params4] at hA hval
 obtain ⟨v0, vs0, d0, ds0, p0, q0, hargs, rfl, rfl, h0, r0⟩ := trodAll_cons hA
 obtain ⟨v1, vs1, d1, ds1, p1, q1, rfl, rfl, rfl, h1, r1⟩ := trodAll_cons r0
 obtain ⟨v2, vs2, d2, ds2, p2, q2, rfl, rfl, rfl, h2, r2⟩ := trodAll_cons r1
 obtain ⟨rfl, rfl, rfl⟩ := trodAll_nil r2
 obtain rfl : args = #[v0, v1, v2] := by cases args; simp_all
 have hv0 : Value.okWide prog W .any base 3 v0 := by
  exact hval 0 3 v0 (by simp) (by simp)
 have hv1 : Value.okWide prog W .any base 3 v1 := by
  exact hval 1 3 v1 (by simp) (by simp)
 have hv2 : Value.okWide prog W .any base 62 v2 := by
  exact hval 2 62 v2 (by simp) (by simp)
 obtain ⟨a, rfl⟩ := int_of_ok underlying3 hv0
 obtain ⟨o, rfl⟩ := int_of_ok underlying3 hv1
 obtain ⟨sl2, e2, m, n, rfl⟩ := rep_of_trod rd_pairI h2
 obtain ⟨cs2, rfl⟩ := arr_of_ok underlying62 hv2
 have i2 : RepL NoO [] W CC (.cell (.int .i64 m) (.cell (.int .i64 n) .nil)) cs2 := by simpa [Value.cells] using e2
 have ha : ArgsR NoO [] W CC [.int .i64 a, .int .i64 o, .agg (.cell (.int .i64 m) (.cell (.int .i64 n) .nil))] [.int .i64 a, .int .i64 o, .agg cs2.toArray] := ⟨_, _, rfl, .int, _, _, rfl, .int, _, _, rfl, .agg cs2 i2, rfl⟩
 refine (waits_calls (x := WaX.mk a o m n) ha hg).mono fun e W' ⟨he, hb'⟩ => ?_
 subst he
 exact ⟨_, rfl, law_post (tb := 4) laidOut f4_readT f4_resT underlying4 hW rfl rfl hb'⟩
def ledgerWaitsArgs : Array Value := #[.int .i64 0, .int .i64 0, .agg #[.int .i64 0, .int .i64 0]]
theorem ledgerWaits_laid (os : Os) : laidMetH prog Rows.ledgerWaitsUptoRow.laid ((laidWorld os).forCall (fun _ _ => 0) ⟨#[], ledgerWaitsArgs, []⟩).memory :=
 laidMetH_of_parts (laidMet_of_run' 8 (by kernel_rfl) (by kernel_rfl)) (by kernel_rfl)
theorem ledgerWaits_reads (os : Os) {H : Type} (enc : TypeId × Value → H) : ∃ places, DataW.whole enc prog ((laidWorld os).forCall (fun _ _ => 0) ⟨#[], ledgerWaitsArgs, []⟩).memory f4.params.toList Rows.ledgerWaitsSpec.vars false ledgerWaitsArgs.toList 8 = some ([.lit (.int .i64 0), .lit (.int .i64 0), .agg [.lit (.int .i64 0), .lit (.int .i64 0)]], [], places) :=
 ⟨[], by kernel_rfl⟩
set_option maxRecDepth 100000 in
theorem ledgerWaits_lifted (os : Os) (started : os.Started) (H : Type) (enc : TypeId × Value → H) (F : Stop.Interp) :
  ReturnsInHanded {} Tryz.checked os 4 .any ((Rows.OpenSpec.upto Rows.ledgerWaitsSpec).preRow enc prog f4 Rows.ledgerWaitsUptoRow.domain false Rows.ledgerWaitsUptoRow.laid) (((Rows.OpenSpec.upto Rows.ledgerWaitsSpec).at F).post enc prog f4 false true false false) := by
 obtain ⟨places, hx⟩ := ledgerWaits_reads os enc
 refine returnsInHanded_of_row (C := Tryz.checked) (s := Rows.OpenSpec.upto Rows.ledgerWaitsSpec) own started (by kernel_rfl) func4
  (witness_row_at (enc := enc) (C := Tryz.checked) false (laidWorld os) ledgerWaitsArgs rfl (by kernel_rfl) (by kernel_rfl) (by kernel_rfl)
   (OpenSpec.preRow_of_cond 8 hx (by kernel_rfl) (fun k hk => by cases hk; kernel_rfl) (by kernel_rfl) (ledgerWaits_laid os))) ?_
 intro W base args ds gs before hval hW _ hcond _ hL _ _
 exact ledgerWaits_one hval hW (hcond _ rfl) (glob_of hL)
theorem ledgerWaits_said : Rows.LedgerWaitsUptoSaid :=
 OpenClaim.holds_of_cond 4 f4 rfl rfl rfl rfl rfl rfl rfl ⟨rfl, rfl, rfl, rfl, rfl⟩ rfl rfl rfl rfl rfl (by kernel_rfl) func4 (by kernel_rfl)
  (of_decide_eq_true (by kernel_rfl)) (by unfold Func.isWrapper; first | (rw [if_pos (by decide +kernel)]; kernel_rfl) | (rw [if_neg (by decide +kernel)]; exact ⟨rfl, rfl⟩))
  (fun os started H enc _ F => by rw [OpenClaim.pre_eq_preRow]; exact ledgerWaits_lifted os started H enc F)
theorem ledgerWaits_plain (f : FuncId) (fn : Func) (hf : Tryz.pinned.checked.prog.funcNamed "bayou/bayoulaw06.LedgerWaits" = some f) (hfn : Tryz.pinned.checked.prog.funcs[f]? = some fn) :
  true = Tryz.pinned.checked.prog.looks [] ∧ ∀ (j : Nat) t, fn.params[j]? = some t → Tryz.pinned.checked.prog.wantsStandIn t = false := by
 obtain rfl : f = 4 := Option.some.inj ((show prog.funcNamed "bayou/bayoulaw06.LedgerWaits" = some 4 by kernel_rfl).symm.trans hf) |>.symm
 obtain rfl : fn = f4 := (Option.some.inj (func4.symm.trans hfn)).symm
 refine ⟨by kernel_rfl, fun j t ht => ?_⟩
 rw [params4] at ht
 have hm : t = 3 ∨ t = 3 ∨ t = 62 := by simpa using Array.mem_of_getElem? ht
 rcases hm with rfl | rfl | rfl
 ·exact (show prog.wantsStandIn 3 = false by kernel_rfl)
 ·exact (show prog.wantsStandIn 3 = false by kernel_rfl)
 ·exact (show prog.wantsStandIn 62 = false by kernel_rfl)
theorem ledgerWaits_holds : Rows.LedgerWaitsUptoCardSaid :=
 Claim7.holds_tied_plain_at .later [] _ _ _ _ ledgerWaits_said (fun _ h => by cases h) (by kernel_rfl) (fun _ h => by cases h) ledgerWaitsUpto_row_tie rfl ⟨rfl, rfl⟩ (by kernel_rfl) rfl ledgerWaits_plain (by kernel_rfl)
#print axioms ledgerWaits_holds
end Go.Proofs.YthkffadomgcdaaaGreatDoor
