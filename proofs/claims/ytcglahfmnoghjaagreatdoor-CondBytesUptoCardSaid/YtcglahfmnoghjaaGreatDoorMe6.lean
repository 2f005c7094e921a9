/- CondBytes, where what it reads is of bulk at most 1048576: it answers true, and its arguments read behind the call as they did; the card ties the two listed variables to the program's text. Conditions: none. -/
import Derived.Test.YtcglahfmnoghjaaGreatDoorMe5
namespace Go.Proofs.YtcglahfmnoghjaaGreatDoor
open Go Go.Eng Go.Proofs.Tryz Go.ChangeShapes Go.WideShapes Go.RowKit
theorem c31_readable0 : prog.readableRec 50 = true := by kernel_rfl
theorem c31_row0 : 50 < prog.types.size := of_decide_eq_true (by kernel_rfl)
theorem c31_readable1 : prog.readableRec 51 = true := by kernel_rfl
theorem c31_row1 : 51 < prog.types.size := of_decide_eq_true (by kernel_rfl)
theorem f4_resT : f4.resultTypes = #[4] := by kernel_rfl
theorem f4_readT : ∀ t ∈ f4.params.toList, prog.readableRec t = true ∧ t < prog.types.size := by
 rw [params4]
 intro t ht
 simp only [List.mem_cons, List.not_mem_nil, or_false] at ht
 rcases ht with rfl | rfl | rfl
 ·exact ⟨c31_readable0, c31_row0⟩
 ·exact ⟨c31_readable0, c31_row0⟩
 ·exact ⟨c31_readable1, c31_row1⟩
set_option maxRecDepth 100000 in
theorem condBytes_one {H : Type} {enc : TypeId × Value → H} {W : World} {base : Nat} {args : Array Value} {ds gs : List (DataW H)} {before : List MemPlace}
  (hval : ∀ (j : Nat) t v, f4.params[j]? = some t → args[j]? = some v → Value.okWide prog W .any base t v)
  (hW : DataW.Whole enc prog f4.params.toList Rows.condBytesSpec.vars false W args.toList ds gs before) (hk : Rows.uptoSmall H (ds ++ gs) = true) (hg : Glob GG NoO [] W CC) :
  Calls prog 4 args W fun e W' => ∃ v, e = .returned v ∧ Rows.condBytesSpec.post enc prog f4 false true false false W args v W' := by
 have hW0 := hW
 obtain ⟨p, q, hA0, hV, rfl, _, _⟩ := hW0
 obtain ⟨rfl, rfl⟩ := trodVars_none hV
 have hA := hA0
 rw [params4] at hA hval
 obtain ⟨v0, vs0, d0, ds0, p0, q0, hargs, rfl, rfl, h0, r0⟩ := trodAll_cons hA
 obtain ⟨v1, vs1, d1, ds1, p1, q1, rfl, rfl, rfl, h1, r1⟩ := trodAll_cons r0
 obtain ⟨v2, vs2, d2, ds2, p2, q2, rfl, rfl, rfl, h2, r2⟩ := trodAll_cons r1
 obtain ⟨rfl, rfl, rfl⟩ := trodAll_nil r2
 obtain rfl : args = #[v0, v1, v2] := by cases args; simp_all
 have hv0 : Value.okWide prog W .any base 50 v0 := by
  exact hval 0 50 v0 (by simp) (by simp)
 have hv1 : Value.okWide prog W .any base 50 v1 := by
  exact hval 1 50 v1 (by simp) (by simp)
 have hv2 : Value.okWide prog W .any base 51 v2 := by
  exact hval 2 51 v2 (by simp) (by simp)
 obtain ⟨sl0, e0, c, rfl, w0, k0⟩ := rep_of_trod rd_cond h0
 obtain ⟨sl1, e1, d, rfl, w1, k1⟩ := rep_of_trod rd_cond h1
 obtain ⟨sl2, e2, b, rfl, k2, k3⟩ := rep_of_trod rd_bytC h2
 have hb := of_decide_eq_true hk
 simp only [List.append_nil, Rows.uptoBulkAll] at hb
 obtain ⟨cs0, rfl⟩ := agg_of_ok underlying50 hv0
 obtain ⟨cs1, rfl⟩ := agg_of_ok underlying50 hv1
 obtain ⟨a2, n2, c2, rfl⟩ := slice_of_okC underlying51 hv2
 have i0 : RepL NoO [] W CC (.cell (.rseq 85 c) .nil) cs0 := by simpa [Value.cells] using e0
 have i1 : RepL NoO [] W CC (.cell (.rseq 85 d) .nil) cs1 := by simpa [Value.cells] using e1
 have i2 : Rep NoO [] W CC (.rints .u8 b) (.slice a2 n2 c2) := by
  obtain ⟨u, us, g1, g2, _⟩ := e2.inv_cell
  simp only [Value.cells] at g1
  cases g1
  exact g2
 have ha : ArgsR NoO [] W CC [.agg (.cell (.rseq 85 c) .nil), .agg (.cell (.rseq 85 d) .nil), .rints .u8 b] [.agg cs0.toArray, .agg cs1.toArray, .slice a2 n2 c2] := ⟨_, _, rfl, .agg cs0 i0, _, _, rfl, .agg cs1 i1, _, _, rfl, i2, rfl⟩
 have hx : CBX.Ok (CBX.mk c d b) := cbx_of (Nat.le_trans k0 (by omega)) w0 (Nat.le_trans k1 (by omega)) w1 k2 (by omega)
 refine (condBytes_calls hx ha hg).mono fun e W' ⟨he, hb'⟩ => ?_
 subst he
 exact ⟨_, rfl, law_post (tb := 4) laidOut f4_readT f4_resT underlying4 hW rfl rfl hb'⟩
def condBytesArgs : Array Value := #[.agg #[.slice none 0 0], .agg #[.slice none 0 0], .slice none 0 0]
theorem condBytes_laid (os : Os) : laidMetH prog Rows.condBytesUptoRow.laid ((laidWorld os).forCall (fun _ _ => 0) ⟨#[], condBytesArgs, []⟩).memory :=
 laidMetH_of_parts (laidMet_of_run' 8 (by kernel_rfl) (by kernel_rfl)) (by kernel_rfl)
theorem condBytes_reads (os : Os) {H : Type} (enc : TypeId × Value → H) : ∃ places, DataW.whole enc prog ((laidWorld os).forCall (fun _ _ => 0) ⟨#[], condBytesArgs, []⟩).memory f4.params.toList Rows.condBytesSpec.vars false condBytesArgs.toList 8 = some ([.agg [.nil], .agg [.nil], .nil], [], places) :=
 ⟨[], by kernel_rfl⟩
set_option maxRecDepth 100000 in
theorem condBytes_lifted (os : Os) (started : os.Started) (H : Type) (enc : TypeId × Value → H) (F : Stop.Interp) :
  ReturnsInHanded {} Tryz.checked os 4 .any ((Rows.OpenSpec.upto Rows.condBytesSpec).preRow enc prog f4 Rows.condBytesUptoRow.domain false Rows.condBytesUptoRow.laid) (((Rows.OpenSpec.upto Rows.condBytesSpec).at F).post enc prog f4 false true false false) := by
 obtain ⟨places, hx⟩ := condBytes_reads os enc
 refine returnsInHanded_of_row (C := Tryz.checked) (s := Rows.OpenSpec.upto Rows.condBytesSpec) own started (by kernel_rfl) func4
  (witness_row_at (enc := enc) (C := Tryz.checked) false (laidWorld os) condBytesArgs rfl (by kernel_rfl) (by kernel_rfl) (by kernel_rfl)
   (OpenSpec.preRow_of_cond 8 hx (by kernel_rfl) (fun k hk => by cases hk; kernel_rfl) (by kernel_rfl) (condBytes_laid os))) ?_
 intro W base args ds gs before hval hW _ hcond _ hL _ _
 exact condBytes_one hval hW (hcond _ rfl) (glob_of hL)
theorem condBytes_said : Rows.CondBytesUptoSaid :=
 OpenClaim.holds_of_cond 4 f4 rfl rfl rfl rfl rfl rfl rfl ⟨rfl, rfl, rfl, rfl, rfl⟩ rfl rfl rfl rfl rfl (by kernel_rfl) func4 (by kernel_rfl)
  (of_decide_eq_true (by kernel_rfl)) (by unfold Func.isWrapper; first | (rw [if_pos (by decide +kernel)]; kernel_rfl) | (rw [if_neg (by decide +kernel)]; exact ⟨rfl, rfl⟩))
  (fun os started H enc _ F => by rw [OpenClaim.pre_eq_preRow]; exact condBytes_lifted os started H enc F)
theorem condBytes_plain (f : FuncId) (fn : Func) (hf : Tryz.pinned.checked.prog.funcNamed "bayou/bayoulaw04.CondBytes" = some f) (hfn : Tryz.pinned.checked.prog.funcs[f]? = some fn) :
  true = Tryz.pinned.checked.prog.looks [] ∧ ∀ (j : Nat) t, fn.params[j]? = some t → Tryz.pinned.checked.prog.wantsStandIn t = false := by
 obtain rfl : f = 4 := Option.some.inj ((show prog.funcNamed "bayou/bayoulaw04.CondBytes" = some 4 by kernel_rfl).symm.trans hf) |>.symm
 obtain rfl : fn = f4 := (Option.some.inj (func4.symm.trans hfn)).symm
 refine ⟨by kernel_rfl, fun j t ht => ?_⟩
 rw [params4] at ht
 have hm : t = 50 ∨ t = 50 ∨ t = 51 := by simpa using Array.mem_of_getElem? ht
 rcases hm with rfl | rfl | rfl
 ·exact (show prog.wantsStandIn 50 = false by kernel_rfl)
 ·exact (show prog.wantsStandIn 50 = false by kernel_rfl)
 ·exact (show prog.wantsStandIn 51 = false by kernel_rfl)
theorem condBytes_holds : Rows.CondBytesUptoCardSaid :=
 Claim7.holds_tied_plain_at .later [] _ _ _ _ condBytes_said (fun _ h => by cases h) (by kernel_rfl) (fun _ h => by cases h) condBytesUpto_row_tie rfl ⟨rfl, rfl⟩ (by kernel_rfl) rfl condBytes_plain (by kernel_rfl)
#print axioms condBytes_holds
end Go.Proofs.YtcglahfmnoghjaaGreatDoor
