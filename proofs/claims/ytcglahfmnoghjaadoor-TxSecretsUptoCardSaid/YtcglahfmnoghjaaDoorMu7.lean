/- TxSecrets, where what it reads is of bulk at most 1048576: it answers true, and its arguments read behind the call as they did; the card ties the two listed variables to the program's text. Conditions: none. -/
import Derived.Test.YtcglahfmnoghjaaDoorMu6
namespace Go.Proofs.YtcglahfmnoghjaaDoor
open Go Go.Eng Go.Proofs.Tryd Go.ChangeShapes Go.WideShapes Go.RowKit

theorem c19_readable0 : prog.readableRec 63 = true := by kernel_rfl
theorem c19_row0 : 63 < prog.types.size := of_decide_eq_true (by kernel_rfl)
theorem c19_readable1 : prog.readableRec 3 = true := by kernel_rfl
theorem c19_row1 : 3 < prog.types.size := of_decide_eq_true (by kernel_rfl)
theorem c19_readable2 : prog.readableRec 26 = true := by kernel_rfl
theorem c19_row2 : 26 < prog.types.size := of_decide_eq_true (by kernel_rfl)
theorem f10_resT : f10.resultTypes = #[4] := by kernel_rfl
theorem f10_readT : ∀ t ∈ f10.params.toList, prog.readableRec t = true ∧ t < prog.types.size := by
  rw [params10]
  intro t ht
  simp only [List.mem_cons, List.not_mem_nil, or_false] at ht
  rcases ht with rfl | rfl | rfl
  · exact ⟨c19_readable0, c19_row0⟩
  · exact ⟨c19_readable1, c19_row1⟩
  · exact ⟨c19_readable2, c19_row2⟩
set_option maxRecDepth 100000 in
theorem secrets_one {H : Type} {enc : TypeId × Value → H} {W : World} {base : Nat} {args : Array Value} {ds gs : List (DataW H)} {before : List MemPlace}
    (hval : ∀ (j : Nat) t v, f10.params[j]? = some t → args[j]? = some v → Value.okWide prog W .any base t v)
    (hW : DataW.Whole enc prog f10.params.toList Rows.txSecretsSpec.vars false W args.toList ds gs before) (hk : Rows.uptoSmall H (ds ++ gs) = true) (hg : Glob GG NoO [] W CC) :
    Calls prog 10 args W fun e W' => ∃ v, e = .returned v ∧ Rows.txSecretsSpec.post enc prog f10 false true false false W args v W' := by
  have hW0 := hW
  obtain ⟨p, q, hA0, hV, rfl, _, _⟩ := hW0
  obtain ⟨rfl, rfl⟩ := trodVars_none hV
  have hA := hA0
  rw [params10] at hA hval
  obtain ⟨v0, vs0, d0, ds0, p0, q0, hargs, rfl, rfl, h0, r0⟩ := trodAll_cons hA
  obtain ⟨v1, vs1, d1, ds1, p1, q1, rfl, rfl, rfl, h1, r1⟩ := trodAll_cons r0
  obtain ⟨v2, vs2, d2, ds2, p2, q2, rfl, rfl, rfl, h2, r2⟩ := trodAll_cons r1
  obtain ⟨rfl, rfl, rfl⟩ := trodAll_nil r2
  obtain rfl : args = #[v0, v1, v2] := by cases args; simp_all
  have hv0 : Value.okWide prog W .any base 63 v0 := by
    exact hval 0 63 v0 (by simp) (by simp)
  have hv1 : Value.okWide prog W .any base 3 v1 := by
    exact hval 1 3 v1 (by simp) (by simp)
  have hv2 : Value.okWide prog W .any base 26 v2 := by
    exact hval 2 26 v2 (by simp) (by simp)
  obtain ⟨sl0, e0, t, rfl, k0⟩ := rep_of_trod rd_tx h0
  obtain ⟨sl2, e2, s, rfl⟩ := rep_of_trod rd_bytes h2
  have hb := of_decide_eq_true hk
  simp only [List.append_nil, Rows.uptoBulkAll] at hb
  obtain ⟨cs0, rfl⟩ := agg_of_ok underlying63 hv0
  obtain ⟨n, rfl⟩ := int_of_ok underlying3 hv1
  obtain ⟨a2, n2, c2, rfl⟩ := slice_of_ok3 underlying26 hv2
  have i0 : RepL NoO [] W CC (txRSL t) cs0 := by simpa [Value.cells] using e0
  have i2 : Rep NoO [] W CC (.rints .u8 s) (.slice a2 n2 c2) := by
    obtain ⟨u, us, g1, g2, _⟩ := e2.inv_cell
    simp only [Value.cells] at g1
    cases g1
    exact g2
  have ha : ArgsR NoO [] W CC [.agg (txRSL t), .int .i64 n, .rints .u8 s] [.agg cs0.toArray, .int .i64 n, .slice a2 n2 c2] := ⟨_, _, rfl, .agg cs0 i0, _, _, rfl, .int, _, _, rfl, i2, rfl⟩
  have hx : SecX.Ok (SecX.mk t n s) := { k0.small (by omega), k0.ok (by omega) with
    sum := Nat.le_trans k0.sum (by omega)
    bytes := fun y hy => (k0.i y hy).2.2 }
  refine (secrets_calls hx ha hg).mono fun e W' ⟨he, hb'⟩ => ?_
  subst he
  exact ⟨_, rfl, law_post (tb := 4) laidOut f10_readT f10_resT underlying4 hW rfl rfl hb'⟩

def secretsArgs : Array Value := #[.agg #[.int .i64 0, .slice none 0 0, .slice none 0 0], .int .i64 0, .slice none 0 0]
theorem secrets_laid (os : Os) : laidMetH prog Rows.txSecretsUptoRow.laid ((laidWorld os).forCall (fun _ _ => 0) ⟨#[], secretsArgs, []⟩).memory :=
  laidMetH_of_parts (laidMet_of_run' 8 (by kernel_rfl) (by kernel_rfl)) (by kernel_rfl)
theorem secrets_reads (os : Os) {H : Type} (enc : TypeId × Value → H) : ∃ places, DataW.whole enc prog ((laidWorld os).forCall (fun _ _ => 0) ⟨#[], secretsArgs, []⟩).memory f10.params.toList Rows.txSecretsSpec.vars false secretsArgs.toList 8 = some ([.agg [.lit (.int .i64 0), .nil, .nil], .lit (.int .i64 0), .nil], [], places) :=
  ⟨[], by kernel_rfl⟩

set_option maxRecDepth 100000 in
theorem secrets_lifted (os : Os) (started : os.Started) (H : Type) (enc : TypeId × Value → H) (F : Stop.Interp) :
    ReturnsInHanded {} Tryd.checked os 10 .any ((Rows.OpenSpec.upto Rows.txSecretsSpec).preRow enc prog f10 Rows.txSecretsUptoRow.domain false Rows.txSecretsUptoRow.laid) (((Rows.OpenSpec.upto Rows.txSecretsSpec).at F).post enc prog f10 false true false false) := by
  obtain ⟨places, hx⟩ := secrets_reads os enc
  refine returnsInHanded_of_row (C := Tryd.checked) (s := Rows.OpenSpec.upto Rows.txSecretsSpec) own started (by kernel_rfl) func10
    (witness_row_at (enc := enc) (C := Tryd.checked) false (laidWorld os) secretsArgs rfl (by kernel_rfl) (by kernel_rfl) (by kernel_rfl)
      (OpenSpec.preRow_of_cond 8 hx (by kernel_rfl) (fun k hk => by cases hk; kernel_rfl) (by kernel_rfl) (secrets_laid os))) ?_
  intro W base args ds gs before hval hW _ hcond _ hL _ _
  exact secrets_one hval hW (hcond _ rfl) (glob_of hL)

theorem secrets_said : Rows.TxSecretsUptoSaid :=
  OpenClaim.holds_of_cond 10 f10 rfl rfl rfl rfl rfl rfl rfl ⟨rfl, rfl, rfl, rfl, rfl⟩ rfl rfl rfl rfl rfl (by kernel_rfl) func10 (by kernel_rfl)
    (of_decide_eq_true (by kernel_rfl)) (by unfold Func.isWrapper; first | (rw [if_pos (by decide +kernel)]; kernel_rfl) | (rw [if_neg (by decide +kernel)]; exact ⟨rfl, rfl⟩))
    (fun os started H enc _ F => by rw [OpenClaim.pre_eq_preRow]; exact secrets_lifted os started H enc F)

theorem secrets_plain (f : FuncId) (fn : Func) (hf : Tryd.pinned.checked.prog.funcNamed "bayou/bayoulaw05.TxSecrets" = some f) (hfn : Tryd.pinned.checked.prog.funcs[f]? = some fn) :
    true = Tryd.pinned.checked.prog.looks [] ∧ ∀ (j : Nat) t, fn.params[j]? = some t → Tryd.pinned.checked.prog.wantsStandIn t = false := by
  obtain rfl : f = 10 := Option.some.inj ((show prog.funcNamed "bayou/bayoulaw05.TxSecrets" = some 10 by kernel_rfl).symm.trans hf) |>.symm
  obtain rfl : fn = f10 := (Option.some.inj (func10.symm.trans hfn)).symm
  refine ⟨by kernel_rfl, fun j t ht => ?_⟩
  rw [params10] at ht
  have hm : t = 63 ∨ t = 3 ∨ t = 26 := by simpa using Array.mem_of_getElem? ht
  rcases hm with rfl | rfl | rfl
  · exact (show prog.wantsStandIn 63 = false by kernel_rfl)
  · exact (show prog.wantsStandIn 3 = false by kernel_rfl)
  · exact (show prog.wantsStandIn 26 = false by kernel_rfl)

theorem txSecrets_holds : Rows.TxSecretsUptoCardSaid :=
  Claim7.holds_tied_plain_at .later [] _ _ _ _ secrets_said (fun _ h => by cases h) (by kernel_rfl) (fun _ h => by cases h) txSecretsUpto_row_tie rfl ⟨rfl, rfl⟩ (by kernel_rfl) rfl secrets_plain (by kernel_rfl)
#print axioms txSecrets_holds
end Go.Proofs.YtcglahfmnoghjaaDoor
