/- CondChecks: whatever the condition, of bulk at most 1048576, the law answers true. Conditions: the listed variables hold what the card ties. -/
import Derived.Test.YtcglahfmnoghjaaDoorC1
namespace Go.Proofs.YtcglahfmnoghjaaDoor
open Go Go.Eng Go.Proofs.Tryd Go.ChangeShapes Go.WideShapes Go.RowKit

/-- The call, out of the contract. -/
theorem law_calls {P : Program} {E : Eng AA} {f : FuncId} {fn : Func} {body : Code} {L : LS AA} {ann : L.X → Anns AA} (hP : E.P = P) (hS : Sound E) (hf : Has P f fn body) (hL : Fits E fn body L ann) (x : L.X) (hx : L.pre x) (hres : L.res x = [.sb 0 true]) (hin : L.hin x = []) (hle : ∀ x, L.pre x → (L.hin x).length ≤ (L.hout x).length)
    {W : World} {vs : List Value} (ha : ArgsR NoO [] W E.C (L.args x) vs) (hg : Glob E.GL NoO [] W E.C) : Calls P f vs.toArray W fun e W' => e = .returned (.bool true) ∧ Below W.heap.size W W' := by
  subst hP
  refine (fn_calls hS hf.is hf.body hL.fits hle hx ha (by rw [hin]; exact hr_nil _ _) hg).mono fun e W' he => ?_
  cases e with
  | returned v =>
    obtain ⟨env', h1, _, h2, _⟩ := he
    rw [hres] at h1
    exact ⟨by rw [Rep.inv_sb h1], below_of_step h2⟩
  | panicked c => exact he.elim
  | outgrown => exact he.elim
theorem ee_P {P : Program} {E : Eng AA} {l : List (Nat × SpecT AA)} (h : E = EE P l) : E.P = P := by subst h; rfl
theorem ee_C {P : Program} {E : Eng AA} {l : List (Nat × SpecT AA)} (h : E = EE P l) : E.C = CC := by subst h; rfl
theorem ee_GL {P : Program} {E : Eng AA} {l : List (Nat × SpecT AA)} (h : E = EE P l) : E.GL = GG := by subst h; rfl

theorem agg_of_ok {P : Program} {W : World} {r : Reach} {base : Nat} {t : TypeId} {fs : Array Field} (ht : P.underlying t = some (.struct fs)) {v : Value} (h : Value.okWide P W r base t v) : ∃ cs : List Value, v = .agg cs.toArray := by
  unfold Value.okWide at h
  rw [ht] at h
  obtain ⟨cs, rfl, _⟩ := h
  exact ⟨cs.toList, by simp⟩
theorem checks_calls {W : World} {vs : List Value} {bs : List Br} (hw : weight bs ≤ 1099511627776) (ha : ArgsR NoO [] W CC [.agg (.cell (.rseq 48 bs) .nil)] vs) (hg : Glob GG NoO [] W CC) :
    Calls prog 5 vs.toArray W fun e W' => e = .returned (.bool true) ∧ Below W.heap.size W W' := by
  have hS : Sound E21 := by rw [E21_eq]; exact sound mixed known21
  exact law_calls (ee_P E21_eq) hS f5_has checks_ok bs hw rfl rfl (fun _ _ => Nat.le_refl _) (by rw [ee_C E21_eq]; exact ha) (by rw [ee_GL E21_eq, ee_C E21_eq]; exact hg)
end Go.Proofs.YtcglahfmnoghjaaDoor
