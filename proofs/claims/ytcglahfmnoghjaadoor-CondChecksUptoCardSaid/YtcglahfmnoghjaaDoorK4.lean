/- Contracts of small functions, in a row: first. Conditions: none. -/
import Derived.Test.YtcglahfmnoghjaaDoorK3
namespace Go.Proofs.YtcglahfmnoghjaaDoor
open Go Go.Eng Go.Proofs.Tryd

theorem mayPure : Pure mayLS mayGet where
  hin := fun _ => rfl
  got := fun args x h => by
    unfold mayGet at h
    split at h
    · exact ⟨by simp only [eqv]; exact decBr_eqv h, trivial⟩
    · cases h
  closed := fun _ => rfl
theorem E0_eq : E0 = EE prog [] := by
  unfold E0
  rfl
def L1 : List (Nat × SpecT AA) := [(44, tOf mayLS mayGet)]
theorem f44_is : prog.funcs[44]? = some f44 := by kernel_rfl
theorem f44_body : f44.body = some (bodyOf f44) := by kernel_rfl
theorem f44_name : (f44.name == "runtime.NumGoroutine") = false := by kernel_rfl
theorem known1 : Known prog L1 := by
  unfold L1
  exact Known.more Known.nil mixed f44_is f44_name f44_body E0_eq may_ok mayPure
noncomputable def E1 : Eng AA := EE prog L1

noncomputable def oddLS : LS AA where
  X := Br
  pre := fun _ => True
  args := fun b => [.agg (encBr b)]
  hin := fun _ => []
  res := fun b => [.sb 0 (!mayB b)]
  hout := fun _ => []
def noAnn {X : Type} : X → Anns AA := fun _ _ _ _ => none
end Go.Proofs.YtcglahfmnoghjaaDoor
