/- The table of contracts, in a row. Conditions: none. -/
import Derived.Test.YtcglahfmnoghjaaDoorK7
namespace Go.Proofs.YtcglahfmnoghjaaDoor
open Go Go.Eng Go.Proofs.Tryd

theorem f43_is : prog.funcs[43]? = some f43 := by kernel_rfl
theorem f43_body : f43.body = some (bodyOf f43) := by kernel_rfl
theorem f43_name : (f43.name == "runtime.NumGoroutine") = false := by kernel_rfl
theorem E1_eq : E1 = EE prog L1 := by
  unfold E1
  rfl
theorem known2 : Known prog L2 := by
  unfold L2
  exact Known.more known1 mixed f43_is f43_name f43_body E1_eq odd_ok oddPure

theorem f86_is : prog.funcs[86]? = some f86 := by kernel_rfl
theorem f86_body : f86.body = some (bodyOf f86) := by kernel_rfl
theorem f86_name : (f86.name == "runtime.NumGoroutine") = false := by kernel_rfl
theorem E2_eq : E2 = EE prog L2 := by
  unfold E2
  rfl
theorem indexGot : ∀ (args : List (SV AA)) (x : List (AA 93)), indexGet args = some x → eqva [.rseq 93 x, .fn (.func 43) .nil .nil] args := by
  intro args x h
  unfold indexGet at h
  split at h
  · split at h
    · rename_i e; subst e
      exact ⟨asSeq_eqv h, by simp [eqv, eqvL], trivial⟩
    · cases h
  · cases h
theorem indexPure : Pure indexLS indexGet where
  hin := fun _ => rfl
  got := fun args x h => indexGot args x h
  closed := fun _ => rfl
theorem known3 : Known prog L3 := by
  unfold L3
  exact Known.more known2 mixed f86_is f86_name f86_body E2_eq index_ok indexPure

theorem f45_is : prog.funcs[45]? = some f45 := by kernel_rfl
theorem f45_body : f45.body = some (bodyOf f45) := by kernel_rfl
theorem f45_name : (f45.name == "runtime.NumGoroutine") = false := by kernel_rfl
theorem E3_eq : E3 = EE prog L3 := by
  unfold E3
  rfl
theorem anyPure : Pure anyLS indexGet where
  hin := fun _ => rfl
  got := fun args x h => indexGot args x h
  closed := fun _ => rfl
theorem known4 : Known prog L4 := by
  unfold L4
  exact Known.more known3 mixed f45_is f45_name f45_body E3_eq any_ok anyPure

theorem condGot (t : Nat) : ∀ (args : List (SV AA)) (x : List (AA t)), condGet t args = some x → eqva [.agg (.cell (.rseq t x) .nil)] args := by
  intro args x h
  unfold condGet at h
  split at h
  · refine ⟨?_, trivial⟩
    simp only [eqv, eqvL]
    exact ⟨asSeq_eqv h, trivial⟩
  · cases h
theorem f16_is : prog.funcs[16]? = some f16 := by kernel_rfl
theorem f16_body : f16.body = some (bodyOf f16) := by kernel_rfl
theorem f16_name : (f16.name == "runtime.NumGoroutine") = false := by kernel_rfl
theorem E4_eq : E4 = EE prog L4 := by
  unfold E4
  rfl
theorem known5 : Known prog L5 := by
  unfold L5
  exact Known.more2 known4 mixed f16_is f16_name f16_body E4_eq check1_ok check0_ok (fun args x h => condGot 93 args x h) (fun _ => rfl)

theorem f13_is : prog.funcs[13]? = some f13 := by kernel_rfl
theorem f13_body : f13.body = some (bodyOf f13) := by kernel_rfl
theorem f13_name : (f13.name == "runtime.NumGoroutine") = false := by kernel_rfl
theorem E5_eq : E5 = EE prog L5 := by
  unfold E5
  rfl
theorem longPure : Pure longLS (condGet 48) where
  hin := fun _ => rfl
  got := fun args x h => condGot 48 args x h
  closed := fun _ => rfl
theorem known6 : Known prog L6 := by
  unfold L6
  exact Known.more known5 mixed f13_is f13_name f13_body E5_eq long_ok longPure

theorem f17_is : prog.funcs[17]? = some f17 := by kernel_rfl
theorem f17_body : f17.body = some (bodyOf f17) := by kernel_rfl
theorem f17_name : (f17.name == "runtime.NumGoroutine") = false := by kernel_rfl
theorem E6_eq : E6 = EE prog L6 := by
  unfold E6
  rfl
theorem givePure : Pure giveLS (condGet 48) where
  hin := fun _ => rfl
  got := fun args x h => condGot 48 args x h
  closed := fun _ => rfl
theorem known7 : Known prog L7 := by
  unfold L7
  exact Known.more known6 mixed f17_is f17_name f17_body E6_eq give_ok givePure
end Go.Proofs.YtcglahfmnoghjaaDoor
