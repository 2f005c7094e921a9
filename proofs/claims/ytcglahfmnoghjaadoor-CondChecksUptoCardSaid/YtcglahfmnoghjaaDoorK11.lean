/- Number by number. Conditions: none. -/
import Derived.Test.YtcglahfmnoghjaaDoorK10
namespace Go.Proofs.YtcglahfmnoghjaaDoor
open Go Go.Eng Go.Proofs.Tryd

noncomputable def E9 : Eng AA := EE prog L9
def intsLS : LS AA where
  X := List Int × List Int
  pre := fun _ => True
  args := fun x => [.rints .i64 x.1, .rints .i64 x.2]
  hin := fun _ => []
  res := fun x => [.sb 0 (decide (x.1 = x.2))]
  hout := fun _ => []
def intsGet : List (SV AA) → Option (List Int × List Int)
  | [a, b] => match asIs .i64 a, asIs .i64 b with
    | some x, some y => some (x, y)
    | _, _ => none
  | _ => none
def intsAnn (x : List Int × List Int) : Anns AA := fun _ _ _ => some {
  X := Nat
  inv := fun k => k ≤ x.1.length ∧ x.1.length = x.2.length ∧ ∀ j, j < k → x.1.getD j 0 = x.2.getD j 0
  meas := fun k => x.1.length - k
  slots := fun k => [(5, .int .i64 k)]
  heap := fun _ => [] }
end Go.Proofs.YtcglahfmnoghjaaDoor
