/- Contracts of small functions. Conditions: none. -/
import Derived.Test.YtcglahfmnoghjaaDoorK1
namespace Go.Proofs.YtcglahfmnoghjaaDoor
open Go Go.Eng Go.Proofs.Tryd

/-- The keys up to a place go up, and name parties. -/
def Up (ks : List Int) (n : Nat) : Prop := ∀ i : Nat, i < n → 0 ≤ ks.getD i 0 ∧ ks.getD i 0 < 16 ∧ (i = 0 ∨ ks.getD (i - 1) 0 < ks.getD i 0)
/-- A branch that may be. -/
def May (b : Br) : Prop := Up b.keys b.keys.length ∧ 1 ≤ b.keys.length ∧ 0 ≤ b.after ∧ b.after ≤ 1099511627776 ∧ 0 ≤ b.older ∧ b.older ≤ 65536
open Classical in
noncomputable def mayB (b : Br) : Bool := decide (May b)

noncomputable def mayLS : LS AA where
  X := Br
  pre := fun _ => True
  args := fun b => [.agg (encBr b)]
  hin := fun _ => []
  res := fun b => [.sb 0 (mayB b)]
  hout := fun _ => []
def mayGet : List (SV AA) → Option Br
  | [.agg cs] => decBr cs
  | _ => none
def mayAnn (b : Br) : Anns AA := fun _ _ _ => some { X := Nat, inv := fun k => k ≤ b.keys.length ∧ b.keys.length ≤ 9223372036854775807 ∧ Up b.keys k, meas := fun k => b.keys.length - k, slots := fun k => [(8, .int .i64 k)], heap := fun _ => [] }
end Go.Proofs.YtcglahfmnoghjaaDoor
