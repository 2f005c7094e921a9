/- Contracts around a condition's check: what they say. Conditions: none. -/
import Derived.Test.YtcglahfmnoghjaaDoorK4
namespace Go.Proofs.YtcglahfmnoghjaaDoor
open Go Go.Eng Go.Proofs.Tryd

def asSeq (t : Nat) : SV AA → Option (List (AA t))
  | .rseq _ xs => castL t xs
  | .val (.slice none 0 0) => some []
  | _ => none
theorem asSeq_eqv {t : Nat} {s : SV AA} {xs : List (AA t)} (h : asSeq t s = some xs) : eqv (.rseq t xs) s := by
  unfold asSeq at h
  split at h
  · unfold castL at h
    split at h
    · rename_i e; subst e; cases h; simp [eqv]
    · cases h
  · cases h; simp [eqv]
  · cases h

def L2 : List (Nat × SpecT AA) := (43, tOf oddLS mayGet) :: L1
noncomputable def E2 : Eng AA := EE prog L2

noncomputable def firstOdd : List Br → Nat → Int
  | [], _ => -1
  | b :: l, n => if mayB b = true then firstOdd l (n + 1) else n
noncomputable def indexLS : LS AA where
  X := List Br
  pre := fun _ => True
  args := fun bs => [.rseq 93 bs, .fn (.func 43) .nil .nil]
  hin := fun _ => []
  res := fun bs => [.int .i64 (firstOdd bs 0)]
  hout := fun _ => []
def indexGet : List (SV AA) → Option (List (AA 93))
  | [s, .fn (.func g) .nil .nil] => if g = 43 then asSeq 93 s else none
  | _ => none
def indexAnn (bs : List Br) : Anns AA := fun _ _ _ => some {
  X := Nat
  inv := fun k => k ≤ bs.length ∧ bs.length ≤ 9223372036854775807 ∧ firstOdd bs 0 = firstOdd (bs.drop k) k
  meas := fun k => bs.length - k
  slots := fun k => [(8, .int .i64 k)]
  heap := fun _ => [] }
def L3 : List (Nat × SpecT AA) := (86, tOf indexLS indexGet) :: L2
noncomputable def E3 : Eng AA := EE prog L3

noncomputable def anyLS : LS AA where
  X := List Br
  pre := fun _ => True
  args := fun bs => [.rseq 93 bs, .fn (.func 43) .nil .nil]
  hin := fun _ => []
  res := fun bs => [.sb 0 (decide (firstOdd bs 0 ≥ 0))]
  hout := fun _ => []
def L4 : List (Nat × SpecT AA) := (45, tOf anyLS indexGet) :: L3
noncomputable def E4 : Eng AA := EE prog L4

/-- A condition that may be. -/
def Fine (bs : List Br) : Prop := 1 ≤ bs.length ∧ bs.length ≤ 8 ∧ firstOdd bs 0 < 0
open Classical in
noncomputable def fineB (bs : List Br) : Bool := decide (Fine bs)
noncomputable def checkLS : LS2 AA where
  X := List Br
  c := fineB
  args := fun bs => [.agg (.cell (.rseq 93 bs) .nil)]
  yes := fun _ => [.val .nilIface]
  no := fun _ => [.iface 94 (.int .i64 1)]
def condGet (t : Nat) : List (SV AA) → Option (List (AA t))
  | [.agg (.cell s .nil)] => asSeq t s
  | _ => none
def L5 : List (Nat × SpecT AA) := (16, tIf checkLS (condGet 93)) :: L4
noncomputable def E5 : Eng AA := EE prog L5

def sumK : List Br → Nat
  | [] => 0
  | b :: l => b.keys.length + sumK l
def weight (bs : List Br) : Nat := bs.length + sumK bs
def longLS : LS AA where
  X := List Br
  pre := fun bs => weight bs ≤ 1099511627776
  args := fun bs => [.agg (.cell (.rseq 48 bs) .nil)]
  hin := fun _ => []
  res := fun bs => [.sb 0 (decide (300 < weight bs))]
  hout := fun _ => []
def longAnn (bs : List Br) : Anns AA := fun _ _ _ => some {
  X := Nat
  inv := fun k => k ≤ bs.length ∧ k ≤ 300
  meas := fun k => bs.length - k
  slots := fun k => [(3, .int .i64 (bs.length + sumK (bs.take k) : Nat)), (4, .int .i64 k)]
  heap := fun _ => [] }
def L6 : List (Nat × SpecT AA) := (13, tOf longLS (condGet 48)) :: L5
noncomputable def E6 : Eng AA := EE prog L6

def giveLS : LS AA where
  X := List Br
  pre := fun bs => weight bs ≤ 300
  args := fun bs => [.agg (.cell (.rseq 48 bs) .nil)]
  hin := fun _ => []
  res := fun bs => [.agg (.cell (.rseq 93 bs) .nil)]
  hout := fun _ => []
def giveAnn (bs : List Br) : Anns AA := fun _ _ _ => some {
  X := Nat
  inv := fun k => k ≤ bs.length
  meas := fun k => bs.length - k
  slots := fun k => [(3, .vec 2), (4, .int .i64 k)]
  heap := fun _ => []
  more := fun k => [.svec 93 (show List Br from bs.take k)] }
def L7 : List (Nat × SpecT AA) := (17, tOf giveLS (condGet 48)) :: L6
noncomputable def E7 : Eng AA := EE prog L7

noncomputable def refCheckLS : LS AA where
  X := List Br
  pre := fun bs => bs.length ≤ 9223372036854775807
  args := fun bs => [.agg (.cell (.rseq 48 bs) .nil)]
  hin := fun _ => []
  res := fun bs => [.int .i64 (cond (fineB bs) 0 1)]
  hout := fun _ => []
def lastK (ks : List Int) : Nat → Int
  | 0 => -1
  | k + 1 => ks.getD k 0
def refCheckAnn (bs : List Br) : Anns AA := fun r _ sh => cond (Nat.beq r 5)
  (some {
    X := Nat
    inv := fun k => k ≤ bs.length ∧ firstOdd bs 0 = firstOdd (bs.drop k) k
    meas := fun k => bs.length - k
    slots := fun k => [(3, .int .i64 k)]
    heap := fun _ => [] })
  (match nth sh 1 with
  | some (.cells _ (.cell (.rints _ ks) _)) => some {
    X := Nat
    inv := fun k => k ≤ ks.length ∧ Up ks k
    meas := fun k => ks.length - k
    slots := fun k => [(5, .int .i64 (lastK ks k)), (6, .int .i64 k)]
    heap := fun _ => [] }
  | _ => none)
def L8 : List (Nat × SpecT AA) := (18, tOf refCheckLS (condGet 48)) :: L7
end Go.Proofs.YtcglahfmnoghjaaDoor
