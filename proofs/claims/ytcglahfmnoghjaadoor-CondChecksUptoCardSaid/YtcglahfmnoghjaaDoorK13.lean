/- Contracts of what a condition's opening calls: what they say. Conditions: none. -/
import Derived.Test.YtcglahfmnoghjaaDoorS2
namespace Go.Proofs.YtcglahfmnoghjaaDoor
open Go Go.Eng Go.Proofs.Tryd

noncomputable def E12 : Eng AA := EE prog L12
theorem E12_eq : E12 = EE prog L12 := by
  unfold E12
  rfl
def gI (k : IntKind) (sh : List (SO AA)) (s : SV AA) : Option (List Int) := match intsOfS sh s with
  | some (k', xs) => if Go.Eng.kindOk k' k then some xs else none
  | none => none
def cloneILS : LS AA where
  X := List Int
  pre := fun xs => xs.length ≤ 1000000
  args := fun xs => [.rints .i64 xs]
  hin := fun _ => []
  res := fun _ => [.vec 0]
  hout := fun xs => [.ivec 3 .i64 xs]
def cloneIGet (args : List (SV AA)) (sh : List (SO AA)) : Option (List Int) := match args with
  | [s] => gI .i64 sh s
  | _ => none
def L13 : List (Nat × SpecT AA) := (53, tLent cloneILS cloneIGet) :: L12
noncomputable def E13 : Eng AA := EE prog L13

/-- The condition that all of some sign. -/
def allOf (ks : List Int) : List Br := [⟨Lib.compact (sortI ks), List.replicate 32 0, 0, 0⟩]
def allLS : LS AA where
  X := List Int
  pre := fun xs => xs.length ≤ 1000000
  args := fun xs => [.rints .i64 xs]
  hin := fun _ => []
  res := fun ks => [.agg (.cell (.rseq 93 (show List Br from allOf ks)) .nil)]
  hout := fun _ => []
def L14 : List (Nat × SpecT AA) := (24, tLent allLS cloneIGet) :: L13
noncomputable def E14 : Eng AA := EE prog L14

/-- Where a number is first, or -1. -/
def idxI (k : Int) : List Int → Nat → Int
  | [], _ => -1
  | x :: l, n => if k = x then n else idxI k l (n + 1)
def indexILS : LS AA where
  X := List Int × Int
  pre := fun _ => True
  args := fun x => [.rints .i64 x.1, .int .i64 x.2]
  hin := fun _ => []
  res := fun x => [.int .i64 (idxI x.2 x.1 0)]
  hout := fun _ => []
def indexIGet (args : List (SV AA)) (sh : List (SO AA)) : Option (List Int × Int) := match args with
  | [s, k] => match gI .i64 sh s, asI k with
    | some xs, some k => some (xs, k)
    | _, _ => none
  | _ => none
def indexIAnn (x : List Int × Int) : Anns AA := fun _ _ _ => some {
  X := Nat
  inv := fun k => k ≤ x.1.length ∧ x.1.length ≤ 9223372036854775807 ∧ idxI x.2 x.1 0 = idxI x.2 (x.1.drop k) k
  meas := fun k => x.1.length - k
  slots := fun k => [(8, .int .i64 k)]
  heap := fun _ => [] }
def L15 : List (Nat × SpecT AA) := (87, tLent indexILS indexIGet) :: L14
noncomputable def E15 : Eng AA := EE prog L15
def containsILS : LS AA where
  X := List Int × Int
  pre := fun _ => True
  args := fun x => [.rints .i64 x.1, .int .i64 x.2]
  hin := fun _ => []
  res := fun x => [.sb 0 (decide (x.2 ∈ x.1))]
  hout := fun _ => []
def L16 : List (Nat × SpecT AA) := (47, tLent containsILS indexIGet) :: L15
noncomputable def E16 : Eng AA := EE prog L16

/-- What a spend shows. -/
structure Sn where
  signed : List Int
  secret : List Int
  height : Int
  age : Int
def snSL (s : Sn) : SL AA := .cell (.rints .i64 s.signed) (.cell (.rints .u8 s.secret) (.cell (.int .i64 s.height) (.cell (.int .i64 s.age) .nil)))
def decSn (sh : List (SO AA)) : SL AA → Option Sn
  | .cell a (.cell b (.cell c (.cell d .nil))) => match gI .i64 sh a, gI .u8 sh b, asI c, asI d with
    | some x, some y, some z, some u => some ⟨x, y, z, u⟩
    | _, _, _, _ => none
  | _ => none
def missLS : LS AA where
  X := Sn × Int
  pre := fun _ => True
  args := fun x => [.int .i64 x.2, .ptr 0 0]
  hin := fun x => [.cells 31 (snSL x.1)]
  res := fun x => [.sb 0 (!decide (x.2 ∈ x.1.signed))]
  hout := fun x => [.cells 31 (snSL x.1)]
def snAt (sh : List (SO AA)) : SV AA → Option Sn
  | .ptr i 0 => match nth sh i with
    | some (.cells _ cs) => decSn sh (rslL sh cs)
    | _ => none
  | _ => none
def missGet (args : List (SV AA)) (sh : List (SO AA)) : Option (Sn × Int) := match args with
  | [k, p] => match asI k, snAt sh p with
    | some k, some s => some (s, k)
    | _, _ => none
  | _ => none
def L17 : List (Nat × SpecT AA) := (46, tLent missLS missGet) :: L16
noncomputable def E17 : Eng AA := EE prog L17
/-- Where the first key is that nobody signed, or -1. -/
def missIdx (signed : List Int) : List Int → Nat → Int
  | [], _ => -1
  | x :: l, n => if x ∈ signed then missIdx signed l (n + 1) else n
def indexFLS : LS AA where
  X := Sn × List Int
  pre := fun _ => True
  args := fun x => [.rints .i64 x.2, .fn (.func 46) .nil (.cell (.ptr 0 0) .nil)]
  hin := fun x => [.cells 31 (snSL x.1)]
  res := fun x => [.int .i64 (missIdx x.1.signed x.2 0)]
  hout := fun x => [.cells 31 (snSL x.1)]
def indexFGet (args : List (SV AA)) (sh : List (SO AA)) : Option (Sn × List Int) := match args with
  | [k, .fn (.func _) .nil (.cell p .nil)] => match gI .i64 sh k, snAt sh p with
    | some k, some s => some (s, k)
    | _, _ => none
  | _ => none
def indexFAnn (x : Sn × List Int) : Anns AA := fun _ _ _ => some {
  X := Nat
  inv := fun k => k ≤ x.2.length ∧ x.2.length ≤ 9223372036854775807 ∧ missIdx x.1.signed x.2 0 = missIdx x.1.signed (x.2.drop k) k
  meas := fun k => x.2.length - k
  slots := fun k => [(8, .int .i64 k)]
  heap := fun _ => [] }
def L18 : List (Nat × SpecT AA) := (88, tLent indexFLS indexFGet) :: L17
noncomputable def E18 : Eng AA := EE prog L18
def anyFLS : LS AA where
  X := Sn × List Int
  pre := fun _ => True
  args := fun x => [.rints .i64 x.2, .fn (.func 46) .nil (.cell (.ptr 0 0) .nil)]
  hin := fun x => [.cells 31 (snSL x.1)]
  res := fun x => [.sb 0 (decide (missIdx x.1.signed x.2 0 ≥ 0))]
  hout := fun x => [.cells 31 (snSL x.1)]
def L19 : List (Nat × SpecT AA) := (48, tLent anyFLS indexFGet) :: L18
noncomputable def E19 : Eng AA := EE prog L19
end Go.Proofs.YtcglahfmnoghjaaDoor
