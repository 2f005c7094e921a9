/- A condition's opening, and the first law: what they say. Conditions: none. -/
import Derived.Test.YtcglahfmnoghjaaDoorK14
namespace Go.Proofs.YtcglahfmnoghjaaDoor
open Go Go.Eng Go.Proofs.Tryd

theorem E19_eq : E19 = EE prog L19 := by
  unfold E19
  rfl
/-- A check's answer, by its number. -/
noncomputable def checkN (bs : List Br) : Int := cond (fineB bs) 0 1
noncomputable def checkELS : LS AA where
  X := List Br
  pre := fun _ => True
  args := fun bs => [.agg (.cell (.rseq 93 bs) .nil)]
  hin := fun _ => []
  res := fun bs => [.err 94 (checkN bs)]
  hout := fun _ => []
def condG (t : Nat) (sh : List (SO AA)) : SV AA → Option (List (AA t))
  | .agg (.cell s .nil) => seqOfS t sh s
  | _ => none
def checkEGet (args : List (SV AA)) (sh : List (SO AA)) : Option (List Br) := match args with
  | [c] => condG 93 sh c
  | _ => none
def L19c : List (Nat × SpecT AA) := (16, tLent checkELS checkEGet) :: L19
noncomputable def E19c : Eng AA := EE prog L19c
def zeros32 : List Int := List.replicate 32 0
/-- An opening's answer, by its number. -/
noncomputable def opensN (H : List Int → List Int) (bs : List Br) (br : Int) (s : Sn) : Int :=
  cond (fineB bs) (if br < 0 ∨ (bs.length : Int) ≤ br then 4 else match bs[br.toNat]? with
    | none => 4
    | some b => if missIdx s.signed b.keys 0 ≥ 0 then 21 else if b.lock ≠ zeros32 ∧ b.lock ≠ H s.secret then 22 else if s.height < b.after ∨ s.age < b.older then 23 else 0) 1
noncomputable def opens0LS : LS AA where
  X := List Br × Int × Sn
  pre := fun x => ∀ b, b ∈ x.1 → b.lock = zeros32
  args := fun x => [.agg (.cell (.rseq 93 x.1) .nil), .int .i64 x.2.1, .agg (snSL x.2.2)]
  hin := fun _ => []
  res := fun x => [.err 94 (opensN (fun _ => []) x.1 x.2.1 x.2.2)]
  hout := fun _ => []
def opensGet (args : List (SV AA)) (sh : List (SO AA)) : Option (List Br × Int × Sn) := match args with
  | [c, b, .agg s] => match condG 93 sh c, asI b, decSn sh s with
    | some bs, some b, some s => some (bs, b, s)
    | _, _, _ => none
  | _ => none
def L20 : List (Nat × SpecT AA) := (19, tLent opens0LS opensGet) :: L19c
noncomputable def E20 : Eng AA := EE prog L20
def sureLS : LS AA where
  X := Unit
  pre := fun _ => True
  args := fun _ => []
  hin := fun _ => []
  res := fun _ => [.bl true]
  hout := fun _ => []
def sureGet (args : List (SV AA)) (_ : List (SO AA)) : Option Unit := match args with
  | [] => some ()
  | _ => none
def L21 : List (Nat × SpecT AA) := (14, tLent sureLS sureGet) :: L20
noncomputable def E21 : Eng AA := EE prog L21
def checksLS : LS AA where
  X := List Br
  pre := fun bs => weight bs ≤ 1099511627776
  args := fun bs => [.agg (.cell (.rseq 48 bs) .nil)]
  hin := fun _ => []
  res := fun _ => [.sb 0 true]
  hout := fun _ => []
end Go.Proofs.YtcglahfmnoghjaaDoor
