/-
  NARROWER THAN 'FOR EVERY INPUT', by the rows' own cells (each row's printed sentence says how): TxPoints: laid · CondBytes: laid · TxBytes: laid · TxBack: laid · TxReads: laid.
  DERIVED. THE GIVEN ROWS OF THIS SEAT. 5 by the template 'for every input the law returns true; each argument reads behind the call as it read before'; 0 by the template 'total and deterministic' (their statements: YtcglahfmnoghjaaGreatDoorTotals.lean).
  GIVEN WITH THE SEED: the statements are not yours to turn. If you find one false, say at which input.
  Laid BY PROGRAM, IN A SANDBOX (cutbox-rows.mjs): the forced cells as the released guide's own fill.sh prints them over the translation 587f04a42627936f… (all of the seat's roots in one cut). By AI agents, Wed Nov 11 2026. No macro, syntax, notation, axiom, sorry.
-/
import Derived.Test.YtcglahfmnoghjaaGreatDoorChecked
import GoSem.Claim
import GoSem.ClaimJoined
import GoSem.ClaimMapViews
import Derived.JoinedTies
import Derived.KernelRfl
namespace Go.Proofs.YtcglahfmnoghjaaGreatDoor
/- THE CELL 'sum', in the pinned program and in every row, IS THE sha256 OF THE DUMP (.gsa) THAT YtcglahfmnoghjaaGreatDoorProg.lean LOADS. Nothing in Lean hashes anything: it is a label: what it is worth is what the hold of that sum in a sandbox is worth. -/
noncomputable def Tryz.pinned : Pinned := { name := "ytcglahfmnoghjaagreatdoor", sum := "587f04a42627936f6bd5a1a5bfceef8b018263b535d9412dc36cd3f93487b6c9", checked := Tryz.checked }
namespace Rows
def none {H : Type} : Left H := { results := [], args := [] }

/- WHAT THE LISTED PACKAGE-LEVEL VARIABLES READ AS WHEN THE CALL BEGINS. Each datum BY PROGRAM (the guide's laid-datum.mjs) off the statement by which the dump's own 'gosem.cut.vars' lays the variable. In a bare row this is a premise. The card (YtcglahfmnoghjaaGreatDoorCards.lean) ties it to the program's text. -/
def laid_errors_errorType {H : Type} : DataW H := .iface "internal/reflectlite.rtype" (.agg [.ptr (.lit (.string [101, 114, 114, 111, 114]))])
def laid_bayou_blake_order {H : Type} : DataW H := .agg [.agg [.lit (.int .u8 0), .lit (.int .u8 1), .lit (.int .u8 2), .lit (.int .u8 3), .lit (.int .u8 4), .lit (.int .u8 5), .lit (.int .u8 6), .lit (.int .u8 7), .lit (.int .u8 8), .lit (.int .u8 9), .lit (.int .u8 10), .lit (.int .u8 11), .lit (.int .u8 12), .lit (.int .u8 13), .lit (.int .u8 14), .lit (.int .u8 15)], .agg [.lit (.int .u8 14), .lit (.int .u8 10), .lit (.int .u8 4), .lit (.int .u8 8), .lit (.int .u8 9), .lit (.int .u8 15), .lit (.int .u8 13), .lit (.int .u8 6), .lit (.int .u8 1), .lit (.int .u8 12), .lit (.int .u8 0), .lit (.int .u8 2), .lit (.int .u8 11), .lit (.int .u8 7), .lit (.int .u8 5), .lit (.int .u8 3)], .agg [.lit (.int .u8 11), .lit (.int .u8 8), .lit (.int .u8 12), .lit (.int .u8 0), .lit (.int .u8 5), .lit (.int .u8 2), .lit (.int .u8 15), .lit (.int .u8 13), .lit (.int .u8 10), .lit (.int .u8 14), .lit (.int .u8 3), .lit (.int .u8 6), .lit (.int .u8 7), .lit (.int .u8 1), .lit (.int .u8 9), .lit (.int .u8 4)], .agg [.lit (.int .u8 7), .lit (.int .u8 9), .lit (.int .u8 3), .lit (.int .u8 1), .lit (.int .u8 13), .lit (.int .u8 12), .lit (.int .u8 11), .lit (.int .u8 14), .lit (.int .u8 2), .lit (.int .u8 6), .lit (.int .u8 5), .lit (.int .u8 10), .lit (.int .u8 4), .lit (.int .u8 0), .lit (.int .u8 15), .lit (.int .u8 8)], .agg [.lit (.int .u8 9), .lit (.int .u8 0), .lit (.int .u8 5), .lit (.int .u8 7), .lit (.int .u8 2), .lit (.int .u8 4), .lit (.int .u8 10), .lit (.int .u8 15), .lit (.int .u8 14), .lit (.int .u8 1), .lit (.int .u8 11), .lit (.int .u8 12), .lit (.int .u8 6), .lit (.int .u8 8), .lit (.int .u8 3), .lit (.int .u8 13)], .agg [.lit (.int .u8 2), .lit (.int .u8 12), .lit (.int .u8 6), .lit (.int .u8 10), .lit (.int .u8 0), .lit (.int .u8 11), .lit (.int .u8 8), .lit (.int .u8 3), .lit (.int .u8 4), .lit (.int .u8 13), .lit (.int .u8 7), .lit (.int .u8 5), .lit (.int .u8 15), .lit (.int .u8 14), .lit (.int .u8 1), .lit (.int .u8 9)], .agg [.lit (.int .u8 12), .lit (.int .u8 5), .lit (.int .u8 1), .lit (.int .u8 15), .lit (.int .u8 14), .lit (.int .u8 13), .lit (.int .u8 4), .lit (.int .u8 10), .lit (.int .u8 0), .lit (.int .u8 7), .lit (.int .u8 6), .lit (.int .u8 3), .lit (.int .u8 9), .lit (.int .u8 2), .lit (.int .u8 8), .lit (.int .u8 11)], .agg [.lit (.int .u8 13), .lit (.int .u8 11), .lit (.int .u8 7), .lit (.int .u8 14), .lit (.int .u8 12), .lit (.int .u8 1), .lit (.int .u8 3), .lit (.int .u8 9), .lit (.int .u8 5), .lit (.int .u8 0), .lit (.int .u8 15), .lit (.int .u8 4), .lit (.int .u8 8), .lit (.int .u8 6), .lit (.int .u8 2), .lit (.int .u8 10)], .agg [.lit (.int .u8 6), .lit (.int .u8 15), .lit (.int .u8 14), .lit (.int .u8 9), .lit (.int .u8 11), .lit (.int .u8 3), .lit (.int .u8 0), .lit (.int .u8 8), .lit (.int .u8 12), .lit (.int .u8 2), .lit (.int .u8 13), .lit (.int .u8 7), .lit (.int .u8 1), .lit (.int .u8 4), .lit (.int .u8 10), .lit (.int .u8 5)], .agg [.lit (.int .u8 10), .lit (.int .u8 2), .lit (.int .u8 8), .lit (.int .u8 4), .lit (.int .u8 7), .lit (.int .u8 6), .lit (.int .u8 1), .lit (.int .u8 5), .lit (.int .u8 15), .lit (.int .u8 11), .lit (.int .u8 9), .lit (.int .u8 14), .lit (.int .u8 3), .lit (.int .u8 12), .lit (.int .u8 13), .lit (.int .u8 0)]]

/-- 'bayoulaw05.TxPoints': WHATEVER THE INPUT: true; the input reads as it did. -/
def txPointsSpec : ChangeSpec := { name := "txPoints", fn := fun _ => fun
  | [d1, d2, d3] => { results := [.lit (.bool true)], args := [d1, d2, d3] }
  | _ => none }
def txPointsRow : OpenClaim := { program := "ytcglahfmnoghjaagreatdoor", sum := "587f04a42627936f6bd5a1a5bfceef8b018263b535d9412dc36cd3f93487b6c9", func := "bayou/bayoulaw05.TxPoints", spec := "txPoints", inPlace := ["internal/reflectlite.ValueOf", "(internal/reflectlite.Value).Type", "(internal/reflectlite.Value).IsNil", "internal/reflectlite.TypeOf", "(internal/reflectlite.Value).Elem", "(internal/reflectlite.Value).Set", "internal/bytealg.Compare"], unfollowed := true, recurses := true, named := ["errors.errorType", "bayou/blake.order"], plainKeys := false, apart := false, laid := [("errors.errorType", laid_errors_errorType), ("bayou/blake.order", laid_bayou_blake_order)] }
def TxPointsSaid : Prop := txPointsRow.holds Tryz.pinned (OpenSpec.ofChange txPointsSpec)

/-- ITS FALSE NEIGHBOUR: 'it returns false'. Refute it at one input. -/
def txPointsWrong : ChangeSpec := { name := "txPoints", fn := fun _ => fun
  | [d1, d2, d3] => { results := [.lit (.bool false)], args := [d1, d2, d3] }
  | _ => none }
def TxPointsWrongFalsely : Prop := txPointsRow.holds Tryz.pinned (OpenSpec.ofChange txPointsWrong)

/-- 'bayoulaw04.CondBytes': WHATEVER THE INPUT: true; the input reads as it did. -/
def condBytesSpec : ChangeSpec := { name := "condBytes", fn := fun _ => fun
  | [d1, d2, d3] => { results := [.lit (.bool true)], args := [d1, d2, d3] }
  | _ => none }
def condBytesRow : OpenClaim := { program := "ytcglahfmnoghjaagreatdoor", sum := "587f04a42627936f6bd5a1a5bfceef8b018263b535d9412dc36cd3f93487b6c9", func := "bayou/bayoulaw04.CondBytes", spec := "condBytes", inPlace := ["internal/reflectlite.ValueOf", "(internal/reflectlite.Value).Type", "(internal/reflectlite.Value).IsNil", "internal/reflectlite.TypeOf", "(internal/reflectlite.Value).Elem", "(internal/reflectlite.Value).Set"], unfollowed := true, recurses := true, named := ["bayou/blake.order", "errors.errorType"], plainKeys := false, apart := false, laid := [("errors.errorType", laid_errors_errorType), ("bayou/blake.order", laid_bayou_blake_order)] }
def CondBytesSaid : Prop := condBytesRow.holds Tryz.pinned (OpenSpec.ofChange condBytesSpec)

/-- ITS FALSE NEIGHBOUR: 'it returns false'. Refute it at one input. -/
def condBytesWrong : ChangeSpec := { name := "condBytes", fn := fun _ => fun
  | [d1, d2, d3] => { results := [.lit (.bool false)], args := [d1, d2, d3] }
  | _ => none }
def CondBytesWrongFalsely : Prop := condBytesRow.holds Tryz.pinned (OpenSpec.ofChange condBytesWrong)

/-- 'bayoulaw05.TxBytes': WHATEVER THE INPUT: true; the input reads as it did. -/
def txBytesSpec : ChangeSpec := { name := "txBytes", fn := fun _ => fun
  | [d1, d2] => { results := [.lit (.bool true)], args := [d1, d2] }
  | _ => none }
def txBytesRow : OpenClaim := { program := "ytcglahfmnoghjaagreatdoor", sum := "587f04a42627936f6bd5a1a5bfceef8b018263b535d9412dc36cd3f93487b6c9", func := "bayou/bayoulaw05.TxBytes", spec := "txBytes", inPlace := ["internal/reflectlite.ValueOf", "(internal/reflectlite.Value).Type", "(internal/reflectlite.Value).IsNil", "internal/reflectlite.TypeOf", "(internal/reflectlite.Value).Elem", "(internal/reflectlite.Value).Set"], unfollowed := true, recurses := true, named := ["errors.errorType", "bayou/blake.order"], plainKeys := false, apart := false, laid := [("errors.errorType", laid_errors_errorType), ("bayou/blake.order", laid_bayou_blake_order)] }
def TxBytesSaid : Prop := txBytesRow.holds Tryz.pinned (OpenSpec.ofChange txBytesSpec)

/-- ITS FALSE NEIGHBOUR: 'it returns false'. Refute it at one input. -/
def txBytesWrong : ChangeSpec := { name := "txBytes", fn := fun _ => fun
  | [d1, d2] => { results := [.lit (.bool false)], args := [d1, d2] }
  | _ => none }
def TxBytesWrongFalsely : Prop := txBytesRow.holds Tryz.pinned (OpenSpec.ofChange txBytesWrong)

/-- 'bayoulaw05.TxBack': WHATEVER THE INPUT: true; the input reads as it did. -/
def txBackSpec : ChangeSpec := { name := "txBack", fn := fun _ => fun
  | [d] => { results := [.lit (.bool true)], args := [d] }
  | _ => none }
def txBackRow : OpenClaim := { program := "ytcglahfmnoghjaagreatdoor", sum := "587f04a42627936f6bd5a1a5bfceef8b018263b535d9412dc36cd3f93487b6c9", func := "bayou/bayoulaw05.TxBack", spec := "txBack", inPlace := ["internal/reflectlite.ValueOf", "(internal/reflectlite.Value).Type", "(internal/reflectlite.Value).IsNil", "internal/reflectlite.TypeOf", "(internal/reflectlite.Value).Elem", "(internal/reflectlite.Value).Set"], unfollowed := true, recurses := true, named := ["errors.errorType", "bayou/blake.order"], plainKeys := false, apart := false, laid := [("errors.errorType", laid_errors_errorType), ("bayou/blake.order", laid_bayou_blake_order)] }
def TxBackSaid : Prop := txBackRow.holds Tryz.pinned (OpenSpec.ofChange txBackSpec)

/-- ITS FALSE NEIGHBOUR: 'it returns false'. Refute it at one input. -/
def txBackWrong : ChangeSpec := { name := "txBack", fn := fun _ => fun
  | [d] => { results := [.lit (.bool false)], args := [d] }
  | _ => none }
def TxBackWrongFalsely : Prop := txBackRow.holds Tryz.pinned (OpenSpec.ofChange txBackWrong)

/-- 'bayoulaw05.TxReads': WHATEVER THE INPUT: true; the input reads as it did. -/
def txReadsSpec : ChangeSpec := { name := "txReads", fn := fun _ => fun
  | [d] => { results := [.lit (.bool true)], args := [d] }
  | _ => none }
def txReadsRow : OpenClaim := { program := "ytcglahfmnoghjaagreatdoor", sum := "587f04a42627936f6bd5a1a5bfceef8b018263b535d9412dc36cd3f93487b6c9", func := "bayou/bayoulaw05.TxReads", spec := "txReads", inPlace := ["internal/reflectlite.ValueOf", "(internal/reflectlite.Value).Type", "(internal/reflectlite.Value).IsNil", "internal/reflectlite.TypeOf", "(internal/reflectlite.Value).Elem", "(internal/reflectlite.Value).Set"], unfollowed := true, recurses := true, named := ["errors.errorType", "bayou/blake.order"], plainKeys := false, apart := false, laid := [("errors.errorType", laid_errors_errorType), ("bayou/blake.order", laid_bayou_blake_order)] }
def TxReadsSaid : Prop := txReadsRow.holds Tryz.pinned (OpenSpec.ofChange txReadsSpec)

/-- ITS FALSE NEIGHBOUR: 'it returns false'. Refute it at one input. -/
def txReadsWrong : ChangeSpec := { name := "txReads", fn := fun _ => fun
  | [d] => { results := [.lit (.bool false)], args := [d] }
  | _ => none }
def TxReadsWrongFalsely : Prop := txReadsRow.holds Tryz.pinned (OpenSpec.ofChange txReadsWrong)

/- THE SECOND FORM. 'bulk': how many values and letters a reading holds, each counted each time it is reached (what is shared counts as often as it is met; a slice's spare places count too). A statement '..UptoSaid' is the law's where the arguments, and the package variables that the reading takes, are together of bulk at most 1048576: NARROWER than '..Said'. Prove '..Said' where nothing that the law and all that it calls make is longer than what came in: it says more and counts as full. Else prove '..UptoSaid'. A law counts once. -/
mutual
def uptoBulk {H : Type} : DataW H → Nat
  | .lit (.string bytes) => bytes.length + 1
  | .lit _ => 1
  | .nil => 1
  | .ptr d => uptoBulk d + 1
  | .slice elems spare => uptoBulkAll elems + uptoBulkAll spare + 1
  | .agg parts => uptoBulkAll parts + 1
  | .iface _ d => uptoBulk d + 1
  | .map entries => uptoBulkEntries entries + 1
  | .held _ => 1
def uptoBulkAll {H : Type} : List (DataW H) → Nat
  | [] => 0
  | d :: r => uptoBulk d + uptoBulkAll r
def uptoBulkEntries {H : Type} : List (Lit × DataW H) → Nat
  | [] => 0
  | x :: r => uptoBulkEntry x + uptoBulkEntries r
def uptoBulkEntry {H : Type} : Lit × DataW H → Nat
  | (.string bytes, d) => bytes.length + uptoBulk d + 1
  | (_, d) => uptoBulk d + 1
 end
def uptoSmall : (H : Type) → List (DataW H) → Bool := fun _ ds => decide (uptoBulkAll ds ≤ 1048576)
def OpenSpec.upto (s : _root_.Go.ChangeSpec) : _root_.Go.OpenSpec := { _root_.Go.OpenSpec.ofChange s with cond := some uptoSmall }

/-- 'bayoulaw05.TxPoints', WHERE WHAT IT READS IS OF BULK AT MOST 1048576: true; the input reads as it did. -/
def txPointsUptoRow : OpenClaim := { program := "ytcglahfmnoghjaagreatdoor", sum := "587f04a42627936f6bd5a1a5bfceef8b018263b535d9412dc36cd3f93487b6c9", func := "bayou/bayoulaw05.TxPoints", spec := "txPoints", inPlace := ["internal/reflectlite.ValueOf", "(internal/reflectlite.Value).Type", "(internal/reflectlite.Value).IsNil", "internal/reflectlite.TypeOf", "(internal/reflectlite.Value).Elem", "(internal/reflectlite.Value).Set", "internal/bytealg.Compare"], unfollowed := true, recurses := true, named := ["errors.errorType", "bayou/blake.order"], plainKeys := false, apart := false, laid := [("errors.errorType", laid_errors_errorType), ("bayou/blake.order", laid_bayou_blake_order)], narrowed := true }
def TxPointsUptoSaid : Prop := txPointsUptoRow.holds Tryz.pinned (OpenSpec.upto txPointsSpec)

/-- 'bayoulaw04.CondBytes', WHERE WHAT IT READS IS OF BULK AT MOST 1048576: true; the input reads as it did. -/
def condBytesUptoRow : OpenClaim := { program := "ytcglahfmnoghjaagreatdoor", sum := "587f04a42627936f6bd5a1a5bfceef8b018263b535d9412dc36cd3f93487b6c9", func := "bayou/bayoulaw04.CondBytes", spec := "condBytes", inPlace := ["internal/reflectlite.ValueOf", "(internal/reflectlite.Value).Type", "(internal/reflectlite.Value).IsNil", "internal/reflectlite.TypeOf", "(internal/reflectlite.Value).Elem", "(internal/reflectlite.Value).Set"], unfollowed := true, recurses := true, named := ["bayou/blake.order", "errors.errorType"], plainKeys := false, apart := false, laid := [("errors.errorType", laid_errors_errorType), ("bayou/blake.order", laid_bayou_blake_order)], narrowed := true }
def CondBytesUptoSaid : Prop := condBytesUptoRow.holds Tryz.pinned (OpenSpec.upto condBytesSpec)

/-- 'bayoulaw05.TxBytes', WHERE WHAT IT READS IS OF BULK AT MOST 1048576: true; the input reads as it did. -/
def txBytesUptoRow : OpenClaim := { program := "ytcglahfmnoghjaagreatdoor", sum := "587f04a42627936f6bd5a1a5bfceef8b018263b535d9412dc36cd3f93487b6c9", func := "bayou/bayoulaw05.TxBytes", spec := "txBytes", inPlace := ["internal/reflectlite.ValueOf", "(internal/reflectlite.Value).Type", "(internal/reflectlite.Value).IsNil", "internal/reflectlite.TypeOf", "(internal/reflectlite.Value).Elem", "(internal/reflectlite.Value).Set"], unfollowed := true, recurses := true, named := ["errors.errorType", "bayou/blake.order"], plainKeys := false, apart := false, laid := [("errors.errorType", laid_errors_errorType), ("bayou/blake.order", laid_bayou_blake_order)], narrowed := true }
def TxBytesUptoSaid : Prop := txBytesUptoRow.holds Tryz.pinned (OpenSpec.upto txBytesSpec)

/-- 'bayoulaw05.TxBack', WHERE WHAT IT READS IS OF BULK AT MOST 1048576: true; the input reads as it did. -/
def txBackUptoRow : OpenClaim := { program := "ytcglahfmnoghjaagreatdoor", sum := "587f04a42627936f6bd5a1a5bfceef8b018263b535d9412dc36cd3f93487b6c9", func := "bayou/bayoulaw05.TxBack", spec := "txBack", inPlace := ["internal/reflectlite.ValueOf", "(internal/reflectlite.Value).Type", "(internal/reflectlite.Value).IsNil", "internal/reflectlite.TypeOf", "(internal/reflectlite.Value).Elem", "(internal/reflectlite.Value).Set"], unfollowed := true, recurses := true, named := ["errors.errorType", "bayou/blake.order"], plainKeys := false, apart := false, laid := [("errors.errorType", laid_errors_errorType), ("bayou/blake.order", laid_bayou_blake_order)], narrowed := true }
def TxBackUptoSaid : Prop := txBackUptoRow.holds Tryz.pinned (OpenSpec.upto txBackSpec)

/-- 'bayoulaw05.TxReads', WHERE WHAT IT READS IS OF BULK AT MOST 1048576: true; the input reads as it did. -/
def txReadsUptoRow : OpenClaim := { program := "ytcglahfmnoghjaagreatdoor", sum := "587f04a42627936f6bd5a1a5bfceef8b018263b535d9412dc36cd3f93487b6c9", func := "bayou/bayoulaw05.TxReads", spec := "txReads", inPlace := ["internal/reflectlite.ValueOf", "(internal/reflectlite.Value).Type", "(internal/reflectlite.Value).IsNil", "internal/reflectlite.TypeOf", "(internal/reflectlite.Value).Elem", "(internal/reflectlite.Value).Set"], unfollowed := true, recurses := true, named := ["errors.errorType", "bayou/blake.order"], plainKeys := false, apart := false, laid := [("errors.errorType", laid_errors_errorType), ("bayou/blake.order", laid_bayou_blake_order)], narrowed := true }
def TxReadsUptoSaid : Prop := txReadsUptoRow.holds Tryz.pinned (OpenSpec.upto txReadsSpec)

end Rows
end Go.Proofs.YtcglahfmnoghjaaGreatDoor
