/-
  NARROWER THAN 'FOR EVERY INPUT', by the rows' own cells (each row's printed sentence says how): FlowSum: laid · FlowRoom: laid.
  DERIVED. THE GIVEN ROWS OF THIS SEAT. 2 by the template 'for every input the law returns true; each argument reads behind the call as it read before'; 0 by the template 'total and deterministic' (their statements: YtlaldjbdpgbhkaaDoorTotals.lean).
  GIVEN WITH THE SEED: the statements are not yours to turn. If you find one false, say at which input.
  Laid BY PROGRAM, IN A SANDBOX (cutbox-rows.mjs): the forced cells as the released guide's own fill.sh prints them over the translation ca15229e06259546… (all of the seat's roots in one cut). By AI agents, Wed Nov 11 2026. No macro, syntax, notation, axiom, sorry.
-/
import Derived.Test.YtlaldjbdpgbhkaaDoorChecked
import GoSem.Claim
import GoSem.ClaimJoined
import GoSem.ClaimMapViews
import Derived.JoinedTies
import Derived.KernelRfl
namespace Go.Proofs.YtlaldjbdpgbhkaaDoor
/- THE CELL 'sum', in the pinned program and in every row, IS THE sha256 OF THE DUMP (.gsa) THAT YtlaldjbdpgbhkaaDoorProg.lean LOADS. Nothing in Lean hashes anything: it is a label: what it is worth is what the hold of that sum in a sandbox is worth. -/
noncomputable def Tryd.pinned : Pinned := { name := "ytlaldjbdpgbhkaadoor", sum := "ca15229e0625954645443c811e69b0cfccfe495029d17a098692d7c7299d18be", checked := Tryd.checked }
namespace Rows
def none {H : Type} : Left H := { results := [], args := [] }

/- WHAT THE LISTED PACKAGE-LEVEL VARIABLES READ AS WHEN THE CALL BEGINS. Each datum BY PROGRAM (the guide's laid-datum.mjs) off the statement by which the dump's own 'gosem.cut.vars' lays the variable. In a bare row this is a premise. The card (YtlaldjbdpgbhkaaDoorCards.lean) ties it to the program's text. -/
def laid_parley_api_ErrWindow {H : Type} : DataW H := .iface "*errors.errorString" (.ptr (.agg [.lit (.string [116, 104, 101, 32, 119, 105, 110, 100, 111, 119, 32, 105, 115, 32, 112, 97, 115, 115, 101, 100])]))
def laid_parley_api_ErrNumber {H : Type} : DataW H := .iface "*errors.errorString" (.ptr (.agg [.lit (.string [110, 111, 32, 115, 117, 99, 104, 32, 110, 117, 109, 98, 101, 114])]))

/-- 'parleylaw7.FlowSum': WHATEVER THE INPUT: true; the input reads as it did. -/
def flowSumSpec : ChangeSpec := { name := "flowSum", fn := fun _ => fun
  | [d1, d2] => { results := [.lit (.bool true)], args := [d1, d2] }
  | _ => none }
def flowSumRow : OpenClaim := { program := "ytlaldjbdpgbhkaadoor", sum := "ca15229e0625954645443c811e69b0cfccfe495029d17a098692d7c7299d18be", func := "parley/parleylaw7.FlowSum", spec := "flowSum", unfollowed := true, recurses := true, named := ["parley/api.ErrNumber", "parley/api.ErrWindow"], apart := false, laid := [("parley/api.ErrWindow", laid_parley_api_ErrWindow), ("parley/api.ErrNumber", laid_parley_api_ErrNumber)] }
def FlowSumSaid : Prop := flowSumRow.holds Tryd.pinned (OpenSpec.ofChange flowSumSpec)

/-- ITS FALSE NEIGHBOUR: 'it returns false'. Refute it at one input. -/
def flowSumWrong : ChangeSpec := { name := "flowSum", fn := fun _ => fun
  | [d1, d2] => { results := [.lit (.bool false)], args := [d1, d2] }
  | _ => none }
def FlowSumWrongFalsely : Prop := flowSumRow.holds Tryd.pinned (OpenSpec.ofChange flowSumWrong)

/-- 'parleylaw7.FlowRoom': WHATEVER THE INPUT: true; the input reads as it did. -/
def flowRoomSpec : ChangeSpec := { name := "flowRoom", fn := fun _ => fun
  | [d1, d2, d3, d4] => { results := [.lit (.bool true)], args := [d1, d2, d3, d4] }
  | _ => none }
def flowRoomRow : OpenClaim := { program := "ytlaldjbdpgbhkaadoor", sum := "ca15229e0625954645443c811e69b0cfccfe495029d17a098692d7c7299d18be", func := "parley/parleylaw7.FlowRoom", spec := "flowRoom", unfollowed := true, recurses := true, named := ["parley/api.ErrNumber", "parley/api.ErrWindow"], apart := false, laid := [("parley/api.ErrWindow", laid_parley_api_ErrWindow), ("parley/api.ErrNumber", laid_parley_api_ErrNumber)] }
def FlowRoomSaid : Prop := flowRoomRow.holds Tryd.pinned (OpenSpec.ofChange flowRoomSpec)

/-- ITS FALSE NEIGHBOUR: 'it returns false'. Refute it at one input. -/
def flowRoomWrong : ChangeSpec := { name := "flowRoom", fn := fun _ => fun
  | [d1, d2, d3, d4] => { results := [.lit (.bool false)], args := [d1, d2, d3, d4] }
  | _ => none }
def FlowRoomWrongFalsely : Prop := flowRoomRow.holds Tryd.pinned (OpenSpec.ofChange flowRoomWrong)

/- THE SECOND FORM. 'bulk': how many values and letters a reading holds, each counted each time it is reached (what is shared counts as often as it is met; a slice's spare places count too). A statement '..UptoSaid' is the law's where the arguments, and the package variables that the reading takes, are together of bulk at most 1048576: NARROWER than '..Said'. Prove '..Said' where nothing that the law and all that it calls make is longer than what came in: it says more and counts as full. Else prove '..UptoSaid'. A law counts once. -/
mutual
def uptoBulk {H : Type} : DataW H → Nat
  | .lit (.string bytes) => bytes.length + 1
  | .lit _ => 1
  | .nil => 1
  | .ptr d => uptoBulk d + 1
  | .slice elems spare => uptoBulkAll elems + uptoBulkAll spare + 1
  | .agg parts => uptoBulkAll parts + 1
  | .iface _ d => uptoBulk d + 1
  | .map entries => uptoBulkEntries entries + 1
  | .held _ => 1
def uptoBulkAll {H : Type} : List (DataW H) → Nat
  | [] => 0
  | d :: r => uptoBulk d + uptoBulkAll r
def uptoBulkEntries {H : Type} : List (Lit × DataW H) → Nat
  | [] => 0
  | x :: r => uptoBulkEntry x + uptoBulkEntries r
def uptoBulkEntry {H : Type} : Lit × DataW H → Nat
  | (.string bytes, d) => bytes.length + uptoBulk d + 1
  | (_, d) => uptoBulk d + 1
 end
def uptoSmall : (H : Type) → List (DataW H) → Bool := fun _ ds => decide (uptoBulkAll ds ≤ 1048576)
def OpenSpec.upto (s : _root_.Go.ChangeSpec) : _root_.Go.OpenSpec := { _root_.Go.OpenSpec.ofChange s with cond := some uptoSmall }

/-- 'parleylaw7.FlowSum', WHERE WHAT IT READS IS OF BULK AT MOST 1048576: true; the input reads as it did. -/
def flowSumUptoRow : OpenClaim := { program := "ytlaldjbdpgbhkaadoor", sum := "ca15229e0625954645443c811e69b0cfccfe495029d17a098692d7c7299d18be", func := "parley/parleylaw7.FlowSum", spec := "flowSum", unfollowed := true, recurses := true, named := ["parley/api.ErrNumber", "parley/api.ErrWindow"], apart := false, laid := [("parley/api.ErrWindow", laid_parley_api_ErrWindow), ("parley/api.ErrNumber", laid_parley_api_ErrNumber)], narrowed := true }
def FlowSumUptoSaid : Prop := flowSumUptoRow.holds Tryd.pinned (OpenSpec.upto flowSumSpec)

/-- 'parleylaw7.FlowRoom', WHERE WHAT IT READS IS OF BULK AT MOST 1048576: true; the input reads as it did. -/
def flowRoomUptoRow : OpenClaim := { program := "ytlaldjbdpgbhkaadoor", sum := "ca15229e0625954645443c811e69b0cfccfe495029d17a098692d7c7299d18be", func := "parley/parleylaw7.FlowRoom", spec := "flowRoom", unfollowed := true, recurses := true, named := ["parley/api.ErrNumber", "parley/api.ErrWindow"], apart := false, laid := [("parley/api.ErrWindow", laid_parley_api_ErrWindow), ("parley/api.ErrNumber", laid_parley_api_ErrNumber)], narrowed := true }
def FlowRoomUptoSaid : Prop := flowRoomUptoRow.holds Tryd.pinned (OpenSpec.upto flowRoomSpec)

end Rows
end Go.Proofs.YtlaldjbdpgbhkaaDoor
