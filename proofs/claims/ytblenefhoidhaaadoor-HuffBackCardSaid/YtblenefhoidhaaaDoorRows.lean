/-
  NARROWER THAN 'FOR EVERY INPUT', by the rows' own cells (each row's printed sentence says how): HuffCodes: laid · HuffApart: laid · HuffTogether: laid · HuffEncodes: laid · HuffBack: laid.
  DERIVED. THE GIVEN ROWS OF THIS SEAT. 5 by the template 'for every input the law returns true; each argument reads behind the call as it read before'; 0 by the template 'total and deterministic' (their statements: YtblenefhoidhaaaDoorTotals.lean).
  GIVEN WITH THE SEED: the statements are not yours to turn. If you find one false, say at which input.
  Laid BY PROGRAM, IN A SANDBOX (cutbox-rows.mjs): the forced cells as the released guide's own fill.sh prints them over the translation 665c4c7223a490cb… (all of the seat's roots in one cut). By AI agents, Wed Nov 11 2026. No macro, syntax, notation, axiom, sorry.
-/
import Derived.Test.YtblenefhoidhaaaDoorChecked
import GoSem.Claim
import GoSem.ClaimJoined
import GoSem.ClaimMapViews
import Derived.JoinedTies
import Derived.KernelRfl
namespace Go.Proofs.YtblenefhoidhaaaDoor
/- THE CELL 'sum', in the pinned program and in every row, IS THE sha256 OF THE DUMP (.gsa) THAT YtblenefhoidhaaaDoorProg.lean LOADS. Nothing in Lean hashes anything: it is a label: what it is worth is what the hold of that sum in a sandbox is worth. -/
noncomputable def Tryd.pinned : Pinned := { name := "ytblenefhoidhaaadoor", sum := "665c4c7223a490cbe5c92b4c42334ea96041b748a9d5a79cdecaa658929d442d", checked := Tryd.checked }
namespace Rows
def none {H : Type} : Left H := { results := [], args := [] }

/- WHAT THE LISTED PACKAGE-LEVEL VARIABLES READ AS WHEN THE CALL BEGINS. Each datum BY PROGRAM (the guide's laid-datum.mjs) off the statement by which the dump's own 'gosem.cut.vars' lays the variable. In a bare row this is a premise. The card (YtblenefhoidhaaaDoorCards.lean) ties it to the program's text. -/
def laid_parley_api_ErrHuff {H : Type} : DataW H := .iface "*errors.errorString" (.ptr (.agg [.lit (.string [110, 111, 32, 72, 117, 102, 102, 109, 97, 110, 32, 99, 111, 100, 101])]))

/-- 'parleylaw2.HuffCodes': WHATEVER THE INPUT: true; the input reads as it did. -/
def huffCodesSpec : ChangeSpec := { name := "huffCodes", fn := fun _ => fun
  | [d] => { results := [.lit (.bool true)], args := [d] }
  | _ => none }
def huffCodesRow : OpenClaim := { program := "ytblenefhoidhaaadoor", sum := "665c4c7223a490cbe5c92b4c42334ea96041b748a9d5a79cdecaa658929d442d", func := "parley/parleylaw2.HuffCodes", spec := "huffCodes", named := ["parley/api.ErrHuff"], plainKeys := false, apart := false, laid := [("parley/api.ErrHuff", laid_parley_api_ErrHuff)] }
def HuffCodesSaid : Prop := huffCodesRow.holds Tryd.pinned (OpenSpec.ofChange huffCodesSpec)

/-- ITS FALSE NEIGHBOUR: 'it returns false'. Refute it at one input. -/
def huffCodesWrong : ChangeSpec := { name := "huffCodes", fn := fun _ => fun
  | [d] => { results := [.lit (.bool false)], args := [d] }
  | _ => none }
def HuffCodesWrongFalsely : Prop := huffCodesRow.holds Tryd.pinned (OpenSpec.ofChange huffCodesWrong)

/-- 'parleylaw2.HuffApart': WHATEVER THE INPUT: true; the input reads as it did. -/
def huffApartSpec : ChangeSpec := { name := "huffApart", fn := fun _ => fun
  | [d1, d2] => { results := [.lit (.bool true)], args := [d1, d2] }
  | _ => none }
def huffApartRow : OpenClaim := { program := "ytblenefhoidhaaadoor", sum := "665c4c7223a490cbe5c92b4c42334ea96041b748a9d5a79cdecaa658929d442d", func := "parley/parleylaw2.HuffApart", spec := "huffApart", named := ["parley/api.ErrHuff"], plainKeys := false, apart := false, laid := [("parley/api.ErrHuff", laid_parley_api_ErrHuff)] }
def HuffApartSaid : Prop := huffApartRow.holds Tryd.pinned (OpenSpec.ofChange huffApartSpec)

/-- ITS FALSE NEIGHBOUR: 'it returns false'. Refute it at one input. -/
def huffApartWrong : ChangeSpec := { name := "huffApart", fn := fun _ => fun
  | [d1, d2] => { results := [.lit (.bool false)], args := [d1, d2] }
  | _ => none }
def HuffApartWrongFalsely : Prop := huffApartRow.holds Tryd.pinned (OpenSpec.ofChange huffApartWrong)

/-- 'parleylaw2.HuffTogether': WHATEVER THE INPUT: true; the input reads as it did. -/
def huffTogetherSpec : ChangeSpec := { name := "huffTogether", fn := fun _ => fun
  | [d1, d2] => { results := [.lit (.bool true)], args := [d1, d2] }
  | _ => none }
def huffTogetherRow : OpenClaim := { program := "ytblenefhoidhaaadoor", sum := "665c4c7223a490cbe5c92b4c42334ea96041b748a9d5a79cdecaa658929d442d", func := "parley/parleylaw2.HuffTogether", spec := "huffTogether", named := ["parley/api.ErrHuff"], plainKeys := false, apart := false, laid := [("parley/api.ErrHuff", laid_parley_api_ErrHuff)] }
def HuffTogetherSaid : Prop := huffTogetherRow.holds Tryd.pinned (OpenSpec.ofChange huffTogetherSpec)

/-- ITS FALSE NEIGHBOUR: 'it returns false'. Refute it at one input. -/
def huffTogetherWrong : ChangeSpec := { name := "huffTogether", fn := fun _ => fun
  | [d1, d2] => { results := [.lit (.bool false)], args := [d1, d2] }
  | _ => none }
def HuffTogetherWrongFalsely : Prop := huffTogetherRow.holds Tryd.pinned (OpenSpec.ofChange huffTogetherWrong)

/-- 'parleylaw2.HuffEncodes': WHATEVER THE INPUT: true; the input reads as it did. -/
def huffEncodesSpec : ChangeSpec := { name := "huffEncodes", fn := fun _ => fun
  | [d] => { results := [.lit (.bool true)], args := [d] }
  | _ => none }
def huffEncodesRow : OpenClaim := { program := "ytblenefhoidhaaadoor", sum := "665c4c7223a490cbe5c92b4c42334ea96041b748a9d5a79cdecaa658929d442d", func := "parley/parleylaw2.HuffEncodes", spec := "huffEncodes", named := ["parley/api.ErrHuff"], plainKeys := false, apart := false, laid := [("parley/api.ErrHuff", laid_parley_api_ErrHuff)] }
def HuffEncodesSaid : Prop := huffEncodesRow.holds Tryd.pinned (OpenSpec.ofChange huffEncodesSpec)

/-- ITS FALSE NEIGHBOUR: 'it returns false'. Refute it at one input. -/
def huffEncodesWrong : ChangeSpec := { name := "huffEncodes", fn := fun _ => fun
  | [d] => { results := [.lit (.bool false)], args := [d] }
  | _ => none }
def HuffEncodesWrongFalsely : Prop := huffEncodesRow.holds Tryd.pinned (OpenSpec.ofChange huffEncodesWrong)

/-- 'parleylaw2.HuffBack': WHATEVER THE INPUT: true; the input reads as it did. -/
def huffBackSpec : ChangeSpec := { name := "huffBack", fn := fun _ => fun
  | [d1, d2] => { results := [.lit (.bool true)], args := [d1, d2] }
  | _ => none }
def huffBackRow : OpenClaim := { program := "ytblenefhoidhaaadoor", sum := "665c4c7223a490cbe5c92b4c42334ea96041b748a9d5a79cdecaa658929d442d", func := "parley/parleylaw2.HuffBack", spec := "huffBack", named := ["parley/api.ErrHuff"], plainKeys := false, apart := false, laid := [("parley/api.ErrHuff", laid_parley_api_ErrHuff)] }
def HuffBackSaid : Prop := huffBackRow.holds Tryd.pinned (OpenSpec.ofChange huffBackSpec)

/-- ITS FALSE NEIGHBOUR: 'it returns false'. Refute it at one input. -/
def huffBackWrong : ChangeSpec := { name := "huffBack", fn := fun _ => fun
  | [d1, d2] => { results := [.lit (.bool false)], args := [d1, d2] }
  | _ => none }
def HuffBackWrongFalsely : Prop := huffBackRow.holds Tryd.pinned (OpenSpec.ofChange huffBackWrong)

/- THE SECOND FORM. 'bulk': how many values and letters a reading holds, each counted each time it is reached (what is shared counts as often as it is met; a slice's spare places count too). A statement '..UptoSaid' is the law's where the arguments, and the package variables that the reading takes, are together of bulk at most 1048576: NARROWER than '..Said'. Prove '..Said' where nothing that the law and all that it calls make is longer than what came in: it says more and counts as full. Else prove '..UptoSaid'. A law counts once. -/
mutual
def uptoBulk {H : Type} : DataW H → Nat
  | .lit (.string bytes) => bytes.length + 1
  | .lit _ => 1
  | .nil => 1
  | .ptr d => uptoBulk d + 1
  | .slice elems spare => uptoBulkAll elems + uptoBulkAll spare + 1
  | .agg parts => uptoBulkAll parts + 1
  | .iface _ d => uptoBulk d + 1
  | .map entries => uptoBulkEntries entries + 1
  | .held _ => 1
def uptoBulkAll {H : Type} : List (DataW H) → Nat
  | [] => 0
  | d :: r => uptoBulk d + uptoBulkAll r
def uptoBulkEntries {H : Type} : List (Lit × DataW H) → Nat
  | [] => 0
  | x :: r => uptoBulkEntry x + uptoBulkEntries r
def uptoBulkEntry {H : Type} : Lit × DataW H → Nat
  | (.string bytes, d) => bytes.length + uptoBulk d + 1
  | (_, d) => uptoBulk d + 1
 end
def uptoSmall : (H : Type) → List (DataW H) → Bool := fun _ ds => decide (uptoBulkAll ds ≤ 1048576)
def OpenSpec.upto (s : _root_.Go.ChangeSpec) : _root_.Go.OpenSpec := { _root_.Go.OpenSpec.ofChange s with cond := some uptoSmall }

/-- 'parleylaw2.HuffCodes', WHERE WHAT IT READS IS OF BULK AT MOST 1048576: true; the input reads as it did. -/
def huffCodesUptoRow : OpenClaim := { program := "ytblenefhoidhaaadoor", sum := "665c4c7223a490cbe5c92b4c42334ea96041b748a9d5a79cdecaa658929d442d", func := "parley/parleylaw2.HuffCodes", spec := "huffCodes", named := ["parley/api.ErrHuff"], plainKeys := false, apart := false, laid := [("parley/api.ErrHuff", laid_parley_api_ErrHuff)], narrowed := true }
def HuffCodesUptoSaid : Prop := huffCodesUptoRow.holds Tryd.pinned (OpenSpec.upto huffCodesSpec)

/-- 'parleylaw2.HuffApart', WHERE WHAT IT READS IS OF BULK AT MOST 1048576: true; the input reads as it did. -/
def huffApartUptoRow : OpenClaim := { program := "ytblenefhoidhaaadoor", sum := "665c4c7223a490cbe5c92b4c42334ea96041b748a9d5a79cdecaa658929d442d", func := "parley/parleylaw2.HuffApart", spec := "huffApart", named := ["parley/api.ErrHuff"], plainKeys := false, apart := false, laid := [("parley/api.ErrHuff", laid_parley_api_ErrHuff)], narrowed := true }
def HuffApartUptoSaid : Prop := huffApartUptoRow.holds Tryd.pinned (OpenSpec.upto huffApartSpec)

/-- 'parleylaw2.HuffTogether', WHERE WHAT IT READS IS OF BULK AT MOST 1048576: true; the input reads as it did. -/
def huffTogetherUptoRow : OpenClaim := { program := "ytblenefhoidhaaadoor", sum := "665c4c7223a490cbe5c92b4c42334ea96041b748a9d5a79cdecaa658929d442d", func := "parley/parleylaw2.HuffTogether", spec := "huffTogether", named := ["parley/api.ErrHuff"], plainKeys := false, apart := false, laid := [("parley/api.ErrHuff", laid_parley_api_ErrHuff)], narrowed := true }
def HuffTogetherUptoSaid : Prop := huffTogetherUptoRow.holds Tryd.pinned (OpenSpec.upto huffTogetherSpec)

/-- 'parleylaw2.HuffEncodes', WHERE WHAT IT READS IS OF BULK AT MOST 1048576: true; the input reads as it did. -/
def huffEncodesUptoRow : OpenClaim := { program := "ytblenefhoidhaaadoor", sum := "665c4c7223a490cbe5c92b4c42334ea96041b748a9d5a79cdecaa658929d442d", func := "parley/parleylaw2.HuffEncodes", spec := "huffEncodes", named := ["parley/api.ErrHuff"], plainKeys := false, apart := false, laid := [("parley/api.ErrHuff", laid_parley_api_ErrHuff)], narrowed := true }
def HuffEncodesUptoSaid : Prop := huffEncodesUptoRow.holds Tryd.pinned (OpenSpec.upto huffEncodesSpec)

/-- 'parleylaw2.HuffBack', WHERE WHAT IT READS IS OF BULK AT MOST 1048576: true; the input reads as it did. -/
def huffBackUptoRow : OpenClaim := { program := "ytblenefhoidhaaadoor", sum := "665c4c7223a490cbe5c92b4c42334ea96041b748a9d5a79cdecaa658929d442d", func := "parley/parleylaw2.HuffBack", spec := "huffBack", named := ["parley/api.ErrHuff"], plainKeys := false, apart := false, laid := [("parley/api.ErrHuff", laid_parley_api_ErrHuff)], narrowed := true }
def HuffBackUptoSaid : Prop := huffBackUptoRow.holds Tryd.pinned (OpenSpec.upto huffBackSpec)

end Rows
end Go.Proofs.YtblenefhoidhaaaDoor
