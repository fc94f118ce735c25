/-
  NARROWER THAN 'FOR EVERY INPUT', by the rows' own cells (each row's printed sentence says how): PolicyWaits: laid · PolicyBound: laid · PolicyThrottle: laid · HedgeTicks: laid · HedgeShut: laid · HedgeOnce: laid.
  DERIVED. THE GIVEN ROWS OF THIS SEAT. 6 by the template 'for every input the law returns true; each argument reads behind the call as it read before'; 0 by the template 'total and deterministic' (their statements: YtnmcjdiihebagaaDoorTotals.lean).
  GIVEN WITH THE SEED: the statements are not yours to turn. If you find one false, say at which input.
  Laid BY PROGRAM, IN A SANDBOX (cutbox-rows.mjs): the forced cells as the released guide's own fill.sh prints them over the translation 69698ff32a98b8e2… (all of the seat's roots in one cut). By AI agents, Wed Nov 11 2026. No macro, syntax, notation, axiom, sorry.
-/
import Derived.Test.YtnmcjdiihebagaaDoorChecked
import GoSem.Claim
import GoSem.ClaimJoined
import GoSem.ClaimMapViews
import Derived.JoinedTies
import Derived.KernelRfl
namespace Go.Proofs.YtnmcjdiihebagaaDoor
/- THE CELL 'sum', in the pinned program and in every row, IS THE sha256 OF THE DUMP (.gsa) THAT YtnmcjdiihebagaaDoorProg.lean LOADS. Nothing in Lean hashes anything: it is a label: what it is worth is what the hold of that sum in a sandbox is worth. -/
noncomputable def Tryd.pinned : Pinned := { name := "ytnmcjdiihebagaadoor", sum := "69698ff32a98b8e2f52a4f4acfb4dee10f4b29b073f0f6bf4a178d2d3cac84ef", checked := Tryd.checked }
namespace Rows
def none {H : Type} : Left H := { results := [], args := [] }

/- WHAT THE LISTED PACKAGE-LEVEL VARIABLES READ AS WHEN THE CALL BEGINS. Each datum BY PROGRAM (the guide's laid-datum.mjs) off the statement by which the dump's own 'gosem.cut.vars' lays the variable. In a bare row this is a premise. The card (YtnmcjdiihebagaaDoorCards.lean) ties it to the program's text. -/
def laid_parley_api_ErrValue {H : Type} : DataW H := .iface "*errors.errorString" (.ptr (.agg [.lit (.string [110, 111, 32, 118, 97, 108, 117, 101, 32, 111, 102, 32, 116, 104, 97, 116, 32, 116, 121, 112, 101])]))

/-- 'parleylaw17.PolicyWaits': WHATEVER THE INPUT: true; the input reads as it did. -/
def policyWaitsSpec : ChangeSpec := { name := "policyWaits", fn := fun _ => fun
  | [d1, d2, d3, d4] => { results := [.lit (.bool true)], args := [d1, d2, d3, d4] }
  | _ => none }
def policyWaitsRow : OpenClaim := { program := "ytnmcjdiihebagaadoor", sum := "69698ff32a98b8e2f52a4f4acfb4dee10f4b29b073f0f6bf4a178d2d3cac84ef", func := "parley/parleylaw17.PolicyWaits", spec := "policyWaits", unfollowed := true, recurses := true, named := ["parley/api.ErrValue"], apart := false, laid := [("parley/api.ErrValue", laid_parley_api_ErrValue)] }
def PolicyWaitsSaid : Prop := policyWaitsRow.holds Tryd.pinned (OpenSpec.ofChange policyWaitsSpec)

/-- ITS FALSE NEIGHBOUR: 'it returns false'. Refute it at one input. -/
def policyWaitsWrong : ChangeSpec := { name := "policyWaits", fn := fun _ => fun
  | [d1, d2, d3, d4] => { results := [.lit (.bool false)], args := [d1, d2, d3, d4] }
  | _ => none }
def PolicyWaitsWrongFalsely : Prop := policyWaitsRow.holds Tryd.pinned (OpenSpec.ofChange policyWaitsWrong)

/-- 'parleylaw17.PolicyBound': WHATEVER THE INPUT: true; the input reads as it did. -/
def policyBoundSpec : ChangeSpec := { name := "policyBound", fn := fun _ => fun
  | [d1, d2] => { results := [.lit (.bool true)], args := [d1, d2] }
  | _ => none }
def policyBoundRow : OpenClaim := { program := "ytnmcjdiihebagaadoor", sum := "69698ff32a98b8e2f52a4f4acfb4dee10f4b29b073f0f6bf4a178d2d3cac84ef", func := "parley/parleylaw17.PolicyBound", spec := "policyBound", unfollowed := true, recurses := true, named := ["parley/api.ErrValue"], apart := false, laid := [("parley/api.ErrValue", laid_parley_api_ErrValue)] }
def PolicyBoundSaid : Prop := policyBoundRow.holds Tryd.pinned (OpenSpec.ofChange policyBoundSpec)

/-- ITS FALSE NEIGHBOUR: 'it returns false'. Refute it at one input. -/
def policyBoundWrong : ChangeSpec := { name := "policyBound", fn := fun _ => fun
  | [d1, d2] => { results := [.lit (.bool false)], args := [d1, d2] }
  | _ => none }
def PolicyBoundWrongFalsely : Prop := policyBoundRow.holds Tryd.pinned (OpenSpec.ofChange policyBoundWrong)

/-- 'parleylaw17.PolicyThrottle': WHATEVER THE INPUT: true; the input reads as it did. -/
def policyThrottleSpec : ChangeSpec := { name := "policyThrottle", fn := fun _ => fun
  | [d1, d2, d3, d4] => { results := [.lit (.bool true)], args := [d1, d2, d3, d4] }
  | _ => none }
def policyThrottleRow : OpenClaim := { program := "ytnmcjdiihebagaadoor", sum := "69698ff32a98b8e2f52a4f4acfb4dee10f4b29b073f0f6bf4a178d2d3cac84ef", func := "parley/parleylaw17.PolicyThrottle", spec := "policyThrottle", unfollowed := true, recurses := true, named := ["parley/api.ErrValue"], apart := false, laid := [("parley/api.ErrValue", laid_parley_api_ErrValue)] }
def PolicyThrottleSaid : Prop := policyThrottleRow.holds Tryd.pinned (OpenSpec.ofChange policyThrottleSpec)

/-- ITS FALSE NEIGHBOUR: 'it returns false'. Refute it at one input. -/
def policyThrottleWrong : ChangeSpec := { name := "policyThrottle", fn := fun _ => fun
  | [d1, d2, d3, d4] => { results := [.lit (.bool false)], args := [d1, d2, d3, d4] }
  | _ => none }
def PolicyThrottleWrongFalsely : Prop := policyThrottleRow.holds Tryd.pinned (OpenSpec.ofChange policyThrottleWrong)

/-- 'parleylaw25.HedgeTicks': WHATEVER THE INPUT: true; the input reads as it did. -/
def hedgeTicksSpec : ChangeSpec := { name := "hedgeTicks", fn := fun _ => fun
  | [d1, d2, d3] => { results := [.lit (.bool true)], args := [d1, d2, d3] }
  | _ => none }
def hedgeTicksRow : OpenClaim := { program := "ytnmcjdiihebagaadoor", sum := "69698ff32a98b8e2f52a4f4acfb4dee10f4b29b073f0f6bf4a178d2d3cac84ef", func := "parley/parleylaw25.HedgeTicks", spec := "hedgeTicks", unfollowed := true, recurses := true, named := ["parley/api.ErrValue"], apart := false, laid := [("parley/api.ErrValue", laid_parley_api_ErrValue)] }
def HedgeTicksSaid : Prop := hedgeTicksRow.holds Tryd.pinned (OpenSpec.ofChange hedgeTicksSpec)

/-- ITS FALSE NEIGHBOUR: 'it returns false'. Refute it at one input. -/
def hedgeTicksWrong : ChangeSpec := { name := "hedgeTicks", fn := fun _ => fun
  | [d1, d2, d3] => { results := [.lit (.bool false)], args := [d1, d2, d3] }
  | _ => none }
def HedgeTicksWrongFalsely : Prop := hedgeTicksRow.holds Tryd.pinned (OpenSpec.ofChange hedgeTicksWrong)

/-- 'parleylaw25.HedgeShut': WHATEVER THE INPUT: true; the input reads as it did. -/
def hedgeShutSpec : ChangeSpec := { name := "hedgeShut", fn := fun _ => fun
  | [d1, d2, d3, d4] => { results := [.lit (.bool true)], args := [d1, d2, d3, d4] }
  | _ => none }
def hedgeShutRow : OpenClaim := { program := "ytnmcjdiihebagaadoor", sum := "69698ff32a98b8e2f52a4f4acfb4dee10f4b29b073f0f6bf4a178d2d3cac84ef", func := "parley/parleylaw25.HedgeShut", spec := "hedgeShut", unfollowed := true, recurses := true, named := ["parley/api.ErrValue"], apart := false, laid := [("parley/api.ErrValue", laid_parley_api_ErrValue)] }
def HedgeShutSaid : Prop := hedgeShutRow.holds Tryd.pinned (OpenSpec.ofChange hedgeShutSpec)

/-- ITS FALSE NEIGHBOUR: 'it returns false'. Refute it at one input. -/
def hedgeShutWrong : ChangeSpec := { name := "hedgeShut", fn := fun _ => fun
  | [d1, d2, d3, d4] => { results := [.lit (.bool false)], args := [d1, d2, d3, d4] }
  | _ => none }
def HedgeShutWrongFalsely : Prop := hedgeShutRow.holds Tryd.pinned (OpenSpec.ofChange hedgeShutWrong)

/-- 'parleylaw25.HedgeOnce': WHATEVER THE INPUT: true; the input reads as it did. -/
def hedgeOnceSpec : ChangeSpec := { name := "hedgeOnce", fn := fun _ => fun
  | [d1, d2] => { results := [.lit (.bool true)], args := [d1, d2] }
  | _ => none }
def hedgeOnceRow : OpenClaim := { program := "ytnmcjdiihebagaadoor", sum := "69698ff32a98b8e2f52a4f4acfb4dee10f4b29b073f0f6bf4a178d2d3cac84ef", func := "parley/parleylaw25.HedgeOnce", spec := "hedgeOnce", unfollowed := true, recurses := true, named := ["parley/api.ErrValue"], apart := false, laid := [("parley/api.ErrValue", laid_parley_api_ErrValue)] }
def HedgeOnceSaid : Prop := hedgeOnceRow.holds Tryd.pinned (OpenSpec.ofChange hedgeOnceSpec)

/-- ITS FALSE NEIGHBOUR: 'it returns false'. Refute it at one input. -/
def hedgeOnceWrong : ChangeSpec := { name := "hedgeOnce", fn := fun _ => fun
  | [d1, d2] => { results := [.lit (.bool false)], args := [d1, d2] }
  | _ => none }
def HedgeOnceWrongFalsely : Prop := hedgeOnceRow.holds Tryd.pinned (OpenSpec.ofChange hedgeOnceWrong)

/- THE SECOND FORM. 'bulk': how many values and letters a reading holds, each counted each time it is reached (what is shared counts as often as it is met; a slice's spare places count too). A statement '..UptoSaid' is the law's where the arguments, and the package variables that the reading takes, are together of bulk at most 1048576: NARROWER than '..Said'. Prove '..Said' where nothing that the law and all that it calls make is longer than what came in: it says more and counts as full. Else prove '..UptoSaid'. A law counts once. -/
mutual
def uptoBulk {H : Type} : DataW H → Nat
  | .lit (.string bytes) => bytes.length + 1
  | .lit _ => 1
  | .nil => 1
  | .ptr d => uptoBulk d + 1
  | .slice elems spare => uptoBulkAll elems + uptoBulkAll spare + 1
  | .agg parts => uptoBulkAll parts + 1
  | .iface _ d => uptoBulk d + 1
  | .map entries => uptoBulkEntries entries + 1
  | .held _ => 1
def uptoBulkAll {H : Type} : List (DataW H) → Nat
  | [] => 0
  | d :: r => uptoBulk d + uptoBulkAll r
def uptoBulkEntries {H : Type} : List (Lit × DataW H) → Nat
  | [] => 0
  | x :: r => uptoBulkEntry x + uptoBulkEntries r
def uptoBulkEntry {H : Type} : Lit × DataW H → Nat
  | (.string bytes, d) => bytes.length + uptoBulk d + 1
  | (_, d) => uptoBulk d + 1
 end
def uptoSmall : (H : Type) → List (DataW H) → Bool := fun _ ds => decide (uptoBulkAll ds ≤ 1048576)
def OpenSpec.upto (s : _root_.Go.ChangeSpec) : _root_.Go.OpenSpec := { _root_.Go.OpenSpec.ofChange s with cond := some uptoSmall }

/-- 'parleylaw17.PolicyWaits', WHERE WHAT IT READS IS OF BULK AT MOST 1048576: true; the input reads as it did. -/
def policyWaitsUptoRow : OpenClaim := { program := "ytnmcjdiihebagaadoor", sum := "69698ff32a98b8e2f52a4f4acfb4dee10f4b29b073f0f6bf4a178d2d3cac84ef", func := "parley/parleylaw17.PolicyWaits", spec := "policyWaits", unfollowed := true, recurses := true, named := ["parley/api.ErrValue"], apart := false, laid := [("parley/api.ErrValue", laid_parley_api_ErrValue)], narrowed := true }
def PolicyWaitsUptoSaid : Prop := policyWaitsUptoRow.holds Tryd.pinned (OpenSpec.upto policyWaitsSpec)

/-- 'parleylaw17.PolicyBound', WHERE WHAT IT READS IS OF BULK AT MOST 1048576: true; the input reads as it did. -/
def policyBoundUptoRow : OpenClaim := { program := "ytnmcjdiihebagaadoor", sum := "69698ff32a98b8e2f52a4f4acfb4dee10f4b29b073f0f6bf4a178d2d3cac84ef", func := "parley/parleylaw17.PolicyBound", spec := "policyBound", unfollowed := true, recurses := true, named := ["parley/api.ErrValue"], apart := false, laid := [("parley/api.ErrValue", laid_parley_api_ErrValue)], narrowed := true }
def PolicyBoundUptoSaid : Prop := policyBoundUptoRow.holds Tryd.pinned (OpenSpec.upto policyBoundSpec)

/-- 'parleylaw17.PolicyThrottle', WHERE WHAT IT READS IS OF BULK AT MOST 1048576: true; the input reads as it did. -/
def policyThrottleUptoRow : OpenClaim := { program := "ytnmcjdiihebagaadoor", sum := "69698ff32a98b8e2f52a4f4acfb4dee10f4b29b073f0f6bf4a178d2d3cac84ef", func := "parley/parleylaw17.PolicyThrottle", spec := "policyThrottle", unfollowed := true, recurses := true, named := ["parley/api.ErrValue"], apart := false, laid := [("parley/api.ErrValue", laid_parley_api_ErrValue)], narrowed := true }
def PolicyThrottleUptoSaid : Prop := policyThrottleUptoRow.holds Tryd.pinned (OpenSpec.upto policyThrottleSpec)

/-- 'parleylaw25.HedgeTicks', WHERE WHAT IT READS IS OF BULK AT MOST 1048576: true; the input reads as it did. -/
def hedgeTicksUptoRow : OpenClaim := { program := "ytnmcjdiihebagaadoor", sum := "69698ff32a98b8e2f52a4f4acfb4dee10f4b29b073f0f6bf4a178d2d3cac84ef", func := "parley/parleylaw25.HedgeTicks", spec := "hedgeTicks", unfollowed := true, recurses := true, named := ["parley/api.ErrValue"], apart := false, laid := [("parley/api.ErrValue", laid_parley_api_ErrValue)], narrowed := true }
def HedgeTicksUptoSaid : Prop := hedgeTicksUptoRow.holds Tryd.pinned (OpenSpec.upto hedgeTicksSpec)

/-- 'parleylaw25.HedgeShut', WHERE WHAT IT READS IS OF BULK AT MOST 1048576: true; the input reads as it did. -/
def hedgeShutUptoRow : OpenClaim := { program := "ytnmcjdiihebagaadoor", sum := "69698ff32a98b8e2f52a4f4acfb4dee10f4b29b073f0f6bf4a178d2d3cac84ef", func := "parley/parleylaw25.HedgeShut", spec := "hedgeShut", unfollowed := true, recurses := true, named := ["parley/api.ErrValue"], apart := false, laid := [("parley/api.ErrValue", laid_parley_api_ErrValue)], narrowed := true }
def HedgeShutUptoSaid : Prop := hedgeShutUptoRow.holds Tryd.pinned (OpenSpec.upto hedgeShutSpec)

/-- 'parleylaw25.HedgeOnce', WHERE WHAT IT READS IS OF BULK AT MOST 1048576: true; the input reads as it did. -/
def hedgeOnceUptoRow : OpenClaim := { program := "ytnmcjdiihebagaadoor", sum := "69698ff32a98b8e2f52a4f4acfb4dee10f4b29b073f0f6bf4a178d2d3cac84ef", func := "parley/parleylaw25.HedgeOnce", spec := "hedgeOnce", unfollowed := true, recurses := true, named := ["parley/api.ErrValue"], apart := false, laid := [("parley/api.ErrValue", laid_parley_api_ErrValue)], narrowed := true }
def HedgeOnceUptoSaid : Prop := hedgeOnceUptoRow.holds Tryd.pinned (OpenSpec.upto hedgeOnceSpec)

end Rows
end Go.Proofs.YtnmcjdiihebagaaDoor
