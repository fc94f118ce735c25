/-
  NARROWER THAN 'FOR EVERY INPUT', by the rows' own cells (each row's printed sentence says how): TableStatic: laid · TableEmptied: laid · TablePlays: laid · TableKeeps: laid · TableEach: laid · HpackNever: laid · HpackBound: laid · HpackOwn: laid · HpackEncodes: laid · HpackBack: laid.
  DERIVED. THE GIVEN ROWS OF THIS SEAT. 10 by the template 'for every input the law returns true; each argument reads behind the call as it read before'; 0 by the template 'total and deterministic' (their statements: YtflmgjidnclegaaDoorTotals.lean).
  GIVEN WITH THE SEED: the statements are not yours to turn. If you find one false, say at which input.
  Laid BY PROGRAM, IN A SANDBOX (cutbox-rows.mjs): the forced cells as the released guide's own fill.sh prints them over the translation afdfdffb39b591a6… (all of the seat's roots in one cut). By AI agents, Wed Nov 11 2026. No macro, syntax, notation, axiom, sorry.
-/
import Derived.Test.YtflmgjidnclegaaDoorChecked
import GoSem.PinnedTables
import GoSem.Claim
import GoSem.ClaimJoined
import GoSem.ClaimMapViews
import Derived.JoinedTies
import Derived.KernelRfl
namespace Go.Proofs.YtflmgjidnclegaaDoor
/- THE CELL 'sum', in the pinned program and in every row, IS THE sha256 OF THE DUMP (.gsa) THAT YtflmgjidnclegaaDoorProg.lean LOADS. Nothing in Lean hashes anything: it is a label: what it is worth is what the hold of that sum in a sandbox is worth. -/
noncomputable def Tryd.pinned : Pinned := { name := "ytflmgjidnclegaadoor", sum := "afdfdffb39b591a6c55ae1bd50ee3b8e6255c0aab1ba4409bd8a409f7beef2d1", checked := Tryd.checked }
namespace Rows
def none {H : Type} : Left H := { results := [], args := [] }

/- WHAT THE LISTED PACKAGE-LEVEL VARIABLES READ AS WHEN THE CALL BEGINS. Each datum BY PROGRAM (the guide's laid-datum.mjs) off the statement by which the dump's own 'gosem.cut.vars' lays the variable. In a bare row this is a premise. The card (YtflmgjidnclegaaDoorCards.lean) ties it to the program's text. -/
def laid_unicode_utf8_acceptRanges {H : Type} : DataW H := .agg [.agg [.lit (.int .u8 128), .lit (.int .u8 191)], .agg [.lit (.int .u8 160), .lit (.int .u8 191)], .agg [.lit (.int .u8 128), .lit (.int .u8 159)], .agg [.lit (.int .u8 144), .lit (.int .u8 191)], .agg [.lit (.int .u8 128), .lit (.int .u8 143)], .agg [.lit (.int .u8 0), .lit (.int .u8 0)], .agg [.lit (.int .u8 0), .lit (.int .u8 0)], .agg [.lit (.int .u8 0), .lit (.int .u8 0)], .agg [.lit (.int .u8 0), .lit (.int .u8 0)], .agg [.lit (.int .u8 0), .lit (.int .u8 0)], .agg [.lit (.int .u8 0), .lit (.int .u8 0)], .agg [.lit (.int .u8 0), .lit (.int .u8 0)], .agg [.lit (.int .u8 0), .lit (.int .u8 0)], .agg [.lit (.int .u8 0), .lit (.int .u8 0)], .agg [.lit (.int .u8 0), .lit (.int .u8 0)], .agg [.lit (.int .u8 0), .lit (.int .u8 0)]]
def laid_parley_api_ErrTable {H : Type} : DataW H := .iface "*errors.errorString" (.ptr (.agg [.lit (.string [116, 104, 101, 32, 116, 97, 98, 108, 101, 32, 109, 97, 121, 32, 110, 111, 116, 32, 98, 101, 32, 115, 111, 32, 108, 97, 114, 103, 101])]))
/-- One of Go's own tables, pinned by name: the form's constant. -/
def laid_unicode_utf8_first : DataW Unit := Go.Pinned.utf8First
def laid_parley_api_ErrEnd {H : Type} : DataW H := .iface "*errors.errorString" (.ptr (.agg [.lit (.string [105, 116, 32, 101, 110, 100, 115, 32, 116, 111, 111, 32, 101, 97, 114, 108, 121])]))
def laid_parley_api_ErrLong {H : Type} : DataW H := .iface "*errors.errorString" (.ptr (.agg [.lit (.string [116, 111, 111, 32, 108, 111, 110, 103])]))
def laid_parley_api_ErrHuff {H : Type} : DataW H := .iface "*errors.errorString" (.ptr (.agg [.lit (.string [110, 111, 32, 72, 117, 102, 102, 109, 97, 110, 32, 99, 111, 100, 101])]))
def laid_parley_api_ErrIndex {H : Type} : DataW H := .iface "*errors.errorString" (.ptr (.agg [.lit (.string [116, 104, 101, 114, 101, 32, 105, 115, 32, 110, 111, 110, 101])]))
def laid_parley_api_ErrList {H : Type} : DataW H := .iface "*errors.errorString" (.ptr (.agg [.lit (.string [116, 104, 101, 32, 108, 105, 115, 116, 32, 105, 115, 32, 116, 111, 111, 32, 108, 97, 114, 103, 101])]))
def laid_parley_api_ErrGone {H : Type} : DataW H := .iface "*errors.errorString" (.ptr (.agg [.lit (.string [116, 104, 101, 32, 99, 111, 110, 110, 101, 99, 116, 105, 111, 110, 32, 116, 97, 107, 101, 115, 32, 110, 111, 32, 109, 111, 114, 101])]))

/-- 'parleylaw3.TableStatic': WHATEVER THE INPUT: true; the input reads as it did. -/
def tableStaticSpec : ChangeSpec := { name := "tableStatic", fn := fun _ => fun
  | [d1, d2] => { results := [.lit (.bool true)], args := [d1, d2] }
  | _ => none }
def tableStaticRow : OpenClaim := { program := "ytflmgjidnclegaadoor", sum := "afdfdffb39b591a6c55ae1bd50ee3b8e6255c0aab1ba4409bd8a409f7beef2d1", func := "parley/parleylaw3.TableStatic", spec := "tableStatic", inPlace := ["internal/bytealg.CountString", "internal/bytealg.IndexByteString", "internal/bytealg.IndexString"], named := ["parley/api.ErrTable", "unicode/utf8.first", "unicode/utf8.acceptRanges", "internal/bytealg.MaxLen"], plainKeys := false, apart := false, laid := [("unicode/utf8.acceptRanges", laid_unicode_utf8_acceptRanges), ("parley/api.ErrTable", laid_parley_api_ErrTable), ("unicode/utf8.first", laid_unicode_utf8_first)] }
def TableStaticSaid : Prop := tableStaticRow.holds Tryd.pinned (OpenSpec.ofChange tableStaticSpec)

/-- ITS FALSE NEIGHBOUR: 'it returns false'. Refute it at one input. -/
def tableStaticWrong : ChangeSpec := { name := "tableStatic", fn := fun _ => fun
  | [d1, d2] => { results := [.lit (.bool false)], args := [d1, d2] }
  | _ => none }
def TableStaticWrongFalsely : Prop := tableStaticRow.holds Tryd.pinned (OpenSpec.ofChange tableStaticWrong)

/-- 'parleylaw3.TableEmptied': WHATEVER THE INPUT: true; the input reads as it did. -/
def tableEmptiedSpec : ChangeSpec := { name := "tableEmptied", fn := fun _ => fun
  | [d1, d2, d3, d4] => { results := [.lit (.bool true)], args := [d1, d2, d3, d4] }
  | _ => none }
def tableEmptiedRow : OpenClaim := { program := "ytflmgjidnclegaadoor", sum := "afdfdffb39b591a6c55ae1bd50ee3b8e6255c0aab1ba4409bd8a409f7beef2d1", func := "parley/parleylaw3.TableEmptied", spec := "tableEmptied", inPlace := ["internal/bytealg.CountString", "internal/bytealg.IndexByteString", "internal/bytealg.IndexString"], named := ["parley/api.ErrTable", "unicode/utf8.first", "unicode/utf8.acceptRanges", "internal/bytealg.MaxLen"], plainKeys := false, apart := false, laid := [("unicode/utf8.acceptRanges", laid_unicode_utf8_acceptRanges), ("parley/api.ErrTable", laid_parley_api_ErrTable), ("unicode/utf8.first", laid_unicode_utf8_first)] }
def TableEmptiedSaid : Prop := tableEmptiedRow.holds Tryd.pinned (OpenSpec.ofChange tableEmptiedSpec)

/-- ITS FALSE NEIGHBOUR: 'it returns false'. Refute it at one input. -/
def tableEmptiedWrong : ChangeSpec := { name := "tableEmptied", fn := fun _ => fun
  | [d1, d2, d3, d4] => { results := [.lit (.bool false)], args := [d1, d2, d3, d4] }
  | _ => none }
def TableEmptiedWrongFalsely : Prop := tableEmptiedRow.holds Tryd.pinned (OpenSpec.ofChange tableEmptiedWrong)

/-- 'parleylaw3.TablePlays': WHATEVER THE INPUT: true; the input reads as it did. -/
def tablePlaysSpec : ChangeSpec := { name := "tablePlays", fn := fun _ => fun
  | [d1, d2, d3, d4, d5] => { results := [.lit (.bool true)], args := [d1, d2, d3, d4, d5] }
  | _ => none }
def tablePlaysRow : OpenClaim := { program := "ytflmgjidnclegaadoor", sum := "afdfdffb39b591a6c55ae1bd50ee3b8e6255c0aab1ba4409bd8a409f7beef2d1", func := "parley/parleylaw3.TablePlays", spec := "tablePlays", inPlace := ["internal/bytealg.CountString", "internal/bytealg.IndexByteString", "internal/bytealg.IndexString"], named := ["parley/api.ErrTable", "unicode/utf8.first", "unicode/utf8.acceptRanges", "internal/bytealg.MaxLen"], plainKeys := false, apart := false, laid := [("unicode/utf8.acceptRanges", laid_unicode_utf8_acceptRanges), ("parley/api.ErrTable", laid_parley_api_ErrTable), ("unicode/utf8.first", laid_unicode_utf8_first)] }
def TablePlaysSaid : Prop := tablePlaysRow.holds Tryd.pinned (OpenSpec.ofChange tablePlaysSpec)

/-- ITS FALSE NEIGHBOUR: 'it returns false'. Refute it at one input. -/
def tablePlaysWrong : ChangeSpec := { name := "tablePlays", fn := fun _ => fun
  | [d1, d2, d3, d4, d5] => { results := [.lit (.bool false)], args := [d1, d2, d3, d4, d5] }
  | _ => none }
def TablePlaysWrongFalsely : Prop := tablePlaysRow.holds Tryd.pinned (OpenSpec.ofChange tablePlaysWrong)

/-- 'parleylaw3.TableKeeps': WHATEVER THE INPUT: true; the input reads as it did. -/
def tableKeepsSpec : ChangeSpec := { name := "tableKeeps", fn := fun _ => fun
  | [d1, d2] => { results := [.lit (.bool true)], args := [d1, d2] }
  | _ => none }
def tableKeepsRow : OpenClaim := { program := "ytflmgjidnclegaadoor", sum := "afdfdffb39b591a6c55ae1bd50ee3b8e6255c0aab1ba4409bd8a409f7beef2d1", func := "parley/parleylaw3.TableKeeps", spec := "tableKeeps", inPlace := ["internal/bytealg.CountString", "internal/bytealg.IndexByteString", "internal/bytealg.IndexString"], named := ["parley/api.ErrTable", "unicode/utf8.first", "unicode/utf8.acceptRanges", "internal/bytealg.MaxLen"], plainKeys := false, apart := false, laid := [("unicode/utf8.acceptRanges", laid_unicode_utf8_acceptRanges), ("parley/api.ErrTable", laid_parley_api_ErrTable), ("unicode/utf8.first", laid_unicode_utf8_first)] }
def TableKeepsSaid : Prop := tableKeepsRow.holds Tryd.pinned (OpenSpec.ofChange tableKeepsSpec)

/-- ITS FALSE NEIGHBOUR: 'it returns false'. Refute it at one input. -/
def tableKeepsWrong : ChangeSpec := { name := "tableKeeps", fn := fun _ => fun
  | [d1, d2] => { results := [.lit (.bool false)], args := [d1, d2] }
  | _ => none }
def TableKeepsWrongFalsely : Prop := tableKeepsRow.holds Tryd.pinned (OpenSpec.ofChange tableKeepsWrong)

/-- 'parleylaw3.TableEach': WHATEVER THE INPUT: true; the input reads as it did. -/
def tableEachSpec : ChangeSpec := { name := "tableEach", fn := fun _ => fun
  | [d1, d2, d3, d4] => { results := [.lit (.bool true)], args := [d1, d2, d3, d4] }
  | _ => none }
def tableEachRow : OpenClaim := { program := "ytflmgjidnclegaadoor", sum := "afdfdffb39b591a6c55ae1bd50ee3b8e6255c0aab1ba4409bd8a409f7beef2d1", func := "parley/parleylaw3.TableEach", spec := "tableEach", inPlace := ["internal/bytealg.CountString", "internal/bytealg.IndexByteString", "internal/bytealg.IndexString"], unfollowed := true, recurses := true, named := ["parley/api.ErrTable", "unicode/utf8.first", "unicode/utf8.acceptRanges", "internal/bytealg.MaxLen"], plainKeys := false, apart := false, laid := [("unicode/utf8.acceptRanges", laid_unicode_utf8_acceptRanges), ("parley/api.ErrTable", laid_parley_api_ErrTable), ("unicode/utf8.first", laid_unicode_utf8_first)] }
def TableEachSaid : Prop := tableEachRow.holds Tryd.pinned (OpenSpec.ofChange tableEachSpec)

/-- ITS FALSE NEIGHBOUR: 'it returns false'. Refute it at one input. -/
def tableEachWrong : ChangeSpec := { name := "tableEach", fn := fun _ => fun
  | [d1, d2, d3, d4] => { results := [.lit (.bool false)], args := [d1, d2, d3, d4] }
  | _ => none }
def TableEachWrongFalsely : Prop := tableEachRow.holds Tryd.pinned (OpenSpec.ofChange tableEachWrong)

/-- 'parleylaw4.HpackNever': WHATEVER THE INPUT: true; the input reads as it did. -/
def hpackNeverSpec : ChangeSpec := { name := "hpackNever", fn := fun _ => fun
  | [d] => { results := [.lit (.bool true)], args := [d] }
  | _ => none }
def hpackNeverRow : OpenClaim := { program := "ytflmgjidnclegaadoor", sum := "afdfdffb39b591a6c55ae1bd50ee3b8e6255c0aab1ba4409bd8a409f7beef2d1", func := "parley/parleylaw4.HpackNever", spec := "hpackNever", inPlace := ["internal/bytealg.CountString", "internal/bytealg.IndexByteString", "internal/bytealg.IndexString"], unfollowed := true, recurses := true, named := ["parley/api.ErrTable", "unicode/utf8.first", "unicode/utf8.acceptRanges", "internal/bytealg.MaxLen", "parley/api.ErrLong", "parley/api.ErrEnd", "parley/api.ErrGone", "parley/api.ErrIndex", "parley/api.ErrList", "parley/api.ErrHuff"], plainKeys := false, apart := false, laid := [("unicode/utf8.acceptRanges", laid_unicode_utf8_acceptRanges), ("parley/api.ErrEnd", laid_parley_api_ErrEnd), ("parley/api.ErrLong", laid_parley_api_ErrLong), ("parley/api.ErrHuff", laid_parley_api_ErrHuff), ("parley/api.ErrIndex", laid_parley_api_ErrIndex), ("parley/api.ErrTable", laid_parley_api_ErrTable), ("parley/api.ErrList", laid_parley_api_ErrList), ("parley/api.ErrGone", laid_parley_api_ErrGone), ("unicode/utf8.first", laid_unicode_utf8_first)] }
def HpackNeverSaid : Prop := hpackNeverRow.holds Tryd.pinned (OpenSpec.ofChange hpackNeverSpec)

/-- ITS FALSE NEIGHBOUR: 'it returns false'. Refute it at one input. -/
def hpackNeverWrong : ChangeSpec := { name := "hpackNever", fn := fun _ => fun
  | [d] => { results := [.lit (.bool false)], args := [d] }
  | _ => none }
def HpackNeverWrongFalsely : Prop := hpackNeverRow.holds Tryd.pinned (OpenSpec.ofChange hpackNeverWrong)

/-- 'parleylaw4.HpackBound': WHATEVER THE INPUT: true; the input reads as it did. -/
def hpackBoundSpec : ChangeSpec := { name := "hpackBound", fn := fun _ => fun
  | [d1, d2] => { results := [.lit (.bool true)], args := [d1, d2] }
  | _ => none }
def hpackBoundRow : OpenClaim := { program := "ytflmgjidnclegaadoor", sum := "afdfdffb39b591a6c55ae1bd50ee3b8e6255c0aab1ba4409bd8a409f7beef2d1", func := "parley/parleylaw4.HpackBound", spec := "hpackBound", inPlace := ["internal/bytealg.CountString", "internal/bytealg.IndexByteString", "internal/bytealg.IndexString"], unfollowed := true, recurses := true, named := ["parley/api.ErrGone", "parley/api.ErrTable", "unicode/utf8.first", "unicode/utf8.acceptRanges", "internal/bytealg.MaxLen", "parley/api.ErrLong", "parley/api.ErrEnd", "parley/api.ErrIndex", "parley/api.ErrList", "parley/api.ErrHuff"], plainKeys := false, apart := false, laid := [("unicode/utf8.acceptRanges", laid_unicode_utf8_acceptRanges), ("parley/api.ErrEnd", laid_parley_api_ErrEnd), ("parley/api.ErrLong", laid_parley_api_ErrLong), ("parley/api.ErrHuff", laid_parley_api_ErrHuff), ("parley/api.ErrIndex", laid_parley_api_ErrIndex), ("parley/api.ErrTable", laid_parley_api_ErrTable), ("parley/api.ErrList", laid_parley_api_ErrList), ("parley/api.ErrGone", laid_parley_api_ErrGone), ("unicode/utf8.first", laid_unicode_utf8_first)] }
def HpackBoundSaid : Prop := hpackBoundRow.holds Tryd.pinned (OpenSpec.ofChange hpackBoundSpec)

/-- ITS FALSE NEIGHBOUR: 'it returns false'. Refute it at one input. -/
def hpackBoundWrong : ChangeSpec := { name := "hpackBound", fn := fun _ => fun
  | [d1, d2] => { results := [.lit (.bool false)], args := [d1, d2] }
  | _ => none }
def HpackBoundWrongFalsely : Prop := hpackBoundRow.holds Tryd.pinned (OpenSpec.ofChange hpackBoundWrong)

/-- 'parleylaw4.HpackOwn': WHATEVER THE INPUT: true; the input reads as it did. -/
def hpackOwnSpec : ChangeSpec := { name := "hpackOwn", fn := fun _ => fun
  | [d] => { results := [.lit (.bool true)], args := [d] }
  | _ => none }
def hpackOwnRow : OpenClaim := { program := "ytflmgjidnclegaadoor", sum := "afdfdffb39b591a6c55ae1bd50ee3b8e6255c0aab1ba4409bd8a409f7beef2d1", func := "parley/parleylaw4.HpackOwn", spec := "hpackOwn", inPlace := ["internal/bytealg.CountString", "internal/bytealg.IndexByteString", "internal/bytealg.IndexString"], unfollowed := true, recurses := true, named := ["parley/api.ErrTable", "unicode/utf8.first", "unicode/utf8.acceptRanges", "internal/bytealg.MaxLen", "parley/api.ErrLong", "parley/api.ErrEnd", "parley/api.ErrGone", "parley/api.ErrIndex", "parley/api.ErrList", "parley/api.ErrHuff"], plainKeys := false, apart := false, laid := [("unicode/utf8.acceptRanges", laid_unicode_utf8_acceptRanges), ("parley/api.ErrEnd", laid_parley_api_ErrEnd), ("parley/api.ErrLong", laid_parley_api_ErrLong), ("parley/api.ErrHuff", laid_parley_api_ErrHuff), ("parley/api.ErrIndex", laid_parley_api_ErrIndex), ("parley/api.ErrTable", laid_parley_api_ErrTable), ("parley/api.ErrList", laid_parley_api_ErrList), ("parley/api.ErrGone", laid_parley_api_ErrGone), ("unicode/utf8.first", laid_unicode_utf8_first)] }
def HpackOwnSaid : Prop := hpackOwnRow.holds Tryd.pinned (OpenSpec.ofChange hpackOwnSpec)

/-- ITS FALSE NEIGHBOUR: 'it returns false'. Refute it at one input. -/
def hpackOwnWrong : ChangeSpec := { name := "hpackOwn", fn := fun _ => fun
  | [d] => { results := [.lit (.bool false)], args := [d] }
  | _ => none }
def HpackOwnWrongFalsely : Prop := hpackOwnRow.holds Tryd.pinned (OpenSpec.ofChange hpackOwnWrong)

/-- 'parleylaw4.HpackEncodes': WHATEVER THE INPUT: true; the input reads as it did. -/
def hpackEncodesSpec : ChangeSpec := { name := "hpackEncodes", fn := fun _ => fun
  | [d1, d2] => { results := [.lit (.bool true)], args := [d1, d2] }
  | _ => none }
def hpackEncodesRow : OpenClaim := { program := "ytflmgjidnclegaadoor", sum := "afdfdffb39b591a6c55ae1bd50ee3b8e6255c0aab1ba4409bd8a409f7beef2d1", func := "parley/parleylaw4.HpackEncodes", spec := "hpackEncodes", inPlace := ["internal/bytealg.CountString", "internal/bytealg.IndexByteString", "internal/bytealg.IndexString"], unfollowed := true, recurses := true, named := ["parley/api.ErrTable", "unicode/utf8.first", "unicode/utf8.acceptRanges", "internal/bytealg.MaxLen", "parley/api.ErrLong", "parley/api.ErrEnd", "parley/api.ErrGone", "parley/api.ErrIndex", "parley/api.ErrList", "parley/api.ErrHuff"], plainKeys := false, apart := false, laid := [("unicode/utf8.acceptRanges", laid_unicode_utf8_acceptRanges), ("parley/api.ErrEnd", laid_parley_api_ErrEnd), ("parley/api.ErrLong", laid_parley_api_ErrLong), ("parley/api.ErrHuff", laid_parley_api_ErrHuff), ("parley/api.ErrIndex", laid_parley_api_ErrIndex), ("parley/api.ErrTable", laid_parley_api_ErrTable), ("parley/api.ErrList", laid_parley_api_ErrList), ("parley/api.ErrGone", laid_parley_api_ErrGone), ("unicode/utf8.first", laid_unicode_utf8_first)] }
def HpackEncodesSaid : Prop := hpackEncodesRow.holds Tryd.pinned (OpenSpec.ofChange hpackEncodesSpec)

/-- ITS FALSE NEIGHBOUR: 'it returns false'. Refute it at one input. -/
def hpackEncodesWrong : ChangeSpec := { name := "hpackEncodes", fn := fun _ => fun
  | [d1, d2] => { results := [.lit (.bool false)], args := [d1, d2] }
  | _ => none }
def HpackEncodesWrongFalsely : Prop := hpackEncodesRow.holds Tryd.pinned (OpenSpec.ofChange hpackEncodesWrong)

/-- 'parleylaw4.HpackBack': WHATEVER THE INPUT: true; the input reads as it did. -/
def hpackBackSpec : ChangeSpec := { name := "hpackBack", fn := fun _ => fun
  | [d1, d2] => { results := [.lit (.bool true)], args := [d1, d2] }
  | _ => none }
def hpackBackRow : OpenClaim := { program := "ytflmgjidnclegaadoor", sum := "afdfdffb39b591a6c55ae1bd50ee3b8e6255c0aab1ba4409bd8a409f7beef2d1", func := "parley/parleylaw4.HpackBack", spec := "hpackBack", inPlace := ["internal/bytealg.CountString", "internal/bytealg.IndexByteString", "internal/bytealg.IndexString"], unfollowed := true, recurses := true, named := ["parley/api.ErrTable", "unicode/utf8.first", "unicode/utf8.acceptRanges", "internal/bytealg.MaxLen", "parley/api.ErrLong", "parley/api.ErrEnd", "parley/api.ErrGone", "parley/api.ErrIndex", "parley/api.ErrList", "parley/api.ErrHuff"], plainKeys := false, apart := false, laid := [("unicode/utf8.acceptRanges", laid_unicode_utf8_acceptRanges), ("parley/api.ErrEnd", laid_parley_api_ErrEnd), ("parley/api.ErrLong", laid_parley_api_ErrLong), ("parley/api.ErrHuff", laid_parley_api_ErrHuff), ("parley/api.ErrIndex", laid_parley_api_ErrIndex), ("parley/api.ErrTable", laid_parley_api_ErrTable), ("parley/api.ErrList", laid_parley_api_ErrList), ("parley/api.ErrGone", laid_parley_api_ErrGone), ("unicode/utf8.first", laid_unicode_utf8_first)] }
def HpackBackSaid : Prop := hpackBackRow.holds Tryd.pinned (OpenSpec.ofChange hpackBackSpec)

/-- ITS FALSE NEIGHBOUR: 'it returns false'. Refute it at one input. -/
def hpackBackWrong : ChangeSpec := { name := "hpackBack", fn := fun _ => fun
  | [d1, d2] => { results := [.lit (.bool false)], args := [d1, d2] }
  | _ => none }
def HpackBackWrongFalsely : Prop := hpackBackRow.holds Tryd.pinned (OpenSpec.ofChange hpackBackWrong)

/- THE SECOND FORM. 'bulk': how many values and letters a reading holds, each counted each time it is reached (what is shared counts as often as it is met; a slice's spare places count too). A statement '..UptoSaid' is the law's where the arguments, and the package variables that the reading takes, are together of bulk at most 1048576: NARROWER than '..Said'. Prove '..Said' where nothing that the law and all that it calls make is longer than what came in: it says more and counts as full. Else prove '..UptoSaid'. A law counts once. -/
mutual
def uptoBulk {H : Type} : DataW H → Nat
  | .lit (.string bytes) => bytes.length + 1
  | .lit _ => 1
  | .nil => 1
  | .ptr d => uptoBulk d + 1
  | .slice elems spare => uptoBulkAll elems + uptoBulkAll spare + 1
  | .agg parts => uptoBulkAll parts + 1
  | .iface _ d => uptoBulk d + 1
  | .map entries => uptoBulkEntries entries + 1
  | .held _ => 1
def uptoBulkAll {H : Type} : List (DataW H) → Nat
  | [] => 0
  | d :: r => uptoBulk d + uptoBulkAll r
def uptoBulkEntries {H : Type} : List (Lit × DataW H) → Nat
  | [] => 0
  | x :: r => uptoBulkEntry x + uptoBulkEntries r
def uptoBulkEntry {H : Type} : Lit × DataW H → Nat
  | (.string bytes, d) => bytes.length + uptoBulk d + 1
  | (_, d) => uptoBulk d + 1
 end
def uptoSmall : (H : Type) → List (DataW H) → Bool := fun _ ds => decide (uptoBulkAll ds ≤ 1048576)
def OpenSpec.upto (s : _root_.Go.ChangeSpec) : _root_.Go.OpenSpec := { _root_.Go.OpenSpec.ofChange s with cond := some uptoSmall }

/-- 'parleylaw3.TableStatic', WHERE WHAT IT READS IS OF BULK AT MOST 1048576: true; the input reads as it did. -/
def tableStaticUptoRow : OpenClaim := { program := "ytflmgjidnclegaadoor", sum := "afdfdffb39b591a6c55ae1bd50ee3b8e6255c0aab1ba4409bd8a409f7beef2d1", func := "parley/parleylaw3.TableStatic", spec := "tableStatic", inPlace := ["internal/bytealg.CountString", "internal/bytealg.IndexByteString", "internal/bytealg.IndexString"], named := ["parley/api.ErrTable", "unicode/utf8.first", "unicode/utf8.acceptRanges", "internal/bytealg.MaxLen"], plainKeys := false, apart := false, laid := [("unicode/utf8.acceptRanges", laid_unicode_utf8_acceptRanges), ("parley/api.ErrTable", laid_parley_api_ErrTable), ("unicode/utf8.first", laid_unicode_utf8_first)], narrowed := true }
def TableStaticUptoSaid : Prop := tableStaticUptoRow.holds Tryd.pinned (OpenSpec.upto tableStaticSpec)

/-- 'parleylaw3.TableEmptied', WHERE WHAT IT READS IS OF BULK AT MOST 1048576: true; the input reads as it did. -/
def tableEmptiedUptoRow : OpenClaim := { program := "ytflmgjidnclegaadoor", sum := "afdfdffb39b591a6c55ae1bd50ee3b8e6255c0aab1ba4409bd8a409f7beef2d1", func := "parley/parleylaw3.TableEmptied", spec := "tableEmptied", inPlace := ["internal/bytealg.CountString", "internal/bytealg.IndexByteString", "internal/bytealg.IndexString"], named := ["parley/api.ErrTable", "unicode/utf8.first", "unicode/utf8.acceptRanges", "internal/bytealg.MaxLen"], plainKeys := false, apart := false, laid := [("unicode/utf8.acceptRanges", laid_unicode_utf8_acceptRanges), ("parley/api.ErrTable", laid_parley_api_ErrTable), ("unicode/utf8.first", laid_unicode_utf8_first)], narrowed := true }
def TableEmptiedUptoSaid : Prop := tableEmptiedUptoRow.holds Tryd.pinned (OpenSpec.upto tableEmptiedSpec)

/-- 'parleylaw3.TablePlays', WHERE WHAT IT READS IS OF BULK AT MOST 1048576: true; the input reads as it did. -/
def tablePlaysUptoRow : OpenClaim := { program := "ytflmgjidnclegaadoor", sum := "afdfdffb39b591a6c55ae1bd50ee3b8e6255c0aab1ba4409bd8a409f7beef2d1", func := "parley/parleylaw3.TablePlays", spec := "tablePlays", inPlace := ["internal/bytealg.CountString", "internal/bytealg.IndexByteString", "internal/bytealg.IndexString"], named := ["parley/api.ErrTable", "unicode/utf8.first", "unicode/utf8.acceptRanges", "internal/bytealg.MaxLen"], plainKeys := false, apart := false, laid := [("unicode/utf8.acceptRanges", laid_unicode_utf8_acceptRanges), ("parley/api.ErrTable", laid_parley_api_ErrTable), ("unicode/utf8.first", laid_unicode_utf8_first)], narrowed := true }
def TablePlaysUptoSaid : Prop := tablePlaysUptoRow.holds Tryd.pinned (OpenSpec.upto tablePlaysSpec)

/-- 'parleylaw3.TableKeeps', WHERE WHAT IT READS IS OF BULK AT MOST 1048576: true; the input reads as it did. -/
def tableKeepsUptoRow : OpenClaim := { program := "ytflmgjidnclegaadoor", sum := "afdfdffb39b591a6c55ae1bd50ee3b8e6255c0aab1ba4409bd8a409f7beef2d1", func := "parley/parleylaw3.TableKeeps", spec := "tableKeeps", inPlace := ["internal/bytealg.CountString", "internal/bytealg.IndexByteString", "internal/bytealg.IndexString"], named := ["parley/api.ErrTable", "unicode/utf8.first", "unicode/utf8.acceptRanges", "internal/bytealg.MaxLen"], plainKeys := false, apart := false, laid := [("unicode/utf8.acceptRanges", laid_unicode_utf8_acceptRanges), ("parley/api.ErrTable", laid_parley_api_ErrTable), ("unicode/utf8.first", laid_unicode_utf8_first)], narrowed := true }
def TableKeepsUptoSaid : Prop := tableKeepsUptoRow.holds Tryd.pinned (OpenSpec.upto tableKeepsSpec)

/-- 'parleylaw3.TableEach', WHERE WHAT IT READS IS OF BULK AT MOST 1048576: true; the input reads as it did. -/
def tableEachUptoRow : OpenClaim := { program := "ytflmgjidnclegaadoor", sum := "afdfdffb39b591a6c55ae1bd50ee3b8e6255c0aab1ba4409bd8a409f7beef2d1", func := "parley/parleylaw3.TableEach", spec := "tableEach", inPlace := ["internal/bytealg.CountString", "internal/bytealg.IndexByteString", "internal/bytealg.IndexString"], unfollowed := true, recurses := true, named := ["parley/api.ErrTable", "unicode/utf8.first", "unicode/utf8.acceptRanges", "internal/bytealg.MaxLen"], plainKeys := false, apart := false, laid := [("unicode/utf8.acceptRanges", laid_unicode_utf8_acceptRanges), ("parley/api.ErrTable", laid_parley_api_ErrTable), ("unicode/utf8.first", laid_unicode_utf8_first)], narrowed := true }
def TableEachUptoSaid : Prop := tableEachUptoRow.holds Tryd.pinned (OpenSpec.upto tableEachSpec)

/-- 'parleylaw4.HpackNever', WHERE WHAT IT READS IS OF BULK AT MOST 1048576: true; the input reads as it did. -/
def hpackNeverUptoRow : OpenClaim := { program := "ytflmgjidnclegaadoor", sum := "afdfdffb39b591a6c55ae1bd50ee3b8e6255c0aab1ba4409bd8a409f7beef2d1", func := "parley/parleylaw4.HpackNever", spec := "hpackNever", inPlace := ["internal/bytealg.CountString", "internal/bytealg.IndexByteString", "internal/bytealg.IndexString"], unfollowed := true, recurses := true, named := ["parley/api.ErrTable", "unicode/utf8.first", "unicode/utf8.acceptRanges", "internal/bytealg.MaxLen", "parley/api.ErrLong", "parley/api.ErrEnd", "parley/api.ErrGone", "parley/api.ErrIndex", "parley/api.ErrList", "parley/api.ErrHuff"], plainKeys := false, apart := false, laid := [("unicode/utf8.acceptRanges", laid_unicode_utf8_acceptRanges), ("parley/api.ErrEnd", laid_parley_api_ErrEnd), ("parley/api.ErrLong", laid_parley_api_ErrLong), ("parley/api.ErrHuff", laid_parley_api_ErrHuff), ("parley/api.ErrIndex", laid_parley_api_ErrIndex), ("parley/api.ErrTable", laid_parley_api_ErrTable), ("parley/api.ErrList", laid_parley_api_ErrList), ("parley/api.ErrGone", laid_parley_api_ErrGone), ("unicode/utf8.first", laid_unicode_utf8_first)], narrowed := true }
def HpackNeverUptoSaid : Prop := hpackNeverUptoRow.holds Tryd.pinned (OpenSpec.upto hpackNeverSpec)

/-- 'parleylaw4.HpackBound', WHERE WHAT IT READS IS OF BULK AT MOST 1048576: true; the input reads as it did. -/
def hpackBoundUptoRow : OpenClaim := { program := "ytflmgjidnclegaadoor", sum := "afdfdffb39b591a6c55ae1bd50ee3b8e6255c0aab1ba4409bd8a409f7beef2d1", func := "parley/parleylaw4.HpackBound", spec := "hpackBound", inPlace := ["internal/bytealg.CountString", "internal/bytealg.IndexByteString", "internal/bytealg.IndexString"], unfollowed := true, recurses := true, named := ["parley/api.ErrGone", "parley/api.ErrTable", "unicode/utf8.first", "unicode/utf8.acceptRanges", "internal/bytealg.MaxLen", "parley/api.ErrLong", "parley/api.ErrEnd", "parley/api.ErrIndex", "parley/api.ErrList", "parley/api.ErrHuff"], plainKeys := false, apart := false, laid := [("unicode/utf8.acceptRanges", laid_unicode_utf8_acceptRanges), ("parley/api.ErrEnd", laid_parley_api_ErrEnd), ("parley/api.ErrLong", laid_parley_api_ErrLong), ("parley/api.ErrHuff", laid_parley_api_ErrHuff), ("parley/api.ErrIndex", laid_parley_api_ErrIndex), ("parley/api.ErrTable", laid_parley_api_ErrTable), ("parley/api.ErrList", laid_parley_api_ErrList), ("parley/api.ErrGone", laid_parley_api_ErrGone), ("unicode/utf8.first", laid_unicode_utf8_first)], narrowed := true }
def HpackBoundUptoSaid : Prop := hpackBoundUptoRow.holds Tryd.pinned (OpenSpec.upto hpackBoundSpec)

/-- 'parleylaw4.HpackOwn', WHERE WHAT IT READS IS OF BULK AT MOST 1048576: true; the input reads as it did. -/
def hpackOwnUptoRow : OpenClaim := { program := "ytflmgjidnclegaadoor", sum := "afdfdffb39b591a6c55ae1bd50ee3b8e6255c0aab1ba4409bd8a409f7beef2d1", func := "parley/parleylaw4.HpackOwn", spec := "hpackOwn", inPlace := ["internal/bytealg.CountString", "internal/bytealg.IndexByteString", "internal/bytealg.IndexString"], unfollowed := true, recurses := true, named := ["parley/api.ErrTable", "unicode/utf8.first", "unicode/utf8.acceptRanges", "internal/bytealg.MaxLen", "parley/api.ErrLong", "parley/api.ErrEnd", "parley/api.ErrGone", "parley/api.ErrIndex", "parley/api.ErrList", "parley/api.ErrHuff"], plainKeys := false, apart := false, laid := [("unicode/utf8.acceptRanges", laid_unicode_utf8_acceptRanges), ("parley/api.ErrEnd", laid_parley_api_ErrEnd), ("parley/api.ErrLong", laid_parley_api_ErrLong), ("parley/api.ErrHuff", laid_parley_api_ErrHuff), ("parley/api.ErrIndex", laid_parley_api_ErrIndex), ("parley/api.ErrTable", laid_parley_api_ErrTable), ("parley/api.ErrList", laid_parley_api_ErrList), ("parley/api.ErrGone", laid_parley_api_ErrGone), ("unicode/utf8.first", laid_unicode_utf8_first)], narrowed := true }
def HpackOwnUptoSaid : Prop := hpackOwnUptoRow.holds Tryd.pinned (OpenSpec.upto hpackOwnSpec)

/-- 'parleylaw4.HpackEncodes', WHERE WHAT IT READS IS OF BULK AT MOST 1048576: true; the input reads as it did. -/
def hpackEncodesUptoRow : OpenClaim := { program := "ytflmgjidnclegaadoor", sum := "afdfdffb39b591a6c55ae1bd50ee3b8e6255c0aab1ba4409bd8a409f7beef2d1", func := "parley/parleylaw4.HpackEncodes", spec := "hpackEncodes", inPlace := ["internal/bytealg.CountString", "internal/bytealg.IndexByteString", "internal/bytealg.IndexString"], unfollowed := true, recurses := true, named := ["parley/api.ErrTable", "unicode/utf8.first", "unicode/utf8.acceptRanges", "internal/bytealg.MaxLen", "parley/api.ErrLong", "parley/api.ErrEnd", "parley/api.ErrGone", "parley/api.ErrIndex", "parley/api.ErrList", "parley/api.ErrHuff"], plainKeys := false, apart := false, laid := [("unicode/utf8.acceptRanges", laid_unicode_utf8_acceptRanges), ("parley/api.ErrEnd", laid_parley_api_ErrEnd), ("parley/api.ErrLong", laid_parley_api_ErrLong), ("parley/api.ErrHuff", laid_parley_api_ErrHuff), ("parley/api.ErrIndex", laid_parley_api_ErrIndex), ("parley/api.ErrTable", laid_parley_api_ErrTable), ("parley/api.ErrList", laid_parley_api_ErrList), ("parley/api.ErrGone", laid_parley_api_ErrGone), ("unicode/utf8.first", laid_unicode_utf8_first)], narrowed := true }
def HpackEncodesUptoSaid : Prop := hpackEncodesUptoRow.holds Tryd.pinned (OpenSpec.upto hpackEncodesSpec)

/-- 'parleylaw4.HpackBack', WHERE WHAT IT READS IS OF BULK AT MOST 1048576: true; the input reads as it did. -/
def hpackBackUptoRow : OpenClaim := { program := "ytflmgjidnclegaadoor", sum := "afdfdffb39b591a6c55ae1bd50ee3b8e6255c0aab1ba4409bd8a409f7beef2d1", func := "parley/parleylaw4.HpackBack", spec := "hpackBack", inPlace := ["internal/bytealg.CountString", "internal/bytealg.IndexByteString", "internal/bytealg.IndexString"], unfollowed := true, recurses := true, named := ["parley/api.ErrTable", "unicode/utf8.first", "unicode/utf8.acceptRanges", "internal/bytealg.MaxLen", "parley/api.ErrLong", "parley/api.ErrEnd", "parley/api.ErrGone", "parley/api.ErrIndex", "parley/api.ErrList", "parley/api.ErrHuff"], plainKeys := false, apart := false, laid := [("unicode/utf8.acceptRanges", laid_unicode_utf8_acceptRanges), ("parley/api.ErrEnd", laid_parley_api_ErrEnd), ("parley/api.ErrLong", laid_parley_api_ErrLong), ("parley/api.ErrHuff", laid_parley_api_ErrHuff), ("parley/api.ErrIndex", laid_parley_api_ErrIndex), ("parley/api.ErrTable", laid_parley_api_ErrTable), ("parley/api.ErrList", laid_parley_api_ErrList), ("parley/api.ErrGone", laid_parley_api_ErrGone), ("unicode/utf8.first", laid_unicode_utf8_first)], narrowed := true }
def HpackBackUptoSaid : Prop := hpackBackUptoRow.holds Tryd.pinned (OpenSpec.upto hpackBackSpec)

end Rows
end Go.Proofs.YtflmgjidnclegaaDoor
