/-
  DERIVED. GIVEN WITH THE SEED: THE CARDS: each row of YtflmgjidnclegaaDoorRows.lean that lists a variable, with what it lists TIED to the program's text (the seventh form; the later family's looks); each row that meets fmt, with fmt's text TOLD by the authors' own Lean function (tested against real Go, not proved from fmt's source: count such statements apart). THE CARD IS WHAT COUNTS. Prove the row's statement (the work); the ties are given (YtflmgjidnclegaaDoorTie.lean); close each card by the builder's one call (the guide's Derived/Test/ToyasCard.lean, 'card_holds'). Laid BY PROGRAM, IN A SANDBOX (cutbox-door.mjs). By AI agents, Wed Nov 11 2026. No macro, syntax, notation, axiom, sorry.
-/
import Derived.Test.YtflmgjidnclegaaDoorRows
import GoSem.ClaimSeven
namespace Go.Proofs.YtflmgjidnclegaaDoor
namespace Rows

/-- THE TIED CARD OF 'parleylaw3.TableStatic'. -/
def tableStaticCard : Claim7 := { stood := { row := tableStaticRow, standIns := [], harness := (true, "b3322f3c82bc4fb49afe0cb8329724b2315404ca9f01a2c91ed3014d9f325b0f"), looks := true }, kinds := [], alts := [], laidByText := true, laidKinds := [.data, .sentinel, .pinned], laidTests := true, laidLooks := .later }
def TableStaticCardSaid : Prop := Claim7.holds Tryd.pinned (.plain (OpenSpec.ofChange tableStaticSpec)) tableStaticCard

/-- THE TIED CARD OF 'parleylaw3.TableEmptied'. -/
def tableEmptiedCard : Claim7 := { stood := { row := tableEmptiedRow, standIns := [], harness := (true, "b3322f3c82bc4fb49afe0cb8329724b2315404ca9f01a2c91ed3014d9f325b0f"), looks := true }, kinds := [], alts := [], laidByText := true, laidKinds := [.data, .sentinel, .pinned], laidTests := true, laidLooks := .later }
def TableEmptiedCardSaid : Prop := Claim7.holds Tryd.pinned (.plain (OpenSpec.ofChange tableEmptiedSpec)) tableEmptiedCard

/-- THE TIED CARD OF 'parleylaw3.TablePlays'. -/
def tablePlaysCard : Claim7 := { stood := { row := tablePlaysRow, standIns := [], harness := (true, "b3322f3c82bc4fb49afe0cb8329724b2315404ca9f01a2c91ed3014d9f325b0f"), looks := true }, kinds := [], alts := [], laidByText := true, laidKinds := [.data, .sentinel, .pinned], laidTests := true, laidLooks := .later }
def TablePlaysCardSaid : Prop := Claim7.holds Tryd.pinned (.plain (OpenSpec.ofChange tablePlaysSpec)) tablePlaysCard

/-- THE TIED CARD OF 'parleylaw3.TableKeeps'. -/
def tableKeepsCard : Claim7 := { stood := { row := tableKeepsRow, standIns := [], harness := (true, "b3322f3c82bc4fb49afe0cb8329724b2315404ca9f01a2c91ed3014d9f325b0f"), looks := true }, kinds := [], alts := [], laidByText := true, laidKinds := [.data, .sentinel, .pinned], laidTests := true, laidLooks := .later }
def TableKeepsCardSaid : Prop := Claim7.holds Tryd.pinned (.plain (OpenSpec.ofChange tableKeepsSpec)) tableKeepsCard

/-- THE TIED CARD OF 'parleylaw3.TableEach'. -/
def tableEachCard : Claim7 := { stood := { row := tableEachRow, standIns := [], harness := (true, "b3322f3c82bc4fb49afe0cb8329724b2315404ca9f01a2c91ed3014d9f325b0f"), looks := true }, kinds := [], alts := [], laidByText := true, laidKinds := [.data, .sentinel, .pinned], laidTests := true, laidLooks := .later }
def TableEachCardSaid : Prop := Claim7.holds Tryd.pinned (.plain (OpenSpec.ofChange tableEachSpec)) tableEachCard

/-- THE TIED CARD OF 'parleylaw4.HpackNever'. -/
def hpackNeverCard : Claim7 := { stood := { row := hpackNeverRow, standIns := [], harness := (true, "b3322f3c82bc4fb49afe0cb8329724b2315404ca9f01a2c91ed3014d9f325b0f"), looks := true }, kinds := [], alts := [], laidByText := true, laidKinds := [.data, .sentinel, .sentinel, .sentinel, .sentinel, .sentinel, .sentinel, .sentinel, .pinned], laidTests := true, laidLooks := .later }
def HpackNeverCardSaid : Prop := Claim7.holds Tryd.pinned (.plain (OpenSpec.ofChange hpackNeverSpec)) hpackNeverCard

/-- THE TIED CARD OF 'parleylaw4.HpackBound'. -/
def hpackBoundCard : Claim7 := { stood := { row := hpackBoundRow, standIns := [], harness := (true, "b3322f3c82bc4fb49afe0cb8329724b2315404ca9f01a2c91ed3014d9f325b0f"), looks := true }, kinds := [], alts := [], laidByText := true, laidKinds := [.data, .sentinel, .sentinel, .sentinel, .sentinel, .sentinel, .sentinel, .sentinel, .pinned], laidTests := true, laidLooks := .later }
def HpackBoundCardSaid : Prop := Claim7.holds Tryd.pinned (.plain (OpenSpec.ofChange hpackBoundSpec)) hpackBoundCard

/-- THE TIED CARD OF 'parleylaw4.HpackOwn'. -/
def hpackOwnCard : Claim7 := { stood := { row := hpackOwnRow, standIns := [], harness := (true, "b3322f3c82bc4fb49afe0cb8329724b2315404ca9f01a2c91ed3014d9f325b0f"), looks := true }, kinds := [], alts := [], laidByText := true, laidKinds := [.data, .sentinel, .sentinel, .sentinel, .sentinel, .sentinel, .sentinel, .sentinel, .pinned], laidTests := true, laidLooks := .later }
def HpackOwnCardSaid : Prop := Claim7.holds Tryd.pinned (.plain (OpenSpec.ofChange hpackOwnSpec)) hpackOwnCard

/-- THE TIED CARD OF 'parleylaw4.HpackEncodes'. -/
def hpackEncodesCard : Claim7 := { stood := { row := hpackEncodesRow, standIns := [], harness := (true, "b3322f3c82bc4fb49afe0cb8329724b2315404ca9f01a2c91ed3014d9f325b0f"), looks := true }, kinds := [], alts := [], laidByText := true, laidKinds := [.data, .sentinel, .sentinel, .sentinel, .sentinel, .sentinel, .sentinel, .sentinel, .pinned], laidTests := true, laidLooks := .later }
def HpackEncodesCardSaid : Prop := Claim7.holds Tryd.pinned (.plain (OpenSpec.ofChange hpackEncodesSpec)) hpackEncodesCard

/-- THE TIED CARD OF 'parleylaw4.HpackBack'. -/
def hpackBackCard : Claim7 := { stood := { row := hpackBackRow, standIns := [], harness := (true, "b3322f3c82bc4fb49afe0cb8329724b2315404ca9f01a2c91ed3014d9f325b0f"), looks := true }, kinds := [], alts := [], laidByText := true, laidKinds := [.data, .sentinel, .sentinel, .sentinel, .sentinel, .sentinel, .sentinel, .sentinel, .pinned], laidTests := true, laidLooks := .later }
def HpackBackCardSaid : Prop := Claim7.holds Tryd.pinned (.plain (OpenSpec.ofChange hpackBackSpec)) hpackBackCard

/-- THE SECOND FORM's CARD OF 'parleylaw3.TableStatic'. -/
def tableStaticUptoCard : Claim7 := { stood := { row := tableStaticUptoRow, standIns := [], harness := (true, "b3322f3c82bc4fb49afe0cb8329724b2315404ca9f01a2c91ed3014d9f325b0f"), looks := true }, kinds := [], alts := [], laidByText := true, laidKinds := [.data, .sentinel, .pinned], laidTests := true, laidLooks := .later }
def TableStaticUptoCardSaid : Prop := Claim7.holds Tryd.pinned (.plain (OpenSpec.upto tableStaticSpec)) tableStaticUptoCard

/-- THE SECOND FORM's CARD OF 'parleylaw3.TableEmptied'. -/
def tableEmptiedUptoCard : Claim7 := { stood := { row := tableEmptiedUptoRow, standIns := [], harness := (true, "b3322f3c82bc4fb49afe0cb8329724b2315404ca9f01a2c91ed3014d9f325b0f"), looks := true }, kinds := [], alts := [], laidByText := true, laidKinds := [.data, .sentinel, .pinned], laidTests := true, laidLooks := .later }
def TableEmptiedUptoCardSaid : Prop := Claim7.holds Tryd.pinned (.plain (OpenSpec.upto tableEmptiedSpec)) tableEmptiedUptoCard

/-- THE SECOND FORM's CARD OF 'parleylaw3.TablePlays'. -/
def tablePlaysUptoCard : Claim7 := { stood := { row := tablePlaysUptoRow, standIns := [], harness := (true, "b3322f3c82bc4fb49afe0cb8329724b2315404ca9f01a2c91ed3014d9f325b0f"), looks := true }, kinds := [], alts := [], laidByText := true, laidKinds := [.data, .sentinel, .pinned], laidTests := true, laidLooks := .later }
def TablePlaysUptoCardSaid : Prop := Claim7.holds Tryd.pinned (.plain (OpenSpec.upto tablePlaysSpec)) tablePlaysUptoCard

/-- THE SECOND FORM's CARD OF 'parleylaw3.TableKeeps'. -/
def tableKeepsUptoCard : Claim7 := { stood := { row := tableKeepsUptoRow, standIns := [], harness := (true, "b3322f3c82bc4fb49afe0cb8329724b2315404ca9f01a2c91ed3014d9f325b0f"), looks := true }, kinds := [], alts := [], laidByText := true, laidKinds := [.data, .sentinel, .pinned], laidTests := true, laidLooks := .later }
def TableKeepsUptoCardSaid : Prop := Claim7.holds Tryd.pinned (.plain (OpenSpec.upto tableKeepsSpec)) tableKeepsUptoCard

/-- THE SECOND FORM's CARD OF 'parleylaw3.TableEach'. -/
def tableEachUptoCard : Claim7 := { stood := { row := tableEachUptoRow, standIns := [], harness := (true, "b3322f3c82bc4fb49afe0cb8329724b2315404ca9f01a2c91ed3014d9f325b0f"), looks := true }, kinds := [], alts := [], laidByText := true, laidKinds := [.data, .sentinel, .pinned], laidTests := true, laidLooks := .later }
def TableEachUptoCardSaid : Prop := Claim7.holds Tryd.pinned (.plain (OpenSpec.upto tableEachSpec)) tableEachUptoCard

/-- THE SECOND FORM's CARD OF 'parleylaw4.HpackNever'. -/
def hpackNeverUptoCard : Claim7 := { stood := { row := hpackNeverUptoRow, standIns := [], harness := (true, "b3322f3c82bc4fb49afe0cb8329724b2315404ca9f01a2c91ed3014d9f325b0f"), looks := true }, kinds := [], alts := [], laidByText := true, laidKinds := [.data, .sentinel, .sentinel, .sentinel, .sentinel, .sentinel, .sentinel, .sentinel, .pinned], laidTests := true, laidLooks := .later }
def HpackNeverUptoCardSaid : Prop := Claim7.holds Tryd.pinned (.plain (OpenSpec.upto hpackNeverSpec)) hpackNeverUptoCard

/-- THE SECOND FORM's CARD OF 'parleylaw4.HpackBound'. -/
def hpackBoundUptoCard : Claim7 := { stood := { row := hpackBoundUptoRow, standIns := [], harness := (true, "b3322f3c82bc4fb49afe0cb8329724b2315404ca9f01a2c91ed3014d9f325b0f"), looks := true }, kinds := [], alts := [], laidByText := true, laidKinds := [.data, .sentinel, .sentinel, .sentinel, .sentinel, .sentinel, .sentinel, .sentinel, .pinned], laidTests := true, laidLooks := .later }
def HpackBoundUptoCardSaid : Prop := Claim7.holds Tryd.pinned (.plain (OpenSpec.upto hpackBoundSpec)) hpackBoundUptoCard

/-- THE SECOND FORM's CARD OF 'parleylaw4.HpackOwn'. -/
def hpackOwnUptoCard : Claim7 := { stood := { row := hpackOwnUptoRow, standIns := [], harness := (true, "b3322f3c82bc4fb49afe0cb8329724b2315404ca9f01a2c91ed3014d9f325b0f"), looks := true }, kinds := [], alts := [], laidByText := true, laidKinds := [.data, .sentinel, .sentinel, .sentinel, .sentinel, .sentinel, .sentinel, .sentinel, .pinned], laidTests := true, laidLooks := .later }
def HpackOwnUptoCardSaid : Prop := Claim7.holds Tryd.pinned (.plain (OpenSpec.upto hpackOwnSpec)) hpackOwnUptoCard

/-- THE SECOND FORM's CARD OF 'parleylaw4.HpackEncodes'. -/
def hpackEncodesUptoCard : Claim7 := { stood := { row := hpackEncodesUptoRow, standIns := [], harness := (true, "b3322f3c82bc4fb49afe0cb8329724b2315404ca9f01a2c91ed3014d9f325b0f"), looks := true }, kinds := [], alts := [], laidByText := true, laidKinds := [.data, .sentinel, .sentinel, .sentinel, .sentinel, .sentinel, .sentinel, .sentinel, .pinned], laidTests := true, laidLooks := .later }
def HpackEncodesUptoCardSaid : Prop := Claim7.holds Tryd.pinned (.plain (OpenSpec.upto hpackEncodesSpec)) hpackEncodesUptoCard

/-- THE SECOND FORM's CARD OF 'parleylaw4.HpackBack'. -/
def hpackBackUptoCard : Claim7 := { stood := { row := hpackBackUptoRow, standIns := [], harness := (true, "b3322f3c82bc4fb49afe0cb8329724b2315404ca9f01a2c91ed3014d9f325b0f"), looks := true }, kinds := [], alts := [], laidByText := true, laidKinds := [.data, .sentinel, .sentinel, .sentinel, .sentinel, .sentinel, .sentinel, .sentinel, .pinned], laidTests := true, laidLooks := .later }
def HpackBackUptoCardSaid : Prop := Claim7.holds Tryd.pinned (.plain (OpenSpec.upto hpackBackSpec)) hpackBackUptoCard
end Rows
end Go.Proofs.YtflmgjidnclegaaDoor
