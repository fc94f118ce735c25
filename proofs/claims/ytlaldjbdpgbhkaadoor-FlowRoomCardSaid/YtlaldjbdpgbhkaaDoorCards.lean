/-
  DERIVED. GIVEN WITH THE SEED: THE CARDS: each row of YtlaldjbdpgbhkaaDoorRows.lean that lists a variable, with what it lists TIED to the program's text (the seventh form; the later family's looks); each row that meets fmt, with fmt's text TOLD by the authors' own Lean function (tested against real Go, not proved from fmt's source: count such statements apart). THE CARD IS WHAT COUNTS. Prove the row's statement (the work); the ties are given (YtlaldjbdpgbhkaaDoorTie.lean); close each card by the builder's one call (the guide's Derived/Test/ToyasCard.lean, 'card_holds'). Laid BY PROGRAM, IN A SANDBOX (cutbox-door.mjs). By AI agents, Wed Nov 11 2026. No macro, syntax, notation, axiom, sorry.
-/
import Derived.Test.YtlaldjbdpgbhkaaDoorRows
import GoSem.ClaimSeven
namespace Go.Proofs.YtlaldjbdpgbhkaaDoor
namespace Rows

/-- THE TIED CARD OF 'parleylaw7.FlowSum'. -/
def flowSumCard : Claim7 := { stood := { row := flowSumRow, standIns := [], harness := (true, "ade0654818295f22a2811447fa90d63e28fb977ad5f16e015383109dcc7eb8a8"), looks := false }, kinds := [], alts := [], laidByText := true, laidKinds := [.sentinel, .sentinel], laidTests := true, laidLooks := .later }
def FlowSumCardSaid : Prop := Claim7.holds Tryd.pinned (.plain (OpenSpec.ofChange flowSumSpec)) flowSumCard

/-- THE TIED CARD OF 'parleylaw7.FlowRoom'. -/
def flowRoomCard : Claim7 := { stood := { row := flowRoomRow, standIns := [], harness := (true, "ade0654818295f22a2811447fa90d63e28fb977ad5f16e015383109dcc7eb8a8"), looks := false }, kinds := [], alts := [], laidByText := true, laidKinds := [.sentinel, .sentinel], laidTests := true, laidLooks := .later }
def FlowRoomCardSaid : Prop := Claim7.holds Tryd.pinned (.plain (OpenSpec.ofChange flowRoomSpec)) flowRoomCard

/-- THE SECOND FORM's CARD OF 'parleylaw7.FlowSum'. -/
def flowSumUptoCard : Claim7 := { stood := { row := flowSumUptoRow, standIns := [], harness := (true, "ade0654818295f22a2811447fa90d63e28fb977ad5f16e015383109dcc7eb8a8"), looks := false }, kinds := [], alts := [], laidByText := true, laidKinds := [.sentinel, .sentinel], laidTests := true, laidLooks := .later }
def FlowSumUptoCardSaid : Prop := Claim7.holds Tryd.pinned (.plain (OpenSpec.upto flowSumSpec)) flowSumUptoCard

/-- THE SECOND FORM's CARD OF 'parleylaw7.FlowRoom'. -/
def flowRoomUptoCard : Claim7 := { stood := { row := flowRoomUptoRow, standIns := [], harness := (true, "ade0654818295f22a2811447fa90d63e28fb977ad5f16e015383109dcc7eb8a8"), looks := false }, kinds := [], alts := [], laidByText := true, laidKinds := [.sentinel, .sentinel], laidTests := true, laidLooks := .later }
def FlowRoomUptoCardSaid : Prop := Claim7.holds Tryd.pinned (.plain (OpenSpec.upto flowRoomSpec)) flowRoomUptoCard
end Rows
end Go.Proofs.YtlaldjbdpgbhkaaDoor
