/-
  DERIVED. GIVEN WITH THE SEED: THE CARDS: each row of YtnmcjdiihebagaaDoorRows.lean that lists a variable, with what it lists TIED to the program's text (the seventh form; the later family's looks); each row that meets fmt, with fmt's text TOLD by the authors' own Lean function (tested against real Go, not proved from fmt's source: count such statements apart). THE CARD IS WHAT COUNTS. Prove the row's statement (the work); the ties are given (YtnmcjdiihebagaaDoorTie.lean); close each card by the builder's one call (the guide's Derived/Test/ToyasCard.lean, 'card_holds'). Laid BY PROGRAM, IN A SANDBOX (cutbox-door.mjs). By AI agents, Wed Nov 11 2026. No macro, syntax, notation, axiom, sorry.
-/
import Derived.Test.YtnmcjdiihebagaaDoorRows
import GoSem.ClaimSeven
namespace Go.Proofs.YtnmcjdiihebagaaDoor
namespace Rows

/-- THE TIED CARD OF 'parleylaw17.PolicyWaits'. -/
def policyWaitsCard : Claim7 := { stood := { row := policyWaitsRow, standIns := [], harness := (true, "100fd383cb010a7fc3062a68028fd674002deaf4e60e99ffa6010b89e8179876"), looks := false }, kinds := [], alts := [], laidByText := true, laidKinds := [.sentinel], laidTests := true, laidLooks := .later }
def PolicyWaitsCardSaid : Prop := Claim7.holds Tryd.pinned (.plain (OpenSpec.ofChange policyWaitsSpec)) policyWaitsCard

/-- THE TIED CARD OF 'parleylaw17.PolicyBound'. -/
def policyBoundCard : Claim7 := { stood := { row := policyBoundRow, standIns := [], harness := (true, "100fd383cb010a7fc3062a68028fd674002deaf4e60e99ffa6010b89e8179876"), looks := false }, kinds := [], alts := [], laidByText := true, laidKinds := [.sentinel], laidTests := true, laidLooks := .later }
def PolicyBoundCardSaid : Prop := Claim7.holds Tryd.pinned (.plain (OpenSpec.ofChange policyBoundSpec)) policyBoundCard

/-- THE TIED CARD OF 'parleylaw17.PolicyThrottle'. -/
def policyThrottleCard : Claim7 := { stood := { row := policyThrottleRow, standIns := [], harness := (true, "100fd383cb010a7fc3062a68028fd674002deaf4e60e99ffa6010b89e8179876"), looks := false }, kinds := [], alts := [], laidByText := true, laidKinds := [.sentinel], laidTests := true, laidLooks := .later }
def PolicyThrottleCardSaid : Prop := Claim7.holds Tryd.pinned (.plain (OpenSpec.ofChange policyThrottleSpec)) policyThrottleCard

/-- THE TIED CARD OF 'parleylaw25.HedgeTicks'. -/
def hedgeTicksCard : Claim7 := { stood := { row := hedgeTicksRow, standIns := [], harness := (true, "100fd383cb010a7fc3062a68028fd674002deaf4e60e99ffa6010b89e8179876"), looks := false }, kinds := [], alts := [], laidByText := true, laidKinds := [.sentinel], laidTests := true, laidLooks := .later }
def HedgeTicksCardSaid : Prop := Claim7.holds Tryd.pinned (.plain (OpenSpec.ofChange hedgeTicksSpec)) hedgeTicksCard

/-- THE TIED CARD OF 'parleylaw25.HedgeShut'. -/
def hedgeShutCard : Claim7 := { stood := { row := hedgeShutRow, standIns := [], harness := (true, "100fd383cb010a7fc3062a68028fd674002deaf4e60e99ffa6010b89e8179876"), looks := false }, kinds := [], alts := [], laidByText := true, laidKinds := [.sentinel], laidTests := true, laidLooks := .later }
def HedgeShutCardSaid : Prop := Claim7.holds Tryd.pinned (.plain (OpenSpec.ofChange hedgeShutSpec)) hedgeShutCard

/-- THE TIED CARD OF 'parleylaw25.HedgeOnce'. -/
def hedgeOnceCard : Claim7 := { stood := { row := hedgeOnceRow, standIns := [], harness := (true, "100fd383cb010a7fc3062a68028fd674002deaf4e60e99ffa6010b89e8179876"), looks := false }, kinds := [], alts := [], laidByText := true, laidKinds := [.sentinel], laidTests := true, laidLooks := .later }
def HedgeOnceCardSaid : Prop := Claim7.holds Tryd.pinned (.plain (OpenSpec.ofChange hedgeOnceSpec)) hedgeOnceCard

/-- THE SECOND FORM's CARD OF 'parleylaw17.PolicyWaits'. -/
def policyWaitsUptoCard : Claim7 := { stood := { row := policyWaitsUptoRow, standIns := [], harness := (true, "100fd383cb010a7fc3062a68028fd674002deaf4e60e99ffa6010b89e8179876"), looks := false }, kinds := [], alts := [], laidByText := true, laidKinds := [.sentinel], laidTests := true, laidLooks := .later }
def PolicyWaitsUptoCardSaid : Prop := Claim7.holds Tryd.pinned (.plain (OpenSpec.upto policyWaitsSpec)) policyWaitsUptoCard

/-- THE SECOND FORM's CARD OF 'parleylaw17.PolicyBound'. -/
def policyBoundUptoCard : Claim7 := { stood := { row := policyBoundUptoRow, standIns := [], harness := (true, "100fd383cb010a7fc3062a68028fd674002deaf4e60e99ffa6010b89e8179876"), looks := false }, kinds := [], alts := [], laidByText := true, laidKinds := [.sentinel], laidTests := true, laidLooks := .later }
def PolicyBoundUptoCardSaid : Prop := Claim7.holds Tryd.pinned (.plain (OpenSpec.upto policyBoundSpec)) policyBoundUptoCard

/-- THE SECOND FORM's CARD OF 'parleylaw17.PolicyThrottle'. -/
def policyThrottleUptoCard : Claim7 := { stood := { row := policyThrottleUptoRow, standIns := [], harness := (true, "100fd383cb010a7fc3062a68028fd674002deaf4e60e99ffa6010b89e8179876"), looks := false }, kinds := [], alts := [], laidByText := true, laidKinds := [.sentinel], laidTests := true, laidLooks := .later }
def PolicyThrottleUptoCardSaid : Prop := Claim7.holds Tryd.pinned (.plain (OpenSpec.upto policyThrottleSpec)) policyThrottleUptoCard

/-- THE SECOND FORM's CARD OF 'parleylaw25.HedgeTicks'. -/
def hedgeTicksUptoCard : Claim7 := { stood := { row := hedgeTicksUptoRow, standIns := [], harness := (true, "100fd383cb010a7fc3062a68028fd674002deaf4e60e99ffa6010b89e8179876"), looks := false }, kinds := [], alts := [], laidByText := true, laidKinds := [.sentinel], laidTests := true, laidLooks := .later }
def HedgeTicksUptoCardSaid : Prop := Claim7.holds Tryd.pinned (.plain (OpenSpec.upto hedgeTicksSpec)) hedgeTicksUptoCard

/-- THE SECOND FORM's CARD OF 'parleylaw25.HedgeShut'. -/
def hedgeShutUptoCard : Claim7 := { stood := { row := hedgeShutUptoRow, standIns := [], harness := (true, "100fd383cb010a7fc3062a68028fd674002deaf4e60e99ffa6010b89e8179876"), looks := false }, kinds := [], alts := [], laidByText := true, laidKinds := [.sentinel], laidTests := true, laidLooks := .later }
def HedgeShutUptoCardSaid : Prop := Claim7.holds Tryd.pinned (.plain (OpenSpec.upto hedgeShutSpec)) hedgeShutUptoCard

/-- THE SECOND FORM's CARD OF 'parleylaw25.HedgeOnce'. -/
def hedgeOnceUptoCard : Claim7 := { stood := { row := hedgeOnceUptoRow, standIns := [], harness := (true, "100fd383cb010a7fc3062a68028fd674002deaf4e60e99ffa6010b89e8179876"), looks := false }, kinds := [], alts := [], laidByText := true, laidKinds := [.sentinel], laidTests := true, laidLooks := .later }
def HedgeOnceUptoCardSaid : Prop := Claim7.holds Tryd.pinned (.plain (OpenSpec.upto hedgeOnceSpec)) hedgeOnceUptoCard
end Rows
end Go.Proofs.YtnmcjdiihebagaaDoor
