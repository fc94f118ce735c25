/-
  DERIVED. GIVEN WITH THE SEED: THE CARDS: each row of YtblenefhoidhaaaDoorRows.lean that lists a variable, with what it lists TIED to the program's text (the seventh form; the later family's looks); each row that meets fmt, with fmt's text TOLD by the authors' own Lean function (tested against real Go, not proved from fmt's source: count such statements apart). THE CARD IS WHAT COUNTS. Prove the row's statement (the work); the ties are given (YtblenefhoidhaaaDoorTie.lean); close each card by the builder's one call (the guide's Derived/Test/ToyasCard.lean, 'card_holds'). Laid BY PROGRAM, IN A SANDBOX (cutbox-door.mjs). By AI agents, Wed Nov 11 2026. No macro, syntax, notation, axiom, sorry.
-/
import Derived.Test.YtblenefhoidhaaaDoorRows
import GoSem.ClaimSeven
namespace Go.Proofs.YtblenefhoidhaaaDoor
namespace Rows

/-- THE TIED CARD OF 'parleylaw2.HuffCodes'. -/
def huffCodesCard : Claim7 := { stood := { row := huffCodesRow, standIns := [], harness := (true, "eadf460b26043e555158b89627121fa44a82dfb51e836c0501083e72adf821a5"), looks := false }, kinds := [], alts := [], laidByText := true, laidKinds := [.sentinel], laidTests := true, laidLooks := .later }
def HuffCodesCardSaid : Prop := Claim7.holds Tryd.pinned (.plain (OpenSpec.ofChange huffCodesSpec)) huffCodesCard

/-- THE TIED CARD OF 'parleylaw2.HuffApart'. -/
def huffApartCard : Claim7 := { stood := { row := huffApartRow, standIns := [], harness := (true, "eadf460b26043e555158b89627121fa44a82dfb51e836c0501083e72adf821a5"), looks := false }, kinds := [], alts := [], laidByText := true, laidKinds := [.sentinel], laidTests := true, laidLooks := .later }
def HuffApartCardSaid : Prop := Claim7.holds Tryd.pinned (.plain (OpenSpec.ofChange huffApartSpec)) huffApartCard

/-- THE TIED CARD OF 'parleylaw2.HuffTogether'. -/
def huffTogetherCard : Claim7 := { stood := { row := huffTogetherRow, standIns := [], harness := (true, "eadf460b26043e555158b89627121fa44a82dfb51e836c0501083e72adf821a5"), looks := false }, kinds := [], alts := [], laidByText := true, laidKinds := [.sentinel], laidTests := true, laidLooks := .later }
def HuffTogetherCardSaid : Prop := Claim7.holds Tryd.pinned (.plain (OpenSpec.ofChange huffTogetherSpec)) huffTogetherCard

/-- THE TIED CARD OF 'parleylaw2.HuffEncodes'. -/
def huffEncodesCard : Claim7 := { stood := { row := huffEncodesRow, standIns := [], harness := (true, "eadf460b26043e555158b89627121fa44a82dfb51e836c0501083e72adf821a5"), looks := false }, kinds := [], alts := [], laidByText := true, laidKinds := [.sentinel], laidTests := true, laidLooks := .later }
def HuffEncodesCardSaid : Prop := Claim7.holds Tryd.pinned (.plain (OpenSpec.ofChange huffEncodesSpec)) huffEncodesCard

/-- THE TIED CARD OF 'parleylaw2.HuffBack'. -/
def huffBackCard : Claim7 := { stood := { row := huffBackRow, standIns := [], harness := (true, "eadf460b26043e555158b89627121fa44a82dfb51e836c0501083e72adf821a5"), looks := false }, kinds := [], alts := [], laidByText := true, laidKinds := [.sentinel], laidTests := true, laidLooks := .later }
def HuffBackCardSaid : Prop := Claim7.holds Tryd.pinned (.plain (OpenSpec.ofChange huffBackSpec)) huffBackCard

/-- THE SECOND FORM's CARD OF 'parleylaw2.HuffCodes'. -/
def huffCodesUptoCard : Claim7 := { stood := { row := huffCodesUptoRow, standIns := [], harness := (true, "eadf460b26043e555158b89627121fa44a82dfb51e836c0501083e72adf821a5"), looks := false }, kinds := [], alts := [], laidByText := true, laidKinds := [.sentinel], laidTests := true, laidLooks := .later }
def HuffCodesUptoCardSaid : Prop := Claim7.holds Tryd.pinned (.plain (OpenSpec.upto huffCodesSpec)) huffCodesUptoCard

/-- THE SECOND FORM's CARD OF 'parleylaw2.HuffApart'. -/
def huffApartUptoCard : Claim7 := { stood := { row := huffApartUptoRow, standIns := [], harness := (true, "eadf460b26043e555158b89627121fa44a82dfb51e836c0501083e72adf821a5"), looks := false }, kinds := [], alts := [], laidByText := true, laidKinds := [.sentinel], laidTests := true, laidLooks := .later }
def HuffApartUptoCardSaid : Prop := Claim7.holds Tryd.pinned (.plain (OpenSpec.upto huffApartSpec)) huffApartUptoCard

/-- THE SECOND FORM's CARD OF 'parleylaw2.HuffTogether'. -/
def huffTogetherUptoCard : Claim7 := { stood := { row := huffTogetherUptoRow, standIns := [], harness := (true, "eadf460b26043e555158b89627121fa44a82dfb51e836c0501083e72adf821a5"), looks := false }, kinds := [], alts := [], laidByText := true, laidKinds := [.sentinel], laidTests := true, laidLooks := .later }
def HuffTogetherUptoCardSaid : Prop := Claim7.holds Tryd.pinned (.plain (OpenSpec.upto huffTogetherSpec)) huffTogetherUptoCard

/-- THE SECOND FORM's CARD OF 'parleylaw2.HuffEncodes'. -/
def huffEncodesUptoCard : Claim7 := { stood := { row := huffEncodesUptoRow, standIns := [], harness := (true, "eadf460b26043e555158b89627121fa44a82dfb51e836c0501083e72adf821a5"), looks := false }, kinds := [], alts := [], laidByText := true, laidKinds := [.sentinel], laidTests := true, laidLooks := .later }
def HuffEncodesUptoCardSaid : Prop := Claim7.holds Tryd.pinned (.plain (OpenSpec.upto huffEncodesSpec)) huffEncodesUptoCard

/-- THE SECOND FORM's CARD OF 'parleylaw2.HuffBack'. -/
def huffBackUptoCard : Claim7 := { stood := { row := huffBackUptoRow, standIns := [], harness := (true, "eadf460b26043e555158b89627121fa44a82dfb51e836c0501083e72adf821a5"), looks := false }, kinds := [], alts := [], laidByText := true, laidKinds := [.sentinel], laidTests := true, laidLooks := .later }
def HuffBackUptoCardSaid : Prop := Claim7.holds Tryd.pinned (.plain (OpenSpec.upto huffBackSpec)) huffBackUptoCard
end Rows
end Go.Proofs.YtblenefhoidhaaaDoor
