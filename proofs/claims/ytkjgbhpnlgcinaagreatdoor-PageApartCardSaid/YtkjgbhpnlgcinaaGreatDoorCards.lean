/-
  DERIVED. GIVEN WITH THE SEED: THE CARDS: each row of YtkjgbhpnlgcinaaGreatDoorRows.lean that lists a variable, with what it lists TIED to the program's text (the seventh form; the later family's looks); each row that meets fmt, with fmt's text TOLD by the authors' own Lean function (tested against real Go, not proved from fmt's source: count such statements apart). THE CARD IS WHAT COUNTS. Prove the row's statement (the work); the ties are given (YtkjgbhpnlgcinaaGreatDoorTie.lean); close each card by the builder's one call (the guide's Derived/Test/ToyasCard.lean, 'card_holds'). Laid BY PROGRAM, IN A SANDBOX (cutbox-door.mjs). By AI agents, Wed Nov 11 2026. No macro, syntax, notation, axiom, sorry.
-/
import Derived.Test.YtkjgbhpnlgcinaaGreatDoorRows
import GoSem.ClaimSeven
namespace Go.Proofs.YtkjgbhpnlgcinaaGreatDoor
namespace Rows

/-- THE TIED CARD OF 'ciboriumlaw09.PageAll'. -/
def pageAllCard : Claim7 := { stood := { row := pageAllRow, standIns := [], harness := (true, "b1a6e613866fb9adeabd7296ca71875583f08d0b72324f988e16f0a48ce0559f"), looks := false }, kinds := [], alts := [], laidByText := true, laidKinds := [.data], laidTests := true, laidLooks := .later }
def PageAllCardSaid : Prop := Claim7.holds Tryz.pinned (.plain (OpenSpec.ofChange pageAllSpec)) pageAllCard

/-- THE TIED CARD OF 'ciboriumlaw09.PageApart'. -/
def pageApartCard : Claim7 := { stood := { row := pageApartRow, standIns := [], harness := (true, "b1a6e613866fb9adeabd7296ca71875583f08d0b72324f988e16f0a48ce0559f"), looks := false }, kinds := [], alts := [], laidByText := true, laidKinds := [.data], laidTests := true, laidLooks := .later }
def PageApartCardSaid : Prop := Claim7.holds Tryz.pinned (.plain (OpenSpec.ofChange pageApartSpec)) pageApartCard

/-- THE TIED CARD OF 'ciboriumlaw09.PageNil'. -/
def pageNilCard : Claim7 := { stood := { row := pageNilRow, standIns := [], harness := (true, "b1a6e613866fb9adeabd7296ca71875583f08d0b72324f988e16f0a48ce0559f"), looks := false }, kinds := [], alts := [], laidByText := true, laidKinds := [.data], laidTests := true, laidLooks := .later }
def PageNilCardSaid : Prop := Claim7.holds Tryz.pinned (.plain (OpenSpec.ofChange pageNilSpec)) pageNilCard

/-- THE TIED CARD OF 'ciboriumlaw09.PageLasts'. -/
def pageLastsCard : Claim7 := { stood := { row := pageLastsRow, standIns := [], harness := (true, "b1a6e613866fb9adeabd7296ca71875583f08d0b72324f988e16f0a48ce0559f"), looks := false }, kinds := [], alts := [], laidByText := true, laidKinds := [.data], laidTests := true, laidLooks := .later }
def PageLastsCardSaid : Prop := Claim7.holds Tryz.pinned (.plain (OpenSpec.ofChange pageLastsSpec)) pageLastsCard

/-- THE TIED CARD OF 'ciboriumlaw09.PageOpens'. -/
def pageOpensCard : Claim7 := { stood := { row := pageOpensRow, standIns := [], harness := (true, "b1a6e613866fb9adeabd7296ca71875583f08d0b72324f988e16f0a48ce0559f"), looks := false }, kinds := [], alts := [], laidByText := true, laidKinds := [.data], laidTests := true, laidLooks := .later }
def PageOpensCardSaid : Prop := Claim7.holds Tryz.pinned (.plain (OpenSpec.ofChange pageOpensSpec)) pageOpensCard

/-- THE TIED CARD OF 'ciboriumlaw09.PagePlays'. -/
def pagePlaysCard : Claim7 := { stood := { row := pagePlaysRow, standIns := [], harness := (true, "b1a6e613866fb9adeabd7296ca71875583f08d0b72324f988e16f0a48ce0559f"), looks := false }, kinds := [], alts := [], laidByText := true, laidKinds := [.data], laidTests := true, laidLooks := .later }
def PagePlaysCardSaid : Prop := Claim7.holds Tryz.pinned (.plain (OpenSpec.ofChange pagePlaysSpec)) pagePlaysCard

/-- THE SECOND FORM's CARD OF 'ciboriumlaw09.PageAll'. -/
def pageAllUptoCard : Claim7 := { stood := { row := pageAllUptoRow, standIns := [], harness := (true, "b1a6e613866fb9adeabd7296ca71875583f08d0b72324f988e16f0a48ce0559f"), looks := false }, kinds := [], alts := [], laidByText := true, laidKinds := [.data], laidTests := true, laidLooks := .later }
def PageAllUptoCardSaid : Prop := Claim7.holds Tryz.pinned (.plain (OpenSpec.upto pageAllSpec)) pageAllUptoCard

/-- THE SECOND FORM's CARD OF 'ciboriumlaw09.PageApart'. -/
def pageApartUptoCard : Claim7 := { stood := { row := pageApartUptoRow, standIns := [], harness := (true, "b1a6e613866fb9adeabd7296ca71875583f08d0b72324f988e16f0a48ce0559f"), looks := false }, kinds := [], alts := [], laidByText := true, laidKinds := [.data], laidTests := true, laidLooks := .later }
def PageApartUptoCardSaid : Prop := Claim7.holds Tryz.pinned (.plain (OpenSpec.upto pageApartSpec)) pageApartUptoCard

/-- THE SECOND FORM's CARD OF 'ciboriumlaw09.PageNil'. -/
def pageNilUptoCard : Claim7 := { stood := { row := pageNilUptoRow, standIns := [], harness := (true, "b1a6e613866fb9adeabd7296ca71875583f08d0b72324f988e16f0a48ce0559f"), looks := false }, kinds := [], alts := [], laidByText := true, laidKinds := [.data], laidTests := true, laidLooks := .later }
def PageNilUptoCardSaid : Prop := Claim7.holds Tryz.pinned (.plain (OpenSpec.upto pageNilSpec)) pageNilUptoCard

/-- THE SECOND FORM's CARD OF 'ciboriumlaw09.PageLasts'. -/
def pageLastsUptoCard : Claim7 := { stood := { row := pageLastsUptoRow, standIns := [], harness := (true, "b1a6e613866fb9adeabd7296ca71875583f08d0b72324f988e16f0a48ce0559f"), looks := false }, kinds := [], alts := [], laidByText := true, laidKinds := [.data], laidTests := true, laidLooks := .later }
def PageLastsUptoCardSaid : Prop := Claim7.holds Tryz.pinned (.plain (OpenSpec.upto pageLastsSpec)) pageLastsUptoCard

/-- THE SECOND FORM's CARD OF 'ciboriumlaw09.PageOpens'. -/
def pageOpensUptoCard : Claim7 := { stood := { row := pageOpensUptoRow, standIns := [], harness := (true, "b1a6e613866fb9adeabd7296ca71875583f08d0b72324f988e16f0a48ce0559f"), looks := false }, kinds := [], alts := [], laidByText := true, laidKinds := [.data], laidTests := true, laidLooks := .later }
def PageOpensUptoCardSaid : Prop := Claim7.holds Tryz.pinned (.plain (OpenSpec.upto pageOpensSpec)) pageOpensUptoCard

/-- THE SECOND FORM's CARD OF 'ciboriumlaw09.PagePlays'. -/
def pagePlaysUptoCard : Claim7 := { stood := { row := pagePlaysUptoRow, standIns := [], harness := (true, "b1a6e613866fb9adeabd7296ca71875583f08d0b72324f988e16f0a48ce0559f"), looks := false }, kinds := [], alts := [], laidByText := true, laidKinds := [.data], laidTests := true, laidLooks := .later }
def PagePlaysUptoCardSaid : Prop := Claim7.holds Tryz.pinned (.plain (OpenSpec.upto pagePlaysSpec)) pagePlaysUptoCard
end Rows
end Go.Proofs.YtkjgbhpnlgcinaaGreatDoor
