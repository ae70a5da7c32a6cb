/-
  DERIVED. GIVEN WITH THE SEED: THE CARDS: each row of YtolifmpjbmekdaaDoorRows.lean that lists a variable, with what it lists TIED to the program's text (the seventh form; the later family's looks); each row that meets fmt, with fmt's text TOLD by the authors' own Lean function (tested against real Go, not proved from fmt's source: count such statements apart). THE CARD IS WHAT COUNTS. Prove the row's statement (the work); the ties are given (YtolifmpjbmekdaaDoorTie.lean); close each card by the builder's one call (the guide's Derived/Test/ToyasCard.lean, 'card_holds'). Laid BY PROGRAM, IN A SANDBOX (cutbox-door.mjs). By AI agents, Wed Nov 11 2026. No macro, syntax, notation, axiom, sorry.
-/
import Derived.Test.YtolifmpjbmekdaaDoorRows
import GoSem.ClaimSeven
namespace Go.Proofs.YtolifmpjbmekdaaDoor
namespace Rows

/-- THE TIED CARD OF 'keywaylaw08.PagerBlank'. -/
def pagerBlankCard : Claim7 := { stood := { row := pagerBlankRow, standIns := [], harness := (true, "f331ab3dc81688df84f9d0728d38256e2e4c1eb43bdd7ba8ecf2bb409497eb69"), looks := false }, kinds := [], alts := [], laidByText := true, laidKinds := [.data], laidTests := true, laidLooks := .later }
def PagerBlankCardSaid : Prop := Claim7.holds Tryd.pinned (.plain (OpenSpec.ofChange pagerBlankSpec)) pagerBlankCard

/-- THE TIED CARD OF 'keywaylaw08.PagerCuts'. -/
def pagerCutsCard : Claim7 := { stood := { row := pagerCutsRow, standIns := [], harness := (true, "f331ab3dc81688df84f9d0728d38256e2e4c1eb43bdd7ba8ecf2bb409497eb69"), looks := false }, kinds := [], alts := [], laidByText := true, laidKinds := [.data], laidTests := true, laidLooks := .later }
def PagerCutsCardSaid : Prop := Claim7.holds Tryd.pinned (.plain (OpenSpec.ofChange pagerCutsSpec)) pagerCutsCard

/-- THE TIED CARD OF 'keywaylaw08.PagerPlays'. -/
def pagerPlaysCard : Claim7 := { stood := { row := pagerPlaysRow, standIns := [], harness := (true, "f331ab3dc81688df84f9d0728d38256e2e4c1eb43bdd7ba8ecf2bb409497eb69"), looks := false }, kinds := [], alts := [], laidByText := true, laidKinds := [.data], laidTests := true, laidLooks := .later }
def PagerPlaysCardSaid : Prop := Claim7.holds Tryd.pinned (.plain (OpenSpec.ofChange pagerPlaysSpec)) pagerPlaysCard

/-- THE TIED CARD OF 'keywaylaw08.PagerNone'. -/
def pagerNoneCard : Claim7 := { stood := { row := pagerNoneRow, standIns := [], harness := (true, "f331ab3dc81688df84f9d0728d38256e2e4c1eb43bdd7ba8ecf2bb409497eb69"), looks := false }, kinds := [], alts := [], laidByText := true, laidKinds := [.data], laidTests := true, laidLooks := .later }
def PagerNoneCardSaid : Prop := Claim7.holds Tryd.pinned (.plain (OpenSpec.ofChange pagerNoneSpec)) pagerNoneCard

/-- THE SECOND FORM's CARD OF 'keywaylaw08.PagerBlank'. -/
def pagerBlankUptoCard : Claim7 := { stood := { row := pagerBlankUptoRow, standIns := [], harness := (true, "f331ab3dc81688df84f9d0728d38256e2e4c1eb43bdd7ba8ecf2bb409497eb69"), looks := false }, kinds := [], alts := [], laidByText := true, laidKinds := [.data], laidTests := true, laidLooks := .later }
def PagerBlankUptoCardSaid : Prop := Claim7.holds Tryd.pinned (.plain (OpenSpec.upto pagerBlankSpec)) pagerBlankUptoCard

/-- THE SECOND FORM's CARD OF 'keywaylaw08.PagerCuts'. -/
def pagerCutsUptoCard : Claim7 := { stood := { row := pagerCutsUptoRow, standIns := [], harness := (true, "f331ab3dc81688df84f9d0728d38256e2e4c1eb43bdd7ba8ecf2bb409497eb69"), looks := false }, kinds := [], alts := [], laidByText := true, laidKinds := [.data], laidTests := true, laidLooks := .later }
def PagerCutsUptoCardSaid : Prop := Claim7.holds Tryd.pinned (.plain (OpenSpec.upto pagerCutsSpec)) pagerCutsUptoCard

/-- THE SECOND FORM's CARD OF 'keywaylaw08.PagerPlays'. -/
def pagerPlaysUptoCard : Claim7 := { stood := { row := pagerPlaysUptoRow, standIns := [], harness := (true, "f331ab3dc81688df84f9d0728d38256e2e4c1eb43bdd7ba8ecf2bb409497eb69"), looks := false }, kinds := [], alts := [], laidByText := true, laidKinds := [.data], laidTests := true, laidLooks := .later }
def PagerPlaysUptoCardSaid : Prop := Claim7.holds Tryd.pinned (.plain (OpenSpec.upto pagerPlaysSpec)) pagerPlaysUptoCard

/-- THE SECOND FORM's CARD OF 'keywaylaw08.PagerNone'. -/
def pagerNoneUptoCard : Claim7 := { stood := { row := pagerNoneUptoRow, standIns := [], harness := (true, "f331ab3dc81688df84f9d0728d38256e2e4c1eb43bdd7ba8ecf2bb409497eb69"), looks := false }, kinds := [], alts := [], laidByText := true, laidKinds := [.data], laidTests := true, laidLooks := .later }
def PagerNoneUptoCardSaid : Prop := Claim7.holds Tryd.pinned (.plain (OpenSpec.upto pagerNoneSpec)) pagerNoneUptoCard
end Rows
end Go.Proofs.YtolifmpjbmekdaaDoor
