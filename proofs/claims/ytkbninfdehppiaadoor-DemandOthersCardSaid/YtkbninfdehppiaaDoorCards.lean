/-
  DERIVED. GIVEN WITH THE SEED: THE CARDS: each row of YtkbninfdehppiaaDoorRows.lean that lists a variable, with what it lists TIED to the program's text (the seventh form; the later family's looks); each row that meets fmt, with fmt's text TOLD by the authors' own Lean function (tested against real Go, not proved from fmt's source: count such statements apart). THE CARD IS WHAT COUNTS. Prove the row's statement (the work); the ties are given (YtkbninfdehppiaaDoorTie.lean); close each card by the builder's one call (the guide's Derived/Test/ToyasCard.lean, 'card_holds'). Laid BY PROGRAM, IN A SANDBOX (cutbox-door.mjs). By AI agents, Wed Nov 11 2026. No macro, syntax, notation, axiom, sorry.
-/
import Derived.Test.YtkbninfdehppiaaDoorRows
import GoSem.ClaimSeven
namespace Go.Proofs.YtkbninfdehppiaaDoor
namespace Rows

/-- THE TIED CARD OF 'bellbuoylaw26.DemandOthers'. -/
def demandOthersCard : Claim7 := { stood := { row := demandOthersRow, standIns := [], harness := (true, "e9d14e56fd2c03e1fa8c22bab19796e502e7eaf8ed5d8bd195408311eddf2b5a"), looks := false }, kinds := [], alts := [], laidByText := true, laidKinds := [.data], laidTests := true, laidLooks := .later }
def DemandOthersCardSaid : Prop := Claim7.holds Tryd.pinned (.plain (OpenSpec.ofChange demandOthersSpec)) demandOthersCard

/-- THE SECOND FORM's CARD OF 'bellbuoylaw26.DemandOthers'. -/
def demandOthersUptoCard : Claim7 := { stood := { row := demandOthersUptoRow, standIns := [], harness := (true, "e9d14e56fd2c03e1fa8c22bab19796e502e7eaf8ed5d8bd195408311eddf2b5a"), looks := false }, kinds := [], alts := [], laidByText := true, laidKinds := [.data], laidTests := true, laidLooks := .later }
def DemandOthersUptoCardSaid : Prop := Claim7.holds Tryd.pinned (.plain (OpenSpec.upto demandOthersSpec)) demandOthersUptoCard
end Rows
end Go.Proofs.YtkbninfdehppiaaDoor
