/-
  DERIVED. GIVEN WITH THE SEED: THE CARDS: each row of YtjdijimmbggigaaDoorRows.lean that lists a variable, with what it lists TIED to the program's text (the seventh form; the later family's looks); each row that meets fmt, with fmt's text TOLD by the authors' own Lean function (tested against real Go, not proved from fmt's source: count such statements apart). THE CARD IS WHAT COUNTS. Prove the row's statement (the work); the ties are given (YtjdijimmbggigaaDoorTie.lean); close each card by the builder's one call (the guide's Derived/Test/ToyasCard.lean, 'card_holds'). Laid BY PROGRAM, IN A SANDBOX (cutbox-door.mjs). By AI agents, Wed Nov 11 2026. No macro, syntax, notation, axiom, sorry.
-/
import Derived.Test.YtjdijimmbggigaaDoorRows
import GoSem.ClaimSeven
namespace Go.Proofs.YtjdijimmbggigaaDoor
namespace Rows

/-- THE TIED CARD OF 'laws.FnExactBunchText'. -/
def fnExactBunchTextCard : Claim7 := { stood := { row := fnExactBunchTextRow, standIns := [], harness := (true, "69e0081ea731f196d87a18c621da98f2ef23bda43011647804000aa3534ab22d"), looks := false }, kinds := [], alts := [], laidByText := true, laidKinds := [.data, .data, .data], laidTests := true, laidLooks := .later }
def FnExactBunchTextCardSaid : Prop := Claim7.holds Tryd.pinned (.plain (OpenSpec.ofChange fnExactBunchTextSpec)) fnExactBunchTextCard

/-- THE SECOND FORM's CARD OF 'laws.FnExactBunchText'. -/
def fnExactBunchTextUptoCard : Claim7 := { stood := { row := fnExactBunchTextUptoRow, standIns := [], harness := (true, "69e0081ea731f196d87a18c621da98f2ef23bda43011647804000aa3534ab22d"), looks := false }, kinds := [], alts := [], laidByText := true, laidKinds := [.data, .data, .data], laidTests := true, laidLooks := .later }
def FnExactBunchTextUptoCardSaid : Prop := Claim7.holds Tryd.pinned (.plain (OpenSpec.upto fnExactBunchTextSpec)) fnExactBunchTextUptoCard
end Rows
end Go.Proofs.YtjdijimmbggigaaDoor
