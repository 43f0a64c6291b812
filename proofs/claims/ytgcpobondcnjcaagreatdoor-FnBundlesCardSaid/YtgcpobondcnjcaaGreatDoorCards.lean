/-
  DERIVED. GIVEN WITH THE SEED: THE CARDS: each row of YtgcpobondcnjcaaGreatDoorRows.lean that lists a variable, with what it lists TIED to the program's text (the seventh form; the later family's looks); each row that meets fmt, with fmt's text TOLD by the authors' own Lean function (tested against real Go, not proved from fmt's source: count such statements apart). THE CARD IS WHAT COUNTS. Prove the row's statement (the work); the ties are given (YtgcpobondcnjcaaGreatDoorTie.lean); close each card by the builder's one call (the guide's Derived/Test/ToyasCard.lean, 'card_holds'). Laid BY PROGRAM, IN A SANDBOX (cutbox-door.mjs). By AI agents, Wed Nov 11 2026. No macro, syntax, notation, axiom, sorry.
-/
import Derived.Test.YtgcpobondcnjcaaGreatDoorRows
import GoSem.ClaimSeven
namespace Go.Proofs.YtgcpobondcnjcaaGreatDoor
namespace Rows

/-- THE TIED CARD OF 'laws.FnBundles'. -/
def fnBundlesCard : Claim7 := { stood := { row := fnBundlesRow, standIns := [], harness := (true, "290728a9709397f758835f3dafbdb971bb7031eb07758725f406cf26fde1e618"), looks := false }, kinds := [], alts := [], laidByText := true, laidKinds := [.data, .data, .data], laidTests := true, laidLooks := .later }
def FnBundlesCardSaid : Prop := Claim7.holds Tryz.pinned (.plain (OpenSpec.ofChange fnBundlesSpec)) fnBundlesCard

/-- THE SECOND FORM's CARD OF 'laws.FnBundles'. -/
def fnBundlesUptoCard : Claim7 := { stood := { row := fnBundlesUptoRow, standIns := [], harness := (true, "290728a9709397f758835f3dafbdb971bb7031eb07758725f406cf26fde1e618"), looks := false }, kinds := [], alts := [], laidByText := true, laidKinds := [.data, .data, .data], laidTests := true, laidLooks := .later }
def FnBundlesUptoCardSaid : Prop := Claim7.holds Tryz.pinned (.plain (OpenSpec.upto fnBundlesSpec)) fnBundlesUptoCard
end Rows
end Go.Proofs.YtgcpobondcnjcaaGreatDoor
