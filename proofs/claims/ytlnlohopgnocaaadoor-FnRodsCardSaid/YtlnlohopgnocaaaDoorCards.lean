/-
  DERIVED. GIVEN WITH THE SEED: THE CARDS: each row of YtlnlohopgnocaaaDoorRows.lean that lists a variable, with what it lists TIED to the program's text (the seventh form; the later family's looks); each row that meets fmt, with fmt's text TOLD by the authors' own Lean function (tested against real Go, not proved from fmt's source: count such statements apart). THE CARD IS WHAT COUNTS. Prove the row's statement (the work); the ties are given (YtlnlohopgnocaaaDoorTie.lean); close each card by the builder's one call (the guide's Derived/Test/ToyasCard.lean, 'card_holds'). Laid BY PROGRAM, IN A SANDBOX (cutbox-door.mjs). By AI agents, Wed Nov 11 2026. No macro, syntax, notation, axiom, sorry.
-/
import Derived.Test.YtlnlohopgnocaaaDoorRows
import GoSem.ClaimSeven
namespace Go.Proofs.YtlnlohopgnocaaaDoor
namespace Rows

/-- THE TIED CARD OF 'laws.FnExactDecimal'. -/
def fnExactDecimalCard : Claim7 := { stood := { row := fnExactDecimalRow, standIns := [], harness := (true, "c60d3dcce59a28e7dde374244e61c95881ff22deee55608cb490b892b4e61e03"), looks := false }, kinds := [], alts := [], laidByText := true, laidKinds := [.data, .data, .data], laidTests := true, laidLooks := .later }
def FnExactDecimalCardSaid : Prop := Claim7.holds Tryd.pinned (.plain (OpenSpec.ofChange fnExactDecimalSpec)) fnExactDecimalCard

/-- THE TIED CARD OF 'laws.FnExactRodText'. -/
def fnExactRodTextCard : Claim7 := { stood := { row := fnExactRodTextRow, standIns := [], harness := (true, "c60d3dcce59a28e7dde374244e61c95881ff22deee55608cb490b892b4e61e03"), looks := false }, kinds := [], alts := [], laidByText := true, laidKinds := [.data, .data, .data], laidTests := true, laidLooks := .later }
def FnExactRodTextCardSaid : Prop := Claim7.holds Tryd.pinned (.plain (OpenSpec.ofChange fnExactRodTextSpec)) fnExactRodTextCard

/-- THE TIED CARD OF 'laws.FnExactReadDecimal'. -/
def fnExactReadDecimalCard : Claim7 := { stood := { row := fnExactReadDecimalRow, standIns := [], harness := (true, "c60d3dcce59a28e7dde374244e61c95881ff22deee55608cb490b892b4e61e03"), looks := false }, kinds := [], alts := [], laidByText := true, laidKinds := [.data, .data, .data], laidTests := true, laidLooks := .later }
def FnExactReadDecimalCardSaid : Prop := Claim7.holds Tryd.pinned (.plain (OpenSpec.ofChange fnExactReadDecimalSpec)) fnExactReadDecimalCard

/-- THE TIED CARD OF 'laws.FnExactSplitWords'. -/
def fnExactSplitWordsCard : Claim7 := { stood := { row := fnExactSplitWordsRow, standIns := [], harness := (true, "c60d3dcce59a28e7dde374244e61c95881ff22deee55608cb490b892b4e61e03"), looks := false }, kinds := [], alts := [], laidByText := true, laidKinds := [.data, .pinned], laidTests := true, laidLooks := .later }
def FnExactSplitWordsCardSaid : Prop := Claim7.holds Tryd.pinned (.plain (OpenSpec.ofChange fnExactSplitWordsSpec)) fnExactSplitWordsCard

/-- THE TIED CARD OF 'laws.FnExactReadRod'. -/
def fnExactReadRodCard : Claim7 := { stood := { row := fnExactReadRodRow, standIns := [], harness := (true, "c60d3dcce59a28e7dde374244e61c95881ff22deee55608cb490b892b4e61e03"), looks := false }, kinds := [], alts := [], laidByText := true, laidKinds := [.data, .data, .data, .data, .pinned], laidTests := true, laidLooks := .later }
def FnExactReadRodCardSaid : Prop := Claim7.holds Tryd.pinned (.plain (OpenSpec.ofChange fnExactReadRodSpec)) fnExactReadRodCard

/-- THE TIED CARD OF 'laws.FnRods'. -/
def fnRodsCard : Claim7 := { stood := { row := fnRodsRow, standIns := [], harness := (true, "c60d3dcce59a28e7dde374244e61c95881ff22deee55608cb490b892b4e61e03"), looks := false }, kinds := [], alts := [], laidByText := true, laidKinds := [.data, .data, .data, .data, .pinned], laidTests := true, laidLooks := .later }
def FnRodsCardSaid : Prop := Claim7.holds Tryd.pinned (.plain (OpenSpec.ofChange fnRodsSpec)) fnRodsCard

/-- THE SECOND FORM's CARD OF 'laws.FnExactDecimal'. -/
def fnExactDecimalUptoCard : Claim7 := { stood := { row := fnExactDecimalUptoRow, standIns := [], harness := (true, "c60d3dcce59a28e7dde374244e61c95881ff22deee55608cb490b892b4e61e03"), looks := false }, kinds := [], alts := [], laidByText := true, laidKinds := [.data, .data, .data], laidTests := true, laidLooks := .later }
def FnExactDecimalUptoCardSaid : Prop := Claim7.holds Tryd.pinned (.plain (OpenSpec.upto fnExactDecimalSpec)) fnExactDecimalUptoCard

/-- THE SECOND FORM's CARD OF 'laws.FnExactRodText'. -/
def fnExactRodTextUptoCard : Claim7 := { stood := { row := fnExactRodTextUptoRow, standIns := [], harness := (true, "c60d3dcce59a28e7dde374244e61c95881ff22deee55608cb490b892b4e61e03"), looks := false }, kinds := [], alts := [], laidByText := true, laidKinds := [.data, .data, .data], laidTests := true, laidLooks := .later }
def FnExactRodTextUptoCardSaid : Prop := Claim7.holds Tryd.pinned (.plain (OpenSpec.upto fnExactRodTextSpec)) fnExactRodTextUptoCard

/-- THE SECOND FORM's CARD OF 'laws.FnExactReadDecimal'. -/
def fnExactReadDecimalUptoCard : Claim7 := { stood := { row := fnExactReadDecimalUptoRow, standIns := [], harness := (true, "c60d3dcce59a28e7dde374244e61c95881ff22deee55608cb490b892b4e61e03"), looks := false }, kinds := [], alts := [], laidByText := true, laidKinds := [.data, .data, .data], laidTests := true, laidLooks := .later }
def FnExactReadDecimalUptoCardSaid : Prop := Claim7.holds Tryd.pinned (.plain (OpenSpec.upto fnExactReadDecimalSpec)) fnExactReadDecimalUptoCard

/-- THE SECOND FORM's CARD OF 'laws.FnExactSplitWords'. -/
def fnExactSplitWordsUptoCard : Claim7 := { stood := { row := fnExactSplitWordsUptoRow, standIns := [], harness := (true, "c60d3dcce59a28e7dde374244e61c95881ff22deee55608cb490b892b4e61e03"), looks := false }, kinds := [], alts := [], laidByText := true, laidKinds := [.data, .pinned], laidTests := true, laidLooks := .later }
def FnExactSplitWordsUptoCardSaid : Prop := Claim7.holds Tryd.pinned (.plain (OpenSpec.upto fnExactSplitWordsSpec)) fnExactSplitWordsUptoCard

/-- THE SECOND FORM's CARD OF 'laws.FnExactReadRod'. -/
def fnExactReadRodUptoCard : Claim7 := { stood := { row := fnExactReadRodUptoRow, standIns := [], harness := (true, "c60d3dcce59a28e7dde374244e61c95881ff22deee55608cb490b892b4e61e03"), looks := false }, kinds := [], alts := [], laidByText := true, laidKinds := [.data, .data, .data, .data, .pinned], laidTests := true, laidLooks := .later }
def FnExactReadRodUptoCardSaid : Prop := Claim7.holds Tryd.pinned (.plain (OpenSpec.upto fnExactReadRodSpec)) fnExactReadRodUptoCard

/-- THE SECOND FORM's CARD OF 'laws.FnRods'. -/
def fnRodsUptoCard : Claim7 := { stood := { row := fnRodsUptoRow, standIns := [], harness := (true, "c60d3dcce59a28e7dde374244e61c95881ff22deee55608cb490b892b4e61e03"), looks := false }, kinds := [], alts := [], laidByText := true, laidKinds := [.data, .data, .data, .data, .pinned], laidTests := true, laidLooks := .later }
def FnRodsUptoCardSaid : Prop := Claim7.holds Tryd.pinned (.plain (OpenSpec.upto fnRodsSpec)) fnRodsUptoCard
end Rows
end Go.Proofs.YtlnlohopgnocaaaDoor
