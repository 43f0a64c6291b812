/-
  DERIVED. GIVEN WITH THE SEED: THE CARDS: each row of YtmooijlocjgoeaaDoorRows.lean that lists a variable, with what it lists TIED to the program's text (the seventh form; the later family's looks); each row that meets fmt, with fmt's text TOLD by the authors' own Lean function (tested against real Go, not proved from fmt's source: count such statements apart). THE CARD IS WHAT COUNTS. Prove the row's statement (the work); the ties are given (YtmooijlocjgoeaaDoorTie.lean); close each card by the builder's one call (the guide's Derived/Test/ToyasCard.lean, 'card_holds'). Laid BY PROGRAM, IN A SANDBOX (cutbox-door.mjs). By AI agents, Wed Nov 11 2026. No macro, syntax, notation, axiom, sorry.
-/
import Derived.Test.YtmooijlocjgoeaaDoorRows
import GoSem.ClaimSeven
namespace Go.Proofs.YtmooijlocjgoeaaDoor
namespace Rows

/-- THE TIED CARD OF 'laws.FnExactValidStroke'. -/
def fnExactValidStrokeCard : Claim7 := { stood := { row := fnExactValidStrokeRow, standIns := [], harness := (true, "afd5a175f16761e47c8f2d08ea317a05ccfddf225c4f3020c0c1d307b3cb8408"), looks := false }, kinds := [], alts := [], laidByText := true, laidKinds := [.data, .pinned], laidTests := true, laidLooks := .later }
def FnExactValidStrokeCardSaid : Prop := Claim7.holds Tryd.pinned (.plain (OpenSpec.ofChange fnExactValidStrokeSpec)) fnExactValidStrokeCard

/-- THE TIED CARD OF 'laws.FnExactRoundOf'. -/
def fnExactRoundOfCard : Claim7 := { stood := { row := fnExactRoundOfRow, standIns := [], harness := (true, "afd5a175f16761e47c8f2d08ea317a05ccfddf225c4f3020c0c1d307b3cb8408"), looks := false }, kinds := [], alts := [], laidByText := true, laidKinds := [.data, .pinned], laidTests := true, laidLooks := .later }
def FnExactRoundOfCardSaid : Prop := Claim7.holds Tryd.pinned (.plain (OpenSpec.ofChange fnExactRoundOfSpec)) fnExactRoundOfCard

/-- THE TIED CARD OF 'laws.FnExactBeginsAgain'. -/
def fnExactBeginsAgainCard : Claim7 := { stood := { row := fnExactBeginsAgainRow, standIns := [], harness := (true, "afd5a175f16761e47c8f2d08ea317a05ccfddf225c4f3020c0c1d307b3cb8408"), looks := false }, kinds := [], alts := [], laidByText := true, laidKinds := [.data, .pinned], laidTests := true, laidLooks := .later }
def FnExactBeginsAgainCardSaid : Prop := Claim7.holds Tryd.pinned (.plain (OpenSpec.ofChange fnExactBeginsAgainSpec)) fnExactBeginsAgainCard

/-- THE TIED CARD OF 'laws.FnExactLongestFloat'. -/
def fnExactLongestFloatCard : Claim7 := { stood := { row := fnExactLongestFloatRow, standIns := [], harness := (true, "afd5a175f16761e47c8f2d08ea317a05ccfddf225c4f3020c0c1d307b3cb8408"), looks := false }, kinds := [], alts := [], laidByText := true, laidKinds := [.data, .pinned], laidTests := true, laidLooks := .later }
def FnExactLongestFloatCardSaid : Prop := Claim7.holds Tryd.pinned (.plain (OpenSpec.ofChange fnExactLongestFloatSpec)) fnExactLongestFloatCard

/-- THE TIED CARD OF 'laws.FnExactLongestStack'. -/
def fnExactLongestStackCard : Claim7 := { stood := { row := fnExactLongestStackRow, standIns := [], harness := (true, "afd5a175f16761e47c8f2d08ea317a05ccfddf225c4f3020c0c1d307b3cb8408"), looks := false }, kinds := [], alts := [], laidByText := true, laidKinds := [.data, .pinned], laidTests := true, laidLooks := .later }
def FnExactLongestStackCardSaid : Prop := Claim7.holds Tryd.pinned (.plain (OpenSpec.ofChange fnExactLongestStackSpec)) fnExactLongestStackCard

/-- THE TIED CARD OF 'laws.FnExactLooseStakes'. -/
def fnExactLooseStakesCard : Claim7 := { stood := { row := fnExactLooseStakesRow, standIns := [], harness := (true, "afd5a175f16761e47c8f2d08ea317a05ccfddf225c4f3020c0c1d307b3cb8408"), looks := false }, kinds := [], alts := [], laidByText := true, laidKinds := [.data, .pinned], laidTests := true, laidLooks := .later }
def FnExactLooseStakesCardSaid : Prop := Claim7.holds Tryd.pinned (.plain (OpenSpec.ofChange fnExactLooseStakesSpec)) fnExactLooseStakesCard

/-- THE TIED CARD OF 'laws.FnExactIsSound'. -/
def fnExactIsSoundCard : Claim7 := { stood := { row := fnExactIsSoundRow, standIns := [], harness := (true, "afd5a175f16761e47c8f2d08ea317a05ccfddf225c4f3020c0c1d307b3cb8408"), looks := false }, kinds := [], alts := [], laidByText := true, laidKinds := [.data, .pinned], laidTests := true, laidLooks := .later }
def FnExactIsSoundCardSaid : Prop := Claim7.holds Tryd.pinned (.plain (OpenSpec.ofChange fnExactIsSoundSpec)) fnExactIsSoundCard

/-- THE TIED CARD OF 'laws.FnExactStakesToAdd'. -/
def fnExactStakesToAddCard : Claim7 := { stood := { row := fnExactStakesToAddRow, standIns := [], harness := (true, "afd5a175f16761e47c8f2d08ea317a05ccfddf225c4f3020c0c1d307b3cb8408"), looks := false }, kinds := [], alts := [], laidByText := true, laidKinds := [.data, .pinned], laidTests := true, laidLooks := .later }
def FnExactStakesToAddCardSaid : Prop := Claim7.holds Tryd.pinned (.plain (OpenSpec.ofChange fnExactStakesToAddSpec)) fnExactStakesToAddCard

/-- THE SECOND FORM's CARD OF 'laws.FnExactValidStroke'. -/
def fnExactValidStrokeUptoCard : Claim7 := { stood := { row := fnExactValidStrokeUptoRow, standIns := [], harness := (true, "afd5a175f16761e47c8f2d08ea317a05ccfddf225c4f3020c0c1d307b3cb8408"), looks := false }, kinds := [], alts := [], laidByText := true, laidKinds := [.data, .pinned], laidTests := true, laidLooks := .later }
def FnExactValidStrokeUptoCardSaid : Prop := Claim7.holds Tryd.pinned (.plain (OpenSpec.upto fnExactValidStrokeSpec)) fnExactValidStrokeUptoCard

/-- THE SECOND FORM's CARD OF 'laws.FnExactRoundOf'. -/
def fnExactRoundOfUptoCard : Claim7 := { stood := { row := fnExactRoundOfUptoRow, standIns := [], harness := (true, "afd5a175f16761e47c8f2d08ea317a05ccfddf225c4f3020c0c1d307b3cb8408"), looks := false }, kinds := [], alts := [], laidByText := true, laidKinds := [.data, .pinned], laidTests := true, laidLooks := .later }
def FnExactRoundOfUptoCardSaid : Prop := Claim7.holds Tryd.pinned (.plain (OpenSpec.upto fnExactRoundOfSpec)) fnExactRoundOfUptoCard

/-- THE SECOND FORM's CARD OF 'laws.FnExactBeginsAgain'. -/
def fnExactBeginsAgainUptoCard : Claim7 := { stood := { row := fnExactBeginsAgainUptoRow, standIns := [], harness := (true, "afd5a175f16761e47c8f2d08ea317a05ccfddf225c4f3020c0c1d307b3cb8408"), looks := false }, kinds := [], alts := [], laidByText := true, laidKinds := [.data, .pinned], laidTests := true, laidLooks := .later }
def FnExactBeginsAgainUptoCardSaid : Prop := Claim7.holds Tryd.pinned (.plain (OpenSpec.upto fnExactBeginsAgainSpec)) fnExactBeginsAgainUptoCard

/-- THE SECOND FORM's CARD OF 'laws.FnExactLongestFloat'. -/
def fnExactLongestFloatUptoCard : Claim7 := { stood := { row := fnExactLongestFloatUptoRow, standIns := [], harness := (true, "afd5a175f16761e47c8f2d08ea317a05ccfddf225c4f3020c0c1d307b3cb8408"), looks := false }, kinds := [], alts := [], laidByText := true, laidKinds := [.data, .pinned], laidTests := true, laidLooks := .later }
def FnExactLongestFloatUptoCardSaid : Prop := Claim7.holds Tryd.pinned (.plain (OpenSpec.upto fnExactLongestFloatSpec)) fnExactLongestFloatUptoCard

/-- THE SECOND FORM's CARD OF 'laws.FnExactLongestStack'. -/
def fnExactLongestStackUptoCard : Claim7 := { stood := { row := fnExactLongestStackUptoRow, standIns := [], harness := (true, "afd5a175f16761e47c8f2d08ea317a05ccfddf225c4f3020c0c1d307b3cb8408"), looks := false }, kinds := [], alts := [], laidByText := true, laidKinds := [.data, .pinned], laidTests := true, laidLooks := .later }
def FnExactLongestStackUptoCardSaid : Prop := Claim7.holds Tryd.pinned (.plain (OpenSpec.upto fnExactLongestStackSpec)) fnExactLongestStackUptoCard

/-- THE SECOND FORM's CARD OF 'laws.FnExactLooseStakes'. -/
def fnExactLooseStakesUptoCard : Claim7 := { stood := { row := fnExactLooseStakesUptoRow, standIns := [], harness := (true, "afd5a175f16761e47c8f2d08ea317a05ccfddf225c4f3020c0c1d307b3cb8408"), looks := false }, kinds := [], alts := [], laidByText := true, laidKinds := [.data, .pinned], laidTests := true, laidLooks := .later }
def FnExactLooseStakesUptoCardSaid : Prop := Claim7.holds Tryd.pinned (.plain (OpenSpec.upto fnExactLooseStakesSpec)) fnExactLooseStakesUptoCard

/-- THE SECOND FORM's CARD OF 'laws.FnExactIsSound'. -/
def fnExactIsSoundUptoCard : Claim7 := { stood := { row := fnExactIsSoundUptoRow, standIns := [], harness := (true, "afd5a175f16761e47c8f2d08ea317a05ccfddf225c4f3020c0c1d307b3cb8408"), looks := false }, kinds := [], alts := [], laidByText := true, laidKinds := [.data, .pinned], laidTests := true, laidLooks := .later }
def FnExactIsSoundUptoCardSaid : Prop := Claim7.holds Tryd.pinned (.plain (OpenSpec.upto fnExactIsSoundSpec)) fnExactIsSoundUptoCard

/-- THE SECOND FORM's CARD OF 'laws.FnExactStakesToAdd'. -/
def fnExactStakesToAddUptoCard : Claim7 := { stood := { row := fnExactStakesToAddUptoRow, standIns := [], harness := (true, "afd5a175f16761e47c8f2d08ea317a05ccfddf225c4f3020c0c1d307b3cb8408"), looks := false }, kinds := [], alts := [], laidByText := true, laidKinds := [.data, .pinned], laidTests := true, laidLooks := .later }
def FnExactStakesToAddUptoCardSaid : Prop := Claim7.holds Tryd.pinned (.plain (OpenSpec.upto fnExactStakesToAddSpec)) fnExactStakesToAddUptoCard
end Rows
end Go.Proofs.YtmooijlocjgoeaaDoor
