/-
  NARROWER THAN 'FOR EVERY INPUT', by the rows' own cells (each row's printed sentence says how): FnExactValidStroke: laid · FnExactRoundOf: laid · FnExactBeginsAgain: laid · FnExactLongestFloat: laid · FnExactLongestStack: laid · FnExactLooseStakes: laid · FnExactIsSound: laid · FnExactStakesToAdd: laid.
  DERIVED. THE GIVEN ROWS OF THIS SEAT. 8 by the template 'for every input the law returns true; each argument reads behind the call as it read before'; 0 by the template 'total and deterministic' (their statements: YtmooijlocjgoeaaDoorTotals.lean).
  GIVEN WITH THE SEED: the statements are not yours to turn. If you find one false, say at which input.
  Laid BY PROGRAM, IN A SANDBOX (cutbox-rows.mjs): the forced cells as the released guide's own fill.sh prints them over the translation 830bbbd674d3b55b… (all of the seat's roots in one cut). By AI agents, Wed Nov 11 2026. No macro, syntax, notation, axiom, sorry.
-/
import Derived.Test.YtmooijlocjgoeaaDoorChecked
import GoSem.PinnedTables
import GoSem.Claim
import GoSem.ClaimJoined
import GoSem.ClaimMapViews
import Derived.JoinedTies
import Derived.KernelRfl
namespace Go.Proofs.YtmooijlocjgoeaaDoor
/- THE CELL 'sum', in the pinned program and in every row, IS THE sha256 OF THE DUMP (.gsa) THAT YtmooijlocjgoeaaDoorProg.lean LOADS. Nothing in Lean hashes anything: it is a label: what it is worth is what the hold of that sum in a sandbox is worth. -/
noncomputable def Tryd.pinned : Pinned := { name := "ytmooijlocjgoeaadoor", sum := "830bbbd674d3b55b2d522eb70000dfce5c3f0f835d4f67417cf84be32891eb88", checked := Tryd.checked }
namespace Rows
def none {H : Type} : Left H := { results := [], args := [] }

/- WHAT THE LISTED PACKAGE-LEVEL VARIABLES READ AS WHEN THE CALL BEGINS. Each datum BY PROGRAM (the guide's laid-datum.mjs) off the statement by which the dump's own 'gosem.cut.vars' lays the variable. In a bare row this is a premise. The card (YtmooijlocjgoeaaDoorCards.lean) ties it to the program's text. -/
def laid_unicode_utf8_acceptRanges {H : Type} : DataW H := .agg [.agg [.lit (.int .u8 128), .lit (.int .u8 191)], .agg [.lit (.int .u8 160), .lit (.int .u8 191)], .agg [.lit (.int .u8 128), .lit (.int .u8 159)], .agg [.lit (.int .u8 144), .lit (.int .u8 191)], .agg [.lit (.int .u8 128), .lit (.int .u8 143)], .agg [.lit (.int .u8 0), .lit (.int .u8 0)], .agg [.lit (.int .u8 0), .lit (.int .u8 0)], .agg [.lit (.int .u8 0), .lit (.int .u8 0)], .agg [.lit (.int .u8 0), .lit (.int .u8 0)], .agg [.lit (.int .u8 0), .lit (.int .u8 0)], .agg [.lit (.int .u8 0), .lit (.int .u8 0)], .agg [.lit (.int .u8 0), .lit (.int .u8 0)], .agg [.lit (.int .u8 0), .lit (.int .u8 0)], .agg [.lit (.int .u8 0), .lit (.int .u8 0)], .agg [.lit (.int .u8 0), .lit (.int .u8 0)], .agg [.lit (.int .u8 0), .lit (.int .u8 0)]]
/-- One of Go's own tables, pinned by name: the form's constant. -/
def laid_unicode_utf8_first : DataW Unit := Go.Pinned.utf8First

/-- 'laws.FnExactValidStroke': WHATEVER THE INPUT: true; the input reads as it did. -/
def fnExactValidStrokeSpec : ChangeSpec := { name := "fnExactValidStroke", fn := fun _ => fun
  | [d] => { results := [.lit (.bool true)], args := [d] }
  | _ => none }
def fnExactValidStrokeRow : OpenClaim := { program := "ytmooijlocjgoeaadoor", sum := "830bbbd674d3b55b2d522eb70000dfce5c3f0f835d4f67417cf84be32891eb88", func := "loop.example/g01064/laws.FnExactValidStroke", spec := "fnExactValidStroke", inPlace := ["internal/bytealg.IndexByteString", "internal/bytealg.IndexString"], named := ["unicode/utf8.first", "unicode/utf8.acceptRanges", "internal/bytealg.MaxLen"], apart := false, laid := [("unicode/utf8.acceptRanges", laid_unicode_utf8_acceptRanges), ("unicode/utf8.first", laid_unicode_utf8_first)] }
def FnExactValidStrokeSaid : Prop := fnExactValidStrokeRow.holds Tryd.pinned (OpenSpec.ofChange fnExactValidStrokeSpec)

/-- ITS FALSE NEIGHBOUR: 'it returns false'. Refute it at one input. -/
def fnExactValidStrokeWrong : ChangeSpec := { name := "fnExactValidStroke", fn := fun _ => fun
  | [d] => { results := [.lit (.bool false)], args := [d] }
  | _ => none }
def FnExactValidStrokeWrongFalsely : Prop := fnExactValidStrokeRow.holds Tryd.pinned (OpenSpec.ofChange fnExactValidStrokeWrong)

/-- 'laws.FnExactRoundOf': WHATEVER THE INPUT: true; the input reads as it did. -/
def fnExactRoundOfSpec : ChangeSpec := { name := "fnExactRoundOf", fn := fun _ => fun
  | [d1, d2, d3] => { results := [.lit (.bool true)], args := [d1, d2, d3] }
  | _ => none }
def fnExactRoundOfRow : OpenClaim := { program := "ytmooijlocjgoeaadoor", sum := "830bbbd674d3b55b2d522eb70000dfce5c3f0f835d4f67417cf84be32891eb88", func := "loop.example/g01064/laws.FnExactRoundOf", spec := "fnExactRoundOf", inPlace := ["internal/bytealg.IndexByteString", "internal/bytealg.IndexString"], named := ["unicode/utf8.first", "unicode/utf8.acceptRanges", "internal/bytealg.MaxLen"], apart := false, laid := [("unicode/utf8.acceptRanges", laid_unicode_utf8_acceptRanges), ("unicode/utf8.first", laid_unicode_utf8_first)] }
def FnExactRoundOfSaid : Prop := fnExactRoundOfRow.holds Tryd.pinned (OpenSpec.ofChange fnExactRoundOfSpec)

/-- ITS FALSE NEIGHBOUR: 'it returns false'. Refute it at one input. -/
def fnExactRoundOfWrong : ChangeSpec := { name := "fnExactRoundOf", fn := fun _ => fun
  | [d1, d2, d3] => { results := [.lit (.bool false)], args := [d1, d2, d3] }
  | _ => none }
def FnExactRoundOfWrongFalsely : Prop := fnExactRoundOfRow.holds Tryd.pinned (OpenSpec.ofChange fnExactRoundOfWrong)

/-- 'laws.FnExactBeginsAgain': WHATEVER THE INPUT: true; the input reads as it did. -/
def fnExactBeginsAgainSpec : ChangeSpec := { name := "fnExactBeginsAgain", fn := fun _ => fun
  | [d1, d2] => { results := [.lit (.bool true)], args := [d1, d2] }
  | _ => none }
def fnExactBeginsAgainRow : OpenClaim := { program := "ytmooijlocjgoeaadoor", sum := "830bbbd674d3b55b2d522eb70000dfce5c3f0f835d4f67417cf84be32891eb88", func := "loop.example/g01064/laws.FnExactBeginsAgain", spec := "fnExactBeginsAgain", inPlace := ["internal/bytealg.IndexByteString", "internal/bytealg.IndexString"], named := ["unicode/utf8.first", "unicode/utf8.acceptRanges", "internal/bytealg.MaxLen"], apart := false, laid := [("unicode/utf8.acceptRanges", laid_unicode_utf8_acceptRanges), ("unicode/utf8.first", laid_unicode_utf8_first)] }
def FnExactBeginsAgainSaid : Prop := fnExactBeginsAgainRow.holds Tryd.pinned (OpenSpec.ofChange fnExactBeginsAgainSpec)

/-- ITS FALSE NEIGHBOUR: 'it returns false'. Refute it at one input. -/
def fnExactBeginsAgainWrong : ChangeSpec := { name := "fnExactBeginsAgain", fn := fun _ => fun
  | [d1, d2] => { results := [.lit (.bool false)], args := [d1, d2] }
  | _ => none }
def FnExactBeginsAgainWrongFalsely : Prop := fnExactBeginsAgainRow.holds Tryd.pinned (OpenSpec.ofChange fnExactBeginsAgainWrong)

/-- 'laws.FnExactLongestFloat': WHATEVER THE INPUT: true; the input reads as it did. -/
def fnExactLongestFloatSpec : ChangeSpec := { name := "fnExactLongestFloat", fn := fun _ => fun
  | [d] => { results := [.lit (.bool true)], args := [d] }
  | _ => none }
def fnExactLongestFloatRow : OpenClaim := { program := "ytmooijlocjgoeaadoor", sum := "830bbbd674d3b55b2d522eb70000dfce5c3f0f835d4f67417cf84be32891eb88", func := "loop.example/g01064/laws.FnExactLongestFloat", spec := "fnExactLongestFloat", inPlace := ["internal/bytealg.IndexByteString", "internal/bytealg.IndexString"], named := ["unicode/utf8.first", "unicode/utf8.acceptRanges", "internal/bytealg.MaxLen"], apart := false, laid := [("unicode/utf8.acceptRanges", laid_unicode_utf8_acceptRanges), ("unicode/utf8.first", laid_unicode_utf8_first)] }
def FnExactLongestFloatSaid : Prop := fnExactLongestFloatRow.holds Tryd.pinned (OpenSpec.ofChange fnExactLongestFloatSpec)

/-- ITS FALSE NEIGHBOUR: 'it returns false'. Refute it at one input. -/
def fnExactLongestFloatWrong : ChangeSpec := { name := "fnExactLongestFloat", fn := fun _ => fun
  | [d] => { results := [.lit (.bool false)], args := [d] }
  | _ => none }
def FnExactLongestFloatWrongFalsely : Prop := fnExactLongestFloatRow.holds Tryd.pinned (OpenSpec.ofChange fnExactLongestFloatWrong)

/-- 'laws.FnExactLongestStack': WHATEVER THE INPUT: true; the input reads as it did. -/
def fnExactLongestStackSpec : ChangeSpec := { name := "fnExactLongestStack", fn := fun _ => fun
  | [d1, d2] => { results := [.lit (.bool true)], args := [d1, d2] }
  | _ => none }
def fnExactLongestStackRow : OpenClaim := { program := "ytmooijlocjgoeaadoor", sum := "830bbbd674d3b55b2d522eb70000dfce5c3f0f835d4f67417cf84be32891eb88", func := "loop.example/g01064/laws.FnExactLongestStack", spec := "fnExactLongestStack", inPlace := ["internal/bytealg.IndexByteString", "internal/bytealg.IndexString"], named := ["unicode/utf8.first", "unicode/utf8.acceptRanges", "internal/bytealg.MaxLen"], apart := false, laid := [("unicode/utf8.acceptRanges", laid_unicode_utf8_acceptRanges), ("unicode/utf8.first", laid_unicode_utf8_first)] }
def FnExactLongestStackSaid : Prop := fnExactLongestStackRow.holds Tryd.pinned (OpenSpec.ofChange fnExactLongestStackSpec)

/-- ITS FALSE NEIGHBOUR: 'it returns false'. Refute it at one input. -/
def fnExactLongestStackWrong : ChangeSpec := { name := "fnExactLongestStack", fn := fun _ => fun
  | [d1, d2] => { results := [.lit (.bool false)], args := [d1, d2] }
  | _ => none }
def FnExactLongestStackWrongFalsely : Prop := fnExactLongestStackRow.holds Tryd.pinned (OpenSpec.ofChange fnExactLongestStackWrong)

/-- 'laws.FnExactLooseStakes': WHATEVER THE INPUT: true; the input reads as it did. -/
def fnExactLooseStakesSpec : ChangeSpec := { name := "fnExactLooseStakes", fn := fun _ => fun
  | [d1, d2] => { results := [.lit (.bool true)], args := [d1, d2] }
  | _ => none }
def fnExactLooseStakesRow : OpenClaim := { program := "ytmooijlocjgoeaadoor", sum := "830bbbd674d3b55b2d522eb70000dfce5c3f0f835d4f67417cf84be32891eb88", func := "loop.example/g01064/laws.FnExactLooseStakes", spec := "fnExactLooseStakes", inPlace := ["internal/bytealg.IndexByteString", "internal/bytealg.IndexString"], named := ["unicode/utf8.first", "unicode/utf8.acceptRanges", "internal/bytealg.MaxLen"], apart := false, laid := [("unicode/utf8.acceptRanges", laid_unicode_utf8_acceptRanges), ("unicode/utf8.first", laid_unicode_utf8_first)] }
def FnExactLooseStakesSaid : Prop := fnExactLooseStakesRow.holds Tryd.pinned (OpenSpec.ofChange fnExactLooseStakesSpec)

/-- ITS FALSE NEIGHBOUR: 'it returns false'. Refute it at one input. -/
def fnExactLooseStakesWrong : ChangeSpec := { name := "fnExactLooseStakes", fn := fun _ => fun
  | [d1, d2] => { results := [.lit (.bool false)], args := [d1, d2] }
  | _ => none }
def FnExactLooseStakesWrongFalsely : Prop := fnExactLooseStakesRow.holds Tryd.pinned (OpenSpec.ofChange fnExactLooseStakesWrong)

/-- 'laws.FnExactIsSound': WHATEVER THE INPUT: true; the input reads as it did. -/
def fnExactIsSoundSpec : ChangeSpec := { name := "fnExactIsSound", fn := fun _ => fun
  | [d1, d2, d3] => { results := [.lit (.bool true)], args := [d1, d2, d3] }
  | _ => none }
def fnExactIsSoundRow : OpenClaim := { program := "ytmooijlocjgoeaadoor", sum := "830bbbd674d3b55b2d522eb70000dfce5c3f0f835d4f67417cf84be32891eb88", func := "loop.example/g01064/laws.FnExactIsSound", spec := "fnExactIsSound", inPlace := ["internal/bytealg.IndexByteString", "internal/bytealg.IndexString"], named := ["unicode/utf8.first", "unicode/utf8.acceptRanges", "internal/bytealg.MaxLen"], apart := false, laid := [("unicode/utf8.acceptRanges", laid_unicode_utf8_acceptRanges), ("unicode/utf8.first", laid_unicode_utf8_first)] }
def FnExactIsSoundSaid : Prop := fnExactIsSoundRow.holds Tryd.pinned (OpenSpec.ofChange fnExactIsSoundSpec)

/-- ITS FALSE NEIGHBOUR: 'it returns false'. Refute it at one input. -/
def fnExactIsSoundWrong : ChangeSpec := { name := "fnExactIsSound", fn := fun _ => fun
  | [d1, d2, d3] => { results := [.lit (.bool false)], args := [d1, d2, d3] }
  | _ => none }
def FnExactIsSoundWrongFalsely : Prop := fnExactIsSoundRow.holds Tryd.pinned (OpenSpec.ofChange fnExactIsSoundWrong)

/-- 'laws.FnExactStakesToAdd': WHATEVER THE INPUT: true; the input reads as it did. -/
def fnExactStakesToAddSpec : ChangeSpec := { name := "fnExactStakesToAdd", fn := fun _ => fun
  | [d1, d2, d3] => { results := [.lit (.bool true)], args := [d1, d2, d3] }
  | _ => none }
def fnExactStakesToAddRow : OpenClaim := { program := "ytmooijlocjgoeaadoor", sum := "830bbbd674d3b55b2d522eb70000dfce5c3f0f835d4f67417cf84be32891eb88", func := "loop.example/g01064/laws.FnExactStakesToAdd", spec := "fnExactStakesToAdd", inPlace := ["internal/bytealg.IndexByteString", "internal/bytealg.IndexString"], named := ["unicode/utf8.first", "unicode/utf8.acceptRanges", "internal/bytealg.MaxLen"], apart := false, laid := [("unicode/utf8.acceptRanges", laid_unicode_utf8_acceptRanges), ("unicode/utf8.first", laid_unicode_utf8_first)] }
def FnExactStakesToAddSaid : Prop := fnExactStakesToAddRow.holds Tryd.pinned (OpenSpec.ofChange fnExactStakesToAddSpec)

/-- ITS FALSE NEIGHBOUR: 'it returns false'. Refute it at one input. -/
def fnExactStakesToAddWrong : ChangeSpec := { name := "fnExactStakesToAdd", fn := fun _ => fun
  | [d1, d2, d3] => { results := [.lit (.bool false)], args := [d1, d2, d3] }
  | _ => none }
def FnExactStakesToAddWrongFalsely : Prop := fnExactStakesToAddRow.holds Tryd.pinned (OpenSpec.ofChange fnExactStakesToAddWrong)

/- THE SECOND FORM. 'bulk': how many values and letters a reading holds, each counted each time it is reached (what is shared counts as often as it is met; a slice's spare places count too). A statement '..UptoSaid' is the law's where the arguments, and the package variables that the reading takes, are together of bulk at most 1048576: NARROWER than '..Said'. Prove '..Said' where nothing that the law and all that it calls make is longer than what came in: it says more and counts as full. Else prove '..UptoSaid'. A law counts once. -/
mutual
def uptoBulk {H : Type} : DataW H → Nat
  | .lit (.string bytes) => bytes.length + 1
  | .lit _ => 1
  | .nil => 1
  | .ptr d => uptoBulk d + 1
  | .slice elems spare => uptoBulkAll elems + uptoBulkAll spare + 1
  | .agg parts => uptoBulkAll parts + 1
  | .iface _ d => uptoBulk d + 1
  | .map entries => uptoBulkEntries entries + 1
  | .held _ => 1
def uptoBulkAll {H : Type} : List (DataW H) → Nat
  | [] => 0
  | d :: r => uptoBulk d + uptoBulkAll r
def uptoBulkEntries {H : Type} : List (Lit × DataW H) → Nat
  | [] => 0
  | x :: r => uptoBulkEntry x + uptoBulkEntries r
def uptoBulkEntry {H : Type} : Lit × DataW H → Nat
  | (.string bytes, d) => bytes.length + uptoBulk d + 1
  | (_, d) => uptoBulk d + 1
 end
def uptoSmall : (H : Type) → List (DataW H) → Bool := fun _ ds => decide (uptoBulkAll ds ≤ 1048576)
def OpenSpec.upto (s : _root_.Go.ChangeSpec) : _root_.Go.OpenSpec := { _root_.Go.OpenSpec.ofChange s with cond := some uptoSmall }

/-- 'laws.FnExactValidStroke', WHERE WHAT IT READS IS OF BULK AT MOST 1048576: true; the input reads as it did. -/
def fnExactValidStrokeUptoRow : OpenClaim := { program := "ytmooijlocjgoeaadoor", sum := "830bbbd674d3b55b2d522eb70000dfce5c3f0f835d4f67417cf84be32891eb88", func := "loop.example/g01064/laws.FnExactValidStroke", spec := "fnExactValidStroke", inPlace := ["internal/bytealg.IndexByteString", "internal/bytealg.IndexString"], named := ["unicode/utf8.first", "unicode/utf8.acceptRanges", "internal/bytealg.MaxLen"], apart := false, laid := [("unicode/utf8.acceptRanges", laid_unicode_utf8_acceptRanges), ("unicode/utf8.first", laid_unicode_utf8_first)], narrowed := true }
def FnExactValidStrokeUptoSaid : Prop := fnExactValidStrokeUptoRow.holds Tryd.pinned (OpenSpec.upto fnExactValidStrokeSpec)

/-- 'laws.FnExactRoundOf', WHERE WHAT IT READS IS OF BULK AT MOST 1048576: true; the input reads as it did. -/
def fnExactRoundOfUptoRow : OpenClaim := { program := "ytmooijlocjgoeaadoor", sum := "830bbbd674d3b55b2d522eb70000dfce5c3f0f835d4f67417cf84be32891eb88", func := "loop.example/g01064/laws.FnExactRoundOf", spec := "fnExactRoundOf", inPlace := ["internal/bytealg.IndexByteString", "internal/bytealg.IndexString"], named := ["unicode/utf8.first", "unicode/utf8.acceptRanges", "internal/bytealg.MaxLen"], apart := false, laid := [("unicode/utf8.acceptRanges", laid_unicode_utf8_acceptRanges), ("unicode/utf8.first", laid_unicode_utf8_first)], narrowed := true }
def FnExactRoundOfUptoSaid : Prop := fnExactRoundOfUptoRow.holds Tryd.pinned (OpenSpec.upto fnExactRoundOfSpec)

/-- 'laws.FnExactBeginsAgain', WHERE WHAT IT READS IS OF BULK AT MOST 1048576: true; the input reads as it did. -/
def fnExactBeginsAgainUptoRow : OpenClaim := { program := "ytmooijlocjgoeaadoor", sum := "830bbbd674d3b55b2d522eb70000dfce5c3f0f835d4f67417cf84be32891eb88", func := "loop.example/g01064/laws.FnExactBeginsAgain", spec := "fnExactBeginsAgain", inPlace := ["internal/bytealg.IndexByteString", "internal/bytealg.IndexString"], named := ["unicode/utf8.first", "unicode/utf8.acceptRanges", "internal/bytealg.MaxLen"], apart := false, laid := [("unicode/utf8.acceptRanges", laid_unicode_utf8_acceptRanges), ("unicode/utf8.first", laid_unicode_utf8_first)], narrowed := true }
def FnExactBeginsAgainUptoSaid : Prop := fnExactBeginsAgainUptoRow.holds Tryd.pinned (OpenSpec.upto fnExactBeginsAgainSpec)

/-- 'laws.FnExactLongestFloat', WHERE WHAT IT READS IS OF BULK AT MOST 1048576: true; the input reads as it did. -/
def fnExactLongestFloatUptoRow : OpenClaim := { program := "ytmooijlocjgoeaadoor", sum := "830bbbd674d3b55b2d522eb70000dfce5c3f0f835d4f67417cf84be32891eb88", func := "loop.example/g01064/laws.FnExactLongestFloat", spec := "fnExactLongestFloat", inPlace := ["internal/bytealg.IndexByteString", "internal/bytealg.IndexString"], named := ["unicode/utf8.first", "unicode/utf8.acceptRanges", "internal/bytealg.MaxLen"], apart := false, laid := [("unicode/utf8.acceptRanges", laid_unicode_utf8_acceptRanges), ("unicode/utf8.first", laid_unicode_utf8_first)], narrowed := true }
def FnExactLongestFloatUptoSaid : Prop := fnExactLongestFloatUptoRow.holds Tryd.pinned (OpenSpec.upto fnExactLongestFloatSpec)

/-- 'laws.FnExactLongestStack', WHERE WHAT IT READS IS OF BULK AT MOST 1048576: true; the input reads as it did. -/
def fnExactLongestStackUptoRow : OpenClaim := { program := "ytmooijlocjgoeaadoor", sum := "830bbbd674d3b55b2d522eb70000dfce5c3f0f835d4f67417cf84be32891eb88", func := "loop.example/g01064/laws.FnExactLongestStack", spec := "fnExactLongestStack", inPlace := ["internal/bytealg.IndexByteString", "internal/bytealg.IndexString"], named := ["unicode/utf8.first", "unicode/utf8.acceptRanges", "internal/bytealg.MaxLen"], apart := false, laid := [("unicode/utf8.acceptRanges", laid_unicode_utf8_acceptRanges), ("unicode/utf8.first", laid_unicode_utf8_first)], narrowed := true }
def FnExactLongestStackUptoSaid : Prop := fnExactLongestStackUptoRow.holds Tryd.pinned (OpenSpec.upto fnExactLongestStackSpec)

/-- 'laws.FnExactLooseStakes', WHERE WHAT IT READS IS OF BULK AT MOST 1048576: true; the input reads as it did. -/
def fnExactLooseStakesUptoRow : OpenClaim := { program := "ytmooijlocjgoeaadoor", sum := "830bbbd674d3b55b2d522eb70000dfce5c3f0f835d4f67417cf84be32891eb88", func := "loop.example/g01064/laws.FnExactLooseStakes", spec := "fnExactLooseStakes", inPlace := ["internal/bytealg.IndexByteString", "internal/bytealg.IndexString"], named := ["unicode/utf8.first", "unicode/utf8.acceptRanges", "internal/bytealg.MaxLen"], apart := false, laid := [("unicode/utf8.acceptRanges", laid_unicode_utf8_acceptRanges), ("unicode/utf8.first", laid_unicode_utf8_first)], narrowed := true }
def FnExactLooseStakesUptoSaid : Prop := fnExactLooseStakesUptoRow.holds Tryd.pinned (OpenSpec.upto fnExactLooseStakesSpec)

/-- 'laws.FnExactIsSound', WHERE WHAT IT READS IS OF BULK AT MOST 1048576: true; the input reads as it did. -/
def fnExactIsSoundUptoRow : OpenClaim := { program := "ytmooijlocjgoeaadoor", sum := "830bbbd674d3b55b2d522eb70000dfce5c3f0f835d4f67417cf84be32891eb88", func := "loop.example/g01064/laws.FnExactIsSound", spec := "fnExactIsSound", inPlace := ["internal/bytealg.IndexByteString", "internal/bytealg.IndexString"], named := ["unicode/utf8.first", "unicode/utf8.acceptRanges", "internal/bytealg.MaxLen"], apart := false, laid := [("unicode/utf8.acceptRanges", laid_unicode_utf8_acceptRanges), ("unicode/utf8.first", laid_unicode_utf8_first)], narrowed := true }
def FnExactIsSoundUptoSaid : Prop := fnExactIsSoundUptoRow.holds Tryd.pinned (OpenSpec.upto fnExactIsSoundSpec)

/-- 'laws.FnExactStakesToAdd', WHERE WHAT IT READS IS OF BULK AT MOST 1048576: true; the input reads as it did. -/
def fnExactStakesToAddUptoRow : OpenClaim := { program := "ytmooijlocjgoeaadoor", sum := "830bbbd674d3b55b2d522eb70000dfce5c3f0f835d4f67417cf84be32891eb88", func := "loop.example/g01064/laws.FnExactStakesToAdd", spec := "fnExactStakesToAdd", inPlace := ["internal/bytealg.IndexByteString", "internal/bytealg.IndexString"], named := ["unicode/utf8.first", "unicode/utf8.acceptRanges", "internal/bytealg.MaxLen"], apart := false, laid := [("unicode/utf8.acceptRanges", laid_unicode_utf8_acceptRanges), ("unicode/utf8.first", laid_unicode_utf8_first)], narrowed := true }
def FnExactStakesToAddUptoSaid : Prop := fnExactStakesToAddUptoRow.holds Tryd.pinned (OpenSpec.upto fnExactStakesToAddSpec)

end Rows
end Go.Proofs.YtmooijlocjgoeaaDoor
