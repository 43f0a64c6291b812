/-
  No cell of these rows narrows 'for every input' (looked for: loops, veiled, ifaces, maps, wideKeys, modest, calm, conditions, laid).
  DERIVED. THE GIVEN ROWS OF THIS SEAT. 11 by the template 'for every input the law returns true; each argument reads behind the call as it read before'; 0 by the template 'total and deterministic' (their statements: YtabgkgkbaofgfaaTotals.lean).
  GIVEN WITH THE SEED: the statements are not yours to turn. If you find one false, say at which input.
  Laid BY PROGRAM, IN A SANDBOX (cutbox-rows.mjs): the forced cells as the released guide's own fill.sh prints them over the translation 7d74a8b5e0017e6d… (all of the seat's roots in one cut). By AI agents, Wed Nov 11 2026. No macro, syntax, notation, axiom, sorry.
-/
import Derived.Test.YtabgkgkbaofgfaaChecked
import GoSem.Claim
import GoSem.ClaimJoined
import GoSem.ClaimMapViews
import Derived.JoinedTies
import Derived.KernelRfl
namespace Go.Proofs.Ytabgkgkbaofgfaa
/- THE CELL 'sum', in the pinned program and in every row, IS THE sha256 OF THE DUMP (.gsa) THAT YtabgkgkbaofgfaaProg.lean LOADS. Nothing in Lean hashes anything: it is a label: what it is worth is what the hold of that sum in a sandbox is worth. -/
noncomputable def Try.pinned : Pinned := { name := "ytabgkgkbaofgfaa", sum := "7d74a8b5e0017e6d81017b1679d07dc4aeb91716268d3b4f8106286210513908", checked := Try.checked }
namespace Rows
def none {H : Type} : Left H := { results := [], args := [] }

/-- 'laws.FnExactYieldNow': WHATEVER THE INPUT: true; the input reads as it did. -/
def fnExactYieldNowSpec : ChangeSpec := { name := "fnExactYieldNow", fn := fun _ => fun
  | [d] => { results := [.lit (.bool true)], args := [d] }
  | _ => none }
def fnExactYieldNowRow : OpenClaim := { program := "ytabgkgkbaofgfaa", sum := "7d74a8b5e0017e6d81017b1679d07dc4aeb91716268d3b4f8106286210513908", func := "loop.example/g01064/laws.FnExactYieldNow", spec := "fnExactYieldNow", apart := false }
def FnExactYieldNowSaid : Prop := fnExactYieldNowRow.holds Try.pinned (OpenSpec.ofChange fnExactYieldNowSpec)

/-- ITS FALSE NEIGHBOUR: 'it returns false'. Refute it at one input. -/
def fnExactYieldNowWrong : ChangeSpec := { name := "fnExactYieldNow", fn := fun _ => fun
  | [d] => { results := [.lit (.bool false)], args := [d] }
  | _ => none }
def FnExactYieldNowWrongFalsely : Prop := fnExactYieldNowRow.holds Try.pinned (OpenSpec.ofChange fnExactYieldNowWrong)

/-- 'laws.FnExactValidBeds': WHATEVER THE INPUT: true; the input reads as it did. -/
def fnExactValidBedsSpec : ChangeSpec := { name := "fnExactValidBeds", fn := fun _ => fun
  | [d] => { results := [.lit (.bool true)], args := [d] }
  | _ => none }
def fnExactValidBedsRow : OpenClaim := { program := "ytabgkgkbaofgfaa", sum := "7d74a8b5e0017e6d81017b1679d07dc4aeb91716268d3b4f8106286210513908", func := "loop.example/g01064/laws.FnExactValidBeds", spec := "fnExactValidBeds", apart := false }
def FnExactValidBedsSaid : Prop := fnExactValidBedsRow.holds Try.pinned (OpenSpec.ofChange fnExactValidBedsSpec)

/-- ITS FALSE NEIGHBOUR: 'it returns false'. Refute it at one input. -/
def fnExactValidBedsWrong : ChangeSpec := { name := "fnExactValidBeds", fn := fun _ => fun
  | [d] => { results := [.lit (.bool false)], args := [d] }
  | _ => none }
def FnExactValidBedsWrongFalsely : Prop := fnExactValidBedsRow.holds Try.pinned (OpenSpec.ofChange fnExactValidBedsWrong)

/-- 'laws.FnExactSameBeds': WHATEVER THE INPUT: true; the input reads as it did. -/
def fnExactSameBedsSpec : ChangeSpec := { name := "fnExactSameBeds", fn := fun _ => fun
  | [d1, d2] => { results := [.lit (.bool true)], args := [d1, d2] }
  | _ => none }
def fnExactSameBedsRow : OpenClaim := { program := "ytabgkgkbaofgfaa", sum := "7d74a8b5e0017e6d81017b1679d07dc4aeb91716268d3b4f8106286210513908", func := "loop.example/g01064/laws.FnExactSameBeds", spec := "fnExactSameBeds", unfollowed := true, recurses := true, apart := false }
def FnExactSameBedsSaid : Prop := fnExactSameBedsRow.holds Try.pinned (OpenSpec.ofChange fnExactSameBedsSpec)

/-- ITS FALSE NEIGHBOUR: 'it returns false'. Refute it at one input. -/
def fnExactSameBedsWrong : ChangeSpec := { name := "fnExactSameBeds", fn := fun _ => fun
  | [d1, d2] => { results := [.lit (.bool false)], args := [d1, d2] }
  | _ => none }
def FnExactSameBedsWrongFalsely : Prop := fnExactSameBedsRow.holds Try.pinned (OpenSpec.ofChange fnExactSameBedsWrong)

/-- 'laws.FnExactBestRhythm': WHATEVER THE INPUT: true; the input reads as it did. -/
def fnExactBestRhythmSpec : ChangeSpec := { name := "fnExactBestRhythm", fn := fun _ => fun
  | [d] => { results := [.lit (.bool true)], args := [d] }
  | _ => none }
def fnExactBestRhythmRow : OpenClaim := { program := "ytabgkgkbaofgfaa", sum := "7d74a8b5e0017e6d81017b1679d07dc4aeb91716268d3b4f8106286210513908", func := "loop.example/g01064/laws.FnExactBestRhythm", spec := "fnExactBestRhythm", apart := false }
def FnExactBestRhythmSaid : Prop := fnExactBestRhythmRow.holds Try.pinned (OpenSpec.ofChange fnExactBestRhythmSpec)

/-- ITS FALSE NEIGHBOUR: 'it returns false'. Refute it at one input. -/
def fnExactBestRhythmWrong : ChangeSpec := { name := "fnExactBestRhythm", fn := fun _ => fun
  | [d] => { results := [.lit (.bool false)], args := [d] }
  | _ => none }
def FnExactBestRhythmWrongFalsely : Prop := fnExactBestRhythmRow.holds Try.pinned (OpenSpec.ofChange fnExactBestRhythmWrong)

/-- 'laws.FnExactYieldOfPlan': WHATEVER THE INPUT: true; the input reads as it did. -/
def fnExactYieldOfPlanSpec : ChangeSpec := { name := "fnExactYieldOfPlan", fn := fun _ => fun
  | [d1, d2, d3] => { results := [.lit (.bool true)], args := [d1, d2, d3] }
  | _ => none }
def fnExactYieldOfPlanRow : OpenClaim := { program := "ytabgkgkbaofgfaa", sum := "7d74a8b5e0017e6d81017b1679d07dc4aeb91716268d3b4f8106286210513908", func := "loop.example/g01064/laws.FnExactYieldOfPlan", spec := "fnExactYieldOfPlan", apart := false }
def FnExactYieldOfPlanSaid : Prop := fnExactYieldOfPlanRow.holds Try.pinned (OpenSpec.ofChange fnExactYieldOfPlanSpec)

/-- ITS FALSE NEIGHBOUR: 'it returns false'. Refute it at one input. -/
def fnExactYieldOfPlanWrong : ChangeSpec := { name := "fnExactYieldOfPlan", fn := fun _ => fun
  | [d1, d2, d3] => { results := [.lit (.bool false)], args := [d1, d2, d3] }
  | _ => none }
def FnExactYieldOfPlanWrongFalsely : Prop := fnExactYieldOfPlanRow.holds Try.pinned (OpenSpec.ofChange fnExactYieldOfPlanWrong)

/-- 'laws.FnExactBestCuts': WHATEVER THE INPUT: true; the input reads as it did. -/
def fnExactBestCutsSpec : ChangeSpec := { name := "fnExactBestCuts", fn := fun _ => fun
  | [d1, d2] => { results := [.lit (.bool true)], args := [d1, d2] }
  | _ => none }
def fnExactBestCutsRow : OpenClaim := { program := "ytabgkgkbaofgfaa", sum := "7d74a8b5e0017e6d81017b1679d07dc4aeb91716268d3b4f8106286210513908", func := "loop.example/g01064/laws.FnExactBestCuts", spec := "fnExactBestCuts", apart := false }
def FnExactBestCutsSaid : Prop := fnExactBestCutsRow.holds Try.pinned (OpenSpec.ofChange fnExactBestCutsSpec)

/-- ITS FALSE NEIGHBOUR: 'it returns false'. Refute it at one input. -/
def fnExactBestCutsWrong : ChangeSpec := { name := "fnExactBestCuts", fn := fun _ => fun
  | [d1, d2] => { results := [.lit (.bool false)], args := [d1, d2] }
  | _ => none }
def FnExactBestCutsWrongFalsely : Prop := fnExactBestCutsRow.holds Try.pinned (OpenSpec.ofChange fnExactBestCutsWrong)

/-- 'laws.FnExactSteadyNeed': WHATEVER THE INPUT: true; the input reads as it did. -/
def fnExactSteadyNeedSpec : ChangeSpec := { name := "fnExactSteadyNeed", fn := fun _ => fun
  | [d1, d2] => { results := [.lit (.bool true)], args := [d1, d2] }
  | _ => none }
def fnExactSteadyNeedRow : OpenClaim := { program := "ytabgkgkbaofgfaa", sum := "7d74a8b5e0017e6d81017b1679d07dc4aeb91716268d3b4f8106286210513908", func := "loop.example/g01064/laws.FnExactSteadyNeed", spec := "fnExactSteadyNeed", recurses := true, apart := false }
def FnExactSteadyNeedSaid : Prop := fnExactSteadyNeedRow.holds Try.pinned (OpenSpec.ofChange fnExactSteadyNeedSpec)

/-- ITS FALSE NEIGHBOUR: 'it returns false'. Refute it at one input. -/
def fnExactSteadyNeedWrong : ChangeSpec := { name := "fnExactSteadyNeed", fn := fun _ => fun
  | [d1, d2] => { results := [.lit (.bool false)], args := [d1, d2] }
  | _ => none }
def FnExactSteadyNeedWrongFalsely : Prop := fnExactSteadyNeedRow.holds Try.pinned (OpenSpec.ofChange fnExactSteadyNeedWrong)

/-- 'laws.FnExactAfterYear': WHATEVER THE INPUT: true; the input reads as it did. -/
def fnExactAfterYearSpec : ChangeSpec := { name := "fnExactAfterYear", fn := fun _ => fun
  | [d1, d2] => { results := [.lit (.bool true)], args := [d1, d2] }
  | _ => none }
def fnExactAfterYearRow : OpenClaim := { program := "ytabgkgkbaofgfaa", sum := "7d74a8b5e0017e6d81017b1679d07dc4aeb91716268d3b4f8106286210513908", func := "loop.example/g01064/laws.FnExactAfterYear", spec := "fnExactAfterYear", apart := false }
def FnExactAfterYearSaid : Prop := fnExactAfterYearRow.holds Try.pinned (OpenSpec.ofChange fnExactAfterYearSpec)

/-- ITS FALSE NEIGHBOUR: 'it returns false'. Refute it at one input. -/
def fnExactAfterYearWrong : ChangeSpec := { name := "fnExactAfterYear", fn := fun _ => fun
  | [d1, d2] => { results := [.lit (.bool false)], args := [d1, d2] }
  | _ => none }
def FnExactAfterYearWrongFalsely : Prop := fnExactAfterYearRow.holds Try.pinned (OpenSpec.ofChange fnExactAfterYearWrong)

/-- 'laws.FnExactCutFor': WHATEVER THE INPUT: true; the input reads as it did. -/
def fnExactCutForSpec : ChangeSpec := { name := "fnExactCutFor", fn := fun _ => fun
  | [d1, d2] => { results := [.lit (.bool true)], args := [d1, d2] }
  | _ => none }
def fnExactCutForRow : OpenClaim := { program := "ytabgkgkbaofgfaa", sum := "7d74a8b5e0017e6d81017b1679d07dc4aeb91716268d3b4f8106286210513908", func := "loop.example/g01064/laws.FnExactCutFor", spec := "fnExactCutFor", apart := false }
def FnExactCutForSaid : Prop := fnExactCutForRow.holds Try.pinned (OpenSpec.ofChange fnExactCutForSpec)

/-- ITS FALSE NEIGHBOUR: 'it returns false'. Refute it at one input. -/
def fnExactCutForWrong : ChangeSpec := { name := "fnExactCutFor", fn := fun _ => fun
  | [d1, d2] => { results := [.lit (.bool false)], args := [d1, d2] }
  | _ => none }
def FnExactCutForWrongFalsely : Prop := fnExactCutForRow.holds Try.pinned (OpenSpec.ofChange fnExactCutForWrong)

/-- 'laws.FnBeds': WHATEVER THE INPUT: true; the input reads as it did. -/
def fnBedsSpec : ChangeSpec := { name := "fnBeds", fn := fun _ => fun
  | [d] => { results := [.lit (.bool true)], args := [d] }
  | _ => none }
def fnBedsRow : OpenClaim := { program := "ytabgkgkbaofgfaa", sum := "7d74a8b5e0017e6d81017b1679d07dc4aeb91716268d3b4f8106286210513908", func := "loop.example/g01064/laws.FnBeds", spec := "fnBeds", apart := false }
def FnBedsSaid : Prop := fnBedsRow.holds Try.pinned (OpenSpec.ofChange fnBedsSpec)

/-- ITS FALSE NEIGHBOUR: 'it returns false'. Refute it at one input. -/
def fnBedsWrong : ChangeSpec := { name := "fnBeds", fn := fun _ => fun
  | [d] => { results := [.lit (.bool false)], args := [d] }
  | _ => none }
def FnBedsWrongFalsely : Prop := fnBedsRow.holds Try.pinned (OpenSpec.ofChange fnBedsWrong)

/-- 'laws.FnRhythms': WHATEVER THE INPUT: true; the input reads as it did. -/
def fnRhythmsSpec : ChangeSpec := { name := "fnRhythms", fn := fun _ => fun
  | [d] => { results := [.lit (.bool true)], args := [d] }
  | _ => none }
def fnRhythmsRow : OpenClaim := { program := "ytabgkgkbaofgfaa", sum := "7d74a8b5e0017e6d81017b1679d07dc4aeb91716268d3b4f8106286210513908", func := "loop.example/g01064/laws.FnRhythms", spec := "fnRhythms", unfollowed := true, recurses := true, apart := false }
def FnRhythmsSaid : Prop := fnRhythmsRow.holds Try.pinned (OpenSpec.ofChange fnRhythmsSpec)

/-- ITS FALSE NEIGHBOUR: 'it returns false'. Refute it at one input. -/
def fnRhythmsWrong : ChangeSpec := { name := "fnRhythms", fn := fun _ => fun
  | [d] => { results := [.lit (.bool false)], args := [d] }
  | _ => none }
def FnRhythmsWrongFalsely : Prop := fnRhythmsRow.holds Try.pinned (OpenSpec.ofChange fnRhythmsWrong)

/- THE SECOND FORM. 'bulk': how many values and letters a reading holds, each counted each time it is reached (what is shared counts as often as it is met; a slice's spare places count too). A statement '..UptoSaid' is the law's where the arguments, and the package variables that the reading takes, are together of bulk at most 1048576: NARROWER than '..Said'. Prove '..Said' where nothing that the law and all that it calls make is longer than what came in: it says more and counts as full. Else prove '..UptoSaid'. A law counts once. -/
mutual
def uptoBulk {H : Type} : DataW H → Nat
  | .lit (.string bytes) => bytes.length + 1
  | .lit _ => 1
  | .nil => 1
  | .ptr d => uptoBulk d + 1
  | .slice elems spare => uptoBulkAll elems + uptoBulkAll spare + 1
  | .agg parts => uptoBulkAll parts + 1
  | .iface _ d => uptoBulk d + 1
  | .map entries => uptoBulkEntries entries + 1
  | .held _ => 1
def uptoBulkAll {H : Type} : List (DataW H) → Nat
  | [] => 0
  | d :: r => uptoBulk d + uptoBulkAll r
def uptoBulkEntries {H : Type} : List (Lit × DataW H) → Nat
  | [] => 0
  | x :: r => uptoBulkEntry x + uptoBulkEntries r
def uptoBulkEntry {H : Type} : Lit × DataW H → Nat
  | (.string bytes, d) => bytes.length + uptoBulk d + 1
  | (_, d) => uptoBulk d + 1
 end
def uptoSmall : (H : Type) → List (DataW H) → Bool := fun _ ds => decide (uptoBulkAll ds ≤ 1048576)
def OpenSpec.upto (s : _root_.Go.ChangeSpec) : _root_.Go.OpenSpec := { _root_.Go.OpenSpec.ofChange s with cond := some uptoSmall }

/-- 'laws.FnExactYieldNow', WHERE WHAT IT READS IS OF BULK AT MOST 1048576: true; the input reads as it did. -/
def fnExactYieldNowUptoRow : OpenClaim := { program := "ytabgkgkbaofgfaa", sum := "7d74a8b5e0017e6d81017b1679d07dc4aeb91716268d3b4f8106286210513908", func := "loop.example/g01064/laws.FnExactYieldNow", spec := "fnExactYieldNow", apart := false, narrowed := true }
def FnExactYieldNowUptoSaid : Prop := fnExactYieldNowUptoRow.holds Try.pinned (OpenSpec.upto fnExactYieldNowSpec)

/-- 'laws.FnExactValidBeds', WHERE WHAT IT READS IS OF BULK AT MOST 1048576: true; the input reads as it did. -/
def fnExactValidBedsUptoRow : OpenClaim := { program := "ytabgkgkbaofgfaa", sum := "7d74a8b5e0017e6d81017b1679d07dc4aeb91716268d3b4f8106286210513908", func := "loop.example/g01064/laws.FnExactValidBeds", spec := "fnExactValidBeds", apart := false, narrowed := true }
def FnExactValidBedsUptoSaid : Prop := fnExactValidBedsUptoRow.holds Try.pinned (OpenSpec.upto fnExactValidBedsSpec)

/-- 'laws.FnExactSameBeds', WHERE WHAT IT READS IS OF BULK AT MOST 1048576: true; the input reads as it did. -/
def fnExactSameBedsUptoRow : OpenClaim := { program := "ytabgkgkbaofgfaa", sum := "7d74a8b5e0017e6d81017b1679d07dc4aeb91716268d3b4f8106286210513908", func := "loop.example/g01064/laws.FnExactSameBeds", spec := "fnExactSameBeds", unfollowed := true, recurses := true, apart := false, narrowed := true }
def FnExactSameBedsUptoSaid : Prop := fnExactSameBedsUptoRow.holds Try.pinned (OpenSpec.upto fnExactSameBedsSpec)

/-- 'laws.FnExactBestRhythm', WHERE WHAT IT READS IS OF BULK AT MOST 1048576: true; the input reads as it did. -/
def fnExactBestRhythmUptoRow : OpenClaim := { program := "ytabgkgkbaofgfaa", sum := "7d74a8b5e0017e6d81017b1679d07dc4aeb91716268d3b4f8106286210513908", func := "loop.example/g01064/laws.FnExactBestRhythm", spec := "fnExactBestRhythm", apart := false, narrowed := true }
def FnExactBestRhythmUptoSaid : Prop := fnExactBestRhythmUptoRow.holds Try.pinned (OpenSpec.upto fnExactBestRhythmSpec)

/-- 'laws.FnExactYieldOfPlan', WHERE WHAT IT READS IS OF BULK AT MOST 1048576: true; the input reads as it did. -/
def fnExactYieldOfPlanUptoRow : OpenClaim := { program := "ytabgkgkbaofgfaa", sum := "7d74a8b5e0017e6d81017b1679d07dc4aeb91716268d3b4f8106286210513908", func := "loop.example/g01064/laws.FnExactYieldOfPlan", spec := "fnExactYieldOfPlan", apart := false, narrowed := true }
def FnExactYieldOfPlanUptoSaid : Prop := fnExactYieldOfPlanUptoRow.holds Try.pinned (OpenSpec.upto fnExactYieldOfPlanSpec)

/-- 'laws.FnExactBestCuts', WHERE WHAT IT READS IS OF BULK AT MOST 1048576: true; the input reads as it did. -/
def fnExactBestCutsUptoRow : OpenClaim := { program := "ytabgkgkbaofgfaa", sum := "7d74a8b5e0017e6d81017b1679d07dc4aeb91716268d3b4f8106286210513908", func := "loop.example/g01064/laws.FnExactBestCuts", spec := "fnExactBestCuts", apart := false, narrowed := true }
def FnExactBestCutsUptoSaid : Prop := fnExactBestCutsUptoRow.holds Try.pinned (OpenSpec.upto fnExactBestCutsSpec)

/-- 'laws.FnExactSteadyNeed', WHERE WHAT IT READS IS OF BULK AT MOST 1048576: true; the input reads as it did. -/
def fnExactSteadyNeedUptoRow : OpenClaim := { program := "ytabgkgkbaofgfaa", sum := "7d74a8b5e0017e6d81017b1679d07dc4aeb91716268d3b4f8106286210513908", func := "loop.example/g01064/laws.FnExactSteadyNeed", spec := "fnExactSteadyNeed", recurses := true, apart := false, narrowed := true }
def FnExactSteadyNeedUptoSaid : Prop := fnExactSteadyNeedUptoRow.holds Try.pinned (OpenSpec.upto fnExactSteadyNeedSpec)

/-- 'laws.FnExactAfterYear', WHERE WHAT IT READS IS OF BULK AT MOST 1048576: true; the input reads as it did. -/
def fnExactAfterYearUptoRow : OpenClaim := { program := "ytabgkgkbaofgfaa", sum := "7d74a8b5e0017e6d81017b1679d07dc4aeb91716268d3b4f8106286210513908", func := "loop.example/g01064/laws.FnExactAfterYear", spec := "fnExactAfterYear", apart := false, narrowed := true }
def FnExactAfterYearUptoSaid : Prop := fnExactAfterYearUptoRow.holds Try.pinned (OpenSpec.upto fnExactAfterYearSpec)

/-- 'laws.FnExactCutFor', WHERE WHAT IT READS IS OF BULK AT MOST 1048576: true; the input reads as it did. -/
def fnExactCutForUptoRow : OpenClaim := { program := "ytabgkgkbaofgfaa", sum := "7d74a8b5e0017e6d81017b1679d07dc4aeb91716268d3b4f8106286210513908", func := "loop.example/g01064/laws.FnExactCutFor", spec := "fnExactCutFor", apart := false, narrowed := true }
def FnExactCutForUptoSaid : Prop := fnExactCutForUptoRow.holds Try.pinned (OpenSpec.upto fnExactCutForSpec)

/-- 'laws.FnBeds', WHERE WHAT IT READS IS OF BULK AT MOST 1048576: true; the input reads as it did. -/
def fnBedsUptoRow : OpenClaim := { program := "ytabgkgkbaofgfaa", sum := "7d74a8b5e0017e6d81017b1679d07dc4aeb91716268d3b4f8106286210513908", func := "loop.example/g01064/laws.FnBeds", spec := "fnBeds", apart := false, narrowed := true }
def FnBedsUptoSaid : Prop := fnBedsUptoRow.holds Try.pinned (OpenSpec.upto fnBedsSpec)

/-- 'laws.FnRhythms', WHERE WHAT IT READS IS OF BULK AT MOST 1048576: true; the input reads as it did. -/
def fnRhythmsUptoRow : OpenClaim := { program := "ytabgkgkbaofgfaa", sum := "7d74a8b5e0017e6d81017b1679d07dc4aeb91716268d3b4f8106286210513908", func := "loop.example/g01064/laws.FnRhythms", spec := "fnRhythms", unfollowed := true, recurses := true, apart := false, narrowed := true }
def FnRhythmsUptoSaid : Prop := fnRhythmsUptoRow.holds Try.pinned (OpenSpec.upto fnRhythmsSpec)

end Rows
end Go.Proofs.Ytabgkgkbaofgfaa
