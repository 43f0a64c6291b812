/-
  No cell of these rows narrows 'for every input' (looked for: loops, veiled, ifaces, maps, wideKeys, modest, calm, conditions, laid).
  DERIVED. THE GIVEN ROWS OF THIS SEAT. 8 by the template 'for every input the law returns true; each argument reads behind the call as it read before'; 0 by the template 'total and deterministic' (their statements: YtjdijimmbggigaaTotals.lean).
  GIVEN WITH THE SEED: the statements are not yours to turn. If you find one false, say at which input.
  Laid BY PROGRAM, IN A SANDBOX (cutbox-rows.mjs): the forced cells as the released guide's own fill.sh prints them over the translation a740b92ddb237973… (all of the seat's roots in one cut). By AI agents, Wed Nov 11 2026. No macro, syntax, notation, axiom, sorry.
-/
import Derived.Test.YtjdijimmbggigaaChecked
import GoSem.Claim
import GoSem.ClaimJoined
import GoSem.ClaimMapViews
import Derived.JoinedTies
import Derived.KernelRfl
namespace Go.Proofs.Ytjdijimmbggigaa
/- THE CELL 'sum', in the pinned program and in every row, IS THE sha256 OF THE DUMP (.gsa) THAT YtjdijimmbggigaaProg.lean LOADS. Nothing in Lean hashes anything: it is a label: what it is worth is what the hold of that sum in a sandbox is worth. -/
noncomputable def Try.pinned : Pinned := { name := "ytjdijimmbggigaa", sum := "a740b92ddb2379731d1b794ba1f397f9584a586d6eca092ea83e93cde52659f8", checked := Try.checked }
namespace Rows
def none {H : Type} : Left H := { results := [], args := [] }

/-- 'laws.FnExactAreaOf': WHATEVER THE INPUT: true; the input reads as it did. -/
def fnExactAreaOfSpec : ChangeSpec := { name := "fnExactAreaOf", fn := fun _ => fun
  | [d] => { results := [.lit (.bool true)], args := [d] }
  | _ => none }
def fnExactAreaOfRow : OpenClaim := { program := "ytjdijimmbggigaa", sum := "a740b92ddb2379731d1b794ba1f397f9584a586d6eca092ea83e93cde52659f8", func := "loop.example/g01064/laws.FnExactAreaOf", spec := "fnExactAreaOf", apart := false }
def FnExactAreaOfSaid : Prop := fnExactAreaOfRow.holds Try.pinned (OpenSpec.ofChange fnExactAreaOfSpec)

/-- ITS FALSE NEIGHBOUR: 'it returns false'. Refute it at one input. -/
def fnExactAreaOfWrong : ChangeSpec := { name := "fnExactAreaOf", fn := fun _ => fun
  | [d] => { results := [.lit (.bool false)], args := [d] }
  | _ => none }
def FnExactAreaOfWrongFalsely : Prop := fnExactAreaOfRow.holds Try.pinned (OpenSpec.ofChange fnExactAreaOfWrong)

/-- 'laws.FnExactSameBunches': WHATEVER THE INPUT: true; the input reads as it did. -/
def fnExactSameBunchesSpec : ChangeSpec := { name := "fnExactSameBunches", fn := fun _ => fun
  | [d1, d2] => { results := [.lit (.bool true)], args := [d1, d2] }
  | _ => none }
def fnExactSameBunchesRow : OpenClaim := { program := "ytjdijimmbggigaa", sum := "a740b92ddb2379731d1b794ba1f397f9584a586d6eca092ea83e93cde52659f8", func := "loop.example/g01064/laws.FnExactSameBunches", spec := "fnExactSameBunches", apart := false }
def FnExactSameBunchesSaid : Prop := fnExactSameBunchesRow.holds Try.pinned (OpenSpec.ofChange fnExactSameBunchesSpec)

/-- ITS FALSE NEIGHBOUR: 'it returns false'. Refute it at one input. -/
def fnExactSameBunchesWrong : ChangeSpec := { name := "fnExactSameBunches", fn := fun _ => fun
  | [d1, d2] => { results := [.lit (.bool false)], args := [d1, d2] }
  | _ => none }
def FnExactSameBunchesWrongFalsely : Prop := fnExactSameBunchesRow.holds Try.pinned (OpenSpec.ofChange fnExactSameBunchesWrong)

/-- 'laws.FnExactValidBunches': WHATEVER THE INPUT: true; the input reads as it did. -/
def fnExactValidBunchesSpec : ChangeSpec := { name := "fnExactValidBunches", fn := fun _ => fun
  | [d] => { results := [.lit (.bool true)], args := [d] }
  | _ => none }
def fnExactValidBunchesRow : OpenClaim := { program := "ytjdijimmbggigaa", sum := "a740b92ddb2379731d1b794ba1f397f9584a586d6eca092ea83e93cde52659f8", func := "loop.example/g01064/laws.FnExactValidBunches", spec := "fnExactValidBunches", apart := false }
def FnExactValidBunchesSaid : Prop := fnExactValidBunchesRow.holds Try.pinned (OpenSpec.ofChange fnExactValidBunchesSpec)

/-- ITS FALSE NEIGHBOUR: 'it returns false'. Refute it at one input. -/
def fnExactValidBunchesWrong : ChangeSpec := { name := "fnExactValidBunches", fn := fun _ => fun
  | [d] => { results := [.lit (.bool false)], args := [d] }
  | _ => none }
def FnExactValidBunchesWrongFalsely : Prop := fnExactValidBunchesRow.holds Try.pinned (OpenSpec.ofChange fnExactValidBunchesWrong)

/-- 'laws.FnExactWeightOfLength': WHATEVER THE INPUT: true; the input reads as it did. -/
def fnExactWeightOfLengthSpec : ChangeSpec := { name := "fnExactWeightOfLength", fn := fun _ => fun
  | [d1, d2] => { results := [.lit (.bool true)], args := [d1, d2] }
  | _ => none }
def fnExactWeightOfLengthRow : OpenClaim := { program := "ytjdijimmbggigaa", sum := "a740b92ddb2379731d1b794ba1f397f9584a586d6eca092ea83e93cde52659f8", func := "loop.example/g01064/laws.FnExactWeightOfLength", spec := "fnExactWeightOfLength", apart := false }
def FnExactWeightOfLengthSaid : Prop := fnExactWeightOfLengthRow.holds Try.pinned (OpenSpec.ofChange fnExactWeightOfLengthSpec)

/-- ITS FALSE NEIGHBOUR: 'it returns false'. Refute it at one input. -/
def fnExactWeightOfLengthWrong : ChangeSpec := { name := "fnExactWeightOfLength", fn := fun _ => fun
  | [d1, d2] => { results := [.lit (.bool false)], args := [d1, d2] }
  | _ => none }
def FnExactWeightOfLengthWrongFalsely : Prop := fnExactWeightOfLengthRow.holds Try.pinned (OpenSpec.ofChange fnExactWeightOfLengthWrong)

/-- 'laws.FnExactFitCart': WHATEVER THE INPUT: true; the input reads as it did. -/
def fnExactFitCartSpec : ChangeSpec := { name := "fnExactFitCart", fn := fun _ => fun
  | [d1, d2] => { results := [.lit (.bool true)], args := [d1, d2] }
  | _ => none }
def fnExactFitCartRow : OpenClaim := { program := "ytjdijimmbggigaa", sum := "a740b92ddb2379731d1b794ba1f397f9584a586d6eca092ea83e93cde52659f8", func := "loop.example/g01064/laws.FnExactFitCart", spec := "fnExactFitCart", apart := false }
def FnExactFitCartSaid : Prop := fnExactFitCartRow.holds Try.pinned (OpenSpec.ofChange fnExactFitCartSpec)

/-- ITS FALSE NEIGHBOUR: 'it returns false'. Refute it at one input. -/
def fnExactFitCartWrong : ChangeSpec := { name := "fnExactFitCart", fn := fun _ => fun
  | [d1, d2] => { results := [.lit (.bool false)], args := [d1, d2] }
  | _ => none }
def FnExactFitCartWrongFalsely : Prop := fnExactFitCartRow.holds Try.pinned (OpenSpec.ofChange fnExactFitCartWrong)

/-- 'laws.FnExactSortBunches': WHATEVER THE INPUT: true; the input reads as it did. -/
def fnExactSortBunchesSpec : ChangeSpec := { name := "fnExactSortBunches", fn := fun _ => fun
  | [d] => { results := [.lit (.bool true)], args := [d] }
  | _ => none }
def fnExactSortBunchesRow : OpenClaim := { program := "ytjdijimmbggigaa", sum := "a740b92ddb2379731d1b794ba1f397f9584a586d6eca092ea83e93cde52659f8", func := "loop.example/g01064/laws.FnExactSortBunches", spec := "fnExactSortBunches", unfollowed := true, recurses := true, apart := false }
def FnExactSortBunchesSaid : Prop := fnExactSortBunchesRow.holds Try.pinned (OpenSpec.ofChange fnExactSortBunchesSpec)

/-- ITS FALSE NEIGHBOUR: 'it returns false'. Refute it at one input. -/
def fnExactSortBunchesWrong : ChangeSpec := { name := "fnExactSortBunches", fn := fun _ => fun
  | [d] => { results := [.lit (.bool false)], args := [d] }
  | _ => none }
def FnExactSortBunchesWrongFalsely : Prop := fnExactSortBunchesRow.holds Try.pinned (OpenSpec.ofChange fnExactSortBunchesWrong)

/-- 'laws.FnExactFewestBunches': WHATEVER THE INPUT: true; the input reads as it did. -/
def fnExactFewestBunchesSpec : ChangeSpec := { name := "fnExactFewestBunches", fn := fun _ => fun
  | [d1, d2] => { results := [.lit (.bool true)], args := [d1, d2] }
  | _ => none }
def fnExactFewestBunchesRow : OpenClaim := { program := "ytjdijimmbggigaa", sum := "a740b92ddb2379731d1b794ba1f397f9584a586d6eca092ea83e93cde52659f8", func := "loop.example/g01064/laws.FnExactFewestBunches", spec := "fnExactFewestBunches", unfollowed := true, recurses := true, apart := false }
def FnExactFewestBunchesSaid : Prop := fnExactFewestBunchesRow.holds Try.pinned (OpenSpec.ofChange fnExactFewestBunchesSpec)

/-- ITS FALSE NEIGHBOUR: 'it returns false'. Refute it at one input. -/
def fnExactFewestBunchesWrong : ChangeSpec := { name := "fnExactFewestBunches", fn := fun _ => fun
  | [d1, d2] => { results := [.lit (.bool false)], args := [d1, d2] }
  | _ => none }
def FnExactFewestBunchesWrongFalsely : Prop := fnExactFewestBunchesRow.holds Try.pinned (OpenSpec.ofChange fnExactFewestBunchesWrong)

/-- 'laws.FnAreas': WHATEVER THE INPUT: true; the input reads as it did. -/
def fnAreasSpec : ChangeSpec := { name := "fnAreas", fn := fun _ => fun
  | [d] => { results := [.lit (.bool true)], args := [d] }
  | _ => none }
def fnAreasRow : OpenClaim := { program := "ytjdijimmbggigaa", sum := "a740b92ddb2379731d1b794ba1f397f9584a586d6eca092ea83e93cde52659f8", func := "loop.example/g01064/laws.FnAreas", spec := "fnAreas", apart := false }
def FnAreasSaid : Prop := fnAreasRow.holds Try.pinned (OpenSpec.ofChange fnAreasSpec)

/-- ITS FALSE NEIGHBOUR: 'it returns false'. Refute it at one input. -/
def fnAreasWrong : ChangeSpec := { name := "fnAreas", fn := fun _ => fun
  | [d] => { results := [.lit (.bool false)], args := [d] }
  | _ => none }
def FnAreasWrongFalsely : Prop := fnAreasRow.holds Try.pinned (OpenSpec.ofChange fnAreasWrong)

/- THE SECOND FORM. 'bulk': how many values and letters a reading holds, each counted each time it is reached (what is shared counts as often as it is met; a slice's spare places count too). A statement '..UptoSaid' is the law's where the arguments, and the package variables that the reading takes, are together of bulk at most 1048576: NARROWER than '..Said'. Prove '..Said' where nothing that the law and all that it calls make is longer than what came in: it says more and counts as full. Else prove '..UptoSaid'. A law counts once. -/
mutual
def uptoBulk {H : Type} : DataW H → Nat
  | .lit (.string bytes) => bytes.length + 1
  | .lit _ => 1
  | .nil => 1
  | .ptr d => uptoBulk d + 1
  | .slice elems spare => uptoBulkAll elems + uptoBulkAll spare + 1
  | .agg parts => uptoBulkAll parts + 1
  | .iface _ d => uptoBulk d + 1
  | .map entries => uptoBulkEntries entries + 1
  | .held _ => 1
def uptoBulkAll {H : Type} : List (DataW H) → Nat
  | [] => 0
  | d :: r => uptoBulk d + uptoBulkAll r
def uptoBulkEntries {H : Type} : List (Lit × DataW H) → Nat
  | [] => 0
  | x :: r => uptoBulkEntry x + uptoBulkEntries r
def uptoBulkEntry {H : Type} : Lit × DataW H → Nat
  | (.string bytes, d) => bytes.length + uptoBulk d + 1
  | (_, d) => uptoBulk d + 1
 end
def uptoSmall : (H : Type) → List (DataW H) → Bool := fun _ ds => decide (uptoBulkAll ds ≤ 1048576)
def OpenSpec.upto (s : _root_.Go.ChangeSpec) : _root_.Go.OpenSpec := { _root_.Go.OpenSpec.ofChange s with cond := some uptoSmall }

/-- 'laws.FnExactAreaOf', WHERE WHAT IT READS IS OF BULK AT MOST 1048576: true; the input reads as it did. -/
def fnExactAreaOfUptoRow : OpenClaim := { program := "ytjdijimmbggigaa", sum := "a740b92ddb2379731d1b794ba1f397f9584a586d6eca092ea83e93cde52659f8", func := "loop.example/g01064/laws.FnExactAreaOf", spec := "fnExactAreaOf", apart := false, narrowed := true }
def FnExactAreaOfUptoSaid : Prop := fnExactAreaOfUptoRow.holds Try.pinned (OpenSpec.upto fnExactAreaOfSpec)

/-- 'laws.FnExactSameBunches', WHERE WHAT IT READS IS OF BULK AT MOST 1048576: true; the input reads as it did. -/
def fnExactSameBunchesUptoRow : OpenClaim := { program := "ytjdijimmbggigaa", sum := "a740b92ddb2379731d1b794ba1f397f9584a586d6eca092ea83e93cde52659f8", func := "loop.example/g01064/laws.FnExactSameBunches", spec := "fnExactSameBunches", apart := false, narrowed := true }
def FnExactSameBunchesUptoSaid : Prop := fnExactSameBunchesUptoRow.holds Try.pinned (OpenSpec.upto fnExactSameBunchesSpec)

/-- 'laws.FnExactValidBunches', WHERE WHAT IT READS IS OF BULK AT MOST 1048576: true; the input reads as it did. -/
def fnExactValidBunchesUptoRow : OpenClaim := { program := "ytjdijimmbggigaa", sum := "a740b92ddb2379731d1b794ba1f397f9584a586d6eca092ea83e93cde52659f8", func := "loop.example/g01064/laws.FnExactValidBunches", spec := "fnExactValidBunches", apart := false, narrowed := true }
def FnExactValidBunchesUptoSaid : Prop := fnExactValidBunchesUptoRow.holds Try.pinned (OpenSpec.upto fnExactValidBunchesSpec)

/-- 'laws.FnExactWeightOfLength', WHERE WHAT IT READS IS OF BULK AT MOST 1048576: true; the input reads as it did. -/
def fnExactWeightOfLengthUptoRow : OpenClaim := { program := "ytjdijimmbggigaa", sum := "a740b92ddb2379731d1b794ba1f397f9584a586d6eca092ea83e93cde52659f8", func := "loop.example/g01064/laws.FnExactWeightOfLength", spec := "fnExactWeightOfLength", apart := false, narrowed := true }
def FnExactWeightOfLengthUptoSaid : Prop := fnExactWeightOfLengthUptoRow.holds Try.pinned (OpenSpec.upto fnExactWeightOfLengthSpec)

/-- 'laws.FnExactFitCart', WHERE WHAT IT READS IS OF BULK AT MOST 1048576: true; the input reads as it did. -/
def fnExactFitCartUptoRow : OpenClaim := { program := "ytjdijimmbggigaa", sum := "a740b92ddb2379731d1b794ba1f397f9584a586d6eca092ea83e93cde52659f8", func := "loop.example/g01064/laws.FnExactFitCart", spec := "fnExactFitCart", apart := false, narrowed := true }
def FnExactFitCartUptoSaid : Prop := fnExactFitCartUptoRow.holds Try.pinned (OpenSpec.upto fnExactFitCartSpec)

/-- 'laws.FnExactSortBunches', WHERE WHAT IT READS IS OF BULK AT MOST 1048576: true; the input reads as it did. -/
def fnExactSortBunchesUptoRow : OpenClaim := { program := "ytjdijimmbggigaa", sum := "a740b92ddb2379731d1b794ba1f397f9584a586d6eca092ea83e93cde52659f8", func := "loop.example/g01064/laws.FnExactSortBunches", spec := "fnExactSortBunches", unfollowed := true, recurses := true, apart := false, narrowed := true }
def FnExactSortBunchesUptoSaid : Prop := fnExactSortBunchesUptoRow.holds Try.pinned (OpenSpec.upto fnExactSortBunchesSpec)

/-- 'laws.FnExactFewestBunches', WHERE WHAT IT READS IS OF BULK AT MOST 1048576: true; the input reads as it did. -/
def fnExactFewestBunchesUptoRow : OpenClaim := { program := "ytjdijimmbggigaa", sum := "a740b92ddb2379731d1b794ba1f397f9584a586d6eca092ea83e93cde52659f8", func := "loop.example/g01064/laws.FnExactFewestBunches", spec := "fnExactFewestBunches", unfollowed := true, recurses := true, apart := false, narrowed := true }
def FnExactFewestBunchesUptoSaid : Prop := fnExactFewestBunchesUptoRow.holds Try.pinned (OpenSpec.upto fnExactFewestBunchesSpec)

/-- 'laws.FnAreas', WHERE WHAT IT READS IS OF BULK AT MOST 1048576: true; the input reads as it did. -/
def fnAreasUptoRow : OpenClaim := { program := "ytjdijimmbggigaa", sum := "a740b92ddb2379731d1b794ba1f397f9584a586d6eca092ea83e93cde52659f8", func := "loop.example/g01064/laws.FnAreas", spec := "fnAreas", apart := false, narrowed := true }
def FnAreasUptoSaid : Prop := fnAreasUptoRow.holds Try.pinned (OpenSpec.upto fnAreasSpec)

end Rows
end Go.Proofs.Ytjdijimmbggigaa
