/-
  No cell of these rows narrows 'for every input' (looked for: loops, veiled, ifaces, maps, wideKeys, modest, calm, conditions, laid).
  DERIVED. THE GIVEN ROWS OF THIS SEAT. 4 by the template 'for every input the law returns true; each argument reads behind the call as it read before'; 0 by the template 'total and deterministic' (their statements: YtnlddplhaiceaaaTotals.lean).
  GIVEN WITH THE SEED: the statements are not yours to turn. If you find one false, say at which input.
  Laid BY PROGRAM, IN A SANDBOX (cutbox-rows.mjs): the forced cells as the released guide's own fill.sh prints them over the translation 69890034694af6d8… (all of the seat's roots in one cut). By AI agents, Wed Nov 11 2026. No macro, syntax, notation, axiom, sorry.
-/
import Derived.Test.YtnlddplhaiceaaaChecked
import GoSem.Claim
import GoSem.ClaimJoined
import GoSem.ClaimMapViews
import Derived.JoinedTies
import Derived.KernelRfl
namespace Go.Proofs.Ytnlddplhaiceaaa
/- THE CELL 'sum', in the pinned program and in every row, IS THE sha256 OF THE DUMP (.gsa) THAT YtnlddplhaiceaaaProg.lean LOADS. Nothing in Lean hashes anything: it is a label: what it is worth is what the hold of that sum in a sandbox is worth. -/
noncomputable def Try.pinned : Pinned := { name := "ytnlddplhaiceaaa", sum := "69890034694af6d85fd994e750238e5bd2dbb2e5a196f006cd189603b51db4b6", checked := Try.checked }
namespace Rows
def none {H : Type} : Left H := { results := [], args := [] }

/-- 'laws.FnExactSteadyNeed': WHATEVER THE INPUT: true; the input reads as it did. -/
def fnExactSteadyNeedSpec : ChangeSpec := { name := "fnExactSteadyNeed", fn := fun _ => fun
  | [d1, d2] => { results := [.lit (.bool true)], args := [d1, d2] }
  | _ => none }
def fnExactSteadyNeedRow : OpenClaim := { program := "ytnlddplhaiceaaa", sum := "69890034694af6d85fd994e750238e5bd2dbb2e5a196f006cd189603b51db4b6", func := "loop.example/g01064/laws.FnExactSteadyNeed", spec := "fnExactSteadyNeed", recurses := true, apart := false }
def FnExactSteadyNeedSaid : Prop := fnExactSteadyNeedRow.holds Try.pinned (OpenSpec.ofChange fnExactSteadyNeedSpec)

/-- ITS FALSE NEIGHBOUR: 'it returns false'. Refute it at one input. -/
def fnExactSteadyNeedWrong : ChangeSpec := { name := "fnExactSteadyNeed", fn := fun _ => fun
  | [d1, d2] => { results := [.lit (.bool false)], args := [d1, d2] }
  | _ => none }
def FnExactSteadyNeedWrongFalsely : Prop := fnExactSteadyNeedRow.holds Try.pinned (OpenSpec.ofChange fnExactSteadyNeedWrong)

/-- 'laws.FnExactAfterYear': WHATEVER THE INPUT: true; the input reads as it did. -/
def fnExactAfterYearSpec : ChangeSpec := { name := "fnExactAfterYear", fn := fun _ => fun
  | [d1, d2] => { results := [.lit (.bool true)], args := [d1, d2] }
  | _ => none }
def fnExactAfterYearRow : OpenClaim := { program := "ytnlddplhaiceaaa", sum := "69890034694af6d85fd994e750238e5bd2dbb2e5a196f006cd189603b51db4b6", func := "loop.example/g01064/laws.FnExactAfterYear", spec := "fnExactAfterYear", apart := false }
def FnExactAfterYearSaid : Prop := fnExactAfterYearRow.holds Try.pinned (OpenSpec.ofChange fnExactAfterYearSpec)

/-- ITS FALSE NEIGHBOUR: 'it returns false'. Refute it at one input. -/
def fnExactAfterYearWrong : ChangeSpec := { name := "fnExactAfterYear", fn := fun _ => fun
  | [d1, d2] => { results := [.lit (.bool false)], args := [d1, d2] }
  | _ => none }
def FnExactAfterYearWrongFalsely : Prop := fnExactAfterYearRow.holds Try.pinned (OpenSpec.ofChange fnExactAfterYearWrong)

/-- 'laws.FnBeds': WHATEVER THE INPUT: true; the input reads as it did. -/
def fnBedsSpec : ChangeSpec := { name := "fnBeds", fn := fun _ => fun
  | [d] => { results := [.lit (.bool true)], args := [d] }
  | _ => none }
def fnBedsRow : OpenClaim := { program := "ytnlddplhaiceaaa", sum := "69890034694af6d85fd994e750238e5bd2dbb2e5a196f006cd189603b51db4b6", func := "loop.example/g01064/laws.FnBeds", spec := "fnBeds", apart := false }
def FnBedsSaid : Prop := fnBedsRow.holds Try.pinned (OpenSpec.ofChange fnBedsSpec)

/-- ITS FALSE NEIGHBOUR: 'it returns false'. Refute it at one input. -/
def fnBedsWrong : ChangeSpec := { name := "fnBeds", fn := fun _ => fun
  | [d] => { results := [.lit (.bool false)], args := [d] }
  | _ => none }
def FnBedsWrongFalsely : Prop := fnBedsRow.holds Try.pinned (OpenSpec.ofChange fnBedsWrong)

/-- 'laws.FnRhythms': WHATEVER THE INPUT: true; the input reads as it did. -/
def fnRhythmsSpec : ChangeSpec := { name := "fnRhythms", fn := fun _ => fun
  | [d] => { results := [.lit (.bool true)], args := [d] }
  | _ => none }
def fnRhythmsRow : OpenClaim := { program := "ytnlddplhaiceaaa", sum := "69890034694af6d85fd994e750238e5bd2dbb2e5a196f006cd189603b51db4b6", func := "loop.example/g01064/laws.FnRhythms", spec := "fnRhythms", unfollowed := true, recurses := true, apart := false }
def FnRhythmsSaid : Prop := fnRhythmsRow.holds Try.pinned (OpenSpec.ofChange fnRhythmsSpec)

/-- ITS FALSE NEIGHBOUR: 'it returns false'. Refute it at one input. -/
def fnRhythmsWrong : ChangeSpec := { name := "fnRhythms", fn := fun _ => fun
  | [d] => { results := [.lit (.bool false)], args := [d] }
  | _ => none }
def FnRhythmsWrongFalsely : Prop := fnRhythmsRow.holds Try.pinned (OpenSpec.ofChange fnRhythmsWrong)

/- THE SECOND FORM. 'bulk': how many values and letters a reading holds, each counted each time it is reached (what is shared counts as often as it is met; a slice's spare places count too). A statement '..UptoSaid' is the law's where the arguments, and the package variables that the reading takes, are together of bulk at most 1048576: NARROWER than '..Said'. Prove '..Said' where nothing that the law and all that it calls make is longer than what came in: it says more and counts as full. Else prove '..UptoSaid'. A law counts once. -/
mutual
def uptoBulk {H : Type} : DataW H → Nat
  | .lit (.string bytes) => bytes.length + 1
  | .lit _ => 1
  | .nil => 1
  | .ptr d => uptoBulk d + 1
  | .slice elems spare => uptoBulkAll elems + uptoBulkAll spare + 1
  | .agg parts => uptoBulkAll parts + 1
  | .iface _ d => uptoBulk d + 1
  | .map entries => uptoBulkEntries entries + 1
  | .held _ => 1
def uptoBulkAll {H : Type} : List (DataW H) → Nat
  | [] => 0
  | d :: r => uptoBulk d + uptoBulkAll r
def uptoBulkEntries {H : Type} : List (Lit × DataW H) → Nat
  | [] => 0
  | x :: r => uptoBulkEntry x + uptoBulkEntries r
def uptoBulkEntry {H : Type} : Lit × DataW H → Nat
  | (.string bytes, d) => bytes.length + uptoBulk d + 1
  | (_, d) => uptoBulk d + 1
 end
def uptoSmall : (H : Type) → List (DataW H) → Bool := fun _ ds => decide (uptoBulkAll ds ≤ 1048576)
def OpenSpec.upto (s : _root_.Go.ChangeSpec) : _root_.Go.OpenSpec := { _root_.Go.OpenSpec.ofChange s with cond := some uptoSmall }

/-- 'laws.FnExactSteadyNeed', WHERE WHAT IT READS IS OF BULK AT MOST 1048576: true; the input reads as it did. -/
def fnExactSteadyNeedUptoRow : OpenClaim := { program := "ytnlddplhaiceaaa", sum := "69890034694af6d85fd994e750238e5bd2dbb2e5a196f006cd189603b51db4b6", func := "loop.example/g01064/laws.FnExactSteadyNeed", spec := "fnExactSteadyNeed", recurses := true, apart := false, narrowed := true }
def FnExactSteadyNeedUptoSaid : Prop := fnExactSteadyNeedUptoRow.holds Try.pinned (OpenSpec.upto fnExactSteadyNeedSpec)

/-- 'laws.FnExactAfterYear', WHERE WHAT IT READS IS OF BULK AT MOST 1048576: true; the input reads as it did. -/
def fnExactAfterYearUptoRow : OpenClaim := { program := "ytnlddplhaiceaaa", sum := "69890034694af6d85fd994e750238e5bd2dbb2e5a196f006cd189603b51db4b6", func := "loop.example/g01064/laws.FnExactAfterYear", spec := "fnExactAfterYear", apart := false, narrowed := true }
def FnExactAfterYearUptoSaid : Prop := fnExactAfterYearUptoRow.holds Try.pinned (OpenSpec.upto fnExactAfterYearSpec)

/-- 'laws.FnBeds', WHERE WHAT IT READS IS OF BULK AT MOST 1048576: true; the input reads as it did. -/
def fnBedsUptoRow : OpenClaim := { program := "ytnlddplhaiceaaa", sum := "69890034694af6d85fd994e750238e5bd2dbb2e5a196f006cd189603b51db4b6", func := "loop.example/g01064/laws.FnBeds", spec := "fnBeds", apart := false, narrowed := true }
def FnBedsUptoSaid : Prop := fnBedsUptoRow.holds Try.pinned (OpenSpec.upto fnBedsSpec)

/-- 'laws.FnRhythms', WHERE WHAT IT READS IS OF BULK AT MOST 1048576: true; the input reads as it did. -/
def fnRhythmsUptoRow : OpenClaim := { program := "ytnlddplhaiceaaa", sum := "69890034694af6d85fd994e750238e5bd2dbb2e5a196f006cd189603b51db4b6", func := "loop.example/g01064/laws.FnRhythms", spec := "fnRhythms", unfollowed := true, recurses := true, apart := false, narrowed := true }
def FnRhythmsUptoSaid : Prop := fnRhythmsUptoRow.holds Try.pinned (OpenSpec.upto fnRhythmsSpec)

end Rows
end Go.Proofs.Ytnlddplhaiceaaa
