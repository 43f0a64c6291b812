/-
  No cell of these rows narrows 'for every input' (looked for: loops, veiled, ifaces, maps, wideKeys, modest, calm, conditions, laid).
  DERIVED. THE GIVEN ROWS OF THIS SEAT. 3 by the template 'for every input the law returns true; each argument reads behind the call as it read before'; 0 by the template 'total and deterministic' (their statements: YtapomfkheidneaaTotals.lean).
  GIVEN WITH THE SEED: the statements are not yours to turn. If you find one false, say at which input.
  Laid BY PROGRAM, IN A SANDBOX (cutbox-rows.mjs): the forced cells as the released guide's own fill.sh prints them over the translation 904f838c0f43dbba… (all of the seat's roots in one cut). By AI agents, Wed Nov 11 2026. No macro, syntax, notation, axiom, sorry.
-/
import Derived.Test.YtapomfkheidneaaChecked
import GoSem.Claim
import GoSem.ClaimJoined
import GoSem.ClaimMapViews
import Derived.JoinedTies
import Derived.KernelRfl
namespace Go.Proofs.Ytapomfkheidneaa
/- THE CELL 'sum', in the pinned program and in every row, IS THE sha256 OF THE DUMP (.gsa) THAT YtapomfkheidneaaProg.lean LOADS. Nothing in Lean hashes anything: it is a label: what it is worth is what the hold of that sum in a sandbox is worth. -/
noncomputable def Try.pinned : Pinned := { name := "ytapomfkheidneaa", sum := "904f838c0f43dbba75e3af62b2ca06c2326406edf00c5d232ef24511d2869d97", checked := Try.checked }
namespace Rows
def none {H : Type} : Left H := { results := [], args := [] }

/-- 'laws.FnExactLengthWith': WHATEVER THE INPUT: true; the input reads as it did. -/
def fnExactLengthWithSpec : ChangeSpec := { name := "fnExactLengthWith", fn := fun _ => fun
  | [d1, d2] => { results := [.lit (.bool true)], args := [d1, d2] }
  | _ => none }
def fnExactLengthWithRow : OpenClaim := { program := "ytapomfkheidneaa", sum := "904f838c0f43dbba75e3af62b2ca06c2326406edf00c5d232ef24511d2869d97", func := "loop.example/g01064/laws.FnExactLengthWith", spec := "fnExactLengthWith", apart := false }
def FnExactLengthWithSaid : Prop := fnExactLengthWithRow.holds Try.pinned (OpenSpec.ofChange fnExactLengthWithSpec)

/-- ITS FALSE NEIGHBOUR: 'it returns false'. Refute it at one input. -/
def fnExactLengthWithWrong : ChangeSpec := { name := "fnExactLengthWith", fn := fun _ => fun
  | [d1, d2] => { results := [.lit (.bool false)], args := [d1, d2] }
  | _ => none }
def FnExactLengthWithWrongFalsely : Prop := fnExactLengthWithRow.holds Try.pinned (OpenSpec.ofChange fnExactLengthWithWrong)

/-- 'laws.FnExactThickAt': WHATEVER THE INPUT: true; the input reads as it did. -/
def fnExactThickAtSpec : ChangeSpec := { name := "fnExactThickAt", fn := fun _ => fun
  | [d1, d2] => { results := [.lit (.bool true)], args := [d1, d2] }
  | _ => none }
def fnExactThickAtRow : OpenClaim := { program := "ytapomfkheidneaa", sum := "904f838c0f43dbba75e3af62b2ca06c2326406edf00c5d232ef24511d2869d97", func := "loop.example/g01064/laws.FnExactThickAt", spec := "fnExactThickAt", apart := false }
def FnExactThickAtSaid : Prop := fnExactThickAtRow.holds Try.pinned (OpenSpec.ofChange fnExactThickAtSpec)

/-- ITS FALSE NEIGHBOUR: 'it returns false'. Refute it at one input. -/
def fnExactThickAtWrong : ChangeSpec := { name := "fnExactThickAt", fn := fun _ => fun
  | [d1, d2] => { results := [.lit (.bool false)], args := [d1, d2] }
  | _ => none }
def FnExactThickAtWrongFalsely : Prop := fnExactThickAtRow.holds Try.pinned (OpenSpec.ofChange fnExactThickAtWrong)

/-- 'laws.FnExactCutTip': WHATEVER THE INPUT: true; the input reads as it did. -/
def fnExactCutTipSpec : ChangeSpec := { name := "fnExactCutTip", fn := fun _ => fun
  | [d1, d2] => { results := [.lit (.bool true)], args := [d1, d2] }
  | _ => none }
def fnExactCutTipRow : OpenClaim := { program := "ytapomfkheidneaa", sum := "904f838c0f43dbba75e3af62b2ca06c2326406edf00c5d232ef24511d2869d97", func := "loop.example/g01064/laws.FnExactCutTip", spec := "fnExactCutTip", apart := false }
def FnExactCutTipSaid : Prop := fnExactCutTipRow.holds Try.pinned (OpenSpec.ofChange fnExactCutTipSpec)

/-- ITS FALSE NEIGHBOUR: 'it returns false'. Refute it at one input. -/
def fnExactCutTipWrong : ChangeSpec := { name := "fnExactCutTip", fn := fun _ => fun
  | [d1, d2] => { results := [.lit (.bool false)], args := [d1, d2] }
  | _ => none }
def FnExactCutTipWrongFalsely : Prop := fnExactCutTipRow.holds Try.pinned (OpenSpec.ofChange fnExactCutTipWrong)

/- THE SECOND FORM. 'bulk': how many values and letters a reading holds, each counted each time it is reached (what is shared counts as often as it is met; a slice's spare places count too). A statement '..UptoSaid' is the law's where the arguments, and the package variables that the reading takes, are together of bulk at most 1048576: NARROWER than '..Said'. Prove '..Said' where nothing that the law and all that it calls make is longer than what came in: it says more and counts as full. Else prove '..UptoSaid'. A law counts once. -/
mutual
def uptoBulk {H : Type} : DataW H → Nat
  | .lit (.string bytes) => bytes.length + 1
  | .lit _ => 1
  | .nil => 1
  | .ptr d => uptoBulk d + 1
  | .slice elems spare => uptoBulkAll elems + uptoBulkAll spare + 1
  | .agg parts => uptoBulkAll parts + 1
  | .iface _ d => uptoBulk d + 1
  | .map entries => uptoBulkEntries entries + 1
  | .held _ => 1
def uptoBulkAll {H : Type} : List (DataW H) → Nat
  | [] => 0
  | d :: r => uptoBulk d + uptoBulkAll r
def uptoBulkEntries {H : Type} : List (Lit × DataW H) → Nat
  | [] => 0
  | x :: r => uptoBulkEntry x + uptoBulkEntries r
def uptoBulkEntry {H : Type} : Lit × DataW H → Nat
  | (.string bytes, d) => bytes.length + uptoBulk d + 1
  | (_, d) => uptoBulk d + 1
 end
def uptoSmall : (H : Type) → List (DataW H) → Bool := fun _ ds => decide (uptoBulkAll ds ≤ 1048576)
def OpenSpec.upto (s : _root_.Go.ChangeSpec) : _root_.Go.OpenSpec := { _root_.Go.OpenSpec.ofChange s with cond := some uptoSmall }

/-- 'laws.FnExactLengthWith', WHERE WHAT IT READS IS OF BULK AT MOST 1048576: true; the input reads as it did. -/
def fnExactLengthWithUptoRow : OpenClaim := { program := "ytapomfkheidneaa", sum := "904f838c0f43dbba75e3af62b2ca06c2326406edf00c5d232ef24511d2869d97", func := "loop.example/g01064/laws.FnExactLengthWith", spec := "fnExactLengthWith", apart := false, narrowed := true }
def FnExactLengthWithUptoSaid : Prop := fnExactLengthWithUptoRow.holds Try.pinned (OpenSpec.upto fnExactLengthWithSpec)

/-- 'laws.FnExactThickAt', WHERE WHAT IT READS IS OF BULK AT MOST 1048576: true; the input reads as it did. -/
def fnExactThickAtUptoRow : OpenClaim := { program := "ytapomfkheidneaa", sum := "904f838c0f43dbba75e3af62b2ca06c2326406edf00c5d232ef24511d2869d97", func := "loop.example/g01064/laws.FnExactThickAt", spec := "fnExactThickAt", apart := false, narrowed := true }
def FnExactThickAtUptoSaid : Prop := fnExactThickAtUptoRow.holds Try.pinned (OpenSpec.upto fnExactThickAtSpec)

/-- 'laws.FnExactCutTip', WHERE WHAT IT READS IS OF BULK AT MOST 1048576: true; the input reads as it did. -/
def fnExactCutTipUptoRow : OpenClaim := { program := "ytapomfkheidneaa", sum := "904f838c0f43dbba75e3af62b2ca06c2326406edf00c5d232ef24511d2869d97", func := "loop.example/g01064/laws.FnExactCutTip", spec := "fnExactCutTip", apart := false, narrowed := true }
def FnExactCutTipUptoSaid : Prop := fnExactCutTipUptoRow.holds Try.pinned (OpenSpec.upto fnExactCutTipSpec)

end Rows
end Go.Proofs.Ytapomfkheidneaa
