/-
  No cell of these rows narrows 'for every input' (looked for: loops, veiled, ifaces, maps, wideKeys, modest, calm, conditions, laid).
  DERIVED. THE GIVEN ROWS OF THIS SEAT. 10 by the template 'for every input the law returns true; each argument reads behind the call as it read before'; 0 by the template 'total and deterministic' (their statements: YtnagaopogmdfgaaTotals.lean).
  GIVEN WITH THE SEED: the statements are not yours to turn. If you find one false, say at which input.
  Laid BY PROGRAM, IN A SANDBOX (cutbox-rows.mjs): the forced cells as the released guide's own fill.sh prints them over the translation 5883d934951a2e1f… (all of the seat's roots in one cut). By AI agents, Wed Nov 11 2026. No macro, syntax, notation, axiom, sorry.
-/
import Derived.Test.YtnagaopogmdfgaaChecked
import GoSem.Claim
import GoSem.ClaimJoined
import GoSem.ClaimMapViews
import Derived.JoinedTies
import Derived.KernelRfl
namespace Go.Proofs.Ytnagaopogmdfgaa
/- THE CELL 'sum', in the pinned program and in every row, IS THE sha256 OF THE DUMP (.gsa) THAT YtnagaopogmdfgaaProg.lean LOADS. Nothing in Lean hashes anything: it is a label: what it is worth is what the hold of that sum in a sandbox is worth. -/
noncomputable def Try.pinned : Pinned := { name := "ytnagaopogmdfgaa", sum := "5883d934951a2e1f6089f888e0c92264adbe03dfb5c6b179eb9de68f1d8f80c6", checked := Try.checked }
namespace Rows
def none {H : Type} : Left H := { results := [], args := [] }

/-- 'laws.FnSoaking': WHATEVER THE INPUT: true; the input reads as it did. -/
def fnSoakingSpec : ChangeSpec := { name := "fnSoaking", fn := fun _ => fun
  | [d1, d2] => { results := [.lit (.bool true)], args := [d1, d2] }
  | _ => none }
def fnSoakingRow : OpenClaim := { program := "ytnagaopogmdfgaa", sum := "5883d934951a2e1f6089f888e0c92264adbe03dfb5c6b179eb9de68f1d8f80c6", func := "loop.example/g01064/laws.FnSoaking", spec := "fnSoaking", recurses := true, apart := false }
def FnSoakingSaid : Prop := fnSoakingRow.holds Try.pinned (OpenSpec.ofChange fnSoakingSpec)

/-- ITS FALSE NEIGHBOUR: 'it returns false'. Refute it at one input. -/
def fnSoakingWrong : ChangeSpec := { name := "fnSoaking", fn := fun _ => fun
  | [d1, d2] => { results := [.lit (.bool false)], args := [d1, d2] }
  | _ => none }
def FnSoakingWrongFalsely : Prop := fnSoakingRow.holds Try.pinned (OpenSpec.ofChange fnSoakingWrong)

/-- 'laws.FnExactValidBatches': WHATEVER THE INPUT: true; the input reads as it did. -/
def fnExactValidBatchesSpec : ChangeSpec := { name := "fnExactValidBatches", fn := fun _ => fun
  | [d] => { results := [.lit (.bool true)], args := [d] }
  | _ => none }
def fnExactValidBatchesRow : OpenClaim := { program := "ytnagaopogmdfgaa", sum := "5883d934951a2e1f6089f888e0c92264adbe03dfb5c6b179eb9de68f1d8f80c6", func := "loop.example/g01064/laws.FnExactValidBatches", spec := "fnExactValidBatches", apart := false }
def FnExactValidBatchesSaid : Prop := fnExactValidBatchesRow.holds Try.pinned (OpenSpec.ofChange fnExactValidBatchesSpec)

/-- ITS FALSE NEIGHBOUR: 'it returns false'. Refute it at one input. -/
def fnExactValidBatchesWrong : ChangeSpec := { name := "fnExactValidBatches", fn := fun _ => fun
  | [d] => { results := [.lit (.bool false)], args := [d] }
  | _ => none }
def FnExactValidBatchesWrongFalsely : Prop := fnExactValidBatchesRow.holds Try.pinned (OpenSpec.ofChange fnExactValidBatchesWrong)

/-- 'laws.FnExactSameBatches': WHATEVER THE INPUT: true; the input reads as it did. -/
def fnExactSameBatchesSpec : ChangeSpec := { name := "fnExactSameBatches", fn := fun _ => fun
  | [d1, d2] => { results := [.lit (.bool true)], args := [d1, d2] }
  | _ => none }
def fnExactSameBatchesRow : OpenClaim := { program := "ytnagaopogmdfgaa", sum := "5883d934951a2e1f6089f888e0c92264adbe03dfb5c6b179eb9de68f1d8f80c6", func := "loop.example/g01064/laws.FnExactSameBatches", spec := "fnExactSameBatches", apart := false }
def FnExactSameBatchesSaid : Prop := fnExactSameBatchesRow.holds Try.pinned (OpenSpec.ofChange fnExactSameBatchesSpec)

/-- ITS FALSE NEIGHBOUR: 'it returns false'. Refute it at one input. -/
def fnExactSameBatchesWrong : ChangeSpec := { name := "fnExactSameBatches", fn := fun _ => fun
  | [d1, d2] => { results := [.lit (.bool false)], args := [d1, d2] }
  | _ => none }
def FnExactSameBatchesWrongFalsely : Prop := fnExactSameBatchesRow.holds Try.pinned (OpenSpec.ofChange fnExactSameBatchesWrong)

/-- 'laws.FnExactInTank': WHATEVER THE INPUT: true; the input reads as it did. -/
def fnExactInTankSpec : ChangeSpec := { name := "fnExactInTank", fn := fun _ => fun
  | [d1, d2] => { results := [.lit (.bool true)], args := [d1, d2] }
  | _ => none }
def fnExactInTankRow : OpenClaim := { program := "ytnagaopogmdfgaa", sum := "5883d934951a2e1f6089f888e0c92264adbe03dfb5c6b179eb9de68f1d8f80c6", func := "loop.example/g01064/laws.FnExactInTank", spec := "fnExactInTank", apart := false }
def FnExactInTankSaid : Prop := fnExactInTankRow.holds Try.pinned (OpenSpec.ofChange fnExactInTankSpec)

/-- ITS FALSE NEIGHBOUR: 'it returns false'. Refute it at one input. -/
def fnExactInTankWrong : ChangeSpec := { name := "fnExactInTank", fn := fun _ => fun
  | [d1, d2] => { results := [.lit (.bool false)], args := [d1, d2] }
  | _ => none }
def FnExactInTankWrongFalsely : Prop := fnExactInTankRow.holds Try.pinned (OpenSpec.ofChange fnExactInTankWrong)

/-- 'laws.FnExactSuppleAt': WHATEVER THE INPUT: true; the input reads as it did. -/
def fnExactSuppleAtSpec : ChangeSpec := { name := "fnExactSuppleAt", fn := fun _ => fun
  | [d1, d2] => { results := [.lit (.bool true)], args := [d1, d2] }
  | _ => none }
def fnExactSuppleAtRow : OpenClaim := { program := "ytnagaopogmdfgaa", sum := "5883d934951a2e1f6089f888e0c92264adbe03dfb5c6b179eb9de68f1d8f80c6", func := "loop.example/g01064/laws.FnExactSuppleAt", spec := "fnExactSuppleAt", apart := false }
def FnExactSuppleAtSaid : Prop := fnExactSuppleAtRow.holds Try.pinned (OpenSpec.ofChange fnExactSuppleAtSpec)

/-- ITS FALSE NEIGHBOUR: 'it returns false'. Refute it at one input. -/
def fnExactSuppleAtWrong : ChangeSpec := { name := "fnExactSuppleAt", fn := fun _ => fun
  | [d1, d2] => { results := [.lit (.bool false)], args := [d1, d2] }
  | _ => none }
def FnExactSuppleAtWrongFalsely : Prop := fnExactSuppleAtRow.holds Try.pinned (OpenSpec.ofChange fnExactSuppleAtWrong)

/-- 'laws.FnSupple': WHATEVER THE INPUT: true; the input reads as it did. -/
def fnSuppleSpec : ChangeSpec := { name := "fnSupple", fn := fun _ => fun
  | [d1, d2] => { results := [.lit (.bool true)], args := [d1, d2] }
  | _ => none }
def fnSuppleRow : OpenClaim := { program := "ytnagaopogmdfgaa", sum := "5883d934951a2e1f6089f888e0c92264adbe03dfb5c6b179eb9de68f1d8f80c6", func := "loop.example/g01064/laws.FnSupple", spec := "fnSupple", apart := false }
def FnSuppleSaid : Prop := fnSuppleRow.holds Try.pinned (OpenSpec.ofChange fnSuppleSpec)

/-- ITS FALSE NEIGHBOUR: 'it returns false'. Refute it at one input. -/
def fnSuppleWrong : ChangeSpec := { name := "fnSupple", fn := fun _ => fun
  | [d1, d2] => { results := [.lit (.bool false)], args := [d1, d2] }
  | _ => none }
def FnSuppleWrongFalsely : Prop := fnSuppleRow.holds Try.pinned (OpenSpec.ofChange fnSuppleWrong)

/-- 'laws.FnExactSuppleHours': WHATEVER THE INPUT: true; the input reads as it did. -/
def fnExactSuppleHoursSpec : ChangeSpec := { name := "fnExactSuppleHours", fn := fun _ => fun
  | [d1, d2] => { results := [.lit (.bool true)], args := [d1, d2] }
  | _ => none }
def fnExactSuppleHoursRow : OpenClaim := { program := "ytnagaopogmdfgaa", sum := "5883d934951a2e1f6089f888e0c92264adbe03dfb5c6b179eb9de68f1d8f80c6", func := "loop.example/g01064/laws.FnExactSuppleHours", spec := "fnExactSuppleHours", apart := false }
def FnExactSuppleHoursSaid : Prop := fnExactSuppleHoursRow.holds Try.pinned (OpenSpec.ofChange fnExactSuppleHoursSpec)

/-- ITS FALSE NEIGHBOUR: 'it returns false'. Refute it at one input. -/
def fnExactSuppleHoursWrong : ChangeSpec := { name := "fnExactSuppleHours", fn := fun _ => fun
  | [d1, d2] => { results := [.lit (.bool false)], args := [d1, d2] }
  | _ => none }
def FnExactSuppleHoursWrongFalsely : Prop := fnExactSuppleHoursRow.holds Try.pinned (OpenSpec.ofChange fnExactSuppleHoursWrong)

/-- 'laws.FnExactBestHour': WHATEVER THE INPUT: true; the input reads as it did. -/
def fnExactBestHourSpec : ChangeSpec := { name := "fnExactBestHour", fn := fun _ => fun
  | [d] => { results := [.lit (.bool true)], args := [d] }
  | _ => none }
def fnExactBestHourRow : OpenClaim := { program := "ytnagaopogmdfgaa", sum := "5883d934951a2e1f6089f888e0c92264adbe03dfb5c6b179eb9de68f1d8f80c6", func := "loop.example/g01064/laws.FnExactBestHour", spec := "fnExactBestHour", apart := false }
def FnExactBestHourSaid : Prop := fnExactBestHourRow.holds Try.pinned (OpenSpec.ofChange fnExactBestHourSpec)

/-- ITS FALSE NEIGHBOUR: 'it returns false'. Refute it at one input. -/
def fnExactBestHourWrong : ChangeSpec := { name := "fnExactBestHour", fn := fun _ => fun
  | [d] => { results := [.lit (.bool false)], args := [d] }
  | _ => none }
def FnExactBestHourWrongFalsely : Prop := fnExactBestHourRow.holds Try.pinned (OpenSpec.ofChange fnExactBestHourWrong)

/-- 'laws.FnExactFirstTooMany': WHATEVER THE INPUT: true; the input reads as it did. -/
def fnExactFirstTooManySpec : ChangeSpec := { name := "fnExactFirstTooMany", fn := fun _ => fun
  | [d1, d2] => { results := [.lit (.bool true)], args := [d1, d2] }
  | _ => none }
def fnExactFirstTooManyRow : OpenClaim := { program := "ytnagaopogmdfgaa", sum := "5883d934951a2e1f6089f888e0c92264adbe03dfb5c6b179eb9de68f1d8f80c6", func := "loop.example/g01064/laws.FnExactFirstTooMany", spec := "fnExactFirstTooMany", apart := false }
def FnExactFirstTooManySaid : Prop := fnExactFirstTooManyRow.holds Try.pinned (OpenSpec.ofChange fnExactFirstTooManySpec)

/-- ITS FALSE NEIGHBOUR: 'it returns false'. Refute it at one input. -/
def fnExactFirstTooManyWrong : ChangeSpec := { name := "fnExactFirstTooMany", fn := fun _ => fun
  | [d1, d2] => { results := [.lit (.bool false)], args := [d1, d2] }
  | _ => none }
def FnExactFirstTooManyWrongFalsely : Prop := fnExactFirstTooManyRow.holds Try.pinned (OpenSpec.ofChange fnExactFirstTooManyWrong)

/-- 'laws.FnExactEarliestPlan': WHATEVER THE INPUT: true; the input reads as it did. -/
def fnExactEarliestPlanSpec : ChangeSpec := { name := "fnExactEarliestPlan", fn := fun _ => fun
  | [d1, d2] => { results := [.lit (.bool true)], args := [d1, d2] }
  | _ => none }
def fnExactEarliestPlanRow : OpenClaim := { program := "ytnagaopogmdfgaa", sum := "5883d934951a2e1f6089f888e0c92264adbe03dfb5c6b179eb9de68f1d8f80c6", func := "loop.example/g01064/laws.FnExactEarliestPlan", spec := "fnExactEarliestPlan", recurses := true, apart := false }
def FnExactEarliestPlanSaid : Prop := fnExactEarliestPlanRow.holds Try.pinned (OpenSpec.ofChange fnExactEarliestPlanSpec)

/-- ITS FALSE NEIGHBOUR: 'it returns false'. Refute it at one input. -/
def fnExactEarliestPlanWrong : ChangeSpec := { name := "fnExactEarliestPlan", fn := fun _ => fun
  | [d1, d2] => { results := [.lit (.bool false)], args := [d1, d2] }
  | _ => none }
def FnExactEarliestPlanWrongFalsely : Prop := fnExactEarliestPlanRow.holds Try.pinned (OpenSpec.ofChange fnExactEarliestPlanWrong)

/- THE SECOND FORM. 'bulk': how many values and letters a reading holds, each counted each time it is reached (what is shared counts as often as it is met; a slice's spare places count too). A statement '..UptoSaid' is the law's where the arguments, and the package variables that the reading takes, are together of bulk at most 1048576: NARROWER than '..Said'. Prove '..Said' where nothing that the law and all that it calls make is longer than what came in: it says more and counts as full. Else prove '..UptoSaid'. A law counts once. -/
mutual
def uptoBulk {H : Type} : DataW H → Nat
  | .lit (.string bytes) => bytes.length + 1
  | .lit _ => 1
  | .nil => 1
  | .ptr d => uptoBulk d + 1
  | .slice elems spare => uptoBulkAll elems + uptoBulkAll spare + 1
  | .agg parts => uptoBulkAll parts + 1
  | .iface _ d => uptoBulk d + 1
  | .map entries => uptoBulkEntries entries + 1
  | .held _ => 1
def uptoBulkAll {H : Type} : List (DataW H) → Nat
  | [] => 0
  | d :: r => uptoBulk d + uptoBulkAll r
def uptoBulkEntries {H : Type} : List (Lit × DataW H) → Nat
  | [] => 0
  | x :: r => uptoBulkEntry x + uptoBulkEntries r
def uptoBulkEntry {H : Type} : Lit × DataW H → Nat
  | (.string bytes, d) => bytes.length + uptoBulk d + 1
  | (_, d) => uptoBulk d + 1
 end
def uptoSmall : (H : Type) → List (DataW H) → Bool := fun _ ds => decide (uptoBulkAll ds ≤ 1048576)
def OpenSpec.upto (s : _root_.Go.ChangeSpec) : _root_.Go.OpenSpec := { _root_.Go.OpenSpec.ofChange s with cond := some uptoSmall }

/-- 'laws.FnSoaking', WHERE WHAT IT READS IS OF BULK AT MOST 1048576: true; the input reads as it did. -/
def fnSoakingUptoRow : OpenClaim := { program := "ytnagaopogmdfgaa", sum := "5883d934951a2e1f6089f888e0c92264adbe03dfb5c6b179eb9de68f1d8f80c6", func := "loop.example/g01064/laws.FnSoaking", spec := "fnSoaking", recurses := true, apart := false, narrowed := true }
def FnSoakingUptoSaid : Prop := fnSoakingUptoRow.holds Try.pinned (OpenSpec.upto fnSoakingSpec)

/-- 'laws.FnExactValidBatches', WHERE WHAT IT READS IS OF BULK AT MOST 1048576: true; the input reads as it did. -/
def fnExactValidBatchesUptoRow : OpenClaim := { program := "ytnagaopogmdfgaa", sum := "5883d934951a2e1f6089f888e0c92264adbe03dfb5c6b179eb9de68f1d8f80c6", func := "loop.example/g01064/laws.FnExactValidBatches", spec := "fnExactValidBatches", apart := false, narrowed := true }
def FnExactValidBatchesUptoSaid : Prop := fnExactValidBatchesUptoRow.holds Try.pinned (OpenSpec.upto fnExactValidBatchesSpec)

/-- 'laws.FnExactSameBatches', WHERE WHAT IT READS IS OF BULK AT MOST 1048576: true; the input reads as it did. -/
def fnExactSameBatchesUptoRow : OpenClaim := { program := "ytnagaopogmdfgaa", sum := "5883d934951a2e1f6089f888e0c92264adbe03dfb5c6b179eb9de68f1d8f80c6", func := "loop.example/g01064/laws.FnExactSameBatches", spec := "fnExactSameBatches", apart := false, narrowed := true }
def FnExactSameBatchesUptoSaid : Prop := fnExactSameBatchesUptoRow.holds Try.pinned (OpenSpec.upto fnExactSameBatchesSpec)

/-- 'laws.FnExactInTank', WHERE WHAT IT READS IS OF BULK AT MOST 1048576: true; the input reads as it did. -/
def fnExactInTankUptoRow : OpenClaim := { program := "ytnagaopogmdfgaa", sum := "5883d934951a2e1f6089f888e0c92264adbe03dfb5c6b179eb9de68f1d8f80c6", func := "loop.example/g01064/laws.FnExactInTank", spec := "fnExactInTank", apart := false, narrowed := true }
def FnExactInTankUptoSaid : Prop := fnExactInTankUptoRow.holds Try.pinned (OpenSpec.upto fnExactInTankSpec)

/-- 'laws.FnExactSuppleAt', WHERE WHAT IT READS IS OF BULK AT MOST 1048576: true; the input reads as it did. -/
def fnExactSuppleAtUptoRow : OpenClaim := { program := "ytnagaopogmdfgaa", sum := "5883d934951a2e1f6089f888e0c92264adbe03dfb5c6b179eb9de68f1d8f80c6", func := "loop.example/g01064/laws.FnExactSuppleAt", spec := "fnExactSuppleAt", apart := false, narrowed := true }
def FnExactSuppleAtUptoSaid : Prop := fnExactSuppleAtUptoRow.holds Try.pinned (OpenSpec.upto fnExactSuppleAtSpec)

/-- 'laws.FnSupple', WHERE WHAT IT READS IS OF BULK AT MOST 1048576: true; the input reads as it did. -/
def fnSuppleUptoRow : OpenClaim := { program := "ytnagaopogmdfgaa", sum := "5883d934951a2e1f6089f888e0c92264adbe03dfb5c6b179eb9de68f1d8f80c6", func := "loop.example/g01064/laws.FnSupple", spec := "fnSupple", apart := false, narrowed := true }
def FnSuppleUptoSaid : Prop := fnSuppleUptoRow.holds Try.pinned (OpenSpec.upto fnSuppleSpec)

/-- 'laws.FnExactSuppleHours', WHERE WHAT IT READS IS OF BULK AT MOST 1048576: true; the input reads as it did. -/
def fnExactSuppleHoursUptoRow : OpenClaim := { program := "ytnagaopogmdfgaa", sum := "5883d934951a2e1f6089f888e0c92264adbe03dfb5c6b179eb9de68f1d8f80c6", func := "loop.example/g01064/laws.FnExactSuppleHours", spec := "fnExactSuppleHours", apart := false, narrowed := true }
def FnExactSuppleHoursUptoSaid : Prop := fnExactSuppleHoursUptoRow.holds Try.pinned (OpenSpec.upto fnExactSuppleHoursSpec)

/-- 'laws.FnExactBestHour', WHERE WHAT IT READS IS OF BULK AT MOST 1048576: true; the input reads as it did. -/
def fnExactBestHourUptoRow : OpenClaim := { program := "ytnagaopogmdfgaa", sum := "5883d934951a2e1f6089f888e0c92264adbe03dfb5c6b179eb9de68f1d8f80c6", func := "loop.example/g01064/laws.FnExactBestHour", spec := "fnExactBestHour", apart := false, narrowed := true }
def FnExactBestHourUptoSaid : Prop := fnExactBestHourUptoRow.holds Try.pinned (OpenSpec.upto fnExactBestHourSpec)

/-- 'laws.FnExactFirstTooMany', WHERE WHAT IT READS IS OF BULK AT MOST 1048576: true; the input reads as it did. -/
def fnExactFirstTooManyUptoRow : OpenClaim := { program := "ytnagaopogmdfgaa", sum := "5883d934951a2e1f6089f888e0c92264adbe03dfb5c6b179eb9de68f1d8f80c6", func := "loop.example/g01064/laws.FnExactFirstTooMany", spec := "fnExactFirstTooMany", apart := false, narrowed := true }
def FnExactFirstTooManyUptoSaid : Prop := fnExactFirstTooManyUptoRow.holds Try.pinned (OpenSpec.upto fnExactFirstTooManySpec)

/-- 'laws.FnExactEarliestPlan', WHERE WHAT IT READS IS OF BULK AT MOST 1048576: true; the input reads as it did. -/
def fnExactEarliestPlanUptoRow : OpenClaim := { program := "ytnagaopogmdfgaa", sum := "5883d934951a2e1f6089f888e0c92264adbe03dfb5c6b179eb9de68f1d8f80c6", func := "loop.example/g01064/laws.FnExactEarliestPlan", spec := "fnExactEarliestPlan", recurses := true, apart := false, narrowed := true }
def FnExactEarliestPlanUptoSaid : Prop := fnExactEarliestPlanUptoRow.holds Try.pinned (OpenSpec.upto fnExactEarliestPlanSpec)

end Rows
end Go.Proofs.Ytnagaopogmdfgaa
