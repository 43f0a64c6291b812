/-
  The verifier's helpers over structs of whole numbers: to.., sz.., eq.. .
  No conditions.
-/
import Derived.Test.YtjdijimmbggigaaDoorMem
import Derived.Outline
namespace Go.Proofs.YtjdijimmbggigaaDoor
open Go.ChangeShapes Go.WideShapes Go.ChangeAt Go.RowKit Go.Deep

/-- What is left of a size. -/
def szV (n : Nat) (left : Int) : Int := if left - n < 0 then -1 else left - n

theorem toBunch_c (a b c : Int) (w : World) : Calls Tryd.prog 5 #[.agg #[.int .i64 a, .int .i64 b, .int .i64 c]] w fun e w' =>
    e = .returned (.agg #[.int .i64 a, .int .i64 b, .int .i64 c]) ∧ Below w.heap.size w w' := by
  go_enter Tryd.func5, Tryd.ntmps5
  go_wp2
  refine bodyPost_ret (v := .agg #[.int .i64 a, .int .i64 b, .int .i64 c]) (by simp [results, Tryd.results5, go_sem]) rfl ⟨rfl, ?_⟩
  repeat (first | exact Below.refl _ _ | apply balloc)
end Go.Proofs.YtjdijimmbggigaaDoor
