/-
  The verifier's helpers over structs of whole numbers: to.., sz.., eq.. .
  No conditions.
-/
import Derived.Test.YtgcpobondcnjcaaGreatDoorMem
import Derived.Outline
namespace Go.Proofs.YtgcpobondcnjcaaGreatDoor
open Go.ChangeShapes Go.WideShapes Go.ChangeAt Go.RowKit Go.Deep

/-- What is left of a size. -/
def szV (n : Nat) (left : Int) : Int := if left - n < 0 then -1 else left - n

end Go.Proofs.YtgcpobondcnjcaaGreatDoor
