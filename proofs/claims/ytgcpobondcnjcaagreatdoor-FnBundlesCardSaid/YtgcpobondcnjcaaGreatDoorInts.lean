/-
  Slices of whole numbers: the verifier's helpers, rising numbers.
  No conditions.
-/
import Derived.Test.YtgcpobondcnjcaaGreatDoorValid
import Derived.IntWalk
namespace Go.Proofs.YtgcpobondcnjcaaGreatDoor
open Go.ChangeShapes Go.WideShapes Go.ChangeAt Go.RowKit Go.Deep

/-- A number is within bounds and greater than the one in front of it. -/
def riseAt (zs : List Int) (lo hi : Int) (i : Nat) : Bool := inR (gi zs i) lo hi && (decide (i = 0) || decide (gi zs (i - 1) < gi zs i))
