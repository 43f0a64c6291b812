/-
  Functions of whole numbers that answer a number and a code: what each returns, the world unchanged.
  No conditions.
-/
import Derived.Test.YtlnlohopgnocaaaDoorBase
namespace Go.Proofs.YtlnlohopgnocaaaDoor
open Go.ChangeShapes Go.WideShapes Go.ChangeAt Go.RowKit

/-- LatestStart. -/
def latestV (a b c : Int) : Int × Int := if inR a 1 500 && inR b 1 500 && inR c 0 10000 then (if c < a then (0, 3) else (c - a, 0)) else (0, 2)
/-- The rods of a bundle. -/
def rodsB (g t : Int) : Int := 44100 * g * g / (4840 * t * t)
/-- RodsIn. -/
def rodsV (g t : Int) : Int × Int := if inR g 10 2000 && inR t 1 300 then (rodsB g t, 0) else (0, 2)
/-- The least girth from g on that has room for r rods; k girths are asked. -/
def girthFrom (r t : Int) : Nat → Int → Int × Int
  | 0, _ => (0, 3)
  | k + 1, g => if r ≤ rodsB g t then (g, 0) else girthFrom r t k (g + 1)
/-- GirthFor. -/
def girthV (r t : Int) : Int × Int := if inR r 1 100000 && inR t 1 300 then girthFrom r t 1991 10 else (0, 2)
theorem sq_bd (a m : Int) (h0 : 0 ≤ a) (h1 : a ≤ m) : 0 ≤ a * a ∧ a * a ≤ m * m :=
  ⟨Int.mul_nonneg h0 h0, Int.mul_le_mul h1 h1 h0 (by omega)⟩
theorem sq_pos (a : Int) (h0 : 1 ≤ a) : 1 ≤ a * a := by
  have := Int.mul_le_mul h0 h0 (by omega) (by omega : (0 : Int) ≤ a); omega
theorem cmul_bd (c a : Int) (_hc : 0 ≤ c) : c * a * a = c * (a * a) := by rw [Int.mul_assoc]
