/-
  Functions of whole numbers that answer a number and a code: what each returns, the world unchanged.
  No conditions.
-/
import Derived.Test.YtnagaopogmdfgaaBase
namespace Go.Proofs.Ytnagaopogmdfgaa
open Go.ChangeShapes Go.WideShapes Go.ChangeAt Go.RowKit

/-- LatestStart. -/
def latestV (a b c : Int) : Int × Int := if inR a 1 500 && inR b 1 500 && inR c 0 10000 then (if c < a then (0, 3) else (c - a, 0)) else (0, 2)
/-- The rods of a bundle. -/
def rodsB (g t : Int) : Int := 44100 * g * g / (4840 * t * t)
/-- RodsIn. -/
def rodsV (g t : Int) : Int × Int := if inR g 10 2000 && inR t 1 300 then (rodsB g t, 0) else (0, 2)
/-- The least girth from g on that has room for r rods; k girths are asked. -/
def girthFrom (r t : Int) : Nat → Int → Int × Int
  | 0, _ => (0, 3)
  | k + 1, g => if r ≤ rodsB g t then (g, 0) else girthFrom r t k (g + 1)
/-- GirthFor. -/
def girthV (r t : Int) : Int × Int := if inR r 1 100000 && inR t 1 300 then girthFrom r t 1991 10 else (0, 2)
theorem sq_bd (a m : Int) (h0 : 0 ≤ a) (h1 : a ≤ m) : 0 ≤ a * a ∧ a * a ≤ m * m :=
  ⟨Int.mul_nonneg h0 h0, Int.mul_le_mul h1 h1 h0 (by omega)⟩
theorem sq_pos (a : Int) (h0 : 1 ≤ a) : 1 ≤ a * a := by
  have := Int.mul_le_mul h0 h0 (by omega) (by omega : (0 : Int) ≤ a); omega
theorem cmul_bd (c a : Int) (_hc : 0 ≤ c) : c * a * a = c * (a * a) := by rw [Int.mul_assoc]

theorem latest_i (a b c : Int) (w : World) : Calls Try.prog 32 #[.int .i64 a, .int .i64 b, .int .i64 c] w fun e w' =>
    e = .returned (.tuple #[.int .i64 (latestV a b c).1, .int .i64 (latestV a b c).2]) ∧ w = w' := by
  refine inR_split a 1 500 (fun h1 _ _ => inR_split b 1 500 (fun h2 _ _ => inR_split c 0 10000 (fun h3 _ _ => ?_) (fun h3 => ?_)) (fun h2 => ?_)) (fun h1 => ?_)
  all_goals
    go_enter Try.func32, Try.ntmps32
    go_wp2_with (first | (go_at_call 40; refine (within_c _ _ _ _).mono ?_; rintro e w' ⟨rfl, rfl⟩) | (go_at_call 46; refine (isHourS_c _ _).mono ?_; rintro e w' ⟨rfl, rfl⟩))
  all_goals
    go_ret2
    refine ⟨?_, rfl⟩
    first | (simp [latestV, *]; done) | (simp [latestV, h1, h2, h3, if_neg (show ¬ c < a by omega)])
