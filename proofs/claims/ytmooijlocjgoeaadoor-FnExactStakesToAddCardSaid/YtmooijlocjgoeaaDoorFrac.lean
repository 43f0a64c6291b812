/-
  Greatest common divisors and fractions in lowest terms.
  No conditions.
-/
import Derived.Test.YtmooijlocjgoeaaDoorMem
import Derived.RegionTactic
import Derived.BigRegion
import Derived.Deep.RegionWith
namespace Go.Proofs.YtmooijlocjgoeaaDoor
open Go.ChangeShapes Go.WideShapes Go.ChangeAt Go.RowKit Go.Deep

/-- A fraction in lowest terms. -/
def fracN (a b : Nat) : Int := (a : Int) / (Nat.gcd a b : Int)
def fracD (a b : Nat) : Int := (b : Int) / (Nat.gcd a b : Int)
theorem gcd_step (a b : Nat) : Nat.gcd b (a % b) = Nat.gcd a b := by
  rw [Nat.gcd_comm b (a % b), ← Nat.gcd_rec, Nat.gcd_comm]

theorem gcd_s (a b : Nat) (w : World) (ha : a ≤ 4611686018427387904) (hb : b ≤ 4611686018427387904) :
    Calls Tryd.prog 60 #[.int .i64 a, .int .i64 b] w fun e w' => e = .returned (.int .i64 (Nat.gcd a b : Nat)) ∧ w = w' := by
  go_enter Tryd.func60, Tryd.ntmps60
  go_wp2
  go_loop [0, 1] (fun x y => ∃ p q : Nat, p ≤ 4611686018427387904 ∧ q ≤ 4611686018427387904 ∧ x = .int .i64 p ∧ y = .int .i64 q ∧ Hid (Nat.gcd p q = Nat.gcd a b)) (fun _ y => (intOf y).toNat)
  case atStart => exact ⟨a, b, ha, hb, rfl, rfl, rfl⟩
  case round =>
    obtain ⟨p, q, hp, hq, rfl, rfl, HG⟩ := hrel
    by_cases h0 : q = 0
    · subst h0
      go_wp2
      go_ret
      refine ⟨ret_int ?_, rfl⟩
      rw [← HG.out, Nat.gcd_zero_right]
    · have hz : ((q : Int) == 0) = false := by rw [beq_eq_false_iff_ne]; omega
      have hne : ((q : Int) != 0) = true := by rw [bne_iff_ne]; omega
      have hlt := Nat.mod_lt p (by omega : 0 < q)
      go_wp2
      go_round
      case rel => exact ⟨q, p % q, hq, by omega, rfl, by simp, by show _ = _; rw [gcd_step]; exact HG.out⟩
      case measure => simp [intOf]; omega

theorem gcd_i (a b : Nat) (w : World) (ha : a ≤ 4611686018427387904) (hb : b ≤ 4611686018427387904) :
    Calls Tryd.prog 61 #[.int .i64 a, .int .i64 b] w fun e w' => e = .returned (.int .i64 (Nat.gcd a b : Nat)) ∧ Below w.heap.size w w' := by
  go_enter Tryd.func61, Tryd.ntmps61
  go_wp2
  go_loopw [0, 1] (fun x y wr => ∃ p q : Nat, p ≤ 4611686018427387904 ∧ q ≤ 4611686018427387904 ∧ x = .int .i64 p ∧ y = .int .i64 q ∧ Hid (Nat.gcd p q = Nat.gcd a b) ∧ Below w.heap.size w wr) (fun _ y _ => (intOf y).toNat)
  case atStart => exact ⟨a, b, ha, hb, rfl, rfl, rfl, Below.refl _ _⟩
  case round =>
    obtain ⟨p, q, hp, hq, rfl, rfl, HG, hbel⟩ := hrel
    by_cases h0 : q = 0
    · subst h0
      go_wp2
      go_ret
      refine ⟨ret_int ?_, hbel⟩
      rw [← HG.out, Nat.gcd_zero_right]
    · have hz : ((q : Int) == 0) = false := by rw [beq_eq_false_iff_ne]; omega
      have hne : ((q : Int) != 0) = true := by rw [bne_iff_ne]; omega
      have hlt := Nat.mod_lt p (by omega : 0 < q)
      go_wp2
      go_quiet (fail)
      go_wp2
      go_roundw
      case rel => exact ⟨q, p % q, hq, by omega, rfl, by simp, by show _ = _; rw [gcd_step]; exact HG.out, bdrewN hbel _⟩
      case measure => simp [intOf]; omega

theorem frac_bd (a g : Nat) (hg : 1 ≤ g) : 0 ≤ (a : Int) / (g : Int) ∧ (a : Int) / (g : Int) ≤ a := by
  constructor
  · exact Int.ediv_nonneg (by omega) (by omega)
  · have := Nat.div_le_self a g
    rw [← Int.natCast_ediv]; omega

/-- The same over whole numbers that are not negative. -/
def frN (a b : Int) : Int := fracN a.toNat b.toNat
def frD (a b : Int) : Int := fracD a.toNat b.toNat