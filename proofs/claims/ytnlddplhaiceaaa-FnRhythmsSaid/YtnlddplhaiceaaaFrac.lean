/-
  Greatest common divisors and fractions in lowest terms.
  No conditions.
-/
import Derived.Test.YtnlddplhaiceaaaMem
import Derived.RegionTactic
import Derived.BigRegion
import Derived.Deep.RegionWith
namespace Go.Proofs.Ytnlddplhaiceaaa
open Go.ChangeShapes Go.WideShapes Go.ChangeAt Go.RowKit Go.Deep

/-- A fraction in lowest terms. -/
def fracN (a b : Nat) : Int := (a : Int) / (Nat.gcd a b : Int)
def fracD (a b : Nat) : Int := (b : Int) / (Nat.gcd a b : Int)
theorem gcd_step (a b : Nat) : Nat.gcd b (a % b) = Nat.gcd a b := by
  rw [Nat.gcd_comm b (a % b), ← Nat.gcd_rec, Nat.gcd_comm]

theorem gcd_s (a b : Nat) (w : World) (ha : a ≤ 4611686018427387904) (hb : b ≤ 4611686018427387904) :
    Calls Try.prog 96 #[.int .i64 a, .int .i64 b] w fun e w' => e = .returned (.int .i64 (Nat.gcd a b : Nat)) ∧ w = w' := by
  go_enter Try.func96, Try.ntmps96
  go_wp2
  go_loop [0, 1] (fun x y => ∃ p q : Nat, p ≤ 4611686018427387904 ∧ q ≤ 4611686018427387904 ∧ x = .int .i64 p ∧ y = .int .i64 q ∧ Hid (Nat.gcd p q = Nat.gcd a b)) (fun _ y => (intOf y).toNat)
  case atStart => exact ⟨a, b, ha, hb, rfl, rfl, rfl⟩
  case round =>
    obtain ⟨p, q, hp, hq, rfl, rfl, HG⟩ := hrel
    by_cases h0 : q = 0
    · subst h0
      go_wp2
      go_ret
      refine ⟨ret_int ?_, rfl⟩
      rw [← HG.out, Nat.gcd_zero_right]
    · have hz : ((q : Int) == 0) = false := by rw [beq_eq_false_iff_ne]; omega
      have hne : ((q : Int) != 0) = true := by rw [bne_iff_ne]; omega
      have hlt := Nat.mod_lt p (by omega : 0 < q)
      go_wp2
      go_round
      case rel => exact ⟨q, p % q, hq, by omega, rfl, by simp, by show _ = _; rw [gcd_step]; exact HG.out⟩
      case measure => simp [intOf]; omega

theorem gcd_i (a b : Nat) (w : World) (ha : a ≤ 4611686018427387904) (hb : b ≤ 4611686018427387904) :
    Calls Try.prog 95 #[.int .i64 a, .int .i64 b] w fun e w' => e = .returned (.int .i64 (Nat.gcd a b : Nat)) ∧ Below w.heap.size w w' := by
  go_enter Try.func95, Try.ntmps95
  go_wp2
  go_loopw [0, 1] (fun x y wr => ∃ p q : Nat, p ≤ 4611686018427387904 ∧ q ≤ 4611686018427387904 ∧ x = .int .i64 p ∧ y = .int .i64 q ∧ Hid (Nat.gcd p q = Nat.gcd a b) ∧ Below w.heap.size w wr) (fun _ y _ => (intOf y).toNat)
  case atStart => exact ⟨a, b, ha, hb, rfl, rfl, rfl, Below.refl _ _⟩
  case round =>
    obtain ⟨p, q, hp, hq, rfl, rfl, HG, hbel⟩ := hrel
    by_cases h0 : q = 0
    · subst h0
      go_wp2
      go_ret
      refine ⟨ret_int ?_, hbel⟩
      rw [← HG.out, Nat.gcd_zero_right]
    · have hz : ((q : Int) == 0) = false := by rw [beq_eq_false_iff_ne]; omega
      have hne : ((q : Int) != 0) = true := by rw [bne_iff_ne]; omega
      have hlt := Nat.mod_lt p (by omega : 0 < q)
      go_wp2
      go_quiet (fail)
      go_wp2
      go_roundw
      case rel => exact ⟨q, p % q, hq, by omega, rfl, by simp, by show _ = _; rw [gcd_step]; exact HG.out, bdrewN hbel _⟩
      case measure => simp [intOf]; omega

theorem size_s (a : Int) (w : World) (h : 0 ≤ a) : Calls Try.prog 97 #[.int .i64 a] w fun e w' => e = .returned (.int .i64 a) ∧ w = w' := by
  go_enter Try.func97, Try.ntmps97
  go_wp2
  go_ret
  exact ⟨rfl, rfl⟩

theorem frac_bd (a g : Nat) (hg : 1 ≤ g) : 0 ≤ (a : Int) / (g : Int) ∧ (a : Int) / (g : Int) ≤ a := by
  constructor
  · exact Int.ediv_nonneg (by omega) (by omega)
  · have := Nat.div_le_self a g
    rw [← Int.natCast_ediv]; omega

theorem frac_s (a b : Nat) (w : World) (ha : a ≤ 4611686018427387904) (h0 : 1 ≤ b) (hb : b ≤ 4611686018427387904) :
    Calls Try.prog 81 #[.int .i64 a, .int .i64 b] w fun e w' => e = .returned (.agg #[.int .i64 (fracN a b), .int .i64 (fracD a b)]) ∧ Below w.heap.size w w' := by
  have hg : 1 ≤ Nat.gcd a b := Nat.gcd_pos_of_pos_right a (by omega)
  have hz : (((Nat.gcd a b : Nat) : Int) == 0) = false := by rw [beq_eq_false_iff_ne]; omega
  have q1 := frac_bd a _ hg
  have q2 := frac_bd b _ hg
  go_enter Try.func81, Try.ntmps81
  go_wp2_with fail
  refine (size_s _ _ (by omega)).mono ?_
  rintro e w' ⟨rfl, rfl⟩
  go_wp2_with fail
  refine (gcd_s _ _ _ ha hb).mono ?_
  rintro e w' ⟨rfl, rfl⟩
  go_wp2_with fail
  go_region
  go_wp2
  exact bodyPost_ret (v := .agg #[.int .i64 (fracN a b), .int .i64 (fracD a b)]) (by simp [results, Try.results81, go_sem, fracN, fracD]) rfl ⟨rfl, by repeat (first | exact Below.refl _ _ | apply balloc | apply bdrewN | apply Below.drew)⟩

theorem frac_i (a b : Nat) (w : World) (ha : a ≤ 4611686018427387904) (h0 : 1 ≤ b) (hb : b ≤ 4611686018427387904) :
    Calls Try.prog 80 #[.int .i64 a, .int .i64 b] w fun e w' => e = .returned (.agg #[.int .i64 (fracN a b), .int .i64 (fracD a b)]) ∧ Below w.heap.size w w' := by
  have hg : 1 ≤ Nat.gcd a b := Nat.gcd_pos_of_pos_right a (by omega)
  have hz : (((Nat.gcd a b : Nat) : Int) == 0) = false := by rw [beq_eq_false_iff_ne]; omega
  have q1 := frac_bd a _ hg
  have q2 := frac_bd b _ hg
  go_enter Try.func80, Try.ntmps80
  go_wp2_with fail
  refine (gcd_i _ _ _ ha hb).mono ?_
  rintro e w1 ⟨rfl, hb1⟩
  have B1 := (Blk.new w 56 #[.int .i64 0, .int .i64 0]).on hb1
  have hlt := B1.lt
  have d0 := B1.cell 0
  have d1 := B1.cell 1
  have f0 := B1.frozen 0
  have f1 := B1.frozen 1
  have BB := Lib.hid B1
  clear B1
  simp at d0 d1
  go_wp2_with fail
  go_region
  go_wp2
  refine bodyPost_ret (v := .agg #[.int .i64 (fracN a b), .int .i64 (fracD a b)]) (by simp [results, Try.results80, go_sem, fracN, fracD, d0, d1]) rfl ⟨rfl, ?_⟩
  have hbel := btrans (balloc (Below.refl _ w) _) hb1
  repeat (first | exact hbel | apply bdrewN | apply Below.drew | refine bset ?_ (Nat.le_refl _) _)

/-- The same over whole numbers that are not negative. -/
def frN (a b : Int) : Int := fracN a.toNat b.toNat
def frD (a b : Int) : Int := fracD a.toNat b.toNat
theorem fr_s (a b : Int) (w : World) (h : 0 ≤ a) (ha : a ≤ 1000000000000000000) (h0 : 1 ≤ b) (hb : b ≤ 1000000000000000000) :
    Calls Try.prog 81 #[.int .i64 a, .int .i64 b] w fun e w' => e = .returned (.agg #[.int .i64 (frN a b), .int .i64 (frD a b)]) ∧ Below w.heap.size w w' := by
  obtain ⟨n, rfl⟩ := Int.eq_ofNat_of_zero_le h
  obtain ⟨m, rfl⟩ := Int.eq_ofNat_of_zero_le (by omega : 0 ≤ b)
  exact frac_s n m w (by omega) (by omega) (by omega)
theorem fr_i (a b : Int) (w : World) (h : 0 ≤ a) (ha : a ≤ 1000000000000000000) (h0 : 1 ≤ b) (hb : b ≤ 1000000000000000000) :
    Calls Try.prog 80 #[.int .i64 a, .int .i64 b] w fun e w' => e = .returned (.agg #[.int .i64 (frN a b), .int .i64 (frD a b)]) ∧ Below w.heap.size w w' := by
  obtain ⟨n, rfl⟩ := Int.eq_ofNat_of_zero_le h
  obtain ⟨m, rfl⟩ := Int.eq_ofNat_of_zero_le (by omega : 0 ≤ b)
  exact frac_i n m w (by omega) (by omega) (by omega)
