/-
  Functions of whole numbers that answer a number and a code: what each returns, the world unchanged.
  No conditions.
-/
import Derived.Test.YtgcpobondcnjcaaGreatDoorBase
namespace Go.Proofs.YtgcpobondcnjcaaGreatDoor
open Go.ChangeShapes Go.WideShapes Go.ChangeAt Go.RowKit

/-- LatestStart. -/
def latestV (a b c : Int) : Int × Int := if inR a 1 500 && inR b 1 500 && inR c 0 10000 then (if c < a then (0, 3) else (c - a, 0)) else (0, 2)
/-- The rods of a bundle. -/
def rodsB (g t : Int) : Int := 44100 * g * g / (4840 * t * t)
/-- RodsIn. -/
def rodsV (g t : Int) : Int × Int := if inR g 10 2000 && inR t 1 300 then (rodsB g t, 0) else (0, 2)
/-- The least girth from g on that has room for r rods; k girths are asked. -/
def girthFrom (r t : Int) : Nat → Int → Int × Int
  | 0, _ => (0, 3)
  | k + 1, g => if r ≤ rodsB g t then (g, 0) else girthFrom r t k (g + 1)
/-- GirthFor. -/
def girthV (r t : Int) : Int × Int := if inR r 1 100000 && inR t 1 300 then girthFrom r t 1991 10 else (0, 2)
theorem sq_bd (a m : Int) (h0 : 0 ≤ a) (h1 : a ≤ m) : 0 ≤ a * a ∧ a * a ≤ m * m :=
  ⟨Int.mul_nonneg h0 h0, Int.mul_le_mul h1 h1 h0 (by omega)⟩
theorem sq_pos (a : Int) (h0 : 1 ≤ a) : 1 ≤ a * a := by
  have := Int.mul_le_mul h0 h0 (by omega) (by omega : (0 : Int) ≤ a); omega
theorem cmul_bd (c a : Int) (_hc : 0 ≤ c) : c * a * a = c * (a * a) := by rw [Int.mul_assoc]

theorem rodsB_s (g t : Int) (w : World) (h1 : 0 ≤ g) (h2 : g ≤ 3000) (h3 : 1 ≤ t) (h4 : t ≤ 300) : Calls Tryz.prog 38 #[.int .i64 g, .int .i64 t] w fun e w' =>
    e = .returned (.int .i64 (rodsB g t)) ∧ w = w' := by
  have b1 := sq_bd g 3000 h1 h2
  have b2 := sq_bd t 300 (by omega) h4
  have b3 := sq_pos t h3
  have e1 := cmul_bd 44100 g (by omega)
  have e2 := cmul_bd 4840 t (by omega)
  have c1 : 0 ≤ 44100 * g * g ∧ 44100 * g * g ≤ 44100 * 9000000 := by omega
  have c2 : 1 ≤ 4840 * t * t ∧ 4840 * t * t ≤ 4840 * 90000 := by omega
  clear e1 e2 b1 b2 b3
  go_enter Tryz.func38, Tryz.ntmps38
  go_wp2
  go_ret
  exact ⟨rfl, rfl⟩
theorem rodsB_i (g t : Int) (w : World) (h1 : 0 ≤ g) (h2 : g ≤ 3000) (h3 : 1 ≤ t) (h4 : t ≤ 300) : Calls Tryz.prog 35 #[.int .i64 g, .int .i64 t] w fun e w' =>
    e = .returned (.int .i64 (rodsB g t)) ∧ w = w' := by
  have b1 := sq_bd g 3000 h1 h2
  have b2 := sq_bd t 300 (by omega) h4
  have b3 := sq_pos t h3
  have e1 := cmul_bd 44100 g (by omega)
  have e2 := cmul_bd 4840 t (by omega)
  have c1 : 0 ≤ 44100 * g * g ∧ 44100 * g * g ≤ 44100 * 9000000 := by omega
  have c2 : 1 ≤ 4840 * t * t ∧ 4840 * t * t ≤ 4840 * 90000 := by omega
  clear e1 e2 b1 b2 b3
  go_enter Tryz.func35, Tryz.ntmps35
  go_wp2
  go_ret
  exact ⟨rfl, rfl⟩

theorem rods_i (g t : Int) (w : World) : Calls Tryz.prog 27 #[.int .i64 g, .int .i64 t] w fun e w' =>
    e = .returned (.tuple #[.int .i64 (rodsV g t).1, .int .i64 (rodsV g t).2]) ∧ w = w' := by
  refine inR_split g 10 2000 (fun h1 _ _ => inR_split t 1 300 (fun h2 _ _ => ?_) (fun h2 => ?_)) (fun h1 => ?_)
  all_goals
    go_enter Tryz.func27, Tryz.ntmps27
    go_wp2_with (first | (go_at_call 62; refine (isGirth_c _ _).mono ?_; rintro e w' ⟨rfl, rfl⟩) | (go_at_call 34; refine (isThick_c _ _).mono ?_; rintro e w' ⟨rfl, rfl⟩))
  · refine (rodsB_i _ _ _ (by omega) (by omega) (by omega) (by omega)).mono ?_
    rintro e w' ⟨rfl, rfl⟩
    go_wp2
    go_ret2
    refine ⟨?_, rfl⟩
    simp [rodsV, *]
  all_goals
    go_ret2
    refine ⟨?_, rfl⟩
    simp [rodsV, *]

theorem girth_s (r t : Int) (w : World) : Calls Tryz.prog 7 #[.int .i64 r, .int .i64 t] w fun e w' =>
    e = .returned (.tuple #[.int .i64 (girthV r t).1, .int .i64 (girthV r t).2]) ∧ w = w' := by
  refine inR_split r 1 100000 (fun h1 _ _ => inR_split t 1 300 (fun h2 _ _ => ?_) (fun h2 => ?_)) (fun h1 => ?_)
  · have HV : Hid (girthV r t = girthFrom r t 1991 10) := by show _ = _; simp [girthV, h1, h2]
    go_enter Tryz.func7, Tryz.ntmps7
    go_wp2_with (first | (go_at_call 36; refine (l00In_c _ _ _ _).mono ?_; rintro e w' ⟨rfl, rfl⟩) | (go_at_call 37; refine (l05Thick_c _ _).mono ?_; rintro e w' ⟨rfl, rfl⟩))
    go_loop [6] (fun g => ∃ k : Nat, k ≤ 1991 ∧ g = .int .i64 (10 + k) ∧ Hid (girthV r t = girthFrom r t (1991 - k) (10 + k))) (fun g => 2001 - (intOf g).toNat)
    case atStart => exact ⟨0, by omega, rfl, HV⟩
    case round =>
      obtain ⟨k, hk, rfl, HK⟩ := hrel
      clear HV
      by_cases hlt : k < 1991
      · go_wp2_with (go_at_call 38; refine (rodsB_s _ _ _ (by omega) (by omega) (by omega) (by omega)).mono ?_; rintro e w' ⟨rfl, rfl⟩)
        · go_ret2
          refine ⟨?_, rfl⟩
          have h := HK.out
          rw [show 1991 - k = (1991 - (k + 1)) + 1 by omega, girthFrom, if_pos (by assumption)] at h
          simp [h]
        · go_round
          case rel =>
            refine ⟨k + 1, by omega, by go_num, ?_⟩
            show _ = _
            have h := HK.out
            rw [show 1991 - k = (1991 - (k + 1)) + 1 by omega, girthFrom, if_neg (by omega)] at h
            rw [h]; congr 1 <;> omega
          case measure => simp [intOf]; omega
      · obtain rfl : k = 1991 := by omega
        go_wp2
        go_ret2
        refine ⟨?_, rfl⟩
        have h := HK.out
        simp [girthFrom] at h
        simp [h]
  all_goals
    go_enter Tryz.func7, Tryz.ntmps7
    go_wp2_with (first | (go_at_call 36; refine (l00In_c _ _ _ _).mono ?_; rintro e w' ⟨rfl, rfl⟩) | (go_at_call 37; refine (l05Thick_c _ _).mono ?_; rintro e w' ⟨rfl, rfl⟩))
    go_ret2
    refine ⟨?_, rfl⟩
    simp [girthV, *]
theorem girth_i (r t : Int) (w : World) : Calls Tryz.prog 6 #[.int .i64 r, .int .i64 t] w fun e w' =>
    e = .returned (.tuple #[.int .i64 (girthV r t).1, .int .i64 (girthV r t).2]) ∧ w = w' := by
  refine inR_split r 1 100000 (fun h1 _ _ => inR_split t 1 300 (fun h2 _ _ => ?_) (fun h2 => ?_)) (fun h1 => ?_)
  · have HV : Hid (girthV r t = girthFrom r t 1991 10) := by show _ = _; simp [girthV, h1, h2]
    go_enter Tryz.func6, Tryz.ntmps6
    go_wp2_with (first | (go_at_call 33; refine (within_c _ _ _ _).mono ?_; rintro e w' ⟨rfl, rfl⟩) | (go_at_call 34; refine (isThick_c _ _).mono ?_; rintro e w' ⟨rfl, rfl⟩))
    go_loop [6] (fun g => ∃ k : Nat, k ≤ 1991 ∧ g = .int .i64 (10 + k) ∧ Hid (girthV r t = girthFrom r t (1991 - k) (10 + k))) (fun g => 2001 - (intOf g).toNat)
    case atStart => exact ⟨0, by omega, rfl, HV⟩
    case round =>
      obtain ⟨k, hk, rfl, HK⟩ := hrel
      clear HV
      by_cases hlt : k < 1991
      · go_wp2_with (go_at_call 35; refine (rodsB_i _ _ _ (by omega) (by omega) (by omega) (by omega)).mono ?_; rintro e w' ⟨rfl, rfl⟩)
        · go_ret2
          refine ⟨?_, rfl⟩
          have h := HK.out
          rw [show 1991 - k = (1991 - (k + 1)) + 1 by omega, girthFrom, if_pos (by assumption)] at h
          simp [h]
        · go_round
          case rel =>
            refine ⟨k + 1, by omega, by go_num, ?_⟩
            show _ = _
            have h := HK.out
            rw [show 1991 - k = (1991 - (k + 1)) + 1 by omega, girthFrom, if_neg (by omega)] at h
            rw [h]; congr 1 <;> omega
          case measure => simp [intOf]; omega
      · obtain rfl : k = 1991 := by omega
        go_wp2
        go_ret2
        refine ⟨?_, rfl⟩
        have h := HK.out
        simp [girthFrom] at h
        simp [h]
  all_goals
    go_enter Tryz.func6, Tryz.ntmps6
    go_wp2_with (first | (go_at_call 33; refine (within_c _ _ _ _).mono ?_; rintro e w' ⟨rfl, rfl⟩) | (go_at_call 34; refine (isThick_c _ _).mono ?_; rintro e w' ⟨rfl, rfl⟩))
    go_ret2
    refine ⟨?_, rfl⟩
    simp [girthV, *]

end Go.Proofs.YtgcpobondcnjcaaGreatDoor
