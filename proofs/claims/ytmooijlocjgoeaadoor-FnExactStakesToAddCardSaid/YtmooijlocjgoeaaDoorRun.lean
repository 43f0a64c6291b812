/-
  The longest run of a text that goes on for ever, by the program and by the reference; whether a text has both kinds of bytes.
  No conditions.
-/
import Derived.Test.YtmooijlocjgoeaaDoorStroke
import Derived.Test.YtmooijlocjgoeaaDoorRunP
namespace Go.Proofs.YtmooijlocjgoeaaDoor
open Go.ChangeShapes Go.WideShapes Go.ChangeAt Go.RowKit Go.Deep

/-- Place j and the one behind it differ, in a text that goes on for ever. -/
def dB (s : ByteArray) (j : Nat) : Bool := bt s (j % s.size) != bt s ((j + 1) % s.size)
theorem dB_period (s : ByteArray) (j : Nat) : dB s (j + s.size) = dB s j := by
  unfold dB
  rw [Nat.add_mod_right, show j + s.size + 1 = j + 1 + s.size by omega, Nat.add_mod_right]
/-- A text has bytes of both kinds. -/
def bothB (s : ByteArray) : Bool := s.data.toList.contains 70 && s.data.toList.contains 66
theorem u8_ne (a b : UInt8) : ((a.toNat : Int) != (b.toNat : Int)) = (a != b) := by
  have e : (a == b) = decide ((a.toNat : Int) = (b.toNat : Int)) := by
    rw [Bool.eq_iff_iff, beq_iff_eq, decide_eq_true_iff, ← UInt8.toNat_inj]; omega
  show (!((a.toNat : Int) == (b.toNat : Int))) = !(a == b)
  rw [e]; rfl
theorem u8_eq (a b : UInt8) : ((a.toNat : Int) == (b.toNat : Int)) = (a == b) := by
  have e : (a == b) = decide ((a.toNat : Int) = (b.toNat : Int)) := by
    rw [Bool.eq_iff_iff, beq_iff_eq, decide_eq_true_iff, ← UInt8.toNat_inj]; omega
  rw [e]; rfl

theorem l00Max_any (a b : Int) (w : World) : Calls Tryd.prog 45 #[.int .i64 a, .int .i64 b] w fun e w' => e = .returned (.int .i64 (max a b)) ∧ w = w' := by
  by_cases h2 : b < a
  · have HV : Hid (max a b = a) := by show _ = _; omega
    go_enter Tryd.func45, Tryd.ntmps45
    go_wp2
    go_ret
    exact ⟨ret_int HV.out.symm, rfl⟩
  · have HV : Hid (max a b = b) := by show _ = _; omega
    go_enter Tryd.func45, Tryd.ntmps45
    go_wp2
    go_ret
    exact ⟨ret_int HV.out.symm, rfl⟩
set_option maxHeartbeats 2000000 in
theorem longestRun_c (s : ByteArray) (w : World) (h1 : 1 ≤ s.size) (h2 : s.size ≤ 100) :
    Calls Tryd.prog 43 #[.string s] w fun e w' => e = .returned (.int .i64 (mostI (dB s) s.size (2 * s.size) : Nat)) ∧ Below w.heap.size w w' := by
  have h1' : (1 : Int) ≤ s.size := by omega
  have h2' : (s.size : Int) ≤ 100 := by omega
  go_enter Tryd.func43, Tryd.ntmps43
  go_wp2_with fail
  go_loopw [3, 4, 9] (fun m r i wr => ∃ k : Nat, k ≤ 2 * s.size ∧ i = .int .i64 k ∧ m = .int .i64 (mostI (dB s) s.size k : Nat) ∧ r = .int .i64 (runI (dB s) k : Nat) ∧ Below w.heap.size w wr) (fun _ _ i _ => 2 * s.size - (intOf i).toNat)
  case atStart => exact ⟨0, by omega, rfl, rfl, rfl, Below.refl _ _⟩
  case round =>
    obtain ⟨k, hk, rfl, rfl, rfl, hbel⟩ := hrel
    by_cases hlt : k < 2 * s.size
    · have m1 := mostI_le (d := dB s) h1 k
      have m2 := runI_le (d := dB s) k
      have HM : Hid (mostI (dB s) s.size (k + 1) = max (mostI (dB s) s.size k) (min (rn (dB s) k) s.size)) := rfl
      have HR : Hid (runI (dB s) (k + 1) = rn (dB s) k) := rfl
      have mr := rn_le (d := dB s) k
      by_cases h0 : k = 0
      · subst h0
        have HQ : Hid (rn (dB s) 0 = runI (dB s) 0 + 1) := rfl
        go_wp2_with fail
        go_quiet (fail)
        go_wp2_with fail
        go_roundw
        case rel => exact ⟨1, by omega, by go_num, by rw [HM.out, HQ.out]; go_num, by rw [HR.out, HQ.out]; go_num, by repeat (first | exact hbel | apply bdrewN)⟩
        case measure => simp [intOf]; omega
      · have hpn : 0 < k := by omega
        have hdp : decide (0 < k) = true := by simpa using hpn
        have n1 : k % s.size < s.size := Nat.mod_lt _ (by omega)
        have n2 : (k - 1) % s.size < s.size := Nat.mod_lt _ (by omega)
        have z1 : (0 : Int) ≤ (k : Int) % (s.size : Int) := Int.emod_nonneg _ (by omega)
        have z2 : (k : Int) % (s.size : Int) < s.size := Int.emod_lt_of_pos _ (by omega)
        have z3 : (0 : Int) ≤ ((k : Int) - 1) % (s.size : Int) := Int.emod_nonneg _ (by omega)
        have z4 : ((k : Int) - 1) % (s.size : Int) < s.size := Int.emod_lt_of_pos _ (by omega)
        have z5 : (0 : Int) ≤ (k : Int) - 1 := by omega
        have z6 : (1 : Int) ≤ (k : Int) := by omega
        have z7 : (0 : Int) < (k : Int) := by omega
        have HW : IntKind.i64.wrap ((k : Int) - 1) = (k : Int) - 1 := IntWalk.i64_in _ (by omega)
        clear h0
        have hne : ((s[k % s.size].toNat : Int) != (s[(k - 1) % s.size].toNat : Int)) = dB s (k - 1) := by
          rw [u8_ne, bt_at, bt_at]
          unfold dB
          rw [show k - 1 + 1 = k by omega]
          exact bne_comm
        rcases hd : dB s (k - 1) with _ | _
        · rw [hd] at hne
          have HQ := Lib.hid (runI_keep hpn hd)
          clear hd
          go_wp2_with fail
          go_quiet (fail)
          go_wp2_with fail
          go_roundw
          case rel => exact ⟨k + 1, by omega, by go_num, by rw [HM.out, HQ.out]; go_num, by rw [HR.out, HQ.out]; go_num, by repeat (first | exact hbel | apply bdrewN)⟩
          case measure => simp [intOf]; omega
        · rw [hd] at hne
          have HQ := Lib.hid (runI_change hpn hd)
          clear hd
          go_wp2_with fail
          go_quiet (fail)
          go_wp2_with fail
          go_roundw
          case rel => exact ⟨k + 1, by omega, by go_num, by rw [HM.out, HQ.out]; go_num, by rw [HR.out, HQ.out]; go_num, by repeat (first | exact hbel | apply bdrewN)⟩
          case measure => simp [intOf]; omega
    · obtain rfl : k = 2 * s.size := by omega
      go_wp2
      go_ret
      exact ⟨rfl, hbel⟩
set_option maxHeartbeats 2000000 in
theorem l06Run_c (s : ByteArray) (w : World) (h1 : 1 ≤ s.size) (h2 : s.size ≤ 100) :
    Calls Tryd.prog 41 #[.string s] w fun e w' => e = .returned (.int .i64 (mostS (dB s) (2 * s.size) : Nat)) ∧ Below w.heap.size w w' := by
  have h1' : (1 : Int) ≤ s.size := by omega
  have h2' : (s.size : Int) ≤ 100 := by omega
  go_enter Tryd.func41, Tryd.ntmps41
  go_wp2_with fail
  go_loopw [3, 4, 5] (fun m r i wr => ∃ k : Nat, k ≤ 2 * s.size ∧ i = .int .i64 k ∧ m = .int .i64 (mostS (dB s) k : Nat) ∧ r = .int .i64 (runS (dB s) k : Nat) ∧ Below w.heap.size w wr) (fun _ _ i _ => 2 * s.size - (intOf i).toNat)
  case atStart => exact ⟨0, by omega, rfl, rfl, rfl, Below.refl _ _⟩
  case round =>
    obtain ⟨k, hk, rfl, rfl, rfl, hbel⟩ := hrel
    by_cases hlt : k < 2 * s.size
    · have m1 := mostS_le (d := dB s) k
      have m2 := runS_le (d := dB s) k
      have n1 : k % s.size < s.size := Nat.mod_lt _ (by omega)
      have n2 : (k + 1) % s.size < s.size := Nat.mod_lt _ (by omega)
      have z1 : (0 : Int) ≤ (k : Int) % (s.size : Int) := by omega
      have z2 : (k : Int) % (s.size : Int) < s.size := by omega
      have z3 : (0 : Int) ≤ ((k : Int) + 1) % (s.size : Int) := Int.emod_nonneg _ (by omega)
      have z4 : ((k : Int) + 1) % (s.size : Int) < s.size := Int.emod_lt_of_pos _ (by omega)
      have HW : IntKind.i64.wrap ((k : Int) + 1) = (k : Int) + 1 := IntWalk.i64_in _ (by omega)
      have HS := Lib.hid (runS_succ (d := dB s) k)
      have hne : ((s[k % s.size].toNat : Int) != (s[(k + 1) % s.size].toNat : Int)) = dB s k := by rw [u8_ne, bt_at, bt_at]; rfl
      rcases hd : dB s k with _ | _
      · rw [hd] at hne
        have HM : Hid (mostS (dB s) (k + 1) = mostS (dB s) k) := by show _ = _; simp [mostS, hd]
        have HR : Hid (runS (dB s) (k + 1) = rn (dB s) k) := by show _ = _; simp [runS, hd]
        clear hd
        go_wp2_with fail
        go_quiet (fail)
        go_wp2_with fail
        go_roundw
        case rel => exact ⟨k + 1, by omega, by go_num, by rw [HM.out], by rw [HR.out, ← HS.out]; go_num, by repeat (first | exact hbel | apply bdrewN)⟩
        case measure => simp [intOf]; omega
      · rw [hd] at hne
        have HM : Hid (mostS (dB s) (k + 1) = max (mostS (dB s) k) (rn (dB s) k)) := by show _ = _; simp [mostS, hd]
        have HR : Hid (runS (dB s) (k + 1) = 0) := by show _ = _; simp [runS, hd]
        clear hd
        go_wp2_with fail
        go_quiet (fail)
        go_wp2_with fail
        refine (l00Max_any _ _ _).mono ?_
        rintro e w1 ⟨rfl, rfl⟩
        go_wp2_with fail
        go_roundw
        case rel => exact ⟨k + 1, by omega, by go_num, by rw [HM.out, ← HS.out]; go_num, by rw [HR.out]; rfl, by repeat (first | exact hbel | apply bdrewN)⟩
        case measure => simp [intOf]; omega
    · obtain rfl : k = 2 * s.size := by omega
      go_wp2
      go_ret
      exact ⟨rfl, hbel⟩
theorem bothKinds_c (s : ByteArray) (w : World) :
    Calls Tryd.prog 42 #[.string s] w fun e w' => e = .returned (.bool (bothB s)) ∧ w = w' := by
  have c1 := Tryd.strings_Contains_one s 70 w
  have c2 := Tryd.strings_Contains_one s 66 w
  rw [← Lib.contains_iff_indexByte] at c1 c2
  unfold bothB
  rcases h1 : s.data.toList.contains 70 with _ | _ <;> rcases h2 : s.data.toList.contains 66 with _ | _
  all_goals
    rw [h1] at c1
    rw [h2] at c2
    clear h1 h2
    go_enter Tryd.func42, Tryd.ntmps42
    go_wp2_with (first | (go_at_call 62; first | ((with_reducible refine c1.mono ?_); rintro e w1 ⟨rfl, rfl⟩) | ((with_reducible refine c2.mono ?_); rintro e w1 ⟨rfl, rfl⟩)))
    go_ret
    exact ⟨rfl, rfl⟩
end Go.Proofs.YtmooijlocjgoeaaDoor
