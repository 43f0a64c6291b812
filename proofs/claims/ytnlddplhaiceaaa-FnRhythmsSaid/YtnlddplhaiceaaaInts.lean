/-
  Slices of whole numbers: the verifier's helpers, rising numbers.
  No conditions.
-/
import Derived.Test.YtnlddplhaiceaaaValid
import Derived.IntWalk
namespace Go.Proofs.Ytnlddplhaiceaaa
open Go.ChangeShapes Go.WideShapes Go.ChangeAt Go.RowKit Go.Deep

set_option maxRecDepth 100000 in
theorem toInt64S_c (A : Option Addr) (n c : Nat) (zs : List Int) (w : World) (B : Nat) (h : Ints w B 1 A n zs) (hB : B ≤ w.heap.size) (hn : n ≤ 1048576) :
    Calls Try.prog 13 #[.slice A n c] w fun e w' => e = .returned (.slice (some ⟨w.heap.size, 0, none⟩) n n) ∧
      Blk w' w.heap.size 2 (iv zs).toArray ∧ Below w.heap.size w w' := by
  have hinfo : (Try.prog.info? 2).map (fun i => (i.zero, i.size, i.bytes)) = some (some (.int .i64 0), 1, 8) := by kernel_rfl
  have hmk := run_make_all (P := Try.prog) 30 2 (.int .i64 0) (.int .i64 0) 1 8 Try.underlying30 hinfo rfl (by omega) .i64 .i64 n (by omega) (by omega)
  clear hinfo
  go_enter Try.func13, Try.ntmps13
  go_wp2_with fail
  clear hmk
  go_loopw [4] (fun i wr => ∃ k : Nat, k ≤ n ∧ i = .int .i64 k ∧ Blk wr w.heap.size 2 (iv (zs.take k ++ List.replicate (n - k) 0)).toArray ∧ Below w.heap.size w wr) (fun i _ => n - (intOf i).toNat)
  case atStart => exact ⟨0, Nat.zero_le _, rfl, by simpa [iv] using Blk.new w 2 (List.replicate n (Value.int .i64 0)).toArray, by simpa using balloc (Below.refl w.heap.size w) (.cells (List.replicate n (Value.int .i64 0)).toArray 2)⟩
  case round =>
    obtain ⟨k, hk, rfl, hblk, hbel⟩ := hrel
    by_cases hlt : k < n
    · obtain ⟨b, off, rfl, hb, c0⟩ := (h.below hbel hB).at1 hlt
      have hl : (iv (zs.take k ++ List.replicate (n - k) 0)).length = n := by
        rw [iv_length, List.length_append, List.length_take, List.length_replicate, h.length]; omega
      have HL := Lib.hid hl
      clear hl
      obtain ⟨x0, d0⟩ := hblk.has k (by rw [HL.out]; omega)
      have f0 := hblk.frozen k
      have HB := Lib.hid hblk
      clear hblk
      go_wp2_with fail
      first | (go_region; go_wp2_with fail) | skip
      go_roundw
      case rel =>
        refine ⟨k + 1, by omega, by go_num, ?_, by repeat (first | exact hbel | refine bset ?_ (Nat.le_refl _) _ | apply bdrewN | apply Below.drew)⟩
        have hz := h.length
        have R := HB.out.set_ k (.int .i64 (gi zs k))
        rw [List.setIfInBounds_toArray, show n - k = (n - (k + 1)) + 1 by omega, iv_set zs k _ (by omega)] at R
        exact R
      case measure => simp [intOf]; omega
    · obtain rfl : k = n := by omega
      go_wp2
      go_ret
      refine ⟨rfl, ?_, hbel⟩
      have hz := h.length
      rw [Nat.sub_self, List.replicate_zero, List.append_nil, List.take_of_length_le (by omega)] at hblk
      exact hblk

set_option maxRecDepth 100000 in
theorem eqInt64S_c (A A' : Option Addr) (n c c' : Nat) (zs : List Int) (w : World) (h : Ints w w.heap.size 1 A n zs) (h' : Ints w w.heap.size 1 A' n zs) (hn : n ≤ 1048576) :
    Calls Try.prog 15 #[.slice A n c, .slice A' n c'] w fun e w' => e = .returned (.bool true) ∧ Below w.heap.size w w' := by
  go_enter Try.func15, Try.ntmps15
  go_wp2_with fail
  go_loopw [5] (fun i wr => ∃ k : Nat, k ≤ n ∧ i = .int .i64 k ∧ Below w.heap.size w wr) (fun i _ => n - (intOf i).toNat)
  case atStart => exact ⟨0, Nat.zero_le _, rfl, Below.refl _ _⟩
  case round =>
    obtain ⟨k, hk, rfl, hbel⟩ := hrel
    by_cases hlt : k < n
    · obtain ⟨b, off, rfl, hb, c0⟩ := (h.below hbel (Nat.le_refl _)).at1 hlt
      obtain ⟨b', off', rfl, hb', c0'⟩ := (h'.below hbel (Nat.le_refl _)).at1 hlt
      go_wp2_with fail
      go_quiet (fail)
      go_wp2_with fail
      go_roundw
      case rel => exact ⟨k + 1, by omega, by go_num, bdrewN hbel _⟩
      case measure => simp [intOf]; omega
    · obtain rfl : k = n := by omega
      go_wp2
      go_ret
      exact ⟨rfl, hbel⟩

/-- A number is within bounds and greater than the one in front of it. -/
def riseAt (zs : List Int) (lo hi : Int) (i : Nat) : Bool := inR (gi zs i) lo hi && (decide (i = 0) || decide (gi zs (i - 1) < gi zs i))

set_option maxHeartbeats 3000000 in
theorem rises_s (A : Option Addr) (n c : Nat) (zs : List Int) (lo hi : Int) (w : World) (h : Ints w w.heap.size 1 A n zs) (hn : n ≤ 1048576) :
    Calls Try.prog 52 #[.slice A n c, .int .i64 lo, .int .i64 hi] w fun e w' => e = .returned (.bool (okAll (riseAt zs lo hi) n n)) ∧ Below w.heap.size w w' := by
  have hn' : (n : Int) ≤ 1048576 := by omega
  go_enter Try.func52, Try.ntmps52
  go_wp2_with fail
  go_loopw [7] (fun i wr => ∃ k : Nat, k ≤ n ∧ i = .int .i64 k ∧ Hid (∀ j, j < k → riseAt zs lo hi j = true) ∧ Below w.heap.size w wr) (fun i _ => n - (intOf i).toNat)
  case atStart => exact ⟨0, Nat.zero_le _, rfl, fun j h => absurd h (by omega), Below.refl _ _⟩
  case round =>
    obtain ⟨k, hk, rfl, HK, hbel⟩ := hrel
    by_cases hlt : k < n
    · obtain ⟨b, off, rfl, hb, c0⟩ := (h.below hbel (Nat.le_refl _)).at1 hlt
      have HW : IntKind.i64.wrap ((k : Int) - 1) = (k : Int) - 1 := IntWalk.i64_in _ (by omega)
      have hX : riseAt zs lo hi k = (inR (gi zs k) lo hi && (decide (k = 0) || decide (gi zs (k - 1) < gi zs k))) := rfl
      have HX := Lib.hid hX
      clear hX
      rcases h1 : inR (gi zs k) lo hi with _ | _
      · have HV : Hid (okAll (riseAt zs lo hi) n n = false) := okAll_bad hlt (by rw [HX.out, h1]; rfl)
        go_wp2_with (first | (go_at_call 46; refine (l00In_c _ _ _ _).mono ?_; rintro e w' ⟨rfl, rfl⟩))
        try (go_quiet ((first | (go_at_call 46; first | exact quiet_left (asV (l00In_c _ _ _ _) (by assumption)) | exact quiet_add_left (asV (l00In_c _ _ _ _) (by assumption)) | exact quiet_left (l00In_c _ _ _ _) | exact quiet_add_left (l00In_c _ _ _ _)))); go_wp2_with (first | (go_at_call 46; refine (l00In_c _ _ _ _).mono ?_; rintro e w' ⟨rfl, rfl⟩)))
        go_ret
        exact ⟨ret_bool HV.out.symm, by repeat (first | exact hbel | apply bdrewN)⟩
      · by_cases h0 : k = 0
        · have HT : Hid (riseAt zs lo hi k = true) := by show _ = _; rw [HX.out, h1]; simp [h0]
          subst h0
          simp only [Nat.add_zero] at c0
          go_wp2_with (first | (go_at_call 46; refine (l00In_c _ _ _ _).mono ?_; rintro e w' ⟨rfl, rfl⟩))
          try (go_quiet ((first | (go_at_call 46; first | exact quiet_left (asV (l00In_c _ _ _ _) (by assumption)) | exact quiet_add_left (asV (l00In_c _ _ _ _) (by assumption)) | exact quiet_left (l00In_c _ _ _ _) | exact quiet_add_left (l00In_c _ _ _ _)))); go_wp2_with (first | (go_at_call 46; refine (l00In_c _ _ _ _).mono ?_; rintro e w' ⟨rfl, rfl⟩)))
          go_roundw
          case rel =>
            refine ⟨1, by omega, by go_num, fun j hj => ?_, by repeat (first | exact hbel | apply bdrewN)⟩
            obtain rfl : j = 0 := by omega
            exact HT.out
          case measure => simp [intOf]; omega
        · have hp : (0 : Int) < (k : Int) := by omega
          have hpn : 0 < k := by omega
          have hd : decide (0 < k) = true := by simpa using hpn
          have hkk : ((k : Int) - 1).toNat = k - 1 := by omega
          have hk1 : (0 : Int) ≤ (k : Int) - 1 := by omega
          have hk2 : (k : Int) - 1 < (n : Int) := by omega
          obtain ⟨b', off', e', _, c1⟩ := (h.below hbel (Nat.le_refl _)).at1 (i := k - 1) (by omega)
          obtain ⟨rfl, rfl⟩ : b = b' ∧ off = off' := by simpa using e'
          clear e'
          by_cases h2 : gi zs (k - 1) < gi zs k
          · have HT : Hid (riseAt zs lo hi k = true) := by show _ = _; rw [HX.out, h1]; simp [h2]
            have h3 : ¬ gi zs k ≤ gi zs (k - 1) := by omega
            have hd3 : decide (gi zs k ≤ gi zs (k - 1)) = false := by simpa using h2
            clear h0
            go_wp2_with (first | (go_at_call 46; refine (l00In_c _ _ _ _).mono ?_; rintro e w' ⟨rfl, rfl⟩))
            try (go_quiet ((first | (go_at_call 46; first | exact quiet_left (asV (l00In_c _ _ _ _) (by assumption)) | exact quiet_add_left (asV (l00In_c _ _ _ _) (by assumption)) | exact quiet_left (l00In_c _ _ _ _) | exact quiet_add_left (l00In_c _ _ _ _)))); go_wp2_with (first | (go_at_call 46; refine (l00In_c _ _ _ _).mono ?_; rintro e w' ⟨rfl, rfl⟩)))
            go_roundw
            case rel =>
              refine ⟨k + 1, by omega, by go_num, fun j hj => ?_, by repeat (first | exact hbel | apply bdrewN)⟩
              rcases Nat.lt_or_ge j k with hh | hh
              · exact HK.out j hh
              · obtain rfl : j = k := by omega
                exact HT.out
            case measure => simp [intOf]; omega
          · have HV : Hid (okAll (riseAt zs lo hi) n n = false) := okAll_bad hlt (by rw [HX.out, h1]; simp [h0]; omega)
            have h3 : gi zs k ≤ gi zs (k - 1) := by omega
            have hd3 : decide (gi zs k ≤ gi zs (k - 1)) = true := by simpa using h3
            clear h0
            go_wp2_with (first | (go_at_call 46; refine (l00In_c _ _ _ _).mono ?_; rintro e w' ⟨rfl, rfl⟩))
            try (go_quiet ((first | (go_at_call 46; first | exact quiet_left (asV (l00In_c _ _ _ _) (by assumption)) | exact quiet_add_left (asV (l00In_c _ _ _ _) (by assumption)) | exact quiet_left (l00In_c _ _ _ _) | exact quiet_add_left (l00In_c _ _ _ _)))); go_wp2_with (first | (go_at_call 46; refine (l00In_c _ _ _ _).mono ?_; rintro e w' ⟨rfl, rfl⟩)))
            go_ret
            exact ⟨ret_bool HV.out.symm, by repeat (first | exact hbel | apply bdrewN)⟩
    · obtain rfl : k = n := by omega
      go_wp2
      go_ret
      refine ⟨ret_bool ?_, hbel⟩
      rw [okAll_end HK.out]
      simp
set_option maxHeartbeats 3000000 in
theorem rises_i (A : Option Addr) (n c : Nat) (zs : List Int) (lo hi : Int) (w : World) (h : Ints w w.heap.size 1 A n zs) (hn : n ≤ 1048576) :
    Calls Try.prog 72 #[.slice A n c, .int .i64 lo, .int .i64 hi] w fun e w' => e = .returned (.bool (okAll (riseAt zs lo hi) n n)) ∧ Below w.heap.size w w' := by
  have hn' : (n : Int) ≤ 1048576 := by omega
  go_enter Try.func72, Try.ntmps72
  go_wp2_with fail
  go_loopw [11] (fun i wr => ∃ k : Nat, k ≤ n ∧ i = .int .i64 k ∧ Hid (∀ j, j < k → riseAt zs lo hi j = true) ∧ Below w.heap.size w wr) (fun i _ => n - (intOf i).toNat)
  case atStart => exact ⟨0, Nat.zero_le _, rfl, fun j h => absurd h (by omega), Below.refl _ _⟩
  case round =>
    obtain ⟨k, hk, rfl, HK, hbel⟩ := hrel
    by_cases hlt : k < n
    · obtain ⟨b, off, rfl, hb, c0⟩ := (h.below hbel (Nat.le_refl _)).at1 hlt
      have HW : IntKind.i64.wrap ((k : Int) - 1) = (k : Int) - 1 := IntWalk.i64_in _ (by omega)
      have hX : riseAt zs lo hi k = (inR (gi zs k) lo hi && (decide (k = 0) || decide (gi zs (k - 1) < gi zs k))) := rfl
      have HX := Lib.hid hX
      clear hX
      rcases h1 : inR (gi zs k) lo hi with _ | _
      · have HV : Hid (okAll (riseAt zs lo hi) n n = false) := okAll_bad hlt (by rw [HX.out, h1]; rfl)
        go_wp2_with (first | (go_at_call 49; refine (within_c _ _ _ _).mono ?_; rintro e w' ⟨rfl, rfl⟩))
        try (go_quiet ((first | (go_at_call 49; first | exact quiet_left (asV (within_c _ _ _ _) (by assumption)) | exact quiet_add_left (asV (within_c _ _ _ _) (by assumption)) | exact quiet_left (within_c _ _ _ _) | exact quiet_add_left (within_c _ _ _ _)))); go_wp2_with (first | (go_at_call 49; refine (within_c _ _ _ _).mono ?_; rintro e w' ⟨rfl, rfl⟩)))
        go_ret
        exact ⟨ret_bool HV.out.symm, by repeat (first | exact hbel | apply bdrewN)⟩
      · by_cases h0 : k = 0
        · have HT : Hid (riseAt zs lo hi k = true) := by show _ = _; rw [HX.out, h1]; simp [h0]
          subst h0
          simp only [Nat.add_zero] at c0
          go_wp2_with (first | (go_at_call 49; refine (within_c _ _ _ _).mono ?_; rintro e w' ⟨rfl, rfl⟩))
          try (go_quiet ((first | (go_at_call 49; first | exact quiet_left (asV (within_c _ _ _ _) (by assumption)) | exact quiet_add_left (asV (within_c _ _ _ _) (by assumption)) | exact quiet_left (within_c _ _ _ _) | exact quiet_add_left (within_c _ _ _ _)))); go_wp2_with (first | (go_at_call 49; refine (within_c _ _ _ _).mono ?_; rintro e w' ⟨rfl, rfl⟩)))
          go_roundw
          case rel =>
            refine ⟨1, by omega, by go_num, fun j hj => ?_, by repeat (first | exact hbel | apply bdrewN)⟩
            obtain rfl : j = 0 := by omega
            exact HT.out
          case measure => simp [intOf]; omega
        · have hp : (0 : Int) < (k : Int) := by omega
          have hpn : 0 < k := by omega
          have hd : decide (0 < k) = true := by simpa using hpn
          have hkk : ((k : Int) - 1).toNat = k - 1 := by omega
          have hk1 : (0 : Int) ≤ (k : Int) - 1 := by omega
          have hk2 : (k : Int) - 1 < (n : Int) := by omega
          obtain ⟨b', off', e', _, c1⟩ := (h.below hbel (Nat.le_refl _)).at1 (i := k - 1) (by omega)
          obtain ⟨rfl, rfl⟩ : b = b' ∧ off = off' := by simpa using e'
          clear e'
          by_cases h2 : gi zs (k - 1) < gi zs k
          · have HT : Hid (riseAt zs lo hi k = true) := by show _ = _; rw [HX.out, h1]; simp [h2]
            have h3 : ¬ gi zs k ≤ gi zs (k - 1) := by omega
            have hd3 : decide (gi zs k ≤ gi zs (k - 1)) = false := by simpa using h2
            clear h0
            go_wp2_with (first | (go_at_call 49; refine (within_c _ _ _ _).mono ?_; rintro e w' ⟨rfl, rfl⟩))
            try (go_quiet ((first | (go_at_call 49; first | exact quiet_left (asV (within_c _ _ _ _) (by assumption)) | exact quiet_add_left (asV (within_c _ _ _ _) (by assumption)) | exact quiet_left (within_c _ _ _ _) | exact quiet_add_left (within_c _ _ _ _)))); go_wp2_with (first | (go_at_call 49; refine (within_c _ _ _ _).mono ?_; rintro e w' ⟨rfl, rfl⟩)))
            go_roundw
            case rel =>
              refine ⟨k + 1, by omega, by go_num, fun j hj => ?_, by repeat (first | exact hbel | apply bdrewN)⟩
              rcases Nat.lt_or_ge j k with hh | hh
              · exact HK.out j hh
              · obtain rfl : j = k := by omega
                exact HT.out
            case measure => simp [intOf]; omega
          · have HV : Hid (okAll (riseAt zs lo hi) n n = false) := okAll_bad hlt (by rw [HX.out, h1]; simp [h0]; omega)
            have h3 : gi zs k ≤ gi zs (k - 1) := by omega
            have hd3 : decide (gi zs k ≤ gi zs (k - 1)) = true := by simpa using h3
            clear h0
            go_wp2_with (first | (go_at_call 49; refine (within_c _ _ _ _).mono ?_; rintro e w' ⟨rfl, rfl⟩))
            try (go_quiet ((first | (go_at_call 49; first | exact quiet_left (asV (within_c _ _ _ _) (by assumption)) | exact quiet_add_left (asV (within_c _ _ _ _) (by assumption)) | exact quiet_left (within_c _ _ _ _) | exact quiet_add_left (within_c _ _ _ _)))); go_wp2_with (first | (go_at_call 49; refine (within_c _ _ _ _).mono ?_; rintro e w' ⟨rfl, rfl⟩)))
            go_ret
            exact ⟨ret_bool HV.out.symm, by repeat (first | exact hbel | apply bdrewN)⟩
    · obtain rfl : k = n := by omega
      go_wp2
      go_ret
      refine ⟨ret_bool ?_, hbel⟩
      rw [okAll_end HK.out]
      simp

end Go.Proofs.Ytnlddplhaiceaaa
