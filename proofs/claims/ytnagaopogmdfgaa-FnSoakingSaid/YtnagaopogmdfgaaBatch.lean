/-
  Batches: which are valid, how many bundles are in the tank and how many are supple at an hour.
  No conditions.
-/
import Derived.Test.YtnagaopogmdfgaaValid
import Derived.IntWalk
namespace Go.Proofs.Ytnagaopogmdfgaa
open Go.ChangeShapes Go.WideShapes Go.ChangeAt Go.RowKit Go.Deep

def batchOk (a b c d : Int) : Bool := inR a 0 5000 && inR b 1 500 && inR c 1 500 && inR d 1 100
def batchAt (zs : List Int) (i : Nat) : Bool := batchOk (gi zs (i * 4)) (gi zs (i * 4 + 1)) (gi zs (i * 4 + 2)) (gi zs (i * 4 + 3))
theorem batchOk_bd {a b c d : Int} (h : batchOk a b c d = true) : 0 ≤ a ∧ a ≤ 5000 ∧ 1 ≤ b ∧ b ≤ 500 ∧ 1 ≤ c ∧ c ≤ 500 ∧ 1 ≤ d ∧ d ≤ 100 := by
  simp only [batchOk, Bool.and_eq_true] at h
  have h1 := inR_true h.1.1.1
  have h2 := inR_true h.1.1.2
  have h3 := inR_true h.1.2
  have h4 := inR_true h.2
  omega
/-- Batches whose sums fit. -/
def Loose (zs : List Int) (n : Nat) : Prop := n ≤ 30 ∧ ∀ j, j < n → 0 ≤ gi zs (j * 4) ∧ gi zs (j * 4) ≤ 100000 ∧ 1 ≤ gi zs (j * 4 + 1) ∧ gi zs (j * 4 + 1) ≤ 500 ∧ 1 ≤ gi zs (j * 4 + 2) ∧ gi zs (j * 4 + 2) ≤ 500 ∧ 1 ≤ gi zs (j * 4 + 3) ∧ gi zs (j * 4 + 3) ≤ 100
theorem loose_of {zs : List Int} {n m : Nat} (hm : m ≤ 30) (h : okAll (batchAt zs) n m = true) : Loose zs n :=
  ⟨by have := okAll_le h; omega, fun j hj => by have := batchOk_bd (okAll_get h hj); omega⟩
/-- Bundles in the tank, bundles that are supple. -/
def tankF (zs : List Int) (h : Int) (i : Nat) : Int := if inR h (gi zs (i * 4)) (gi zs (i * 4) + gi zs (i * 4 + 1) - 1) then gi zs (i * 4 + 3) else 0
def suppF (zs : List Int) (h : Int) (i : Nat) : Int :=
  if inR h (gi zs (i * 4) + gi zs (i * 4 + 1)) (gi zs (i * 4) + gi zs (i * 4 + 1) + gi zs (i * 4 + 2) - 1) then gi zs (i * 4 + 3) else 0
theorem tankF_bd {zs : List Int} {n : Nat} {h : Int} (hl : Loose zs n) (j : Nat) (hj : j < n) : 0 ≤ tankF zs h j ∧ tankF zs h j ≤ 100 := by
  have := hl.2 j hj
  unfold tankF; split <;> omega
theorem suppF_bd {zs : List Int} {n : Nat} {h : Int} (hl : Loose zs n) (j : Nat) (hj : j < n) : 0 ≤ suppF zs h j ∧ suppF zs h j ≤ 100 := by
  have := hl.2 j hj
  unfold suppF; split <;> omega
theorem tank_bd {zs : List Int} {n : Nat} {h : Int} (hl : Loose zs n) (k : Nat) (hk : k ≤ n) : 0 ≤ sumTo (tankF zs h) k ∧ sumTo (tankF zs h) k ≤ 3000 := by
  have := sumTo_bd (tankF zs h) 100 k fun j hj => tankF_bd hl j (by omega)
  have := hl.1
  omega
theorem supp_bd {zs : List Int} {n : Nat} {h : Int} (hl : Loose zs n) (k : Nat) (hk : k ≤ n) : 0 ≤ sumTo (suppF zs h) k ∧ sumTo (suppF zs h) k ≤ 3000 := by
  have := sumTo_bd (suppF zs h) 100 k fun j hj => suppF_bd hl j (by omega)
  have := hl.1
  omega

set_option maxHeartbeats 2000000 in
theorem ValidBatches_s (A : Option Addr) (n c : Nat) (zs : List Int) (w : World) (h : Ints w w.heap.size 4 A n zs) (hn : n ≤ 1048576) :
    Calls Try.prog 47 #[.slice A n c] w fun e w' => e = .returned (.bool (okAll (batchAt zs) n 10)) ∧ Below w.heap.size w w' := by
  have hn' : (n : Int) ≤ 1048576 := by omega
  go_enter Try.func47, Try.ntmps47
  go_wp2_with fail
  go_loopw [3] (fun i wr => ∃ k : Nat, k ≤ n ∧ i = .int .i64 k ∧ Hid (∀ j, j < k → batchAt zs j = true) ∧ Below w.heap.size w wr) (fun i _ => n - (intOf i).toNat)
  case atStart => exact ⟨0, Nat.zero_le _, rfl, fun j h => absurd h (by omega), Below.refl _ _⟩
  case round =>
    obtain ⟨k, hk, rfl, HK, hbel⟩ := hrel
    by_cases hlt : k < n
    · obtain ⟨b, off, rfl, hb, c0, c1, c2, c3⟩ := (h.below hbel (Nat.le_refl _)).at4 hlt
      have hX : batchAt zs k = (inR (gi zs (k * 4)) 0 5000 && inR (gi zs (k * 4 + 1)) 1 500 && inR (gi zs (k * 4 + 2)) 1 500 && inR (gi zs (k * 4 + 3)) 1 100) := rfl
      have HX := Lib.hid hX
      clear hX
      refine inR_split (gi zs (k * 4)) 0 5000 (fun h1 _ _ => inR_split (gi zs (k * 4 + 1)) 1 500 (fun h2 _ _ => inR_split (gi zs (k * 4 + 2)) 1 500 (fun h3 _ _ => inR_split (gi zs (k * 4 + 3)) 1 100 (fun h4 _ _ => ?_) (fun h4 => ?_)) (fun h3 => ?_)) (fun h2 => ?_)) (fun h1 => ?_)
      · have HT : Hid (batchAt zs k = true) := by show _ = _; rw [HX.out, h1, h2, h3, h4]; rfl
        go_wp2_with (first | (go_at_call 54; refine (l00In_c _ _ _ _).mono ?_; rintro e w' ⟨rfl, rfl⟩) | (go_at_call 59; refine (l04Hours_c _ _).mono ?_; rintro e w' ⟨rfl, rfl⟩))
        go_roundw
        case rel =>
          refine ⟨k + 1, by omega, by go_num, fun j hj => ?_, balloc hbel _⟩
          rcases Nat.lt_or_ge j k with hh | hh
          · exact HK.out j hh
          · obtain rfl : j = k := by omega
            exact HT.out
        case measure => simp [intOf]; omega
      all_goals
        have HV : Hid (okAll (batchAt zs) n 10 = false) := okAll_bad hlt (by rw [HX.out]; simp [*])
        go_wp2_with (first | (go_at_call 54; refine (l00In_c _ _ _ _).mono ?_; rintro e w' ⟨rfl, rfl⟩) | (go_at_call 59; refine (l04Hours_c _ _).mono ?_; rintro e w' ⟨rfl, rfl⟩))
        go_ret
        exact ⟨ret_bool HV.out.symm, balloc hbel _⟩
    · obtain rfl : k = n := by omega
      go_wp2
      go_ret
      refine ⟨ret_bool ?_, hbel⟩
      rw [okAll_end HK.out]
      first | rfl | (congr 1; apply propext; omega) | (simp; omega)
set_option maxHeartbeats 2000000 in
theorem ValidBatches_c (A : Option Addr) (n c : Nat) (zs : List Int) (w : World) (h : Ints w w.heap.size 4 A n zs) (hn : n ≤ 1048576) :
    Calls Try.prog 24 #[.slice A n c] w fun e w' => e = .returned (.bool (okAll (batchAt zs) n 10)) ∧ Below w.heap.size w w' := by
  have hn' : (n : Int) ≤ 1048576 := by omega
  go_enter Try.func24, Try.ntmps24
  go_wp2_with fail
  go_loopw [7] (fun i wr => ∃ k : Nat, k ≤ n ∧ i = .int .i64 k ∧ Hid (∀ j, j < k → batchAt zs j = true) ∧ Below w.heap.size w wr) (fun i _ => n - (intOf i).toNat)
  case atStart => exact ⟨0, Nat.zero_le _, rfl, fun j h => absurd h (by omega), Below.refl _ _⟩
  case round =>
    obtain ⟨k, hk, rfl, HK, hbel⟩ := hrel
    by_cases hlt : k < n
    · obtain ⟨b, off, rfl, hb, c0, c1, c2, c3⟩ := (h.below hbel (Nat.le_refl _)).at4 hlt
      have hX : batchAt zs k = (inR (gi zs (k * 4)) 0 5000 && inR (gi zs (k * 4 + 1)) 1 500 && inR (gi zs (k * 4 + 2)) 1 500 && inR (gi zs (k * 4 + 3)) 1 100) := rfl
      have HX := Lib.hid hX
      clear hX
      refine inR_split (gi zs (k * 4)) 0 5000 (fun h1 _ _ => inR_split (gi zs (k * 4 + 1)) 1 500 (fun h2 _ _ => inR_split (gi zs (k * 4 + 2)) 1 500 (fun h3 _ _ => inR_split (gi zs (k * 4 + 3)) 1 100 (fun h4 _ _ => ?_) (fun h4 => ?_)) (fun h3 => ?_)) (fun h2 => ?_)) (fun h1 => ?_)
      · have HT : Hid (batchAt zs k = true) := by show _ = _; rw [HX.out, h1, h2, h3, h4]; rfl
        go_wp2_with (first | (go_at_call 40; refine (within_c _ _ _ _).mono ?_; rintro e w' ⟨rfl, rfl⟩))
        go_roundw
        case rel =>
          refine ⟨k + 1, by omega, by go_num, fun j hj => ?_, balloc hbel _⟩
          rcases Nat.lt_or_ge j k with hh | hh
          · exact HK.out j hh
          · obtain rfl : j = k := by omega
            exact HT.out
        case measure => simp [intOf]; omega
      all_goals
        have HV : Hid (okAll (batchAt zs) n 10 = false) := okAll_bad hlt (by rw [HX.out]; simp [*])
        go_wp2_with (first | (go_at_call 40; refine (within_c _ _ _ _).mono ?_; rintro e w' ⟨rfl, rfl⟩))
        go_ret
        exact ⟨ret_bool HV.out.symm, balloc hbel _⟩
    · obtain rfl : k = n := by omega
      go_wp2
      go_ret
      refine ⟨ret_bool ?_, hbel⟩
      rw [okAll_end HK.out]
      first | rfl | (congr 1; apply propext; omega) | (simp; omega)

theorem validBatches_s (A : Option Addr) (n c : Nat) (zs : List Int) (w : World) (h : Ints w w.heap.size 4 A n zs) (hn : n ≤ 1048576) :
    Calls Try.prog 22 #[.slice A n c] w fun e w' => e = .returned (.bool (okAll (batchAt zs) n 10)) ∧ Below w.heap.size w w' := by
  go_enter Try.func22, Try.ntmps22
  go_wp2_with fail
  refine (ValidBatches_s _ _ _ zs _ h hn).mono ?_
  rintro e w1 ⟨rfl, hb1⟩
  go_wp2
  go_ret
  exact ⟨rfl, hb1⟩

set_option maxHeartbeats 2000000 in
theorem tankF_s (A : Option Addr) (n c : Nat) (zs : List Int) (hr : Int) (w : World) (h : Ints w w.heap.size 4 A n zs) (hl : Loose zs n) :
    Calls Try.prog 45 #[.slice A n c, .int .i64 hr] w fun e w' => e = .returned (.int .i64 (sumTo (tankF zs hr) n)) ∧ Below w.heap.size w w' := by
  have hn' := hl.1
  go_enter Try.func45, Try.ntmps45
  go_wp2_with fail
  go_loopw [5,6] (fun s i wr => ∃ k : Nat, k ≤ n ∧ i = .int .i64 k ∧ s = .int .i64 (sumTo (tankF zs hr) k) ∧ Below w.heap.size w wr) (fun _ i _ => n - (intOf i).toNat)
  case atStart => exact ⟨0, Nat.zero_le _, rfl, rfl, Below.refl _ _⟩
  case round =>
    obtain ⟨k, hk, rfl, rfl, hbel⟩ := hrel
    have hs := tank_bd (h := hr) hl k hk
    by_cases hlt : k < n
    · obtain ⟨b, off, rfl, hb, c0, c1, c2, c3⟩ := (h.below hbel (Nat.le_refl _)).at4 hlt
      have hwb := hl.2 k hlt
      have HW1 : IntKind.i64.wrap (gi zs (k * 4) + gi zs (k * 4 + 1)) = gi zs (k * 4) + gi zs (k * 4 + 1) := IntWalk.i64_in _ (by omega)
      have HW2 : IntKind.i64.wrap (gi zs (k * 4) + gi zs (k * 4 + 1) - 1) = gi zs (k * 4) + gi zs (k * 4 + 1) - 1 := IntWalk.i64_in _ (by omega)
      have HW3 : IntKind.i64.wrap (gi zs (k * 4) + gi zs (k * 4 + 1) + gi zs (k * 4 + 2)) = gi zs (k * 4) + gi zs (k * 4 + 1) + gi zs (k * 4 + 2) := IntWalk.i64_in _ (by omega)
      have HW4 : IntKind.i64.wrap (gi zs (k * 4) + gi zs (k * 4 + 1) + gi zs (k * 4 + 2) - 1) = gi zs (k * 4) + gi zs (k * 4 + 1) + gi zs (k * 4 + 2) - 1 := IntWalk.i64_in _ (by omega)
      refine inR_split hr (gi zs (k * 4)) (gi zs (k * 4) + gi zs (k * 4 + 1) - 1) (fun h1 _ _ => ?_) (fun h1 => ?_)
      · have HQ : Hid (sumTo (tankF zs hr) (k + 1) = sumTo (tankF zs hr) k + gi zs (k * 4 + 3)) := by show _ = _; rw [sumTo_succ, tankF, if_pos h1]
        go_wp2_with (first | (go_at_call 54; refine (l00In_c _ _ _ _).mono ?_; rintro e w' ⟨rfl, rfl⟩))
        try (go_quiet ((first | (go_at_call 54; first | exact quiet_left (asV (l00In_c _ _ _ _) (by assumption)) | exact quiet_add_left (asV (l00In_c _ _ _ _) (by assumption)) | exact quiet_left (l00In_c _ _ _ _) | exact quiet_add_left (l00In_c _ _ _ _)))); go_wp2_with (first | (go_at_call 54; refine (l00In_c _ _ _ _).mono ?_; rintro e w' ⟨rfl, rfl⟩)))
        go_roundw
        case rel => exact ⟨k + 1, by omega, by go_num, by rw [HQ.out], by repeat (first | exact hbel | apply balloc | apply bdrewN)⟩
        case measure => simp [intOf]; omega
      · have HQ : Hid (sumTo (tankF zs hr) (k + 1) = sumTo (tankF zs hr) k) := by show _ = _; rw [sumTo_succ, tankF, if_neg (by rw [h1]; simp)]; omega
        go_wp2_with (first | (go_at_call 54; refine (l00In_c _ _ _ _).mono ?_; rintro e w' ⟨rfl, rfl⟩))
        try (go_quiet ((first | (go_at_call 54; first | exact quiet_left (asV (l00In_c _ _ _ _) (by assumption)) | exact quiet_add_left (asV (l00In_c _ _ _ _) (by assumption)) | exact quiet_left (l00In_c _ _ _ _) | exact quiet_add_left (l00In_c _ _ _ _)))); go_wp2_with (first | (go_at_call 54; refine (l00In_c _ _ _ _).mono ?_; rintro e w' ⟨rfl, rfl⟩)))
        go_roundw
        case rel => exact ⟨k + 1, by omega, by go_num, by rw [HQ.out], by repeat (first | exact hbel | apply balloc | apply bdrewN)⟩
        case measure => simp [intOf]; omega
    · obtain rfl : k = n := by omega
      go_wp2
      go_ret
      exact ⟨rfl, hbel⟩
set_option maxHeartbeats 2000000 in
theorem tankF_i (A : Option Addr) (n c : Nat) (zs : List Int) (hr : Int) (w : World) (h : Ints w w.heap.size 4 A n zs) (hl : Loose zs n) :
    Calls Try.prog 43 #[.slice A n c, .int .i64 hr] w fun e w' => e = .returned (.int .i64 (sumTo (tankF zs hr) n)) ∧ Below w.heap.size w w' := by
  have hn' := hl.1
  go_enter Try.func43, Try.ntmps43
  go_wp2_with fail
  go_loopw [5,10] (fun s i wr => ∃ k : Nat, k ≤ n ∧ i = .int .i64 k ∧ s = .int .i64 (sumTo (tankF zs hr) k) ∧ Below w.heap.size w wr) (fun _ i _ => n - (intOf i).toNat)
  case atStart => exact ⟨0, Nat.zero_le _, rfl, rfl, Below.refl _ _⟩
  case round =>
    obtain ⟨k, hk, rfl, rfl, hbel⟩ := hrel
    have hs := tank_bd (h := hr) hl k hk
    by_cases hlt : k < n
    · obtain ⟨b, off, rfl, hb, c0, c1, c2, c3⟩ := (h.below hbel (Nat.le_refl _)).at4 hlt
      have hwb := hl.2 k hlt
      have HW1 : IntKind.i64.wrap (gi zs (k * 4) + gi zs (k * 4 + 1)) = gi zs (k * 4) + gi zs (k * 4 + 1) := IntWalk.i64_in _ (by omega)
      have HW2 : IntKind.i64.wrap (gi zs (k * 4) + gi zs (k * 4 + 1) - 1) = gi zs (k * 4) + gi zs (k * 4 + 1) - 1 := IntWalk.i64_in _ (by omega)
      have HW3 : IntKind.i64.wrap (gi zs (k * 4) + gi zs (k * 4 + 1) + gi zs (k * 4 + 2)) = gi zs (k * 4) + gi zs (k * 4 + 1) + gi zs (k * 4 + 2) := IntWalk.i64_in _ (by omega)
      have HW4 : IntKind.i64.wrap (gi zs (k * 4) + gi zs (k * 4 + 1) + gi zs (k * 4 + 2) - 1) = gi zs (k * 4) + gi zs (k * 4 + 1) + gi zs (k * 4 + 2) - 1 := IntWalk.i64_in _ (by omega)
      refine inR_split hr (gi zs (k * 4)) (gi zs (k * 4) + gi zs (k * 4 + 1) - 1) (fun h1 _ _ => ?_) (fun h1 => ?_)
      · have HQ : Hid (sumTo (tankF zs hr) (k + 1) = sumTo (tankF zs hr) k + gi zs (k * 4 + 3)) := by show _ = _; rw [sumTo_succ, tankF, if_pos h1]
        go_wp2_with (first | (go_at_call 40; refine (within_c _ _ _ _).mono ?_; rintro e w' ⟨rfl, rfl⟩))
        skip
        go_roundw
        case rel => exact ⟨k + 1, by omega, by go_num, by rw [HQ.out], by repeat (first | exact hbel | apply balloc | apply bdrewN)⟩
        case measure => simp [intOf]; omega
      · have HQ : Hid (sumTo (tankF zs hr) (k + 1) = sumTo (tankF zs hr) k) := by show _ = _; rw [sumTo_succ, tankF, if_neg (by rw [h1]; simp)]; omega
        go_wp2_with (first | (go_at_call 40; refine (within_c _ _ _ _).mono ?_; rintro e w' ⟨rfl, rfl⟩))
        skip
        go_roundw
        case rel => exact ⟨k + 1, by omega, by go_num, by rw [HQ.out], by repeat (first | exact hbel | apply balloc | apply bdrewN)⟩
        case measure => simp [intOf]; omega
    · obtain rfl : k = n := by omega
      go_wp2
      go_ret
      exact ⟨rfl, hbel⟩
set_option maxHeartbeats 2000000 in
theorem suppF_s (A : Option Addr) (n c : Nat) (zs : List Int) (hr : Int) (w : World) (h : Ints w w.heap.size 4 A n zs) (hl : Loose zs n) :
    Calls Try.prog 52 #[.slice A n c, .int .i64 hr] w fun e w' => e = .returned (.int .i64 (sumTo (suppF zs hr) n)) ∧ Below w.heap.size w w' := by
  have hn' := hl.1
  go_enter Try.func52, Try.ntmps52
  go_wp2_with fail
  go_loopw [5,6] (fun s i wr => ∃ k : Nat, k ≤ n ∧ i = .int .i64 k ∧ s = .int .i64 (sumTo (suppF zs hr) k) ∧ Below w.heap.size w wr) (fun _ i _ => n - (intOf i).toNat)
  case atStart => exact ⟨0, Nat.zero_le _, rfl, rfl, Below.refl _ _⟩
  case round =>
    obtain ⟨k, hk, rfl, rfl, hbel⟩ := hrel
    have hs := supp_bd (h := hr) hl k hk
    by_cases hlt : k < n
    · obtain ⟨b, off, rfl, hb, c0, c1, c2, c3⟩ := (h.below hbel (Nat.le_refl _)).at4 hlt
      have hwb := hl.2 k hlt
      have HW1 : IntKind.i64.wrap (gi zs (k * 4) + gi zs (k * 4 + 1)) = gi zs (k * 4) + gi zs (k * 4 + 1) := IntWalk.i64_in _ (by omega)
      have HW2 : IntKind.i64.wrap (gi zs (k * 4) + gi zs (k * 4 + 1) - 1) = gi zs (k * 4) + gi zs (k * 4 + 1) - 1 := IntWalk.i64_in _ (by omega)
      have HW3 : IntKind.i64.wrap (gi zs (k * 4) + gi zs (k * 4 + 1) + gi zs (k * 4 + 2)) = gi zs (k * 4) + gi zs (k * 4 + 1) + gi zs (k * 4 + 2) := IntWalk.i64_in _ (by omega)
      have HW4 : IntKind.i64.wrap (gi zs (k * 4) + gi zs (k * 4 + 1) + gi zs (k * 4 + 2) - 1) = gi zs (k * 4) + gi zs (k * 4 + 1) + gi zs (k * 4 + 2) - 1 := IntWalk.i64_in _ (by omega)
      refine inR_split hr (gi zs (k * 4) + gi zs (k * 4 + 1)) (gi zs (k * 4) + gi zs (k * 4 + 1) + gi zs (k * 4 + 2) - 1) (fun h1 _ _ => ?_) (fun h1 => ?_)
      · have HQ : Hid (sumTo (suppF zs hr) (k + 1) = sumTo (suppF zs hr) k + gi zs (k * 4 + 3)) := by show _ = _; rw [sumTo_succ, suppF, if_pos h1]
        go_wp2_with (first | (go_at_call 54; refine (l00In_c _ _ _ _).mono ?_; rintro e w' ⟨rfl, rfl⟩))
        try (go_quiet ((first | (go_at_call 54; first | exact quiet_left (asV (l00In_c _ _ _ _) (by assumption)) | exact quiet_add_left (asV (l00In_c _ _ _ _) (by assumption)) | exact quiet_left (l00In_c _ _ _ _) | exact quiet_add_left (l00In_c _ _ _ _)))); go_wp2_with (first | (go_at_call 54; refine (l00In_c _ _ _ _).mono ?_; rintro e w' ⟨rfl, rfl⟩)))
        go_roundw
        case rel => exact ⟨k + 1, by omega, by go_num, by rw [HQ.out], by repeat (first | exact hbel | apply balloc | apply bdrewN)⟩
        case measure => simp [intOf]; omega
      · have HQ : Hid (sumTo (suppF zs hr) (k + 1) = sumTo (suppF zs hr) k) := by show _ = _; rw [sumTo_succ, suppF, if_neg (by rw [h1]; simp)]; omega
        go_wp2_with (first | (go_at_call 54; refine (l00In_c _ _ _ _).mono ?_; rintro e w' ⟨rfl, rfl⟩))
        try (go_quiet ((first | (go_at_call 54; first | exact quiet_left (asV (l00In_c _ _ _ _) (by assumption)) | exact quiet_add_left (asV (l00In_c _ _ _ _) (by assumption)) | exact quiet_left (l00In_c _ _ _ _) | exact quiet_add_left (l00In_c _ _ _ _)))); go_wp2_with (first | (go_at_call 54; refine (l00In_c _ _ _ _).mono ?_; rintro e w' ⟨rfl, rfl⟩)))
        go_roundw
        case rel => exact ⟨k + 1, by omega, by go_num, by rw [HQ.out], by repeat (first | exact hbel | apply balloc | apply bdrewN)⟩
        case measure => simp [intOf]; omega
    · obtain rfl : k = n := by omega
      go_wp2
      go_ret
      exact ⟨rfl, hbel⟩
set_option maxHeartbeats 2000000 in
theorem suppF_i (A : Option Addr) (n c : Nat) (zs : List Int) (hr : Int) (w : World) (h : Ints w w.heap.size 4 A n zs) (hl : Loose zs n) :
    Calls Try.prog 53 #[.slice A n c, .int .i64 hr] w fun e w' => e = .returned (.int .i64 (sumTo (suppF zs hr) n)) ∧ Below w.heap.size w w' := by
  have hn' := hl.1
  go_enter Try.func53, Try.ntmps53
  go_wp2_with fail
  go_loopw [5,11] (fun s i wr => ∃ k : Nat, k ≤ n ∧ i = .int .i64 k ∧ s = .int .i64 (sumTo (suppF zs hr) k) ∧ Below w.heap.size w wr) (fun _ i _ => n - (intOf i).toNat)
  case atStart => exact ⟨0, Nat.zero_le _, rfl, rfl, Below.refl _ _⟩
  case round =>
    obtain ⟨k, hk, rfl, rfl, hbel⟩ := hrel
    have hs := supp_bd (h := hr) hl k hk
    by_cases hlt : k < n
    · obtain ⟨b, off, rfl, hb, c0, c1, c2, c3⟩ := (h.below hbel (Nat.le_refl _)).at4 hlt
      have hwb := hl.2 k hlt
      have HW1 : IntKind.i64.wrap (gi zs (k * 4) + gi zs (k * 4 + 1)) = gi zs (k * 4) + gi zs (k * 4 + 1) := IntWalk.i64_in _ (by omega)
      have HW2 : IntKind.i64.wrap (gi zs (k * 4) + gi zs (k * 4 + 1) - 1) = gi zs (k * 4) + gi zs (k * 4 + 1) - 1 := IntWalk.i64_in _ (by omega)
      have HW3 : IntKind.i64.wrap (gi zs (k * 4) + gi zs (k * 4 + 1) + gi zs (k * 4 + 2)) = gi zs (k * 4) + gi zs (k * 4 + 1) + gi zs (k * 4 + 2) := IntWalk.i64_in _ (by omega)
      have HW4 : IntKind.i64.wrap (gi zs (k * 4) + gi zs (k * 4 + 1) + gi zs (k * 4 + 2) - 1) = gi zs (k * 4) + gi zs (k * 4 + 1) + gi zs (k * 4 + 2) - 1 := IntWalk.i64_in _ (by omega)
      refine inR_split hr (gi zs (k * 4) + gi zs (k * 4 + 1)) (gi zs (k * 4) + gi zs (k * 4 + 1) + gi zs (k * 4 + 2) - 1) (fun h1 _ _ => ?_) (fun h1 => ?_)
      · have HQ : Hid (sumTo (suppF zs hr) (k + 1) = sumTo (suppF zs hr) k + gi zs (k * 4 + 3)) := by show _ = _; rw [sumTo_succ, suppF, if_pos h1]
        go_wp2_with (first | (go_at_call 40; refine (within_c _ _ _ _).mono ?_; rintro e w' ⟨rfl, rfl⟩))
        skip
        go_roundw
        case rel => exact ⟨k + 1, by omega, by go_num, by rw [HQ.out], by repeat (first | exact hbel | apply balloc | apply bdrewN)⟩
        case measure => simp [intOf]; omega
      · have HQ : Hid (sumTo (suppF zs hr) (k + 1) = sumTo (suppF zs hr) k) := by show _ = _; rw [sumTo_succ, suppF, if_neg (by rw [h1]; simp)]; omega
        go_wp2_with (first | (go_at_call 40; refine (within_c _ _ _ _).mono ?_; rintro e w' ⟨rfl, rfl⟩))
        skip
        go_roundw
        case rel => exact ⟨k + 1, by omega, by go_num, by rw [HQ.out], by repeat (first | exact hbel | apply balloc | apply bdrewN)⟩
        case measure => simp [intOf]; omega
    · obtain rfl : k = n := by omega
      go_wp2
      go_ret
      exact ⟨rfl, hbel⟩

end Go.Proofs.Ytnagaopogmdfgaa
