/-
  Which structs and lists of structs are valid: the reference's look and the program's.
  No conditions.
-/
import Derived.Test.YtgcpobondcnjcaaGreatDoorConv
namespace Go.Proofs.YtgcpobondcnjcaaGreatDoor
open Go.ChangeShapes Go.WideShapes Go.ChangeAt Go.RowKit Go.Deep

/-- All of n are so, and they are at most m. -/
def okAll (p : Nat → Bool) (n m : Nat) : Bool := (List.range n).all p && decide (n ≤ m)
theorem okAll_bad {p : Nat → Bool} {n m k : Nat} (hk : k < n) (h : p k = false) : okAll p n m = false := by
  have : (List.range n).all p = false := by
    rw [Bool.eq_false_iff]; intro hh; rw [List.all_eq_true] at hh
    have := hh k (List.mem_range.2 hk); rw [h] at this; cases this
  simp [okAll, this]
theorem okAll_end {p : Nat → Bool} {n m : Nat} (h : ∀ j, j < n → p j = true) : okAll p n m = decide (n ≤ m) := by
  have : (List.range n).all p = true := by
    rw [List.all_eq_true]; intro x hx; exact h x (List.mem_range.1 hx)
  simp [okAll, this]
theorem okAll_get {p : Nat → Bool} {n m k : Nat} (h : okAll p n m = true) (hk : k < n) : p k = true := by
  simp only [okAll, Bool.and_eq_true, List.all_eq_true] at h
  exact h.1 k (List.mem_range.2 hk)
theorem okAll_le {p : Nat → Bool} {n m : Nat} (h : okAll p n m = true) : n ≤ m := by
  simp only [okAll, Bool.and_eq_true, decide_eq_true_eq] at h
  exact h.2

/-- The sum of the first k. -/
def sumTo (f : Nat → Int) : Nat → Int
  | 0 => 0
  | k + 1 => sumTo f k + f k
theorem sumTo_succ (f : Nat → Int) (k : Nat) : sumTo f (k + 1) = sumTo f k + f k := rfl
theorem sumTo_bd (f : Nat → Int) (m : Int) : ∀ k : Nat, (∀ j, j < k → 0 ≤ f j ∧ f j ≤ m) → 0 ≤ sumTo f k ∧ sumTo f k ≤ m * k
  | 0, _ => by simp [sumTo]
  | k + 1, h => by
    have h1 := sumTo_bd f m k fun j hj => h j (by omega)
    have h2 := h k (by omega)
    rw [sumTo_succ, Int.natCast_add, Int.mul_add]
    simp only [Int.natCast_one, Int.mul_one]
    omega

def bunchOk (a b c : Int) : Bool := inR a 100 3000 && inR b 10 2000 && inR c 1 50000
def rodOk (a b c : Int) : Bool := inR a 100 3000 && inR b 1 300 && inR c 1 b
def bunchAt (zs : List Int) (i : Nat) : Bool := bunchOk (gi zs (i * 3)) (gi zs (i * 3 + 1)) (gi zs (i * 3 + 2))
def rodAt (zs : List Int) (i : Nat) : Bool := rodOk (gi zs (i * 3)) (gi zs (i * 3 + 1)) (gi zs (i * 3 + 2))

set_option maxHeartbeats 1600000 in
theorem l05One_c (bk o : Nat) (a b c : Int) (w : World) (c0 : w.cell? ⟨bk, o, none⟩ = some (.int .i64 a)) (c1 : w.cell? ⟨bk, o + 1, none⟩ = some (.int .i64 b)) (c2 : w.cell? ⟨bk, o + 2, none⟩ = some (.int .i64 c)) :
    Calls Tryz.prog 60 #[.pointer (some ⟨bk, o, none⟩)] w fun e w' => e = .returned (.bool (bunchOk a b c)) ∧ Below w.heap.size w w' := by
  refine inR_split a 100 3000 (fun h1 _ _ => inR_split b 10 2000 (fun h2 _ _ => inR_split c 1 50000 (fun h3 _ _ => ?_) (fun h3 => ?_)) (fun h2 => ?_)) (fun h1 => ?_)
  all_goals
    go_enter Tryz.func60, Tryz.ntmps60
    go_wp2_with (first | (go_at_call 72; refine (l02Long_c _ _).mono ?_; rintro e w' ⟨rfl, rfl⟩) | (go_at_call 36; refine (l00In_c _ _ _ _).mono ?_; rintro e w' ⟨rfl, rfl⟩))
    try (go_quiet ((first | (go_at_call 72; first | exact quiet_left (asV (l02Long_c _ _) (by assumption)) | exact quiet_add_left (asV (l02Long_c _ _) (by assumption)) | exact quiet_left (l02Long_c _ _) | exact quiet_add_left (l02Long_c _ _)) | (go_at_call 36; first | exact quiet_left (asV (l00In_c _ _ _ _) (by assumption)) | exact quiet_add_left (asV (l00In_c _ _ _ _) (by assumption)) | exact quiet_left (l00In_c _ _ _ _) | exact quiet_add_left (l00In_c _ _ _ _)))); go_wp2)
    go_ret
    refine ⟨ret_bool ?_, by first | exact Below.refl _ _ | exact bdrewN (Below.refl _ _) _⟩
    simp [bunchOk, *]

set_option maxHeartbeats 1600000 in
theorem isBunch_c (a b c : Int) (w : World) : Calls Tryz.prog 58 #[.agg #[.int .i64 a, .int .i64 b, .int .i64 c]] w fun e w' => e = .returned (.bool (bunchOk a b c)) ∧ Below w.heap.size w w' := by
  refine inR_split a 100 3000 (fun h1 _ _ => inR_split b 10 2000 (fun h2 _ _ => inR_split c 1 50000 (fun h3 _ _ => ?_) (fun h3 => ?_)) (fun h2 => ?_)) (fun h1 => ?_)
  all_goals
    go_enter Tryz.func58, Tryz.ntmps58
    go_wp2_with (first | (go_at_call 70; refine (isLength_c _ _).mono ?_; rintro e w' ⟨rfl, rfl⟩) | (go_at_call 62; refine (isGirth_c _ _).mono ?_; rintro e w' ⟨rfl, rfl⟩) | (go_at_call 33; refine (within_c _ _ _ _).mono ?_; rintro e w' ⟨rfl, rfl⟩))
    try (go_quiet ((first | (go_at_call 70; first | exact quiet_left (asV (isLength_c _ _) (by assumption)) | exact quiet_add_left (asV (isLength_c _ _) (by assumption)) | exact quiet_left (isLength_c _ _) | exact quiet_add_left (isLength_c _ _)) | (go_at_call 62; first | exact quiet_left (asV (isGirth_c _ _) (by assumption)) | exact quiet_add_left (asV (isGirth_c _ _) (by assumption)) | exact quiet_left (isGirth_c _ _) | exact quiet_add_left (isGirth_c _ _)) | (go_at_call 33; first | exact quiet_left (asV (within_c _ _ _ _) (by assumption)) | exact quiet_add_left (asV (within_c _ _ _ _) (by assumption)) | exact quiet_left (within_c _ _ _ _) | exact quiet_add_left (within_c _ _ _ _)))); go_wp2)
    go_ret
    refine ⟨ret_bool ?_, ?_⟩
    · simp [bunchOk, *]
    · repeat (first | exact Below.refl _ _ | apply balloc | apply bdrewN)

theorem l05Ok_c (A : Option Addr) (n c : Nat) (zs : List Int) (w : World) (h : Ints w w.heap.size 3 A n zs) (hn : n ≤ 1048576) :
    Calls Tryz.prog 43 #[.slice A n c] w fun e w' => e = .returned (.bool (okAll (bunchAt zs) n 30)) ∧ Below w.heap.size w w' := by
  have hn' : (n : Int) ≤ 1048576 := by omega
  go_enter Tryz.func43, Tryz.ntmps43
  go_wp2_with fail
  go_loopw [3] (fun i wr => ∃ k : Nat, k ≤ n ∧ i = .int .i64 k ∧ Hid (∀ j, j < k → bunchAt zs j = true) ∧ Below w.heap.size w wr) (fun i _ => n - (intOf i).toNat)
  case atStart => exact ⟨0, Nat.zero_le _, rfl, fun j h => absurd h (by omega), Below.refl _ _⟩
  case round =>
    obtain ⟨k, hk, rfl, HK, hbel⟩ := hrel
    by_cases hlt : k < n
    · obtain ⟨b, off, rfl, hb, c0, c1, c2⟩ := (h.below hbel (Nat.le_refl _)).at3 hlt
      have HX : Hid (bunchAt zs k = bunchOk (gi zs (k * 3)) (gi zs (k * 3 + 1)) (gi zs (k * 3 + 2))) := rfl
      rcases hx : bunchOk (gi zs (k * 3)) (gi zs (k * 3 + 1)) (gi zs (k * 3 + 2)) with _ | _
      · rw [hx] at HX
        have HV : Hid (okAll (bunchAt zs) n 30 = false) := okAll_bad hlt HX.out
        clear HX
        go_wp2_with (go_at_call 60; refine (l05One_c _ _ _ _ _ _ c0 c1 c2).mono ?_; rintro e w1 ⟨rfl, hb1⟩)
        go_ret
        exact ⟨ret_bool HV.out.symm, btrans hbel hb1⟩
      · rw [hx] at HX
        go_wp2_with (go_at_call 60; refine (l05One_c _ _ _ _ _ _ c0 c1 c2).mono ?_; rintro e w1 ⟨rfl, hb1⟩)
        go_roundw
        case rel =>
          refine ⟨k + 1, by omega, by go_num, fun j hj => ?_, btrans hbel hb1⟩
          rcases Nat.lt_or_ge j k with hh | hh
          · exact HK.out j hh
          · obtain rfl : j = k := by omega
            exact HX.out
        case measure => simp [intOf]; omega
    · obtain rfl : k = n := by omega
      go_wp2
      go_ret
      refine ⟨ret_bool ?_, hbel⟩
      rw [okAll_end HK.out]
      first | rfl | (congr 1; apply propext; omega) | (simp; omega)

theorem ValidBunches_c (A : Option Addr) (n c : Nat) (zs : List Int) (w : World) (h : Ints w w.heap.size 3 A n zs) (hn : n ≤ 1048576) :
    Calls Tryz.prog 24 #[.slice A n c] w fun e w' => e = .returned (.bool (okAll (bunchAt zs) n 30)) ∧ Below w.heap.size w w' := by
  have hn' : (n : Int) ≤ 1048576 := by omega
  go_enter Tryz.func24, Tryz.ntmps24
  go_wp2_with fail
  go_loopw [7] (fun i wr => ∃ k : Nat, k ≤ n ∧ i = .int .i64 k ∧ Hid (∀ j, j < k → bunchAt zs j = true) ∧ Below w.heap.size w wr) (fun i _ => n - (intOf i).toNat)
  case atStart => exact ⟨0, Nat.zero_le _, rfl, fun j h => absurd h (by omega), Below.refl _ _⟩
  case round =>
    obtain ⟨k, hk, rfl, HK, hbel⟩ := hrel
    by_cases hlt : k < n
    · obtain ⟨b, off, rfl, hb, c0, c1, c2⟩ := (h.below hbel (Nat.le_refl _)).at3 hlt
      have HX : Hid (bunchAt zs k = bunchOk (gi zs (k * 3)) (gi zs (k * 3 + 1)) (gi zs (k * 3 + 2))) := rfl
      rcases hx : bunchOk (gi zs (k * 3)) (gi zs (k * 3 + 1)) (gi zs (k * 3 + 2)) with _ | _
      · rw [hx] at HX
        have HV : Hid (okAll (bunchAt zs) n 30 = false) := okAll_bad hlt HX.out
        clear HX
        go_wp2_with (go_at_call 58; refine (isBunch_c _ _ _ _).mono ?_; rintro e w1 ⟨rfl, hb1⟩)
        go_ret
        exact ⟨ret_bool HV.out.symm, btrans (balloc hbel _) hb1⟩
      · rw [hx] at HX
        go_wp2_with (go_at_call 58; refine (isBunch_c _ _ _ _).mono ?_; rintro e w1 ⟨rfl, hb1⟩)
        go_roundw
        case rel =>
          refine ⟨k + 1, by omega, by go_num, fun j hj => ?_, btrans (balloc hbel _) hb1⟩
          rcases Nat.lt_or_ge j k with hh | hh
          · exact HK.out j hh
          · obtain rfl : j = k := by omega
            exact HX.out
        case measure => simp [intOf]; omega
    · obtain rfl : k = n := by omega
      go_wp2
      go_ret
      refine ⟨ret_bool ?_, hbel⟩
      rw [okAll_end HK.out]
      first | rfl | (congr 1; apply propext; omega) | (simp; omega)

theorem ValidBunches_s (A : Option Addr) (n c : Nat) (zs : List Int) (w : World) (h : Ints w w.heap.size 3 A n zs) (hn : n ≤ 1048576) :
    Calls Tryz.prog 25 #[.slice A n c] w fun e w' => e = .returned (.bool (okAll (bunchAt zs) n 30)) ∧ Below w.heap.size w w' := by
  go_enter Tryz.func25, Tryz.ntmps25
  go_wp2_with (go_at_call 43; refine (l05Ok_c _ _ _ _ _ h hn).mono ?_; rintro e w1 ⟨rfl, hb1⟩)
  go_ret
  exact ⟨rfl, hb1⟩