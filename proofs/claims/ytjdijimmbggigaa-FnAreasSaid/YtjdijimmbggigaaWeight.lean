/-
  The weight of the bundles of a length.
  No conditions.
-/
import Derived.Test.YtjdijimmbggigaaValid
namespace Go.Proofs.Ytjdijimmbggigaa
open Go.ChangeShapes Go.WideShapes Go.ChangeAt Go.RowKit Go.Deep

def wolF (zs : List Int) (l : Int) (i : Nat) : Int := if gi zs (i * 3) = l then gi zs (i * 3 + 2) else 0
/-- WeightOfLength. -/
def wolV (zs : List Int) (n : Nat) (l : Int) : Int := if okAll (bunchAt zs) n 30 && inR l 100 3000 then sumTo (wolF zs l) n else 0
def wolC (zs : List Int) (n : Nat) (l : Int) : Int := if okAll (bunchAt zs) n 30 then (if inR l 100 3000 then 0 else 2) else 1
theorem bunchOk_bd {a b c : Int} (h : bunchOk a b c = true) : 100 ≤ a ∧ a ≤ 3000 ∧ 10 ≤ b ∧ b ≤ 2000 ∧ 1 ≤ c ∧ c ≤ 50000 := by
  simp only [bunchOk, Bool.and_eq_true] at h
  have h1 := inR_true h.1.1
  have h2 := inR_true h.1.2
  have h3 := inR_true h.2
  omega
theorem wolF_bd {zs : List Int} {n : Nat} {l : Int} (h : okAll (bunchAt zs) n 30 = true) (j : Nat) (hj : j < n) : 0 ≤ wolF zs l j ∧ wolF zs l j ≤ 50000 := by
  have := bunchOk_bd (okAll_get h hj)
  unfold wolF; split <;> omega
theorem wol_bd {zs : List Int} {n : Nat} {l : Int} (h : okAll (bunchAt zs) n 30 = true) (k : Nat) (hk : k ≤ n) : 0 ≤ sumTo (wolF zs l) k ∧ sumTo (wolF zs l) k ≤ 1500000 := by
  have := sumTo_bd (wolF zs l) 50000 k fun j hj => wolF_bd h j (by omega)
  have := okAll_le h
  omega

set_option maxHeartbeats 1000000 in
theorem weight_s (A : Option Addr) (n c : Nat) (zs : List Int) (l : Int) (w : World) (h : Ints w w.heap.size 3 A n zs) (hn : n ≤ 1048576) :
    Calls Try.prog 21 #[.slice A n c, .int .i64 l] w fun e w' => e = .returned (.tuple #[.int .i64 (wolV zs n l), .int .i64 (wolC zs n l)]) ∧ Below w.heap.size w w' := by
  rcases hok : okAll (bunchAt zs) n 30 with _ | _
  · have HV : Hid (wolV zs n l = 0 ∧ wolC zs n l = 1) := by show _ ∧ _; simp [wolV, wolC, hok]
    go_enter Try.func21, Try.ntmps21
    go_wp2_with fail
    refine (l05Ok_c _ _ _ zs _ h hn).mono ?_
    rintro e w1 ⟨rfl, hb1⟩
    rw [hok]
    go_wp2
    go_ret2
    refine ⟨?_, ?_⟩
    · rw [HV.out.1, HV.out.2]; rfl
    · first | exact Below.refl _ _ | exact hb1
  · refine inR_split l 100 3000 (fun hl _ _ => ?_) (fun hl => ?_)
    · have HV : Hid (wolV zs n l = sumTo (wolF zs l) n ∧ wolC zs n l = 0) := by show _ ∧ _; simp [wolV, wolC, hok, hl]
      have HO := Lib.hid hok
      go_enter Try.func21, Try.ntmps21
      go_wp2_with fail
      refine (l05Ok_c _ _ _ zs _ h hn).mono ?_
      rintro e w1 ⟨rfl, hb1⟩
      rw [hok]
      go_wp2_with (first | (go_at_call 49; refine (l02Long_c _ _).mono ?_; rintro e w' ⟨rfl, rfl⟩))
      go_loopw [6,7] (fun s i wr => ∃ k : Nat, k ≤ n ∧ i = .int .i64 k ∧ s = .int .i64 (sumTo (wolF zs l) k) ∧ Below w.heap.size w wr) (fun _ i _ => n - (intOf i).toNat)
      case atStart => exact ⟨0, Nat.zero_le _, rfl, rfl, by first | exact Below.refl _ _ | exact hb1⟩
      case round =>
        obtain ⟨k, hk, rfl, rfl, hbel⟩ := hrel
        have hs := wol_bd (l := l) HO.out k hk
        by_cases hlt : k < n
        · obtain ⟨b, off, rfl, hb, c0, c1, c2⟩ := (h.below hbel (Nat.le_refl _)).at3 hlt
          have hwb := bunchOk_bd (okAll_get HO.out hlt)
          by_cases hq : gi zs (k * 3) = l
          · have HQ : Hid (sumTo (wolF zs l) (k + 1) = sumTo (wolF zs l) k + gi zs (k * 3 + 2)) := by show _ = _; rw [sumTo_succ, wolF, if_pos hq]
            have hqb : (gi zs (k * 3) == l) = true := by rw [beq_iff_eq]; exact hq
            clear hq
            go_wp2
            go_roundw
            case rel => exact ⟨k + 1, by omega, by go_num, by rw [HQ.out], by first | exact hbel | exact balloc hbel _⟩
            case measure => simp [intOf]; omega
          · have HQ : Hid (sumTo (wolF zs l) (k + 1) = sumTo (wolF zs l) k) := by show _ = _; rw [sumTo_succ, wolF, if_neg hq]; omega
            have hqb : (gi zs (k * 3) == l) = false := by rw [beq_eq_false_iff_ne]; exact hq
            clear hq
            go_wp2
            go_roundw
            case rel => exact ⟨k + 1, by omega, by go_num, by rw [HQ.out], by first | exact hbel | exact balloc hbel _⟩
            case measure => simp [intOf]; omega
        · obtain rfl : k = n := by omega
          go_wp2
          go_ret2
          refine ⟨?_, hbel⟩
          rw [HV.out.1, HV.out.2]; rfl
    · have HV : Hid (wolV zs n l = 0 ∧ wolC zs n l = 2) := by show _ ∧ _; simp [wolV, wolC, hok, hl]
      go_enter Try.func21, Try.ntmps21
      go_wp2_with fail
      refine (l05Ok_c _ _ _ zs _ h hn).mono ?_
      rintro e w1 ⟨rfl, hb1⟩
      rw [hok]
      go_wp2_with (first | (go_at_call 49; refine (l02Long_c _ _).mono ?_; rintro e w' ⟨rfl, rfl⟩))
      go_ret2
      refine ⟨?_, ?_⟩
      · rw [HV.out.1, HV.out.2]; rfl
      · first | exact Below.refl _ _ | exact hb1
set_option maxHeartbeats 1000000 in
theorem weight_i (A : Option Addr) (n c : Nat) (zs : List Int) (l : Int) (w : World) (h : Ints w w.heap.size 3 A n zs) (hn : n ≤ 1048576) :
    Calls Try.prog 22 #[.slice A n c, .int .i64 l] w fun e w' => e = .returned (.tuple #[.int .i64 (wolV zs n l), .int .i64 (wolC zs n l)]) ∧ Below w.heap.size w w' := by
  rcases hok : okAll (bunchAt zs) n 30 with _ | _
  · have HV : Hid (wolV zs n l = 0 ∧ wolC zs n l = 1) := by show _ ∧ _; simp [wolV, wolC, hok]
    go_enter Try.func22, Try.ntmps22
    go_wp2_with fail
    refine (ValidBunches_c _ _ _ zs _ h hn).mono ?_
    rintro e w1 ⟨rfl, hb1⟩
    rw [hok]
    go_wp2
    go_ret2
    refine ⟨?_, ?_⟩
    · rw [HV.out.1, HV.out.2]; rfl
    · first | exact Below.refl _ _ | exact hb1
  · refine inR_split l 100 3000 (fun hl _ _ => ?_) (fun hl => ?_)
    · have HV : Hid (wolV zs n l = sumTo (wolF zs l) n ∧ wolC zs n l = 0) := by show _ ∧ _; simp [wolV, wolC, hok, hl]
      have HO := Lib.hid hok
      go_enter Try.func22, Try.ntmps22
      go_wp2_with fail
      refine (ValidBunches_c _ _ _ zs _ h hn).mono ?_
      rintro e w1 ⟨rfl, hb1⟩
      rw [hok]
      go_wp2_with (first | (go_at_call 50; refine (isLength_c _ _).mono ?_; rintro e w' ⟨rfl, rfl⟩))
      go_loopw [6,17] (fun s i wr => ∃ k : Nat, k ≤ n ∧ i = .int .i64 k ∧ s = .int .i64 (sumTo (wolF zs l) k) ∧ Below w.heap.size w wr) (fun _ i _ => n - (intOf i).toNat)
      case atStart => exact ⟨0, Nat.zero_le _, rfl, rfl, by first | exact Below.refl _ _ | exact hb1⟩
      case round =>
        obtain ⟨k, hk, rfl, rfl, hbel⟩ := hrel
        have hs := wol_bd (l := l) HO.out k hk
        by_cases hlt : k < n
        · obtain ⟨b, off, rfl, hb, c0, c1, c2⟩ := (h.below hbel (Nat.le_refl _)).at3 hlt
          have hwb := bunchOk_bd (okAll_get HO.out hlt)
          by_cases hq : gi zs (k * 3) = l
          · have HQ : Hid (sumTo (wolF zs l) (k + 1) = sumTo (wolF zs l) k + gi zs (k * 3 + 2)) := by show _ = _; rw [sumTo_succ, wolF, if_pos hq]
            have hqb : (gi zs (k * 3) == l) = true := by rw [beq_iff_eq]; exact hq
            clear hq
            go_wp2
            go_roundw
            case rel => exact ⟨k + 1, by omega, by go_num, by rw [HQ.out], by first | exact hbel | exact balloc hbel _⟩
            case measure => simp [intOf]; omega
          · have HQ : Hid (sumTo (wolF zs l) (k + 1) = sumTo (wolF zs l) k) := by show _ = _; rw [sumTo_succ, wolF, if_neg hq]; omega
            have hqb : (gi zs (k * 3) == l) = false := by rw [beq_eq_false_iff_ne]; exact hq
            clear hq
            go_wp2
            go_roundw
            case rel => exact ⟨k + 1, by omega, by go_num, by rw [HQ.out], by first | exact hbel | exact balloc hbel _⟩
            case measure => simp [intOf]; omega
        · obtain rfl : k = n := by omega
          go_wp2
          go_ret2
          refine ⟨?_, hbel⟩
          rw [HV.out.1, HV.out.2]; rfl
    · have HV : Hid (wolV zs n l = 0 ∧ wolC zs n l = 2) := by show _ ∧ _; simp [wolV, wolC, hok, hl]
      go_enter Try.func22, Try.ntmps22
      go_wp2_with fail
      refine (ValidBunches_c _ _ _ zs _ h hn).mono ?_
      rintro e w1 ⟨rfl, hb1⟩
      rw [hok]
      go_wp2_with (first | (go_at_call 50; refine (isLength_c _ _).mono ?_; rintro e w' ⟨rfl, rfl⟩))
      go_ret2
      refine ⟨?_, ?_⟩
      · rw [HV.out.1, HV.out.2]; rfl
      · first | exact Below.refl _ _ | exact hb1

end Go.Proofs.Ytjdijimmbggigaa
