/-
  Grades of rods.
  No conditions.
-/
import Derived.Test.YtpjafammnjbjdaaInts
namespace Go.Proofs.Ytpjafammnjbjdaa
open Go.ChangeShapes Go.WideShapes Go.ChangeAt Go.RowKit Go.Deep

theorem okAll_split (p : Nat → Bool) (n m : Nat) : okAll p n m = (decide (n ≤ m) && okAll p n n) := by
  simp [okAll, Bool.and_comm]
/-- Limits of grades. -/
def limB (zs : List Int) (n : Nat) : Bool := okAll (riseAt zs 100 3000) n 8
def grF (zs : List Int) (l : Int) (i : Nat) : Int := if gi zs i ≤ l then 1 else 0
theorem gr_bd (zs : List Int) (l : Int) (k : Nat) : 0 ≤ sumTo (grF zs l) k ∧ sumTo (grF zs l) k ≤ k := by
  have := sumTo_bd (grF zs l) 1 k fun j _ => by unfold grF; split <;> omega
  omega
/-- GradeOf. -/
def grV (l b t : Int) (zs : List Int) (n : Nat) : Int := if rodOk l b t && limB zs n then sumTo (grF zs l) n else 0
def grC (l b t : Int) (zs : List Int) (n : Nat) : Int := if rodOk l b t then (if limB zs n then 0 else 2) else 1

theorem limits_i (A : Option Addr) (n c : Nat) (zs : List Int) (w : World) (h : Ints w w.heap.size 1 A n zs) (hn : n ≤ 1048576) :
    Calls Try.prog 35 #[.slice A n c] w fun e w' => e = .returned (.bool (limB zs n)) ∧ Below w.heap.size w w' := by
  have HV : Hid (limB zs n = (decide (n ≤ 8) && okAll (riseAt zs 100 3000) n n)) := okAll_split _ _ _
  by_cases h8 : n ≤ 8
  · go_enter Try.func35, Try.ntmps35
    go_wp2_with fail
    refine (rises_i _ _ _ zs _ _ _ h hn).mono ?_
    rintro e w1 ⟨rfl, hb1⟩
    go_wp2
    go_ret
    refine ⟨ret_bool ?_, hb1⟩
    rw [HV.out]; simp [h8]
  · have h9 : 8 < n := by omega
    go_enter Try.func35, Try.ntmps35
    go_wp2
    go_ret
    refine ⟨ret_bool ?_, Below.refl _ _⟩
    rw [HV.out]; simp [h8]

theorem grade_i (l b t : Int) (A : Option Addr) (n c : Nat) (zs : List Int) (w : World) (h : Ints w w.heap.size 1 A n zs) (hn : n ≤ 1048576) :
    Calls Try.prog 36 #[.agg #[.int .i64 l, .int .i64 b, .int .i64 t], .slice A n c] w fun e w' => e = .returned (.int .i64 (sumTo (grF zs l) n)) ∧ Below w.heap.size w w' := by
  have hn' : (n : Int) ≤ 1048576 := by omega
  go_enter Try.func36, Try.ntmps36
  go_wp2_with fail
  go_loopw [5, 10] (fun s i wr => ∃ k : Nat, k ≤ n ∧ i = .int .i64 k ∧ s = .int .i64 (sumTo (grF zs l) k) ∧ wr = w.alloc (.cells #[.int .i64 l, .int .i64 b, .int .i64 t] 45)) (fun _ i _ => n - (intOf i).toNat)
  case atStart => exact ⟨0, Nat.zero_le _, rfl, rfl, rfl⟩
  case round =>
    obtain ⟨k, hk, rfl, rfl, rfl⟩ := hrel
    have hbel := balloc (Below.refl w.heap.size w) (.cells #[.int .i64 l, .int .i64 b, .int .i64 t] 45)
    have hs := gr_bd zs l k
    by_cases hlt : k < n
    · obtain ⟨b', off, rfl, hb, d0⟩ := (h.below hbel (Nat.le_refl _)).at1 hlt
      by_cases hq : gi zs k ≤ l
      · have HQ : Hid (sumTo (grF zs l) (k + 1) = sumTo (grF zs l) k + 1) := by show _ = _; rw [sumTo_succ, grF, if_pos hq]
        go_wp2_with fail
        go_roundw
        case rel => exact ⟨k + 1, by omega, by go_num, by rw [HQ.out], by first | trivial | rfl⟩
        case measure => simp [intOf]; omega
      · have HQ : Hid (sumTo (grF zs l) (k + 1) = sumTo (grF zs l) k) := by show _ = _; rw [sumTo_succ, grF, if_neg hq]; omega
        go_wp2_with fail
        go_roundw
        case rel => exact ⟨k + 1, by omega, by go_num, by rw [HQ.out], by first | trivial | rfl⟩
        case measure => simp [intOf]; omega
    · obtain rfl : k = n := by omega
      go_wp2
      go_ret
      exact ⟨rfl, hbel⟩

set_option maxHeartbeats 1000000 in
theorem gradeOf_i (l b t : Int) (A : Option Addr) (n c : Nat) (zs : List Int) (w : World) (h : Ints w w.heap.size 1 A n zs) (hn : n ≤ 1048576) :
    Calls Try.prog 21 #[.agg #[.int .i64 l, .int .i64 b, .int .i64 t], .slice A n c] w fun e w' => e = .returned (.tuple #[.int .i64 (grV l b t zs n), .int .i64 (grC l b t zs n)]) ∧ Below w.heap.size w w' := by
  rcases hok : rodOk l b t with _ | _
  · have HV : Hid (grV l b t zs n = 0 ∧ grC l b t zs n = 1) := by show _ ∧ _; simp [grV, grC, hok]
    go_enter Try.func21, Try.ntmps21
    go_wp2_with fail
    refine (isRod_c _ _ _ _).mono ?_
    rintro e w1 ⟨rfl, hb1⟩
    have K : Blk w1 w.heap.size 45 #[.int .i64 l, .int .i64 b, .int .i64 t] := by first | exact (Blk.new w 45 #[.int .i64 l, .int .i64 b, .int .i64 t]).on hb1 | exact ((Blk.new w 45 #[.int .i64 l, .int .i64 b, .int .i64 t]).alloc _).on hb1
    have Kl := K.lt
    have Kc0 := K.cell 0
    have Kc1 := K.cell 1
    have Kc2 := K.cell 2
    simp at Kc0 Kc1 Kc2
    clear K
    rw [hok]
    go_wp2
    go_ret2
    exact ⟨by rw [HV.out.1, HV.out.2]; rfl, btrans (balloc (Below.refl _ _) _) hb1⟩
  · have hz := fun w1 (hb : Below w.heap.size w w1) => (h.below hb (Nat.le_refl _)).more hb.size
    have HZ := Lib.hid hz
    clear hz
    rcases hlm : limB zs n with _ | _
    · have HV : Hid (grV l b t zs n = 0 ∧ grC l b t zs n = 2) := by show _ ∧ _; simp [grV, grC, hok, hlm]
      go_enter Try.func21, Try.ntmps21
      go_wp2_with fail
      refine (isRod_c _ _ _ _).mono ?_
      rintro e w1 ⟨rfl, hb1⟩
      have K : Blk w1 w.heap.size 45 #[.int .i64 l, .int .i64 b, .int .i64 t] := by first | exact (Blk.new w 45 #[.int .i64 l, .int .i64 b, .int .i64 t]).on hb1 | exact ((Blk.new w 45 #[.int .i64 l, .int .i64 b, .int .i64 t]).alloc _).on hb1
      have Kl := K.lt
      have Kc0 := K.cell 0
      have Kc1 := K.cell 1
      have Kc2 := K.cell 2
      simp at Kc0 Kc1 Kc2
      clear K
      rw [hok]
      have hbel := btrans (balloc (Below.refl _ _) _) hb1
      go_wp2_with fail
      refine (limits_i _ _ _ zs _ (HZ.out _ hbel) hn).mono ?_
      rintro e w2 ⟨rfl, hb2⟩
      rw [hlm]
      go_wp2
      go_ret2
      exact ⟨by rw [HV.out.1, HV.out.2]; rfl, btrans hbel hb2⟩
    · have HV : Hid (grV l b t zs n = sumTo (grF zs l) n ∧ grC l b t zs n = 0) := by show _ ∧ _; simp [grV, grC, hok, hlm]
      go_enter Try.func21, Try.ntmps21
      go_wp2_with fail
      refine (isRod_c _ _ _ _).mono ?_
      rintro e w1 ⟨rfl, hb1⟩
      have K : Blk w1 w.heap.size 45 #[.int .i64 l, .int .i64 b, .int .i64 t] := by first | exact (Blk.new w 45 #[.int .i64 l, .int .i64 b, .int .i64 t]).on hb1 | exact ((Blk.new w 45 #[.int .i64 l, .int .i64 b, .int .i64 t]).alloc _).on hb1
      have Kl := K.lt
      have Kc0 := K.cell 0
      have Kc1 := K.cell 1
      have Kc2 := K.cell 2
      simp at Kc0 Kc1 Kc2
      clear K
      rw [hok]
      have hbel := btrans (balloc (Below.refl _ _) _) hb1
      have hK : Blk w1 w.heap.size 45 #[.int .i64 l, .int .i64 b, .int .i64 t] := (Blk.new w 45 #[.int .i64 l, .int .i64 b, .int .i64 t]).on hb1
      have HK := Lib.hid hK
      clear hK
      go_wp2_with fail
      refine (limits_i _ _ _ zs _ (HZ.out _ hbel) hn).mono ?_
      rintro e w2 ⟨rfl, hb2⟩
      rw [hlm]
      have M := HK.out.on hb2
      have Ml := M.lt
      have Mc0 := M.cell 0
      have Mf0 := M.frozen 0
      have Mc1 := M.cell 1
      have Mf1 := M.frozen 1
      have Mc2 := M.cell 2
      have Mf2 := M.frozen 2
      simp at Mc0 Mc1 Mc2
      have MH := Lib.hid M
      clear M
      have hbe2 := btrans hbel hb2
      go_wp2_with fail
      refine (grade_i l b t _ _ _ zs _ (HZ.out _ hbe2) hn).mono ?_
      rintro e w3 ⟨rfl, hb3⟩
      go_wp2
      go_ret2
      exact ⟨by rw [HV.out.1, HV.out.2]; rfl, btrans hbe2 hb3⟩

end Go.Proofs.Ytpjafammnjbjdaa
