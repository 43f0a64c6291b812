/-
  How many rods each grade has.
  No conditions.
-/
import Derived.Test.YtpjafammnjbjdaaGrade
import Derived.Test.YtpjafammnjbjdaaAppend
namespace Go.Proofs.Ytpjafammnjbjdaa
open Go.ChangeShapes Go.WideShapes Go.ChangeAt Go.RowKit Go.Deep

/-- The grade of rod k, as a place. -/
def grN (zs ls : List Int) (m k : Nat) : Nat := (sumTo (grF ls (gi zs (k * 3))) m).toNat
/-- How many of the first k rods each grade has. -/
def cgTo (zs ls : List Int) (m : Nat) : Nat → List Int
  | 0 => List.replicate (m + 1) 0
  | k + 1 => (cgTo zs ls m k).set (grN zs ls m k) (gi (cgTo zs ls m k) (grN zs ls m k) + 1)
theorem grN_le (zs ls : List Int) (m k : Nat) : grN zs ls m k ≤ m := by
  have := gr_bd ls (gi zs (k * 3)) m
  unfold grN; omega
theorem grN_eq (zs ls : List Int) (m k : Nat) : sumTo (grF ls (gi zs (k * 3))) m = (grN zs ls m k : Int) := by
  have := gr_bd ls (gi zs (k * 3)) m
  unfold grN; omega
theorem cg_len (zs ls : List Int) (m : Nat) : ∀ k, (cgTo zs ls m k).length = m + 1
  | 0 => by simp [cgTo]
  | k + 1 => by simp [cgTo, cg_len zs ls m k]
theorem gi_mem_bd {L : List Int} {a b : Int} (h : ∀ z ∈ L, a ≤ z ∧ z ≤ b) (h0 : a ≤ 0) (h1 : 0 ≤ b) (j : Nat) : a ≤ gi L j ∧ gi L j ≤ b := by
  by_cases hj : j < L.length
  · have : gi L j ∈ L := by rw [gi, List.getD, List.getElem?_eq_getElem hj]; exact List.getElem_mem hj
    exact h _ this
  · rw [gi, List.getD, List.getElem?_eq_none (by omega)]; exact ⟨h0, h1⟩
theorem cg_bd (zs ls : List Int) (m : Nat) : ∀ k, ∀ z ∈ cgTo zs ls m k, 0 ≤ z ∧ z ≤ k
  | 0 => fun z hz => by
    simp only [cgTo] at hz
    have := List.eq_of_mem_replicate hz; omega
  | k + 1 => fun z hz => by
    simp only [cgTo] at hz
    have hb := gi_mem_bd (cg_bd zs ls m k) (Int.le_refl _) (by omega) (grN zs ls m k)
    rcases List.mem_or_eq_of_mem_set hz with h1 | h1
    · have := cg_bd zs ls m k z h1; omega
    · omega
theorem iv_set2 (L : List Int) (j : Nat) (x : Int) : (iv L).set j (.int .i64 x) = iv (L.set j x) := by simp [iv, List.map_set]
/-- CountGrades. -/
def cgV (zs : List Int) (n : Nat) (ls : List Int) (m : Nat) : List Int := if okAll (rodAt zs) n 20 && limB ls m then cgTo zs ls m n else []
def cgC (zs : List Int) (n : Nat) (ls : List Int) (m : Nat) : Int := if okAll (rodAt zs) n 20 then (if limB ls m then 0 else 2) else 1
theorem cgV_bd (zs : List Int) (n : Nat) (ls : List Int) (m : Nat) : (cgV zs n ls m).length ≤ 1048576 ∧ ∀ z ∈ cgV zs n ls m, -9223372036854775808 ≤ z ∧ z ≤ 9223372036854775807 := by
  unfold cgV; split
  · next h =>
    rw [Bool.and_eq_true] at h
    have h1 := okAll_le h.1
    have h2 := okAll_le h.2
    exact ⟨by rw [cg_len]; omega, fun z hz => by have := cg_bd _ _ _ _ z hz; omega⟩
  · exact ⟨by simp, by simp⟩

set_option maxHeartbeats 3000000 in
theorem count_i (A : Option Addr) (n c : Nat) (zs : List Int) (A' : Option Addr) (m c' : Nat) (ls : List Int) (w : World) (h : Ints w w.heap.size 3 A n zs) (hn : n ≤ 1048576) (h' : Ints w w.heap.size 1 A' m ls) (hm : m ≤ 1048576) :
    Calls Try.prog 17 #[.slice A n c, .slice A' m c'] w fun e w' => ∃ v, e = .returned (.tuple #[v, .int .i64 (cgC zs n ls m)]) ∧ Own w' w.heap.size v (cgV zs n ls m) ∧ Below w.heap.size w w' := by
  have HA := Lib.hid (fun w1 (hb : Below w.heap.size w w1) => (h.below hb (Nat.le_refl _)).more hb.size)
  have HL := Lib.hid (fun w1 (hb : Below w.heap.size w w1) => (h'.below hb (Nat.le_refl _)).more hb.size)
  rcases hok : okAll (rodAt zs) n 20 with _ | _
  · have HV : Hid (cgV zs n ls m = [] ∧ cgC zs n ls m = 1) := by show _ ∧ _; simp [cgV, cgC, hok]
    go_enter Try.func17, Try.ntmps17
    go_wp2_with fail
    refine (ValidRods_c _ _ _ zs _ h hn).mono ?_
    rintro e w1 ⟨rfl, hb1⟩
    rw [hok]
    go_wp2
    go_ret2
    exact ⟨_, by rw [HV.out.2]; rfl, by rw [HV.out.1]; exact Own.nil _ _, hb1⟩
  · have hnm := okAll_le hok
    rcases hlm : limB ls m with _ | _
    · have HV : Hid (cgV zs n ls m = [] ∧ cgC zs n ls m = 2) := by show _ ∧ _; simp [cgV, cgC, hok, hlm]
      go_enter Try.func17, Try.ntmps17
      go_wp2_with fail
      refine (ValidRods_c _ _ _ zs _ h hn).mono ?_
      rintro e w1 ⟨rfl, hb1⟩
      rw [hok]
      go_wp2_with fail
      refine (limits_i _ _ _ ls _ (HL.out _ hb1) hm).mono ?_
      rintro e w2 ⟨rfl, hb2⟩
      rw [hlm]
      go_wp2
      go_ret2
      exact ⟨_, by rw [HV.out.2]; rfl, by rw [HV.out.1]; exact Own.nil _ _, btrans hb1 hb2⟩
    · have hm8 := okAll_le hlm
      have HV : Hid (cgV zs n ls m = cgTo zs ls m n ∧ cgC zs n ls m = 0) := by show _ ∧ _; simp [cgV, cgC, hok, hlm]
      have hinfo : (Try.prog.info? 2).map (fun i => (i.zero, i.size, i.bytes)) = some (some (.int .i64 0), 1, 8) := by kernel_rfl
      have hmk := run_make_all (P := Try.prog) 24 2 (.int .i64 0) (.int .i64 0) 1 8 Try.underlying24 hinfo rfl (by omega) .i64 .i64 (m + 1) (by omega) (by omega)
      have ec : ((m + 1 : Nat) : Int) = (m : Int) + 1 := by omega
      rw [ec, Nat.mul_one] at hmk
      clear hinfo ec
      go_enter Try.func17, Try.ntmps17
      go_wp2_with fail
      refine (ValidRods_c _ _ _ zs _ h hn).mono ?_
      rintro e w1 ⟨rfl, hb1⟩
      rw [hok]
      go_wp2_with fail
      refine (limits_i _ _ _ ls _ (HL.out _ hb1) hm).mono ?_
      rintro e w2 ⟨rfl, hb2⟩
      rw [hlm]
      have hbel2 := btrans hb1 hb2
      go_wp2_with fail
      clear hmk
      go_loopw [21] (fun i wr => ∃ k : Nat, k ≤ n ∧ i = .int .i64 k ∧ Hid (Blk wr w2.heap.size 2 (iv (cgTo zs ls m k)).toArray) ∧ Below w.heap.size w wr) (fun i _ => n - (intOf i).toNat)
      case atStart => exact ⟨0, Nat.zero_le _, rfl, Lib.hid (by simpa [iv, cgTo] using Blk.new w2 2 (List.replicate (m + 1) (Value.int .i64 0)).toArray), balloc hbel2 _⟩
      case round =>
        obtain ⟨k, hk, rfl, HB, hbel⟩ := hrel
        by_cases hlt : k < n
        · obtain ⟨b, off, rfl, hb, c0, c1, c2⟩ := (h.below hbel (Nat.le_refl _)).at3 hlt
          have hg := grN_le zs ls m k
          have HG : Hid (sumTo (grF ls (gi zs (k * 3))) m = (grN zs ls m k : Int)) := grN_eq zs ls m k
          have hx := gi_mem_bd (cg_bd zs ls m k) (Int.le_refl _) (by omega) (grN zs ls m k)
          have hlen := cg_len zs ls m k
          have HN := Lib.hid hlen
          clear hlen
          go_wp2_with fail
          refine (grade_i (gi zs (k * 3)) (gi zs (k * 3 + 1)) (gi zs (k * 3 + 2)) _ _ _ ls _ (HL.out _ (balloc hbel _)) hm).mono ?_
          rintro e w3 ⟨rfl, hb3⟩
          rw [HG.out]
          have hbe2 := btrans (balloc hbel _) hb3
          have B1 := (HB.out.alloc _).on hb3
          have d0 := B1.cell (grN zs ls m k)
          have f0 := B1.frozen (grN zs ls m k)
          rw [List.getElem?_toArray, iv_get _ _ (by rw [HN.out]; omega)] at d0
          have B1H := Lib.hid B1
          clear B1
          go_wp2_with fail
          go_roundw
          case rel =>
            refine ⟨k + 1, by omega, by go_num, ?_, by repeat (first | exact hbe2 | refine bset ?_ hbel2.size _)⟩
            have R := B1H.out.set_ (grN zs ls m k) (.int .i64 (gi (cgTo zs ls m k) (grN zs ls m k) + 1))
            rw [List.setIfInBounds_toArray, iv_set2] at R
            exact R
          case measure => simp [intOf]; omega
        · obtain rfl : k = n := by omega
          go_wp2
          go_ret2
          refine ⟨_, by rw [HV.out.2]; rfl, ?_, hbel⟩
          rw [HV.out.1]
          have hl := cg_len zs ls m k
          have R := Own.of_blk (base := w.heap.size) HB.out hbel2.size (by rw [hl]; simp only [maxLen]; omega)
          rw [hl] at R
          exact R

end Go.Proofs.Ytpjafammnjbjdaa
