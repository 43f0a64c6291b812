/-
  SuppleHours, BestHour, FirstTooMany: what they answer.
  No conditions.
-/
import Derived.Test.YtnagaopogmdfgaaHoursP
namespace Go.Proofs.Ytnagaopogmdfgaa
open Go.ChangeShapes Go.WideShapes Go.ChangeAt Go.RowKit Go.Deep

/-- SuppleHours. -/
def shV (zs : List Int) (n : Nat) (b : Int) : Int := if okAll (batchAt zs) n 10 && inR b 1 1000 then cntTo (hrP zs n b) 6000 else 0
def shC (zs : List Int) (n : Nat) (b : Int) : Int := if okAll (batchAt zs) n 10 then (if inR b 1 1000 then 0 else 2) else 1
theorem cnt_last {zs : List Int} {n : Nat} {b : Int} (hok : okAll (batchAt zs) n 10 = true) (hb : 1 ≤ b) : cntTo (hrP zs n b) 6001 = cntTo (hrP zs n b) 6000 :=
  cntTo_no (by
    have := hrF_last hok
    simp only [hrP, decide_eq_false_iff_not]
    show ¬ b ≤ hrF zs n ((6000 : Nat) : Int)
    rw [show ((6000 : Nat) : Int) = 6000 from rfl, this]; omega)

set_option maxRecDepth 100000 in
set_option maxHeartbeats 1000000 in
theorem hours_s (A : Option Addr) (n c : Nat) (zs : List Int) (b : Int) (w : World) (h : Ints w w.heap.size 4 A n zs) (hn : n ≤ 1048576) :
    Calls Try.prog 33 #[.slice A n c, .int .i64 b] w fun e w' => e = .returned (.tuple #[.int .i64 (shV zs n b), .int .i64 (shC zs n b)]) ∧ Below w.heap.size w w' := by
  rcases hok : okAll (batchAt zs) n 10 with _ | _
  · have HV : Hid (shV zs n b = 0 ∧ shC zs n b = 1) := by show _ ∧ _; simp [shV, shC, hok]
    go_enter Try.func33, Try.ntmps33
    go_wp2_with fail
    refine (ValidBatches_s _ _ _ zs _ h hn).mono ?_
    rintro e w1 ⟨rfl, hb1⟩
    rw [hok]
    go_wp2
    go_ret2
    exact ⟨by rw [HV.out.1, HV.out.2]; rfl, hb1⟩
  · refine inR_split b 1 1000 (fun hl _ _ => ?_) (fun hl => ?_)
    · have HV : Hid (shV zs n b = cntTo (hrP zs n b) 6001 ∧ shC zs n b = 0) := by
        show _ ∧ _
        refine ⟨?_, by simp [shC, hok, hl]⟩
        have := cnt_last hok (by omega : 1 ≤ b)
        simp only [shV, hok, hl, Bool.and_self, if_true]
        exact this.symm
      have hlo := loose_of (by omega) hok
      go_enter Try.func33, Try.ntmps33
      go_wp2_with fail
      refine (ValidBatches_s _ _ _ zs _ h hn).mono ?_
      rintro e w1 ⟨rfl, hb1⟩
      rw [hok]
      go_wp2_with (first | (go_at_call 54; refine (l00In_c _ _ _ _).mono ?_; rintro e w' ⟨rfl, rfl⟩))
      go_loopw [6,7] (fun s i wr => ∃ k : Nat, k ≤ 6001 ∧ i = .int .i64 k ∧ s = .int .i64 (cntTo (hrP zs n b) k) ∧ Below w.heap.size w wr) (fun _ i _ => 6001 - (intOf i).toNat)
      case atStart => exact ⟨0, Nat.zero_le _, rfl, rfl, hb1⟩
      case round =>
        obtain ⟨k, hk, rfl, rfl, hbel⟩ := hrel
        have hbd := cntTo_bd (hrP zs n b) k
        by_cases hlt : k < 6001
        · have hI := (h.below hbel (Nat.le_refl _)).more hbel.size
          by_cases hq : b ≤ sumTo (suppF zs k) n
          · have HQ : Hid (cntTo (hrP zs n b) (k + 1) = cntTo (hrP zs n b) k + 1) := cntTo_yes (decide_eq_true hq)
            go_wp2_with (go_at_call 52; refine (suppF_s _ _ _ zs _ _ hI hlo).mono ?_; rintro e w2 ⟨rfl, hb2⟩)
            go_roundw
            case rel => exact ⟨k + 1, by omega, by go_num, by rw [HQ.out], btrans hbel hb2⟩
            case measure => simp [intOf]; omega
          · have HQ : Hid (cntTo (hrP zs n b) (k + 1) = cntTo (hrP zs n b) k) := cntTo_no (decide_eq_false hq)
            go_wp2_with (go_at_call 52; refine (suppF_s _ _ _ zs _ _ hI hlo).mono ?_; rintro e w2 ⟨rfl, hb2⟩)
            go_roundw
            case rel => exact ⟨k + 1, by omega, by go_num, by rw [HQ.out], btrans hbel hb2⟩
            case measure => simp [intOf]; omega
        · obtain rfl : k = 6001 := by omega
          go_wp2
          go_ret2
          exact ⟨by rw [HV.out.1, HV.out.2]; rfl, hbel⟩
    · have HV : Hid (shV zs n b = 0 ∧ shC zs n b = 2) := by show _ ∧ _; simp [shV, shC, hok, hl]
      go_enter Try.func33, Try.ntmps33
      go_wp2_with fail
      refine (ValidBatches_s _ _ _ zs _ h hn).mono ?_
      rintro e w1 ⟨rfl, hb1⟩
      rw [hok]
      go_wp2_with (first | (go_at_call 54; refine (l00In_c _ _ _ _).mono ?_; rintro e w' ⟨rfl, rfl⟩))
      go_ret2
      exact ⟨by rw [HV.out.1, HV.out.2]; rfl, hb1⟩
set_option maxRecDepth 100000 in
set_option maxHeartbeats 1000000 in
theorem hours_i (A : Option Addr) (n c : Nat) (zs : List Int) (b : Int) (w : World) (h : Ints w w.heap.size 4 A n zs) (hn : n ≤ 1048576) :
    Calls Try.prog 31 #[.slice A n c, .int .i64 b] w fun e w' => e = .returned (.tuple #[.int .i64 (shV zs n b), .int .i64 (shC zs n b)]) ∧ Below w.heap.size w w' := by
  rcases hok : okAll (batchAt zs) n 10 with _ | _
  · have HV : Hid (shV zs n b = 0 ∧ shC zs n b = 1) := by show _ ∧ _; simp [shV, shC, hok]
    go_enter Try.func31, Try.ntmps31
    go_wp2_with fail
    refine (ValidBatches_c _ _ _ zs _ h hn).mono ?_
    rintro e w1 ⟨rfl, hb1⟩
    rw [hok]
    go_wp2
    go_ret2
    exact ⟨by rw [HV.out.1, HV.out.2]; rfl, hb1⟩
  · refine inR_split b 1 1000 (fun hl _ _ => ?_) (fun hl => ?_)
    · have HV : Hid (shV zs n b = cntTo (hrP zs n b) 6000 ∧ shC zs n b = 0) := by
        show _ ∧ _
        refine ⟨?_, by simp [shC, hok, hl]⟩
        have := cnt_last hok (by omega : 1 ≤ b)
        simp only [shV, hok, hl, Bool.and_self, if_true]
        skip
      have hlo := loose_of (by omega) hok
      go_enter Try.func31, Try.ntmps31
      go_wp2_with fail
      refine (ValidBatches_c _ _ _ zs _ h hn).mono ?_
      rintro e w1 ⟨rfl, hb1⟩
      rw [hok]
      go_wp2_with (first | (go_at_call 40; refine (within_c _ _ _ _).mono ?_; rintro e w' ⟨rfl, rfl⟩))
      go_loopw [6,14] (fun s i wr => ∃ k : Nat, k ≤ 6000 ∧ i = .int .i64 k ∧ s = .int .i64 (cntTo (hrP zs n b) k) ∧ Below w.heap.size w wr) (fun _ i _ => 6000 - (intOf i).toNat)
      case atStart => exact ⟨0, Nat.zero_le _, rfl, rfl, hb1⟩
      case round =>
        obtain ⟨k, hk, rfl, rfl, hbel⟩ := hrel
        have hbd := cntTo_bd (hrP zs n b) k
        by_cases hlt : k < 6000
        · have hI := (h.below hbel (Nat.le_refl _)).more hbel.size
          by_cases hq : b ≤ sumTo (suppF zs k) n
          · have HQ : Hid (cntTo (hrP zs n b) (k + 1) = cntTo (hrP zs n b) k + 1) := cntTo_yes (decide_eq_true hq)
            go_wp2_with (go_at_call 53; refine (suppF_i _ _ _ zs _ _ hI hlo).mono ?_; rintro e w2 ⟨rfl, hb2⟩)
            go_roundw
            case rel => exact ⟨k + 1, by omega, by go_num, by rw [HQ.out], btrans hbel hb2⟩
            case measure => simp [intOf]; omega
          · have HQ : Hid (cntTo (hrP zs n b) (k + 1) = cntTo (hrP zs n b) k) := cntTo_no (decide_eq_false hq)
            go_wp2_with (go_at_call 53; refine (suppF_i _ _ _ zs _ _ hI hlo).mono ?_; rintro e w2 ⟨rfl, hb2⟩)
            go_roundw
            case rel => exact ⟨k + 1, by omega, by go_num, by rw [HQ.out], btrans hbel hb2⟩
            case measure => simp [intOf]; omega
        · obtain rfl : k = 6000 := by omega
          go_wp2
          go_ret2
          exact ⟨by rw [HV.out.1, HV.out.2]; rfl, hbel⟩
    · have HV : Hid (shV zs n b = 0 ∧ shC zs n b = 2) := by show _ ∧ _; simp [shV, shC, hok, hl]
      go_enter Try.func31, Try.ntmps31
      go_wp2_with fail
      refine (ValidBatches_c _ _ _ zs _ h hn).mono ?_
      rintro e w1 ⟨rfl, hb1⟩
      rw [hok]
      go_wp2_with (first | (go_at_call 40; refine (within_c _ _ _ _).mono ?_; rintro e w' ⟨rfl, rfl⟩))
      go_ret2
      exact ⟨by rw [HV.out.1, HV.out.2]; rfl, hb1⟩

/-- BestHour. -/
def bhV (zs : List Int) (n : Nat) : Int × Int := if okAll (batchAt zs) n 10 && decide (0 < n) then bhTo (hrF zs n) 6000 else (0, 0)
def bhC (zs : List Int) (n : Nat) : Int := if okAll (batchAt zs) n 10 then (if 0 < n then 0 else 3) else 1

set_option maxRecDepth 100000 in
set_option maxHeartbeats 1000000 in
theorem best_i (A : Option Addr) (n c : Nat) (zs : List Int) (w : World) (h : Ints w w.heap.size 4 A n zs) (hn : n ≤ 1048576) :
    Calls Try.prog 30 #[.slice A n c] w fun e w' => e = .returned (.tuple #[.int .i64 (bhV zs n).1, .int .i64 (bhV zs n).2, .int .i64 (bhC zs n)]) ∧ Below w.heap.size w w' := by
  rcases hok : okAll (batchAt zs) n 10 with _ | _
  · have HV : Hid (bhV zs n = (0, 0) ∧ bhC zs n = 1) := by show _ ∧ _; simp [bhV, bhC, hok]
    go_enter Try.func30, Try.ntmps30
    go_wp2_with fail
    refine (ValidBatches_c _ _ _ zs _ h hn).mono ?_
    rintro e w1 ⟨rfl, hb1⟩
    rw [hok]
    go_wp2
    go_ret3
    exact ⟨by rw [HV.out.1, HV.out.2]; rfl, hb1⟩
  · have hlo := loose_of (by omega) hok
    rcases Nat.eq_zero_or_pos n with h0 | h0
    · subst h0
      have HV : Hid (bhV zs 0 = (0, 0) ∧ bhC zs 0 = 3) := by show _ ∧ _; simp [bhV, bhC, hok]
      go_enter Try.func30, Try.ntmps30
      go_wp2_with fail
      refine (ValidBatches_c _ _ _ zs _ h hn).mono ?_
      rintro e w1 ⟨rfl, hb1⟩
      rw [hok]
      go_wp2
      go_ret3
      exact ⟨by rw [HV.out.1, HV.out.2]; rfl, hb1⟩
    · have HV : Hid (bhV zs n = bhTo (hrF zs n) 6000 ∧ bhC zs n = 0) := by show _ ∧ _; simp [bhV, bhC, hok, h0]
      have hnz : ((n : Int) == 0) = false := by rw [beq_eq_false_iff_ne]; omega
      go_enter Try.func30, Try.ntmps30
      go_wp2_with fail
      refine (ValidBatches_c _ _ _ zs _ h hn).mono ?_
      rintro e w1 ⟨rfl, hb1⟩
      rw [hok]
      go_wp2_with fail
      go_loopw [5, 6, 15] (fun s t i wr => ∃ k : Nat, k ≤ 6000 ∧ i = .int .i64 k ∧ s = .int .i64 (bhTo (hrF zs n) k).1 ∧ t = .int .i64 (bhTo (hrF zs n) k).2 ∧ Below w.heap.size w wr) (fun _ _ i _ => 6000 - (intOf i).toNat)
      case atStart => exact ⟨0, Nat.zero_le _, rfl, rfl, rfl, hb1⟩
      case round =>
        obtain ⟨k, hk, rfl, rfl, rfl, hbel⟩ := hrel
        by_cases hlt : k < 6000
        · have hI := (h.below hbel (Nat.le_refl _)).more hbel.size
          by_cases hq : (bhTo (hrF zs n) k).2 < sumTo (suppF zs k) n
          · have HQ : Hid (bhTo (hrF zs n) (k + 1) = ((k : Int), sumTo (suppF zs k) n)) := if_pos hq
            go_wp2_with (go_at_call 53; refine (suppF_i _ _ _ zs _ _ hI hlo).mono ?_; rintro e w2 ⟨rfl, hb2⟩)
            go_roundw
            case rel => exact ⟨k + 1, by omega, by go_num, by rw [HQ.out], by rw [HQ.out], btrans hbel hb2⟩
            case measure => simp [intOf]; omega
          · have HQ : Hid (bhTo (hrF zs n) (k + 1) = bhTo (hrF zs n) k) := if_neg hq
            go_wp2_with (go_at_call 53; refine (suppF_i _ _ _ zs _ _ hI hlo).mono ?_; rintro e w2 ⟨rfl, hb2⟩)
            go_roundw
            case rel => exact ⟨k + 1, by omega, by go_num, by rw [HQ.out], by rw [HQ.out], btrans hbel hb2⟩
            case measure => simp [intOf]; omega
        · obtain rfl : k = 6000 := by omega
          go_wp2
          go_ret3
          exact ⟨by rw [HV.out.1, HV.out.2]; rfl, hbel⟩

set_option maxRecDepth 100000 in
set_option maxHeartbeats 2000000 in
theorem best_s (A : Option Addr) (n c : Nat) (zs : List Int) (w : World) (h : Ints w w.heap.size 4 A n zs) (hn : n ≤ 1048576) :
    Calls Try.prog 34 #[.slice A n c] w fun e w' => e = .returned (.tuple #[.int .i64 (bhV zs n).1, .int .i64 (bhV zs n).2, .int .i64 (bhC zs n)]) ∧ Below w.heap.size w w' := by
  rcases hok : okAll (batchAt zs) n 10 with _ | _
  · have HV : Hid (bhV zs n = (0, 0) ∧ bhC zs n = 1) := by show _ ∧ _; simp [bhV, bhC, hok]
    go_enter Try.func34, Try.ntmps34
    go_wp2_with fail
    refine (ValidBatches_s _ _ _ zs _ h hn).mono ?_
    rintro e w1 ⟨rfl, hb1⟩
    rw [hok]
    go_wp2
    go_ret3
    exact ⟨by rw [HV.out.1, HV.out.2]; rfl, hb1⟩
  · have hlo := loose_of (by omega) hok
    have HV : Hid (if 0 < n then bhV zs n = shTo (hrF zs n) (stF zs) n ∧ bhC zs n = 0 ∧ 0 ≤ (shTo (hrF zs n) (stF zs) n).1 else bhV zs n = (0, 0) ∧ bhC zs n = 3 ∧ (shTo (hrF zs n) (stF zs) n).1 < 0) := by
      show if 0 < n then _ else _
      split
      · next h0 =>
        refine ⟨?_, by simp [bhC, hok, h0], ?_⟩
        · rw [best_one hok h0]; simp [bhV, hok, h0]
        · obtain ⟨⟨i, hi, hr⟩, _⟩ := shTo_spec (hrF zs n) (stF zs) n (fun j hj => hrF_start hok hj) h0
          have := bat hok i hi
          rw [hr]; simp only; omega
      · next h0 =>
        have : n = 0 := by omega
        subst this
        exact ⟨by simp [bhV], by simp [bhC, hok], by simp [shTo]⟩
    have hbnd := batAll hok
    go_enter Try.func34, Try.ntmps34
    go_wp2_with fail
    refine (ValidBatches_s _ _ _ zs _ h hn).mono ?_
    rintro e w1 ⟨rfl, hb1⟩
    rw [hok]
    go_wp2_with fail
    go_loopw [5, 6, 7] (fun s t i wr => ∃ k : Nat, k ≤ n ∧ i = .int .i64 k ∧ s = .int .i64 (shTo (hrF zs n) (stF zs) k).1 ∧ t = .int .i64 (shTo (hrF zs n) (stF zs) k).2 ∧ Below w.heap.size w wr) (fun _ _ i _ => n - (intOf i).toNat)
    case atStart => exact ⟨0, Nat.zero_le _, rfl, rfl, rfl, hb1⟩
    case round =>
      obtain ⟨k, hk, rfl, rfl, rfl, hbel⟩ := hrel
      by_cases hlt : k < n
      · have hI := (h.below hbel (Nat.le_refl _)).more hbel.size
        obtain ⟨b, off, rfl, hb, c0, c1, c2, c3⟩ := (h.below hbel (Nat.le_refl _)).at4 hlt
        have hwb := hbnd k hlt
        have HW1 : IntKind.i64.wrap (gi zs (k * 4) + gi zs (k * 4 + 1)) = gi zs (k * 4) + gi zs (k * 4 + 1) := IntWalk.i64_in _ (by omega)
        by_cases hq : (shTo (hrF zs n) (stF zs) k).2 < sumTo (suppF zs (gi zs (k * 4) + gi zs (k * 4 + 1))) n
        · have HQ : Hid (shTo (hrF zs n) (stF zs) (k + 1) = (gi zs (k * 4) + gi zs (k * 4 + 1), sumTo (suppF zs (gi zs (k * 4) + gi zs (k * 4 + 1))) n)) := if_pos (.inl hq)
          go_wp2_with fail
          go_quiet (fail)
          go_wp2_with (go_at_call 52; refine (suppF_s _ _ _ zs _ _ (hI.drewN _) hlo).mono ?_; rintro e w2 ⟨rfl, hb2⟩)
          go_roundw
          case rel => exact ⟨k + 1, by omega, by go_num, by rw [HQ.out], by rw [HQ.out], btrans (bdrewN hbel _) hb2⟩
          case measure => simp [intOf]; omega
        · rcases he : (sumTo (suppF zs (gi zs (k * 4) + gi zs (k * 4 + 1))) n == (shTo (hrF zs n) (stF zs) k).2) with _ | _
          · have HQ : Hid (shTo (hrF zs n) (stF zs) (k + 1) = shTo (hrF zs n) (stF zs) k) := if_neg (by
              rw [beq_eq_false_iff_ne] at he
              rintro (h1 | ⟨h1, _⟩)
              · exact hq h1
              · exact he h1)
            go_wp2_with fail
            go_quiet (fail)
            go_wp2_with (go_at_call 52; refine (suppF_s _ _ _ zs _ _ (hI.drewN _) hlo).mono ?_; rintro e w2 ⟨rfl, hb2⟩)
            go_roundw
            case rel => exact ⟨k + 1, by omega, by go_num, by rw [HQ.out], by rw [HQ.out], btrans (bdrewN hbel _) hb2⟩
            case measure => simp [intOf]; omega
          · by_cases hl : gi zs (k * 4) + gi zs (k * 4 + 1) < (shTo (hrF zs n) (stF zs) k).1
            · have HQ : Hid (shTo (hrF zs n) (stF zs) (k + 1) = (gi zs (k * 4) + gi zs (k * 4 + 1), sumTo (suppF zs (gi zs (k * 4) + gi zs (k * 4 + 1))) n)) := if_pos (.inr ⟨by rw [beq_iff_eq] at he; exact he, hl⟩)
              go_wp2_with fail
              go_quiet (fail)
              go_wp2_with (go_at_call 52; refine (suppF_s _ _ _ zs _ _ (hI.drewN _) hlo).mono ?_; rintro e w2 ⟨rfl, hb2⟩)
              go_roundw
              case rel => exact ⟨k + 1, by omega, by go_num, by rw [HQ.out], by rw [HQ.out], btrans (bdrewN hbel _) hb2⟩
              case measure => simp [intOf]; omega
            · have HQ : Hid (shTo (hrF zs n) (stF zs) (k + 1) = shTo (hrF zs n) (stF zs) k) := if_neg (by
                rintro (h1 | ⟨_, h1⟩)
                · exact hq h1
                · exact hl h1)
              go_wp2_with fail
              go_quiet (fail)
              go_wp2_with (go_at_call 52; refine (suppF_s _ _ _ zs _ _ (hI.drewN _) hlo).mono ?_; rintro e w2 ⟨rfl, hb2⟩)
              go_roundw
              case rel => exact ⟨k + 1, by omega, by go_num, by rw [HQ.out], by rw [HQ.out], btrans (bdrewN hbel _) hb2⟩
              case measure => simp [intOf]; omega
      · obtain rfl : k = n := by omega
        rcases Nat.eq_zero_or_pos k with h0 | h0
        · have HV' := HV.out
          rw [if_neg (by omega)] at HV'
          obtain ⟨e1, e2, e3⟩ := HV'
          go_wp2
          go_ret3
          exact ⟨by rw [e1, e2]; rfl, hbel⟩
        · have HV' := HV.out
          rw [if_pos h0] at HV'
          obtain ⟨e1, e2, e3⟩ := HV'
          have E1 := Lib.hid e1
          have E2 := Lib.hid e2
          clear e1 e2
          go_wp2
          go_ret3
          exact ⟨by rw [E1.out, E2.out]; rfl, hbel⟩

/-- FirstTooMany. -/
def tkF (zs : List Int) (n : Nat) (h : Int) : Int := sumTo (tankF zs h) n
def sgF (zs : List Int) (i : Nat) : Int := gi zs (i * 4)
def ftV (zs : List Int) (n : Nat) (r : Int) : Int := if okAll (batchAt zs) n 10 && inR r 0 100 && !decide (ftTo (tkF zs n) (sgF zs) r n < 0) then ftTo (tkF zs n) (sgF zs) r n else 0
def ftC (zs : List Int) (n : Nat) (r : Int) : Int := if okAll (batchAt zs) n 10 then (if inR r 0 100 then (if ftTo (tkF zs n) (sgF zs) r n < 0 then 3 else 0) else 2) else 1
def roomC (zs : List Int) (n : Nat) (r : Int) : Int := if okAll (batchAt zs) n 10 then (if inR r 0 100 then 0 else 2) else 1

theorem room_s (A : Option Addr) (n c : Nat) (zs : List Int) (r : Int) (w : World) (h : Ints w w.heap.size 4 A n zs) (hn : n ≤ 1048576) :
    Calls Try.prog 44 #[.slice A n c, .int .i64 r] w fun e w' => e = .returned (.int .i64 (roomC zs n r)) ∧ Below w.heap.size w w' := by
  rcases hok : okAll (batchAt zs) n 10 with _ | _
  · have HV : Hid (roomC zs n r = 1) := by show _ = _; simp [roomC, hok]
    go_enter Try.func44, Try.ntmps44
    go_wp2_with fail
    refine (ValidBatches_s _ _ _ zs _ h hn).mono ?_
    rintro e w1 ⟨rfl, hb1⟩
    rw [hok]
    go_wp2
    go_ret
    exact ⟨by rw [HV.out]; rfl, hb1⟩
  · refine inR_split r 0 100 (fun hl _ _ => ?_) (fun hl => ?_)
    · have HV : Hid (roomC zs n r = 0) := by show _ = _; simp [roomC, hok, hl]
      go_enter Try.func44, Try.ntmps44
      go_wp2_with fail
      refine (ValidBatches_s _ _ _ zs _ h hn).mono ?_
      rintro e w1 ⟨rfl, hb1⟩
      rw [hok]
      go_wp2_with (first | (go_at_call 54; refine (l00In_c _ _ _ _).mono ?_; rintro e w' ⟨rfl, rfl⟩))
      go_ret
      exact ⟨by rw [HV.out]; rfl, hb1⟩
    · have HV : Hid (roomC zs n r = 2) := by show _ = _; simp [roomC, hok, hl]
      go_enter Try.func44, Try.ntmps44
      go_wp2_with fail
      refine (ValidBatches_s _ _ _ zs _ h hn).mono ?_
      rintro e w1 ⟨rfl, hb1⟩
      rw [hok]
      go_wp2_with (first | (go_at_call 54; refine (l00In_c _ _ _ _).mono ?_; rintro e w' ⟨rfl, rfl⟩))
      go_ret
      exact ⟨by rw [HV.out]; rfl, hb1⟩

set_option maxHeartbeats 3000000 in
theorem first_s (A : Option Addr) (n c : Nat) (zs : List Int) (r : Int) (w : World) (h : Ints w w.heap.size 4 A n zs) (hn : n ≤ 1048576) :
    Calls Try.prog 18 #[.slice A n c, .int .i64 r] w fun e w' => e = .returned (.tuple #[.int .i64 (ftV zs n r), .int .i64 (ftC zs n r)]) ∧ Below w.heap.size w w' := by
  rcases hok : okAll (batchAt zs) n 10 with _ | _
  · have HV : Hid (ftV zs n r = 0 ∧ ftC zs n r = 1) := by show _ ∧ _; simp [ftV, ftC, hok]
    have HR : Hid (roomC zs n r = 1) := by show _ = _; simp [roomC, hok]
    go_enter Try.func18, Try.ntmps18
    go_wp2_with fail
    refine (room_s _ _ _ zs _ _ h hn).mono ?_
    rintro e w1 ⟨rfl, hb1⟩
    rw [HR.out]
    go_wp2_with (fail)
    go_ret2
    exact ⟨by rw [HV.out.1, HV.out.2]; rfl, hb1⟩
  · refine inR_split r 0 100 (fun hl _ _ => ?_) (fun hl => ?_)
    · have HR : Hid (roomC zs n r = 0) := by show _ = _; simp [roomC, hok, hl]
      have HV : Hid (if ftTo (tkF zs n) (sgF zs) r n < 0 then ftV zs n r = 0 ∧ ftC zs n r = 3 else ftV zs n r = ftTo (tkF zs n) (sgF zs) r n ∧ ftC zs n r = 0) := by
        show if _ then _ else _
        split
        · next hx => simp [ftV, ftC, hok, hl, hx]
        · next hx => simp [ftV, ftC, hok, hl, hx]
      have hlo := loose_of (by omega) hok
      have hn' := hlo.1
      go_enter Try.func18, Try.ntmps18
      go_wp2_with fail
      refine (room_s _ _ _ zs _ _ h hn).mono ?_
      rintro e w1 ⟨rfl, hb1⟩
      rw [HR.out]
      go_wp2_with (fail)
      go_loopw [7,8] (fun s i wr => ∃ k : Nat, k ≤ n ∧ i = .int .i64 k ∧ s = .int .i64 (ftTo (tkF zs n) (sgF zs) r k) ∧ Below w.heap.size w wr) (fun _ i _ => n - (intOf i).toNat)
      case atStart => exact ⟨0, Nat.zero_le _, rfl, rfl, hb1⟩
      case round =>
        obtain ⟨k, hk, rfl, rfl, hbel⟩ := hrel
        by_cases hlt : k < n
        · have hI := (h.below hbel (Nat.le_refl _)).more hbel.size
          have hI2 := fun o => (hI.below (balloc (Below.refl _ _) o) (Nat.le_refl _)).more (balloc (Below.refl _ wr) o).size
          have HI2 := Lib.hid hI2
          clear hI2
          obtain ⟨b, off, rfl, hb, c0, c1, c2, c3⟩ := (h.below hbel (Nat.le_refl _)).at4 hlt
          by_cases hq : r < sumTo (tankF zs (gi zs (k * 4))) n
          · by_cases hz : ftTo (tkF zs n) (sgF zs) r k < 0
            · have HQ : Hid (ftTo (tkF zs n) (sgF zs) r (k + 1) = gi zs (k * 4)) := if_pos ⟨hq, .inl hz⟩
              go_wp2_with (go_at_call 45; refine (tankF_s _ _ _ zs _ _ hI hlo).mono ?_; rintro e w2 ⟨rfl, hb2⟩)
              go_roundw
              case rel => exact ⟨k + 1, by omega, by go_num, by rw [HQ.out], by first | exact btrans hbel hb2 | exact btrans (balloc hbel _) hb2⟩
              case measure => simp [intOf]; omega
            · by_cases hy : gi zs (k * 4) < ftTo (tkF zs n) (sgF zs) r k
              · have HQ : Hid (ftTo (tkF zs n) (sgF zs) r (k + 1) = gi zs (k * 4)) := if_pos ⟨hq, .inr hy⟩
                go_wp2_with (go_at_call 45; refine (tankF_s _ _ _ zs _ _ hI hlo).mono ?_; rintro e w2 ⟨rfl, hb2⟩)
                go_roundw
                case rel => exact ⟨k + 1, by omega, by go_num, by rw [HQ.out], by first | exact btrans hbel hb2 | exact btrans (balloc hbel _) hb2⟩
                case measure => simp [intOf]; omega
              · have HQ : Hid (ftTo (tkF zs n) (sgF zs) r (k + 1) = ftTo (tkF zs n) (sgF zs) r k) := if_neg (by rintro ⟨_, h1 | h1⟩; exact hz h1; exact hy h1)
                go_wp2_with (go_at_call 45; refine (tankF_s _ _ _ zs _ _ hI hlo).mono ?_; rintro e w2 ⟨rfl, hb2⟩)
                go_roundw
                case rel => exact ⟨k + 1, by omega, by go_num, by rw [HQ.out], by first | exact btrans hbel hb2 | exact btrans (balloc hbel _) hb2⟩
                case measure => simp [intOf]; omega
          · have HQ : Hid (ftTo (tkF zs n) (sgF zs) r (k + 1) = ftTo (tkF zs n) (sgF zs) r k) := if_neg (fun h1 => hq h1.1)
            go_wp2_with (go_at_call 45; refine (tankF_s _ _ _ zs _ _ hI hlo).mono ?_; rintro e w2 ⟨rfl, hb2⟩)
            go_roundw
            case rel => exact ⟨k + 1, by omega, by go_num, by rw [HQ.out], by first | exact btrans hbel hb2 | exact btrans (balloc hbel _) hb2⟩
            case measure => simp [intOf]; omega
        · obtain rfl : k = n := by omega
          by_cases hx : ftTo (tkF zs k) (sgF zs) r k < 0
          · have HV' := HV.out
            rw [if_pos hx] at HV'
            have HW := Lib.hid HV'
            clear HV'
            go_wp2
            go_ret2
            exact ⟨by rw [HW.out.1, HW.out.2]; rfl, hbel⟩
          · have HV' := HV.out
            rw [if_neg hx] at HV'
            have HW := Lib.hid HV'
            clear HV'
            go_wp2
            go_ret2
            exact ⟨by rw [HW.out.1, HW.out.2]; rfl, hbel⟩
    · have HV : Hid (ftV zs n r = 0 ∧ ftC zs n r = 2) := by show _ ∧ _; simp [ftV, ftC, hok, hl]
      have HR : Hid (roomC zs n r = 2) := by show _ = _; simp [roomC, hok, hl]
      go_enter Try.func18, Try.ntmps18
      go_wp2_with fail
      refine (room_s _ _ _ zs _ _ h hn).mono ?_
      rintro e w1 ⟨rfl, hb1⟩
      rw [HR.out]
      go_wp2_with (fail)
      go_ret2
      exact ⟨by rw [HV.out.1, HV.out.2]; rfl, hb1⟩
set_option maxHeartbeats 3000000 in
theorem first_i (A : Option Addr) (n c : Nat) (zs : List Int) (r : Int) (w : World) (h : Ints w w.heap.size 4 A n zs) (hn : n ≤ 1048576) :
    Calls Try.prog 17 #[.slice A n c, .int .i64 r] w fun e w' => e = .returned (.tuple #[.int .i64 (ftV zs n r), .int .i64 (ftC zs n r)]) ∧ Below w.heap.size w w' := by
  rcases hok : okAll (batchAt zs) n 10 with _ | _
  · have HV : Hid (ftV zs n r = 0 ∧ ftC zs n r = 1) := by show _ ∧ _; simp [ftV, ftC, hok]
    have HR : Hid (roomC zs n r = 1) := by show _ = _; simp [roomC, hok]
    go_enter Try.func17, Try.ntmps17
    go_wp2_with fail
    refine (ValidBatches_c _ _ _ zs _ h hn).mono ?_
    rintro e w1 ⟨rfl, hb1⟩
    rw [hok]
    go_wp2_with (first | (go_at_call 40; refine (within_c _ _ _ _).mono ?_; rintro e w' ⟨rfl, rfl⟩))
    go_ret2
    exact ⟨by rw [HV.out.1, HV.out.2]; rfl, hb1⟩
  · refine inR_split r 0 100 (fun hl _ _ => ?_) (fun hl => ?_)
    · have HR : Hid (roomC zs n r = 0) := by show _ = _; simp [roomC, hok, hl]
      have HV : Hid (if ftTo (tkF zs n) (sgF zs) r n < 0 then ftV zs n r = 0 ∧ ftC zs n r = 3 else ftV zs n r = ftTo (tkF zs n) (sgF zs) r n ∧ ftC zs n r = 0) := by
        show if _ then _ else _
        split
        · next hx => simp [ftV, ftC, hok, hl, hx]
        · next hx => simp [ftV, ftC, hok, hl, hx]
      have hlo := loose_of (by omega) hok
      have hn' := hlo.1
      go_enter Try.func17, Try.ntmps17
      go_wp2_with fail
      refine (ValidBatches_c _ _ _ zs _ h hn).mono ?_
      rintro e w1 ⟨rfl, hb1⟩
      rw [hok]
      go_wp2_with (first | (go_at_call 40; refine (within_c _ _ _ _).mono ?_; rintro e w' ⟨rfl, rfl⟩))
      go_loopw [6,17] (fun s i wr => ∃ k : Nat, k ≤ n ∧ i = .int .i64 k ∧ s = .int .i64 (ftTo (tkF zs n) (sgF zs) r k) ∧ Below w.heap.size w wr) (fun _ i _ => n - (intOf i).toNat)
      case atStart => exact ⟨0, Nat.zero_le _, rfl, rfl, hb1⟩
      case round =>
        obtain ⟨k, hk, rfl, rfl, hbel⟩ := hrel
        by_cases hlt : k < n
        · have hI := (h.below hbel (Nat.le_refl _)).more hbel.size
          have hI2 := fun o => (hI.below (balloc (Below.refl _ _) o) (Nat.le_refl _)).more (balloc (Below.refl _ wr) o).size
          have HI2 := Lib.hid hI2
          clear hI2
          obtain ⟨b, off, rfl, hb, c0, c1, c2, c3⟩ := (h.below hbel (Nat.le_refl _)).at4 hlt
          by_cases hq : r < sumTo (tankF zs (gi zs (k * 4))) n
          · by_cases hz : ftTo (tkF zs n) (sgF zs) r k < 0
            · have HQ : Hid (ftTo (tkF zs n) (sgF zs) r (k + 1) = gi zs (k * 4)) := if_pos ⟨hq, .inl hz⟩
              go_wp2_with (go_at_call 43; refine (tankF_i _ _ _ zs _ _ (HI2.out _) hlo).mono ?_; rintro e w2 ⟨rfl, hb2⟩; have K := (Blk.new wr 32 #[.int .i64 (gi zs (k * 4)), .int .i64 (gi zs (k * 4 + 1)), .int .i64 (gi zs (k * 4 + 2)), .int .i64 (gi zs (k * 4 + 3))]).on hb2; have Kl := K.lt; have Kc0 := K.cell 0; simp at Kc0; clear K)
              go_roundw
              case rel => exact ⟨k + 1, by omega, by go_num, by rw [HQ.out], by first | exact btrans hbel hb2 | exact btrans (balloc hbel _) hb2⟩
              case measure => simp [intOf]; omega
            · by_cases hy : gi zs (k * 4) < ftTo (tkF zs n) (sgF zs) r k
              · have HQ : Hid (ftTo (tkF zs n) (sgF zs) r (k + 1) = gi zs (k * 4)) := if_pos ⟨hq, .inr hy⟩
                go_wp2_with (go_at_call 43; refine (tankF_i _ _ _ zs _ _ (HI2.out _) hlo).mono ?_; rintro e w2 ⟨rfl, hb2⟩; have K := (Blk.new wr 32 #[.int .i64 (gi zs (k * 4)), .int .i64 (gi zs (k * 4 + 1)), .int .i64 (gi zs (k * 4 + 2)), .int .i64 (gi zs (k * 4 + 3))]).on hb2; have Kl := K.lt; have Kc0 := K.cell 0; simp at Kc0; clear K)
                go_roundw
                case rel => exact ⟨k + 1, by omega, by go_num, by rw [HQ.out], by first | exact btrans hbel hb2 | exact btrans (balloc hbel _) hb2⟩
                case measure => simp [intOf]; omega
              · have HQ : Hid (ftTo (tkF zs n) (sgF zs) r (k + 1) = ftTo (tkF zs n) (sgF zs) r k) := if_neg (by rintro ⟨_, h1 | h1⟩; exact hz h1; exact hy h1)
                go_wp2_with (go_at_call 43; refine (tankF_i _ _ _ zs _ _ (HI2.out _) hlo).mono ?_; rintro e w2 ⟨rfl, hb2⟩; have K := (Blk.new wr 32 #[.int .i64 (gi zs (k * 4)), .int .i64 (gi zs (k * 4 + 1)), .int .i64 (gi zs (k * 4 + 2)), .int .i64 (gi zs (k * 4 + 3))]).on hb2; have Kl := K.lt; have Kc0 := K.cell 0; simp at Kc0; clear K)
                go_roundw
                case rel => exact ⟨k + 1, by omega, by go_num, by rw [HQ.out], by first | exact btrans hbel hb2 | exact btrans (balloc hbel _) hb2⟩
                case measure => simp [intOf]; omega
          · have HQ : Hid (ftTo (tkF zs n) (sgF zs) r (k + 1) = ftTo (tkF zs n) (sgF zs) r k) := if_neg (fun h1 => hq h1.1)
            go_wp2_with (go_at_call 43; refine (tankF_i _ _ _ zs _ _ (HI2.out _) hlo).mono ?_; rintro e w2 ⟨rfl, hb2⟩; have K := (Blk.new wr 32 #[.int .i64 (gi zs (k * 4)), .int .i64 (gi zs (k * 4 + 1)), .int .i64 (gi zs (k * 4 + 2)), .int .i64 (gi zs (k * 4 + 3))]).on hb2; have Kl := K.lt; have Kc0 := K.cell 0; simp at Kc0; clear K)
            go_roundw
            case rel => exact ⟨k + 1, by omega, by go_num, by rw [HQ.out], by first | exact btrans hbel hb2 | exact btrans (balloc hbel _) hb2⟩
            case measure => simp [intOf]; omega
        · obtain rfl : k = n := by omega
          by_cases hx : ftTo (tkF zs k) (sgF zs) r k < 0
          · have HV' := HV.out
            rw [if_pos hx] at HV'
            have HW := Lib.hid HV'
            clear HV'
            go_wp2
            go_ret2
            exact ⟨by rw [HW.out.1, HW.out.2]; rfl, hbel⟩
          · have HV' := HV.out
            rw [if_neg hx] at HV'
            have HW := Lib.hid HV'
            clear HV'
            go_wp2
            go_ret2
            exact ⟨by rw [HW.out.1, HW.out.2]; rfl, hbel⟩
    · have HV : Hid (ftV zs n r = 0 ∧ ftC zs n r = 2) := by show _ ∧ _; simp [ftV, ftC, hok, hl]
      have HR : Hid (roomC zs n r = 2) := by show _ = _; simp [roomC, hok, hl]
      go_enter Try.func17, Try.ntmps17
      go_wp2_with fail
      refine (ValidBatches_c _ _ _ zs _ h hn).mono ?_
      rintro e w1 ⟨rfl, hb1⟩
      rw [hok]
      go_wp2_with (first | (go_at_call 40; refine (within_c _ _ _ _).mono ?_; rintro e w' ⟨rfl, rfl⟩))
      go_ret2
      exact ⟨by rw [HV.out.1, HV.out.2]; rfl, hb1⟩

end Go.Proofs.Ytnagaopogmdfgaa
