/-
  Which beds are valid, and what a bed yields: the reference's look and the program's.
  No conditions.
-/
import Derived.Test.YtnlddplhaiceaaaBedMem
import Derived.WalkLawsBesides
namespace Go.Proofs.Ytnlddplhaiceaaa
open Go.ChangeShapes Go.WideShapes Go.ChangeAt Go.RowKit Go.Deep

def inAll (ys : List Int) (lo hi : Int) (j : Nat) : Bool := inR (gi ys j) lo hi
def bedOk (ys : List Int) (a : Int) : Bool := okAll (inAll ys 0 10000) ys.length 5 && decide (1 ≤ ys.length) && inR a 0 ys.length
def bedAt (bs : Nat → List Int × Int) (i : Nat) : Bool := bedOk (yl bs i) (ag bs i)
theorem bedOk_bad {ys : List Int} {a : Int} {k : Nat} (hk : k < ys.length) (h : inR (gi ys k) 0 10000 = false) : bedOk ys a = false := by
  rw [bedOk, okAll_bad hk h]; rfl
theorem bedOk_end {ys : List Int} {a : Int} (h : ∀ j, j < ys.length → inR (gi ys j) 0 10000 = true) : bedOk ys a = (inR ys.length 1 5 && inR a 0 ys.length) := by
  rw [bedOk, okAll_end (p := inAll ys 0 10000) h]
  simp only [inR]
  by_cases h1 : ys.length ≤ 5 <;> by_cases h2 : 1 ≤ ys.length <;> simp [h1, h2] <;> omega
theorem bedOk_bd {ys : List Int} {a : Int} (h : bedOk ys a = true) : 1 ≤ ys.length ∧ ys.length ≤ 5 ∧ 0 ≤ a ∧ a ≤ ys.length ∧ ∀ j, j < ys.length → 0 ≤ gi ys j ∧ gi ys j ≤ 10000 := by
  simp only [bedOk, Bool.and_eq_true, decide_eq_true_eq] at h
  have h1 := okAll_le h.1.1
  have h2 := inR_true h.2
  exact ⟨h.1.2, h1, h2.1, h2.2, fun j hj => inR_true (okAll_get h.1.1 hj)⟩
/-- What a bed yields that was cut so many years ago. -/
def yfor (ys : List Int) (k : Int) : Int := if k = 0 then 0 else if k ≤ ys.length then gi ys (k.toNat - 1) else gi ys (ys.length - 1)
theorem yfor_bd {ys : List Int} {k : Int} (h : ∀ j, j < ys.length → 0 ≤ gi ys j ∧ gi ys j ≤ 10000) (h1 : 1 ≤ ys.length) (_hk : 0 ≤ k) : 0 ≤ yfor ys k ∧ yfor ys k ≤ 10000 := by
  unfold yfor
  split
  · omega
  · split
    · exact h _ (by omega)
    · exact h _ (by omega)

set_option maxHeartbeats 1000000 in
theorem bedOk_s (bk o : Nat) (A : Option Addr) (c : Nat) (ys : List Int) (a : Int) (w : World) (c0 : w.cell? ⟨bk, o, none⟩ = some (.slice A ys.length c)) (c1 : w.cell? ⟨bk, o + 1, none⟩ = some (.int .i64 a)) (hI : Ints w w.heap.size 1 A ys.length ys) (hn : ys.length ≤ 1048576) :
    Calls Try.prog 65 #[.pointer (some ⟨bk, o, none⟩)] w fun e w' => e = .returned (.bool (bedOk ys a)) ∧ w = w' := by
  generalize hm : ys.length = m at c0 hI hn
  have HM := Lib.hid hm
  clear hm
  go_enter Try.func65, Try.ntmps65
  go_wp2_with fail
  go_loop [3] (fun i => ∃ k : Nat, k ≤ m ∧ i = .int .i64 k ∧ Hid (∀ j, j < k → inR (gi ys j) 0 10000 = true)) (fun i => m - (intOf i).toNat)
  case atStart => exact ⟨0, Nat.zero_le _, rfl, fun j h => absurd h (by omega)⟩
  case round =>
    obtain ⟨k, hk, rfl, HK⟩ := hrel
    by_cases hlt : k < m
    · obtain ⟨b, off, rfl, hb, d0⟩ := hI.at1 hlt
      rcases h1 : inR (gi ys k) 0 10000 with _ | _
      · have HV : Hid (bedOk ys a = false) := bedOk_bad (by rw [HM.out]; exact hlt) h1
        go_wp2_with (first | (go_at_call 46; refine (l00In_c _ _ _ _).mono ?_; rintro e w' ⟨rfl, rfl⟩))
        go_ret
        exact ⟨ret_bool HV.out.symm, rfl⟩
      · go_wp2_with (first | (go_at_call 46; refine (l00In_c _ _ _ _).mono ?_; rintro e w' ⟨rfl, rfl⟩))
        go_round
        case rel =>
          refine ⟨k + 1, by omega, by go_num, fun j hj => ?_⟩
          rcases Nat.lt_or_ge j k with hh | hh
          · exact HK.out j hh
          · obtain rfl : j = k := by omega
            exact h1
        case measure => simp [intOf]; omega
    · obtain rfl : k = m := by omega
      have HV : Hid (bedOk ys a = (inR k 1 5 && inR a 0 k)) := by
        show _ = _
        rw [bedOk_end (by rw [HM.out]; exact HK.out), HM.out]
      refine inR_split (k : Int) 1 5 (fun h1 _ _ => inR_split a 0 k (fun h2 _ _ => ?_) (fun h2 => ?_)) (fun h1 => ?_)
      all_goals
        go_wp2_with (first | (go_at_call 46; refine (l00In_c _ _ _ _).mono ?_; rintro e w' ⟨rfl, rfl⟩))
        go_ret
        exact ⟨ret_bool (by rw [HV.out]; simp [*]), rfl⟩

def ewV (ys : List Int) (n : Nat) (m lo hi : Int) : Bool := okAll (inAll ys lo hi) n n && decide ((n : Int) = m)
set_option maxHeartbeats 1000000 in
theorem eachWithin_c (A : Option Addr) (n c : Nat) (ys : List Int) (m lo hi : Int) (w : World) (hI : Ints w w.heap.size 1 A n ys) (hn : n ≤ 1048576) :
    Calls Try.prog 92 #[.slice A n c, .int .i64 m, .int .i64 lo, .int .i64 hi] w fun e w' => e = .returned (.bool (ewV ys n m lo hi)) ∧ w = w' := by
  go_enter Try.func92, Try.ntmps92
  go_wp2_with fail
  go_loop [13] (fun i => ∃ k : Nat, k ≤ n ∧ i = .int .i64 k ∧ Hid (∀ j, j < k → inAll ys lo hi j = true)) (fun i => n - (intOf i).toNat)
  case atStart => exact ⟨0, Nat.zero_le _, rfl, fun j h => absurd h (by omega)⟩
  case round =>
    obtain ⟨k, hk, rfl, HK⟩ := hrel
    by_cases hlt : k < n
    · obtain ⟨b, off, rfl, hb, d0⟩ := hI.at1 hlt
      rcases h1 : inR (gi ys k) lo hi with _ | _
      · have HV : Hid (okAll (inAll ys lo hi) n n = false) := okAll_bad hlt h1
        go_wp2_with (first | (go_at_call 49; refine (within_c _ _ _ _).mono ?_; rintro e w' ⟨rfl, rfl⟩))
        go_ret
        exact ⟨ret_bool (by rw [ewV, HV.out]; rfl), rfl⟩
      · go_wp2_with (first | (go_at_call 49; refine (within_c _ _ _ _).mono ?_; rintro e w' ⟨rfl, rfl⟩))
        go_round
        case rel =>
          refine ⟨k + 1, by omega, by go_num, fun j hj => ?_⟩
          rcases Nat.lt_or_ge j k with hh | hh
          · exact HK.out j hh
          · obtain rfl : j = k := by omega
            exact h1
        case measure => simp [intOf]; omega
    · obtain rfl : k = n := by omega
      have HV : Hid (okAll (inAll ys lo hi) k k = true) := by show _ = _; rw [okAll_end HK.out]; simp
      go_wp2
      go_ret
      refine ⟨ret_bool ?_, rfl⟩
      rw [ewV, HV.out]
      by_cases h : (k : Int) = m <;> simp [h]

set_option maxHeartbeats 1000000 in
theorem bedOk_i (A : Option Addr) (c : Nat) (ys : List Int) (a : Int) (w : World) (hI : Ints w w.heap.size 1 A ys.length ys) (hn : ys.length ≤ 1048576) :
    Calls Try.prog 61 #[.agg #[.slice A ys.length c, .int .i64 a]] w fun e w' => e = .returned (.bool (bedOk ys a)) ∧ Below w.heap.size w w' := by
  generalize hm : ys.length = m at hI hn
  have HM := Lib.hid hm
  clear hm
  have HV : Hid (bedOk ys a = (okAll (inAll ys 0 10000) m m && decide (1 ≤ m) && decide (m ≤ 5) && inR a 0 m)) := by
    show _ = _
    unfold bedOk
    rw [HM.out]
    simp only [okAll]
    by_cases h1 : m ≤ 5 <;> by_cases h2 : 1 ≤ m <;> simp [h1, h2]
  by_cases h1 : 1 ≤ m
  · by_cases h2 : m ≤ 5
    · have hd1 : (1 : Int) ≤ m := by omega
      have hd2 : (m : Int) ≤ 5 := by omega
      rcases h3 : okAll (inAll ys 0 10000) m m with _ | _
      · go_enter Try.func61, Try.ntmps61
        go_wp2_with fail
        have HE : Hid (ewV ys m m 0 10000 = false) := by show _ = _; rw [ewV, h3]; rfl
        refine (eachWithin_c A m c ys m 0 10000 _ (hI.on (balloc (Below.refl _ _) _)) hn).mono ?_
        rintro e w1 ⟨rfl, rfl⟩
        rw [HE.out]
        go_wp2_with fail
        go_ret
        exact ⟨ret_bool (by rw [HV.out, h3]; rfl), balloc (Below.refl _ _) _⟩
      · have HE : Hid (ewV ys m m 0 10000 = true) := by show _ = _; rw [ewV, h3]; simp
        refine inR_split a 0 m (fun h4 _ _ => ?_) (fun h4 => ?_)
        all_goals
          go_enter Try.func61, Try.ntmps61
          go_wp2_with fail
          refine (eachWithin_c A m c ys m 0 10000 _ (hI.on (balloc (Below.refl _ _) _)) hn).mono ?_
          rintro e w1 ⟨rfl, rfl⟩
          rw [HE.out]
          go_wp2_with (first | (go_at_call 49; refine (within_c _ _ _ _).mono ?_; rintro e w' ⟨rfl, rfl⟩))
          go_ret
          exact ⟨ret_bool (by rw [HV.out, h3, h4]; simp [h1, h2]), balloc (Below.refl _ _) _⟩
    · have hd2 : ¬ (m : Int) ≤ 5 := by omega
      go_enter Try.func61, Try.ntmps61
      go_wp2_with fail
      go_ret
      exact ⟨ret_bool (by rw [HV.out]; simp [h2]), balloc (Below.refl _ _) _⟩
  · have hd1 : ¬ (1 : Int) ≤ m := by omega
    go_enter Try.func61, Try.ntmps61
    go_wp2_with fail
    go_ret
    exact ⟨ret_bool (by rw [HV.out]; simp [h1]), balloc (Below.refl _ _) _⟩

theorem l03Ok_c (A : Option Addr) (n c : Nat) (bs : Nat → List Int × Int) (w : World) (h : Beds w w.heap.size A n bs) (hs : Short bs n) :
    Calls Try.prog 45 #[.slice A n c] w fun e w' => e = .returned (.bool (okAll (bedAt bs) n 8)) ∧ w = w' := by
  have hn := hs.1
  go_enter Try.func45, Try.ntmps45
  go_wp2_with fail
  go_loop [3] (fun i => ∃ k : Nat, k ≤ n ∧ i = .int .i64 k ∧ Hid (∀ j, j < k → bedAt bs j = true)) (fun i => n - (intOf i).toNat)
  case atStart => exact ⟨0, Nat.zero_le _, rfl, fun j h => absurd h (by omega)⟩
  case round =>
    obtain ⟨k, hk, rfl, HK⟩ := hrel
    by_cases hlt : k < n
    · obtain ⟨b, off, A', m, c', rfl, hb, c0, c1, hm, hI⟩ := h.at_ k hlt
      obtain rfl : m = (yl bs k).length := by have := hI.length; omega
      have hms := hs.2 k hlt
      rcases hx : bedOk (yl bs k) (ag bs k) with _ | _
      · have HV : Hid (okAll (bedAt bs) n 8 = false) := okAll_bad hlt hx
        go_wp2_with fail
        refine (bedOk_s _ _ _ _ (yl bs k) _ _ c0 c1 hI hms).mono ?_
        rintro e w1 ⟨rfl, rfl⟩
        rw [hx]
        go_wp2_with fail
        go_ret
        exact ⟨ret_bool HV.out.symm, rfl⟩
      · skip
        go_wp2_with fail
        refine (bedOk_s _ _ _ _ (yl bs k) _ _ c0 c1 hI hms).mono ?_
        rintro e w1 ⟨rfl, rfl⟩
        rw [hx]
        go_wp2_with fail
        go_round
        case rel =>
          refine ⟨k + 1, by omega, by go_num, fun j hj => ?_⟩
          rcases Nat.lt_or_ge j k with hh | hh
          · exact HK.out j hh
          · obtain rfl : j = k := by omega
            exact hx
        case measure => simp [intOf]; omega
    · obtain rfl : k = n := by omega
      go_wp2
      go_ret
      refine ⟨ret_bool ?_, rfl⟩
      rw [okAll_end HK.out]
      first | rfl | (congr 1; apply propext; omega) | (simp; omega)

theorem ValidBeds_i (A : Option Addr) (n c : Nat) (bs : Nat → List Int × Int) (w : World) (h : Beds w w.heap.size A n bs) (hs : Short bs n) :
    Calls Try.prog 33 #[.slice A n c] w fun e w' => e = .returned (.bool (okAll (bedAt bs) n 8)) ∧ Below w.heap.size w w' := by
  have hn := hs.1
  go_enter Try.func33, Try.ntmps33
  go_wp2_with fail
  go_loopw [7] (fun i wr => ∃ k : Nat, k ≤ n ∧ i = .int .i64 k ∧ Hid (∀ j, j < k → bedAt bs j = true) ∧ Below w.heap.size w wr) (fun i _ => n - (intOf i).toNat)
  case atStart => exact ⟨0, Nat.zero_le _, rfl, fun j h => absurd h (by omega), Below.refl _ _⟩
  case round =>
    obtain ⟨k, hk, rfl, HK, hbel⟩ := hrel
    by_cases hlt : k < n
    · obtain ⟨b, off, A', m, c', rfl, hb, c0, c1, hm, hI⟩ := (h.on hbel).at_ k hlt
      obtain rfl : m = (yl bs k).length := by have := hI.length; omega
      have hms := hs.2 k hlt
      rcases hx : bedOk (yl bs k) (ag bs k) with _ | _
      · have HV : Hid (okAll (bedAt bs) n 8 = false) := okAll_bad hlt hx
        go_wp2_with fail
        refine (bedOk_i _ _ (yl bs k) _ _ (hI.on (balloc (Below.refl _ _) _)) hms).mono ?_
        rintro e w1 ⟨rfl, hb1⟩
        rw [hx]
        go_wp2_with fail
        go_ret
        exact ⟨ret_bool HV.out.symm, btrans (balloc hbel _) hb1⟩
      · skip
        go_wp2_with fail
        refine (bedOk_i _ _ (yl bs k) _ _ (hI.on (balloc (Below.refl _ _) _)) hms).mono ?_
        rintro e w1 ⟨rfl, hb1⟩
        rw [hx]
        go_wp2_with fail
        go_roundw
        case rel =>
          refine ⟨k + 1, by omega, by go_num, fun j hj => ?_, btrans (balloc hbel _) hb1⟩
          rcases Nat.lt_or_ge j k with hh | hh
          · exact HK.out j hh
          · obtain rfl : j = k := by omega
            exact hx
        case measure => simp [intOf]; omega
    · obtain rfl : k = n := by omega
      go_wp2
      go_ret
      refine ⟨ret_bool ?_, hbel⟩
      rw [okAll_end HK.out]
      first | rfl | (congr 1; apply propext; omega) | (simp; omega)

theorem ValidBeds_s (A : Option Addr) (n c : Nat) (bs : Nat → List Int × Int) (w : World) (h : Beds w w.heap.size A n bs) (hs : Short bs n) :
    Calls Try.prog 34 #[.slice A n c] w fun e w' => e = .returned (.bool (okAll (bedAt bs) n 8)) ∧ Below w.heap.size w w' := by
  go_enter Try.func34, Try.ntmps34
  go_wp2_with fail
  refine (l03Ok_c _ _ _ bs _ h hs).mono ?_
  rintro e w1 ⟨rfl, rfl⟩
  go_wp2
  go_ret
  exact ⟨rfl, Below.refl _ _⟩

theorem yfor_i (A : Option Addr) (c : Nat) (ys : List Int) (a k : Int) (w : World) (hI : Ints w w.heap.size 1 A ys.length ys) (h1 : 1 ≤ ys.length) (h2 : ys.length ≤ 5) (hk : 0 ≤ k) (hk2 : k ≤ 1000000) :
    Calls Try.prog 77 #[.agg #[.slice A ys.length c, .int .i64 a], .int .i64 k] w fun e w' => e = .returned (.int .i64 (yfor ys k)) ∧ Below w.heap.size w w' := by
  generalize hm : ys.length = m at hI h1 h2
  have HM := Lib.hid hm
  clear hm
  by_cases h0 : k = 0
  · subst h0
    have HV : Hid (yfor ys 0 = 0) := by show _ = _; simp [yfor]
    rw [HV.out]
    go_enter Try.func77, Try.ntmps77
    go_wp2
    go_ret
    exact ⟨rfl, balloc (Below.refl _ _) _⟩
  · have hz : (k == 0) = false := by rw [beq_eq_false_iff_ne]; exact h0
    obtain ⟨q, rfl⟩ := Int.eq_ofNat_of_zero_le hk
    by_cases hq : (q : Int) ≤ m
    · have HV : Hid (yfor ys q = gi ys (q - 1)) := by show _ = _; rw [yfor, if_neg h0, if_pos (by rw [HM.out]; exact hq)]; rfl
      obtain ⟨b, off, rfl, hb, d0⟩ := hI.at1 (i := q - 1) (by omega)
      rw [HV.out]
      go_enter Try.func77, Try.ntmps77
      go_wp2
      go_ret
      exact ⟨rfl, balloc (Below.refl _ _) _⟩
    · have HV : Hid (yfor ys q = gi ys (m - 1)) := by show _ = _; rw [yfor, if_neg h0, if_neg (by rw [HM.out]; exact hq), HM.out]
      obtain ⟨b, off, rfl, hb, d0⟩ := hI.at1 (i := m - 1) (by omega)
      rw [HV.out]
      go_enter Try.func77, Try.ntmps77
      go_wp2
      go_ret
      exact ⟨rfl, balloc (Below.refl _ _) _⟩

theorem l00Min_lt (a b : Int) (w : World) (h : a < b) : Calls Try.prog 71 #[.int .i64 a, .int .i64 b] w fun e w' => e = .returned (.int .i64 a) ∧ w = w' := by
  go_enter Try.func71, Try.ntmps71
  go_wp2
  go_ret
  exact ⟨rfl, rfl⟩
theorem l00Min_ge (a b : Int) (w : World) (h : b ≤ a) : Calls Try.prog 71 #[.int .i64 a, .int .i64 b] w fun e w' => e = .returned (.int .i64 b) ∧ w = w' := by
  go_enter Try.func71, Try.ntmps71
  go_wp2
  go_ret
  exact ⟨rfl, rfl⟩

theorem yfor_s (bk o : Nat) (A : Option Addr) (c : Nat) (ys : List Int) (k : Int) (w : World) (c0 : w.cell? ⟨bk, o, none⟩ = some (.slice A ys.length c)) (hI : Ints w w.heap.size 1 A ys.length ys) (h1 : 1 ≤ ys.length) (h2 : ys.length ≤ 5) (hk : 0 ≤ k) (hk2 : k ≤ 1000000) :
    Calls Try.prog 79 #[.pointer (some ⟨bk, o, none⟩), .int .i64 k] w fun e w' => e = .returned (.int .i64 (yfor ys k)) ∧ ∃ q, w' = w.drewN q := by
  generalize hm : ys.length = m at c0 hI h1 h2
  have HM := Lib.hid hm
  clear hm
  by_cases h0 : k = 0
  · subst h0
    have HV : Hid (yfor ys 0 = 0) := by show _ = _; simp [yfor]
    rw [HV.out]
    go_enter Try.func79, Try.ntmps79
    go_wp2
    go_ret
    exact ⟨rfl, 0, rfl⟩
  · have hz : (k == 0) = false := by rw [beq_eq_false_iff_ne]; exact h0
    obtain ⟨q, rfl⟩ := Int.eq_ofNat_of_zero_le hk
    by_cases hq : (q : Int) < m
    · have HV : Hid (yfor ys q = gi ys (q - 1)) := by show _ = _; rw [yfor, if_neg h0, if_pos (by rw [HM.out]; omega)]; rfl
      obtain ⟨b, off, rfl, hb, d0⟩ := hI.at1 (i := q - 1) (by omega)
      have HW : IntKind.i64.wrap ((q : Int) - 1) = (q : Int) - 1 := IntWalk.i64_in _ (by omega)
      have hn0 : (0 : Int) ≤ (q : Int) - 1 := by omega
      have hn1 : ((q : Int) - 1).toNat = q - 1 := by omega
      have hn2 : (q : Int) - 1 < m := by omega
      rw [HV.out]
      go_enter Try.func79, Try.ntmps79
      go_wp2
      go_quiet ((go_at_call 71; first | exact quiet_left (l00Min_lt _ _ _ (by assumption)) | exact quiet_add_left (l00Min_lt _ _ _ (by assumption))))
      go_wp2
      go_ret
      exact ⟨rfl, _, rfl⟩
    · have HV : Hid (yfor ys q = gi ys (m - 1)) := by
        show _ = _
        rw [yfor, if_neg h0, HM.out]
        split
        · rw [show (q : Int).toNat = m by omega]
        · rfl
      obtain ⟨b, off, rfl, hb, d0⟩ := hI.at1 (i := m - 1) (by omega)
      have HW : IntKind.i64.wrap ((m : Int) - 1) = (m : Int) - 1 := IntWalk.i64_in _ (by omega)
      have hn0 : (0 : Int) ≤ (m : Int) - 1 := by omega
      have hn1 : ((m : Int) - 1).toNat = m - 1 := by omega
      have hn2 : (m : Int) - 1 < m := by omega
      have hq' : (m : Int) ≤ q := by omega
      rw [HV.out]
      go_enter Try.func79, Try.ntmps79
      go_wp2
      go_quiet ((go_at_call 71; first | exact quiet_left (l00Min_ge _ _ _ (by assumption)) | exact quiet_add_left (l00Min_ge _ _ _ (by assumption))))
      go_wp2
      go_ret
      exact ⟨rfl, _, rfl⟩

end Go.Proofs.Ytnlddplhaiceaaa
