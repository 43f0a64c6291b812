/-
  YieldOfPlan: what a plan of cuts yields.
  No conditions.
-/
import Derived.Test.YtnlddplhaiceaaaSets
namespace Go.Proofs.Ytnlddplhaiceaaa
open Go.ChangeShapes Go.WideShapes Go.ChangeAt Go.RowKit Go.Deep

/-- Rising numbers from 0 on, less than n. -/
structure Cuts (L : List Int) (n : Nat) : Prop where
  rise : Rise L
  bd : ∀ i, i < L.length → 0 ≤ gi L i ∧ gi L i < n
theorem Cuts.sel (p : Nat → Bool) (n : Nat) : Cuts (selTo p n) n := ⟨rise_sel p n, fun _ hi => selTo_mem p n _ (mem_gi hi)⟩
theorem Cuts.len {L : List Int} {n : Nat} (h : Cuts L n) : L.length ≤ n := by
  have key : ∀ i, i < L.length → (i : Int) ≤ gi L i := by
    intro i
    induction i with
    | zero => intro hi; exact (h.bd 0 hi).1
    | succ i ih =>
      intro hi
      have h1 := ih (by omega)
      have h2 := h.rise i (i + 1) (by omega) hi
      omega
  by_cases h0 : L.length = 0
  · omega
  · have h1 := key (L.length - 1) (by omega)
    have h2 := (h.bd (L.length - 1) (by omega)).2
    omega
theorem take_of_sel {L : List Int} {n : Nat} (h : Cuts L n) : selTo (bitsOf L).testBit n = L := by
  have hm : ∀ x ∈ L, 0 ≤ x ∧ x < n := fun x hx => by
    obtain ⟨i, hi, rfl⟩ := gi_mem hx
    exact h.bd i hi
  exact sel_rise n L _ h.rise hm fun k _ => bitsOf_has k L.length L rfl fun x hx => (hm x hx).1
/-- The year of the last cut. -/
theorem planL_last (ys : List Int) (a : Int) (L : List Int) : ∀ k : Nat, k ≤ L.length → (planL ys a (L.take k)).2 = if k = 0 then -a else gi L (k - 1)
  | 0, _ => by simp [planL]
  | k + 1, h => by rw [take_snoc (by omega), planL_snoc]; simp
theorem planL_gap {ys : List Int} {a : Int} {L : List Int} {n k : Nat} (h : Cuts L n) (ha : 0 ≤ a) (ha5 : a ≤ 5) (hk : k < L.length) :
    0 ≤ gi L k - (planL ys a (L.take k)).2 ∧ gi L k - (planL ys a (L.take k)).2 ≤ n + 5 ∧ -5 ≤ (planL ys a (L.take k)).2 ∧ (planL ys a (L.take k)).2 ≤ n := by
  have e := planL_last ys a L k (by omega)
  have h1 := h.bd k hk
  rcases Nat.eq_zero_or_pos k with h0 | h0
  · rw [if_pos h0] at e; omega
  · rw [if_neg (by omega)] at e
    have h2 := h.bd (k - 1) (by omega)
    have h3 := h.rise (k - 1) k (by omega) hk
    omega
theorem planL_bd {ys : List Int} {a : Int} {L : List Int} {n : Nat} (hy : ∀ j, j < ys.length → 0 ≤ gi ys j ∧ gi ys j ≤ 10000) (h1 : 1 ≤ ys.length) (h : Cuts L n) (ha : 0 ≤ a) (ha5 : a ≤ 5) :
    ∀ k : Nat, k ≤ L.length → 0 ≤ (planL ys a (L.take k)).1 ∧ (planL ys a (L.take k)).1 ≤ 10000 * k
  | 0, _ => by simp [planL]
  | k + 1, hk => by
    have ih := planL_bd hy h1 h ha ha5 k (by omega)
    have hg := planL_gap (ys := ys) (a := a) h ha ha5 (by omega : k < L.length)
    have hf := yfor_bd (k := gi L k - (planL ys a (L.take k)).2) hy h1 hg.1
    rw [take_snoc (by omega), planL_snoc]
    simp only
    omega
theorem plan_one {ys : List Int} {a : Int} {L : List Int} {n : Nat} (h : Cuts L n) : (planS ys a (bitsOf L).testBit n).1 = (planL ys a L).1 := by
  have := plan_sel ys a (bitsOf L).testBit n
  rw [take_of_sel h] at this
  rw [this]
theorem cuts_of {L : List Int} {n : Nat} (h : okAll (riseAt L 0 ((n : Int) - 1)) L.length L.length = true) : Cuts L n := by
  have hr : ∀ i, i < L.length → inR (gi L i) 0 ((n : Int) - 1) = true ∧ (i = 0 ∨ gi L (i - 1) < gi L i) := fun i hi => by
    have := okAll_get h hi
    simp only [riseAt, Bool.and_eq_true, Bool.or_eq_true, decide_eq_true_eq] at this
    exact this
  refine ⟨?_, fun i hi => by have := inR_true (hr i hi).1; omega⟩
  intro i j hij hj
  induction j with
  | zero => omega
  | succ j ih =>
    have h1 := (hr (j + 1) hj).2
    rcases h1 with h1 | h1
    · omega
    · simp only [Nat.add_sub_cancel] at h1
      rcases Nat.lt_or_ge i j with h2 | h2
      · have := ih h2 (by omega); omega
      · obtain rfl : i = j := by omega
        exact h1

theorem or_bit (q y : Nat) (hq : q < 1048576) (hy : y ≤ 16) : bits BinOp.or IntKind.i64 (q : Int) (wrap64 (2 ^ y)) = ((q ||| 2 ^ y : Nat) : Int) := by
  have e63 : (2 : Int) ^ 63 = 9223372036854775808 := by decide
  have h2 : 2 ^ y ≤ 2 ^ 16 := Nat.pow_le_pow_right (by omega) hy
  have e16 : 2 ^ 16 = 65536 := by decide
  rw [e16] at h2
  have hw : wrap64 ((2 : Int) ^ y) = ((2 ^ y : Nat) : Int) := by
    have : ((2 : Int) ^ y) = ((2 ^ y : Nat) : Int) := by norm_cast
    rw [this]
    generalize 2 ^ y = z at *
    unfold wrap64; omega
  rw [hw]
  have n63 : (2 : Nat) ^ 63 = 9223372036854775808 := by decide
  have h := bits_nat .i64 63 (by decide) (fun n h0 h1 => by rw [e63] at h1; rw [IntKind.wrap_i64]; omega) q (2 ^ y) (by rw [n63]; omega) (by rw [n63]; omega)
  exact h.2
theorem or_lt (q y : Nat) (hq : q < 1048576) (hy : y ≤ 16) : q ||| 2 ^ y < 1048576 := by
  have e : 1048576 = 2 ^ 20 := by decide
  rw [e] at *
  exact Nat.or_lt_two_pow hq (Nat.pow_lt_pow_right (by omega) (by omega))

set_option maxHeartbeats 1000000 in
theorem plan_s (bk o : Nat) (A : Option Addr) (c : Nat) (ys : List Int) (a : Int) (S n : Nat) (w : World) (c0 : w.cell? ⟨bk, o, none⟩ = some (.slice A ys.length c)) (c1 : w.cell? ⟨bk, o + 1, none⟩ = some (.int .i64 a))
    (hI : Ints w w.heap.size 1 A ys.length ys) (hok : bedOk ys a = true) (hn : n ≤ 16) (hS : S < 1048576) :
    Calls Try.prog 67 #[.pointer (some ⟨bk, o, none⟩), .int .i64 S, .int .i64 n] w fun e w' => e = .returned (.int .i64 (planS ys a S.testBit n).1) ∧ Below w.heap.size w w' := by
  obtain ⟨h1, h2, h3, h4, h5⟩ := bedOk_bd hok
  have HY := Lib.hid h5
  clear h5
  go_enter Try.func67, Try.ntmps67
  go_wp2_with fail
  go_loopw [7, 8, 9] (fun s g i wr => ∃ k : Nat, k ≤ n ∧ i = .int .i64 k ∧ s = .int .i64 (planS ys a S.testBit k).1 ∧ g = .int .i64 (planS ys a S.testBit k).2 ∧ Hid (∃ q, wr = w.drewN q)) (fun _ _ i _ => n - (intOf i).toNat)
  case atStart => exact ⟨0, Nat.zero_le _, rfl, rfl, rfl, ⟨0, rfl⟩⟩
  case round =>
    obtain ⟨k, hk, rfl, rfl, rfl, HW⟩ := hrel
    have hbd := planS_bd (a := a) HY.out h1 h3 S.testBit k
    obtain ⟨b1, b2, b3, b4⟩ := hbd
    have d0 : wr.cell? ⟨bk, o, none⟩ = some (.slice A ys.length c) := by obtain ⟨q, rfl⟩ := HW.out; exact c0
    have hI1 : Ints wr wr.heap.size 1 A ys.length ys := by obtain ⟨q, rfl⟩ := HW.out; exact hI.drewN q
    by_cases hlt : k < n
    · have hA := bit_at S k hS
      have HP : Hid (planS ys a S.testBit (k + 1) = if S.testBit k then ((planS ys a S.testBit k).1 + yfor ys (planS ys a S.testBit k).2, 1) else ((planS ys a S.testBit k).1, (planS ys a S.testBit k).2 + 1)) := rfl
      rcases h2' : S.testBit k with _ | _
      · rw [h2'] at hA
        simp only [Bool.false_eq_true, if_false] at hA
        go_wp2_with fail
        go_roundw
        case rel =>
          have e := HP.out
          rw [h2'] at e
          simp only [Bool.false_eq_true, if_false] at e
          exact ⟨k + 1, by omega, by go_num, by rw [e], by rw [e], HW⟩
        case measure => simp [intOf]; omega
      · rw [h2'] at hA
        simp only [if_true] at hA
        have hf := yfor_bd (k := (planS ys a S.testBit k).2) HY.out h1 b3
        go_wp2_with fail
        refine (yfor_s bk o A c ys _ _ d0 hI1 h1 h2 b3 (by omega)).mono ?_
        rintro e w2 ⟨rfl, q2, rfl⟩
        go_wp2_with fail
        go_roundw
        case rel =>
          have e := HP.out
          rw [h2'] at e
          simp only [if_true] at e
          exact ⟨k + 1, by omega, by go_num, by rw [e], by rw [e], drewN_ex HW.out _⟩
        case measure => simp [intOf]; omega
    · obtain rfl : k = n := by omega
      go_wp2
      go_ret
      refine ⟨rfl, ?_⟩
      obtain ⟨q, rfl⟩ := HW.out
      exact bdrewN (Below.refl _ _) _

set_option maxHeartbeats 1000000 in
theorem plan_i (A A' : Option Addr) (c c' : Nat) (ys L : List Int) (a : Int) (n : Nat) (w : World) (hI : Ints w w.heap.size 1 A ys.length ys) (hI' : Ints w w.heap.size 1 A' L.length L) (hok : bedOk ys a = true) (hL : Cuts L n) (hn : n ≤ 16) :
    Calls Try.prog 63 #[.agg #[.slice A ys.length c, .int .i64 a], .slice A' L.length c'] w fun e w' => e = .returned (.int .i64 (planL ys a L).1) ∧ Below w.heap.size w w' := by
  obtain ⟨h1, h2, h3, h4, h5⟩ := bedOk_bd hok
  have HY := Lib.hid h5
  clear h5
  have HLn := hL.len
  have hL16 : L.length ≤ 16 := by omega
  generalize hm : L.length = m at *
  have HM := Lib.hid hm
  clear hm
  have HW0 : IntKind.i64.wrap (-a) = -a := IntWalk.i64_in _ (by omega)
  go_enter Try.func63, Try.ntmps63
  go_wp2_with fail
  go_quiet (fail)
  clear HW0
  go_wp2_with fail
  go_loopw [5, 6, 14] (fun s l i wr => ∃ k : Nat, k ≤ m ∧ i = .int .i64 k ∧ s = .int .i64 (planL ys a (L.take k)).1 ∧ l = .int .i64 (planL ys a (L.take k)).2 ∧ Blk wr w.heap.size 41 #[.slice A ys.length c, .int .i64 a] ∧ Below w.heap.size w wr) (fun _ _ i _ => m - (intOf i).toNat)
  case atStart => exact ⟨0, Nat.zero_le _, rfl, rfl, rfl, (Blk.new w _ _).drewN _, bdrewN (balloc (Below.refl _ _) _) _⟩
  case round =>
    obtain ⟨k, hk, rfl, rfl, rfl, hblk, hbel⟩ := hrel
    by_cases hlt : k < m
    · have hg := planL_gap (ys := ys) (a := a) hL h3 (by omega) (by rw [HM.out]; exact hlt : k < L.length)
      have hb := planL_bd (a := a) HY.out h1 hL h3 (by omega) k (by rw [HM.out]; omega)
      have hf := yfor_bd (k := gi L k - (planL ys a (L.take k)).2) HY.out h1 hg.1
      have HP : Hid (planL ys a (L.take (k + 1)) = ((planL ys a (L.take k)).1 + yfor ys (gi L k - (planL ys a (L.take k)).2), gi L k)) := by
        show _ = _
        rw [take_snoc (by rw [HM.out]; exact hlt), planL_snoc]
      obtain ⟨b, off, rfl, hb', c0⟩ := (hI'.below hbel (Nat.le_refl _)).at1 hlt
      have K := hblk
      have Kl := K.lt
      have Kc0 := K.cell 0
      have Kf0 := K.frozen 0
      have Kc1 := K.cell 1
      have Kf1 := K.frozen 1
      simp at Kc0 Kc1
      have KH := Lib.hid K
      clear K
      go_wp2_with fail
      refine (yfor_i A c ys a _ _ (hI.on hbel) h1 h2 hg.1 (by omega)).mono ?_
      rintro e w2 ⟨rfl, hb2⟩
      go_wp2_with fail
      go_roundw
      case rel => exact ⟨k + 1, by omega, by go_num, by rw [HP.out], by rw [HP.out], KH.out.on hb2, btrans hbel hb2⟩
      case measure => simp [intOf]; omega
    · obtain rfl : k = m := by omega
      have HT : Hid (L.take k = L) := List.take_of_length_le (by rw [HM.out]; exact Nat.le_refl _)
      go_wp2
      go_ret
      exact ⟨by first | (rw [HT.out]; done) | (rw [HT.out]; rfl), hbel⟩

/-- YieldOfPlan. -/
def ypV (ys : List Int) (a : Int) (L : List Int) (m : Nat) (n : Int) : Int := if bedOk ys a && inR n 1 12 && okAll (riseAt L 0 (n - 1)) m m then (planL ys a L).1 else 0
def ypC (ys : List Int) (a : Int) (L : List Int) (m : Nat) (n : Int) : Int := if bedOk ys a then (if inR n 1 12 && okAll (riseAt L 0 (n - 1)) m m then 0 else 2) else 1
set_option maxHeartbeats 2000000 in
theorem yop_i (A A' : Option Addr) (c c' : Nat) (ys L : List Int) (a n : Int) (w : World) (hI : Ints w w.heap.size 1 A ys.length ys) (hI' : Ints w w.heap.size 1 A' L.length L) (hl : ys.length ≤ 1048576) (hl' : L.length ≤ 1048576) :
    Calls Try.prog 24 #[.agg #[.slice A ys.length c, .int .i64 a], .slice A' L.length c', .int .i64 n] w fun e w' => e = .returned (.tuple #[.int .i64 (ypV ys a L L.length n), .int .i64 (ypC ys a L L.length n)]) ∧ Below w.heap.size w w' := by
  have hbl := balloc (Below.refl _ w) (.cells #[.slice A ys.length c, .int .i64 a] 41)
  have HB := Lib.hid hbl
  clear hbl
  rcases hok : bedOk ys a with _ | _
  · have HV : Hid (ypV ys a L L.length n = 0 ∧ ypC ys a L L.length n = 1) := by show _ ∧ _; simp [ypV, ypC, hok]
    go_enter Try.func24, Try.ntmps24
    go_wp2_with fail
    refine (bedOk_i A c ys a _ (hI.on HB.out) hl).mono ?_
    rintro e w1 ⟨rfl, hb1⟩
    rw [hok]
    go_wp2
    go_ret2
    exact ⟨by rw [HV.out.1, HV.out.2]; rfl, btrans HB.out hb1⟩
  · refine inR_split n 1 12 (fun hr n1 n12 => ?_) (fun hr => ?_)
    · rcases hri : okAll (riseAt L 0 (n - 1)) L.length L.length with _ | _
      · have HV : Hid (ypV ys a L L.length n = 0 ∧ ypC ys a L L.length n = 2) := by show _ ∧ _; simp [ypV, ypC, hok, hr, hri]
        go_enter Try.func24, Try.ntmps24
        go_wp2_with fail
        refine (bedOk_i A c ys a _ (hI.on HB.out) hl).mono ?_
        rintro e w1 ⟨rfl, hb1⟩
        rw [hok]
        have HB1 := Lib.hid (btrans HB.out hb1)
        clear hb1
        go_wp2_with (first | (go_at_call 72; refine (rises_i _ _ _ L 0 (n - 1) _ (hI'.on HB1.out) hl').mono ?_; rintro e w2 ⟨rfl, hb2⟩) | (first | (go_at_call 49; refine (within_c _ _ _ _).mono ?_; rintro e w' ⟨rfl, rfl⟩)))
        go_ret2
        exact ⟨by rw [HV.out.1, HV.out.2]; rfl, btrans HB1.out hb2⟩
      · have HV : Hid (ypV ys a L L.length n = (planL ys a L).1 ∧ ypC ys a L L.length n = 0) := by show _ ∧ _; simp [ypV, ypC, hok, hr, hri]
        have hL : Cuts L n.toNat := cuts_of (by rw [show ((n.toNat : Nat) : Int) = n by omega]; exact hri)
        have HC := Lib.hid hL
        clear hL
        go_enter Try.func24, Try.ntmps24
        go_wp2_with fail
        refine (bedOk_i A c ys a _ (hI.on HB.out) hl).mono ?_
        rintro e w1 ⟨rfl, hb1⟩
        rw [hok]
        have K := (Blk.new w 41 #[.slice A ys.length c, .int .i64 a]).on hb1
        have Kl := K.lt
        have Kc0 := K.cell 0
        have Kf0 := K.frozen 0
        have Kc1 := K.cell 1
        have Kf1 := K.frozen 1
        simp at Kc0 Kc1
        have KH := Lib.hid K
        clear K
        have HB1 := Lib.hid (btrans HB.out hb1)
        clear hb1
        go_wp2_with (first | (go_at_call 49; refine (within_c _ _ _ _).mono ?_; rintro e w' ⟨rfl, rfl⟩))
        refine (rises_i _ _ _ L 0 (n - 1) _ (hI'.on HB1.out) hl').mono ?_
        rintro e w2 ⟨rfl, hb2⟩
        rw [hri]
        have M := KH.out.on hb2
        have Ml := M.lt
        have Mc0 := M.cell 0
        have Mf0 := M.frozen 0
        have Mc1 := M.cell 1
        have Mf1 := M.frozen 1
        simp at Mc0 Mc1
        have MH := Lib.hid M
        clear M
        have HB2 := Lib.hid (btrans HB1.out hb2)
        clear hb2
        go_wp2_with fail
        refine (plan_i A A' c c' ys L a n.toNat _ (hI.on HB2.out) (hI'.on HB2.out) hok HC.out (by omega)).mono ?_
        rintro e w3 ⟨rfl, hb3⟩
        go_wp2
        go_ret2
        exact ⟨by rw [HV.out.1, HV.out.2]; rfl, btrans HB2.out hb3⟩
    · have HV : Hid (ypV ys a L L.length n = 0 ∧ ypC ys a L L.length n = 2) := by show _ ∧ _; simp [ypV, ypC, hok, hr]
      go_enter Try.func24, Try.ntmps24
      go_wp2_with fail
      refine (bedOk_i A c ys a _ (hI.on HB.out) hl).mono ?_
      rintro e w1 ⟨rfl, hb1⟩
      rw [hok]
      go_wp2_with (first | (go_at_call 49; refine (within_c _ _ _ _).mono ?_; rintro e w' ⟨rfl, rfl⟩))
      go_ret2
      exact ⟨by rw [HV.out.1, HV.out.2]; rfl, btrans HB.out hb1⟩
set_option maxHeartbeats 2000000 in
theorem yop_s (A A' : Option Addr) (c c' : Nat) (ys L : List Int) (a n : Int) (w : World) (hI : Ints w w.heap.size 1 A ys.length ys) (hI' : Ints w w.heap.size 1 A' L.length L) (hl : ys.length ≤ 1048576) (hl' : L.length ≤ 1048576) :
    Calls Try.prog 25 #[.agg #[.slice A ys.length c, .int .i64 a], .slice A' L.length c', .int .i64 n] w fun e w' => e = .returned (.tuple #[.int .i64 (ypV ys a L L.length n), .int .i64 (ypC ys a L L.length n)]) ∧ Below w.heap.size w w' := by
  have hbl := balloc (Below.refl _ w) (.cells #[.slice A ys.length c, .int .i64 a] 41)
  have HB := Lib.hid hbl
  clear hbl
  rcases hok : bedOk ys a with _ | _
  · have HV : Hid (ypV ys a L L.length n = 0 ∧ ypC ys a L L.length n = 1) := by show _ ∧ _; simp [ypV, ypC, hok]
    go_enter Try.func25, Try.ntmps25
    go_wp2_with fail
    refine (bedOk_s w.heap.size 0 A c ys a _ (by simp) (by simp) (hI.on HB.out) hl).mono ?_
    rintro e w1 ⟨rfl, rfl⟩
    rw [hok]
    go_wp2
    go_ret2
    exact ⟨by rw [HV.out.1, HV.out.2]; rfl, HB.out⟩
  · refine inR_split n 1 12 (fun hr n1 n12 => ?_) (fun hr => ?_)
    · rcases hri : okAll (riseAt L 0 (n - 1)) L.length L.length with _ | _
      · have HV : Hid (ypV ys a L L.length n = 0 ∧ ypC ys a L L.length n = 2) := by show _ ∧ _; simp [ypV, ypC, hok, hr, hri]
        go_enter Try.func25, Try.ntmps25
        go_wp2_with fail
        refine (bedOk_s w.heap.size 0 A c ys a _ (by simp) (by simp) (hI.on HB.out) hl).mono ?_
        rintro e w1 ⟨rfl, rfl⟩
        rw [hok]
        go_wp2_with (first | (go_at_call 52; refine (rises_s _ _ _ L 0 (n - 1) _ (hI'.on HB.out) hl').mono ?_; rintro e w2 ⟨rfl, hb2⟩) | (first | (go_at_call 66; refine (l03Years_c _ _).mono ?_; rintro e w' ⟨rfl, rfl⟩)))
        go_ret2
        exact ⟨by rw [HV.out.1, HV.out.2]; rfl, btrans HB.out hb2⟩
      · have HV : Hid (ypV ys a L L.length n = (planL ys a L).1 ∧ ypC ys a L L.length n = 0) := by show _ ∧ _; simp [ypV, ypC, hok, hr, hri]
        have hL : Cuts L n.toNat := cuts_of (by rw [show ((n.toNat : Nat) : Int) = n by omega]; exact hri)
        have HC := Lib.hid hL
        clear hL
        go_enter Try.func25, Try.ntmps25
        go_wp2_with fail
        refine (bedOk_s w.heap.size 0 A c ys a _ (by simp) (by simp) (hI.on HB.out) hl).mono ?_
        rintro e w1 ⟨rfl, rfl⟩
        rw [hok]
        go_wp2_with (first | (go_at_call 66; refine (l03Years_c _ _).mono ?_; rintro e w' ⟨rfl, rfl⟩))
        refine (rises_s _ _ _ L 0 (n - 1) _ (hI'.on HB.out) hl').mono ?_
        rintro e w2 ⟨rfl, hb2⟩
        rw [hri]
        have HB2 := Lib.hid (btrans HB.out hb2)
        have K := (Blk.new w 41 #[.slice A ys.length c, .int .i64 a]).on hb2
        have Kl := K.lt
        have Kc0 := K.cell 0
        have Kf0 := K.frozen 0
        have Kc1 := K.cell 1
        have Kf1 := K.frozen 1
        simp at Kc0 Kc1
        have KH := Lib.hid K
        clear K
        clear hb2
        go_wp2_with fail
        go_loopw [8, 9] (fun s i wr => ∃ k q : Nat, k ≤ L.length ∧ i = .int .i64 k ∧ s = .int .i64 q ∧ Hid (q = bitsOf (L.take k)) ∧ q < 1048576 ∧ w2 = wr) (fun _ i _ => L.length - (intOf i).toNat)
        case atStart => exact ⟨0, 0, Nat.zero_le _, rfl, rfl, rfl, by omega, rfl⟩
        case round =>
          obtain ⟨k, q, hk, rfl, rfl, HQ, hq, rfl⟩ := hrel
          by_cases hlt : k < L.length
          · have hbd := HC.out.bd k hlt
            have HQ2 : Hid (bitsOf (L.take (k + 1)) = q ||| 2 ^ (gi L k).toNat) := by show _ = _; rw [take_snoc hlt, bitsOf_snoc, HQ.out]
            obtain ⟨b, off, rfl, hb', c0⟩ := (hI'.on HB2.out).at1 hlt
            generalize gi L k = x at *
            obtain ⟨y, rfl⟩ := Int.eq_ofNat_of_zero_le hbd.1
            have HO := or_bit q y hq (by omega)
            have hlt2 := or_lt q y hq (by omega)
            go_wp2_with fail
            go_roundw
            case rel =>
              have e := HQ2.out
              rw [Int.toNat_natCast] at e
              exact ⟨k + 1, q ||| 2 ^ y, by omega, by go_num, rfl, e.symm, hlt2, trivial⟩
            case measure => simp [intOf]; omega
          · obtain rfl : k = L.length := by omega
            obtain ⟨m, rfl⟩ := Int.eq_ofNat_of_zero_le (show 0 ≤ n by omega)
            have HP : Hid ((planS ys a (Nat.testBit q) m).1 = (planL ys a L).1) := by
              show _ = _
              have e := HQ.out
              rw [List.take_length] at e
              rw [e]
              exact plan_one HC.out
            go_wp2_with fail
            refine (plan_s w.heap.size 0 A c ys a q m _ (by simpa using Kc0) (by simpa using Kc1) (hI.on HB2.out) hok (by omega) hq).mono ?_
            rintro e w3 ⟨rfl, hb3⟩
            rw [HP.out]
            go_wp2
            go_ret2
            exact ⟨by rw [HV.out.1, HV.out.2]; rfl, btrans HB2.out hb3⟩
    · have HV : Hid (ypV ys a L L.length n = 0 ∧ ypC ys a L L.length n = 2) := by show _ ∧ _; simp [ypV, ypC, hok, hr]
      go_enter Try.func25, Try.ntmps25
      go_wp2_with fail
      refine (bedOk_s w.heap.size 0 A c ys a _ (by simp) (by simp) (hI.on HB.out) hl).mono ?_
      rintro e w1 ⟨rfl, rfl⟩
      rw [hok]
      go_wp2_with (first | (go_at_call 66; refine (l03Years_c _ _).mono ?_; rintro e w' ⟨rfl, rfl⟩))
      go_ret2
      exact ⟨by rw [HV.out.1, HV.out.2]; rfl, HB.out⟩

end Go.Proofs.Ytnlddplhaiceaaa
