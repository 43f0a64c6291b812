/-
  Areas, rods and weights at what the reference draws.
  No conditions.
-/
import Derived.Test.YtjdijimmbggigaaArea
import Derived.Test.YtjdijimmbggigaaWeight
import Derived.Test.YtjdijimmbggigaaDrawB
import Derived.WalkLawsBesides
import Derived.Laws.StructEq
namespace Go.Proofs.Ytjdijimmbggigaa
open Go.ChangeShapes Go.WideShapes Go.ChangeAt Go.RowKit Go.Deep

theorem fr_law (a b : Nat) (hb : 1 ≤ b) : fracN a b * (b : Int) = (a : Int) * fracD a b ∧ 0 ≤ fracN a b ∧ fracN a b ≤ a ∧ 1 ≤ fracD a b ∧ fracD a b ≤ b := by
  have hg : 0 < Nat.gcd a b := Nat.gcd_pos_of_pos_right a (by omega)
  obtain ⟨p, hp⟩ := Nat.gcd_dvd_left a b
  obtain ⟨q, hq⟩ := Nat.gcd_dvd_right a b
  have e1 : a / Nat.gcd a b = p := by
    have : Nat.gcd a b * p / Nat.gcd a b = p := Nat.mul_div_cancel_left p hg
    rwa [← hp] at this
  have e2 : b / Nat.gcd a b = q := by
    have : Nat.gcd a b * q / Nat.gcd a b = q := Nat.mul_div_cancel_left q hg
    rwa [← hq] at this
  have f1 : fracN a b = (p : Int) := by unfold fracN; rw [← Int.natCast_ediv, e1]
  have f2 : fracD a b = (q : Int) := by unfold fracD; rw [← Int.natCast_ediv, e2]
  have hq0 : 1 ≤ q := by
    rcases Nat.eq_zero_or_pos q with h | h
    · rw [h, Nat.mul_zero] at hq; omega
    · exact h
  have hpa : p ≤ a := by rw [← e1]; exact Nat.div_le_self _ _
  have hqb : q ≤ b := by rw [← e2]; exact Nat.div_le_self _ _
  refine ⟨?_, by omega, by omega, by omega, by omega⟩
  rw [f1, f2, ← Int.natCast_mul, ← Int.natCast_mul]
  congr 1
  calc p * b = p * (Nat.gcd a b * q) := by rw [← hq]
    _ = (Nat.gcd a b * p) * q := by rw [← Nat.mul_assoc, Nat.mul_comm p]
    _ = a * q := by rw [← hp]
/-- What holds of an area. -/
theorem area_law (g : Int) (h : inR g 10 2000 = true) : areaC g = 0 ∧ areaN g * 88 = 7 * g * g * areaD g ∧ 0 ≤ areaN g ∧ areaN g ≤ 28000000 ∧ 1 ≤ areaD g ∧ areaD g ≤ 88 ∧ 0 ≤ 7 * g * g ∧ 7 * g * g ≤ 28000000 ∧ 0 ≤ 7 * g * g * areaD g ∧ 7 * g * g * areaD g ≤ 28000000 * 88 := by
  have hg := inR_true h
  have b1 := sq_bd g 2000 (by omega) (by omega)
  have e1 := cmul_bd 7 g (by omega)
  have c1 : 0 ≤ 7 * g * g ∧ 7 * g * g ≤ 28000000 := by omega
  have hl := fr_law (7 * g * g).toNat 88 (by omega)
  have f1 : areaN g = fracN (7 * g * g).toNat 88 := by unfold areaN; rw [if_pos h]; rfl
  have f2 : areaD g = fracD (7 * g * g).toNat 88 := by unfold areaD; rw [if_pos h]; rfl
  rw [f1, f2]
  have e2 : ((7 * g * g).toNat : Int) = 7 * g * g := by omega
  rw [e2] at hl
  obtain ⟨l1, l2, l3, l4, l5⟩ := hl
  refine ⟨by unfold areaC; rw [if_pos h], l1, l2, by omega, l4, l5, c1.1, c1.2, Int.mul_nonneg c1.1 (by omega), Int.mul_le_mul c1.2 (by omega) (by omega) (by omega)⟩
theorem rodsB_mono (g t : Int) (hg : 0 ≤ g) (ht : 1 ≤ t) : rodsB g t ≤ rodsB (g + 1) t := by
  have hs := sq_pos t ht
  have e2 := cmul_bd 4840 t (by omega)
  have h1 : 0 < 4840 * t * t := by omega
  unfold rodsB
  refine Int.ediv_le_ediv h1 ?_
  have e3 := cmul_bd 44100 g (by omega)
  have e4 := cmul_bd 44100 (g + 1) (by omega)
  have e5 : (g + 1) * (g + 1) = g * g + 2 * g + 1 := by
    rw [Int.add_mul, Int.mul_add]; omega
  omega
/-- What the rods' first half asks. -/
theorem rods_cases {p : Prop} (a t : Int) (h0 : -1 ≤ a) (h1 : -1 ≤ t)
    (h2 : rodsV a t = (0, 2) → p)
    (h3 : ∀ r, rodsV a t = (r, 0) → ¬ a < 2000 → p)
    (h4 : ∀ r r', rodsV a t = (r, 0) → a < 2000 → rodsV (a + 1) t = (r', 0) → r ≤ r' → 10 ≤ a → p) : p := by
  unfold rodsV at h2 h3 h4
  rcases ha : inR a 10 2000 with _ | _
  · exact h2 (by simp [ha])
  · rcases ht : inR t 1 300 with _ | _
    · exact h2 (by simp [ht])
    · have a1 := inR_true ha
      have t1 := inR_true ht
      by_cases hlt : a < 2000
      · have ha2 : inR (a + 1) 10 2000 = true := by simp [inR]; omega
        exact h4 (rodsB a t) (rodsB (a + 1) t) (by simp [ha, ht]) hlt (by simp [ha2, ht]) (rodsB_mono a t (by omega) (by omega)) (by omega)
      · exact h3 (rodsB a t) (by simp [ha, ht]) hlt
set_option maxRecDepth 100000 in
set_option maxHeartbeats 8000000 in
theorem fnAreas_c (A : Option Addr) (n c : Nat) (w : World) (h : Octets w w.heap.size A n) :
    Calls Try.prog 10 #[.slice A n c] w fun e w' => e = .returned (.bool true) ∧ Below w.heap.size w w' := by
  have hn := h.le
  by_cases hbig : 4096 < n
  · have HB : Hid (decide (4096 < n) = true) := decide_eq_true hbig
    go_enter Try.func10, Try.ntmps10
    go_wp2_with fail
    refine (f6big_c _ _ _ _ hn).mono ?_
    rintro e w1 ⟨rfl, rfl⟩
    rw [HB.out]
    go_wp2
    go_ret
    exact ⟨rfl, Below.refl _ _⟩
  · have HB : Hid (decide (4096 < n) = false) := decide_eq_false hbig
    have HH := Lib.hid (fun w1 (hb : Below w.heap.size w w1) => h.below hb (Nat.le_refl _))
    go_enter Try.func10, Try.ntmps10
    go_wp2_with fail
    refine (f6big_c _ _ _ _ hn).mono ?_
    rintro e w1 ⟨rfl, rfl⟩
    rw [HB.out]
    go_wp2_with fail
    refine (DrawAreaOf_s A n c _ h).mono ?_
    rintro e w1 ⟨g, rfl, hg0, hg1, b1⟩
    rcases hgi : inR g 10 2000 with _ | _
    · have HC : Hid (areaC g = 2) := by show _ = _; unfold areaC; rw [hgi]; rfl
      clear hgi
      go_wp2_with fail
      refine (area_i g _).mono ?_
      rintro e w2 ⟨rfl, b2⟩
      rw [HC.out]
      have c2 := btrans b1 b2
      go_wp2_with fail
      refine (area_s g _).mono ?_
      rintro e w3 ⟨rfl, b3⟩
      rw [HC.out]
      have c3 := btrans (balloc c2 (.cells #[.int .i64 (areaN g), .int .i64 (areaD g)] 23)) b3
      have kF := (Blk.new w2 23 #[.int .i64 (areaN g), .int .i64 (areaD g)]).on b3
      go_wp2_with fail
      refine (DrawRodsIn_s A n c _ ((HH.out _ (balloc c3 _)).more (balloc c3 _).size)).mono ?_
      rintro e w4 ⟨a, t, rfl, ha0, ha1, ht0, ht1, b4⟩
      have c4 := btrans (balloc c3 (.cells #[.int .i64 (areaN g), .int .i64 (areaD g)] 23)) b4
      have kF4 := (kF.alloc (.cells #[.int .i64 (areaN g), .int .i64 (areaD g)] 23)).on b4
      have kG4 := (Blk.new w3 23 #[.int .i64 (areaN g), .int .i64 (areaD g)]).on b4
      refine rods_cases a t ha0 ht0 (fun hr => ?_) (fun r hr hlt => ?_) (fun r r' hr hlt hr' hle h10 => ?_)
      · have HR := Lib.hid hr
        clear hr
        go_wp2_with fail
        refine (rods_i _ _ _).mono ?_
        rintro e w5 ⟨rfl, rfl⟩
        rw [HR.out]
        go_wp2_with fail
        refine (rods_s _ _ _).mono ?_
        rintro e w5 ⟨rfl, rfl⟩
        rw [HR.out]
        go_wp2_with fail
        refine (DrawWeightOfLength_s A n c _ ((HH.out _ c4).more c4.size)).mono ?_
        rintro e w5 ⟨v, m, zs, x, rfl, hm, hx0, hx1, hd, b5⟩
        have c5 := btrans c4 b5
        obtain ⟨A3, cap3, rfl, i3⟩ := hd.ints
        clear hd
        have HI := Lib.hid i3
        clear i3
        go_wp2_with fail
        refine (weight_i A3 m cap3 zs x _ HI.out (by omega)).mono ?_
        rintro e w6 ⟨rfl, b6⟩
        go_wp2_with fail
        refine (weight_s A3 m cap3 zs x _ (HI.out.below b6 (Nat.le_refl _) |>.more b6.size) (by omega)).mono ?_
        rintro e w7 ⟨rfl, b7⟩
        have c7 := btrans c5 (btrans b6 b7)
        have F := ((kF4.on b5).on b6).on b7
        have Fl := F.lt
        have Fc0 := F.cell 0
        have Ff0 := F.frozen 0
        have Fc1 := F.cell 1
        have Ff1 := F.frozen 1
        simp at Fc0 Fc1
        have FH := Lib.hid F
        clear F
        have G := ((kG4.on b5).on b6).on b7
        have Gl := G.lt
        have Gc0 := G.cell 0
        have Gf0 := G.frozen 0
        have Gc1 := G.cell 1
        have Gf1 := G.frozen 1
        simp at Gc0 Gc1
        have GH := Lib.hid G
        clear G
        have HI7 := Lib.hid ((HI.out.below b6 (Nat.le_refl _) |>.more b6.size).below b7 (Nat.le_refl _) |>.more b7.size)
        rcases hok : okAll (bunchAt zs) m 30 with _ | _
        · have HW : Hid (wolC zs m x = 1) := by show _ = _; unfold wolC; rw [hok]; rfl
          clear hok
          rw [HW.out]
          go_wp2_with fail
          go_ret
          exact ⟨rfl, c7⟩
        · rcases hxl : inR x 100 3000 with _ | _
          · have HW : Hid (wolC zs m x = 2) := by show _ = _; unfold wolC; rw [hok, hxl]; rfl
            clear hok hxl
            rw [HW.out]
            go_wp2_with fail
            go_ret
            exact ⟨rfl, c7⟩
          · have HW : Hid (wolC zs m x = 0 ∧ wolV zs m x = sumTo (wolF zs x) m) := by show _ ∧ _; unfold wolC wolV; rw [hok, hxl]; exact ⟨rfl, rfl⟩
            have HO := Lib.hid hok
            clear hok hxl
            rw [HW.out.1]
            go_wp2_with fail
            go_loopw [22, 23] (fun s i wr => ∃ k : Nat, k ≤ m ∧ i = .int .i64 k ∧ s = .int .i64 (sumTo (wolF zs x) k) ∧ Below w.heap.size w wr ∧ Below w7.heap.size w7 wr) (fun _ i _ => m - (intOf i).toNat)
            case atStart => exact ⟨0, Nat.zero_le _, rfl, rfl, c7, Below.refl _ _⟩
            case round =>
              obtain ⟨k, hk, rfl, rfl, hbel, hb7⟩ := hrel
              have hs := wol_bd (l := x) HO.out k hk
              by_cases hlt : k < m
              · obtain ⟨b, off, rfl, hb, d0, d1, d2⟩ := (HI7.out.below hb7 (Nat.le_refl _)).at3 hlt
                have hwb := bunchOk_bd (okAll_get HO.out hlt)
                by_cases hq : gi zs (k * 3) = x
                · have HQ : Hid (sumTo (wolF zs x) (k + 1) = sumTo (wolF zs x) k + gi zs (k * 3 + 2)) := by show _ = _; rw [sumTo_succ, wolF, if_pos hq]
                  have hqb : (gi zs (k * 3) == x) = true := by rw [beq_iff_eq]; exact hq
                  clear hq
                  go_wp2_with fail
                  go_roundw
                  case rel => exact ⟨k + 1, by omega, by go_num, by rw [HQ.out], hbel, hb7⟩
                  case measure => simp [intOf]; omega
                · have HQ : Hid (sumTo (wolF zs x) (k + 1) = sumTo (wolF zs x) k) := by show _ = _; rw [sumTo_succ, wolF, if_neg hq]; omega
                  have hqb : (gi zs (k * 3) == x) = false := by rw [beq_eq_false_iff_ne]; exact hq
                  clear hq
                  go_wp2_with fail
                  go_roundw
                  case rel => exact ⟨k + 1, by omega, by go_num, by rw [HQ.out], hbel, hb7⟩
                  case measure => simp [intOf]; omega
              · obtain rfl : k = m := by omega
                go_wp2
                go_ret
                refine ⟨ret_bool ?_, hbel⟩
                rw [HW.out.2]
                simp
      · have HR := Lib.hid hr
        clear hr
        go_wp2_with fail
        refine (rods_i _ _ _).mono ?_
        rintro e w5 ⟨rfl, rfl⟩
        rw [HR.out]
        go_wp2_with fail
        refine (rods_s _ _ _).mono ?_
        rintro e w5 ⟨rfl, rfl⟩
        rw [HR.out]
        go_wp2_with fail
        refine (DrawWeightOfLength_s A n c _ ((HH.out _ c4).more c4.size)).mono ?_
        rintro e w5 ⟨v, m, zs, x, rfl, hm, hx0, hx1, hd, b5⟩
        have c5 := btrans c4 b5
        obtain ⟨A3, cap3, rfl, i3⟩ := hd.ints
        clear hd
        have HI := Lib.hid i3
        clear i3
        go_wp2_with fail
        refine (weight_i A3 m cap3 zs x _ HI.out (by omega)).mono ?_
        rintro e w6 ⟨rfl, b6⟩
        go_wp2_with fail
        refine (weight_s A3 m cap3 zs x _ (HI.out.below b6 (Nat.le_refl _) |>.more b6.size) (by omega)).mono ?_
        rintro e w7 ⟨rfl, b7⟩
        have c7 := btrans c5 (btrans b6 b7)
        have F := ((kF4.on b5).on b6).on b7
        have Fl := F.lt
        have Fc0 := F.cell 0
        have Ff0 := F.frozen 0
        have Fc1 := F.cell 1
        have Ff1 := F.frozen 1
        simp at Fc0 Fc1
        have FH := Lib.hid F
        clear F
        have G := ((kG4.on b5).on b6).on b7
        have Gl := G.lt
        have Gc0 := G.cell 0
        have Gf0 := G.frozen 0
        have Gc1 := G.cell 1
        have Gf1 := G.frozen 1
        simp at Gc0 Gc1
        have GH := Lib.hid G
        clear G
        have HI7 := Lib.hid ((HI.out.below b6 (Nat.le_refl _) |>.more b6.size).below b7 (Nat.le_refl _) |>.more b7.size)
        rcases hok : okAll (bunchAt zs) m 30 with _ | _
        · have HW : Hid (wolC zs m x = 1) := by show _ = _; unfold wolC; rw [hok]; rfl
          clear hok
          rw [HW.out]
          go_wp2_with fail
          go_ret
          exact ⟨rfl, c7⟩
        · rcases hxl : inR x 100 3000 with _ | _
          · have HW : Hid (wolC zs m x = 2) := by show _ = _; unfold wolC; rw [hok, hxl]; rfl
            clear hok hxl
            rw [HW.out]
            go_wp2_with fail
            go_ret
            exact ⟨rfl, c7⟩
          · have HW : Hid (wolC zs m x = 0 ∧ wolV zs m x = sumTo (wolF zs x) m) := by show _ ∧ _; unfold wolC wolV; rw [hok, hxl]; exact ⟨rfl, rfl⟩
            have HO := Lib.hid hok
            clear hok hxl
            rw [HW.out.1]
            go_wp2_with fail
            go_loopw [22, 23] (fun s i wr => ∃ k : Nat, k ≤ m ∧ i = .int .i64 k ∧ s = .int .i64 (sumTo (wolF zs x) k) ∧ Below w.heap.size w wr ∧ Below w7.heap.size w7 wr) (fun _ i _ => m - (intOf i).toNat)
            case atStart => exact ⟨0, Nat.zero_le _, rfl, rfl, c7, Below.refl _ _⟩
            case round =>
              obtain ⟨k, hk, rfl, rfl, hbel, hb7⟩ := hrel
              have hs := wol_bd (l := x) HO.out k hk
              by_cases hlt : k < m
              · obtain ⟨b, off, rfl, hb, d0, d1, d2⟩ := (HI7.out.below hb7 (Nat.le_refl _)).at3 hlt
                have hwb := bunchOk_bd (okAll_get HO.out hlt)
                by_cases hq : gi zs (k * 3) = x
                · have HQ : Hid (sumTo (wolF zs x) (k + 1) = sumTo (wolF zs x) k + gi zs (k * 3 + 2)) := by show _ = _; rw [sumTo_succ, wolF, if_pos hq]
                  have hqb : (gi zs (k * 3) == x) = true := by rw [beq_iff_eq]; exact hq
                  clear hq
                  go_wp2_with fail
                  go_roundw
                  case rel => exact ⟨k + 1, by omega, by go_num, by rw [HQ.out], hbel, hb7⟩
                  case measure => simp [intOf]; omega
                · have HQ : Hid (sumTo (wolF zs x) (k + 1) = sumTo (wolF zs x) k) := by show _ = _; rw [sumTo_succ, wolF, if_neg hq]; omega
                  have hqb : (gi zs (k * 3) == x) = false := by rw [beq_eq_false_iff_ne]; exact hq
                  clear hq
                  go_wp2_with fail
                  go_roundw
                  case rel => exact ⟨k + 1, by omega, by go_num, by rw [HQ.out], hbel, hb7⟩
                  case measure => simp [intOf]; omega
              · obtain rfl : k = m := by omega
                go_wp2
                go_ret
                refine ⟨ret_bool ?_, hbel⟩
                rw [HW.out.2]
                simp
      · have HR := Lib.hid hr
        have HR' := Lib.hid hr'
        have hle' : ¬ r' < r := by omega
        clear hr'
        clear hr
        go_wp2_with fail
        refine (rods_i _ _ _).mono ?_
        rintro e w5 ⟨rfl, rfl⟩
        rw [HR.out]
        go_wp2_with fail
        refine (rods_s _ _ _).mono ?_
        rintro e w5 ⟨rfl, rfl⟩
        rw [HR.out]
        go_wp2_with fail
        refine (DrawWeightOfLength_s A n c _ ((HH.out _ c4).more c4.size)).mono ?_
        rintro e w5 ⟨v, m, zs, x, rfl, hm, hx0, hx1, hd, b5⟩
        have c5 := btrans c4 b5
        obtain ⟨A3, cap3, rfl, i3⟩ := hd.ints
        clear hd
        have HI := Lib.hid i3
        clear i3
        go_wp2_with fail
        refine (weight_i A3 m cap3 zs x _ HI.out (by omega)).mono ?_
        rintro e w6 ⟨rfl, b6⟩
        go_wp2_with fail
        refine (weight_s A3 m cap3 zs x _ (HI.out.below b6 (Nat.le_refl _) |>.more b6.size) (by omega)).mono ?_
        rintro e w7 ⟨rfl, b7⟩
        have c7 := btrans c5 (btrans b6 b7)
        have F := ((kF4.on b5).on b6).on b7
        have Fl := F.lt
        have Fc0 := F.cell 0
        have Ff0 := F.frozen 0
        have Fc1 := F.cell 1
        have Ff1 := F.frozen 1
        simp at Fc0 Fc1
        have FH := Lib.hid F
        clear F
        have G := ((kG4.on b5).on b6).on b7
        have Gl := G.lt
        have Gc0 := G.cell 0
        have Gf0 := G.frozen 0
        have Gc1 := G.cell 1
        have Gf1 := G.frozen 1
        simp at Gc0 Gc1
        have GH := Lib.hid G
        clear G
        have HI7 := Lib.hid ((HI.out.below b6 (Nat.le_refl _) |>.more b6.size).below b7 (Nat.le_refl _) |>.more b7.size)
        rcases hok : okAll (bunchAt zs) m 30 with _ | _
        · have HW : Hid (wolC zs m x = 1) := by show _ = _; unfold wolC; rw [hok]; rfl
          clear hok
          rw [HW.out]
          go_wp2_with fail
          refine (rods_i _ _ _).mono ?_
          rintro e w8 ⟨rfl, rfl⟩
          rw [HR'.out]
          go_wp2_with fail
          go_ret
          exact ⟨rfl, c7⟩
        · rcases hxl : inR x 100 3000 with _ | _
          · have HW : Hid (wolC zs m x = 2) := by show _ = _; unfold wolC; rw [hok, hxl]; rfl
            clear hok hxl
            rw [HW.out]
            go_wp2_with fail
            refine (rods_i _ _ _).mono ?_
            rintro e w8 ⟨rfl, rfl⟩
            rw [HR'.out]
            go_wp2_with fail
            go_ret
            exact ⟨rfl, c7⟩
          · have HW : Hid (wolC zs m x = 0 ∧ wolV zs m x = sumTo (wolF zs x) m) := by show _ ∧ _; unfold wolC wolV; rw [hok, hxl]; exact ⟨rfl, rfl⟩
            have HO := Lib.hid hok
            clear hok hxl
            rw [HW.out.1]
            go_wp2_with fail
            refine (rods_i _ _ _).mono ?_
            rintro e w8 ⟨rfl, rfl⟩
            rw [HR'.out]
            go_wp2_with fail
            go_loopw [22, 23] (fun s i wr => ∃ k : Nat, k ≤ m ∧ i = .int .i64 k ∧ s = .int .i64 (sumTo (wolF zs x) k) ∧ Below w.heap.size w wr ∧ Below w7.heap.size w7 wr) (fun _ i _ => m - (intOf i).toNat)
            case atStart => exact ⟨0, Nat.zero_le _, rfl, rfl, c7, Below.refl _ _⟩
            case round =>
              obtain ⟨k, hk, rfl, rfl, hbel, hb7⟩ := hrel
              have hs := wol_bd (l := x) HO.out k hk
              by_cases hlt : k < m
              · obtain ⟨b, off, rfl, hb, d0, d1, d2⟩ := (HI7.out.below hb7 (Nat.le_refl _)).at3 hlt
                have hwb := bunchOk_bd (okAll_get HO.out hlt)
                by_cases hq : gi zs (k * 3) = x
                · have HQ : Hid (sumTo (wolF zs x) (k + 1) = sumTo (wolF zs x) k + gi zs (k * 3 + 2)) := by show _ = _; rw [sumTo_succ, wolF, if_pos hq]
                  have hqb : (gi zs (k * 3) == x) = true := by rw [beq_iff_eq]; exact hq
                  clear hq
                  go_wp2_with fail
                  go_roundw
                  case rel => exact ⟨k + 1, by omega, by go_num, by rw [HQ.out], hbel, hb7⟩
                  case measure => simp [intOf]; omega
                · have HQ : Hid (sumTo (wolF zs x) (k + 1) = sumTo (wolF zs x) k) := by show _ = _; rw [sumTo_succ, wolF, if_neg hq]; omega
                  have hqb : (gi zs (k * 3) == x) = false := by rw [beq_eq_false_iff_ne]; exact hq
                  clear hq
                  go_wp2_with fail
                  go_roundw
                  case rel => exact ⟨k + 1, by omega, by go_num, by rw [HQ.out], hbel, hb7⟩
                  case measure => simp [intOf]; omega
              · obtain rfl : k = m := by omega
                go_wp2
                go_ret
                refine ⟨ret_bool ?_, hbel⟩
                rw [HW.out.2]
                simp
    · obtain ⟨l1, l2, l3, l4, l5, l6, l7, l8, l9, l10⟩ := area_law g hgi
      have HC := Lib.hid l1
      have hne : (areaN g * 88 != 7 * g * g * areaD g) = false := by rw [bne_eq_false_iff_eq]; exact l2
      clear l1 l2
      clear hgi
      go_wp2_with fail
      refine (area_i g _).mono ?_
      rintro e w2 ⟨rfl, b2⟩
      rw [HC.out]
      have c2 := btrans b1 b2
      go_wp2_with fail
      refine (area_s g _).mono ?_
      rintro e w3 ⟨rfl, b3⟩
      rw [HC.out]
      have c3 := btrans (balloc c2 (.cells #[.int .i64 (areaN g), .int .i64 (areaD g)] 23)) b3
      have kF := (Blk.new w2 23 #[.int .i64 (areaN g), .int .i64 (areaD g)]).on b3
      go_wp2_with fail
      refine (DrawRodsIn_s A n c _ ((HH.out _ (balloc c3 _)).more (balloc c3 _).size)).mono ?_
      rintro e w4 ⟨a, t, rfl, ha0, ha1, ht0, ht1, b4⟩
      have c4 := btrans (balloc c3 (.cells #[.int .i64 (areaN g), .int .i64 (areaD g)] 23)) b4
      have kF4 := (kF.alloc (.cells #[.int .i64 (areaN g), .int .i64 (areaD g)] 23)).on b4
      have kG4 := (Blk.new w3 23 #[.int .i64 (areaN g), .int .i64 (areaD g)]).on b4
      refine rods_cases a t ha0 ht0 (fun hr => ?_) (fun r hr hlt => ?_) (fun r r' hr hlt hr' hle h10 => ?_)
      · have HR := Lib.hid hr
        clear hr
        go_wp2_with fail
        refine (rods_i _ _ _).mono ?_
        rintro e w5 ⟨rfl, rfl⟩
        rw [HR.out]
        go_wp2_with fail
        refine (rods_s _ _ _).mono ?_
        rintro e w5 ⟨rfl, rfl⟩
        rw [HR.out]
        go_wp2_with fail
        refine (DrawWeightOfLength_s A n c _ ((HH.out _ c4).more c4.size)).mono ?_
        rintro e w5 ⟨v, m, zs, x, rfl, hm, hx0, hx1, hd, b5⟩
        have c5 := btrans c4 b5
        obtain ⟨A3, cap3, rfl, i3⟩ := hd.ints
        clear hd
        have HI := Lib.hid i3
        clear i3
        go_wp2_with fail
        refine (weight_i A3 m cap3 zs x _ HI.out (by omega)).mono ?_
        rintro e w6 ⟨rfl, b6⟩
        go_wp2_with fail
        refine (weight_s A3 m cap3 zs x _ (HI.out.below b6 (Nat.le_refl _) |>.more b6.size) (by omega)).mono ?_
        rintro e w7 ⟨rfl, b7⟩
        have c7 := btrans c5 (btrans b6 b7)
        have F := ((kF4.on b5).on b6).on b7
        have Fl := F.lt
        have Fc0 := F.cell 0
        have Ff0 := F.frozen 0
        have Fc1 := F.cell 1
        have Ff1 := F.frozen 1
        simp at Fc0 Fc1
        have FH := Lib.hid F
        clear F
        have G := ((kG4.on b5).on b6).on b7
        have Gl := G.lt
        have Gc0 := G.cell 0
        have Gf0 := G.frozen 0
        have Gc1 := G.cell 1
        have Gf1 := G.frozen 1
        simp at Gc0 Gc1
        have GH := Lib.hid G
        clear G
        have HI7 := Lib.hid ((HI.out.below b6 (Nat.le_refl _) |>.more b6.size).below b7 (Nat.le_refl _) |>.more b7.size)
        rcases hok : okAll (bunchAt zs) m 30 with _ | _
        · have HW : Hid (wolC zs m x = 1) := by show _ = _; unfold wolC; rw [hok]; rfl
          clear hok
          rw [HW.out]
          go_wp2_with fail
          go_ret
          exact ⟨rfl, c7⟩
        · rcases hxl : inR x 100 3000 with _ | _
          · have HW : Hid (wolC zs m x = 2) := by show _ = _; unfold wolC; rw [hok, hxl]; rfl
            clear hok hxl
            rw [HW.out]
            go_wp2_with fail
            go_ret
            exact ⟨rfl, c7⟩
          · have HW : Hid (wolC zs m x = 0 ∧ wolV zs m x = sumTo (wolF zs x) m) := by show _ ∧ _; unfold wolC wolV; rw [hok, hxl]; exact ⟨rfl, rfl⟩
            have HO := Lib.hid hok
            clear hok hxl
            rw [HW.out.1]
            go_wp2_with fail
            go_loopw [22, 23] (fun s i wr => ∃ k : Nat, k ≤ m ∧ i = .int .i64 k ∧ s = .int .i64 (sumTo (wolF zs x) k) ∧ Below w.heap.size w wr ∧ Below w7.heap.size w7 wr) (fun _ i _ => m - (intOf i).toNat)
            case atStart => exact ⟨0, Nat.zero_le _, rfl, rfl, c7, Below.refl _ _⟩
            case round =>
              obtain ⟨k, hk, rfl, rfl, hbel, hb7⟩ := hrel
              have hs := wol_bd (l := x) HO.out k hk
              by_cases hlt : k < m
              · obtain ⟨b, off, rfl, hb, d0, d1, d2⟩ := (HI7.out.below hb7 (Nat.le_refl _)).at3 hlt
                have hwb := bunchOk_bd (okAll_get HO.out hlt)
                by_cases hq : gi zs (k * 3) = x
                · have HQ : Hid (sumTo (wolF zs x) (k + 1) = sumTo (wolF zs x) k + gi zs (k * 3 + 2)) := by show _ = _; rw [sumTo_succ, wolF, if_pos hq]
                  have hqb : (gi zs (k * 3) == x) = true := by rw [beq_iff_eq]; exact hq
                  clear hq
                  go_wp2_with fail
                  go_roundw
                  case rel => exact ⟨k + 1, by omega, by go_num, by rw [HQ.out], hbel, hb7⟩
                  case measure => simp [intOf]; omega
                · have HQ : Hid (sumTo (wolF zs x) (k + 1) = sumTo (wolF zs x) k) := by show _ = _; rw [sumTo_succ, wolF, if_neg hq]; omega
                  have hqb : (gi zs (k * 3) == x) = false := by rw [beq_eq_false_iff_ne]; exact hq
                  clear hq
                  go_wp2_with fail
                  go_roundw
                  case rel => exact ⟨k + 1, by omega, by go_num, by rw [HQ.out], hbel, hb7⟩
                  case measure => simp [intOf]; omega
              · obtain rfl : k = m := by omega
                go_wp2
                go_ret
                refine ⟨ret_bool ?_, hbel⟩
                rw [HW.out.2]
                simp
      · have HR := Lib.hid hr
        clear hr
        go_wp2_with fail
        refine (rods_i _ _ _).mono ?_
        rintro e w5 ⟨rfl, rfl⟩
        rw [HR.out]
        go_wp2_with fail
        refine (rods_s _ _ _).mono ?_
        rintro e w5 ⟨rfl, rfl⟩
        rw [HR.out]
        go_wp2_with fail
        refine (DrawWeightOfLength_s A n c _ ((HH.out _ c4).more c4.size)).mono ?_
        rintro e w5 ⟨v, m, zs, x, rfl, hm, hx0, hx1, hd, b5⟩
        have c5 := btrans c4 b5
        obtain ⟨A3, cap3, rfl, i3⟩ := hd.ints
        clear hd
        have HI := Lib.hid i3
        clear i3
        go_wp2_with fail
        refine (weight_i A3 m cap3 zs x _ HI.out (by omega)).mono ?_
        rintro e w6 ⟨rfl, b6⟩
        go_wp2_with fail
        refine (weight_s A3 m cap3 zs x _ (HI.out.below b6 (Nat.le_refl _) |>.more b6.size) (by omega)).mono ?_
        rintro e w7 ⟨rfl, b7⟩
        have c7 := btrans c5 (btrans b6 b7)
        have F := ((kF4.on b5).on b6).on b7
        have Fl := F.lt
        have Fc0 := F.cell 0
        have Ff0 := F.frozen 0
        have Fc1 := F.cell 1
        have Ff1 := F.frozen 1
        simp at Fc0 Fc1
        have FH := Lib.hid F
        clear F
        have G := ((kG4.on b5).on b6).on b7
        have Gl := G.lt
        have Gc0 := G.cell 0
        have Gf0 := G.frozen 0
        have Gc1 := G.cell 1
        have Gf1 := G.frozen 1
        simp at Gc0 Gc1
        have GH := Lib.hid G
        clear G
        have HI7 := Lib.hid ((HI.out.below b6 (Nat.le_refl _) |>.more b6.size).below b7 (Nat.le_refl _) |>.more b7.size)
        rcases hok : okAll (bunchAt zs) m 30 with _ | _
        · have HW : Hid (wolC zs m x = 1) := by show _ = _; unfold wolC; rw [hok]; rfl
          clear hok
          rw [HW.out]
          go_wp2_with fail
          go_ret
          exact ⟨rfl, c7⟩
        · rcases hxl : inR x 100 3000 with _ | _
          · have HW : Hid (wolC zs m x = 2) := by show _ = _; unfold wolC; rw [hok, hxl]; rfl
            clear hok hxl
            rw [HW.out]
            go_wp2_with fail
            go_ret
            exact ⟨rfl, c7⟩
          · have HW : Hid (wolC zs m x = 0 ∧ wolV zs m x = sumTo (wolF zs x) m) := by show _ ∧ _; unfold wolC wolV; rw [hok, hxl]; exact ⟨rfl, rfl⟩
            have HO := Lib.hid hok
            clear hok hxl
            rw [HW.out.1]
            go_wp2_with fail
            go_loopw [22, 23] (fun s i wr => ∃ k : Nat, k ≤ m ∧ i = .int .i64 k ∧ s = .int .i64 (sumTo (wolF zs x) k) ∧ Below w.heap.size w wr ∧ Below w7.heap.size w7 wr) (fun _ i _ => m - (intOf i).toNat)
            case atStart => exact ⟨0, Nat.zero_le _, rfl, rfl, c7, Below.refl _ _⟩
            case round =>
              obtain ⟨k, hk, rfl, rfl, hbel, hb7⟩ := hrel
              have hs := wol_bd (l := x) HO.out k hk
              by_cases hlt : k < m
              · obtain ⟨b, off, rfl, hb, d0, d1, d2⟩ := (HI7.out.below hb7 (Nat.le_refl _)).at3 hlt
                have hwb := bunchOk_bd (okAll_get HO.out hlt)
                by_cases hq : gi zs (k * 3) = x
                · have HQ : Hid (sumTo (wolF zs x) (k + 1) = sumTo (wolF zs x) k + gi zs (k * 3 + 2)) := by show _ = _; rw [sumTo_succ, wolF, if_pos hq]
                  have hqb : (gi zs (k * 3) == x) = true := by rw [beq_iff_eq]; exact hq
                  clear hq
                  go_wp2_with fail
                  go_roundw
                  case rel => exact ⟨k + 1, by omega, by go_num, by rw [HQ.out], hbel, hb7⟩
                  case measure => simp [intOf]; omega
                · have HQ : Hid (sumTo (wolF zs x) (k + 1) = sumTo (wolF zs x) k) := by show _ = _; rw [sumTo_succ, wolF, if_neg hq]; omega
                  have hqb : (gi zs (k * 3) == x) = false := by rw [beq_eq_false_iff_ne]; exact hq
                  clear hq
                  go_wp2_with fail
                  go_roundw
                  case rel => exact ⟨k + 1, by omega, by go_num, by rw [HQ.out], hbel, hb7⟩
                  case measure => simp [intOf]; omega
              · obtain rfl : k = m := by omega
                go_wp2
                go_ret
                refine ⟨ret_bool ?_, hbel⟩
                rw [HW.out.2]
                simp
      · have HR := Lib.hid hr
        have HR' := Lib.hid hr'
        have hle' : ¬ r' < r := by omega
        clear hr'
        clear hr
        go_wp2_with fail
        refine (rods_i _ _ _).mono ?_
        rintro e w5 ⟨rfl, rfl⟩
        rw [HR.out]
        go_wp2_with fail
        refine (rods_s _ _ _).mono ?_
        rintro e w5 ⟨rfl, rfl⟩
        rw [HR.out]
        go_wp2_with fail
        refine (DrawWeightOfLength_s A n c _ ((HH.out _ c4).more c4.size)).mono ?_
        rintro e w5 ⟨v, m, zs, x, rfl, hm, hx0, hx1, hd, b5⟩
        have c5 := btrans c4 b5
        obtain ⟨A3, cap3, rfl, i3⟩ := hd.ints
        clear hd
        have HI := Lib.hid i3
        clear i3
        go_wp2_with fail
        refine (weight_i A3 m cap3 zs x _ HI.out (by omega)).mono ?_
        rintro e w6 ⟨rfl, b6⟩
        go_wp2_with fail
        refine (weight_s A3 m cap3 zs x _ (HI.out.below b6 (Nat.le_refl _) |>.more b6.size) (by omega)).mono ?_
        rintro e w7 ⟨rfl, b7⟩
        have c7 := btrans c5 (btrans b6 b7)
        have F := ((kF4.on b5).on b6).on b7
        have Fl := F.lt
        have Fc0 := F.cell 0
        have Ff0 := F.frozen 0
        have Fc1 := F.cell 1
        have Ff1 := F.frozen 1
        simp at Fc0 Fc1
        have FH := Lib.hid F
        clear F
        have G := ((kG4.on b5).on b6).on b7
        have Gl := G.lt
        have Gc0 := G.cell 0
        have Gf0 := G.frozen 0
        have Gc1 := G.cell 1
        have Gf1 := G.frozen 1
        simp at Gc0 Gc1
        have GH := Lib.hid G
        clear G
        have HI7 := Lib.hid ((HI.out.below b6 (Nat.le_refl _) |>.more b6.size).below b7 (Nat.le_refl _) |>.more b7.size)
        rcases hok : okAll (bunchAt zs) m 30 with _ | _
        · have HW : Hid (wolC zs m x = 1) := by show _ = _; unfold wolC; rw [hok]; rfl
          clear hok
          rw [HW.out]
          go_wp2_with fail
          refine (rods_i _ _ _).mono ?_
          rintro e w8 ⟨rfl, rfl⟩
          rw [HR'.out]
          go_wp2_with fail
          go_ret
          exact ⟨rfl, c7⟩
        · rcases hxl : inR x 100 3000 with _ | _
          · have HW : Hid (wolC zs m x = 2) := by show _ = _; unfold wolC; rw [hok, hxl]; rfl
            clear hok hxl
            rw [HW.out]
            go_wp2_with fail
            refine (rods_i _ _ _).mono ?_
            rintro e w8 ⟨rfl, rfl⟩
            rw [HR'.out]
            go_wp2_with fail
            go_ret
            exact ⟨rfl, c7⟩
          · have HW : Hid (wolC zs m x = 0 ∧ wolV zs m x = sumTo (wolF zs x) m) := by show _ ∧ _; unfold wolC wolV; rw [hok, hxl]; exact ⟨rfl, rfl⟩
            have HO := Lib.hid hok
            clear hok hxl
            rw [HW.out.1]
            go_wp2_with fail
            refine (rods_i _ _ _).mono ?_
            rintro e w8 ⟨rfl, rfl⟩
            rw [HR'.out]
            go_wp2_with fail
            go_loopw [22, 23] (fun s i wr => ∃ k : Nat, k ≤ m ∧ i = .int .i64 k ∧ s = .int .i64 (sumTo (wolF zs x) k) ∧ Below w.heap.size w wr ∧ Below w7.heap.size w7 wr) (fun _ i _ => m - (intOf i).toNat)
            case atStart => exact ⟨0, Nat.zero_le _, rfl, rfl, c7, Below.refl _ _⟩
            case round =>
              obtain ⟨k, hk, rfl, rfl, hbel, hb7⟩ := hrel
              have hs := wol_bd (l := x) HO.out k hk
              by_cases hlt : k < m
              · obtain ⟨b, off, rfl, hb, d0, d1, d2⟩ := (HI7.out.below hb7 (Nat.le_refl _)).at3 hlt
                have hwb := bunchOk_bd (okAll_get HO.out hlt)
                by_cases hq : gi zs (k * 3) = x
                · have HQ : Hid (sumTo (wolF zs x) (k + 1) = sumTo (wolF zs x) k + gi zs (k * 3 + 2)) := by show _ = _; rw [sumTo_succ, wolF, if_pos hq]
                  have hqb : (gi zs (k * 3) == x) = true := by rw [beq_iff_eq]; exact hq
                  clear hq
                  go_wp2_with fail
                  go_roundw
                  case rel => exact ⟨k + 1, by omega, by go_num, by rw [HQ.out], hbel, hb7⟩
                  case measure => simp [intOf]; omega
                · have HQ : Hid (sumTo (wolF zs x) (k + 1) = sumTo (wolF zs x) k) := by show _ = _; rw [sumTo_succ, wolF, if_neg hq]; omega
                  have hqb : (gi zs (k * 3) == x) = false := by rw [beq_eq_false_iff_ne]; exact hq
                  clear hq
                  go_wp2_with fail
                  go_roundw
                  case rel => exact ⟨k + 1, by omega, by go_num, by rw [HQ.out], hbel, hb7⟩
                  case measure => simp [intOf]; omega
              · obtain rfl : k = m := by omega
                go_wp2
                go_ret
                refine ⟨ret_bool ?_, hbel⟩
                rw [HW.out.2]
                simp
end Go.Proofs.Ytjdijimmbggigaa
