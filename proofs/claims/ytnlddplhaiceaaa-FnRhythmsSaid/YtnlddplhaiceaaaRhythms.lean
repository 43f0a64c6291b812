/-
  FnRhythms at what the reference draws.
  No conditions.
-/
import Derived.Test.YtnlddplhaiceaaaSameW
import Derived.Laws.StructEq
namespace Go.Proofs.Ytnlddplhaiceaaa
open Go.ChangeShapes Go.WideShapes Go.ChangeAt Go.RowKit Go.Deep
set_option linter.unusedVariables false

theorem fr_cancel (a b : Nat) (hb : 1 ≤ b) : ∃ g : Int, 0 < g ∧ fracN a b * g = a ∧ fracD a b * g = b ∧ 0 ≤ fracN a b ∧ fracN a b ≤ a ∧ 1 ≤ fracD a b ∧ fracD a b ≤ b := by
  have hg : 0 < Nat.gcd a b := Nat.gcd_pos_of_pos_right a (by omega)
  have e1 : fracN a b = ((a / Nat.gcd a b : Nat) : Int) := by unfold fracN; norm_cast
  have e2 : fracD a b = ((b / Nat.gcd a b : Nat) : Int) := by unfold fracD; norm_cast
  have m1 := Nat.div_mul_cancel (Nat.gcd_dvd_left a b)
  have m2 := Nat.div_mul_cancel (Nat.gcd_dvd_right a b)
  have l1 := Nat.div_le_self a (Nat.gcd a b)
  have l2 := Nat.div_le_self b (Nat.gcd a b)
  have l3 : 1 ≤ b / Nat.gcd a b := Nat.div_pos (Nat.le_of_dvd (by omega) (Nat.gcd_dvd_right a b)) hg
  rw [e1, e2]
  generalize a / Nat.gcd a b = p at *
  generalize b / Nat.gcd a b = q at *
  generalize Nat.gcd a b = g at *
  exact ⟨(g : Int), by omega, by exact_mod_cast m1, by exact_mod_cast m2, by omega, by omega, by omega, by omega⟩
theorem rh_frac {ys : List Int} {a : Int} (h : rhC ys a = 0) : (1 ≤ ys.length ∧ ys.length ≤ 5) ∧ (0 ≤ rhN ys a ∧ rhN ys a ≤ 10000) ∧ (1 ≤ rhD ys a ∧ rhD ys a ≤ 5) ∧ ∀ i, i < ys.length → (0 ≤ gi ys i ∧ gi ys i ≤ 10000) ∧ gi ys i * rhD ys a ≤ rhN ys a * ((i : Int) + 1) := by
  unfold rhC at h
  split at h
  · next hok =>
    have hb := bedOk_bd hok
    have hbest := rhTo_bd ys ys.length
    have hyb := yfor_bd (k := (rhTo ys ys.length : Int)) hb.2.2.2.2 hb.1 (by omega)
    have hy : ∀ k : Nat, 0 ≤ yfor ys k := fun k => (yfor_bd (k := (k : Int)) hb.2.2.2.2 hb.1 (by omega)).1
    obtain ⟨A, hA⟩ := Int.eq_ofNat_of_zero_le hyb.1
    have hB : rhTo ys ys.length ≤ ys.length := by have := hb.1; omega
    obtain ⟨g, hg, hN, hD, n0, n1, d0, d1⟩ := fr_cancel A (rhTo ys ys.length) hbest.1
    have eN : rhN ys a = fracN A (rhTo ys ys.length) := by simp [rhN, hok, frN, hA]
    have eD : rhD ys a = fracD A (rhTo ys ys.length) := by simp [rhD, hok, frD, hA]
    rw [eN, eD]
    refine ⟨⟨hb.1, hb.2.1⟩, ⟨n0, by omega⟩, ⟨d0, by omega⟩, fun i hi => ⟨hb.2.2.2.2 i hi, ?_⟩⟩
    have hr := rh_best hy ys.length (i + 1) (by omega) (by omega)
    rw [yfor_in (by omega) (by omega), Nat.add_sub_cancel, hA] at hr
    have := frac_le (k := i + 1) hg hN hD hr
    have e : ((i + 1 : Nat) : Int) = (i : Int) + 1 := by omega
    rwa [e] at this
  · cases h
theorem eqZ_refl (zs : List Int) : eqZ zs zs = true := eqZ_end rfl (fun _ _ => rfl)
theorem sameBs_refl (bs : Nat → List Int × Int) (n : Nat) : sameBs bs bs n n = true := sameBs_end (fun j _ => by unfold sameAt; rw [eqZ_refl]; simp)

set_option maxRecDepth 100000 in
set_option maxHeartbeats 16000000 in
theorem fnRhythms_c (A : Option Addr) (n c : Nat) (w : World) (h : Octets w w.heap.size A n) :
    Calls Try.prog 6 #[.slice A n c] w fun e w' => e = .returned (.bool true) ∧ Below w.heap.size w w' := by
  have hn := h.le
  by_cases hbig : 4096 < n
  · have hd : decide (4096 < n) = true := by simpa using hbig
    go_enter Try.func6, Try.ntmps6
    go_wp2_with fail
    refine (f6big_c A n c _ hn).mono ?_
    rintro e w0 ⟨rfl, rfl⟩
    rw [hd]
    go_wp2
    go_ret
    exact ⟨rfl, Below.refl _ _⟩
  have hd : decide (4096 < n) = false := by simpa using hbig
  have HOC := Lib.hid (fun w1 (hb : Below w.heap.size w w1) => (h.below hb (Nat.le_refl _)).more hb.size)
  clear h
  go_enter Try.func6, Try.ntmps6
  go_wp2_with fail
  refine (f6big_c A n c _ hn).mono ?_
  rintro e w0 ⟨rfl, rfl⟩
  rw [hd]
  clear hd hbig
  have c0 := Below.refl w.heap.size w
  go_wp2_with fail
  (with_reducible refine (draw_brh A n c _ (HOC.out _ c0)).mono ?_)
  rintro e w1 ⟨zb, ab, gb, kb, rfl, vb, b1⟩
  have c1 := btrans c0 b1
  have HBb : Hid (∀ w', Below (w1.alloc (.cells #[.slice (some ⟨gb, 0, none⟩) zb.length kb, .int .i64 ab] 41)).heap.size (w1.alloc (.cells #[.slice (some ⟨gb, 0, none⟩) zb.length kb, .int .i64 ab] 41)) w' → Blk w' w1.heap.size 41 #[.slice (some ⟨gb, 0, none⟩) zb.length kb, .int .i64 ab] ∧ BedV w' zb ab gb kb) := fun w' hb => ⟨(Blk.new w1 _ _).on hb, (vb.on (balloc (Below.refl _ w1) _)).on hb⟩
  have hlb : zb.length ≤ 1048576 := by have := vb.len; omega
  have db := Below.refl (w1.alloc (.cells #[.slice (some ⟨gb, 0, none⟩) zb.length kb, .int .i64 ab] 41)).heap.size (w1.alloc (.cells #[.slice (some ⟨gb, 0, none⟩) zb.length kb, .int .i64 ab] 41))
  have c1 := btrans c1 (balloc (Below.refl _ w1) (.cells #[.slice (some ⟨gb, 0, none⟩) zb.length kb, .int .i64 ab] 41))
  clear vb
  go_wp2_with fail
  (with_reducible refine (rhythm_i _ _ zb ab _ (HBb.out _ db).2.ints hlb).mono ?_)
  rintro e w2 ⟨rfl, b2⟩
  have c2 := btrans c1 b2
  replace db := btrans db b2
  have HBf : Hid (∀ w', Below (w2.alloc (.cells #[.int .i64 (rhN zb ab), .int .i64 (rhD zb ab)] 56)).heap.size (w2.alloc (.cells #[.int .i64 (rhN zb ab), .int .i64 (rhD zb ab)] 56)) w' → Blk w' w2.heap.size 56 #[.int .i64 (rhN zb ab), .int .i64 (rhD zb ab)]) := fun w' hb => (Blk.new w2 _ _).on hb
  have df := Below.refl (w2.alloc (.cells #[.int .i64 (rhN zb ab), .int .i64 (rhD zb ab)] 56)).heap.size (w2.alloc (.cells #[.int .i64 (rhN zb ab), .int .i64 (rhD zb ab)] 56))
  have c2 := btrans c2 (balloc (Below.refl _ w2) (.cells #[.int .i64 (rhN zb ab), .int .i64 (rhD zb ab)] 56))
  replace db := btrans db (balloc (Below.refl _ w2) (.cells #[.int .i64 (rhN zb ab), .int .i64 (rhD zb ab)] 56))
  have BB := (HBb.out _ db).1
  have BBl := BB.lt
  have BBc0 := BB.cell 0
  have BBf0 := BB.frozen 0
  have BBc1 := BB.cell 1
  have BBf1 := BB.frozen 1
  simp at BBc0 BBc1
  have BBH := Lib.hid BB
  clear BB
  go_wp2_with fail
  (with_reducible refine (rhythm_s _ _ zb ab _ (HBb.out _ db).2.ints hlb).mono ?_)
  rintro e w3 ⟨rfl, b3⟩
  clear BBc0 BBc1 BBf0 BBf1 BBl BBH
  have c3 := btrans c2 b3
  replace db := btrans db b3
  replace df := btrans df b3
  have HBe : Hid (∀ w', Below (w3.alloc (.cells #[.int .i64 (rhN zb ab), .int .i64 (rhD zb ab)] 56)).heap.size (w3.alloc (.cells #[.int .i64 (rhN zb ab), .int .i64 (rhD zb ab)] 56)) w' → Blk w' w3.heap.size 56 #[.int .i64 (rhN zb ab), .int .i64 (rhD zb ab)]) := fun w' hb => (Blk.new w3 _ _).on hb
  have de := Below.refl (w3.alloc (.cells #[.int .i64 (rhN zb ab), .int .i64 (rhD zb ab)] 56)).heap.size (w3.alloc (.cells #[.int .i64 (rhN zb ab), .int .i64 (rhD zb ab)] 56))
  have c3 := btrans c3 (balloc (Below.refl _ w3) (.cells #[.int .i64 (rhN zb ab), .int .i64 (rhD zb ab)] 56))
  replace db := btrans db (balloc (Below.refl _ w3) (.cells #[.int .i64 (rhN zb ab), .int .i64 (rhD zb ab)] 56))
  replace df := btrans df (balloc (Below.refl _ w3) (.cells #[.int .i64 (rhN zb ab), .int .i64 (rhD zb ab)] 56))
  go_wp2_with fail
  (with_reducible refine (draw_ay A n c _ (HOC.out _ c3)).mono ?_)
  rintro e w4 ⟨vl, m, bs, vp, P, rfl, hP, hPb, hm, hsl, ol, op, b4⟩
  have c4 := btrans c3 b4
  replace db := btrans db b4
  replace df := btrans df b4
  replace de := btrans de b4
  have HShl := Lib.hid (short_small hm hsl)
  obtain ⟨Al, capl, rfl, Bl⟩ := ol.beds HShl.out (fun i hi => (hsl i hi).2.1)
  have HBl := Lib.hid (fun w' (hb : Below w4.heap.size w4 w') => Bl.on hb)
  have dl := Below.refl w4.heap.size w4
  clear ol Bl
  have bdp : ∀ z ∈ P, -9223372036854775808 ≤ z ∧ z ≤ 9223372036854775807 := fun z hz => by have := hPb z hz; omega
  obtain ⟨Ap, capp, rfl, ip, -⟩ := op.ints bdp
  have HIp := Lib.hid (fun w' (hb : Below w4.heap.size w4 w') => ip.on hb)
  have dp := Below.refl w4.heap.size w4
  clear op ip
  have hNl : ayN bs m P P.length ≤ m := by unfold ayN; split <;> omega
  have HSR : Hid (Short (aftB bs P P.length) (ayN bs m P P.length)) := ⟨Nat.le_trans hNl HShl.out.1, fun i hi => HShl.out.2 i (by omega)⟩
  have HWR : Hid (∀ i, i < ayN bs m P P.length → ∀ z ∈ yl (aftB bs P P.length) i, -9223372036854775808 ≤ z ∧ z ≤ 9223372036854775807) := fun i hi => (hsl i (by omega)).2.1
  go_wp2_with fail
  (with_reducible refine (year_i _ _ _ _ _ _ bs P _ (HBl.out _ dl) HShl.out (HIp.out _ dp) (by omega)).mono ?_)
  rintro e w5 ⟨vx, rfl, ox, b5⟩
  have c5 := btrans c4 b5
  replace db := btrans db b5
  replace df := btrans df b5
  replace de := btrans de b5
  replace dl := btrans dl b5
  replace dp := btrans dp b5
  obtain ⟨Ax, capx, rfl, Bx⟩ := ox.beds HSR.out HWR.out
  have HBx := Lib.hid (fun w' (hb : Below w5.heap.size w5 w') => Bx.on hb)
  have dx := Below.refl w5.heap.size w5
  clear ox Bx
  go_wp2_with fail
  (with_reducible refine (year_s _ _ _ _ _ _ bs P _ (HBl.out _ dl) HShl.out (HIp.out _ dp) (by omega)).mono ?_)
  rintro e w6 ⟨vy, rfl, oy, b6⟩
  have c6 := btrans c5 b6
  replace db := btrans db b6
  replace df := btrans df b6
  replace de := btrans de b6
  replace dl := btrans dl b6
  replace dp := btrans dp b6
  replace dx := btrans dx b6
  obtain ⟨Ay, capy, rfl, By⟩ := oy.beds HSR.out HWR.out
  have HBy := Lib.hid (fun w' (hb : Below w6.heap.size w6 w') => By.on hb)
  have dy := Below.refl w6.heap.size w6
  clear oy By
  go_wp2_with fail
  (with_reducible refine (draw_sn A n c _ (HOC.out _ c6)).mono ?_)
  rintro e w7 ⟨va, ma, as2, ya, rfl, hya0, hya1, hma, hsa, oa, b7⟩
  have c7 := btrans c6 b7
  replace db := btrans db b7
  replace df := btrans df b7
  replace de := btrans de b7
  replace dl := btrans dl b7
  replace dp := btrans dp b7
  replace dx := btrans dx b7
  replace dy := btrans dy b7
  have HSha := Lib.hid (short_small hma hsa)
  obtain ⟨Aa, capa, rfl, Ba⟩ := oa.beds HSha.out (fun i hi => (hsa i hi).2.1)
  have HBa := Lib.hid (fun w' (hb : Below w7.heap.size w7 w') => Ba.on hb)
  have da := Below.refl w7.heap.size w7
  clear oa Ba
  go_wp2_with fail
  (with_reducible refine (need_i _ _ _ as2 ya _ (HBa.out _ da) HSha.out).mono ?_)
  rintro e w8 ⟨rfl, b8⟩
  have c8 := btrans c7 b8
  replace db := btrans db b8
  replace df := btrans df b8
  replace de := btrans de b8
  replace dl := btrans dl b8
  replace dp := btrans dp b8
  replace dx := btrans dx b8
  replace dy := btrans dy b8
  replace da := btrans da b8
  go_wp2_with fail
  (with_reducible refine (need_s _ _ _ as2 ya _ (HBa.out _ da) HSha.out).mono ?_)
  rintro e w9 ⟨rfl, b9⟩
  have c9 := btrans c8 b9
  replace db := btrans db b9
  replace df := btrans df b9
  replace de := btrans de b9
  replace dl := btrans dl b9
  replace dp := btrans dp b9
  replace dx := btrans dx b9
  replace dy := btrans dy b9
  replace da := btrans da b9
  go_wp2_with fail
  (with_reducible refine (draw_sb A n c _ (HOC.out _ c9)).mono ?_)
  rintro e w10 ⟨v1, n1, cs1, v2, n2, cs2, rfl, ⟨A1, cap1, rfl, B1, hs1⟩, ⟨A2, cap2, rfl, B2, hs2⟩, b10⟩
  have c10 := btrans c9 b10
  replace db := btrans db b10
  replace df := btrans df b10
  replace de := btrans de b10
  replace dl := btrans dl b10
  replace dp := btrans dp b10
  replace dx := btrans dx b10
  replace dy := btrans dy b10
  replace da := btrans da b10
  have HB1 := Lib.hid (fun w' (hb : Below w10.heap.size w10 w') => B1.on hb)
  have HSh1 := Lib.hid hs1
  clear B1 hs1
  have HB2 := Lib.hid (fun w' (hb : Below w10.heap.size w10 w') => B2.on hb)
  have HSh2 := Lib.hid hs2
  clear B2 hs2
  have dq := Below.refl w10.heap.size w10
  have hm1 := HSh1.out.1
  have hm2 := HSh2.out.1
  have FF := HBf.out _ df
  have FFl := FF.lt
  have FFc0 := FF.cell 0
  have FFf0 := FF.frozen 0
  have FFc1 := FF.cell 1
  have FFf1 := FF.frozen 1
  simp at FFc0 FFc1
  have FFH := Lib.hid FF
  clear FF
  have EE := HBe.out _ de
  have EEl := EE.lt
  have EEc0 := EE.cell 0
  have EEf0 := EE.frozen 0
  have EEc1 := EE.cell 1
  have EEf1 := EE.frozen 1
  simp at EEc0 EEc1
  have EEH := Lib.hid EE
  clear EE
  go_wp2_with fail
  (with_reducible refine (sameBeds_s _ _ _ _ _ _ (aftB bs P P.length) (aftB bs P P.length) _ (HBx.out _ dx) (HBy.out _ dy) HSR.out HSR.out).mono ?_)
  rintro e w11 ⟨rfl, b11⟩
  rw [sameBs_refl]
  clear FFc0 FFc1 FFf0 FFf1 FFl FFH
  clear EEc0 EEc1 EEf0 EEf1 EEl EEH
  have c11 := btrans c10 b11
  replace db := btrans db b11
  replace df := btrans df b11
  replace de := btrans de b11
  replace dl := btrans dl b11
  replace dp := btrans dp b11
  replace dx := btrans dx b11
  replace dy := btrans dy b11
  replace da := btrans da b11
  replace dq := btrans dq b11
  go_wp2_with fail
  (with_reducible refine (sameBeds_i _ _ _ _ _ _ cs1 cs2 _ (HB1.out _ dq) (HB2.out _ dq) HSh1.out HSh2.out).mono ?_)
  rintro e w12 ⟨rfl, b12⟩
  have c12 := btrans c11 b12
  replace db := btrans db b12
  replace df := btrans df b12
  replace de := btrans de b12
  replace dl := btrans dl b12
  replace dp := btrans dp b12
  replace dx := btrans dx b12
  replace dy := btrans dy b12
  replace da := btrans da b12
  replace dq := btrans dq b12
  go_wp2_with fail
  (with_reducible refine (sameBeds_s _ _ _ _ _ _ cs1 cs2 _ (HB1.out _ dq) (HB2.out _ dq) HSh1.out HSh2.out).mono ?_)
  rintro e w13 ⟨rfl, b13⟩
  have c13 := btrans c12 b13
  replace db := btrans db b13
  replace df := btrans df b13
  replace de := btrans de b13
  replace dl := btrans dl b13
  replace dp := btrans dp b13
  replace dx := btrans dx b13
  replace dy := btrans dy b13
  replace da := btrans da b13
  replace dq := btrans dq b13
  by_cases h1 : rhC zb ab = 0
  · obtain ⟨hlz, hNb, hDb, hfr⟩ := rh_frac h1
    have HFR := Lib.hid hfr
    clear hfr
    generalize rhN zb ab = N at *
    generalize rhD zb ab = D at *
    have BB := (HBb.out _ db).1
    have BBl := BB.lt
    have BBc0 := BB.cell 0
    have BBf0 := BB.frozen 0
    have BBc1 := BB.cell 1
    have BBf1 := BB.frozen 1
    simp at BBc0 BBc1
    have BBH := Lib.hid BB
    clear BB
    go_wp2_with fail
    clear BBc0 BBc1 BBf0 BBf1 BBl BBH
    go_loopw [24] (fun v wr => ∃ i : Nat, i ≤ zb.length ∧ v = .int .i64 i ∧ Below w13.heap.size w13 wr) (fun v _ => zb.length - (intOf v).toNat)
    case atStart => exact ⟨0, Nat.zero_le _, rfl, Below.refl _ _⟩
    case round =>
      obtain ⟨i, hi, rfl, hbr⟩ := hrel
      replace db := btrans db hbr
      replace de := btrans de hbr
      replace dl := btrans dl hbr
      replace dy := btrans dy hbr
      replace dp := btrans dp hbr
      replace da := btrans da hbr
      have c14 := btrans c13 hbr
      have BB := (HBb.out _ db).1
      have BBl := BB.lt
      have BBc0 := BB.cell 0
      have BBf0 := BB.frozen 0
      have BBc1 := BB.cell 1
      have BBf1 := BB.frozen 1
      simp at BBc0 BBc1
      have BBH := Lib.hid BB
      clear BB
      have EE := HBe.out _ de
      have EEl := EE.lt
      have EEc0 := EE.cell 0
      have EEf0 := EE.frozen 0
      have EEc1 := EE.cell 1
      have EEf1 := EE.frozen 1
      simp at EEc0 EEc1
      have EEH := Lib.hid EE
      clear EE
      by_cases hil : i < zb.length
      · obtain ⟨b_, off_, e_, hb_, z0⟩ := (HBb.out _ db).2.ints.at1 hil
        obtain ⟨rfl, rfl⟩ : gb = b_ ∧ 0 = off_ := by simpa using e_
        obtain ⟨hyb, hle⟩ := HFR.out i hil
        have hy2 := (HFR.out i hil).1
        generalize gi zb i = y at *
        have hm1 := mul_in hyb.1 hyb.2 (by omega : 0 ≤ D) hDb.2
        have hm2 := mul_in hNb.1 hNb.2 (by omega : 0 ≤ (i : Int) + 1) (by omega : (i : Int) + 1 ≤ 5)
        have HW1 : IntKind.i64.wrap (y * D) = y * D := IntWalk.i64_in _ (by omega)
        have HW2 : IntKind.i64.wrap (N * ((i : Int) + 1)) = N * ((i : Int) + 1) := IntWalk.i64_in _ (by omega)
        have HW3 : IntKind.i64.wrap ((i : Int) + 1) = (i : Int) + 1 := IntWalk.i64_in _ (by omega)
        have hnl : ¬ N * ((i : Int) + 1) < y * D := by omega
        have hdl : decide (N * ((i : Int) + 1) < y * D) = false := decide_eq_false hnl
        rw [Nat.zero_add] at z0
        clear hm1 hm2 hle
        go_wp2_with fail
        go_quiet (fail)
        clear HW1 HW2 HW3 hnl hdl
        go_wp2_with fail
        go_roundw
        case rel => exact ⟨i + 1, by omega, by go_num, bdrewN hbr _⟩
        case measure => simp [intOf]; omega
      · obtain rfl : i = zb.length := by omega
        obtain ⟨w14, rfl⟩ : ∃ w' : World, w' = wr := ⟨_, rfl⟩
        by_cases h3 : syC as2 ma ya = 0
        · obtain ⟨q1, q2⟩ := steady_cut h3
          go_wp2_with fail
          (with_reducible refine (cut_i _ _ _ as2 (syV as2 ma ya) _ (HBa.out _ da) HSha.out).mono ?_)
          rintro e w20 ⟨v20, rfl, o20, b20⟩
          rw [q1]
          clear o20
          have c20 := btrans c14 b20
          replace dl := btrans dl b20
          replace dy := btrans dy b20
          replace dp := btrans dp b20
          by_cases h5 : ayC bs m P P.length = 0
          · obtain ⟨hN, hag⟩ := aft_ages h5
            have HAG := Lib.hid hag
            clear hag
            generalize ayN bs m P P.length = N at *
            subst hN
            have hNb := HShl.out.1
            go_wp2_with fail
            go_loopw [27] (fun v wr => ∃ i : Nat, i ≤ N ∧ v = .int .i64 i ∧ Below w20.heap.size w20 wr) (fun v _ => N - (intOf v).toNat)
            case atStart => exact ⟨0, Nat.zero_le _, rfl, Below.refl _ _⟩
            case round =>
              obtain ⟨i, hi, rfl, hbr⟩ := hrel
              replace dl := btrans dl hbr
              replace dy := btrans dy hbr
              replace dp := btrans dp hbr
              have cr := btrans c20 hbr
              by_cases hil : i < N
              · have hAG := HAG.out i hil
                obtain ⟨by_, oy, Ay', my, cy, ey, hby, -, y1, -, -⟩ := (HBy.out _ dy).at_ i hil
                obtain ⟨bl, ol, Al', ml, cl, el, hbl, -, x1, -, -⟩ := (HBl.out _ dl).at_ i hil
                subst ey el
                have HPi := Lib.hid (HIp.out _ dp)
                generalize ag (aftB bs P P.length) i = aa at *
                generalize ag bs i = ba at *
                rcases hh : hasZ P (i : Int) P.length with _ | _
                · have hlt2 := hAG.2 hh
                  have hd2 : decide (aa < ba) = false := decide_eq_false (by omega)
                  clear hAG
                  go_wp2_with fail
                  go_quiet (first | (go_at_call 43; first | exact quiet_left (asV (f6has_c _ _ _ _ _ _ (HPi.out.drewN _) (by omega)) hh) | exact quiet_add_left (asV (f6has_c _ _ _ _ _ _ (HPi.out.drewN _) (by omega)) hh)))
                  go_wp2_with fail
                  go_roundw
                  case rel => exact ⟨i + 1, by omega, by go_num, bdrewN hbr _⟩
                  case measure => simp [intOf]; omega
                · obtain rfl := hAG.1 hh
                  clear hAG
                  by_cases hlt2 : (1 : Int) < ba
                  · have hd2 : decide ((1 : Int) < ba) = true := decide_eq_true hlt2
                    go_wp2_with fail
                    go_quiet (first | (go_at_call 43; first | exact quiet_left (asV (f6has_c _ _ _ _ _ _ (HPi.out.drewN _) (by omega)) hh) | exact quiet_add_left (asV (f6has_c _ _ _ _ _ _ (HPi.out.drewN _) (by omega)) hh)))
                    go_wp2_with fail
                    go_roundw
                    case rel => exact ⟨i + 1, by omega, by go_num, bdrewN hbr _⟩
                    case measure => simp [intOf]; omega
                  · have hd2 : decide ((1 : Int) < ba) = false := decide_eq_false hlt2
                    go_wp2_with fail
                    go_quiet (first | (go_at_call 43; first | exact quiet_left (asV (f6has_c _ _ _ _ _ _ (HPi.out.drewN _) (by omega)) hh) | exact quiet_add_left (asV (f6has_c _ _ _ _ _ _ (HPi.out.drewN _) (by omega)) hh)))
                    go_wp2_with fail
                    go_roundw
                    case rel => exact ⟨i + 1, by omega, by go_num, bdrewN hbr _⟩
                    case measure => simp [intOf]; omega
              · obtain rfl : i = N := by omega
                go_wp2_with fail
                go_ret
                exact ⟨by first | rfl | simp, cr⟩
          · have hb5 : (ayC bs m P P.length == 0) = false := by simpa using h5
            have hb6 : (ayC bs m P P.length != 0) = true := by simpa using h5
            go_wp2_with fail
            go_ret
            exact ⟨rfl, c20⟩
        · have hb3 : (syC as2 ma ya == 0) = false := by simpa using h3
          by_cases h5 : ayC bs m P P.length = 0
          · obtain ⟨hN, hag⟩ := aft_ages h5
            have HAG := Lib.hid hag
            clear hag
            generalize ayN bs m P P.length = N at *
            subst hN
            have hNb := HShl.out.1
            go_wp2_with fail
            go_loopw [27] (fun v wr => ∃ i : Nat, i ≤ N ∧ v = .int .i64 i ∧ Below w14.heap.size w14 wr) (fun v _ => N - (intOf v).toNat)
            case atStart => exact ⟨0, Nat.zero_le _, rfl, Below.refl _ _⟩
            case round =>
              obtain ⟨i, hi, rfl, hbr⟩ := hrel
              replace dl := btrans dl hbr
              replace dy := btrans dy hbr
              replace dp := btrans dp hbr
              have cr := btrans c14 hbr
              by_cases hil : i < N
              · have hAG := HAG.out i hil
                obtain ⟨by_, oy, Ay', my, cy, ey, hby, -, y1, -, -⟩ := (HBy.out _ dy).at_ i hil
                obtain ⟨bl, ol, Al', ml, cl, el, hbl, -, x1, -, -⟩ := (HBl.out _ dl).at_ i hil
                subst ey el
                have HPi := Lib.hid (HIp.out _ dp)
                generalize ag (aftB bs P P.length) i = aa at *
                generalize ag bs i = ba at *
                rcases hh : hasZ P (i : Int) P.length with _ | _
                · have hlt2 := hAG.2 hh
                  have hd2 : decide (aa < ba) = false := decide_eq_false (by omega)
                  clear hAG
                  go_wp2_with fail
                  go_quiet (first | (go_at_call 43; first | exact quiet_left (asV (f6has_c _ _ _ _ _ _ (HPi.out.drewN _) (by omega)) hh) | exact quiet_add_left (asV (f6has_c _ _ _ _ _ _ (HPi.out.drewN _) (by omega)) hh)))
                  go_wp2_with fail
                  go_roundw
                  case rel => exact ⟨i + 1, by omega, by go_num, bdrewN hbr _⟩
                  case measure => simp [intOf]; omega
                · obtain rfl := hAG.1 hh
                  clear hAG
                  by_cases hlt2 : (1 : Int) < ba
                  · have hd2 : decide ((1 : Int) < ba) = true := decide_eq_true hlt2
                    go_wp2_with fail
                    go_quiet (first | (go_at_call 43; first | exact quiet_left (asV (f6has_c _ _ _ _ _ _ (HPi.out.drewN _) (by omega)) hh) | exact quiet_add_left (asV (f6has_c _ _ _ _ _ _ (HPi.out.drewN _) (by omega)) hh)))
                    go_wp2_with fail
                    go_roundw
                    case rel => exact ⟨i + 1, by omega, by go_num, bdrewN hbr _⟩
                    case measure => simp [intOf]; omega
                  · have hd2 : decide ((1 : Int) < ba) = false := decide_eq_false hlt2
                    go_wp2_with fail
                    go_quiet (first | (go_at_call 43; first | exact quiet_left (asV (f6has_c _ _ _ _ _ _ (HPi.out.drewN _) (by omega)) hh) | exact quiet_add_left (asV (f6has_c _ _ _ _ _ _ (HPi.out.drewN _) (by omega)) hh)))
                    go_wp2_with fail
                    go_roundw
                    case rel => exact ⟨i + 1, by omega, by go_num, bdrewN hbr _⟩
                    case measure => simp [intOf]; omega
              · obtain rfl : i = N := by omega
                go_wp2_with fail
                go_ret
                exact ⟨by first | rfl | simp, cr⟩
          · have hb5 : (ayC bs m P P.length == 0) = false := by simpa using h5
            have hb6 : (ayC bs m P P.length != 0) = true := by simpa using h5
            go_wp2_with fail
            go_ret
            exact ⟨rfl, c14⟩
  · have hb1' : (rhC zb ab == 0) = false := by simpa using h1
    by_cases h3 : syC as2 ma ya = 0
    · obtain ⟨q1, q2⟩ := steady_cut h3
      go_wp2_with fail
      (with_reducible refine (cut_i _ _ _ as2 (syV as2 ma ya) _ (HBa.out _ da) HSha.out).mono ?_)
      rintro e w20 ⟨v20, rfl, o20, b20⟩
      rw [q1]
      clear o20
      have c20 := btrans c13 b20
      replace dl := btrans dl b20
      replace dy := btrans dy b20
      replace dp := btrans dp b20
      by_cases h5 : ayC bs m P P.length = 0
      · obtain ⟨hN, hag⟩ := aft_ages h5
        have HAG := Lib.hid hag
        clear hag
        generalize ayN bs m P P.length = N at *
        subst hN
        have hNb := HShl.out.1
        go_wp2_with fail
        go_loopw [27] (fun v wr => ∃ i : Nat, i ≤ N ∧ v = .int .i64 i ∧ Below w20.heap.size w20 wr) (fun v _ => N - (intOf v).toNat)
        case atStart => exact ⟨0, Nat.zero_le _, rfl, Below.refl _ _⟩
        case round =>
          obtain ⟨i, hi, rfl, hbr⟩ := hrel
          replace dl := btrans dl hbr
          replace dy := btrans dy hbr
          replace dp := btrans dp hbr
          have cr := btrans c20 hbr
          by_cases hil : i < N
          · have hAG := HAG.out i hil
            obtain ⟨by_, oy, Ay', my, cy, ey, hby, -, y1, -, -⟩ := (HBy.out _ dy).at_ i hil
            obtain ⟨bl, ol, Al', ml, cl, el, hbl, -, x1, -, -⟩ := (HBl.out _ dl).at_ i hil
            subst ey el
            have HPi := Lib.hid (HIp.out _ dp)
            generalize ag (aftB bs P P.length) i = aa at *
            generalize ag bs i = ba at *
            rcases hh : hasZ P (i : Int) P.length with _ | _
            · have hlt2 := hAG.2 hh
              have hd2 : decide (aa < ba) = false := decide_eq_false (by omega)
              clear hAG
              go_wp2_with fail
              go_quiet (first | (go_at_call 43; first | exact quiet_left (asV (f6has_c _ _ _ _ _ _ (HPi.out.drewN _) (by omega)) hh) | exact quiet_add_left (asV (f6has_c _ _ _ _ _ _ (HPi.out.drewN _) (by omega)) hh)))
              go_wp2_with fail
              go_roundw
              case rel => exact ⟨i + 1, by omega, by go_num, bdrewN hbr _⟩
              case measure => simp [intOf]; omega
            · obtain rfl := hAG.1 hh
              clear hAG
              by_cases hlt2 : (1 : Int) < ba
              · have hd2 : decide ((1 : Int) < ba) = true := decide_eq_true hlt2
                go_wp2_with fail
                go_quiet (first | (go_at_call 43; first | exact quiet_left (asV (f6has_c _ _ _ _ _ _ (HPi.out.drewN _) (by omega)) hh) | exact quiet_add_left (asV (f6has_c _ _ _ _ _ _ (HPi.out.drewN _) (by omega)) hh)))
                go_wp2_with fail
                go_roundw
                case rel => exact ⟨i + 1, by omega, by go_num, bdrewN hbr _⟩
                case measure => simp [intOf]; omega
              · have hd2 : decide ((1 : Int) < ba) = false := decide_eq_false hlt2
                go_wp2_with fail
                go_quiet (first | (go_at_call 43; first | exact quiet_left (asV (f6has_c _ _ _ _ _ _ (HPi.out.drewN _) (by omega)) hh) | exact quiet_add_left (asV (f6has_c _ _ _ _ _ _ (HPi.out.drewN _) (by omega)) hh)))
                go_wp2_with fail
                go_roundw
                case rel => exact ⟨i + 1, by omega, by go_num, bdrewN hbr _⟩
                case measure => simp [intOf]; omega
          · obtain rfl : i = N := by omega
            go_wp2_with fail
            go_ret
            exact ⟨by first | rfl | simp, cr⟩
      · have hb5 : (ayC bs m P P.length == 0) = false := by simpa using h5
        have hb6 : (ayC bs m P P.length != 0) = true := by simpa using h5
        go_wp2_with fail
        go_ret
        exact ⟨rfl, c20⟩
    · have hb3 : (syC as2 ma ya == 0) = false := by simpa using h3
      by_cases h5 : ayC bs m P P.length = 0
      · obtain ⟨hN, hag⟩ := aft_ages h5
        have HAG := Lib.hid hag
        clear hag
        generalize ayN bs m P P.length = N at *
        subst hN
        have hNb := HShl.out.1
        go_wp2_with fail
        go_loopw [27] (fun v wr => ∃ i : Nat, i ≤ N ∧ v = .int .i64 i ∧ Below w13.heap.size w13 wr) (fun v _ => N - (intOf v).toNat)
        case atStart => exact ⟨0, Nat.zero_le _, rfl, Below.refl _ _⟩
        case round =>
          obtain ⟨i, hi, rfl, hbr⟩ := hrel
          replace dl := btrans dl hbr
          replace dy := btrans dy hbr
          replace dp := btrans dp hbr
          have cr := btrans c13 hbr
          by_cases hil : i < N
          · have hAG := HAG.out i hil
            obtain ⟨by_, oy, Ay', my, cy, ey, hby, -, y1, -, -⟩ := (HBy.out _ dy).at_ i hil
            obtain ⟨bl, ol, Al', ml, cl, el, hbl, -, x1, -, -⟩ := (HBl.out _ dl).at_ i hil
            subst ey el
            have HPi := Lib.hid (HIp.out _ dp)
            generalize ag (aftB bs P P.length) i = aa at *
            generalize ag bs i = ba at *
            rcases hh : hasZ P (i : Int) P.length with _ | _
            · have hlt2 := hAG.2 hh
              have hd2 : decide (aa < ba) = false := decide_eq_false (by omega)
              clear hAG
              go_wp2_with fail
              go_quiet (first | (go_at_call 43; first | exact quiet_left (asV (f6has_c _ _ _ _ _ _ (HPi.out.drewN _) (by omega)) hh) | exact quiet_add_left (asV (f6has_c _ _ _ _ _ _ (HPi.out.drewN _) (by omega)) hh)))
              go_wp2_with fail
              go_roundw
              case rel => exact ⟨i + 1, by omega, by go_num, bdrewN hbr _⟩
              case measure => simp [intOf]; omega
            · obtain rfl := hAG.1 hh
              clear hAG
              by_cases hlt2 : (1 : Int) < ba
              · have hd2 : decide ((1 : Int) < ba) = true := decide_eq_true hlt2
                go_wp2_with fail
                go_quiet (first | (go_at_call 43; first | exact quiet_left (asV (f6has_c _ _ _ _ _ _ (HPi.out.drewN _) (by omega)) hh) | exact quiet_add_left (asV (f6has_c _ _ _ _ _ _ (HPi.out.drewN _) (by omega)) hh)))
                go_wp2_with fail
                go_roundw
                case rel => exact ⟨i + 1, by omega, by go_num, bdrewN hbr _⟩
                case measure => simp [intOf]; omega
              · have hd2 : decide ((1 : Int) < ba) = false := decide_eq_false hlt2
                go_wp2_with fail
                go_quiet (first | (go_at_call 43; first | exact quiet_left (asV (f6has_c _ _ _ _ _ _ (HPi.out.drewN _) (by omega)) hh) | exact quiet_add_left (asV (f6has_c _ _ _ _ _ _ (HPi.out.drewN _) (by omega)) hh)))
                go_wp2_with fail
                go_roundw
                case rel => exact ⟨i + 1, by omega, by go_num, bdrewN hbr _⟩
                case measure => simp [intOf]; omega
          · obtain rfl : i = N := by omega
            go_wp2_with fail
            go_ret
            exact ⟨by first | rfl | simp, cr⟩
      · have hb5 : (ayC bs m P P.length == 0) = false := by simpa using h5
        have hb6 : (ayC bs m P P.length != 0) = true := by simpa using h5
        go_wp2_with fail
        go_ret
        exact ⟨rfl, c13⟩
end Go.Proofs.Ytnlddplhaiceaaa
