/-
  FnBeds at what the reference draws.
  No conditions.
-/
import Derived.Test.YtnlddplhaiceaaaBedsP
namespace Go.Proofs.Ytnlddplhaiceaaa
open Go.ChangeShapes Go.WideShapes Go.ChangeAt Go.RowKit Go.Deep
set_option linter.unusedVariables false

set_option maxRecDepth 100000 in
set_option maxHeartbeats 16000000 in
theorem fnBeds_c (A : Option Addr) (n c : Nat) (w : World) (h : Octets w w.heap.size A n) :
    Calls Try.prog 5 #[.slice A n c] w fun e w' => e = .returned (.bool true) ∧ Below w.heap.size w w' := by
  have hn := h.le
  by_cases hbig : 4096 < n
  · have hd : decide (4096 < n) = true := by simpa using hbig
    go_enter Try.func5, Try.ntmps5
    go_wp2_with fail
    refine (f6big_c A n c _ hn).mono ?_
    rintro e w0 ⟨rfl, rfl⟩
    rw [hd]
    go_wp2
    go_ret
    exact ⟨rfl, Below.refl _ _⟩
  have hd : decide (4096 < n) = false := by simpa using hbig
  have HOC := Lib.hid (fun w1 (hb : Below w.heap.size w w1) => (h.below hb (Nat.le_refl _)).more hb.size)
  clear h
  go_enter Try.func5, Try.ntmps5
  go_wp2_with fail
  refine (f6big_c A n c _ hn).mono ?_
  rintro e w0 ⟨rfl, rfl⟩
  rw [hd]
  clear hd hbig
  have c0 := Below.refl w.heap.size w
  go_wp2_with fail
  (with_reducible refine (draw_bc A n c _ (HOC.out _ c0)).mono ?_)
  rintro e w1 ⟨zb, ab, gb, kb, yb, rfl, hyb0, hyb1, vb, b1⟩
  have c1 := btrans c0 b1
  have HBb : Hid (∀ w', Below (w1.alloc (.cells #[.slice (some ⟨gb, 0, none⟩) zb.length kb, .int .i64 ab] 41)).heap.size (w1.alloc (.cells #[.slice (some ⟨gb, 0, none⟩) zb.length kb, .int .i64 ab] 41)) w' → Blk w' w1.heap.size 41 #[.slice (some ⟨gb, 0, none⟩) zb.length kb, .int .i64 ab] ∧ BedV w' zb ab gb kb) := fun w' hb => ⟨(Blk.new w1 _ _).on hb, (vb.on (balloc (Below.refl _ w1) _)).on hb⟩
  have hlb : zb.length ≤ 1048576 := by have := vb.len; omega
  have db := Below.refl (w1.alloc (.cells #[.slice (some ⟨gb, 0, none⟩) zb.length kb, .int .i64 ab] 41)).heap.size (w1.alloc (.cells #[.slice (some ⟨gb, 0, none⟩) zb.length kb, .int .i64 ab] 41))
  have c1 := btrans c1 (balloc (Below.refl _ w1) (.cells #[.slice (some ⟨gb, 0, none⟩) zb.length kb, .int .i64 ab] 41))
  clear vb
  have bdb := bcL_bd zb ab yb
  go_wp2_with fail
  (with_reducible refine (best_i _ _ zb ab yb _ (HBb.out _ db).2.ints hlb).mono ?_)
  rintro e w2 ⟨v2, rfl, o2, b2⟩
  have c2 := btrans c1 b2
  have db := btrans db b2
  obtain ⟨AC, capC, rfl, iC, -⟩ := o2.ints bdb.2
  have HIC := Lib.hid (fun w' (hb : Below w2.heap.size w2 w') => iC.on hb)
  have dC := Below.refl w2.heap.size w2
  clear o2 iC
  have BB := (HBb.out _ db).1
  have BBl := BB.lt
  have BBc0 := BB.cell 0
  have BBf0 := BB.frozen 0
  have BBc1 := BB.cell 1
  have BBf1 := BB.frozen 1
  simp at BBc0 BBc1
  have BBH := Lib.hid BB
  clear BB
  go_wp2_with fail
  (with_reducible refine (best_s _ _ zb ab yb _ (HBb.out _ db).2.ints hlb).mono ?_)
  rintro e w3 ⟨v3, rfl, o3, b3⟩
  clear BBc0 BBc1 BBf0 BBf1 BBl BBH
  have c3 := btrans c2 b3
  have db := btrans db b3
  have dC := btrans dC b3
  obtain ⟨AM, capM, rfl, iM, -⟩ := o3.ints bdb.2
  have HIM := Lib.hid (fun w' (hb : Below w3.heap.size w3 w') => iM.on hb)
  have dM := Below.refl w3.heap.size w3
  clear o3 iM
  go_wp2_with fail
  (with_reducible refine (draw_yop A n c _ (HOC.out _ c3)).mono ?_)
  rintro e w4 ⟨za, aa, ga, ka, ya, vp, P, rfl, hya0, hya1, hP, hPb, va, op, b4⟩
  have c4 := btrans c3 b4
  have db := btrans db b4
  have dC := btrans dC b4
  have dM := btrans dM b4
  have bdp : P.length ≤ 1000 ∧ ∀ z ∈ P, -9223372036854775808 ≤ z ∧ z ≤ 9223372036854775807 := ⟨by omega, fun z hz => by have := hPb z hz; omega⟩
  obtain ⟨AP, capP, rfl, iP, -⟩ := op.ints bdp.2
  have HIP := Lib.hid (fun w' (hb : Below w4.heap.size w4 w') => iP.on hb)
  have dP := Below.refl w4.heap.size w4
  clear op iP
  have HBa : Hid (∀ w', Below (w4.alloc (.cells #[.slice (some ⟨ga, 0, none⟩) za.length ka, .int .i64 aa] 41)).heap.size (w4.alloc (.cells #[.slice (some ⟨ga, 0, none⟩) za.length ka, .int .i64 aa] 41)) w' → Blk w' w4.heap.size 41 #[.slice (some ⟨ga, 0, none⟩) za.length ka, .int .i64 aa] ∧ BedV w' za aa ga ka) := fun w' hb => ⟨(Blk.new w4 _ _).on hb, (va.on (balloc (Below.refl _ w4) _)).on hb⟩
  have hla : za.length ≤ 1048576 := by have := va.len; omega
  have da := Below.refl (w4.alloc (.cells #[.slice (some ⟨ga, 0, none⟩) za.length ka, .int .i64 aa] 41)).heap.size (w4.alloc (.cells #[.slice (some ⟨ga, 0, none⟩) za.length ka, .int .i64 aa] 41))
  have c4 := btrans c4 (balloc (Below.refl _ w4) (.cells #[.slice (some ⟨ga, 0, none⟩) za.length ka, .int .i64 aa] 41))
  have db := btrans db (balloc (Below.refl _ w4) (.cells #[.slice (some ⟨ga, 0, none⟩) za.length ka, .int .i64 aa] 41))
  have dC := btrans dC (balloc (Below.refl _ w4) (.cells #[.slice (some ⟨ga, 0, none⟩) za.length ka, .int .i64 aa] 41))
  have dM := btrans dM (balloc (Below.refl _ w4) (.cells #[.slice (some ⟨ga, 0, none⟩) za.length ka, .int .i64 aa] 41))
  have dP := btrans dP (balloc (Below.refl _ w4) (.cells #[.slice (some ⟨ga, 0, none⟩) za.length ka, .int .i64 aa] 41))
  clear va
  go_wp2_with fail
  (with_reducible refine (yop_i _ _ _ _ za P aa ya _ (HBa.out _ da).2.ints (HIP.out _ dP) hla (by omega)).mono ?_)
  rintro e w5 ⟨rfl, b5⟩
  have c5 := btrans c4 b5
  have db := btrans db b5
  have dC := btrans dC b5
  have dM := btrans dM b5
  have dP := btrans dP b5
  have da := btrans da b5
  have AA := (HBa.out _ da).1
  have AAl := AA.lt
  have AAc0 := AA.cell 0
  have AAf0 := AA.frozen 0
  have AAc1 := AA.cell 1
  have AAf1 := AA.frozen 1
  simp at AAc0 AAc1
  have AAH := Lib.hid AA
  clear AA
  go_wp2_with fail
  (with_reducible refine (yop_s _ _ _ _ za P aa ya _ (HBa.out _ da).2.ints (HIP.out _ dP) hla (by omega)).mono ?_)
  rintro e w6 ⟨rfl, b6⟩
  clear AAc0 AAc1 AAf0 AAf1 AAl AAH
  have c6 := btrans c5 b6
  have db := btrans db b6
  have dC := btrans dC b6
  have dM := btrans dM b6
  have dP := btrans dP b6
  have da := btrans da b6
  go_wp2_with fail
  (with_reducible refine (draw_cf A n c _ (HOC.out _ c6)).mono ?_)
  rintro e w7 ⟨vl, m, bs, need, rfl, hne0, hne1, hm, hsm, ol, b7⟩
  have c7 := btrans c6 b7
  have db := btrans db b7
  have dC := btrans dC b7
  have dM := btrans dM b7
  have dP := btrans dP b7
  have da := btrans da b7
  have HSh : Hid (Short bs m) := ⟨by omega, fun i hi => by have := (hsm i hi).1; omega⟩
  obtain ⟨Al, capl, rfl, Bl⟩ := ol.beds HSh.out (fun i hi => (hsm i hi).2.1)
  have HBl := Lib.hid (fun w' (hb : Below w7.heap.size w7 w') => Bl.on hb)
  have dl := Below.refl w7.heap.size w7
  clear ol Bl
  have bdf := cfL_bd' bs m need
  go_wp2_with fail
  (with_reducible refine (cut_i _ _ _ bs need _ (HBl.out _ dl) HSh.out).mono ?_)
  rintro e w8 ⟨v8, rfl, o8, b8⟩
  have c8 := btrans c7 b8
  have db := btrans db b8
  have dC := btrans dC b8
  have dM := btrans dM b8
  have dP := btrans dP b8
  have da := btrans da b8
  have dl := btrans dl b8
  obtain ⟨AS, capS, rfl, iS, -⟩ := o8.ints bdf.2
  have HIS := Lib.hid (fun w' (hb : Below w8.heap.size w8 w') => iS.on hb)
  have dS := Below.refl w8.heap.size w8
  clear o8 iS
  go_wp2_with fail
  (with_reducible refine (cut_s _ _ _ bs need _ (HBl.out _ dl) HSh.out).mono ?_)
  rintro e w9 ⟨v9, rfl, o9, b9⟩
  have c9 := btrans c8 b9
  have db := btrans db b9
  have dC := btrans dC b9
  have dM := btrans dM b9
  have dP := btrans dP b9
  have da := btrans da b9
  have dl := btrans dl b9
  have dS := btrans dS b9
  obtain ⟨AF, capF, rfl, iF, -⟩ := o9.ints bdf.2
  have HIF := Lib.hid (fun w' (hb : Below w9.heap.size w9 w') => iF.on hb)
  have dF := Below.refl w9.heap.size w9
  clear o9 iF
  go_wp2_with fail
  (with_reducible refine (draw_ynow A n c _ (HOC.out _ c9)).mono ?_)
  rintro e w10 ⟨zc, ac, gc, kc, rfl, vc, b10⟩
  have c10 := btrans c9 b10
  have db := btrans db b10
  have dC := btrans dC b10
  have dM := btrans dM b10
  have dP := btrans dP b10
  have da := btrans da b10
  have dl := btrans dl b10
  have dS := btrans dS b10
  have dF := btrans dF b10
  have HBc : Hid (∀ w', Below (w10.alloc (.cells #[.slice (some ⟨gc, 0, none⟩) zc.length kc, .int .i64 ac] 41)).heap.size (w10.alloc (.cells #[.slice (some ⟨gc, 0, none⟩) zc.length kc, .int .i64 ac] 41)) w' → Blk w' w10.heap.size 41 #[.slice (some ⟨gc, 0, none⟩) zc.length kc, .int .i64 ac] ∧ BedV w' zc ac gc kc) := fun w' hb => ⟨(Blk.new w10 _ _).on hb, (vc.on (balloc (Below.refl _ w10) _)).on hb⟩
  have hlc : zc.length ≤ 1048576 := by have := vc.len; omega
  have dc := Below.refl (w10.alloc (.cells #[.slice (some ⟨gc, 0, none⟩) zc.length kc, .int .i64 ac] 41)).heap.size (w10.alloc (.cells #[.slice (some ⟨gc, 0, none⟩) zc.length kc, .int .i64 ac] 41))
  have c10 := btrans c10 (balloc (Below.refl _ w10) (.cells #[.slice (some ⟨gc, 0, none⟩) zc.length kc, .int .i64 ac] 41))
  have db := btrans db (balloc (Below.refl _ w10) (.cells #[.slice (some ⟨gc, 0, none⟩) zc.length kc, .int .i64 ac] 41))
  have dC := btrans dC (balloc (Below.refl _ w10) (.cells #[.slice (some ⟨gc, 0, none⟩) zc.length kc, .int .i64 ac] 41))
  have dM := btrans dM (balloc (Below.refl _ w10) (.cells #[.slice (some ⟨gc, 0, none⟩) zc.length kc, .int .i64 ac] 41))
  have dP := btrans dP (balloc (Below.refl _ w10) (.cells #[.slice (some ⟨gc, 0, none⟩) zc.length kc, .int .i64 ac] 41))
  have da := btrans da (balloc (Below.refl _ w10) (.cells #[.slice (some ⟨gc, 0, none⟩) zc.length kc, .int .i64 ac] 41))
  have dl := btrans dl (balloc (Below.refl _ w10) (.cells #[.slice (some ⟨gc, 0, none⟩) zc.length kc, .int .i64 ac] 41))
  have dS := btrans dS (balloc (Below.refl _ w10) (.cells #[.slice (some ⟨gc, 0, none⟩) zc.length kc, .int .i64 ac] 41))
  have dF := btrans dF (balloc (Below.refl _ w10) (.cells #[.slice (some ⟨gc, 0, none⟩) zc.length kc, .int .i64 ac] 41))
  clear vc
  go_wp2_with fail
  (with_reducible refine (yn_i _ _ zc ac _ (HBc.out _ dc).2.ints hlc).mono ?_)
  rintro e w11 ⟨rfl, b11⟩
  have c11 := btrans c10 b11
  have db := btrans db b11
  have dC := btrans dC b11
  have dM := btrans dM b11
  have dP := btrans dP b11
  have da := btrans da b11
  have dl := btrans dl b11
  have dS := btrans dS b11
  have dF := btrans dF b11
  have dc := btrans dc b11
  have CC := (HBc.out _ dc).1
  have CCl := CC.lt
  have CCc0 := CC.cell 0
  have CCf0 := CC.frozen 0
  have CCc1 := CC.cell 1
  have CCf1 := CC.frozen 1
  simp at CCc0 CCc1
  have CCH := Lib.hid CC
  clear CC
  go_wp2_with fail
  (with_reducible refine (yn_s _ _ zc ac _ (HBc.out _ dc).2.ints hlc).mono ?_)
  rintro e w12 ⟨rfl, b12⟩
  clear CCc0 CCc1 CCf0 CCf1 CCl CCH
  have c12 := btrans c11 b12
  have db := btrans db b12
  have dC := btrans dC b12
  have dM := btrans dM b12
  have dP := btrans dP b12
  have da := btrans da b12
  have dl := btrans dl b12
  have dS := btrans dS b12
  have dF := btrans dF b12
  have dc := btrans dc b12
  go_wp2_with fail
  (with_reducible refine (f6ints_c _ _ _ _ _ (bcL zb ab yb) _ (HIC.out _ dC) (HIM.out _ dM) bdb.1).mono ?_)
  rintro e w13 ⟨rfl, b13⟩
  have c13 := btrans c12 b13
  have db := btrans db b13
  have dC := btrans dC b13
  have dM := btrans dM b13
  have dP := btrans dP b13
  have da := btrans da b13
  have dl := btrans dl b13
  have dS := btrans dS b13
  have dF := btrans dF b13
  have dc := btrans dc b13
  go_wp2_with fail
  (with_reducible refine (f6ints_c _ _ _ _ _ (cfL bs m need) _ (HIS.out _ dS) (HIF.out _ dF) bdf.1).mono ?_)
  rintro e w14 ⟨rfl, b14⟩
  have c14 := btrans c13 b14
  have db := btrans db b14
  have dC := btrans dC b14
  have dM := btrans dM b14
  have dP := btrans dP b14
  have da := btrans da b14
  have dl := btrans dl b14
  have dS := btrans dS b14
  have dF := btrans dF b14
  have dc := btrans dc b14
  go_wp2_with fail
  (with_reducible refine (ValidBeds_i _ _ _ bs _ (HBl.out _ dl) HSh.out).mono ?_)
  rintro e w15 ⟨rfl, b15⟩
  have c15 := btrans c14 b15
  have db := btrans db b15
  have dC := btrans dC b15
  have dM := btrans dM b15
  have dP := btrans dP b15
  have da := btrans da b15
  have dl := btrans dl b15
  have dS := btrans dS b15
  have dF := btrans dF b15
  have dc := btrans dc b15
  go_wp2_with fail
  (with_reducible refine (ValidBeds_s _ _ _ bs _ (HBl.out _ dl) HSh.out).mono ?_)
  rintro e w16 ⟨rfl, b16⟩
  have c16 := btrans c15 b16
  have db := btrans db b16
  have dC := btrans dC b16
  have dM := btrans dM b16
  have dP := btrans dP b16
  have da := btrans da b16
  have dl := btrans dl b16
  have dS := btrans dS b16
  have dF := btrans dF b16
  have dc := btrans dc b16
  by_cases h1 : ypC za aa P P.length ya = 0
  · obtain ⟨q1, q2⟩ := plan_le h1
    have AA := (HBa.out _ da).1
    have AAl := AA.lt
    have AAc0 := AA.cell 0
    have AAf0 := AA.frozen 0
    have AAc1 := AA.cell 1
    have AAf1 := AA.frozen 1
    simp at AAc0 AAc1
    have AAH := Lib.hid AA
    clear AA
    go_wp2_with fail
    (with_reducible refine (best_i _ _ za aa ya _ (HBa.out _ da).2.ints hla).mono ?_)
    rintro e w17 ⟨v17, rfl, o17, b17⟩
    clear AAc0 AAc1 AAf0 AAf1 AAl AAH
    rw [q1]
    clear o17
    have c17 := btrans c16 b17
    have db := btrans db b17
    have dC := btrans dC b17
    have dl := btrans dl b17
    have dF := btrans dF b17
    have da := btrans da b17
    by_cases h3 : cfC bs m need = 0
    · obtain ⟨r1, r2, r3, r4⟩ := cut_enough h3
      have HR3 := Lib.hid r3
      have HR4 := Lib.hid r4
      clear r3 r4
      generalize cfL bs m need = F at *
      have hFl : (F.length : Int) ≤ 1000 := by omega
      go_wp2_with fail
      go_loopw [32, 33] (fun s i wr => ∃ j : Nat, j ≤ F.length ∧ i = .int .i64 j ∧ s = .int .i64 (sumOver (yNow bs) (F.take j)) ∧ Below w17.heap.size w17 wr) (fun _ i _ => F.length - (intOf i).toNat)
      case atStart => exact ⟨0, Nat.zero_le _, rfl, rfl, Below.refl _ _⟩
      case round =>
        obtain ⟨j, hj, rfl, rfl, hbr⟩ := hrel
        have hsb := sumOver_bd (f := yNow bs) (n := m) HR3.out (fun i hi => by have := yNow_bd r1 hi; omega) j hj
        have db := btrans db hbr
        have dC := btrans dC hbr
        have dl := btrans dl hbr
        have dF := btrans dF hbr
        have da := btrans da hbr
        have cr := btrans c17 hbr
        by_cases hjl : j < F.length
        · have hx := HR3.out j hjl
          have HSS : Hid (sumOver (yNow bs) (F.take (j + 1)) = sumOver (yNow bs) (F.take j) + yNow bs (gi F j).toNat) := by show _ = _; rw [take_snoc hjl, sumOver_snoc]
          obtain ⟨b2, off2, rfl, hb2', e0⟩ := (HIF.out _ dF).at1 hjl
          generalize sumOver (yNow bs) (F.take j) = sm at *
          generalize gi F j = x at *
          obtain ⟨y, rfl⟩ := Int.eq_ofNat_of_zero_le hx.1
          have hyn : y < m := by omega
          obtain ⟨b, off, A', m', c', rfl, hb', f0, f1, hm', hI⟩ := (HBl.out _ dl).at_ y hyn
          obtain rfl : m' = (yl bs y).length := by have := hI.length; omega
          have hbo := bedOk_bd (okAll_get r1 hyn)
          have hok := okAll_get r1 hyn
          have g2 := hbo.2.1
          have hy := yNow_bd r1 hyn
          have hV : ynV (yl bs y) (ag bs y) = yNow bs y ∧ ynC (yl bs y) (ag bs y) = 0 := by have hok' : bedOk (yl bs y) (ag bs y) = true := hok; simp [ynV, ynC, hok', yNow]
          have HV := Lib.hid hV
          clear hbo hok hV
          go_wp2_with fail
          (with_reducible refine (yn_i A' c' (yl bs y) (ag bs y) _ hI (by omega)).mono ?_)
          rintro e w31 ⟨rfl, b31⟩
          rw [HV.out.1, HV.out.2]
          go_wp2_with fail
          go_roundw
          case rel =>
            have e := HSS.out
            rw [Int.toNat_natCast] at e
            exact ⟨j + 1, by omega, by go_num, by rw [e], btrans hbr b31⟩
          case measure => simp [intOf]; omega
        · obtain rfl : j = F.length := by omega
          have HT : Hid (F.take F.length = F) := List.take_length
          rw [HT.out]
          rw [HT.out] at hsb
          have hge := HR4.out
          generalize sumOver (yNow bs) F = tot at *
          have hnlt : ¬ tot < need := by omega
          by_cases h5 : bcC zb ab yb = 0
          · obtain ⟨e1, e2⟩ := best_own h5
            have BB := (HBb.out _ db).1
            have BBl := BB.lt
            have BBc0 := BB.cell 0
            have BBf0 := BB.frozen 0
            have BBc1 := BB.cell 1
            have BBf1 := BB.frozen 1
            simp at BBc0 BBc1
            have BBH := Lib.hid BB
            clear BB
            go_wp2_with fail
            (with_reducible refine (yop_i _ _ _ _ zb (bcL zb ab yb) ab yb _ (HBb.out _ db).2.ints (HIC.out _ dC) hlb (by omega)).mono ?_)
            rintro e w30 ⟨rfl, b30⟩
            clear BBc0 BBc1 BBf0 BBf1 BBl BBH
            rw [e1, e2]
            go_wp2_with fail
            go_ret
            exact ⟨by first | rfl | simp, btrans cr b30⟩
          · have hb5 : (bcC zb ab yb == 0) = false := by simpa using h5
            have hb6 : (bcC zb ab yb != 0) = true := by simpa using h5
            go_wp2_with fail
            go_ret
            exact ⟨rfl, cr⟩
    · have hb3 : (cfC bs m need == 0) = false := by simpa using h3
      by_cases h5 : bcC zb ab yb = 0
      · obtain ⟨e1, e2⟩ := best_own h5
        have BB := (HBb.out _ db).1
        have BBl := BB.lt
        have BBc0 := BB.cell 0
        have BBf0 := BB.frozen 0
        have BBc1 := BB.cell 1
        have BBf1 := BB.frozen 1
        simp at BBc0 BBc1
        have BBH := Lib.hid BB
        clear BB
        go_wp2_with fail
        (with_reducible refine (yop_i _ _ _ _ zb (bcL zb ab yb) ab yb _ (HBb.out _ db).2.ints (HIC.out _ dC) hlb (by omega)).mono ?_)
        rintro e w30 ⟨rfl, b30⟩
        clear BBc0 BBc1 BBf0 BBf1 BBl BBH
        rw [e1, e2]
        go_wp2_with fail
        go_ret
        exact ⟨by first | rfl | simp, btrans c17 b30⟩
      · have hb5 : (bcC zb ab yb == 0) = false := by simpa using h5
        have hb6 : (bcC zb ab yb != 0) = true := by simpa using h5
        go_wp2_with fail
        go_ret
        exact ⟨rfl, c17⟩
  · have hb1 : (ypC za aa P P.length ya == 0) = false := by simpa using h1
    by_cases h3 : cfC bs m need = 0
    · obtain ⟨r1, r2, r3, r4⟩ := cut_enough h3
      have HR3 := Lib.hid r3
      have HR4 := Lib.hid r4
      clear r3 r4
      generalize cfL bs m need = F at *
      have hFl : (F.length : Int) ≤ 1000 := by omega
      go_wp2_with fail
      go_loopw [32, 33] (fun s i wr => ∃ j : Nat, j ≤ F.length ∧ i = .int .i64 j ∧ s = .int .i64 (sumOver (yNow bs) (F.take j)) ∧ Below w16.heap.size w16 wr) (fun _ i _ => F.length - (intOf i).toNat)
      case atStart => exact ⟨0, Nat.zero_le _, rfl, rfl, Below.refl _ _⟩
      case round =>
        obtain ⟨j, hj, rfl, rfl, hbr⟩ := hrel
        have hsb := sumOver_bd (f := yNow bs) (n := m) HR3.out (fun i hi => by have := yNow_bd r1 hi; omega) j hj
        have db := btrans db hbr
        have dC := btrans dC hbr
        have dl := btrans dl hbr
        have dF := btrans dF hbr
        have da := btrans da hbr
        have cr := btrans c16 hbr
        by_cases hjl : j < F.length
        · have hx := HR3.out j hjl
          have HSS : Hid (sumOver (yNow bs) (F.take (j + 1)) = sumOver (yNow bs) (F.take j) + yNow bs (gi F j).toNat) := by show _ = _; rw [take_snoc hjl, sumOver_snoc]
          obtain ⟨b2, off2, rfl, hb2', e0⟩ := (HIF.out _ dF).at1 hjl
          generalize sumOver (yNow bs) (F.take j) = sm at *
          generalize gi F j = x at *
          obtain ⟨y, rfl⟩ := Int.eq_ofNat_of_zero_le hx.1
          have hyn : y < m := by omega
          obtain ⟨b, off, A', m', c', rfl, hb', f0, f1, hm', hI⟩ := (HBl.out _ dl).at_ y hyn
          obtain rfl : m' = (yl bs y).length := by have := hI.length; omega
          have hbo := bedOk_bd (okAll_get r1 hyn)
          have hok := okAll_get r1 hyn
          have g2 := hbo.2.1
          have hy := yNow_bd r1 hyn
          have hV : ynV (yl bs y) (ag bs y) = yNow bs y ∧ ynC (yl bs y) (ag bs y) = 0 := by have hok' : bedOk (yl bs y) (ag bs y) = true := hok; simp [ynV, ynC, hok', yNow]
          have HV := Lib.hid hV
          clear hbo hok hV
          go_wp2_with fail
          (with_reducible refine (yn_i A' c' (yl bs y) (ag bs y) _ hI (by omega)).mono ?_)
          rintro e w31 ⟨rfl, b31⟩
          rw [HV.out.1, HV.out.2]
          go_wp2_with fail
          go_roundw
          case rel =>
            have e := HSS.out
            rw [Int.toNat_natCast] at e
            exact ⟨j + 1, by omega, by go_num, by rw [e], btrans hbr b31⟩
          case measure => simp [intOf]; omega
        · obtain rfl : j = F.length := by omega
          have HT : Hid (F.take F.length = F) := List.take_length
          rw [HT.out]
          rw [HT.out] at hsb
          have hge := HR4.out
          generalize sumOver (yNow bs) F = tot at *
          have hnlt : ¬ tot < need := by omega
          by_cases h5 : bcC zb ab yb = 0
          · obtain ⟨e1, e2⟩ := best_own h5
            have BB := (HBb.out _ db).1
            have BBl := BB.lt
            have BBc0 := BB.cell 0
            have BBf0 := BB.frozen 0
            have BBc1 := BB.cell 1
            have BBf1 := BB.frozen 1
            simp at BBc0 BBc1
            have BBH := Lib.hid BB
            clear BB
            go_wp2_with fail
            (with_reducible refine (yop_i _ _ _ _ zb (bcL zb ab yb) ab yb _ (HBb.out _ db).2.ints (HIC.out _ dC) hlb (by omega)).mono ?_)
            rintro e w30 ⟨rfl, b30⟩
            clear BBc0 BBc1 BBf0 BBf1 BBl BBH
            rw [e1, e2]
            go_wp2_with fail
            go_ret
            exact ⟨by first | rfl | simp, btrans cr b30⟩
          · have hb5 : (bcC zb ab yb == 0) = false := by simpa using h5
            have hb6 : (bcC zb ab yb != 0) = true := by simpa using h5
            go_wp2_with fail
            go_ret
            exact ⟨rfl, cr⟩
    · have hb3 : (cfC bs m need == 0) = false := by simpa using h3
      by_cases h5 : bcC zb ab yb = 0
      · obtain ⟨e1, e2⟩ := best_own h5
        have BB := (HBb.out _ db).1
        have BBl := BB.lt
        have BBc0 := BB.cell 0
        have BBf0 := BB.frozen 0
        have BBc1 := BB.cell 1
        have BBf1 := BB.frozen 1
        simp at BBc0 BBc1
        have BBH := Lib.hid BB
        clear BB
        go_wp2_with fail
        (with_reducible refine (yop_i _ _ _ _ zb (bcL zb ab yb) ab yb _ (HBb.out _ db).2.ints (HIC.out _ dC) hlb (by omega)).mono ?_)
        rintro e w30 ⟨rfl, b30⟩
        clear BBc0 BBc1 BBf0 BBf1 BBl BBH
        rw [e1, e2]
        go_wp2_with fail
        go_ret
        exact ⟨by first | rfl | simp, btrans c16 b30⟩
      · have hb5 : (bcC zb ab yb == 0) = false := by simpa using h5
        have hb6 : (bcC zb ab yb != 0) = true := by simpa using h5
        go_wp2_with fail
        go_ret
        exact ⟨rfl, c16⟩
end Go.Proofs.Ytnlddplhaiceaaa
