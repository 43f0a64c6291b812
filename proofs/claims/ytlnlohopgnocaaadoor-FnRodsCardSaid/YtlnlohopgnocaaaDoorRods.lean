/-
  Rods at what the reference draws: thick enough just up to the told length, as thick as before without the tip, read back from their texts.
  No conditions of ours.
-/
import Derived.Test.YtlnlohopgnocaaaDoorRodsP
import Derived.Test.YtlnlohopgnocaaaDoorReadRod
import Derived.Test.YtlnlohopgnocaaaDoorDrawR
import Derived.WalkLawsBesides
import Derived.Laws.StructEq
namespace Go.Proofs.YtlnlohopgnocaaaDoor
open Go.ChangeShapes Go.WideShapes Go.ChangeAt Go.RowKit Go.Deep
set_option linter.unusedVariables false

set_option maxRecDepth 100000 in
set_option maxHeartbeats 16000000 in
theorem fnRods_c (A A' : Option Addr) (n c n' c' : Nat) (w : World) (h : Octets w w.heap.size A n) (h' : Octets w w.heap.size A' n') (hsh : w.ShapedOpen Tryd.prog) (ht : Tens w) :
    Calls Tryd.prog 8 #[.slice A n c, .slice A' n' c'] w fun e w' => e = .returned (.bool true) ∧ Below w.heap.size w w' := by
  have hn := h.le
  have hn' := h'.le
  have HSQ := Lib.hid hsh
  have HTQ := Lib.hid ht
  clear hsh ht
  rcases hbig : (decide (3000 < n) || decide (3000 < n')) with _ | _
  case true =>
    go_enter Tryd.func8, Tryd.ntmps8
    go_wp2_with fail
    refine (a2Long_c A A' n c n' c' _ hn hn').mono ?_
    rintro e w1 ⟨rfl, rfl⟩
    rw [hbig]
    go_wp2
    go_ret
    exact ⟨rfl, Below.refl _ _⟩
  case false =>
    have H' := Lib.hid (fun w1 (hb : Below w.heap.size w w1) => h'.below hb (Nat.le_refl _))
    go_enter Tryd.func8, Tryd.ntmps8
    go_wp2_with fail
    refine (a2Long_c A A' n c n' c' _ hn hn').mono ?_
    rintro e w1 ⟨rfl, rfl⟩
    rw [hbig]
    clear hbig
    go_wp2_with fail
    refine (A2Rod_s A n c _ h).mono ?_
    rintro e w2 ⟨l, b, t, rfl, ⟨l0, l1, d0, d1, t0, t1⟩, b2⟩
    have hok : rodOk l b t = true := by simp [rodOk, inR]; omega
    have HOK := Lib.hid hok
    have HTXV : Hid (txV l b t = mkB (rodTxt l b t)) := by show _ = _; unfold txV; rw [hok]; rfl
    have HRR := Lib.hid (rrT_some (rrV_txt l b t hok))
    have HSZ : Hid ((mkB (rodTxt l b t)).size ≤ 2097152) := by
      show _ ≤ _
      rw [mkB_size]
      have e1 := Lib.itoa_length_le l (by omega) (by omega)
      have e2 := Lib.itoa_length_le b (by omega) (by omega)
      have e3 := Lib.itoa_length_le t (by omega) (by omega)
      simp [rodTxt]; omega
    have b2a := balloc b2 (.cells #[.int .i64 l, .int .i64 b, .int .i64 t] 27)
    have R0 := Lib.hid (Blk.new w2 27 #[.int .i64 l, .int .i64 b, .int .i64 t])
    have HO1 := Lib.hid ((H'.out _ b2a).more b2a.size)
    go_wp2_with fail
    refine (a2At_c A' n' c' 0 110 _ HO1.out (by omega)).mono ?_
    rintro e w3 ⟨x, rfl, hx0, hx1, b3⟩
    have c3 := btrans b2a b3
    have S := R0.out.on b3
    have Sl := S.lt
    have Sc0 := S.cell 0
    have Sf0 := S.frozen 0
    have Sc1 := S.cell 1
    have Sf1 := S.frozen 1
    have Sc2 := S.cell 2
    have Sf2 := S.frozen 2
    simp at Sc0 Sc1 Sc2
    have SH := Lib.hid S
    clear S
    go_wp2_with fail
    (with_reducible refine (lenW_i l b t (1 + x) _).mono ?_)
    rintro e w4 ⟨rfl, b4⟩
    have c4 := btrans c3 b4
    have RS := Lib.hid (SH.out.on b4)
    clear Sc0 Sc1 Sc2 Sf0 Sf1 Sf2
    have V := RS.out
    have Vl := V.lt
    have Vc0 := V.cell 0
    have Vf0 := V.frozen 0
    have Vc1 := V.cell 1
    have Vf1 := V.frozen 1
    have Vc2 := V.cell 2
    have Vf2 := V.frozen 2
    simp at Vc0 Vc1 Vc2
    have VH := Lib.hid V
    clear V
    by_cases hb : 1 + x ≤ b
    · obtain ⟨a, ha, a0, a1, a2, a3⟩ := len_law l b t (1 + x) hok (by omega) (by omega) hb
      rw [ha]
      obtain ⟨f0, f1, f2, f3, f4, f5, f6, f7⟩ := th_law l b t a hok a0 a1
      have HF0 := Lib.hid f0
      have g3 := le_of_parts (by omega : 0 < l) (by omega) f1 a2
      have HA3 := Lib.hid a3
      clear ha a2 a3 f0
      obtain ⟨N, hN⟩ : ∃ N, thN l b t a = N := ⟨_, rfl⟩
      obtain ⟨D, hD⟩ : ∃ D, thD l b t a = D := ⟨_, rfl⟩
      have HND := Lib.hid (And.intro hN hD)
      rw [hN] at f1 f2 f3 g3
      rw [hD] at f1 f4 f5 g3
      clear hN hD
      have m1 : 0 ≤ (1 + x) * D := Int.mul_nonneg (by omega) (by omega)
      have m2 : (1 + x) * D ≤ 300 * 3000 := Int.mul_le_mul (by omega) f5 (by omega) (by omega)
      have m3 : 0 ≤ N * l := Int.mul_nonneg f2 (by omega)
      have m4 : N * l ≤ 900000 * 3000 := Int.mul_le_mul f3 (by omega) (by omega) (by omega)
      have m5 := thk_bd (l := l) (b := b) (t := t) (a := a) (by omega) (by omega) (by omega) (by omega) (by omega) (by omega) a0 a1
      obtain ⟨p0, p1, p2, p3, p4⟩ := m5
      have hk : thk l b t a = b * l - (b - t) * a := rfl
      rw [hk] at f1 f6 f7
      clear hk
      have m6 : 0 ≤ (b * l - (b - t) * a) * D := by rw [← f1]; exact m3
      have m7 : (b * l - (b - t) * a) * D ≤ 900000 * 3000 := by rw [← f1]; exact m4
      have hne : (N * l != (b * l - (b - t) * a) * D) = false := by rw [bne_eq_false_iff_eq]; exact f1
      clear f1
      go_wp2_with fail
      (with_reducible refine (thick_i l b t a _).mono ?_)
      rintro e w5 ⟨rfl, b5⟩
      rw [HF0.out, HND.out.1, HND.out.2]
      have c5 := btrans c4 b5
      have c5a := balloc c5 (.cells #[.int .i64 N, .int .i64 D] 47)
      clear Vc0 Vc1 Vc2 Vf0 Vf1 Vf2
      have RQ := Lib.hid ((VH.out.on b5).alloc (.cells #[.int .i64 N, .int .i64 D] 47))
      have U := RQ.out
      have Ul := U.lt
      have Uc0 := U.cell 0
      have Uf0 := U.frozen 0
      have Uc1 := U.cell 1
      have Uf1 := U.frozen 1
      have Uc2 := U.cell 2
      have Uf2 := U.frozen 2
      simp at Uc0 Uc1 Uc2
      have UH := Lib.hid U
      clear U
      have hU := Ul
      by_cases hal : a < l
      · obtain ⟨e0, e1, e2, e3, e4, e5, e6, e7⟩ := th_law l b t (a + 1) hok (by omega) (by omega)
        have g4 := lt_of_parts (by omega : 0 < l) (by omega) e1 (HA3.out hal)
        have HE0 := Lib.hid e0
        clear e0 e1 e6 e7
        obtain ⟨N2, hN⟩ : ∃ N2, thN l b t (a + 1) = N2 := ⟨_, rfl⟩
        obtain ⟨D2, hD⟩ : ∃ D2, thD l b t (a + 1) = D2 := ⟨_, rfl⟩
        have HND2 := Lib.hid (And.intro hN hD)
        rw [hN] at e2 e3 g4
        rw [hD] at e4 e5 g4
        clear hN hD
        have q1 : 0 ≤ (1 + x) * D2 := Int.mul_nonneg (by omega) (by omega)
        have q2 : (1 + x) * D2 ≤ 300 * 3000 := Int.mul_le_mul (by omega) e5 (by omega) (by omega)
        go_wp2_with fail
        (with_reducible refine (thick_i l b t (a + 1) _).mono ?_)
        rintro e w6 ⟨rfl, b6⟩
        rw [HE0.out, HND2.out.1, HND2.out.2]
        have cq := balloc (btrans c5a b6) (.cells #[.int .i64 N2, .int .i64 D2] 47)
        clear Uc0 Uc1 Uc2 Uf0 Uf1 Uf2 RQ
        have RQ := Lib.hid ((UH.out.on b6).alloc (.cells #[.int .i64 N2, .int .i64 D2] 47))
        clear UH VH SH RS R0
        have hqs := cq.size
        have Q := RQ.out
        have Ql := Q.lt
        have Qc0 := Q.cell 0
        have Qf0 := Q.frozen 0
        have Qc1 := Q.cell 1
        have Qf1 := Q.frozen 1
        have Qc2 := Q.cell 2
        have Qf2 := Q.frozen 2
        simp at Qc0 Qc1 Qc2
        have QH := Lib.hid Q
        clear Q
        have HO := Lib.hid ((H'.out _ cq).more cq.size)
        go_wp2_with fail
        clear q1 q2 g4 e2 e3 e4 e5 m1 m2 m3 m4 m6 m7 hne p0 p1 p2 p3 p4 f2 f3 f4 f5 f6 f7 g3
        refine (a2At_c A' n' c' 1 (l - 99) _ HO.out (by omega)).mono ?_
        rintro e w20 ⟨y, rfl, hy0, hy1, b20⟩
        have c20 := btrans cq b20
        obtain ⟨k1, k2, k3, k4, k5, k6, k7⟩ := cut_law l b t (100 + y) hok (by omega) (by omega)
        obtain ⟨f0, f1, f2, f3, f4, f5, f6, f7⟩ := th_law l b t (100 + y) hok (by omega) (by omega)
        have HK := Lib.hid (And.intro k1 (And.intro k2 k3))
        have HF0 := Lib.hid f0
        clear k1 k2 k3 f0 f1
        clear Qc0 Qc1 Qc2 Qf0 Qf1 Qf2
        have P := QH.out.on b20
        have Pl := P.lt
        have Pc0 := P.cell 0
        have Pf0 := P.frozen 0
        have Pc1 := P.cell 1
        have Pf1 := P.frozen 1
        have Pc2 := P.cell 2
        have Pf2 := P.frozen 2
        simp at Pc0 Pc1 Pc2
        have PH := Lib.hid P
        clear P
        have g1 : 0 ≤ 100 + y := by omega
        have g2 : 100 + y ≤ 3000 := by omega
        go_wp2_with fail
        (with_reducible refine (cut_i l b t (100 + y) _).mono ?_)
        rintro e w21 ⟨rfl, b21⟩
        rw [HK.out.1, HK.out.2.1, HK.out.2.2]
        obtain ⟨T, hT⟩ : ∃ T, ctT l b t (100 + y) = T := ⟨_, rfl⟩
        obtain ⟨N, hN⟩ : ∃ N, thN l b t (100 + y) = N := ⟨_, rfl⟩
        obtain ⟨D, hD⟩ : ∃ D, thD l b t (100 + y) = D := ⟨_, rfl⟩
        rw [hT] at k4 k5
        rw [hT, hD, hN] at k6 k7
        rw [hN] at f2 f3
        rw [hD] at f4 f5
        rw [hT]
        have HTN := Lib.hid (And.intro hN hD)
        clear hT hN hD f6 f7
        have m1 : 0 ≤ T * D := Int.mul_nonneg k4 (by omega)
        have m2 : T * D ≤ 900000 := by omega
        have m3 : 0 ≤ (T + 1) * D := Int.mul_nonneg (by omega) (by omega)
        have m4 : (T + 1) * D ≤ 900001 * 3000 := Int.mul_le_mul (by omega) f5 (by omega) (by omega)
        have c21 := btrans c20 b21
        clear Pc0 Pc1 Pc2 Pf0 Pf1 Pf2
        have O := (PH.out.on b21).alloc (.cells #[.int .i64 (100 + y), .int .i64 b, .int .i64 T] 27)
        have Ol := O.lt
        have Oc0 := O.cell 0
        have Of0 := O.frozen 0
        have Oc1 := O.cell 1
        have Of1 := O.frozen 1
        have Oc2 := O.cell 2
        have Of2 := O.frozen 2
        simp at Oc0 Oc1 Oc2
        have OH := Lib.hid O
        clear O
        have c21a := balloc c21 (.cells #[.int .i64 (100 + y), .int .i64 b, .int .i64 T] 27)
        go_wp2_with fail
        (with_reducible refine (thick_s l b t (100 + y) _).mono ?_)
        rintro e w22 ⟨rfl, b22⟩
        rw [HF0.out, HTN.out.1, HTN.out.2]
        have c22 := btrans c21a b22
        have c22a := balloc c22 (.cells #[.int .i64 N, .int .i64 D] 47)
        clear Oc0 Oc1 Oc2 Of0 Of1 Of2
        have N := (OH.out.on b22).alloc (.cells #[.int .i64 N, .int .i64 D] 47)
        have Nl := N.lt
        have Nc0 := N.cell 0
        have Nf0 := N.frozen 0
        have Nc1 := N.cell 1
        have Nf1 := N.frozen 1
        have Nc2 := N.cell 2
        have Nf2 := N.frozen 2
        simp at Nc0 Nc1 Nc2
        have NH := Lib.hid N
        clear N
        have hC21 := Lib.hid ((Blk.new w21 27 #[.int .i64 (100 + y), .int .i64 b, .int .i64 T]).on b22)
        have HTX := Lib.hid (HTQ.out.on (c22a))
        go_wp2_with fail
        (with_reducible refine (text_i l b t _ HTX.out).mono ?_)
        rintro e w23 ⟨rfl, b23⟩
        rw [HTXV.out]
        have c23 := btrans c22a b23
        go_wp2_with fail
        (with_reducible refine (readRod_i (mkB (rodTxt l b t)) _ HSZ.out (shaped_on' HSQ.out c23) (HTQ.out.on c23)).mono ?_)
        rintro e w24 ⟨rfl, b24⟩
        rw [HRR.out]
        have c24 := btrans c23 b24
        clear Nc0 Nc1 Nc2 Nf0 Nf1 Nf2
        have b234 := btrans b23 b24
        have M := (NH.out.on b23).on b24
        have Ml := M.lt
        have Mc0 := M.cell 0
        have Mf0 := M.frozen 0
        have Mc1 := M.cell 1
        have Mf1 := M.frozen 1
        have Mc2 := M.cell 2
        have Mf2 := M.frozen 2
        simp at Mc0 Mc1 Mc2
        have MH := Lib.hid M
        clear M
        have C := ((hC21.out.alloc (.cells #[.int .i64 N, .int .i64 D] 47)).on b23).on b24
        have Cl := C.lt
        have Cc0 := C.cell 0
        have Cf0 := C.frozen 0
        have Cc1 := C.cell 1
        have Cf1 := C.frozen 1
        have Cc2 := C.cell 2
        have Cf2 := C.frozen 2
        simp at Cc0 Cc1 Cc2
        have CH := Lib.hid C
        clear C
        have F := ((Blk.new w22 47 #[.int .i64 N, .int .i64 D]).on b23).on b24
        have Fl := F.lt
        have Fc0 := F.cell 0
        have Ff0 := F.frozen 0
        have Fc1 := F.cell 1
        have Ff1 := F.frozen 1
        simp at Fc0 Fc1
        have FH := Lib.hid F
        clear F
        go_wp2
        go_ret
        exact ⟨rfl, balloc c24 _⟩
      · have cq := c5a
        clear Uc0 Uc1 Uc2 Uf0 Uf1 Uf2 UH VH SH RS R0
        have hqs := cq.size
        have Q := RQ.out
        have Ql := Q.lt
        have Qc0 := Q.cell 0
        have Qf0 := Q.frozen 0
        have Qc1 := Q.cell 1
        have Qf1 := Q.frozen 1
        have Qc2 := Q.cell 2
        have Qf2 := Q.frozen 2
        simp at Qc0 Qc1 Qc2
        have QH := Lib.hid Q
        clear Q
        have HO := Lib.hid ((H'.out _ cq).more cq.size)
        go_wp2_with fail
        clear m1 m2 m3 m4 m6 m7 hne p0 p1 p2 p3 p4 f2 f3 f4 f5 f6 f7 g3
        refine (a2At_c A' n' c' 1 (l - 99) _ HO.out (by omega)).mono ?_
        rintro e w20 ⟨y, rfl, hy0, hy1, b20⟩
        have c20 := btrans cq b20
        obtain ⟨k1, k2, k3, k4, k5, k6, k7⟩ := cut_law l b t (100 + y) hok (by omega) (by omega)
        obtain ⟨f0, f1, f2, f3, f4, f5, f6, f7⟩ := th_law l b t (100 + y) hok (by omega) (by omega)
        have HK := Lib.hid (And.intro k1 (And.intro k2 k3))
        have HF0 := Lib.hid f0
        clear k1 k2 k3 f0 f1
        clear Qc0 Qc1 Qc2 Qf0 Qf1 Qf2
        have P := QH.out.on b20
        have Pl := P.lt
        have Pc0 := P.cell 0
        have Pf0 := P.frozen 0
        have Pc1 := P.cell 1
        have Pf1 := P.frozen 1
        have Pc2 := P.cell 2
        have Pf2 := P.frozen 2
        simp at Pc0 Pc1 Pc2
        have PH := Lib.hid P
        clear P
        have g1 : 0 ≤ 100 + y := by omega
        have g2 : 100 + y ≤ 3000 := by omega
        go_wp2_with fail
        (with_reducible refine (cut_i l b t (100 + y) _).mono ?_)
        rintro e w21 ⟨rfl, b21⟩
        rw [HK.out.1, HK.out.2.1, HK.out.2.2]
        obtain ⟨T, hT⟩ : ∃ T, ctT l b t (100 + y) = T := ⟨_, rfl⟩
        obtain ⟨N, hN⟩ : ∃ N, thN l b t (100 + y) = N := ⟨_, rfl⟩
        obtain ⟨D, hD⟩ : ∃ D, thD l b t (100 + y) = D := ⟨_, rfl⟩
        rw [hT] at k4 k5
        rw [hT, hD, hN] at k6 k7
        rw [hN] at f2 f3
        rw [hD] at f4 f5
        rw [hT]
        have HTN := Lib.hid (And.intro hN hD)
        clear hT hN hD f6 f7
        have m1 : 0 ≤ T * D := Int.mul_nonneg k4 (by omega)
        have m2 : T * D ≤ 900000 := by omega
        have m3 : 0 ≤ (T + 1) * D := Int.mul_nonneg (by omega) (by omega)
        have m4 : (T + 1) * D ≤ 900001 * 3000 := Int.mul_le_mul (by omega) f5 (by omega) (by omega)
        have c21 := btrans c20 b21
        clear Pc0 Pc1 Pc2 Pf0 Pf1 Pf2
        have O := (PH.out.on b21).alloc (.cells #[.int .i64 (100 + y), .int .i64 b, .int .i64 T] 27)
        have Ol := O.lt
        have Oc0 := O.cell 0
        have Of0 := O.frozen 0
        have Oc1 := O.cell 1
        have Of1 := O.frozen 1
        have Oc2 := O.cell 2
        have Of2 := O.frozen 2
        simp at Oc0 Oc1 Oc2
        have OH := Lib.hid O
        clear O
        have c21a := balloc c21 (.cells #[.int .i64 (100 + y), .int .i64 b, .int .i64 T] 27)
        go_wp2_with fail
        (with_reducible refine (thick_s l b t (100 + y) _).mono ?_)
        rintro e w22 ⟨rfl, b22⟩
        rw [HF0.out, HTN.out.1, HTN.out.2]
        have c22 := btrans c21a b22
        have c22a := balloc c22 (.cells #[.int .i64 N, .int .i64 D] 47)
        clear Oc0 Oc1 Oc2 Of0 Of1 Of2
        have N := (OH.out.on b22).alloc (.cells #[.int .i64 N, .int .i64 D] 47)
        have Nl := N.lt
        have Nc0 := N.cell 0
        have Nf0 := N.frozen 0
        have Nc1 := N.cell 1
        have Nf1 := N.frozen 1
        have Nc2 := N.cell 2
        have Nf2 := N.frozen 2
        simp at Nc0 Nc1 Nc2
        have NH := Lib.hid N
        clear N
        have hC21 := Lib.hid ((Blk.new w21 27 #[.int .i64 (100 + y), .int .i64 b, .int .i64 T]).on b22)
        have HTX := Lib.hid (HTQ.out.on (c22a))
        go_wp2_with fail
        (with_reducible refine (text_i l b t _ HTX.out).mono ?_)
        rintro e w23 ⟨rfl, b23⟩
        rw [HTXV.out]
        have c23 := btrans c22a b23
        go_wp2_with fail
        (with_reducible refine (readRod_i (mkB (rodTxt l b t)) _ HSZ.out (shaped_on' HSQ.out c23) (HTQ.out.on c23)).mono ?_)
        rintro e w24 ⟨rfl, b24⟩
        rw [HRR.out]
        have c24 := btrans c23 b24
        clear Nc0 Nc1 Nc2 Nf0 Nf1 Nf2
        have b234 := btrans b23 b24
        have M := (NH.out.on b23).on b24
        have Ml := M.lt
        have Mc0 := M.cell 0
        have Mf0 := M.frozen 0
        have Mc1 := M.cell 1
        have Mf1 := M.frozen 1
        have Mc2 := M.cell 2
        have Mf2 := M.frozen 2
        simp at Mc0 Mc1 Mc2
        have MH := Lib.hid M
        clear M
        have C := ((hC21.out.alloc (.cells #[.int .i64 N, .int .i64 D] 47)).on b23).on b24
        have Cl := C.lt
        have Cc0 := C.cell 0
        have Cf0 := C.frozen 0
        have Cc1 := C.cell 1
        have Cf1 := C.frozen 1
        have Cc2 := C.cell 2
        have Cf2 := C.frozen 2
        simp at Cc0 Cc1 Cc2
        have CH := Lib.hid C
        clear C
        have F := ((Blk.new w22 47 #[.int .i64 N, .int .i64 D]).on b23).on b24
        have Fl := F.lt
        have Fc0 := F.cell 0
        have Ff0 := F.frozen 0
        have Fc1 := F.cell 1
        have Ff1 := F.frozen 1
        simp at Fc0 Fc1
        have FH := Lib.hid F
        clear F
        go_wp2
        go_ret
        exact ⟨rfl, balloc c24 _⟩
    · have ha : lenW l b t (1 + x) = (0, 3) := by
        have hin : inR (1 + x) 1 300 = true := by simp [inR]; omega
        simp [lenW, HOK.out, hin]; omega
      rw [ha]
      clear ha
      have cq := c4
      clear Vc0 Vc1 Vc2 Vf0 Vf1 Vf2
      have RQ := RS
      clear SH R0
      have hqs := cq.size
      have Q := RQ.out
      have Ql := Q.lt
      have Qc0 := Q.cell 0
      have Qf0 := Q.frozen 0
      have Qc1 := Q.cell 1
      have Qf1 := Q.frozen 1
      have Qc2 := Q.cell 2
      have Qf2 := Q.frozen 2
      simp at Qc0 Qc1 Qc2
      have QH := Lib.hid Q
      clear Q
      have HO := Lib.hid ((H'.out _ cq).more cq.size)
      go_wp2_with fail
      refine (a2At_c A' n' c' 1 (l - 99) _ HO.out (by omega)).mono ?_
      rintro e w20 ⟨y, rfl, hy0, hy1, b20⟩
      have c20 := btrans cq b20
      obtain ⟨k1, k2, k3, k4, k5, k6, k7⟩ := cut_law l b t (100 + y) hok (by omega) (by omega)
      obtain ⟨f0, f1, f2, f3, f4, f5, f6, f7⟩ := th_law l b t (100 + y) hok (by omega) (by omega)
      have HK := Lib.hid (And.intro k1 (And.intro k2 k3))
      have HF0 := Lib.hid f0
      clear k1 k2 k3 f0 f1
      clear Qc0 Qc1 Qc2 Qf0 Qf1 Qf2
      have P := QH.out.on b20
      have Pl := P.lt
      have Pc0 := P.cell 0
      have Pf0 := P.frozen 0
      have Pc1 := P.cell 1
      have Pf1 := P.frozen 1
      have Pc2 := P.cell 2
      have Pf2 := P.frozen 2
      simp at Pc0 Pc1 Pc2
      have PH := Lib.hid P
      clear P
      have g1 : 0 ≤ 100 + y := by omega
      have g2 : 100 + y ≤ 3000 := by omega
      go_wp2_with fail
      (with_reducible refine (cut_i l b t (100 + y) _).mono ?_)
      rintro e w21 ⟨rfl, b21⟩
      rw [HK.out.1, HK.out.2.1, HK.out.2.2]
      obtain ⟨T, hT⟩ : ∃ T, ctT l b t (100 + y) = T := ⟨_, rfl⟩
      obtain ⟨N, hN⟩ : ∃ N, thN l b t (100 + y) = N := ⟨_, rfl⟩
      obtain ⟨D, hD⟩ : ∃ D, thD l b t (100 + y) = D := ⟨_, rfl⟩
      rw [hT] at k4 k5
      rw [hT, hD, hN] at k6 k7
      rw [hN] at f2 f3
      rw [hD] at f4 f5
      rw [hT]
      have HTN := Lib.hid (And.intro hN hD)
      clear hT hN hD f6 f7
      have m1 : 0 ≤ T * D := Int.mul_nonneg k4 (by omega)
      have m2 : T * D ≤ 900000 := by omega
      have m3 : 0 ≤ (T + 1) * D := Int.mul_nonneg (by omega) (by omega)
      have m4 : (T + 1) * D ≤ 900001 * 3000 := Int.mul_le_mul (by omega) f5 (by omega) (by omega)
      have c21 := btrans c20 b21
      clear Pc0 Pc1 Pc2 Pf0 Pf1 Pf2
      have O := (PH.out.on b21).alloc (.cells #[.int .i64 (100 + y), .int .i64 b, .int .i64 T] 27)
      have Ol := O.lt
      have Oc0 := O.cell 0
      have Of0 := O.frozen 0
      have Oc1 := O.cell 1
      have Of1 := O.frozen 1
      have Oc2 := O.cell 2
      have Of2 := O.frozen 2
      simp at Oc0 Oc1 Oc2
      have OH := Lib.hid O
      clear O
      have c21a := balloc c21 (.cells #[.int .i64 (100 + y), .int .i64 b, .int .i64 T] 27)
      go_wp2_with fail
      (with_reducible refine (thick_s l b t (100 + y) _).mono ?_)
      rintro e w22 ⟨rfl, b22⟩
      rw [HF0.out, HTN.out.1, HTN.out.2]
      have c22 := btrans c21a b22
      have c22a := balloc c22 (.cells #[.int .i64 N, .int .i64 D] 47)
      clear Oc0 Oc1 Oc2 Of0 Of1 Of2
      have N := (OH.out.on b22).alloc (.cells #[.int .i64 N, .int .i64 D] 47)
      have Nl := N.lt
      have Nc0 := N.cell 0
      have Nf0 := N.frozen 0
      have Nc1 := N.cell 1
      have Nf1 := N.frozen 1
      have Nc2 := N.cell 2
      have Nf2 := N.frozen 2
      simp at Nc0 Nc1 Nc2
      have NH := Lib.hid N
      clear N
      have hC21 := Lib.hid ((Blk.new w21 27 #[.int .i64 (100 + y), .int .i64 b, .int .i64 T]).on b22)
      have HTX := Lib.hid (HTQ.out.on (c22a))
      go_wp2_with fail
      (with_reducible refine (text_i l b t _ HTX.out).mono ?_)
      rintro e w23 ⟨rfl, b23⟩
      rw [HTXV.out]
      have c23 := btrans c22a b23
      go_wp2_with fail
      (with_reducible refine (readRod_i (mkB (rodTxt l b t)) _ HSZ.out (shaped_on' HSQ.out c23) (HTQ.out.on c23)).mono ?_)
      rintro e w24 ⟨rfl, b24⟩
      rw [HRR.out]
      have c24 := btrans c23 b24
      clear Nc0 Nc1 Nc2 Nf0 Nf1 Nf2
      have b234 := btrans b23 b24
      have M := (NH.out.on b23).on b24
      have Ml := M.lt
      have Mc0 := M.cell 0
      have Mf0 := M.frozen 0
      have Mc1 := M.cell 1
      have Mf1 := M.frozen 1
      have Mc2 := M.cell 2
      have Mf2 := M.frozen 2
      simp at Mc0 Mc1 Mc2
      have MH := Lib.hid M
      clear M
      have C := ((hC21.out.alloc (.cells #[.int .i64 N, .int .i64 D] 47)).on b23).on b24
      have Cl := C.lt
      have Cc0 := C.cell 0
      have Cf0 := C.frozen 0
      have Cc1 := C.cell 1
      have Cf1 := C.frozen 1
      have Cc2 := C.cell 2
      have Cf2 := C.frozen 2
      simp at Cc0 Cc1 Cc2
      have CH := Lib.hid C
      clear C
      have F := ((Blk.new w22 47 #[.int .i64 N, .int .i64 D]).on b23).on b24
      have Fl := F.lt
      have Fc0 := F.cell 0
      have Ff0 := F.frozen 0
      have Fc1 := F.cell 1
      have Ff1 := F.frozen 1
      simp at Fc0 Fc1
      have FH := Lib.hid F
      clear F
      go_wp2
      go_ret
      exact ⟨rfl, balloc c24 _⟩
end Go.Proofs.YtlnlohopgnocaaaDoor
