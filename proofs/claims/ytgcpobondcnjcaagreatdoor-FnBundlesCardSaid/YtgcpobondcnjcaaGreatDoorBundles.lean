/-
  FnBundles at what the reference draws.
  No conditions of ours.
-/
import Derived.Test.YtgcpobondcnjcaaGreatDoorBundlesP
import Derived.Test.YtgcpobondcnjcaaGreatDoorDrawSb
import Derived.Test.YtgcpobondcnjcaaGreatDoorBunchText
import Derived.Test.YtgcpobondcnjcaaGreatDoorSbS
import Derived.Test.YtgcpobondcnjcaaGreatDoorFewS
import Derived.Deep.RegionHeld3
import Derived.BigQuiet
import Derived.Deep.CutRange
namespace Go.Proofs.YtgcpobondcnjcaaGreatDoor
open Go.ChangeShapes Go.WideShapes Go.ChangeAt Go.RowKit Go.Deep
set_option linter.unusedVariables false

set_option maxRecDepth 100000 in
set_option maxHeartbeats 16000000 in
theorem fnBundles_c (A : Option Addr) (n c : Nat) (w : World) (h : Octets w w.heap.size A n) (ht : Tens w) :
    Calls Tryz.prog 3 #[.slice A n c] w fun e w' => e = .returned (.bool true) ∧ Below w.heap.size w w' := by
  have hn := h.le
  by_cases hbig : 4096 < n
  · have HB : Hid (decide (4096 < n) = true) := decide_eq_true hbig
    go_enter Tryz.func3, Tryz.ntmps3
    go_wp2_with fail
    refine (f6big_c _ _ _ _ hn).mono ?_
    rintro e w1 ⟨rfl, rfl⟩
    rw [HB.out]
    go_wp2
    go_ret
    exact ⟨rfl, Below.refl _ _⟩
  have HB : Hid (decide (4096 < n) = false) := decide_eq_false hbig
  have HOC := Lib.hid (fun w1 (hb : Below w.heap.size w w1) => (h.below hb (Nat.le_refl _)).more hb.size)
  have HTN := Lib.hid (fun w1 (hb : Below w.heap.size w w1) => Tens.on ht hb)
  go_enter Tryz.func3, Tryz.ntmps3
  go_wp2_with fail
  refine (f6big_c A n c _ hn).mono ?_
  rintro e w0 ⟨rfl, rfl⟩
  rw [HB.out]
  clear hbig h ht
  have cc0 := Below.refl w.heap.size w
  go_wp2_with fail
  (with_reducible refine (DrawGirthFor_s A n c _ (HOC.out _ cc0)).mono ?_)
  rintro e w1 ⟨r, t, rfl, hr0, hr1, ht0, ht1, b1⟩
  have cc1 := btrans cc0 b1
  obtain ⟨⟨gg, bad⟩, hG⟩ : ∃ G, girthV r t = G := ⟨_, rfl⟩
  have HG := Lib.hid hG
  clear hG
  go_wp2_with fail
  (with_reducible refine (girth_i r t _).mono ?_)
  rintro e w2 ⟨rfl, rfl⟩
  rw [HG.out]
  go_wp2_with fail
  (with_reducible refine (girth_s r t _).mono ?_)
  rintro e w3 ⟨rfl, rfl⟩
  rw [HG.out]
  go_wp2_with fail
  (with_reducible refine (DrawSortBunches_s A n c _ (HOC.out _ cc1)).mono ?_)
  rintro e w4 ⟨v1, m1, z1, rfl, hm1, hd1, b4⟩
  have cc4 := btrans cc1 b4
  obtain ⟨A1, p1, rfl, i1⟩ := hd1.ints
  have HI1 := Lib.hid (fun w' (hb : Below w4.heap.size w4 w') => (i1.below hb (Nat.le_refl _)).more hb.size)
  have d1 := Below.refl w4.heap.size w4
  obtain ⟨M, hM⟩ : ∃ M, M = sbN z1 m1 := ⟨_, rfl⟩
  obtain ⟨V, hV⟩ : ∃ V, V = sbV z1 m1 := ⟨_, rfl⟩
  have HSR : Hid (∀ i, 0 < i → i < M → ¬ gi V (i * 3) < gi V ((i - 1) * 3) ∧ (gi V ((i - 1) * 3) = gi V (i * 3) → ¬ gi V (i * 3 + 2) < gi V ((i - 1) * 3 + 2))) := by
    show ∀ i, _ → _ → _ ∧ _
    rw [hM, hV]; exact fun i q0 q1 => sb_rise i q0 q1
  have hMl : M ≤ m1 := by rw [hM]; exact sbN_le _ _
  have HVW : Hid (∀ z ∈ V, -9223372036854775808 ≤ z ∧ z ≤ 9223372036854775807) := by show ∀ z ∈ V, _; rw [hV]; exact sbV_wf i1.wf
  have HMV := Lib.hid (And.intro hM hV)
  clear hM hV hd1 i1
  go_wp2_with fail
  (with_reducible refine (sb_i A1 m1 p1 z1 _ (HI1.out _ d1) (by omega)).mono ?_)
  rintro e w5 ⟨v5, rfl, o5, b5⟩
  have cc5 := btrans cc4 b5
  replace d1 := btrans d1 b5
  rw [← HMV.out.1, ← HMV.out.2] at o5
  obtain ⟨AX, pX, rfl, iX, -⟩ := o5.ints HVW.out
  have HIX := Lib.hid (fun w' (hb : Below w5.heap.size w5 w') => (iX.below hb (Nat.le_refl _)).more hb.size)
  have dX := Below.refl w5.heap.size w5
  clear o5 iX
  go_wp2_with fail
  (with_reducible refine (sb_s A1 m1 p1 z1 _ (HI1.out _ d1) (by omega)).mono ?_)
  rintro e w6 ⟨v6, rfl, o6, b6⟩
  have cc6 := btrans cc5 b6
  replace d1 := btrans d1 b6
  replace dX := btrans dX b6
  rw [← HMV.out.1, ← HMV.out.2] at o6
  obtain ⟨AV, pV, rfl, iV, -⟩ := o6.ints HVW.out
  have HIV := Lib.hid (fun w' (hb : Below w6.heap.size w6 w') => (iV.below hb (Nat.le_refl _)).more hb.size)
  have dV := Below.refl w6.heap.size w6
  clear o6 iV
  obtain ⟨C1, hC1⟩ : ∃ C, sbC z1 m1 = C := ⟨_, rfl⟩
  rw [hC1]
  clear hC1
  go_wp2_with fail
  (with_reducible refine (draw_cart A n c _ (HOC.out _ cc6)).mono ?_)
  rintro e w7 ⟨v7, m2, z2, bears, rfl, hm2, hbe0, hbe1, hd2, b7⟩
  have cc7 := btrans cc6 b7
  replace d1 := btrans d1 b7
  replace dX := btrans dX b7
  replace dV := btrans dV b7
  obtain ⟨A2, p2, rfl, i2⟩ := hd2.ints
  have HI2 := Lib.hid (fun w' (hb : Below w7.heap.size w7 w') => (i2.below hb (Nat.le_refl _)).more hb.size)
  have d2 := Below.refl w7.heap.size w7
  clear hd2 i2
  obtain ⟨C2, hC2⟩ : ∃ C, fcC z2 m2 bears = C := ⟨_, rfl⟩
  obtain ⟨S2, hS2⟩ : ∃ S, fcV z2 m2 bears = S := ⟨_, rfl⟩
  obtain ⟨L2, hL2⟩ : ∃ L, fcL z2 m2 bears = L := ⟨_, rfl⟩
  have HE2 := Lib.hid (And.intro hL2 (And.intro hS2 hC2))
  have HL2b : Hid (L2.length ≤ m2 ∧ ∀ z ∈ L2, -9223372036854775808 ≤ z ∧ z ≤ 9223372036854775807) := by
    show _ ∧ _
    rw [← hL2]; exact ⟨fcL_len _ _ _, (fcL_bd z2 m2 bears (by omega)).2⟩
  have HF2 := Lib.hid (fc_law (zs := z2) (n := m2) (bears := bears))
  rw [hL2, hS2, hC2] at HF2
  clear hL2 hS2 hC2
  go_wp2_with fail
  (with_reducible refine (cart_i A2 m2 p2 z2 bears _ (HI2.out _ d2) (by omega)).mono ?_)
  rintro e w8 ⟨v8, rfl, o8, b8⟩
  have cc8 := btrans cc7 b8
  replace d1 := btrans d1 b8
  replace dX := btrans dX b8
  replace dV := btrans dV b8
  replace d2 := btrans d2 b8
  rw [HE2.out.2.1, HE2.out.2.2]
  rw [HE2.out.1] at o8
  obtain ⟨AF, pF, rfl, iF, -⟩ := o8.ints HL2b.out.2
  have HIF := Lib.hid (fun w' (hb : Below w8.heap.size w8 w') => (iF.below hb (Nat.le_refl _)).more hb.size)
  have dF := Below.refl w8.heap.size w8
  clear o8 iF
  go_wp2_with fail
  (with_reducible refine (cart_s A2 m2 p2 z2 bears _ (HI2.out _ d2) (by omega)).mono ?_)
  rintro e w9 ⟨v9, rfl, o9, b9⟩
  have cc9 := btrans cc8 b9
  replace d1 := btrans d1 b9
  replace dX := btrans dX b9
  replace dV := btrans dV b9
  replace d2 := btrans d2 b9
  replace dF := btrans dF b9
  rw [HE2.out.2.1, HE2.out.2.2]
  rw [HE2.out.1] at o9
  obtain ⟨AS, pS, rfl, iS, -⟩ := o9.ints HL2b.out.2
  have HIS := Lib.hid (fun w' (hb : Below w9.heap.size w9 w') => (iS.below hb (Nat.le_refl _)).more hb.size)
  have dS := Below.refl w9.heap.size w9
  clear o9 iS
  go_wp2_with fail
  (with_reducible refine (draw_few A n c _ (HOC.out _ cc9)).mono ?_)
  rintro e w10 ⟨v10, m3, z3, need, rfl, hm3, hne0, hne1, hd3, b10⟩
  have cc10 := btrans cc9 b10
  replace d1 := btrans d1 b10
  replace dX := btrans dX b10
  replace dV := btrans dV b10
  replace d2 := btrans d2 b10
  replace dF := btrans dF b10
  replace dS := btrans dS b10
  obtain ⟨A3, p3, rfl, i3⟩ := hd3.ints
  have HI3 := Lib.hid (fun w' (hb : Below w10.heap.size w10 w') => (i3.below hb (Nat.le_refl _)).more hb.size)
  have d3 := Below.refl w10.heap.size w10
  clear hd3 i3
  obtain ⟨C3, hC3⟩ : ∃ C, fwC z3 m3 need = C := ⟨_, rfl⟩
  obtain ⟨L3, hL3⟩ : ∃ L, fwL z3 m3 need = L := ⟨_, rfl⟩
  have HE3 := Lib.hid (And.intro hL3 hC3)
  have HL3b : Hid (L3.length ≤ m3 ∧ ∀ z ∈ L3, -9223372036854775808 ≤ z ∧ z ≤ 9223372036854775807) := by
    show _ ∧ _
    rw [← hL3]; exact ⟨fwL_len _ _ _, (fwL_bd z3 m3 need (by omega)).2⟩
  have HF3 := Lib.hid (fw_law (zs := z3) (n := m3) (need := need))
  rw [hL3, hC3] at HF3
  clear hL3 hC3
  go_wp2_with fail
  (with_reducible refine (few_i A3 m3 p3 z3 need _ (HI3.out _ d3) (by omega)).mono ?_)
  rintro e w11 ⟨v11, rfl, o11, b11⟩
  have cc11 := btrans cc10 b11
  replace d1 := btrans d1 b11
  replace dX := btrans dX b11
  replace dV := btrans dV b11
  replace d2 := btrans d2 b11
  replace dF := btrans dF b11
  replace dS := btrans dS b11
  replace d3 := btrans d3 b11
  rw [HE3.out.2]
  rw [HE3.out.1] at o11
  obtain ⟨AE, pE, rfl, iE, -⟩ := o11.ints HL3b.out.2
  have HIE := Lib.hid (fun w' (hb : Below w11.heap.size w11 w') => (iE.below hb (Nat.le_refl _)).more hb.size)
  have dE := Below.refl w11.heap.size w11
  clear o11 iE
  go_wp2_with fail
  (with_reducible refine (few_s A3 m3 p3 z3 need _ (HI3.out _ d3) (by omega)).mono ?_)
  rintro e w12 ⟨v12, rfl, o12, b12⟩
  have cc12 := btrans cc11 b12
  replace d1 := btrans d1 b12
  replace dX := btrans dX b12
  replace dV := btrans dV b12
  replace d2 := btrans d2 b12
  replace dF := btrans dF b12
  replace dS := btrans dS b12
  replace d3 := btrans d3 b12
  replace dE := btrans dE b12
  rw [HE3.out.2]
  rw [HE3.out.1] at o12
  obtain ⟨AL, pL, rfl, iL, -⟩ := o12.ints HL3b.out.2
  have HIL := Lib.hid (fun w' (hb : Below w12.heap.size w12 w') => (iL.below hb (Nat.le_refl _)).more hb.size)
  have dL := Below.refl w12.heap.size w12
  clear o12 iL
  go_wp2_with fail
  (with_reducible refine (DrawSameBunches_s A n c _ (HOC.out _ cc12)).mono ?_)
  rintro e w13 ⟨v13, m4, z4, v14, m5, z5, rfl, hm4, hm5, hd4, hd5, b13⟩
  have cc13 := btrans cc12 b13
  replace d1 := btrans d1 b13
  replace dX := btrans dX b13
  replace dV := btrans dV b13
  replace d2 := btrans d2 b13
  replace dF := btrans dF b13
  replace dS := btrans dS b13
  replace d3 := btrans d3 b13
  replace dE := btrans dE b13
  replace dL := btrans dL b13
  obtain ⟨A4, p4, rfl, i4⟩ := hd4.ints
  obtain ⟨A5, p5, rfl, i5⟩ := hd5.ints
  have HI4 := Lib.hid (fun w' (hb : Below w13.heap.size w13 w') => (i4.below hb (Nat.le_refl _)).more hb.size)
  have d4 := Below.refl w13.heap.size w13
  have HI5 := Lib.hid (fun w' (hb : Below w13.heap.size w13 w') => (i5.below hb (Nat.le_refl _)).more hb.size)
  have d5 := Below.refl w13.heap.size w13
  clear hd4 hd5 i4 i5
  go_wp2_with fail
  (with_reducible refine (DrawBunchText_s A n c _ (HOC.out _ cc13)).mono ?_)
  rintro e w14 ⟨tx, ty, tz, rfl, b14⟩
  have cc14 := btrans cc13 b14
  replace d1 := btrans d1 b14
  replace dX := btrans dX b14
  replace dV := btrans dV b14
  replace d2 := btrans d2 b14
  replace dF := btrans dF b14
  replace dS := btrans dS b14
  replace d3 := btrans d3 b14
  replace dE := btrans dE b14
  replace dL := btrans dL b14
  replace d4 := btrans d4 b14
  replace d5 := btrans d5 b14
  have bT := balloc (Below.refl w14.heap.size w14) (.cells #[.int .i64 tx, .int .i64 ty, .int .i64 tz] 40)
  have HKT : Hid (Blk (w14.alloc (.cells #[.int .i64 tx, .int .i64 ty, .int .i64 tz] 40)) w14.heap.size 40 #[.int .i64 tx, .int .i64 ty, .int .i64 tz]) := Blk.new w14 _ _
  have dT := Below.refl (w14.alloc (.cells #[.int .i64 tx, .int .i64 ty, .int .i64 tz] 40)).heap.size (w14.alloc (.cells #[.int .i64 tx, .int .i64 ty, .int .i64 tz] 40))
  have cc14a := btrans cc14 bT
  replace d1 := btrans d1 bT
  replace dX := btrans dX bT
  replace dV := btrans dV bT
  replace d2 := btrans d2 bT
  replace dF := btrans dF bT
  replace dS := btrans dS bT
  replace d3 := btrans d3 bT
  replace dE := btrans dE bT
  replace dL := btrans dL bT
  replace d4 := btrans d4 bT
  replace d5 := btrans d5 bT
  clear bT
  obtain ⟨W0, hW0⟩ : ∃ W, W = w14.alloc (.cells #[.int .i64 tx, .int .i64 ty, .int .i64 tz] 40) := ⟨_, rfl⟩
  rw [← hW0] at HKT d1 dX dV d2 dF dS d3 dE dL d4 d5 dT cc14a
  have HW0 := Lib.hid hW0
  clear hW0
  obtain ⟨G0, hG0⟩ : ∃ g, g = w14.heap.size := ⟨_, rfl⟩
  rw [← hG0] at HKT
  have HG0 := Lib.hid hG0
  clear hG0
  obtain ⟨qq, hqq⟩ : ∃ q, eqZ z4 z5 = q := ⟨_, rfl⟩
  obtain ⟨oo, hoo⟩ : ∃ q, okAll (bunchAt z1) m1 30 = q := ⟨_, rfl⟩
  obtain ⟨TX, hTX⟩ : ∃ q, btV tx ty tz = q := ⟨_, rfl⟩
  have hl2 := HL2b.out.1
  have hl3 := HL3b.out.1
  have K1 : Hid (∀ (w' : World), Below W0.heap.size W0 w' → Calls Tryz.prog 19 #[.slice AX M pX, .slice AV M pV] w' fun e w'' => e = .returned (.bool true) ∧ Below w'.heap.size w' w'') := by
    show ∀ (w' : World), _ → Calls _ _ _ _ _
    intro w' hb
    have q := SameBunches_s AX AV M M pX pV V V w' (HIX.out _ (btrans dX hb)) (HIV.out _ (btrans dV hb)) (by omega) (by omega)
    rw [eqZ_self] at q
    exact q
  have K2 := Lib.hid (fun (w' : World) (hb : Below W0.heap.size W0 w') => f6ints_c AF AS L2.length pF pS L2 w' (HIF.out _ (btrans dF hb)) (HIS.out _ (btrans dS hb)) (by omega))
  have K3 := Lib.hid (fun (w' : World) (hb : Below W0.heap.size W0 w') => f6ints_c AE AL L3.length pE pL L3 w' (HIE.out _ (btrans dE hb)) (HIL.out _ (btrans dL hb)) (by omega))
  have K4 := Lib.hid (fun (w' : World) (hb : Below W0.heap.size W0 w') => SameBunches_i A4 A5 m4 m5 p4 p5 z4 z5 w' (HI4.out _ (btrans d4 hb)) (HI5.out _ (btrans d5 hb)) (by omega) (by omega))
  have K5 := Lib.hid (fun (w' : World) (hb : Below W0.heap.size W0 w') => SameBunches_s A4 A5 m4 m5 p4 p5 z4 z5 w' (HI4.out _ (btrans d4 hb)) (HI5.out _ (btrans d5 hb)) (by omega) (by omega))
  have K6 := Lib.hid (fun (w' : World) (hb : Below W0.heap.size W0 w') => btext_i tx ty tz w' (HTN.out _ (btrans cc14a hb)))
  have K7 := Lib.hid (fun (w' : World) (hb : Below W0.heap.size W0 w') => btext_s tx ty tz w')
  have K8 := Lib.hid (fun (w' : World) (hb : Below W0.heap.size W0 w') => ValidBunches_c A1 m1 p1 z1 w' (HI1.out _ (btrans d1 hb)) (by omega))
  have K9 := Lib.hid (fun (w' : World) (hb : Below W0.heap.size W0 w') => ValidBunches_s A1 m1 p1 z1 w' (HI1.out _ (btrans d1 hb)) (by omega))
  rw [hqq] at K4 K5
  rw [hTX] at K6 K7
  rw [hoo] at K8 K9
  clear hqq hTX hoo
  have JV := Lib.hid (fun (w' : World) (hb : Below W0.heap.size W0 w') => HIV.out _ (btrans dV hb))
  have J2 := Lib.hid (fun (w' : World) (hb : Below W0.heap.size W0 w') => HI2.out _ (btrans d2 hb))
  have JS := Lib.hid (fun (w' : World) (hb : Below W0.heap.size W0 w') => HIS.out _ (btrans dS hb))
  have J3 := Lib.hid (fun (w' : World) (hb : Below W0.heap.size W0 w') => HI3.out _ (btrans d3 hb))
  have JL := Lib.hid (fun (w' : World) (hb : Below W0.heap.size W0 w') => HIL.out _ (btrans dL hb))
  have JC := Lib.hid (fun (w' : World) (hb : Below W0.heap.size W0 w') => btrans cc14a hb)
  clear d1 dX dV d2 dF dS d3 dE dL d4 d5 dT HI1 HIX HIV HI2 HIF HIS HI3 HIE HIL HI4 HI5 HOC HTN HB HVW HMV HE2 HE3
  clear b1 b4 b5 b6 b7 b8 b9 b10 b11 b12 b13 b14 cc0 cc1 cc4 cc5 cc6 cc7 cc8 cc9 cc10 cc11 cc12 cc13 cc14 cc14a
  clear hbe0 hbe1 hne0 hne1 hm4 hm5 hr0 hr1 ht0 ht1 hn
  go_wp2_with fail
  rw [← HG0.out, ← HW0.out]
  clear HG0 HW0
  go_cut [183] from 41 to 328 (fun c wx => c = .bool false ∧ Below W0.heap.size W0 wx)
  case first => as_aux_lemma =>
    dsimp only [List.append]
    go_region_held3 (fun w' => w'.cell? ⟨G0, 0, none⟩ = some (.int .i64 tx) ∧ w'.cell? ⟨G0, 1, none⟩ = some (.int .i64 ty) ∧ w'.cell? ⟨G0, 2, none⟩ = some (.int .i64 tz) ∧ Below W0.heap.size W0 w') (first | exact keepR HKT.out (Below.refl _ _) | exact keepR HKT.out (Below.refl _ _).drew | exact keepR HKT.out (btrans (‹_ ∧ _ ∧ _ ∧ Below W0.heap.size W0 _›.2.2.2) ‹Below _ _ _›)) (first | (go_at_call 19; (with_reducible refine (K1.out _ (‹_ ∧ _ ∧ _ ∧ Below W0.heap.size W0 _›.2.2.2)).mono ?_); rintro e wy ⟨rfl, by_⟩) | (go_at_call 20; (with_reducible refine (K2.out _ (‹_ ∧ _ ∧ _ ∧ Below W0.heap.size W0 _›.2.2.2)).mono ?_); rintro e wy ⟨rfl, by_⟩) | (go_at_call 20; (with_reducible refine (K3.out _ (‹_ ∧ _ ∧ _ ∧ Below W0.heap.size W0 _›.2.2.2)).mono ?_); rintro e wy ⟨rfl, by_⟩) | (go_at_call 21; (with_reducible refine (K4.out _ (‹_ ∧ _ ∧ _ ∧ Below W0.heap.size W0 _›.2.2.2)).mono ?_); rintro e wy ⟨rfl, by_⟩) | (go_at_call 19; (with_reducible refine (K5.out _ (‹_ ∧ _ ∧ _ ∧ Below W0.heap.size W0 _›.2.2.2)).mono ?_); rintro e wy ⟨rfl, by_⟩) | (go_at_call 22; (with_reducible refine (K6.out _ (‹_ ∧ _ ∧ _ ∧ Below W0.heap.size W0 _›.2.2.2)).mono ?_); rintro e wy ⟨rfl, by_⟩) | (go_at_call 23; (with_reducible refine (K7.out _ (‹_ ∧ _ ∧ _ ∧ Below W0.heap.size W0 _›.2.2.2)).mono ?_); rintro e wy ⟨rfl, by_⟩) | (go_at_call 24; (with_reducible refine (K8.out _ (‹_ ∧ _ ∧ _ ∧ Below W0.heap.size W0 _›.2.2.2)).mono ?_); rintro e wy ⟨rfl, by_⟩) | (go_at_call 25; (with_reducible refine (K9.out _ (‹_ ∧ _ ∧ _ ∧ Below W0.heap.size W0 _›.2.2.2)).mono ?_); rintro e wy ⟨rfl, by_⟩))
    all_goals
      go_wp2_with fail
      go_meet
      exact ⟨rfl, ‹_ ∧ _ ∧ _ ∧ Below W0.heap.size W0 _›.2.2.2⟩
  case rest => as_aux_lemma =>
    obtain ⟨rfl, cw⟩ := hcut
    clear K1 K2 K3 K4 K5 K6 K7 K8 K9 HKT
    go_wp2_with fail
    go_loopw [31] (fun i wr => ∃ k : Nat, 1 ≤ k ∧ (k ≤ M ∨ k = 1) ∧ i = .int .i64 k ∧ Below W0.heap.size W0 wr) (fun i _ => M + 1 - (intOf i).toNat)
    case atStart => exact ⟨1, Nat.le_refl _, .inr rfl, rfl, cw⟩
    case round =>
      obtain ⟨k, hk1, hkM, rfl, b24⟩ := hrel
      by_cases hlt : k < M
      · obtain ⟨q1, q2⟩ := HSR.out k (by omega) hlt
        obtain ⟨b, off, rfl, hb, x0, x1, x2⟩ := (JV.out _ b24).at3 (i := k - 1) (by omega)
        obtain ⟨b', off', e', -, y0, y1, y2⟩ := (JV.out _ b24).at3 hlt
        obtain ⟨rfl, rfl⟩ : b = b' ∧ off = off' := by simpa using e'
        clear e' x1 y1
        have HWR : IntKind.i64.wrap ((k : Int) - 1) = (k : Int) - 1 := IntWalk.i64_in _ (by omega)
        have hkk : ((k : Int) - 1).toNat = k - 1 := by omega
        have hp1 : (0 : Int) ≤ (k : Int) - 1 := by omega
        have hp2 : (k : Int) - 1 < (M : Int) := by omega
        generalize gi V ((k - 1) * 3) = l0 at *
        generalize gi V ((k - 1) * 3 + 2) = g0 at *
        generalize gi V (k * 3) = l1 at *
        generalize gi V (k * 3 + 2) = g1 at *
        have hd1 : decide (l1 < l0) = false := decide_eq_false (by omega)
        rcases heq : (l0 == l1) with _ | _
        · as_aux_lemma =>
          clear q2
          go_wp2_with fail
          go_quiet (fail)
          go_wp2_with fail
          go_roundw
          case rel => exact ⟨k + 1, by omega, by omega, by go_num, by first | exact b24 | exact bdrewN b24 _⟩
          case measure => simp [intOf]; omega
        · as_aux_lemma =>
          have q3 := q2 (by simpa using heq)
          have hd2 : decide (g1 < g0) = false := decide_eq_false (by omega)
          clear q2
          go_wp2_with fail
          go_quiet (fail)
          go_wp2_with fail
          go_roundw
          case rel => exact ⟨k + 1, by omega, by omega, by go_num, by first | exact b24 | exact bdrewN b24 _⟩
          case measure => simp [intOf]; omega
      · have hge : ¬ (k : Int) < (M : Int) := by omega
        clear hk1 hkM hlt HSR JV cw
        go_upto_if 231 with fail
        go_cut [] from 41 to 328 (fun wx => Below W0.heap.size W0 wx)
        case first => as_aux_lemma =>
          clear J3 JL HF3 hm3 HL3b
          by_cases h3 : C2 = 0
          · obtain ⟨r31, ten, nb0, nb1, HR31, ll2, hsum, hs0, hs1, hmax⟩ := HF2.out h3
            have HR31 := Lib.hid HR31
            have HSM := Lib.hid hsum
            have HMX := Lib.hid hmax
            clear hsum hmax HF2
            subst h3
            go_wp2_with fail
            go_loopw [32, 33] (fun s i wr => ∃ j : Nat, j ≤ L2.length ∧ i = .int .i64 j ∧ s = .int .i64 (sumOver (wOf z2) (L2.take j)) ∧ Below W0.heap.size W0 wr) (fun _ i _ => L2.length - (intOf i).toNat)
            case atStart => exact ⟨0, Nat.zero_le _, rfl, rfl, b24⟩
            case round =>
              obtain ⟨j, hj, rfl, rfl, c31⟩ := hrel
              have hsb := sumOver_bd3 (f := wOf z2) HR31.out (fun i hi => by have := wOf_bd r31 hi; omega) j hj
              by_cases hjl : j < L2.length
              · as_aux_lemma =>
                have hx := HR31.out j hjl
                have HSS : Hid (sumOver (wOf z2) (L2.take (j + 1)) = sumOver (wOf z2) (L2.take j) + wOf z2 (gi L2 j).toNat) := by show _ = _; rw [take_snoc hjl, sumOver_snoc]
                obtain ⟨b2, off2, rfl, hb2', e0⟩ := (JS.out _ c31).at1 hjl
                generalize sumOver (wOf z2) (L2.take j) = sm at *
                generalize gi L2 j = x at *
                obtain ⟨y, rfl⟩ := Int.eq_ofNat_of_zero_le hx.1
                have hyn : y < m2 := by omega
                have hwy := wOf_bd r31 hyn
                have HWy : Hid (wOf z2 y = gi z2 (y * 3 + 2)) := rfl
                rw [HWy.out] at hwy
                obtain ⟨b, off, rfl, hb', z0, z1', z2'⟩ := (J2.out _ c31).at3 hyn
                go_wp2_with fail
                try (go_quiet (fail); go_wp2_with fail)
                go_roundw
                case rel =>
                  have e := HSS.out
                  rw [Int.toNat_natCast] at e
                  exact ⟨j + 1, by omega, by go_num, by rw [e, HWy.out], by repeat (first | exact c31 | apply bdrewN)⟩
                case measure => simp [intOf]; omega
              · obtain rfl : j = L2.length := by omega
                have HT : Hid (sumOver (wOf z2) (L2.take L2.length) = sumOver (wOf z2) L2) := by show _ = _; rw [List.take_length]
                rw [HT.out]
                rw [HT.out] at hsb
                clear hjl HT
                rw [HSM.out]
                rw [HSM.out] at hsb
                have hs2 : decide (bears < S2) = false := decide_eq_false (by omega)
                go_wp2_with fail
                go_loopw [34] (fun i wr => ∃ u : Nat, u ≤ m2 ∧ i = .int .i64 u ∧ Below W0.heap.size W0 wr) (fun i _ => m2 - (intOf i).toNat)
                case atStart => exact ⟨0, Nat.zero_le _, rfl, c31⟩
                case round =>
                  obtain ⟨u, hu, rfl, c41⟩ := hrel
                  by_cases hul : u < m2
                  · have hwu := wOf_bd r31 hul
                    have HWu : Hid (wOf z2 u = gi z2 (u * 3 + 2)) := rfl
                    rw [HWu.out] at hwu
                    have hmu := HMX.out u hul
                    obtain ⟨b, off, rfl, hb', z0, z1', z2'⟩ := (J2.out _ c41).at3 hul
                    rcases hh : hasB L2 (u : Int) with _ | _
                    · as_aux_lemma =>
                      have hno := hmu (by simpa [hasB] using hh)
                      have hno2 : decide (S2 + gi z2 (u * 3 + 2) ≤ bears) = false := decide_eq_false (by omega)
                      have HH := Lib.hid hh
                      clear hh hmu
                      go_wp2_with fail
                      (with_reducible refine (f6has_c AS L2.length pS L2 u _ (JS.out _ c41) (by omega)).mono ?_)
                      rintro e w50 ⟨rfl, rfl⟩
                      rw [HH.out]
                      go_wp2_with fail
                      go_roundw
                      case rel => exact ⟨u + 1, by omega, by go_num, c41⟩
                      case measure => simp [intOf]; omega
                    · as_aux_lemma =>
                      have HH := Lib.hid hh
                      clear hh hmu
                      go_wp2_with fail
                      (with_reducible refine (f6has_c AS L2.length pS L2 u _ (JS.out _ c41) (by omega)).mono ?_)
                      rintro e w50 ⟨rfl, rfl⟩
                      rw [HH.out]
                      go_wp2_with fail
                      go_roundw
                      case rel => exact ⟨u + 1, by omega, by go_num, c41⟩
                      case measure => simp [intOf]; omega
                  · obtain rfl : u = m2 := by omega
                    have hge2 : ¬ (u : Int) < (u : Int) := by omega
                    go_wp2_with fail
                    go_meet
                    exact c41
          · have hb3 : (C2 == 0) = false := by simpa using h3
            clear h3 HF2
            go_wp2_with fail
            go_meet
            exact b24
        case rest => as_aux_lemma =>
          clear J2 JS HF2 HL2b b24 hl2
          have c51 := hcut
          clear hcut
          go_upto_if 278 with fail
          go_cut [] from 41 to 328 (fun wx => Below W0.heap.size W0 wx)
          case first => as_aux_lemma =>
            by_cases h5 : C3 = 0
            · obtain ⟨r61, nd, HR61, ll, lw⟩ := HF3.out h5
              have HR61 := Lib.hid HR61
              have HLW := Lib.hid lw
              clear lw HF3
              subst h5
              go_wp2_with fail
              go_loopw [35, 36] (fun s i wr => ∃ j : Nat, j ≤ L3.length ∧ i = .int .i64 j ∧ s = .int .i64 (sumOver (wOf z3) (L3.take j)) ∧ Below W0.heap.size W0 wr) (fun _ i _ => L3.length - (intOf i).toNat)
              case atStart => exact ⟨0, Nat.zero_le _, rfl, rfl, c51⟩
              case round =>
                obtain ⟨j, hj, rfl, rfl, c61⟩ := hrel
                have hsb := sumOver_bd3 (f := wOf z3) HR61.out (fun i hi => by have := wOf_bd r61 hi; omega) j hj
                by_cases hjl : j < L3.length
                · as_aux_lemma =>
                  have hx := HR61.out j hjl
                  have HSS : Hid (sumOver (wOf z3) (L3.take (j + 1)) = sumOver (wOf z3) (L3.take j) + wOf z3 (gi L3 j).toNat) := by show _ = _; rw [take_snoc hjl, sumOver_snoc]
                  obtain ⟨b2, off2, rfl, hb2', e0⟩ := (JL.out _ c61).at1 hjl
                  generalize sumOver (wOf z3) (L3.take j) = sm at *
                  generalize gi L3 j = x at *
                  obtain ⟨y, rfl⟩ := Int.eq_ofNat_of_zero_le hx.1
                  have hyn : y < m3 := by omega
                  have hwy := wOf_bd r61 hyn
                  have HWy : Hid (wOf z3 y = gi z3 (y * 3 + 2)) := rfl
                  rw [HWy.out] at hwy
                  obtain ⟨b, off, rfl, hb', z0, z1', z2'⟩ := (J3.out _ c61).at3 hyn
                  go_wp2_with fail
                  try (go_quiet (fail); go_wp2_with fail)
                  go_roundw
                  case rel =>
                    have e := HSS.out
                    rw [Int.toNat_natCast] at e
                    exact ⟨j + 1, by omega, by go_num, by rw [e, HWy.out], by repeat (first | exact c61 | apply bdrewN)⟩
                  case measure => simp [intOf]; omega
                · obtain rfl : j = L3.length := by omega
                  have HT : Hid (sumOver (wOf z3) (L3.take L3.length) = sumOver (wOf z3) L3) := by show _ = _; rw [List.take_length]
                  rw [HT.out]
                  rw [HT.out] at hsb
                  clear hjl HT
                  have hnl := HLW.out
                  generalize sumOver (wOf z3) L3 = tot at *
                  have hnl2 : decide (tot < need) = false := decide_eq_false (by omega)
                  go_wp2_with fail
                  go_meet
                  exact c61
            · have hb5 : (C3 == 0) = false := by simpa using h5
              clear h5 HF3
              go_wp2_with fail
              go_meet
              exact c51
          case rest => as_aux_lemma =>
            clear J3 JL HF3 HL3b hl3 c51
            have c71 := JC.out _ hcut
            clear hcut JC
            refine girth_cases r t gg bad HG.out (fun hb => ?_) (fun hb => ?_) (fun x hb hg10 hx hxr => ?_) (fun x y hb hg10 hg0 hg1 hx hxr hy hyr => ?_)
            · subst hb
              clear HG
              go_wp2_with fail
              go_ret
              exact ⟨rfl, c71⟩
            · subst hb
              clear HG
              go_wp2_with fail
              go_ret
              exact ⟨rfl, c71⟩
            · subst hb
              subst hg10
              clear HG
              have HX := Lib.hid hx
              clear hx
              go_wp2_with fail
              (with_reducible refine (rods_i 10 t _).mono ?_)
              rintro e w90 ⟨rfl, rfl⟩
              rw [HX.out]
              go_wp2_with fail
              go_ret
              exact ⟨rfl, c71⟩
            · subst hb
              clear HG
              have HX := Lib.hid hx
              have HY := Lib.hid hy
              have hgb : (gg == 10) = false := by simpa using hg10
              clear hx hy hg10
              go_wp2_with fail
              (with_reducible refine (rods_i gg t _).mono ?_)
              rintro e w90 ⟨rfl, rfl⟩
              rw [HX.out]
              go_wp2_with fail
              (with_reducible refine (rods_i (gg - 1) t _).mono ?_)
              rintro e w91 ⟨rfl, rfl⟩
              rw [HY.out]
              go_wp2_with fail
              go_ret
              exact ⟨by first | rfl | simp [hyr], c71⟩
end Go.Proofs.YtgcpobondcnjcaaGreatDoor
