/-
  Proved: the program's BestCuts returns what the reference's returns, for all arguments, leaves its arguments as they were, and its result is memory of its own.
  No conditions.
-/
import Derived.Test.YtabgkgkbaofgfaaBestCuts
import Derived.Test.YtabgkgkbaofgfaaBedMark
namespace Go.Proofs.Ytabgkgkbaofgfaa.fnExactBestCuts
open Go.ChangeShapes Go.WideShapes Go.ChangeAt Go.RowKit Go.Deep
set_option linter.unusedVariables false

theorem bcL_bd (ys : List Int) (a n : Int) : (bcL ys a n).length ≤ 1048576 ∧ ∀ z ∈ bcL ys a n, -9223372036854775808 ≤ z ∧ z ≤ 9223372036854775807 := by
  unfold bcL
  split
  · next h =>
    simp only [Bool.and_eq_true] at h
    have h2 := inR_true h.2
    have h3 := bcTo_len ys a n.toNat (2 ^ n.toNat)
    exact ⟨by omega, bcTo_wf ys a n.toNat _ (by omega)⟩
  · exact ⟨by simp, by simp⟩

set_option maxRecDepth 100000 in
set_option maxHeartbeats 8000000 in
theorem walk (w : World) (v : Value) (h : BedArg v w) (years : Int) (wy : (Lit.int .i64 years).wf = true) :
    Calls Try.prog 8 #[v, .int .i64 years] w fun e w' => e = .returned (.bool true) ∧ Below w.heap.size w w' := by
  obtain ⟨A, n, c, zs, a, rfl, hn, hI⟩ := h
  obtain rfl : n = zs.length := by have := hI.length; omega
  have hw := hI.wf
  rcases szV_cases zs.length 1048576 (by omega) with hq | hq
  · have HV := Lib.hid hq
    clear hq
    go_enter Try.func8, Try.ntmps8
    go_wp2_with fail
    refine (szBed_c _ _ _ _ _ _ hn (by omega) (by omega)).mono ?_
    rintro e w1 ⟨rfl, b1⟩
    rw [HV.out]
    go_wp2
    go_ret
    exact ⟨rfl, btrans (balloc (Below.refl _ _) _) b1⟩
  · obtain ⟨h2, h3, h4⟩ := hq
    have hn' : zs.length ≤ 1048576 := by omega
    have HA := Lib.hid (fun w1 (hb : Below w.heap.size w w1) => hI.below hb (Nat.le_refl _))
    go_enter Try.func8, Try.ntmps8
    go_wp2_with fail
    refine (szBed_c _ _ _ _ _ _ hn (by omega) (by omega)).mono ?_
    rintro e w1 ⟨rfl, b1⟩
    have c1 := btrans (balloc (Below.refl _ w) (.cells #[.slice A zs.length c, .int .i64 a] 24)) b1
    have K := (Blk.new w 24 #[.slice A zs.length c, .int .i64 a]).on b1
    have Kl := K.lt
    have Kc0 := K.cell 0
    have Kf0 := K.frozen 0
    have Kc1 := K.cell 1
    have Kf1 := K.frozen 1
    simp at Kc0 Kc1
    have KH := Lib.hid K
    clear K
    go_wp2_with fail
    refine (toBed_c _ _ _ zs a _ _ (HA.out _ c1) c1.size hn').mono ?_
    rintro e w2 ⟨g2, rfl, hg2, k2, b2⟩
    have c2 := btrans c1 b2
    obtain ⟨hbl, hbz⟩ := bcL_bd zs a years
    have HBZ := Lib.hid hbz
    clear hbz
    have KH2 := Lib.hid (KH.out.on b2)
    go_wp2_with fail
    (with_reducible refine (best_s _ _ zs a years _ (k2.ints (by omega) hw) hn').mono ?_)
    rintro e w3 ⟨v3, rfl, o3, b3⟩
    have c3 := btrans c2 b3
    obtain ⟨A3, cap3, rfl, i3, -⟩ := o3.ints HBZ.out
    have O3 := Lib.hid o3
    have KH3 := Lib.hid (KH2.out.on b3)
    clear Kc0 Kc1 Kf0 Kf1 Kl KH KH2 o3 i3
    have L := KH3.out
    have Ll := L.lt
    have Lc0 := L.cell 0
    have Lf0 := L.frozen 0
    have Lc1 := L.cell 1
    have Lf1 := L.frozen 1
    simp at Lc0 Lc1
    have LH := Lib.hid L
    clear L
    go_wp2_with fail
    (with_reducible refine (toBed_c _ _ _ zs a _ _ (HA.out _ c3) c3.size hn').mono ?_)
    rintro e w4 ⟨g4, rfl, hg4, k4, b4⟩
    have c4 := btrans c3 b4
    have k4' := k4.alloc (.cells #[.slice (some ⟨g4, 0, none⟩) zs.length zs.length, .int .i64 a] 28)
    have c4' := balloc c4 (.cells #[.slice (some ⟨g4, 0, none⟩) zs.length zs.length, .int .i64 a] 28)
    have KH4 := Lib.hid ((KH3.out.on b4).alloc (.cells #[.slice (some ⟨g4, 0, none⟩) zs.length zs.length, .int .i64 a] 28))
    have O4 : Hid (Own (w4.alloc (.cells #[.slice (some ⟨g4, 0, none⟩) zs.length zs.length, .int .i64 a] 28)) w2.heap.size _ (bcL zs a years)) := (O3.out.on b4).alloc _
    have G4 := Lib.hid k4.lt
    clear Lc0 Lc1 Lf0 Lf1 Ll LH
    go_wp2_with fail
    (with_reducible refine (best_i _ _ zs a years _ (k4'.ints (by omega) hw) hn').mono ?_)
    rintro e w5 ⟨v5, rfl, o5, b5⟩
    have c5 := btrans c4' b5
    have O5 := Lib.hid o5
    have P5 := Lib.hid (O4.out.on b5)
    obtain ⟨A5, cap5, rfl, i5, -⟩ := o5.ints HBZ.out
    obtain ⟨A3', cap3', e3', j5, -⟩ := P5.out.ints HBZ.out
    simp only [Value.slice.injEq, true_and] at e3'
    obtain ⟨rfl, rfl⟩ := e3'
    clear o5
    go_wp2_with fail
    (with_reducible refine (eqInt64S_c _ _ _ _ _ (bcL zs a years) _ i5 j5 hbl).mono ?_)
    rintro e w6 ⟨rfl, b6⟩
    have b56 := btrans b5 b6
    have c6 := btrans c5 b6
    have O6 := Lib.hid (O5.out.on b6)
    have P6 := Lib.hid (P5.out.on b6)
    clear i5 j5 O5 P5
    have kb := (k4').on b56
    have MH := Lib.hid (KH4.out.on b56)
    have XH := Lib.hid ((Blk.new w4 28 #[.slice (some ⟨g4, 0, none⟩) zs.length zs.length, .int .i64 a]).on b56)
    have HK := Lib.hid kb
    clear kb
    go_wp2_with fail
    go_region_held3 (fun w' => w'.cell? ⟨w4.heap.size, 0, none⟩ = some (.slice (some ⟨g4, 0, none⟩) zs.length zs.length) ∧ w'.cell? ⟨w4.heap.size, 1, none⟩ = some (.int .i64 a) ∧ w'.cell? ⟨w.heap.size, 0, none⟩ = some (.slice A zs.length c) ∧ w'.cell? ⟨w.heap.size, 1, none⟩ = some (.int .i64 a) ∧ Below w6.heap.size w6 w') (first | exact keepE XH.out MH.out (Below.refl _ _) | exact keepE XH.out MH.out (Below.refl _ _).drew | exact keepE XH.out MH.out (btrans (‹_ ∧ _ ∧ _ ∧ _ ∧ Below _ _ _›.2.2.2.2) ‹Below _ _ _›)) ((first | (go_at_call 16; refine (toBed_c _ _ _ zs a _ _ (HA.out _ (btrans c6 (‹_ ∧ _ ∧ _ ∧ _ ∧ Below w6.heap.size w6 _›.2.2.2.2))) (Nat.le_trans (c6).size (‹_ ∧ _ ∧ _ ∧ _ ∧ Below w6.heap.size w6 _›.2.2.2.2).size) hn').mono ?_; rintro e wy ⟨gy, rfl, hgy, ky, by_⟩) | (go_at_call 18; refine (eqBed_c _ _ _ _ _ zs a _ ((HK.out.on (‹_ ∧ _ ∧ _ ∧ _ ∧ Below w6.heap.size w6 wy›.2.2.2.2)).ints (by omega) hw) (ky.ints (by omega) hw) hn').mono ?_; rintro e wz ⟨rfl, bz⟩)))
    have hz := (‹_ ∧ _ ∧ _ ∧ _ ∧ Below w6.heap.size w6 wz›).2.2.2.2
    clear by_ bz
    have cz := btrans c6 hz
    have O7 := Lib.hid (O6.out.on hz)
    have P7 := Lib.hid (P6.out.on hz)
    have K7 := Lib.hid (HK.out.on hz)
    have X7 := Lib.hid (XH.out.on hz)
    have M7 := Lib.hid (MH.out.on hz)
    clear O6 P6 HK XH MH
    have X := X7.out
    have Xl := X.lt
    have Xc0 := X.cell 0
    have Xf0 := X.frozen 0
    have Xc1 := X.cell 1
    have Xf1 := X.frozen 1
    simp at Xc0 Xc1
    have XH := Lib.hid X
    clear X
    go_wp2_with fail
    (with_reducible refine (markBed_c g4 zs.length zs a _ K7.out rfl hn').mono ?_)
    rintro e w8 ⟨rfl, h8⟩
    have c8 : Below w.heap.size w w8 := cz.trans (h8.below (Nat.le_trans c3.size hg4) cz.size)
    have G5 := Lib.hid (c4'.size)
    have hsz4 : (w4.alloc (.cells #[.slice (some ⟨g4, 0, none⟩) zs.length zs.length, .int .i64 a] 28)).heap.size = w4.heap.size + 1 := by simp
    have O8 : Hid (Own w8 (w4.heap.size + 1) _ (bcL zs a years)) := h8.own (by rw [← hsz4]; exact O7.out) (fun k hk => by have := (O7.out.lt k hk).1; rw [hsz4] at this; have := G4.out; omega)
    have P8 : Hid (Own w8 w2.heap.size _ (bcL zs a years)) := h8.own P7.out (fun k hk => by have := (O3.out.lt k hk).2; omega)
    have M8 : Hid (Blk w8 w.heap.size 24 #[.slice A zs.length c, .int .i64 a]) := (h8.2.2.2.2 _ M7.out.lt (by have := c3.size; have := KH3.out.lt; omega)).trans M7.out
    have S8 := Lib.hid h8.2.2.2.1
    clear Xc0 Xc1 Xf0 Xf1 Xl XH X7 K7 O7 P7 M7 h8 hsz4
    obtain ⟨A5', cap5', e5', i8, -⟩ := O8.out.ints HBZ.out
    simp only [Value.slice.injEq, true_and] at e5'
    obtain ⟨rfl, rfl⟩ := e5'
    obtain ⟨A3', cap3', e3', j8, -⟩ := P8.out.ints HBZ.out
    simp only [Value.slice.injEq, true_and] at e3'
    obtain ⟨rfl, rfl⟩ := e3'
    go_wp2_with fail
    (with_reducible refine (eqInt64S_c _ _ _ _ _ (bcL zs a years) _ i8 j8 hbl).mono ?_)
    rintro e w9 ⟨rfl, b9⟩
    have c9 := btrans c8 b9
    have O9 := Lib.hid (O8.out.on b9)
    have P9 := Lib.hid (P8.out.on b9)
    have M9 := Lib.hid (M8.out.on b9)
    clear i8 j8 O8 P8 M8
    have hlen := hbl
    go_wp2_with fail
    (with_reducible refine (markInt64S_c _ (bcL zs a years).length (bcL zs a years) 1 _ (w4.heap.size + 1) O9.out.row hbl (by omega) (by omega)).mono ?_)
    rintro e w10 ⟨rfl, q10, g10⟩
    have c10 := below_grown c9 g10 (fun g hg => by have := (O9.out.lt g hg).1; have := c4.size; omega)
    have P10 : Hid (Own w10 w2.heap.size _ (bcL zs a years)) := P9.out.kept g10 (own_ne O3.out (by have := b4.size; omega) O9.out)
    have M10 : Hid (Blk w10 w.heap.size 24 #[.slice A zs.length c, .int .i64 a]) := (g10.block _ M9.out.lt (fun e => by have := (O9.out.lt _ e.symm).1; have := c4.size; omega)).trans M9.out
    have q10' : Own w10 (w4.heap.size + 1) (.slice A5 (bcL zs a years).length cap5) (mkL 1 (bcL zs a years).length) := by unfold Own; rw [mkL_length]; exact q10
    have Q10 := Lib.hid q10'
    clear q10 g10 O9 P9 M9
    obtain ⟨A5', cap5', e5', i10, -⟩ := q10'.ints (mkL_bd _ (by omega))
    rw [mkL_length] at e5' i10
    simp only [Value.slice.injEq, true_and] at e5'
    obtain ⟨rfl, rfl⟩ := e5'
    clear q10'
    go_wp2_with fail
    (with_reducible refine (heldInt64S_c _ _ _ _ i10 (by omega)).mono ?_)
    rintro e w11 ⟨rfl, b11⟩
    have c11 := btrans c10 b11
    have Y := M10.out.on b11
    have Yl := Y.lt
    have Yc0 := Y.cell 0
    have Yf0 := Y.frozen 0
    have Yc1 := Y.cell 1
    have Yf1 := Y.frozen 1
    simp at Yc0 Yc1
    have YH := Lib.hid Y
    clear Y
    clear i10
    go_wp2_with fail
    (with_reducible refine (toBed_c _ _ _ zs a _ _ (HA.out _ c11) c11.size hn').mono ?_)
    rintro e w12 ⟨g12, rfl, hg12, k12, b12⟩
    have c12 := btrans c11 b12
    clear Yc0 Yc1 Yf0 Yf1 Yl YH
    go_wp2_with fail
    (with_reducible refine (best_i _ _ zs a years _ (k12.ints (by omega) hw) hn').mono ?_)
    rintro e w13 ⟨v13, rfl, o13, b13⟩
    have c13 := btrans c12 b13
    obtain ⟨A13, cap13, rfl, i13, -⟩ := o13.ints HBZ.out
    have b1013 := btrans b11 (btrans b12 b13)
    have P13 := Lib.hid (P10.out.on b1013)
    have Q13 := Lib.hid (Q10.out.on b1013)
    obtain ⟨A3', cap3', e3', j13, -⟩ := P13.out.ints HBZ.out
    simp only [Value.slice.injEq, true_and] at e3'
    obtain ⟨rfl, rfl⟩ := e3'
    go_wp2_with fail
    (with_reducible refine (eqInt64S_c _ _ _ _ _ (bcL zs a years) _ i13 j13 hbl).mono ?_)
    rintro e w14 ⟨rfl, b14⟩
    obtain ⟨A5', cap5', e5', i14, -⟩ := (Q13.out.on b14).ints (mkL_bd _ (by omega))
    rw [mkL_length] at e5' i14
    simp only [Value.slice.injEq, true_and] at e5'
    obtain ⟨rfl, rfl⟩ := e5'
    go_wp2_with fail
    (with_reducible refine (heldInt64S_c _ _ _ _ i14 (by omega)).mono ?_)
    rintro e w15 ⟨rfl, b15⟩
    go_wp2
    go_ret
    exact ⟨rfl, btrans c13 (btrans b14 b15)⟩

theorem own : ownKnob Try.prog.godebug = none := by kernel_rfl
theorem laidOut : laidOutB Try.prog = true := by kernel_rfl

set_option maxRecDepth 100000 in
theorem lifted (os : Os) (started : os.Started) (H : Type) (enc : TypeId × Value → H) :
    ReturnsInHanded {} Try.checked os 8 .any (Rows.fnExactBestCutsSpec.pre6 enc Try.prog Try.f8 Rows.fnExactBestCutsRow.domain false) (Rows.fnExactBestCutsSpec.post enc Try.prog Try.f8 false true false false) := by
  refine returnsInHanded_of_change (C := Try.checked) own started (by kernel_rfl) Try.func8
    (ChangeSpec.witness6 (enc := enc) (C := Try.checked) false ⟨#[], #[.agg #[.slice none 0 0, .int .i64 0], .int .i64 0], []⟩ 8 (by kernel_rfl) (by kernel_rfl) (by kernel_rfl) (by kernel_rfl)) ?_
  intro W base args ds gs before hval0 hW _ _
  have hval : ∀ (j : Nat) t v, Try.f8.params[j]? = some t → args[j]? = some v → Value.okWide Try.prog W .any base t v := hval0
  have hW' := hW
  obtain ⟨p, q, hA0, hV, rfl, hfz, hnd⟩ := hW
  have hA : DataW.TrodAll enc Try.prog W 0 (fun _ => true) true Try.f8.params.toList args.toList ds p := hA0
  rw [Try.params8] at hA hval
  obtain ⟨v0, vs0, d0, ds0, p0, q0, hargs, rfl, rfl, h0, r0⟩ := trodAll_cons hA
  obtain ⟨v1, vs1, d1, ds1, p1, q1, rfl, rfl, rfl, h1, r1⟩ := trodAll_cons r0
  obtain ⟨rfl, rfl, rfl⟩ := trodAll_nil r1
  obtain rfl : args = #[v0, v1] := by cases args; simp_all
  obtain ⟨rfl, rfl⟩ := trodVars_none hV
  have k0 := h0
  have lt0 : ∀ x ∈ p0, x.block < W.heap.size := by obtain ⟨m, hm⟩ := k0; exact DataW.trod_lt m _ _ _ hm
  have k1 := h1
  have lt1 : ∀ x ∈ p1, x.block < W.heap.size := by obtain ⟨m, hm⟩ := k1; exact DataW.trod_lt m _ _ _ hm
  have w0 := argBed (hval 0 24 v0 rfl rfl) h0
  obtain ⟨a1, rfl, rfl, rfl, w1⟩ := open_int Try.underlying2 (hval 1 2 v1 rfl rfl) h1
  clear hA0 hval0
  refine (walk (w := W) v0 w0 a1 w1).mono fun e W' ⟨he, bel⟩ => ?_
  subst he
  exact ⟨_, rfl, _, _, _, [], _, [], hW', trodAll_mk1 (shut_bool Try.underlying4 _), (trodAll_cons_mk (Below.trod laidOut (by kernel_rfl) (of_decide_eq_true (by kernel_rfl)) k0 bel lt0) (trodAll_cons_mk (Below.trod laidOut (by kernel_rfl) (of_decide_eq_true (by kernel_rfl)) k1 bel lt1) trodAll_mk0)), rfl, bel.frame _, fun h => by cases h⟩

theorem over : Rows.fnExactBestCutsRow.holds Try.pinned (OpenSpec.ofChange Rows.fnExactBestCutsSpec) :=
  OpenClaim.holds_of_wide 8 Try.f8 rfl rfl rfl rfl rfl rfl rfl ⟨rfl, rfl, rfl, rfl, rfl⟩ rfl rfl rfl rfl rfl (by kernel_rfl) Try.func8 (by kernel_rfl)
    (of_decide_eq_true (by kernel_rfl)) (by unfold Func.isWrapper; first | (rw [if_pos (by decide +kernel)]; kernel_rfl) | (rw [if_neg (by decide +kernel)]; exact ⟨rfl, rfl⟩))
    (fun os started H enc _ => lifted os started H enc)

/-- The statement. -/
theorem proved : Rows.FnExactBestCutsSaid := over
#print axioms proved
end Go.Proofs.Ytabgkgkbaofgfaa.fnExactBestCuts
