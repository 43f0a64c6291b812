/-
  Proved: the program's CutFor returns what the reference's returns, for all arguments, leaves its arguments as they were, and its result is memory of its own.
  No conditions.
-/
import Derived.Test.YtabgkgkbaofgfaaCut
import Derived.Test.YtabgkgkbaofgfaaBedMarks
namespace Go.Proofs.Ytabgkgkbaofgfaa.fnExactCutFor
open Go.ChangeShapes Go.WideShapes Go.ChangeAt Go.RowKit Go.Deep
set_option linter.unusedVariables false

theorem cfL_bd (bs : Nat → List Int × Int) (n : Nat) (need : Int) : (cfL bs n need).length ≤ 1048576 ∧ ∀ z ∈ cfL bs n need, -9223372036854775808 ≤ z ∧ z ≤ 9223372036854775807 := by
  unfold cfL
  split
  · next h =>
    simp only [Bool.and_eq_true] at h
    have h2 := okAll_le h.1
    rcases hc : cfTo bs n need (2 ^ n) with _ | L
    · simp
    · obtain ⟨S, -, rfl, -⟩ := cfTo_sel bs n need _ L hc
      have h3 := selTo_len (Nat.testBit S) n
      simp only [Option.getD_some]
      exact ⟨by omega, fun z hz => by have := selTo_mem _ _ _ hz; omega⟩
  · exact ⟨by simp, by simp⟩

set_option maxRecDepth 100000 in
set_option maxHeartbeats 8000000 in
theorem walk (w : World) (v : Value) (h : BedsArg v w) (need : Int) (wy : (Lit.int .i64 need).wf = true) :
    Calls Try.prog 11 #[v, .int .i64 need] w fun e w' => e = .returned (.bool true) ∧ Below w.heap.size w w' := by
  obtain ⟨A, n, c, bs, rfl, hn, hI⟩ := h
  have hwf := Lib.hid hI.wf
  have HA := Lib.hid (fun w1 (hb : Below w.heap.size w w1) => hI.below hb (Nat.le_refl _))
  go_enter Try.func11, Try.ntmps11
  go_wp2_with fail
  (with_reducible refine (szBedS_c _ _ _ bs _ _ hI hn (by omega) (by omega)).mono ?_)
  rintro e w1 ⟨r, rfl, hr, b1⟩
  rcases hr with rfl | ⟨hr0, hr1, hs⟩
  · go_wp2
    go_ret
    exact ⟨rfl, b1⟩
  · obtain ⟨hbl, hbz⟩ := cfL_bd bs n need
    have HBZ := Lib.hid hbz
    have HS := Lib.hid hs
    clear hbz hI hs
    go_wp2_with fail
    (with_reducible refine (toBedS_c _ _ _ bs _ _ (HA.out _ b1) b1.size HS.out).mono ?_)
    rintro e w2 ⟨rfl, k2, b2⟩
    have c2 := btrans b1 b2
    have B2 := Lib.hid (k2.beds HS.out hwf.out)
    clear k2
    go_wp2_with fail
    (with_reducible refine (cut_s _ _ _ bs need _ B2.out HS.out).mono ?_)
    rintro e w3 ⟨v3, rfl, o3, b3⟩
    have c3 := btrans c2 b3
    obtain ⟨A3, cap3, rfl, i3, -⟩ := o3.ints HBZ.out
    have O3 := Lib.hid o3
    clear o3 i3 B2
    go_wp2_with fail
    (with_reducible refine (toBedS_c _ _ _ bs _ _ (HA.out _ c3) c3.size HS.out).mono ?_)
    rintro e w4 ⟨rfl, k4, b4⟩
    have c4 := btrans c3 b4
    have K4 := Lib.hid k4
    have B4 := Lib.hid (k4.beds HS.out hwf.out)
    have O4 := Lib.hid (O3.out.on b4)
    clear k4
    go_wp2_with fail
    (with_reducible refine (cut_i _ _ _ bs need _ B4.out HS.out).mono ?_)
    rintro e w5 ⟨v5, rfl, o5, b5⟩
    have c5 := btrans c4 b5
    have O5 := Lib.hid o5
    have P5 := Lib.hid (O4.out.on b5)
    obtain ⟨A5, cap5, rfl, i5, -⟩ := o5.ints HBZ.out
    obtain ⟨A3', cap3', e3', j5, -⟩ := P5.out.ints HBZ.out
    simp only [Value.slice.injEq, true_and] at e3'
    obtain ⟨rfl, rfl⟩ := e3'
    clear o5
    go_wp2_with fail
    (with_reducible refine (eqInt64S_c _ _ _ _ _ (cfL bs n need) _ i5 j5 hbl).mono ?_)
    rintro e w6 ⟨rfl, b6⟩
    have c6 := btrans c5 b6
    have B6 := Lib.hid ((B4.out.on b5).on b6)
    clear i5 j5
    go_wp2_with fail
    (with_reducible refine (toBedS_c _ _ _ bs _ _ (HA.out _ c6) c6.size HS.out).mono ?_)
    rintro e w7 ⟨rfl, k7, b7⟩
    have c7 := btrans c6 b7
    have B7 := Lib.hid (k7.beds HS.out hwf.out)
    clear k7
    go_wp2_with fail
    (with_reducible refine (eqBedS_c _ _ _ _ _ bs _ (B6.out.on b7) B7.out HS.out).mono ?_)
    rintro e w8 ⟨rfl, b8⟩
    have c8 := btrans c7 b8
    have b58 := btrans b6 (btrans b7 b8)
    have O8 := Lib.hid (O5.out.on b58)
    have P8 := Lib.hid (P5.out.on b58)
    have K8 := Lib.hid (K4.out.on (btrans b5 b58) (Nat.le_refl _))
    clear B6 B7 O5 P5 K4
    go_wp2_with fail
    (with_reducible refine (markBedS_c _ _ n bs _ K8.out HS.out).mono ?_)
    rintro e w9 ⟨r9, rfl, hr9, h9⟩
    have hs34 := b4.size
    have hs48 := (btrans b5 b58).size
    have c9 : Below w.heap.size w w9 := c8.trans (h9.below c3.size c8.size)
    have O9 : Hid (Own w9 w4.heap.size _ (cfL bs n need)) := h9.own O8.out (fun q hq => .inr (O8.out.lt q hq).1)
    have P9 : Hid (Own w9 w2.heap.size _ (cfL bs n need)) := h9.own P8.out (fun q hq => .inl (O3.out.lt q hq).2)
    have hs9 := h9.2.2.2.1
    clear h9 O8 P8 K8
    obtain ⟨A5', cap5', e5', i9, -⟩ := O9.out.ints HBZ.out
    simp only [Value.slice.injEq, true_and] at e5'
    obtain ⟨rfl, rfl⟩ := e5'
    obtain ⟨A3', cap3', e3', j9, -⟩ := P9.out.ints HBZ.out
    simp only [Value.slice.injEq, true_and] at e3'
    obtain ⟨rfl, rfl⟩ := e3'
    have hr9' : ¬ r9 < 0 := by omega
    go_wp2_with fail
    (with_reducible refine (eqInt64S_c _ _ _ _ _ (cfL bs n need) _ i9 j9 hbl).mono ?_)
    rintro e w10 ⟨rfl, b10⟩
    have c10 := btrans c9 b10
    have O10 := Lib.hid (O9.out.on b10)
    have P10 := Lib.hid (P9.out.on b10)
    clear i9 j9 O9 P9
    have hlen := hbl
    go_wp2_with fail
    (with_reducible refine (markInt64S_c _ (cfL bs n need).length (cfL bs n need) 1 _ w4.heap.size O10.out.row hbl (by omega) (by omega)).mono ?_)
    rintro e w11 ⟨rfl, q11, g11⟩
    have c11 := below_grown c10 g11 (fun g hg => by have := (O10.out.lt g hg).1; have := c4.size; omega)
    have P11 : Hid (Own w11 w2.heap.size _ (cfL bs n need)) := P10.out.kept g11 (own_ne O3.out (by omega) O10.out)
    have q11' : Own w11 w4.heap.size (.slice A5 (cfL bs n need).length cap5) (mkL 1 (cfL bs n need).length) := by unfold Own; rw [mkL_length]; exact q11
    have Q11 := Lib.hid q11'
    clear q11 g11 O10 P10
    obtain ⟨A5', cap5', e5', i11, -⟩ := q11'.ints (mkL_bd _ (by omega))
    rw [mkL_length] at e5' i11
    simp only [Value.slice.injEq, true_and] at e5'
    obtain ⟨rfl, rfl⟩ := e5'
    clear q11'
    go_wp2_with fail
    (with_reducible refine (heldInt64S_c _ _ _ _ i11 (by omega)).mono ?_)
    rintro e w12 ⟨rfl, b12⟩
    have c12 := btrans c11 b12
    clear i11
    go_wp2_with fail
    (with_reducible refine (toBedS_c _ _ _ bs _ _ (HA.out _ c12) c12.size HS.out).mono ?_)
    rintro e w13 ⟨rfl, k13, b13⟩
    have c13 := btrans c12 b13
    have B13 := Lib.hid (k13.beds HS.out hwf.out)
    clear k13
    go_wp2_with fail
    (with_reducible refine (cut_i _ _ _ bs need _ B13.out HS.out).mono ?_)
    rintro e w14 ⟨v14, rfl, o14, b14⟩
    have c14 := btrans c13 b14
    have b1114 := btrans b12 (btrans b13 b14)
    obtain ⟨A14, cap14, rfl, i14, -⟩ := o14.ints HBZ.out
    have P14 := Lib.hid (P11.out.on b1114)
    have Q14 := Lib.hid (Q11.out.on b1114)
    obtain ⟨A3', cap3', e3', j14, -⟩ := P14.out.ints HBZ.out
    simp only [Value.slice.injEq, true_and] at e3'
    obtain ⟨rfl, rfl⟩ := e3'
    clear B13 o14
    go_wp2_with fail
    (with_reducible refine (eqInt64S_c _ _ _ _ _ (cfL bs n need) _ i14 j14 hbl).mono ?_)
    rintro e w15 ⟨rfl, b15⟩
    obtain ⟨A5', cap5', e5', i15, -⟩ := (Q14.out.on b15).ints (mkL_bd _ (by omega))
    rw [mkL_length] at e5' i15
    simp only [Value.slice.injEq, true_and] at e5'
    obtain ⟨rfl, rfl⟩ := e5'
    clear i14 j14
    go_wp2_with fail
    (with_reducible refine (heldInt64S_c _ _ _ _ i15 (by omega)).mono ?_)
    rintro e w16 ⟨rfl, b16⟩
    go_wp2
    go_ret
    exact ⟨rfl, btrans c14 (btrans b15 b16)⟩

theorem own : ownKnob Try.prog.godebug = none := by kernel_rfl
theorem laidOut : laidOutB Try.prog = true := by kernel_rfl

set_option maxRecDepth 100000 in
theorem lifted (os : Os) (started : os.Started) (H : Type) (enc : TypeId × Value → H) :
    ReturnsInHanded {} Try.checked os 11 .any (Rows.fnExactCutForSpec.pre6 enc Try.prog Try.f11 Rows.fnExactCutForRow.domain false) (Rows.fnExactCutForSpec.post enc Try.prog Try.f11 false true false false) := by
  refine returnsInHanded_of_change (C := Try.checked) own started (by kernel_rfl) Try.func11
    (ChangeSpec.witness6 (enc := enc) (C := Try.checked) false ⟨#[], #[.slice none 0 0, .int .i64 0], []⟩ 8 (by kernel_rfl) (by kernel_rfl) (by kernel_rfl) (by kernel_rfl)) ?_
  intro W base args ds gs before hval0 hW _ _
  have hval : ∀ (j : Nat) t v, Try.f11.params[j]? = some t → args[j]? = some v → Value.okWide Try.prog W .any base t v := hval0
  have hW' := hW
  obtain ⟨p, q, hA0, hV, rfl, hfz, hnd⟩ := hW
  have hA : DataW.TrodAll enc Try.prog W 0 (fun _ => true) true Try.f11.params.toList args.toList ds p := hA0
  rw [Try.params11] at hA hval
  obtain ⟨v0, vs0, d0, ds0, p0, q0, hargs, rfl, rfl, h0, r0⟩ := trodAll_cons hA
  obtain ⟨v1, vs1, d1, ds1, p1, q1, rfl, rfl, rfl, h1, r1⟩ := trodAll_cons r0
  obtain ⟨rfl, rfl, rfl⟩ := trodAll_nil r1
  obtain rfl : args = #[v0, v1] := by cases args; simp_all
  obtain ⟨rfl, rfl⟩ := trodVars_none hV
  have k0 := h0
  have lt0 : ∀ x ∈ p0, x.block < W.heap.size := by obtain ⟨m, hm⟩ := k0; exact DataW.trod_lt m _ _ _ hm
  have k1 := h1
  have lt1 : ∀ x ∈ p1, x.block < W.heap.size := by obtain ⟨m, hm⟩ := k1; exact DataW.trod_lt m _ _ _ hm
  have w0 := argBedS (hval 0 32 v0 rfl rfl) h0
  obtain ⟨a1, rfl, rfl, rfl, w1⟩ := open_int Try.underlying2 (hval 1 2 v1 rfl rfl) h1
  clear hA0 hval0
  refine (walk (w := W) v0 w0 a1 w1).mono fun e W' ⟨he, bel⟩ => ?_
  subst he
  exact ⟨_, rfl, _, _, _, [], _, [], hW', trodAll_mk1 (shut_bool Try.underlying4 _), (trodAll_cons_mk (Below.trod laidOut (by kernel_rfl) (of_decide_eq_true (by kernel_rfl)) k0 bel lt0) (trodAll_cons_mk (Below.trod laidOut (by kernel_rfl) (of_decide_eq_true (by kernel_rfl)) k1 bel lt1) trodAll_mk0)), rfl, bel.frame _, fun h => by cases h⟩

theorem over : Rows.fnExactCutForRow.holds Try.pinned (OpenSpec.ofChange Rows.fnExactCutForSpec) :=
  OpenClaim.holds_of_wide 11 Try.f11 rfl rfl rfl rfl rfl rfl rfl ⟨rfl, rfl, rfl, rfl, rfl⟩ rfl rfl rfl rfl rfl (by kernel_rfl) Try.func11 (by kernel_rfl)
    (of_decide_eq_true (by kernel_rfl)) (by unfold Func.isWrapper; first | (rw [if_pos (by decide +kernel)]; kernel_rfl) | (rw [if_neg (by decide +kernel)]; exact ⟨rfl, rfl⟩))
    (fun os started H enc _ => lifted os started H enc)

/-- The statement. -/
theorem proved : Rows.FnExactCutForSaid := over
#print axioms proved
end Go.Proofs.Ytabgkgkbaofgfaa.fnExactCutFor
