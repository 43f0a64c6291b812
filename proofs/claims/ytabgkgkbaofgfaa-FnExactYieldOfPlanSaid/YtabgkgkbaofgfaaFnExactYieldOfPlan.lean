/-
  Proved: the program's YieldOfPlan returns what the reference's returns, for all arguments.
  No conditions.
-/
import Derived.Test.YtabgkgkbaofgfaaPlan
import Derived.Test.YtabgkgkbaofgfaaBed
namespace Go.Proofs.Ytabgkgkbaofgfaa.fnExactYieldOfPlan
open Go.ChangeShapes Go.WideShapes Go.ChangeAt Go.RowKit Go.Deep
set_option linter.unusedVariables false

set_option maxRecDepth 100000 in
set_option maxHeartbeats 4000000 in
theorem walk (w : World) (v : Value) (h : BedArg v w) (v' : Value) (h' : IntsArg 1 v' w) (years : Int) (wy : (Lit.int .i64 years).wf = true) :
    Calls Try.prog 7 #[v, v', .int .i64 years] w fun e w' => e = .returned (.bool true) ∧ Below w.heap.size w w' := by
  obtain ⟨A', m, c', L, rfl, hm, hJ⟩ := h'
  obtain ⟨A, n, c, zs, a, rfl, hn, hI⟩ := h
  obtain rfl : n = zs.length := by have := hI.length; omega
  obtain rfl : m = L.length := by have := hJ.length; omega
  unfold maxLen at hm
  by_cases hbig : 1048576 < L.length
  · go_enter Try.func7, Try.ntmps7
    go_wp2
    go_ret
    exact ⟨rfl, balloc (Below.refl _ _) _⟩
  have hm' : L.length ≤ 1048576 := by omega
  have hw := hI.wf
  have hw' := hJ.wf
  have HJ := Lib.hid (fun w1 (hb : Below w.heap.size w w1) => hJ.below hb (Nat.le_refl _))
  have HA := Lib.hid (fun w1 (hb : Below w.heap.size w w1) => hI.below hb (Nat.le_refl _))
  rcases szV_cases zs.length 1048576 (by omega) with hq | hq
  · have HV := Lib.hid hq
    clear hq
    go_enter Try.func7, Try.ntmps7
    go_wp2_with fail
    (with_reducible refine (szBed_c _ _ _ _ _ _ hn (by omega) (by omega)).mono ?_)
    rintro e w1 ⟨rfl, b1⟩
    rw [HV.out]
    go_wp2
    go_ret
    exact ⟨rfl, btrans (balloc (Below.refl _ _) _) b1⟩
  · obtain ⟨h2, h3, h4⟩ := hq
    have hn' : zs.length ≤ 1048576 := by omega
    go_enter Try.func7, Try.ntmps7
    go_wp2_with fail
    (with_reducible refine (szBed_c _ _ _ _ _ _ hn (by omega) (by omega)).mono ?_)
    rintro e w1 ⟨rfl, b1⟩
    have c1 := btrans (balloc (Below.refl _ w) (.cells #[.slice A zs.length c, .int .i64 a] 24)) b1
    have K := (Blk.new w 24 #[.slice A zs.length c, .int .i64 a]).on b1
    have Kl := K.lt
    have Kc0 := K.cell 0
    have Kf0 := K.frozen 0
    have Kc1 := K.cell 1
    have Kf1 := K.frozen 1
    simp at Kc0 Kc1
    have KH := Lib.hid K
    clear K
    go_wp2_with fail
    (with_reducible refine (toBed_c _ _ _ zs a _ _ (HA.out _ c1) c1.size hn').mono ?_)
    rintro e w2 ⟨g2, rfl, hg2, k2, b2⟩
    have c2 := btrans c1 b2
    go_wp2_with fail
    (with_reducible refine (toInt64S_c _ _ _ L _ _ (HJ.out _ c2) c2.size hm').mono ?_)
    rintro e w3 ⟨rfl, k3, b3⟩
    have c3 := btrans c2 b3
    go_wp2_with fail
    (with_reducible refine (yop_s _ _ _ _ zs L a years _ ((k2.on b3).ints (by omega) hw) (k3.ints (by omega) hw') hn' hm').mono ?_)
    rintro e w4 ⟨rfl, b4⟩
    have c4 := btrans c3 b4
    have KH2 := Lib.hid (((KH.out.on b2).on b3).on b4)
    clear Kc0 Kc1 Kf0 Kf1 Kl KH k2 b2 b3 k3 b4
    have L := KH2.out
    have Ll := L.lt
    have Lc0 := L.cell 0
    have Lf0 := L.frozen 0
    have Lc1 := L.cell 1
    have Lf1 := L.frozen 1
    simp at Lc0 Lc1
    have LH := Lib.hid L
    clear L
    go_wp2_with fail
    (with_reducible refine (toBed_c _ _ _ zs a _ _ (HA.out _ c4) c4.size hn').mono ?_)
    rintro e w5 ⟨g5, rfl, hg5, k5, b5⟩
    have c5 := btrans c4 b5
    have LH2 := Lib.hid ((LH.out.on b5).alloc (.cells #[.slice (some ⟨g5, 0, none⟩) zs.length zs.length, .int .i64 a] 28))
    clear Lc0 Lc1 Lf0 Lf1 Ll LH
    have k5' := k5.alloc (.cells #[.slice (some ⟨g5, 0, none⟩) zs.length zs.length, .int .i64 a] 28)
    have c5' := balloc c5 (.cells #[.slice (some ⟨g5, 0, none⟩) zs.length zs.length, .int .i64 a] 28)
    go_wp2_with fail
    (with_reducible refine (toInt64S_c _ _ _ L _ _ (HJ.out _ c5') c5'.size hm').mono ?_)
    rintro e w6 ⟨rfl, k6, b6⟩
    have c6 := btrans c5' b6
    have hz6 : (w5.alloc (.cells #[.slice (some ⟨g5, 0, none⟩) zs.length zs.length, .int .i64 a] 28)).heap.size = w5.heap.size + 1 := by simp
    rw [hz6] at k6
    clear hz6
    have P := (Blk.new w5 28 #[.slice (some ⟨g5, 0, none⟩) zs.length zs.length, .int .i64 a]).on b6
    have Pl := P.lt
    have Pc0 := P.cell 0
    have Pf0 := P.frozen 0
    have Pc1 := P.cell 1
    have Pf1 := P.frozen 1
    simp at Pc0 Pc1
    have PH := Lib.hid P
    clear P
    go_wp2_with fail
    (with_reducible refine (yop_i _ _ _ _ zs L a years _ ((k5'.on b6).ints (by omega) hw) (k6.ints (by omega) hw') hn' hm').mono ?_)
    rintro e w7 ⟨rfl, b7⟩
    have b67 := btrans b6 b7
    clear Pc0 Pc1 Pf0 Pf1 Pl PH
    have c7 := btrans c6 b7
    have HK6 := Lib.hid (k6.on b7)
    clear k6
    have kb := (k5').on b67
    have MH := Lib.hid (LH2.out.on b67)
    have XH := Lib.hid ((Blk.new w5 28 #[.slice (some ⟨g5, 0, none⟩) zs.length zs.length, .int .i64 a]).on b67)
    have HK := Lib.hid kb
    clear kb
    go_wp2_with fail
    go_region_held3 (fun w' => w'.cell? ⟨w5.heap.size, 0, none⟩ = some (.slice (some ⟨g5, 0, none⟩) zs.length zs.length) ∧ w'.cell? ⟨w5.heap.size, 1, none⟩ = some (.int .i64 a) ∧ w'.cell? ⟨w.heap.size, 0, none⟩ = some (.slice A zs.length c) ∧ w'.cell? ⟨w.heap.size, 1, none⟩ = some (.int .i64 a) ∧ Below w7.heap.size w7 w') (first | exact keepE XH.out MH.out (Below.refl _ _) | exact keepE XH.out MH.out (Below.refl _ _).drew | exact keepE XH.out MH.out (btrans (‹_ ∧ _ ∧ _ ∧ _ ∧ Below _ _ _›.2.2.2.2) ‹Below _ _ _›)) ((first | (go_at_call 16; refine (toBed_c _ _ _ zs a _ _ (HA.out _ (btrans c7 (‹_ ∧ _ ∧ _ ∧ _ ∧ Below w7.heap.size w7 _›.2.2.2.2))) (Nat.le_trans (c7).size (‹_ ∧ _ ∧ _ ∧ _ ∧ Below w7.heap.size w7 _›.2.2.2.2).size) hn').mono ?_; rintro e wy ⟨gy, rfl, hgy, ky, by_⟩) | (go_at_call 18; refine (eqBed_c _ _ _ _ _ zs a _ ((HK.out.on (‹_ ∧ _ ∧ _ ∧ _ ∧ Below w7.heap.size w7 wy›.2.2.2.2)).ints (by omega) hw) (ky.ints (by omega) hw) hn').mono ?_; rintro e wz ⟨rfl, bz⟩)))
    have hz := (‹_ ∧ _ ∧ _ ∧ _ ∧ Below w7.heap.size w7 wz›).2.2.2.2
    clear by_ bz
    have HJ6 := Lib.hid (HK6.out.on hz)
    have c8 := btrans c7 hz
    go_wp2_with fail
    (with_reducible refine (toInt64S_c _ _ _ L _ _ (HJ.out _ c8) c8.size hm').mono ?_)
    rintro e w9 ⟨rfl, k9, b9⟩
    go_wp2_with fail
    (with_reducible refine (eqInt64S_c _ _ _ _ _ L _ ((HJ6.out.on b9).ints (by omega) hw') (k9.ints (by omega) hw') hm').mono ?_)
    rintro e w10 ⟨rfl, b10⟩
    go_wp2
    go_ret
    exact ⟨rfl, btrans c8 (btrans b9 b10)⟩

theorem own : ownKnob Try.prog.godebug = none := by kernel_rfl
theorem laidOut : laidOutB Try.prog = true := by kernel_rfl

set_option maxRecDepth 100000 in
theorem lifted (os : Os) (started : os.Started) (H : Type) (enc : TypeId × Value → H) :
    ReturnsInHanded {} Try.checked os 7 .any (Rows.fnExactYieldOfPlanSpec.pre6 enc Try.prog Try.f7 Rows.fnExactYieldOfPlanRow.domain false) (Rows.fnExactYieldOfPlanSpec.post enc Try.prog Try.f7 false true false false) := by
  refine returnsInHanded_of_change (C := Try.checked) own started (by kernel_rfl) Try.func7
    (ChangeSpec.witness6 (enc := enc) (C := Try.checked) false ⟨#[], #[.agg #[.slice none 0 0, .int .i64 0], .slice none 0 0, .int .i64 0], []⟩ 8 (by kernel_rfl) (by kernel_rfl) (by kernel_rfl) (by kernel_rfl)) ?_
  intro W base args ds gs before hval0 hW _ _
  have hval : ∀ (j : Nat) t v, Try.f7.params[j]? = some t → args[j]? = some v → Value.okWide Try.prog W .any base t v := hval0
  have hW' := hW
  obtain ⟨p, q, hA0, hV, rfl, hfz, hnd⟩ := hW
  have hA : DataW.TrodAll enc Try.prog W 0 (fun _ => true) true Try.f7.params.toList args.toList ds p := hA0
  rw [Try.params7] at hA hval
  obtain ⟨v0, vs0, d0, ds0, p0, q0, hargs, rfl, rfl, h0, r0⟩ := trodAll_cons hA
  obtain ⟨v1, vs1, d1, ds1, p1, q1, rfl, rfl, rfl, h1, r1⟩ := trodAll_cons r0
  obtain ⟨v2, vs2, d2, ds2, p2, q2, rfl, rfl, rfl, h2, r2⟩ := trodAll_cons r1
  obtain ⟨rfl, rfl, rfl⟩ := trodAll_nil r2
  obtain rfl : args = #[v0, v1, v2] := by cases args; simp_all
  obtain ⟨rfl, rfl⟩ := trodVars_none hV
  have k0 := h0
  have lt0 : ∀ x ∈ p0, x.block < W.heap.size := by obtain ⟨m, hm⟩ := k0; exact DataW.trod_lt m _ _ _ hm
  have k1 := h1
  have lt1 : ∀ x ∈ p1, x.block < W.heap.size := by obtain ⟨m, hm⟩ := k1; exact DataW.trod_lt m _ _ _ hm
  have k2 := h2
  have lt2 : ∀ x ∈ p2, x.block < W.heap.size := by obtain ⟨m, hm⟩ := k2; exact DataW.trod_lt m _ _ _ hm
  have w0 := argBed (hval 0 24 v0 rfl rfl) h0
  have w1 := argInt64 (hval 1 22 v1 rfl rfl) h1
  obtain ⟨a2, rfl, rfl, rfl, w2⟩ := open_int Try.underlying2 (hval 2 2 v2 rfl rfl) h2
  clear hA0 hval0
  refine (walk (w := W) v0 w0 v1 w1 a2 w2).mono fun e W' ⟨he, bel⟩ => ?_
  subst he
  exact ⟨_, rfl, _, _, _, [], _, [], hW', trodAll_mk1 (shut_bool Try.underlying4 _), (trodAll_cons_mk (Below.trod laidOut (by kernel_rfl) (of_decide_eq_true (by kernel_rfl)) k0 bel lt0) (trodAll_cons_mk (Below.trod laidOut (by kernel_rfl) (of_decide_eq_true (by kernel_rfl)) k1 bel lt1) (trodAll_cons_mk (Below.trod laidOut (by kernel_rfl) (of_decide_eq_true (by kernel_rfl)) k2 bel lt2) trodAll_mk0))), rfl, bel.frame _, fun h => by cases h⟩

theorem over : Rows.fnExactYieldOfPlanRow.holds Try.pinned (OpenSpec.ofChange Rows.fnExactYieldOfPlanSpec) :=
  OpenClaim.holds_of_wide 7 Try.f7 rfl rfl rfl rfl rfl rfl rfl ⟨rfl, rfl, rfl, rfl, rfl⟩ rfl rfl rfl rfl rfl (by kernel_rfl) Try.func7 (by kernel_rfl)
    (of_decide_eq_true (by kernel_rfl)) (by unfold Func.isWrapper; first | (rw [if_pos (by decide +kernel)]; kernel_rfl) | (rw [if_neg (by decide +kernel)]; exact ⟨rfl, rfl⟩))
    (fun os started H enc _ => lifted os started H enc)

/-- The statement. -/
theorem proved : Rows.FnExactYieldOfPlanSaid := over
#print axioms proved
end Go.Proofs.Ytabgkgkbaofgfaa.fnExactYieldOfPlan
