/-
  Proved: the program's BestRhythm returns what the reference's returns, for all arguments.
  No conditions.
-/
import Derived.Test.YtabgkgkbaofgfaaRhythm
import Derived.Test.YtabgkgkbaofgfaaBed
namespace Go.Proofs.Ytabgkgkbaofgfaa.fnExactBestRhythm
open Go.ChangeShapes Go.WideShapes Go.ChangeAt Go.RowKit Go.Deep
set_option linter.unusedVariables false

set_option maxRecDepth 100000 in
set_option maxHeartbeats 2000000 in
theorem walk (w : World) (v : Value) (h : BedArg v w) :
    Calls Try.prog 6 #[v] w fun e w' => e = .returned (.bool true) ∧ Below w.heap.size w w' := by
  obtain ⟨A, n, c, zs, a, rfl, hn, hI⟩ := h
  obtain rfl : n = zs.length := by have := hI.length; omega
  have hw := hI.wf
  rcases szV_cases zs.length 1048576 (by omega) with hq | hq
  · have HV := Lib.hid hq
    clear hq
    go_enter Try.func6, Try.ntmps6
    go_wp2_with fail
    refine (szBed_c _ _ _ _ _ _ hn (by omega) (by omega)).mono ?_
    rintro e w1 ⟨rfl, b1⟩
    rw [HV.out]
    go_wp2
    go_ret
    exact ⟨rfl, btrans (balloc (Below.refl _ _) _) b1⟩
  · obtain ⟨h2, h3, h4⟩ := hq
    have hn' : zs.length ≤ 1048576 := by omega
    have HA := Lib.hid (fun w1 (hb : Below w.heap.size w w1) => hI.below hb (Nat.le_refl _))
    go_enter Try.func6, Try.ntmps6
    go_wp2_with fail
    refine (szBed_c _ _ _ _ _ _ hn (by omega) (by omega)).mono ?_
    rintro e w1 ⟨rfl, b1⟩
    have c1 := btrans (balloc (Below.refl _ w) (.cells #[.slice A zs.length c, .int .i64 a] 24)) b1
    have K := (Blk.new w 24 #[.slice A zs.length c, .int .i64 a]).on b1
    have Kl := K.lt
    have Kc0 := K.cell 0
    have Kf0 := K.frozen 0
    have Kc1 := K.cell 1
    have Kf1 := K.frozen 1
    simp at Kc0 Kc1
    have KH := Lib.hid K
    clear K
    go_wp2_with fail
    refine (toBed_c _ _ _ zs a _ _ (HA.out _ c1) c1.size hn').mono ?_
    rintro e w2 ⟨g2, rfl, hg2, k2, b2⟩
    have c2 := btrans c1 b2
    go_wp2_with fail
    refine (rhythm_s _ _ zs a _ (k2.ints (by omega) hw) hn').mono ?_
    rintro e w3 ⟨rfl, b3⟩
    have c3 := btrans c2 b3
    have L := ((KH.out.on b2).on b3).alloc (.cells #[.int .i64 (rhN zs a), .int .i64 (rhD zs a)] 41)
    have Ll := L.lt
    have Lc0 := L.cell 0
    have Lf0 := L.frozen 0
    have Lc1 := L.cell 1
    have Lf1 := L.frozen 1
    simp at Lc0 Lc1
    have LH := Lib.hid L
    clear L
    have c3' := balloc c3 (.cells #[.int .i64 (rhN zs a), .int .i64 (rhD zs a)] 41)
    go_wp2_with fail
    refine (toBed_c _ _ _ zs a _ _ (HA.out _ c3') c3'.size hn').mono ?_
    rintro e w4 ⟨g4, rfl, hg4, k4, b4⟩
    have c4 := btrans c3' b4
    have k4' := k4.alloc (.cells #[.slice (some ⟨g4, 0, none⟩) zs.length zs.length, .int .i64 a] 28)
    have c4' := balloc c4 (.cells #[.slice (some ⟨g4, 0, none⟩) zs.length zs.length, .int .i64 a] 28)
    go_wp2_with fail
    refine (rhythm_i _ _ zs a _ (k4'.ints (by omega) hw) hn').mono ?_
    rintro e w5 ⟨rfl, b5⟩
    have c5 := btrans c4' b5
    have P := (((Blk.new w3 41 #[.int .i64 (rhN zs a), .int .i64 (rhD zs a)]).on b4).alloc (.cells #[.slice (some ⟨g4, 0, none⟩) zs.length zs.length, .int .i64 a] 28)).on b5
    have Pl := P.lt
    have Pc0 := P.cell 0
    have Pf0 := P.frozen 0
    have Pc1 := P.cell 1
    have Pf1 := P.frozen 1
    simp at Pc0 Pc1
    have PH := Lib.hid P
    clear P
    go_wp2_with fail
    refine (eqFraction_c _ _ _).mono ?_
    rintro e w6 ⟨rfl, b6⟩
    have b56 := btrans (balloc b5 (.cells #[.int .i64 (rhN zs a), .int .i64 (rhD zs a)] 41)) b6
    have c6 := btrans c4' b56
    have kb := (k4').on b56
    have M := ((LH.out.on b4).alloc _).on b56
    have Ml := M.lt
    have Mc0 := M.cell 0
    have Mf0 := M.frozen 0
    have Mc1 := M.cell 1
    have Mf1 := M.frozen 1
    simp at Mc0 Mc1
    have MH := Lib.hid M
    clear M
    have X := (Blk.new w4 28 #[.slice (some ⟨g4, 0, none⟩) zs.length zs.length, .int .i64 a]).on b56
    have Xl := X.lt
    have Xc0 := X.cell 0
    have Xf0 := X.frozen 0
    have Xc1 := X.cell 1
    have Xf1 := X.frozen 1
    simp at Xc0 Xc1
    have XH := Lib.hid X
    clear X
    have HK := Lib.hid kb
    clear kb
    go_wp2_with fail
    go_region_with (first | (go_at_call 16; refine (toBed_c _ _ _ zs a _ _ (HA.out _ (Below.drew c6)) (by exact c6.size) hn').mono ?_; rintro e wy ⟨gy, rfl, hgy, ky, by_⟩; have d0 := (XH.out.drew.on by_).cell 0; have d1 := (XH.out.drew.on by_).cell 1; simp at d0 d1) | (go_at_call 18; refine (eqBed_c _ _ _ _ _ zs a _ ((HK.out.drew.on by_).ints (by omega) hw) (ky.ints (by omega) hw) hn').mono ?_; rintro e wz ⟨rfl, bz⟩))
    all_goals
      go_wp2
      go_ret
      exact ⟨rfl, btrans (btrans (Below.drew c6) by_) bz⟩

theorem own : ownKnob Try.prog.godebug = none := by kernel_rfl
theorem laidOut : laidOutB Try.prog = true := by kernel_rfl

set_option maxRecDepth 100000 in
theorem lifted (os : Os) (started : os.Started) (H : Type) (enc : TypeId × Value → H) :
    ReturnsInHanded {} Try.checked os 6 .any (Rows.fnExactBestRhythmSpec.pre6 enc Try.prog Try.f6 Rows.fnExactBestRhythmRow.domain false) (Rows.fnExactBestRhythmSpec.post enc Try.prog Try.f6 false true false false) := by
  refine returnsInHanded_of_change (C := Try.checked) own started (by kernel_rfl) Try.func6
    (ChangeSpec.witness6 (enc := enc) (C := Try.checked) false ⟨#[], #[.agg #[.slice none 0 0, .int .i64 0]], []⟩ 8 (by kernel_rfl) (by kernel_rfl) (by kernel_rfl) (by kernel_rfl)) ?_
  intro W base args ds gs before hval0 hW _ _
  have hval : ∀ (j : Nat) t v, Try.f6.params[j]? = some t → args[j]? = some v → Value.okWide Try.prog W .any base t v := hval0
  have hW' := hW
  obtain ⟨p, q, hA0, hV, rfl, hfz, hnd⟩ := hW
  have hA : DataW.TrodAll enc Try.prog W 0 (fun _ => true) true Try.f6.params.toList args.toList ds p := hA0
  rw [Try.params6] at hA hval
  obtain ⟨v0, vs0, d0, ds0, p0, q0, hargs, rfl, rfl, h0, r0⟩ := trodAll_cons hA
  obtain ⟨rfl, rfl, rfl⟩ := trodAll_nil r0
  obtain rfl : args = #[v0] := by cases args; simp_all
  obtain ⟨rfl, rfl⟩ := trodVars_none hV
  have k0 := h0
  have lt0 : ∀ x ∈ p0, x.block < W.heap.size := by obtain ⟨m, hm⟩ := k0; exact DataW.trod_lt m _ _ _ hm
  have w0 := argBed (hval 0 24 v0 rfl rfl) h0
  clear hA0 hval0
  refine (walk (w := W) v0 w0).mono fun e W' ⟨he, bel⟩ => ?_
  subst he
  exact ⟨_, rfl, _, _, _, [], _, [], hW', trodAll_mk1 (shut_bool Try.underlying4 _), (trodAll_cons_mk (Below.trod laidOut (by kernel_rfl) (of_decide_eq_true (by kernel_rfl)) k0 bel lt0) trodAll_mk0), rfl, bel.frame _, fun h => by cases h⟩

theorem over : Rows.fnExactBestRhythmRow.holds Try.pinned (OpenSpec.ofChange Rows.fnExactBestRhythmSpec) :=
  OpenClaim.holds_of_wide 6 Try.f6 rfl rfl rfl rfl rfl rfl rfl ⟨rfl, rfl, rfl, rfl, rfl⟩ rfl rfl rfl rfl rfl (by kernel_rfl) Try.func6 (by kernel_rfl)
    (of_decide_eq_true (by kernel_rfl)) (by unfold Func.isWrapper; first | (rw [if_pos (by decide +kernel)]; kernel_rfl) | (rw [if_neg (by decide +kernel)]; exact ⟨rfl, rfl⟩))
    (fun os started H enc _ => lifted os started H enc)

/-- The statement. -/
theorem proved : Rows.FnExactBestRhythmSaid := over
#print axioms proved
end Go.Proofs.Ytabgkgkbaofgfaa.fnExactBestRhythm
