/-
  Proved: the program's FewestBunches returns what the reference's returns, for all arguments, leaves its arguments as they were, and its result is memory of its own.
  No conditions.
-/
import Derived.Test.YtgcpobondcnjcaaFewS
import Derived.Test.YtgcpobondcnjcaaOpen
namespace Go.Proofs.Ytgcpobondcnjcaa.fnExactFewestBunches
open Go.ChangeShapes Go.WideShapes Go.ChangeAt Go.RowKit Go.Deep
set_option linter.unusedVariables false

set_option maxRecDepth 100000 in
set_option maxHeartbeats 4000000 in
theorem walk (w : World) (v : Value) (h : IntsArg 3 v w) (need : Int) (wneed : (Lit.int .i64 need).wf = true) :
    Calls Try.prog 4 #[v, .int .i64 need] w fun e w' => e = .returned (.bool true) ∧ Below w.heap.size w w' := by
  obtain ⟨A, n, c, zs, rfl, hn, hI⟩ := h
  by_cases hbig : 1048576 < n
  · have HV : Hid (szV n 1048576 = -1) := if_pos (by omega)
    go_enter Try.func4, Try.ntmps4
    go_wp2_with fail
    refine (szBunchS_c _ _ _ _ _ hn (by omega) (by omega)).mono ?_
    rintro e w' ⟨rfl, rfl⟩
    rw [HV.out]
    go_wp2
    go_ret
    exact ⟨rfl, Below.refl _ _⟩
  · have hn' : n ≤ 1048576 := by omega
    have HV : Hid (szV n 1048576 = 1048576 - n) := if_neg (by omega)
    have HA := Lib.hid (fun w1 (hb : Below w.heap.size w w1) => hI.below hb (Nat.le_refl _))
    obtain ⟨hbl, hbz⟩ := fwL_bd zs n need hn'
    have HBZ := Lib.hid hbz
    clear hbz
    go_enter Try.func4, Try.ntmps4
    go_wp2_with fail
    refine (szBunchS_c _ _ _ _ _ hn (by omega) (by omega)).mono ?_
    rintro e w' ⟨rfl, rfl⟩
    rw [HV.out]
    go_wp2_with fail
    refine (toBunchS_c _ _ _ zs _ _ hI (Nat.le_refl _) hn').mono ?_
    rintro e w1 ⟨rfl, k1, b1⟩
    go_wp2_with fail
    refine (few_s _ _ _ zs need _ (k1.ints hI.length hI.wf) hn').mono ?_
    rintro e w2 ⟨v2, rfl, o2, b2⟩
    have c2 := btrans b1 b2
    obtain ⟨A2, cap2, rfl, i2, -⟩ := o2.ints HBZ.out
    go_wp2_with fail
    refine (toBunchS_c _ _ _ zs _ _ (HA.out _ c2) c2.size hn').mono ?_
    rintro e w3 ⟨rfl, k3, b3⟩
    have s3 := k3.lt
    go_wp2_with fail
    refine (few_i _ _ _ zs need _ (k3.ints hI.length hI.wf) hn').mono ?_
    rintro e w4 ⟨v4, rfl, o4, b4⟩
    have c4 := btrans c2 (btrans b3 b4)
    obtain ⟨A4, cap4, rfl, i4, -⟩ := o4.ints HBZ.out
    have p4 := (o2.on b3).on b4
    obtain ⟨A2', cap2', e2', j4, -⟩ := p4.ints HBZ.out
    simp only [Value.slice.injEq, true_and] at e2'
    obtain ⟨rfl, rfl⟩ := e2'
    go_wp2_with fail
    refine (eqInt64S_c _ _ _ _ _ (fwL zs n need) _ i4 j4 hbl).mono ?_
    rintro e w5 ⟨rfl, b5⟩
    have c5 := btrans c4 b5
    go_wp2_with fail
    refine (toBunchS_c _ _ _ zs _ _ (HA.out _ c5) c5.size hn').mono ?_
    rintro e w6 ⟨rfl, k6, b6⟩
    go_wp2_with fail
    refine (eqBunchS_c _ _ _ _ _ zs _ ((((k3.on b4).on b5).on b6).ints hI.length hI.wf) (k6.ints hI.length hI.wf) hn').mono ?_
    rintro e w7 ⟨rfl, b7⟩
    have c7 := btrans c5 (btrans b6 b7)
    have k7 := (((k3.on b4).on b5).on b6).on b7
    have q7 := ((o4.on b5).on b6).on b7
    have p7 := ((p4.on b5).on b6).on b7
    go_wp2_with fail
    refine (markBunchS_c _ n zs 1 _ w2.heap.size (k7.own (Nat.le_refl _) hn (by rw [iv_length]; exact hI.length)) hn' (by omega) (by omega)).mono ?_
    rintro e w8 ⟨rfl, -, g8⟩
    have c8 := below_grown c7 g8 (fun g hg => by simp [Value.ownBlock] at hg; have := c2.size; omega)
    have q8 := q7.kept g8 (own_ne_blk q7 s3)
    have p8 := p7.kept g8 (own_lt_blk o2 (Nat.le_refl _))
    obtain ⟨A4', cap4', e4', i8, -⟩ := q8.ints HBZ.out
    simp only [Value.slice.injEq, true_and] at e4'
    obtain ⟨rfl, rfl⟩ := e4'
    obtain ⟨A2', cap2', e2', j8, -⟩ := p8.ints HBZ.out
    simp only [Value.slice.injEq, true_and] at e2'
    obtain ⟨rfl, rfl⟩ := e2'
    have hlen := hbl
    go_wp2_with fail
    refine (eqInt64S_c _ _ _ _ _ (fwL zs n need) _ i8 j8 hbl).mono ?_
    rintro e w9 ⟨rfl, b9⟩
    have c9 := btrans c8 b9
    go_wp2_with fail
    refine (markInt64S_c _ (fwL zs n need).length (fwL zs n need) 1 _ w3.heap.size (q8.on b9) hbl (by omega) (by omega)).mono ?_
    rintro e w10 ⟨rfl, q10, g10⟩
    have c10 := below_grown c9 g10 (fun g hg => by have := (o4.lt g hg).1; have := c2.size; omega)
    have p10 := (p8.on b9).kept g10 (own_ne o2 (Nat.le_of_lt s3) o4)
    have q10' : Own w10 w3.heap.size (.slice A4 (fwL zs n need).length cap4) (mkL 1 (fwL zs n need).length) := by unfold Own; rw [mkL_length]; exact q10
    obtain ⟨A4', cap4', e4', i10, -⟩ := q10'.ints (mkL_bd _ (by omega))
    rw [mkL_length] at e4' i10
    simp only [Value.slice.injEq, true_and] at e4'
    obtain ⟨rfl, rfl⟩ := e4'
    go_wp2_with fail
    refine (heldInt64S_c _ _ _ _ i10 (by omega)).mono ?_
    rintro e w11 ⟨rfl, b11⟩
    have c11 := btrans c10 b11
    go_wp2_with fail
    refine (toBunchS_c _ _ _ zs _ _ (HA.out _ c11) c11.size hn').mono ?_
    rintro e w12 ⟨rfl, k12, b12⟩
    go_wp2_with fail
    refine (few_i _ _ _ zs need _ (k12.ints hI.length hI.wf) hn').mono ?_
    rintro e w13 ⟨v13, rfl, o13, b13⟩
    have c13 := btrans c11 (btrans b12 b13)
    obtain ⟨A13, cap13, rfl, i13, -⟩ := o13.ints HBZ.out
    have p13 := ((p10.on b11).on b12).on b13
    have q13 := ((q10'.on b11).on b12).on b13
    obtain ⟨A2', cap2', e2', j13, -⟩ := p13.ints HBZ.out
    simp only [Value.slice.injEq, true_and] at e2'
    obtain ⟨rfl, rfl⟩ := e2'
    go_wp2_with fail
    refine (eqInt64S_c _ _ _ _ _ (fwL zs n need) _ i13 j13 hbl).mono ?_
    rintro e w14 ⟨rfl, b14⟩
    obtain ⟨A4', cap4', e4', i14, -⟩ := (q13.on b14).ints (mkL_bd _ (by omega))
    rw [mkL_length] at e4' i14
    simp only [Value.slice.injEq, true_and] at e4'
    obtain ⟨rfl, rfl⟩ := e4'
    go_wp2_with fail
    refine (heldInt64S_c _ _ _ _ i14 (by omega)).mono ?_
    rintro e w15 ⟨rfl, b15⟩
    go_wp2
    go_ret
    exact ⟨rfl, btrans c13 (btrans b14 b15)⟩

theorem own : ownKnob Try.prog.godebug = none := by kernel_rfl
theorem laidOut : laidOutB Try.prog = true := by kernel_rfl

set_option maxRecDepth 100000 in
theorem lifted (os : Os) (started : os.Started) (H : Type) (enc : TypeId × Value → H) :
    ReturnsInHanded {} Try.checked os 4 .any (Rows.fnExactFewestBunchesSpec.pre6 enc Try.prog Try.f4 Rows.fnExactFewestBunchesRow.domain false) (Rows.fnExactFewestBunchesSpec.post enc Try.prog Try.f4 false true false false) := by
  refine returnsInHanded_of_change (C := Try.checked) own started (by kernel_rfl) Try.func4
    (ChangeSpec.witness6 (enc := enc) (C := Try.checked) false ⟨#[], #[.slice none 0 0, .int .i64 0], []⟩ 8 (by kernel_rfl) (by kernel_rfl) (by kernel_rfl) (by kernel_rfl)) ?_
  intro W base args ds gs before hval0 hW _ _
  have hval : ∀ (j : Nat) t v, Try.f4.params[j]? = some t → args[j]? = some v → Value.okWide Try.prog W .any base t v := hval0
  have hW' := hW
  obtain ⟨p, q, hA0, hV, rfl, hfz, hnd⟩ := hW
  have hA : DataW.TrodAll enc Try.prog W 0 (fun _ => true) true Try.f4.params.toList args.toList ds p := hA0
  rw [Try.params4] at hA hval
  obtain ⟨v0, vs0, d0, ds0, p0, q0, hargs, rfl, rfl, h0, r0⟩ := trodAll_cons hA
  obtain ⟨v1, vs1, d1, ds1, p1, q1, rfl, rfl, rfl, h1, r1⟩ := trodAll_cons r0
  obtain ⟨rfl, rfl, rfl⟩ := trodAll_nil r1
  obtain rfl : args = #[v0, v1] := by cases args; simp_all
  obtain ⟨rfl, rfl⟩ := trodVars_none hV
  have k0 := h0
  have lt0 : ∀ x ∈ p0, x.block < W.heap.size := by obtain ⟨m, hm⟩ := k0; exact DataW.trod_lt m _ _ _ hm
  have k1 := h1
  have lt1 : ∀ x ∈ p1, x.block < W.heap.size := by obtain ⟨m, hm⟩ := k1; exact DataW.trod_lt m _ _ _ hm
  have w0 := argBunch (hval 0 22 v0 rfl rfl) h0
  obtain ⟨a1, rfl, rfl, rfl, w1⟩ := open_int Try.underlying2 (hval 1 2 v1 rfl rfl) h1
  clear hA0 hval0
  refine (walk (w := W) v0 w0 a1 w1).mono fun e W' ⟨he, bel⟩ => ?_
  subst he
  exact ⟨_, rfl, _, _, _, [], _, [], hW', trodAll_mk1 (shut_bool Try.underlying4 _), (trodAll_cons_mk (Below.trod laidOut (by kernel_rfl) (of_decide_eq_true (by kernel_rfl)) k0 bel lt0) (trodAll_cons_mk (Below.trod laidOut (by kernel_rfl) (of_decide_eq_true (by kernel_rfl)) k1 bel lt1) trodAll_mk0)), rfl, bel.frame _, fun h => by cases h⟩

theorem over : Rows.fnExactFewestBunchesRow.holds Try.pinned (OpenSpec.ofChange Rows.fnExactFewestBunchesSpec) :=
  OpenClaim.holds_of_wide 4 Try.f4 rfl rfl rfl rfl rfl rfl rfl ⟨rfl, rfl, rfl, rfl, rfl⟩ rfl rfl rfl rfl rfl (by kernel_rfl) Try.func4 (by kernel_rfl)
    (of_decide_eq_true (by kernel_rfl)) (by unfold Func.isWrapper; first | (rw [if_pos (by decide +kernel)]; kernel_rfl) | (rw [if_neg (by decide +kernel)]; exact ⟨rfl, rfl⟩))
    (fun os started H enc _ => lifted os started H enc)

/-- The statement. -/
theorem proved : Rows.FnExactFewestBunchesSaid := over
#print axioms proved
end Go.Proofs.Ytgcpobondcnjcaa.fnExactFewestBunches
