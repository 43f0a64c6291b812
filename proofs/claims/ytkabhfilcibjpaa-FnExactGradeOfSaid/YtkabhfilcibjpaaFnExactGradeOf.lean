/-
  Proved: the program's GradeOf returns what the reference's returns, for all arguments.
  No conditions.
-/
import Derived.Test.YtkabhfilcibjpaaGrade
import Derived.Test.YtkabhfilcibjpaaOpen
namespace Go.Proofs.Ytkabhfilcibjpaa.fnExactGradeOf
open Go.ChangeShapes Go.WideShapes Go.ChangeAt Go.RowKit Go.Deep
set_option linter.unusedVariables false

set_option maxRecDepth 100000 in
set_option maxHeartbeats 1000000 in
theorem walk (w : World) (v : Value) (h : ∃ a b c : Int, v = .agg #[.int .i64 a, .int .i64 b, .int .i64 c]) (v' : Value) (h' : IntsArg 1 v' w) :
    Calls Try.prog 4 #[v, v'] w fun e w' => e = .returned (.bool true) ∧ Below w.heap.size w w' := by
  obtain ⟨l, b, t, rfl⟩ := h
  obtain ⟨A, n, c, zs, rfl, hn, hI⟩ := h'
  unfold maxLen at hn
  by_cases hbig : 1048576 < n
  · go_enter Try.func4, Try.ntmps4
    go_wp2
    go_ret
    exact ⟨rfl, balloc (Below.refl _ _) _⟩
  · have hn' : n ≤ 1048576 := by omega
    have hA := fun w1 (hb : Below w.heap.size w w1) => hI.below hb (Nat.le_refl _)
    have HA := Lib.hid hA
    clear hA
    go_enter Try.func4, Try.ntmps4
    go_wp2_with fail
    refine (toRod_c _ _ _ _).mono ?_
    rintro e w1 ⟨rfl, b1⟩
    have c1 := btrans (balloc (Below.refl _ _) _) b1
    have K := (Blk.new w 30 #[.int .i64 l, .int .i64 b, .int .i64 t]).on b1
    have Kl := K.lt
    have Kc0 := K.cell 0
    have Kf0 := K.frozen 0
    have Kc1 := K.cell 1
    have Kf1 := K.frozen 1
    have Kc2 := K.cell 2
    have Kf2 := K.frozen 2
    simp at Kc0 Kc1 Kc2
    have KH := Lib.hid K
    clear K
    go_wp2_with fail
    refine (toInt64S_c _ _ _ zs _ _ (HA.out _ c1) c1.size hn').mono ?_
    rintro e w2 ⟨rfl, k2, b2⟩
    have c2 := btrans c1 b2
    go_wp2_with fail
    refine (gradeOf_s _ _ _ _ _ _ zs _ (k2.ints hI.length hI.wf) hn').mono ?_
    rintro e w3 ⟨rfl, b3⟩
    have c3 := btrans c2 b3
    go_wp2_with fail
    refine (toInt64S_c _ _ _ zs _ _ (HA.out _ c3) c3.size hn').mono ?_
    rintro e w4 ⟨rfl, k4, b4⟩
    have c4 := btrans c3 b4
    have L := ((KH.out.on b2).on b3).on b4
    have Ll := L.lt
    have Lc0 := L.cell 0
    have Lf0 := L.frozen 0
    have Lc1 := L.cell 1
    have Lf1 := L.frozen 1
    have Lc2 := L.cell 2
    have Lf2 := L.frozen 2
    simp at Lc0 Lc1 Lc2
    have LH := Lib.hid L
    clear L
    go_wp2_with fail
    refine (toRod_c _ _ _ _).mono ?_
    rintro e w5 ⟨rfl, b5⟩
    go_wp2_with fail
    refine (gradeOf_i _ _ _ _ _ _ zs _ ((k4.on b5).ints hI.length hI.wf) hn').mono ?_
    rintro e w6 ⟨rfl, b6⟩
    have c6 := btrans c4 (btrans b5 b6)
    go_wp2_with fail
    refine (toInt64S_c _ _ _ zs _ _ (HA.out _ c6) c6.size hn').mono ?_
    rintro e w7 ⟨rfl, k7, b7⟩
    go_wp2_with fail
    refine (eqInt64S_c _ _ _ _ _ zs _ ((((k4.on b5).on b6).on b7).ints hI.length hI.wf) (k7.ints hI.length hI.wf) hn').mono ?_
    rintro e w8 ⟨rfl, b8⟩
    go_wp2
    go_ret
    exact ⟨rfl, btrans c6 (btrans b7 b8)⟩

theorem own : ownKnob Try.prog.godebug = none := by kernel_rfl
theorem laidOut : laidOutB Try.prog = true := by kernel_rfl

set_option maxRecDepth 100000 in
theorem lifted (os : Os) (started : os.Started) (H : Type) (enc : TypeId × Value → H) :
    ReturnsInHanded {} Try.checked os 4 .any (Rows.fnExactGradeOfSpec.pre6 enc Try.prog Try.f4 Rows.fnExactGradeOfRow.domain false) (Rows.fnExactGradeOfSpec.post enc Try.prog Try.f4 false true false false) := by
  refine returnsInHanded_of_change (C := Try.checked) own started (by kernel_rfl) Try.func4
    (ChangeSpec.witness6 (enc := enc) (C := Try.checked) false ⟨#[], #[.agg #[.int .i64 0, .int .i64 0, .int .i64 0], .slice none 0 0], []⟩ 8 (by kernel_rfl) (by kernel_rfl) (by kernel_rfl) (by kernel_rfl)) ?_
  intro W base args ds gs before hval0 hW _ _
  have hval : ∀ (j : Nat) t v, Try.f4.params[j]? = some t → args[j]? = some v → Value.okWide Try.prog W .any base t v := hval0
  have hW' := hW
  obtain ⟨p, q, hA0, hV, rfl, hfz, hnd⟩ := hW
  have hA : DataW.TrodAll enc Try.prog W 0 (fun _ => true) true Try.f4.params.toList args.toList ds p := hA0
  rw [Try.params4] at hA hval
  obtain ⟨v0, vs0, d0, ds0, p0, q0, hargs, rfl, rfl, h0, r0⟩ := trodAll_cons hA
  obtain ⟨v1, vs1, d1, ds1, p1, q1, rfl, rfl, rfl, h1, r1⟩ := trodAll_cons r0
  obtain ⟨rfl, rfl, rfl⟩ := trodAll_nil r1
  obtain rfl : args = #[v0, v1] := by cases args; simp_all
  obtain ⟨rfl, rfl⟩ := trodVars_none hV
  have k0 := h0
  have lt0 : ∀ x ∈ p0, x.block < W.heap.size := by obtain ⟨m, hm⟩ := k0; exact DataW.trod_lt m _ _ _ hm
  have k1 := h1
  have lt1 : ∀ x ∈ p1, x.block < W.heap.size := by obtain ⟨m, hm⟩ := k1; exact DataW.trod_lt m _ _ _ hm
  have w0 := oneRod (hval 0 30 v0 rfl rfl) h0
  have w1 := argInt64 (hval 1 31 v1 rfl rfl) h1
  clear hA0 hval0
  refine (walk (w := W) v0 w0 v1 w1).mono fun e W' ⟨he, bel⟩ => ?_
  subst he
  exact ⟨_, rfl, _, _, _, [], _, [], hW', trodAll_mk1 (shut_bool Try.underlying4 _), (trodAll_cons_mk (Below.trod laidOut (by kernel_rfl) (of_decide_eq_true (by kernel_rfl)) k0 bel lt0) (trodAll_cons_mk (Below.trod laidOut (by kernel_rfl) (of_decide_eq_true (by kernel_rfl)) k1 bel lt1) trodAll_mk0)), rfl, bel.frame _, fun h => by cases h⟩

theorem over : Rows.fnExactGradeOfRow.holds Try.pinned (OpenSpec.ofChange Rows.fnExactGradeOfSpec) :=
  OpenClaim.holds_of_wide 4 Try.f4 rfl rfl rfl rfl rfl rfl rfl ⟨rfl, rfl, rfl, rfl, rfl⟩ rfl rfl rfl rfl rfl (by kernel_rfl) Try.func4 (by kernel_rfl)
    (of_decide_eq_true (by kernel_rfl)) (by unfold Func.isWrapper; first | (rw [if_pos (by decide +kernel)]; kernel_rfl) | (rw [if_neg (by decide +kernel)]; exact ⟨rfl, rfl⟩))
    (fun os started H enc _ => lifted os started H enc)

/-- The statement. -/
theorem proved : Rows.FnExactGradeOfSaid := over
#print axioms proved
end Go.Proofs.Ytkabhfilcibjpaa.fnExactGradeOf
