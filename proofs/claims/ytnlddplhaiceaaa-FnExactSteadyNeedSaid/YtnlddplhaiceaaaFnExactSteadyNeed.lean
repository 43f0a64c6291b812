/-
  Proved: the program's SteadyNeed returns what the reference's returns, for all arguments, and leaves its arguments as they were.
  No conditions.
-/
import Derived.Test.YtnlddplhaiceaaaSteadyI
namespace Go.Proofs.Ytnlddplhaiceaaa.fnExactSteadyNeed
open Go.ChangeShapes Go.WideShapes Go.ChangeAt Go.RowKit Go.Deep
set_option linter.unusedVariables false

set_option maxRecDepth 100000 in
set_option maxHeartbeats 8000000 in
theorem walk (w : World) (v : Value) (h : BedsArg v w) (y : Int) (wy : (Lit.int .i64 y).wf = true) :
    Calls Try.prog 3 #[v, .int .i64 y] w fun e w' => e = .returned (.bool true) ∧ Below w.heap.size w w' := by
  obtain ⟨A, n, c, bs, rfl, hn, hI⟩ := h
  have hwf := Lib.hid hI.wf
  have HA := Lib.hid (fun w1 (hb : Below w.heap.size w w1) => hI.below hb (Nat.le_refl _))
  go_enter Try.func3, Try.ntmps3
  go_wp2_with fail
  (with_reducible refine (szBedS_c _ _ _ bs _ _ hI hn (by omega) (by omega)).mono ?_)
  rintro e w1 ⟨r, rfl, hr, b1⟩
  rcases hr with rfl | ⟨hr0, hr1, hs⟩
  · go_wp2
    go_ret
    exact ⟨rfl, b1⟩
  have HS := Lib.hid hs
  clear hs hI
  go_wp2_with fail
  (with_reducible refine (toBedS_c _ _ _ bs _ _ (HA.out _ b1) b1.size HS.out).mono ?_)
  rintro e w2 ⟨rfl, k2, b2⟩
  have c2 := btrans b1 b2
  have B2 := Lib.hid (k2.beds HS.out hwf.out)
  clear k2
  go_wp2_with fail
  (with_reducible refine (need_s _ _ _ bs y _ B2.out HS.out).mono ?_)
  rintro e w3 ⟨rfl, b3⟩
  have c3 := btrans c2 b3
  clear B2
  go_wp2_with fail
  (with_reducible refine (toBedS_c _ _ _ bs _ _ (HA.out _ c3) c3.size HS.out).mono ?_)
  rintro e w4 ⟨rfl, k4, b4⟩
  have c4 := btrans c3 b4
  have B4 := Lib.hid (k4.beds HS.out hwf.out)
  clear k4
  go_wp2_with fail
  (with_reducible refine (need_i _ _ _ bs y _ B4.out HS.out).mono ?_)
  rintro e w5 ⟨rfl, b5⟩
  have c5 := btrans c4 b5
  go_wp2_with fail
  (with_reducible refine (toBedS_c _ _ _ bs _ _ (HA.out _ c5) c5.size HS.out).mono ?_)
  rintro e w6 ⟨rfl, k6, b6⟩
  have c6 := btrans c5 b6
  have B6 := Lib.hid (k6.beds HS.out hwf.out)
  clear k6
  go_wp2_with fail
  (with_reducible refine (eqBedS_c _ _ _ _ _ bs _ ((B4.out.on b5).on b6) B6.out HS.out).mono ?_)
  rintro e w7 ⟨rfl, b7⟩
  go_wp2
  go_ret
  exact ⟨rfl, btrans c6 b7⟩

theorem own : ownKnob Try.prog.godebug = none := by kernel_rfl
theorem laidOut : laidOutB Try.prog = true := by kernel_rfl

set_option maxRecDepth 100000 in
theorem lifted (os : Os) (started : os.Started) (H : Type) (enc : TypeId × Value → H) :
    ReturnsInHanded {} Try.checked os 3 .any (Rows.fnExactSteadyNeedSpec.pre6 enc Try.prog Try.f3 Rows.fnExactSteadyNeedRow.domain false) (Rows.fnExactSteadyNeedSpec.post enc Try.prog Try.f3 false true false false) := by
  refine returnsInHanded_of_change (C := Try.checked) own started (by kernel_rfl) Try.func3
    (ChangeSpec.witness6 (enc := enc) (C := Try.checked) false ⟨#[], #[.slice none 0 0, .int .i64 0], []⟩ 8 (by kernel_rfl) (by kernel_rfl) (by kernel_rfl) (by kernel_rfl)) ?_
  intro W base args ds gs before hval0 hW _ _
  have hval : ∀ (j : Nat) t v, Try.f3.params[j]? = some t → args[j]? = some v → Value.okWide Try.prog W .any base t v := hval0
  have hW' := hW
  obtain ⟨p, q, hA0, hV, rfl, hfz, hnd⟩ := hW
  have hA : DataW.TrodAll enc Try.prog W 0 (fun _ => true) true Try.f3.params.toList args.toList ds p := hA0
  rw [Try.params3] at hA hval
  obtain ⟨v0, vs0, d0, ds0, p0, q0, hargs, rfl, rfl, h0, r0⟩ := trodAll_cons hA
  obtain ⟨v1, vs1, d1, ds1, p1, q1, rfl, rfl, rfl, h1, r1⟩ := trodAll_cons r0
  obtain ⟨rfl, rfl, rfl⟩ := trodAll_nil r1
  obtain rfl : args = #[v0, v1] := by cases args; simp_all
  obtain ⟨rfl, rfl⟩ := trodVars_none hV
  have k0 := h0
  have lt0 : ∀ x ∈ p0, x.block < W.heap.size := by obtain ⟨m, hm⟩ := k0; exact DataW.trod_lt m _ _ _ hm
  have k1 := h1
  have lt1 : ∀ x ∈ p1, x.block < W.heap.size := by obtain ⟨m, hm⟩ := k1; exact DataW.trod_lt m _ _ _ hm
  have w0 := argBedS (hval 0 22 v0 rfl rfl) h0
  obtain ⟨a1, rfl, rfl, rfl, w1⟩ := open_int Try.underlying2 (hval 1 2 v1 rfl rfl) h1
  clear hA0 hval0
  refine (walk (w := W) v0 w0 a1 w1).mono fun e W' ⟨he, bel⟩ => ?_
  subst he
  exact ⟨_, rfl, _, _, _, [], _, [], hW', trodAll_mk1 (shut_bool Try.underlying4 _), (trodAll_cons_mk (Below.trod laidOut (by kernel_rfl) (of_decide_eq_true (by kernel_rfl)) k0 bel lt0) (trodAll_cons_mk (Below.trod laidOut (by kernel_rfl) (of_decide_eq_true (by kernel_rfl)) k1 bel lt1) trodAll_mk0)), rfl, bel.frame _, fun h => by cases h⟩

theorem over : Rows.fnExactSteadyNeedRow.holds Try.pinned (OpenSpec.ofChange Rows.fnExactSteadyNeedSpec) :=
  OpenClaim.holds_of_wide 3 Try.f3 rfl rfl rfl rfl rfl rfl rfl ⟨rfl, rfl, rfl, rfl, rfl⟩ rfl rfl rfl rfl rfl (by kernel_rfl) Try.func3 (by kernel_rfl)
    (of_decide_eq_true (by kernel_rfl)) (by unfold Func.isWrapper; first | (rw [if_pos (by decide +kernel)]; kernel_rfl) | (rw [if_neg (by decide +kernel)]; exact ⟨rfl, rfl⟩))
    (fun os started H enc _ => lifted os started H enc)

/-- The statement. -/
theorem proved : Rows.FnExactSteadyNeedSaid := over
#print axioms proved
end Go.Proofs.Ytnlddplhaiceaaa.fnExactSteadyNeed
