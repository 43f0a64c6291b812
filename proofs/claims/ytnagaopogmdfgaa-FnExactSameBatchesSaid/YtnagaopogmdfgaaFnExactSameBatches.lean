/-
  Proved: the program's SameBatches returns what the reference's returns, for all arguments.
  No conditions.
-/
import Derived.Test.YtnagaopogmdfgaaSame
import Derived.Test.YtnagaopogmdfgaaOpen
namespace Go.Proofs.Ytnagaopogmdfgaa.fnExactSameBatches
open Go.ChangeShapes Go.WideShapes Go.ChangeAt Go.RowKit Go.Deep
set_option linter.unusedVariables false

set_option maxRecDepth 100000 in
set_option maxHeartbeats 1000000 in
theorem walk (w : World) (v : Value) (h : IntsArg 4 v w) (v' : Value) (h' : IntsArg 4 v' w) :
    Calls Try.prog 5 #[v, v'] w fun e w' => e = .returned (.bool true) ∧ Below w.heap.size w w' := by
  obtain ⟨A, n, c, zs, rfl, hn, hI⟩ := h
  obtain ⟨A', m, c', ys, rfl, hm, hJ⟩ := h'
  by_cases hbig : 1048576 < n
  · have HV : Hid (szV n 1048576 = -1) := if_pos (by omega)
    go_enter Try.func5, Try.ntmps5
    go_wp2_with fail
    refine (szBatchS_c _ _ _ _ _ hn (by omega) (by omega)).mono ?_
    rintro e w' ⟨rfl, rfl⟩
    rw [HV.out]
    go_wp2
    go_ret
    exact ⟨rfl, Below.refl _ _⟩
  · have hn' : n ≤ 1048576 := by omega
    have HV : Hid (szV n 1048576 = 1048576 - n) := if_neg (by omega)
    by_cases hbig2 : 1048576 - n < m
    · have HV2 : Hid (szV m (1048576 - n) = -1) := if_pos (by omega)
      go_enter Try.func5, Try.ntmps5
      go_wp2_with fail
      refine (szBatchS_c _ _ _ _ _ hn (by omega) (by omega)).mono ?_
      rintro e w' ⟨rfl, rfl⟩
      rw [HV.out]
      go_wp2_with fail
      refine (szBatchS_c _ _ _ _ _ hm (by omega) (by omega)).mono ?_
      rintro e w' ⟨rfl, rfl⟩
      rw [HV2.out]
      go_wp2
      go_ret
      exact ⟨rfl, Below.refl _ _⟩
    · have hm' : m ≤ 1048576 := by omega
      have HV2 : Hid (szV m (1048576 - n) = 1048576 - n - m) := if_neg (by omega)
      go_enter Try.func5, Try.ntmps5
      go_wp2_with fail
      refine (szBatchS_c _ _ _ _ _ hn (by omega) (by omega)).mono ?_
      rintro e w' ⟨rfl, rfl⟩
      rw [HV.out]
      go_wp2_with fail
      refine (szBatchS_c _ _ _ _ _ hm (by omega) (by omega)).mono ?_
      rintro e w' ⟨rfl, rfl⟩
      rw [HV2.out]
      go_wp2_with fail
      refine (toBatchS_c _ _ _ zs _ _ hI (Nat.le_refl _) hn').mono ?_
      rintro e w1 ⟨rfl, k1, b1⟩
      go_wp2_with fail
      refine (toBatchS_c _ _ _ ys _ _ (hJ.below b1 (Nat.le_refl _)) b1.size hm').mono ?_
      rintro e w2 ⟨rfl, k2, b2⟩
      go_wp2_with fail
      refine (SameBatches_s _ _ _ _ _ _ zs ys _ ((k1.on b2).ints hI.length hI.wf) (k2.ints hJ.length hJ.wf) hn' hm').mono ?_
      rintro e w3 ⟨rfl, b3⟩
      have b13 := btrans b1 (btrans b2 b3)
      go_wp2_with fail
      refine (toBatchS_c _ _ _ zs _ _ (hI.below b13 (Nat.le_refl _)) b13.size hn').mono ?_
      rintro e w4 ⟨rfl, k4, b4⟩
      have b14 := btrans b13 b4
      go_wp2_with fail
      refine (toBatchS_c _ _ _ ys _ _ (hJ.below b14 (Nat.le_refl _)) b14.size hm').mono ?_
      rintro e w5 ⟨rfl, k5, b5⟩
      go_wp2_with fail
      refine (SameBatches_i _ _ _ _ _ _ zs ys _ ((k4.on b5).ints hI.length hI.wf) (k5.ints hJ.length hJ.wf) hn' hm').mono ?_
      rintro e w6 ⟨rfl, b6⟩
      have b16 := btrans b14 (btrans b5 b6)
      go_wp2_with fail
      refine (toBatchS_c _ _ _ zs _ _ (hI.below b16 (Nat.le_refl _)) b16.size hn').mono ?_
      rintro e w7 ⟨rfl, k7, b7⟩
      go_wp2_with fail
      refine (eqBatchS_c _ _ _ _ _ zs _ ((((k4.on b5).on b6).on b7).ints hI.length hI.wf) (k7.ints hI.length hI.wf) hn').mono ?_
      rintro e w8 ⟨rfl, b8⟩
      have b18 := btrans b16 (btrans b7 b8)
      go_wp2_with fail
      refine (toBatchS_c _ _ _ ys _ _ (hJ.below b18 (Nat.le_refl _)) b18.size hm').mono ?_
      rintro e w9 ⟨rfl, k9, b9⟩
      go_wp2_with fail
      refine (eqBatchS_c _ _ _ _ _ ys _ (((((k5.on b6).on b7).on b8).on b9).ints hJ.length hJ.wf) (k9.ints hJ.length hJ.wf) hm').mono ?_
      rintro e w10 ⟨rfl, b10⟩
      go_wp2
      go_ret
      exact ⟨rfl, btrans b18 (btrans b9 b10)⟩

theorem own : ownKnob Try.prog.godebug = none := by kernel_rfl
theorem laidOut : laidOutB Try.prog = true := by kernel_rfl

set_option maxRecDepth 100000 in
theorem lifted (os : Os) (started : os.Started) (H : Type) (enc : TypeId × Value → H) :
    ReturnsInHanded {} Try.checked os 5 .any (Rows.fnExactSameBatchesSpec.pre6 enc Try.prog Try.f5 Rows.fnExactSameBatchesRow.domain false) (Rows.fnExactSameBatchesSpec.post enc Try.prog Try.f5 false true false false) := by
  refine returnsInHanded_of_change (C := Try.checked) own started (by kernel_rfl) Try.func5
    (ChangeSpec.witness6 (enc := enc) (C := Try.checked) false ⟨#[], #[.slice none 0 0, .slice none 0 0], []⟩ 8 (by kernel_rfl) (by kernel_rfl) (by kernel_rfl) (by kernel_rfl)) ?_
  intro W base args ds gs before hval0 hW _ _
  have hval : ∀ (j : Nat) t v, Try.f5.params[j]? = some t → args[j]? = some v → Value.okWide Try.prog W .any base t v := hval0
  have hW' := hW
  obtain ⟨p, q, hA0, hV, rfl, hfz, hnd⟩ := hW
  have hA : DataW.TrodAll enc Try.prog W 0 (fun _ => true) true Try.f5.params.toList args.toList ds p := hA0
  rw [Try.params5] at hA hval
  obtain ⟨v0, vs0, d0, ds0, p0, q0, hargs, rfl, rfl, h0, r0⟩ := trodAll_cons hA
  obtain ⟨v1, vs1, d1, ds1, p1, q1, rfl, rfl, rfl, h1, r1⟩ := trodAll_cons r0
  obtain ⟨rfl, rfl, rfl⟩ := trodAll_nil r1
  obtain rfl : args = #[v0, v1] := by cases args; simp_all
  obtain ⟨rfl, rfl⟩ := trodVars_none hV
  have k0 := h0
  have lt0 : ∀ x ∈ p0, x.block < W.heap.size := by obtain ⟨m, hm⟩ := k0; exact DataW.trod_lt m _ _ _ hm
  have k1 := h1
  have lt1 : ∀ x ∈ p1, x.block < W.heap.size := by obtain ⟨m, hm⟩ := k1; exact DataW.trod_lt m _ _ _ hm
  have w0 := argBatch (hval 0 33 v0 rfl rfl) h0
  have w1 := argBatch (hval 1 33 v1 rfl rfl) h1
  clear hA0 hval0
  refine (walk (w := W) v0 w0 v1 w1).mono fun e W' ⟨he, bel⟩ => ?_
  subst he
  exact ⟨_, rfl, _, _, _, [], _, [], hW', trodAll_mk1 (shut_bool Try.underlying4 _), (trodAll_cons_mk (Below.trod laidOut (by kernel_rfl) (of_decide_eq_true (by kernel_rfl)) k0 bel lt0) (trodAll_cons_mk (Below.trod laidOut (by kernel_rfl) (of_decide_eq_true (by kernel_rfl)) k1 bel lt1) trodAll_mk0)), rfl, bel.frame _, fun h => by cases h⟩

theorem over : Rows.fnExactSameBatchesRow.holds Try.pinned (OpenSpec.ofChange Rows.fnExactSameBatchesSpec) :=
  OpenClaim.holds_of_wide 5 Try.f5 rfl rfl rfl rfl rfl rfl rfl ⟨rfl, rfl, rfl, rfl, rfl⟩ rfl rfl rfl rfl rfl (by kernel_rfl) Try.func5 (by kernel_rfl)
    (of_decide_eq_true (by kernel_rfl)) (by unfold Func.isWrapper; first | (rw [if_pos (by decide +kernel)]; kernel_rfl) | (rw [if_neg (by decide +kernel)]; exact ⟨rfl, rfl⟩))
    (fun os started H enc _ => lifted os started H enc)

/-- The statement. -/
theorem proved : Rows.FnExactSameBatchesSaid := over
#print axioms proved
end Go.Proofs.Ytnagaopogmdfgaa.fnExactSameBatches
