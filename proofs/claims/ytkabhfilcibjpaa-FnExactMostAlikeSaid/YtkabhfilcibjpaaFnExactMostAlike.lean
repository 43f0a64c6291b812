/-
  Proved: the program's MostAlike returns what the reference's returns, for all arguments.
  No conditions.
-/
import Derived.Test.YtkabhfilcibjpaaAlike
import Derived.Test.YtkabhfilcibjpaaOpen
namespace Go.Proofs.Ytkabhfilcibjpaa.fnExactMostAlike
open Go.ChangeShapes Go.WideShapes Go.ChangeAt Go.RowKit Go.Deep
set_option linter.unusedVariables false

set_option maxRecDepth 100000 in
set_option maxHeartbeats 1000000 in
theorem walk (w : World) (v : Value) (h : IntsArg 3 v w) :
    Calls Try.prog 5 #[v] w fun e w' => e = .returned (.bool true) ∧ Below w.heap.size w w' := by
  obtain ⟨A, n, c, zs, rfl, hn, hI⟩ := h
  by_cases hbig : 1048576 < n
  · have HV : Hid (szV n 1048576 = -1) := if_pos (by omega)
    go_enter Try.func5, Try.ntmps5
    go_wp2_with fail
    refine (szRodS_c _ _ _ _ _ hn (by omega) (by omega)).mono ?_
    rintro e w' ⟨rfl, rfl⟩
    rw [HV.out]
    go_wp2
    go_ret
    exact ⟨rfl, Below.refl _ _⟩
  · have hn' : n ≤ 1048576 := by omega
    have HV : Hid (szV n 1048576 = 1048576 - n) := if_neg (by omega)
    go_enter Try.func5, Try.ntmps5
    go_wp2_with fail
    refine (szRodS_c _ _ _ _ _ hn (by omega) (by omega)).mono ?_
    rintro e w' ⟨rfl, rfl⟩
    rw [HV.out]
    go_wp2_with fail
    refine (toRodS_c _ _ _ zs _ _ hI (Nat.le_refl _) hn').mono ?_
    rintro e w1 ⟨rfl, k1, b1⟩
    go_wp2_with fail
    refine (alike_s _ _ _ zs _ (k1.ints hI.length hI.wf) hn').mono ?_
    rintro e w2 ⟨rfl, b2⟩
    have b12 := btrans b1 b2
    go_wp2_with fail
    refine (toRodS_c _ _ _ zs _ _ (hI.below b12 (Nat.le_refl _)) b12.size hn').mono ?_
    rintro e w3 ⟨rfl, k3, b3⟩
    go_wp2_with fail
    refine (alike_i _ _ _ zs _ (k3.ints hI.length hI.wf) hn').mono ?_
    rintro e w4 ⟨rfl, b4⟩
    have b14 := btrans b12 (btrans b3 b4)
    go_wp2_with fail
    refine (toRodS_c _ _ _ zs _ _ (hI.below b14 (Nat.le_refl _)) b14.size hn').mono ?_
    rintro e w5 ⟨rfl, k5, b5⟩
    go_wp2_with fail
    refine (eqRodS_c _ _ _ _ _ zs _ (((k3.on b4).on b5).ints hI.length hI.wf) (k5.ints hI.length hI.wf) hn').mono ?_
    rintro e w6 ⟨rfl, b6⟩
    go_wp2
    go_ret
    exact ⟨rfl, btrans b14 (btrans b5 b6)⟩

theorem own : ownKnob Try.prog.godebug = none := by kernel_rfl
theorem laidOut : laidOutB Try.prog = true := by kernel_rfl

set_option maxRecDepth 100000 in
theorem lifted (os : Os) (started : os.Started) (H : Type) (enc : TypeId × Value → H) :
    ReturnsInHanded {} Try.checked os 5 .any (Rows.fnExactMostAlikeSpec.pre6 enc Try.prog Try.f5 Rows.fnExactMostAlikeRow.domain false) (Rows.fnExactMostAlikeSpec.post enc Try.prog Try.f5 false true false false) := by
  refine returnsInHanded_of_change (C := Try.checked) own started (by kernel_rfl) Try.func5
    (ChangeSpec.witness6 (enc := enc) (C := Try.checked) false ⟨#[], #[.slice none 0 0], []⟩ 8 (by kernel_rfl) (by kernel_rfl) (by kernel_rfl) (by kernel_rfl)) ?_
  intro W base args ds gs before hval0 hW _ _
  have hval : ∀ (j : Nat) t v, Try.f5.params[j]? = some t → args[j]? = some v → Value.okWide Try.prog W .any base t v := hval0
  have hW' := hW
  obtain ⟨p, q, hA0, hV, rfl, hfz, hnd⟩ := hW
  have hA : DataW.TrodAll enc Try.prog W 0 (fun _ => true) true Try.f5.params.toList args.toList ds p := hA0
  rw [Try.params5] at hA hval
  obtain ⟨v0, vs0, d0, ds0, p0, q0, hargs, rfl, rfl, h0, r0⟩ := trodAll_cons hA
  obtain ⟨rfl, rfl, rfl⟩ := trodAll_nil r0
  obtain rfl : args = #[v0] := by cases args; simp_all
  obtain ⟨rfl, rfl⟩ := trodVars_none hV
  have k0 := h0
  have lt0 : ∀ x ∈ p0, x.block < W.heap.size := by obtain ⟨m, hm⟩ := k0; exact DataW.trod_lt m _ _ _ hm
  have w0 := argRod (hval 0 22 v0 rfl rfl) h0
  clear hA0 hval0
  refine (walk (w := W) v0 w0).mono fun e W' ⟨he, bel⟩ => ?_
  subst he
  exact ⟨_, rfl, _, _, _, [], _, [], hW', trodAll_mk1 (shut_bool Try.underlying4 _), (trodAll_cons_mk (Below.trod laidOut (by kernel_rfl) (of_decide_eq_true (by kernel_rfl)) k0 bel lt0) trodAll_mk0), rfl, bel.frame _, fun h => by cases h⟩

theorem over : Rows.fnExactMostAlikeRow.holds Try.pinned (OpenSpec.ofChange Rows.fnExactMostAlikeSpec) :=
  OpenClaim.holds_of_wide 5 Try.f5 rfl rfl rfl rfl rfl rfl rfl ⟨rfl, rfl, rfl, rfl, rfl⟩ rfl rfl rfl rfl rfl (by kernel_rfl) Try.func5 (by kernel_rfl)
    (of_decide_eq_true (by kernel_rfl)) (by unfold Func.isWrapper; first | (rw [if_pos (by decide +kernel)]; kernel_rfl) | (rw [if_neg (by decide +kernel)]; exact ⟨rfl, rfl⟩))
    (fun os started H enc _ => lifted os started H enc)

/-- The statement. -/
theorem proved : Rows.FnExactMostAlikeSaid := over
#print axioms proved
end Go.Proofs.Ytkabhfilcibjpaa.fnExactMostAlike
