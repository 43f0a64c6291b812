/-
  Proved: the program's SameBeds returns what the reference's returns, for all arguments.
  No conditions.
-/
import Derived.Test.YtabgkgkbaofgfaaBedSame
import Derived.Test.YtabgkgkbaofgfaaBed
namespace Go.Proofs.Ytabgkgkbaofgfaa.fnExactSameBeds
open Go.ChangeShapes Go.WideShapes Go.ChangeAt Go.RowKit Go.Deep
set_option linter.unusedVariables false

set_option maxRecDepth 100000 in
set_option maxHeartbeats 2000000 in
theorem walk (w : World) (v : Value) (h : BedsArg v w) (v' : Value) (h' : BedsArg v' w) :
    Calls Try.prog 5 #[v, v'] w fun e w' => e = .returned (.bool true) ∧ Below w.heap.size w w' := by
  obtain ⟨A, n, c, bs, rfl, hn, hI⟩ := h
  obtain ⟨A', n', c', cs, rfl, hn', hI'⟩ := h'
  have hwf := hI.wf
  have hwf' := hI'.wf
  have HA := Lib.hid (fun w1 (hb : Below w.heap.size w w1) => hI.below hb (Nat.le_refl _))
  have HA' := Lib.hid (fun w1 (hb : Below w.heap.size w w1) => hI'.below hb (Nat.le_refl _))
  go_enter Try.func5, Try.ntmps5
  go_wp2_with fail
  refine (szBedS_c _ _ _ bs _ _ hI hn (by omega) (by omega)).mono ?_
  rintro e w1 ⟨r, rfl, hr, b1⟩
  rcases hr with rfl | ⟨hr0, hr1, hs⟩
  · go_wp2
    go_ret
    exact ⟨rfl, b1⟩
  · skip
    go_wp2_with fail
    refine (szBedS_c _ _ _ cs _ _ (hI'.on b1) hn' (by omega) (by omega)).mono ?_
    rintro e w2 ⟨r2, rfl, hr2, b2⟩
    have c2 := btrans b1 b2
    rcases hr2 with rfl | ⟨hr20, hr21, hs'⟩
    · go_wp2
      go_ret
      exact ⟨rfl, c2⟩
    · skip
      go_wp2_with fail
      refine (toBedS_c _ _ _ bs _ _ (HA.out _ c2) c2.size hs).mono ?_
      rintro e w3 ⟨rfl, k3, b3⟩
      have c3 := btrans c2 b3
      go_wp2_with fail
      refine (toBedS_c _ _ _ cs _ _ (HA'.out _ c3) c3.size hs').mono ?_
      rintro e w4 ⟨rfl, k4, b4⟩
      have c4 := btrans c3 b4
      go_wp2_with fail
      refine (sameBeds_s _ _ _ _ _ _ bs cs _ ((k3.beds hs hwf).on b4) (k4.beds hs' hwf') hs hs').mono ?_
      rintro e w5 ⟨rfl, b5⟩
      have c5 := btrans c4 b5
      go_wp2_with fail
      refine (toBedS_c _ _ _ bs _ _ (HA.out _ c5) c5.size hs).mono ?_
      rintro e w6 ⟨rfl, k6, b6⟩
      have c6 := btrans c5 b6
      go_wp2_with fail
      refine (toBedS_c _ _ _ cs _ _ (HA'.out _ c6) c6.size hs').mono ?_
      rintro e w7 ⟨rfl, k7, b7⟩
      have c7 := btrans c6 b7
      go_wp2_with fail
      refine (sameBeds_i _ _ _ _ _ _ bs cs _ ((k6.beds hs hwf).on b7) (k7.beds hs' hwf') hs hs').mono ?_
      rintro e w8 ⟨rfl, b8⟩
      have c8 := btrans c7 b8
      go_wp2_with fail
      refine (toBedS_c _ _ _ bs _ _ (HA.out _ c8) c8.size hs).mono ?_
      rintro e w9 ⟨rfl, k9, b9⟩
      have c9 := btrans c8 b9
      go_wp2_with fail
      refine (eqBedS_c _ _ _ _ _ bs _ ((((k6.beds hs hwf).on b7).on b8).on b9) (k9.beds hs hwf) hs).mono ?_
      rintro e w10 ⟨rfl, b10⟩
      have c10 := btrans c9 b10
      go_wp2_with fail
      refine (toBedS_c _ _ _ cs _ _ (HA'.out _ c10) c10.size hs').mono ?_
      rintro e w11 ⟨rfl, k11, b11⟩
      have c11 := btrans c10 b11
      go_wp2_with fail
      refine (eqBedS_c _ _ _ _ _ cs _ (((((k7.beds hs' hwf').on b8).on b9).on b10).on b11) (k11.beds hs' hwf') hs').mono ?_
      rintro e w12 ⟨rfl, b12⟩
      go_wp2
      go_ret
      exact ⟨rfl, btrans c11 b12⟩

theorem own : ownKnob Try.prog.godebug = none := by kernel_rfl
theorem laidOut : laidOutB Try.prog = true := by kernel_rfl

set_option maxRecDepth 100000 in
theorem lifted (os : Os) (started : os.Started) (H : Type) (enc : TypeId × Value → H) :
    ReturnsInHanded {} Try.checked os 5 .any (Rows.fnExactSameBedsSpec.pre6 enc Try.prog Try.f5 Rows.fnExactSameBedsRow.domain false) (Rows.fnExactSameBedsSpec.post enc Try.prog Try.f5 false true false false) := by
  refine returnsInHanded_of_change (C := Try.checked) own started (by kernel_rfl) Try.func5
    (ChangeSpec.witness6 (enc := enc) (C := Try.checked) false ⟨#[], #[.slice none 0 0, .slice none 0 0], []⟩ 8 (by kernel_rfl) (by kernel_rfl) (by kernel_rfl) (by kernel_rfl)) ?_
  intro W base args ds gs before hval0 hW _ _
  have hval : ∀ (j : Nat) t v, Try.f5.params[j]? = some t → args[j]? = some v → Value.okWide Try.prog W .any base t v := hval0
  have hW' := hW
  obtain ⟨p, q, hA0, hV, rfl, hfz, hnd⟩ := hW
  have hA : DataW.TrodAll enc Try.prog W 0 (fun _ => true) true Try.f5.params.toList args.toList ds p := hA0
  rw [Try.params5] at hA hval
  obtain ⟨v0, vs0, d0, ds0, p0, q0, hargs, rfl, rfl, h0, r0⟩ := trodAll_cons hA
  obtain ⟨v1, vs1, d1, ds1, p1, q1, rfl, rfl, rfl, h1, r1⟩ := trodAll_cons r0
  obtain ⟨rfl, rfl, rfl⟩ := trodAll_nil r1
  obtain rfl : args = #[v0, v1] := by cases args; simp_all
  obtain ⟨rfl, rfl⟩ := trodVars_none hV
  have k0 := h0
  have lt0 : ∀ x ∈ p0, x.block < W.heap.size := by obtain ⟨m, hm⟩ := k0; exact DataW.trod_lt m _ _ _ hm
  have k1 := h1
  have lt1 : ∀ x ∈ p1, x.block < W.heap.size := by obtain ⟨m, hm⟩ := k1; exact DataW.trod_lt m _ _ _ hm
  have w0 := argBedS (hval 0 32 v0 rfl rfl) h0
  have w1 := argBedS (hval 1 32 v1 rfl rfl) h1
  clear hA0 hval0
  refine (walk (w := W) v0 w0 v1 w1).mono fun e W' ⟨he, bel⟩ => ?_
  subst he
  exact ⟨_, rfl, _, _, _, [], _, [], hW', trodAll_mk1 (shut_bool Try.underlying4 _), (trodAll_cons_mk (Below.trod laidOut (by kernel_rfl) (of_decide_eq_true (by kernel_rfl)) k0 bel lt0) (trodAll_cons_mk (Below.trod laidOut (by kernel_rfl) (of_decide_eq_true (by kernel_rfl)) k1 bel lt1) trodAll_mk0)), rfl, bel.frame _, fun h => by cases h⟩

theorem over : Rows.fnExactSameBedsRow.holds Try.pinned (OpenSpec.ofChange Rows.fnExactSameBedsSpec) :=
  OpenClaim.holds_of_wide 5 Try.f5 rfl rfl rfl rfl rfl rfl rfl ⟨rfl, rfl, rfl, rfl, rfl⟩ rfl rfl rfl rfl rfl (by kernel_rfl) Try.func5 (by kernel_rfl)
    (of_decide_eq_true (by kernel_rfl)) (by unfold Func.isWrapper; first | (rw [if_pos (by decide +kernel)]; kernel_rfl) | (rw [if_neg (by decide +kernel)]; exact ⟨rfl, rfl⟩))
    (fun os started H enc _ => lifted os started H enc)

/-- The statement. -/
theorem proved : Rows.FnExactSameBedsSaid := over
#print axioms proved
end Go.Proofs.Ytabgkgkbaofgfaa.fnExactSameBeds
