/-
  Proved: the program's AfterYear returns what the reference's returns, for all arguments, leaves its arguments as they were, and its result is memory of its own.
  No conditions.
-/
import Derived.Test.YtnlddplhaiceaaaAfterI
namespace Go.Proofs.Ytnlddplhaiceaaa.fnExactAfterYear
open Go.ChangeShapes Go.WideShapes Go.ChangeAt Go.RowKit Go.Deep
set_option linter.unusedVariables false

theorem ayN_le (bs : Nat → List Int × Int) (n : Nat) (cs : List Int) (m : Nat) : ayN bs n cs m ≤ n := by unfold ayN; split <;> omega
theorem OwnB.grown' {w w' : World} {lo hi n g : Nat} {v : Value} {bs : Nat → List Int × Int} (h : OwnB w lo hi v n bs) (hg : w.grownBy w' (some g)) (hd : g < lo ∨ hi ≤ g) : OwnB w' lo hi v n bs :=
  h.keep (Nat.le_trans h.size hg.size) (fun q h1 h2 => hg.block q (by have := h.size; omega) (fun e => by injection e; omega))

set_option maxRecDepth 100000 in
set_option maxHeartbeats 8000000 in
theorem walk (w : World) (v : Value) (h : BedsArg v w) (v' : Value) (h' : IntsArg 1 v' w) :
    Calls Try.prog 4 #[v, v'] w fun e w' => e = .returned (.bool true) ∧ Below w.heap.size w w' := by
  obtain ⟨A', m, c', L, rfl, hm, hJ⟩ := h'
  obtain ⟨A, n, c, bs, rfl, hn, hI⟩ := h
  have HML : Hid (L.length = m) := by have := hJ.length; show _ = _; omega
  unfold maxLen at hm
  by_cases hbig : 1048576 < m
  · go_enter Try.func4, Try.ntmps4
    go_wp2
    go_ret
    exact ⟨rfl, Below.refl _ _⟩
  have hm' : m ≤ 1048576 := by omega
  have hwf := Lib.hid hI.wf
  have hw' := Lib.hid hJ.wf
  have HJ := Lib.hid (fun w1 (hb : Below w.heap.size w w1) => hJ.below hb (Nat.le_refl _))
  have HA := Lib.hid (fun w1 (hb : Below w.heap.size w w1) => hI.below hb (Nat.le_refl _))
  go_enter Try.func4, Try.ntmps4
  go_wp2_with fail
  (with_reducible refine (szBedS_c _ _ _ bs _ _ hI hn (by omega) (by omega)).mono ?_)
  rintro e w1 ⟨r, rfl, hr, b1⟩
  rcases hr with rfl | ⟨hr0, hr1, hs⟩
  · go_wp2
    go_ret
    exact ⟨rfl, b1⟩
  have HS := Lib.hid hs
  have hN := ayN_le bs n L m
  have HSR : Hid (Short (aftB bs L m) (ayN bs n L m)) := ⟨Nat.le_trans hN hs.1, fun i hi => hs.2 i (by omega)⟩
  have HWR : Hid (∀ i, i < ayN bs n L m → ∀ z ∈ yl (aftB bs L m) i, -9223372036854775808 ≤ z ∧ z ≤ 9223372036854775807) := fun i hi => hwf.out i (by omega)
  clear hs hI hJ
  obtain ⟨R, hR⟩ : ∃ R, aftB bs L m = R := ⟨_, rfl⟩
  obtain ⟨N, hN'⟩ : ∃ N, ayN bs n L m = N := ⟨_, rfl⟩
  have HR := Lib.hid (And.intro hR hN')
  rw [hR, hN'] at HSR HWR
  clear hR hN' hN
  have hpR := posB_bd HSR.out N (Nat.le_refl _)
  have hpB := posB_bd HS.out n (Nat.le_refl _)
  have hnn := HS.out.1
  obtain ⟨pR, hpR'⟩ : ∃ x, posB (R) N = x := ⟨_, rfl⟩
  obtain ⟨pB, hpB'⟩ : ∃ x, posB bs n = x := ⟨_, rfl⟩
  have HPR := Lib.hid hpR'
  have HPB := Lib.hid hpB'
  rw [hpR'] at hpR
  rw [hpB'] at hpB
  clear hpR' hpB'
  go_wp2_with fail
  (with_reducible refine (toBedS_c _ _ _ bs _ _ (HA.out _ b1) b1.size HS.out).mono ?_)
  rintro e w2 ⟨rfl, k2, b2⟩
  have c2 := btrans b1 b2
  have B2 := Lib.hid (k2.beds HS.out hwf.out)
  clear k2
  go_wp2_with fail
  (with_reducible refine (toInt64S_c _ _ _ L _ _ (HJ.out _ c2) c2.size hm').mono ?_)
  rintro e w3 ⟨rfl, k3, b3⟩
  have c3 := btrans c2 b3
  have K3 := Lib.hid (k3.ints (n := m) (k := 1) (by rw [HML.out, Nat.mul_one]) hw'.out)
  clear k3
  go_wp2_with fail
  (with_reducible refine (year_s _ _ _ _ _ _ bs L _ (B2.out.on b3) HS.out K3.out hm').mono ?_)
  rintro e w4 ⟨v4, rfl, o4, b4⟩
  rw [HR.out.1, HR.out.2] at o4
  have c4 := btrans c3 b4
  obtain ⟨A4, cap4, rfl, -⟩ := o4.beds HSR.out HWR.out
  have O4 := Lib.hid o4
  clear o4 B2 K3
  go_wp2_with fail
  (with_reducible refine (toBedS_c _ _ _ bs _ _ (HA.out _ c4) c4.size HS.out).mono ?_)
  rintro e w5 ⟨rfl, k5, b5⟩
  have c5 := btrans c4 b5
  have M5 := Lib.hid (OwnB.of_made k5 HS.out)
  have B5 := Lib.hid (k5.beds HS.out hwf.out)
  clear k5
  go_wp2_with fail
  (with_reducible refine (toInt64S_c _ _ _ L _ _ (HJ.out _ c5) c5.size hm').mono ?_)
  rintro e w6 ⟨rfl, k6, b6⟩
  have c6 := btrans c5 b6
  have K6 := Lib.hid k6
  clear k6
  have I6 := Lib.hid (K6.out.ints (n := m) (k := 1) (by rw [HML.out, Nat.mul_one]) hw'.out)
  have B6 := Lib.hid (B5.out.on b6)
  go_wp2_with fail
  (with_reducible refine (year_i _ _ _ _ _ _ bs L _ B6.out HS.out I6.out hm').mono ?_)
  rintro e w7 ⟨v7, rfl, o7, b7⟩
  rw [HR.out.1, HR.out.2] at o7
  have c7 := btrans c6 b7
  obtain ⟨A7, cap7, rfl, B7⟩ := o7.beds HSR.out HWR.out
  have O7 := Lib.hid o7
  have b47 := btrans b5 (btrans b6 b7)
  obtain ⟨A4', cap4', e4, B4⟩ := (O4.out.on b47).beds HSR.out HWR.out
  simp only [Value.slice.injEq, true_and] at e4
  obtain ⟨rfl, rfl⟩ := e4
  clear o7
  go_wp2_with fail
  (with_reducible refine (eqBedS_c _ _ _ _ _ R _ B7 B4 HSR.out).mono ?_)
  rintro e w8 ⟨rfl, b8⟩
  have c8 := btrans c7 b8
  clear B7 B4
  go_wp2_with fail
  (with_reducible refine (toBedS_c _ _ _ bs _ _ (HA.out _ c8) c8.size HS.out).mono ?_)
  rintro e w9 ⟨rfl, k9, b9⟩
  have c9 := btrans c8 b9
  have B9 := Lib.hid (k9.beds HS.out hwf.out)
  clear k9
  have b59 := btrans b6 (btrans b7 (btrans b8 b9))
  go_wp2_with fail
  (with_reducible refine (eqBedS_c _ _ _ _ _ bs _ (B5.out.on b59) B9.out HS.out).mono ?_)
  rintro e w10 ⟨rfl, b10⟩
  have c10 := btrans c9 b10
  clear B9 B5 B6
  go_wp2_with fail
  (with_reducible refine (toInt64S_c _ _ _ L _ _ (HJ.out _ c10) c10.size hm').mono ?_)
  rintro e w11 ⟨rfl, k11, b11⟩
  have c11 := btrans c10 b11
  have I11 := Lib.hid (k11.ints (n := m) (k := 1) (by rw [HML.out, Nat.mul_one]) hw'.out)
  clear k11
  have b711 := btrans b8 (btrans b9 (btrans b10 b11))
  go_wp2_with fail
  (with_reducible refine (eqInt64S_c _ _ _ _ _ L _ ((I6.out.on b7).on b711) I11.out hm').mono ?_)
  rintro e w12 ⟨rfl, b12⟩
  have c12 := btrans c11 b12
  have b712 := btrans b711 b12
  have b512 := btrans b6 (btrans b7 b712)
  have z4 := b5.size
  have z5 := b6.size
  have z6 := b7.size
  have z7 := b712.size
  have z3 := b4.size
  have M12 := Lib.hid (M5.out.on b512)
  have hb6 := K6.out.lt
  have K12 := Lib.hid ((K6.out.on b7).on b712)
  have O4b := Lib.hid (O4.out.on (btrans b47 b712))
  have O7b := Lib.hid (O7.out.on b712)
  clear I6 I11 M5 K6 O4 O7
  go_wp2_with fail
  (with_reducible refine (markOwn_c _ _ n _ bs _ M12.out HS.out).mono ?_)
  rintro e w13 ⟨rfl, -, h13⟩
  rw [HPB.out]
  have c13 : Below w.heap.size w w13 := c12.trans (h13.below c4.size c12.size)
  have K13 : Hid (Blk w13 w5.heap.size 2 (iv L).toArray) := (h13.2.2.2.2 _ (by have := K12.out.lt; omega) (.inr (Nat.le_refl _))).trans K12.out
  have O4c := Lib.hid (O4b.out.mid h13 (.inl (Nat.le_refl _)))
  have O7c := Lib.hid (O7b.out.mid h13 (.inr (by omega)))
  have z13 := h13.2.2.2.1
  clear h13 K12 O4b O7b M12
  go_wp2_with fail
  (with_reducible refine (markInt64S_c _ m L pB _ w5.heap.size (K13.out.own (Nat.le_refl _) (by simp [maxLen]; omega) (by rw [iv_length, HML.out, Nat.mul_one])) hm' (by omega) (by omega)).mono ?_)
  rintro e w14 ⟨rfl, -, g14⟩
  have c14 := below_grown c13 g14 (fun g hg => by have e : some w5.heap.size = some g := hg; injection e with e; have := c5.size; omega)
  have g14' : w13.grownBy w14 (some w5.heap.size) := g14
  have O7d := Lib.hid (OwnB.grown' O7c.out g14' (.inl hb6))
  have O4d := Lib.hid (OwnB.grown' O4c.out g14' (.inr z4))
  have hk0 : ¬ pB + (m : Int) < 0 := by omega
  clear g14 g14' O7c O4c K13
  obtain ⟨A7', cap7', e7, B7⟩ := O7d.out.beds HSR.out HWR.out
  simp only [Value.slice.injEq, true_and] at e7
  obtain ⟨rfl, rfl⟩ := e7
  obtain ⟨A4', cap4', e4, B4⟩ := O4d.out.beds HSR.out HWR.out
  simp only [Value.slice.injEq, true_and] at e4
  obtain ⟨rfl, rfl⟩ := e4
  go_wp2_with fail
  (with_reducible refine (eqBedS_c _ _ _ _ _ R _ B7 B4 HSR.out).mono ?_)
  rintro e w15 ⟨rfl, b15⟩
  have c15 := btrans c14 b15
  have O7e := Lib.hid (O7d.out.on b15)
  have O4e := Lib.hid (O4d.out.on b15)
  clear B7 B4 O7d O4d hk0
  go_wp2_with fail
  (with_reducible refine (markOwn_c _ _ N _ R _ O7e.out HSR.out).mono ?_)
  rintro e w16 ⟨rfl, o16, h16⟩
  rw [HPR.out]
  have c16 : Below w.heap.size w w16 := c15.trans (h16.below c6.size c15.size)
  have O4f := Lib.hid (O4e.out.mid h16 (.inl (by omega)))
  have O16 := Lib.hid o16
  clear O7e O4e h16
  obtain ⟨A7', cap7', e7, B16⟩ := o16.beds (mkB_short HSR.out N) (mkB_wf HSR.out)
  simp only [Value.slice.injEq, true_and] at e7
  obtain ⟨rfl, rfl⟩ := e7
  have hp0 : ¬ pR < 0 := by omega
  clear o16
  go_wp2_with fail
  (with_reducible refine (heldOwn_c _ N _ R _ B16 HSR.out).mono ?_)
  rintro e w17 ⟨rfl, b17⟩
  rw [HPR.out]
  have c17 := btrans c16 b17
  clear B16
  go_wp2_with fail
  (with_reducible refine (toBedS_c _ _ _ bs _ _ (HA.out _ c17) c17.size HS.out).mono ?_)
  rintro e w18 ⟨rfl, k18, b18⟩
  have c18 := btrans c17 b18
  have B18 := Lib.hid (k18.beds HS.out hwf.out)
  clear k18
  go_wp2_with fail
  (with_reducible refine (toInt64S_c _ _ _ L _ _ (HJ.out _ c18) c18.size hm').mono ?_)
  rintro e w19 ⟨rfl, k19, b19⟩
  have c19 := btrans c18 b19
  have I19 := Lib.hid (k19.ints (n := m) (k := 1) (by rw [HML.out, Nat.mul_one]) hw'.out)
  clear k19
  go_wp2_with fail
  (with_reducible refine (year_i _ _ _ _ _ _ bs L _ (B18.out.on b19) HS.out I19.out hm').mono ?_)
  rintro e w20 ⟨v20, rfl, o20, b20⟩
  rw [HR.out.1, HR.out.2] at o20
  have c20 := btrans c19 b20
  obtain ⟨A20, cap20, rfl, B20⟩ := o20.beds HSR.out HWR.out
  have b1620 := btrans b17 (btrans b18 (btrans b19 b20))
  obtain ⟨A4', cap4', e4, B4⟩ := (O4f.out.on b1620).beds HSR.out HWR.out
  simp only [Value.slice.injEq, true_and] at e4
  obtain ⟨rfl, rfl⟩ := e4
  clear o20 B18 I19
  go_wp2_with fail
  (with_reducible refine (eqBedS_c _ _ _ _ _ R _ B20 B4 HSR.out).mono ?_)
  rintro e w21 ⟨rfl, b21⟩
  have c21 := btrans c20 b21
  obtain ⟨A7', cap7', e7, B21⟩ := (O16.out.on (btrans b1620 b21)).beds (mkB_short HSR.out N) (mkB_wf HSR.out)
  simp only [Value.slice.injEq, true_and] at e7
  obtain ⟨rfl, rfl⟩ := e7
  clear B20 B4
  go_wp2_with fail
  (with_reducible refine (heldOwn_c _ N _ R _ B21 HSR.out).mono ?_)
  rintro e w22 ⟨rfl, b22⟩
  rw [HPR.out]
  go_wp2
  go_ret
  exact ⟨rfl, btrans c21 b22⟩

theorem own : ownKnob Try.prog.godebug = none := by kernel_rfl
theorem laidOut : laidOutB Try.prog = true := by kernel_rfl

set_option maxRecDepth 100000 in
theorem lifted (os : Os) (started : os.Started) (H : Type) (enc : TypeId × Value → H) :
    ReturnsInHanded {} Try.checked os 4 .any (Rows.fnExactAfterYearSpec.pre6 enc Try.prog Try.f4 Rows.fnExactAfterYearRow.domain false) (Rows.fnExactAfterYearSpec.post enc Try.prog Try.f4 false true false false) := by
  refine returnsInHanded_of_change (C := Try.checked) own started (by kernel_rfl) Try.func4
    (ChangeSpec.witness6 (enc := enc) (C := Try.checked) false ⟨#[], #[.slice none 0 0, .slice none 0 0], []⟩ 8 (by kernel_rfl) (by kernel_rfl) (by kernel_rfl) (by kernel_rfl)) ?_
  intro W base args ds gs before hval0 hW _ _
  have hval : ∀ (j : Nat) t v, Try.f4.params[j]? = some t → args[j]? = some v → Value.okWide Try.prog W .any base t v := hval0
  have hW' := hW
  obtain ⟨p, q, hA0, hV, rfl, hfz, hnd⟩ := hW
  have hA : DataW.TrodAll enc Try.prog W 0 (fun _ => true) true Try.f4.params.toList args.toList ds p := hA0
  rw [Try.params4] at hA hval
  obtain ⟨v0, vs0, d0, ds0, p0, q0, hargs, rfl, rfl, h0, r0⟩ := trodAll_cons hA
  obtain ⟨v1, vs1, d1, ds1, p1, q1, rfl, rfl, rfl, h1, r1⟩ := trodAll_cons r0
  obtain ⟨rfl, rfl, rfl⟩ := trodAll_nil r1
  obtain rfl : args = #[v0, v1] := by cases args; simp_all
  obtain ⟨rfl, rfl⟩ := trodVars_none hV
  have k0 := h0
  have lt0 : ∀ x ∈ p0, x.block < W.heap.size := by obtain ⟨m, hm⟩ := k0; exact DataW.trod_lt m _ _ _ hm
  have k1 := h1
  have lt1 : ∀ x ∈ p1, x.block < W.heap.size := by obtain ⟨m, hm⟩ := k1; exact DataW.trod_lt m _ _ _ hm
  have w0 := argBedS (hval 0 22 v0 rfl rfl) h0
  have w1 := argInt64 (hval 1 30 v1 rfl rfl) h1
  clear hA0 hval0
  refine (walk (w := W) v0 w0 v1 w1).mono fun e W' ⟨he, bel⟩ => ?_
  subst he
  exact ⟨_, rfl, _, _, _, [], _, [], hW', trodAll_mk1 (shut_bool Try.underlying4 _), (trodAll_cons_mk (Below.trod laidOut (by kernel_rfl) (of_decide_eq_true (by kernel_rfl)) k0 bel lt0) (trodAll_cons_mk (Below.trod laidOut (by kernel_rfl) (of_decide_eq_true (by kernel_rfl)) k1 bel lt1) trodAll_mk0)), rfl, bel.frame _, fun h => by cases h⟩

theorem over : Rows.fnExactAfterYearRow.holds Try.pinned (OpenSpec.ofChange Rows.fnExactAfterYearSpec) :=
  OpenClaim.holds_of_wide 4 Try.f4 rfl rfl rfl rfl rfl rfl rfl ⟨rfl, rfl, rfl, rfl, rfl⟩ rfl rfl rfl rfl rfl (by kernel_rfl) Try.func4 (by kernel_rfl)
    (of_decide_eq_true (by kernel_rfl)) (by unfold Func.isWrapper; first | (rw [if_pos (by decide +kernel)]; kernel_rfl) | (rw [if_neg (by decide +kernel)]; exact ⟨rfl, rfl⟩))
    (fun os started H enc _ => lifted os started H enc)

/-- The statement. -/
theorem proved : Rows.FnExactAfterYearSaid := over
#print axioms proved
end Go.Proofs.Ytnlddplhaiceaaa.fnExactAfterYear
