/-
  Proved: the program's SortBunches returns what the reference's returns, for all arguments, leaves its arguments as they were, and its result is memory of its own.
  No conditions.
-/
import Derived.Test.YtgcpobondcnjcaaSbS
import Derived.Test.YtgcpobondcnjcaaHeld4
import Derived.Test.YtgcpobondcnjcaaOpen
namespace Go.Proofs.Ytgcpobondcnjcaa.fnExactSortBunches
open Go.ChangeShapes Go.WideShapes Go.ChangeAt Go.RowKit Go.Deep
set_option linter.unusedVariables false

theorem sb_bd (zs : List Int) (n : Nat) (hn : n ≤ 1048576) (hl : zs.length = n * 3) (hw : ∀ z ∈ zs, -9223372036854775808 ≤ z ∧ z ≤ 9223372036854775807) :
    sbN zs n ≤ 1048576 ∧ (∀ z ∈ sbV zs n, -9223372036854775808 ≤ z ∧ z ≤ 9223372036854775807) ∧ (sbV zs n).length = sbN zs n * 3 := by
  unfold sbV sbN
  split
  · exact ⟨hn, fun z hz => flB_mem hz hw, by rw [flB_len, stTo_len]⟩
  · simp

set_option maxRecDepth 100000 in
set_option maxHeartbeats 8000000 in
theorem walk (w : World) (v : Value) (h : IntsArg 3 v w) :
    Calls Try.prog 3 #[v] w fun e w' => e = .returned (.bool true) ∧ Below w.heap.size w w' := by
  obtain ⟨A, n, c, zs, rfl, hn, hI⟩ := h
  by_cases hbig : 1048576 < n
  · have HV : Hid (szV n 1048576 = -1) := if_pos (by omega)
    go_enter Try.func3, Try.ntmps3
    go_wp2_with fail
    refine (szBunchS_c _ _ _ _ _ hn (by omega) (by omega)).mono ?_
    rintro e w' ⟨rfl, rfl⟩
    rw [HV.out]
    go_wp2
    go_ret
    exact ⟨rfl, Below.refl _ _⟩
  · have hn' : n ≤ 1048576 := by omega
    have HV : Hid (szV n 1048576 = 1048576 - n) := if_neg (by omega)
    have HA := Lib.hid (fun w1 (hb : Below w.heap.size w w1) => hI.below hb (Nat.le_refl _))
    have HIL := Lib.hid hI.length
    have HIW := Lib.hid hI.wf
    obtain ⟨hbl, hbz, hbm⟩ := sb_bd zs n hn' hI.length hI.wf
    have HBZ := Lib.hid hbz
    have HBM := Lib.hid hbm
    clear hbz hbm
    obtain ⟨M, hM⟩ : ∃ M, M = sbN zs n := ⟨_, rfl⟩
    rw [← hM] at hbl HBM
    have HM := Lib.hid hM
    clear hM
    go_enter Try.func3, Try.ntmps3
    go_wp2_with fail
    (with_reducible refine (szBunchS_c _ _ _ _ _ hn (by omega) (by omega)).mono ?_)
    rintro e w' ⟨rfl, rfl⟩
    rw [HV.out]
    go_wp2_with fail
    (with_reducible refine (toBunchS_c _ _ _ zs _ _ hI (Nat.le_refl _) hn').mono ?_)
    rintro e w1 ⟨rfl, k1, b1⟩
    go_wp2_with fail
    (with_reducible refine (sb_s _ _ _ zs _ (k1.ints HIL.out HIW.out) hn').mono ?_)
    rintro e w2 ⟨v2, rfl, o2', b2⟩
    have c2 := btrans b1 b2
    have O2 : Hid (Own3 w2 w1.heap.size v2 M (sbV zs n)) := by show Own3 _ _ _ _ _; rw [HM.out]; exact o2'
    clear o2' k1
    obtain ⟨A2, cap2, rfl, i2, -⟩ := O2.out.ints HBZ.out
    clear i2
    go_wp2_with fail
    (with_reducible refine (toBunchS_c _ _ _ zs _ _ (HA.out _ c2) c2.size hn').mono ?_)
    rintro e w3 ⟨rfl, k3, b3⟩
    have s3 := k3.lt
    have K3 := Lib.hid k3
    clear k3
    go_wp2_with fail
    (with_reducible refine (sb_i _ _ _ zs _ (K3.out.ints HIL.out HIW.out) hn').mono ?_)
    rintro e w4 ⟨v4, rfl, o4', b4⟩
    have c4 := btrans c2 (btrans b3 b4)
    have O4 : Hid (Own3 w4 w3.heap.size v4 M (sbV zs n)) := by show Own3 _ _ _ _ _; rw [HM.out]; exact o4'
    clear o4'
    obtain ⟨A4, cap4, rfl, i4, -⟩ := O4.out.ints HBZ.out
    have P4 := Lib.hid ((O2.out.on b3).on b4)
    obtain ⟨A2', cap2', e2', j4, -⟩ := P4.out.ints HBZ.out
    simp only [Value.slice.injEq, true_and] at e2'
    obtain ⟨rfl, rfl⟩ := e2'
    go_wp2_with fail
    (with_reducible refine (eqBunchS_c _ _ _ _ _ (sbV zs n) _ i4 j4 hbl).mono ?_)
    rintro e w5 ⟨rfl, b5⟩
    have c5 := btrans c4 b5
    clear i4 j4
    go_wp2_with fail
    (with_reducible refine (toBunchS_c _ _ _ zs _ _ (HA.out _ c5) c5.size hn').mono ?_)
    rintro e w6 ⟨rfl, k6, b6⟩
    have K6 := Lib.hid ((K3.out.on b4).on b5 |>.on b6)
    go_wp2_with fail
    (with_reducible refine (eqBunchS_c _ _ _ _ _ zs _ (K6.out.ints HIL.out HIW.out) (k6.ints HIL.out HIW.out) hn').mono ?_)
    rintro e w7 ⟨rfl, b7⟩
    have c7 := btrans c5 (btrans b6 b7)
    have b57 := btrans b5 (btrans b6 b7)
    have K7 := Lib.hid (K6.out.on b7)
    have Q7 := Lib.hid (O4.out.on b57)
    have P7 := Lib.hid (P4.out.on b57)
    clear k6 K6 P4 K3
    have ho7 := K7.out.own (base := w2.heap.size) (n := n) (size := 3) (Nat.le_refl _) hn (by rw [iv_length]; exact HIL.out)
    go_wp2_with fail
    (with_reducible refine (markBunchS_c _ n zs 1 _ w2.heap.size ho7 hn' (by omega) (by omega)).mono ?_)
    rintro e w8 ⟨rfl, -, g8⟩
    have c8 := below_grown c7 g8 (fun g hg => by simp [Value.ownBlock] at hg; have := c2.size; omega)
    have Q8 := Lib.hid (Q7.out.kept g8 (own3_ne_blk Q7.out s3))
    have P8 := Lib.hid (P7.out.kept g8 (own3_lt_blk O2.out (Nat.le_refl _)))
    clear ho7 K7 Q7 P7 g8
    obtain ⟨A4', cap4', e4', i8, -⟩ := Q8.out.ints HBZ.out
    simp only [Value.slice.injEq, true_and] at e4'
    obtain ⟨rfl, rfl⟩ := e4'
    obtain ⟨A2', cap2', e2', j8, -⟩ := P8.out.ints HBZ.out
    simp only [Value.slice.injEq, true_and] at e2'
    obtain ⟨rfl, rfl⟩ := e2'
    go_wp2_with fail
    (with_reducible refine (eqBunchS_c _ _ _ _ _ (sbV zs n) _ i8 j8 hbl).mono ?_)
    rintro e w9 ⟨rfl, b9⟩
    have c9 := btrans c8 b9
    have Q9 := Lib.hid (Q8.out.on b9)
    have P9 := Lib.hid (P8.out.on b9)
    clear i8 j8 Q8 P8
    go_wp2_with fail
    (with_reducible refine (markBunchS_c _ M (sbV zs n) 1 _ w3.heap.size Q9.out.row hbl (by omega) (by omega)).mono ?_)
    rintro e w10 ⟨rfl, q10, g10⟩
    have c10 := below_grown c9 g10 (fun g hg => by have := (O4.out.lt g hg).1; have := c2.size; omega)
    have P10 := Lib.hid (P9.out.kept g10 (own3_ne O2.out (Nat.le_of_lt s3) Q9.out.row))
    have Q10 : Hid (Own3 w10 w3.heap.size _ M (mkL 1 (M * 3))) := q10
    clear q10 g10 Q9 P9
    obtain ⟨A4', cap4', e4', i10, -⟩ := Q10.out.ints (mkL_bd _ (by omega))
    simp only [Value.slice.injEq, true_and] at e4'
    obtain ⟨rfl, rfl⟩ := e4'
    go_wp2_with fail
    (with_reducible refine (heldBunchS_c _ _ _ _ i10 hbl).mono ?_)
    rintro e w11 ⟨rfl, b11⟩
    have c11 := btrans c10 b11
    clear i10
    go_wp2_with fail
    (with_reducible refine (toBunchS_c _ _ _ zs _ _ (HA.out _ c11) c11.size hn').mono ?_)
    rintro e w12 ⟨rfl, k12, b12⟩
    go_wp2_with fail
    (with_reducible refine (sb_i _ _ _ zs _ (k12.ints HIL.out HIW.out) hn').mono ?_)
    rintro e w13 ⟨v13, rfl, o13', b13⟩
    have c13 := btrans c11 (btrans b12 b13)
    have O13 : Hid (Own3 w13 w12.heap.size v13 M (sbV zs n)) := by show Own3 _ _ _ _ _; rw [HM.out]; exact o13'
    clear o13' k12
    obtain ⟨A13, cap13, rfl, i13, -⟩ := O13.out.ints HBZ.out
    have b1113 := btrans b11 (btrans b12 b13)
    have P13 := Lib.hid (P10.out.on b1113)
    have Q13 := Lib.hid (Q10.out.on b1113)
    obtain ⟨A2', cap2', e2', j13, -⟩ := P13.out.ints HBZ.out
    simp only [Value.slice.injEq, true_and] at e2'
    obtain ⟨rfl, rfl⟩ := e2'
    go_wp2_with fail
    (with_reducible refine (eqBunchS_c _ _ _ _ _ (sbV zs n) _ i13 j13 hbl).mono ?_)
    rintro e w14 ⟨rfl, b14⟩
    obtain ⟨A4', cap4', e4', i14, -⟩ := (Q13.out.on b14).ints (mkL_bd _ (by omega))
    simp only [Value.slice.injEq, true_and] at e4'
    obtain ⟨rfl, rfl⟩ := e4'
    clear i13 j13
    go_wp2_with fail
    (with_reducible refine (heldBunchS_c _ _ _ _ i14 hbl).mono ?_)
    rintro e w15 ⟨rfl, b15⟩
    go_wp2
    go_ret
    exact ⟨rfl, btrans c13 (btrans b14 b15)⟩

theorem own : ownKnob Try.prog.godebug = none := by kernel_rfl
theorem laidOut : laidOutB Try.prog = true := by kernel_rfl

set_option maxRecDepth 100000 in
theorem lifted (os : Os) (started : os.Started) (H : Type) (enc : TypeId × Value → H) :
    ReturnsInHanded {} Try.checked os 3 .any (Rows.fnExactSortBunchesSpec.pre6 enc Try.prog Try.f3 Rows.fnExactSortBunchesRow.domain false) (Rows.fnExactSortBunchesSpec.post enc Try.prog Try.f3 false true false false) := by
  refine returnsInHanded_of_change (C := Try.checked) own started (by kernel_rfl) Try.func3
    (ChangeSpec.witness6 (enc := enc) (C := Try.checked) false ⟨#[], #[.slice none 0 0], []⟩ 8 (by kernel_rfl) (by kernel_rfl) (by kernel_rfl) (by kernel_rfl)) ?_
  intro W base args ds gs before hval0 hW _ _
  have hval : ∀ (j : Nat) t v, Try.f3.params[j]? = some t → args[j]? = some v → Value.okWide Try.prog W .any base t v := hval0
  have hW' := hW
  obtain ⟨p, q, hA0, hV, rfl, hfz, hnd⟩ := hW
  have hA : DataW.TrodAll enc Try.prog W 0 (fun _ => true) true Try.f3.params.toList args.toList ds p := hA0
  rw [Try.params3] at hA hval
  obtain ⟨v0, vs0, d0, ds0, p0, q0, hargs, rfl, rfl, h0, r0⟩ := trodAll_cons hA
  obtain ⟨rfl, rfl, rfl⟩ := trodAll_nil r0
  obtain rfl : args = #[v0] := by cases args; simp_all
  obtain ⟨rfl, rfl⟩ := trodVars_none hV
  have k0 := h0
  have lt0 : ∀ x ∈ p0, x.block < W.heap.size := by obtain ⟨m, hm⟩ := k0; exact DataW.trod_lt m _ _ _ hm
  have w0 := argBunch (hval 0 22 v0 rfl rfl) h0
  clear hA0 hval0
  refine (walk (w := W) v0 w0).mono fun e W' ⟨he, bel⟩ => ?_
  subst he
  exact ⟨_, rfl, _, _, _, [], _, [], hW', trodAll_mk1 (shut_bool Try.underlying4 _), (trodAll_cons_mk (Below.trod laidOut (by kernel_rfl) (of_decide_eq_true (by kernel_rfl)) k0 bel lt0) trodAll_mk0), rfl, bel.frame _, fun h => by cases h⟩

theorem over : Rows.fnExactSortBunchesRow.holds Try.pinned (OpenSpec.ofChange Rows.fnExactSortBunchesSpec) :=
  OpenClaim.holds_of_wide 3 Try.f3 rfl rfl rfl rfl rfl rfl rfl ⟨rfl, rfl, rfl, rfl, rfl⟩ rfl rfl rfl rfl rfl (by kernel_rfl) Try.func3 (by kernel_rfl)
    (of_decide_eq_true (by kernel_rfl)) (by unfold Func.isWrapper; first | (rw [if_pos (by decide +kernel)]; kernel_rfl) | (rw [if_neg (by decide +kernel)]; exact ⟨rfl, rfl⟩))
    (fun os started H enc _ => lifted os started H enc)

/-- The statement. -/
theorem proved : Rows.FnExactSortBunchesSaid := over
#print axioms proved
end Go.Proofs.Ytgcpobondcnjcaa.fnExactSortBunches
