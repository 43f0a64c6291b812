/-
  Rods read from texts, by the program and by the reference.
  No conditions.
-/
import Derived.Test.YtlnlohopgnocaaaDoorStrs
import Derived.Test.YtlnlohopgnocaaaDoorRead
import Derived.Test.YtlnlohopgnocaaaDoorRodText
import Derived.ChangeAgain
namespace Go.Proofs.YtlnlohopgnocaaaDoor
open Go.ChangeShapes Go.WideShapes Go.ChangeAt Go.RowKit Go.Deep
set_option linter.unusedVariables false

/-- The variables stay as they are laid. -/
theorem shaped_on' {P : Program} {w w' : World} (h : w.ShapedOpen P) (hb : Below w.heap.size w w') : w'.ShapedOpen P := h.keptBut (hb.frame (fun _ => False)) (fun _ h => h.elim)
theorem splB_eq (c : UInt8) (s : ByteArray) : splB c s = (splF c s.data.toList).map mkB := rfl
theorem mkB_size (l : List UInt8) : (mkB l).size = l.length := size_mk l
/-- What ReadRod hands back. -/
def rrA (s : ByteArray) : Int × Int × Int := (rrV s).getD (0, 0, 0)
def rrT (s : ByteArray) : Value := .tuple #[.agg #[.int .i64 (rrA s).1, .int .i64 (rrA s).2.1, .int .i64 (rrA s).2.2], .bool (rrV s).isSome]
theorem rrT_none {s : ByteArray} (h : rrV s = none) : rrT s = .tuple #[.agg #[.int .i64 0, .int .i64 0, .int .i64 0], .bool false] := by simp [rrT, rrA, h]
theorem rrT_some {s : ByteArray} {a b c : Int} (h : rrV s = some (a, b, c)) : rrT s = .tuple #[.agg #[.int .i64 a, .int .i64 b, .int .i64 c], .bool true] := by simp [rrT, rrA, h]
theorem three_le {s : ByteArray} {a b c : List UInt8} (h : splF 32 s.data.toList = [a, b, c]) : a.length ≤ s.size ∧ b.length ≤ s.size ∧ c.length ≤ s.size := by
  have := joinF_spl 32 s.data.toList
  rw [h] at this
  simp only [joinF] at this
  have hl := congrArg List.length this
  have e : s.data.toList.length = s.size := by simp
  rw [e] at hl
  simp at hl
  omega
theorem two_le {c v0 v1 : List UInt8} (h : splF 45 c = [v0, v1]) : v0.length ≤ c.length ∧ v1.length ≤ c.length := by
  have := joinF_spl 45 c
  rw [h] at this
  simp only [joinF] at this
  have hl := congrArg List.length this
  simp at hl
  omega
theorem own3 {w : World} {base : Nat} {v : Value} {x y z : ByteArray} (h : OwnS w base v [x, y, z]) : ∃ g c, v = .slice (some ⟨g, 0, none⟩) 3 c ∧ base ≤ g ∧ g < w.heap.size ∧ w.cell? ⟨g, 0, none⟩ = some (.string x) ∧ w.cell? ⟨g, 1, none⟩ = some (.string y) ∧ w.cell? ⟨g, 2, none⟩ = some (.string z) := by
  obtain ⟨A, c, rfl, hc⟩ := h.form
  obtain ⟨g, rfl, hg, h0⟩ := hc 0 (by simp)
  obtain ⟨g1, e1, _, h1⟩ := hc 1 (by simp)
  obtain ⟨g2, e2, _, h2⟩ := hc 2 (by simp)
  simp only [Option.some.injEq, Addr.mk.injEq, and_true] at e1 e2
  subst e1 e2
  exact ⟨g, c, rfl, (h.lt g rfl).1, hg, h0, h1, h2⟩
theorem own2 {w : World} {base : Nat} {v : Value} {x y : ByteArray} (h : OwnS w base v [x, y]) : ∃ g c, v = .slice (some ⟨g, 0, none⟩) 2 c ∧ base ≤ g ∧ g < w.heap.size ∧ w.cell? ⟨g, 0, none⟩ = some (.string x) ∧ w.cell? ⟨g, 1, none⟩ = some (.string y) := by
  obtain ⟨A, c, rfl, hc⟩ := h.form
  obtain ⟨g, rfl, hg, h0⟩ := hc 0 (by simp)
  obtain ⟨g1, e1, _, h1⟩ := hc 1 (by simp)
  simp only [Option.some.injEq, Addr.mk.injEq, and_true] at e1
  subst e1
  exact ⟨g, c, rfl, (h.lt g rfl).1, hg, h0, h1⟩
theorem own_len {w : World} {base : Nat} {v : Value} {l : List ByteArray} (h : OwnS w base v l) : ∃ A q c, v = .slice A q c ∧ l.length = q := by
  obtain ⟨A, c, rfl, _⟩ := h.form
  exact ⟨A, _, c, rfl, rfl⟩
theorem mkB_is (l m : List UInt8) : ((mkB l).toList == m) = decide (l = m) := by
  rw [Go.ByteArray.toList_eq]
  show (l.toArray.toList == m) = _
  rw [Bool.eq_iff_iff, beq_iff_eq, decide_eq_true_iff]
theorem rodOf_val {x y z : Option Int} : rodOf x y z = none ↔ x = none ∨ y = none ∨ z = none ∨ rodOk (x.getD 0) (y.getD 0) (z.getD 0) = false := by
  cases x <;> cases y <;> cases z <;> simp [rodOf]

set_option maxRecDepth 100000 in
set_option maxHeartbeats 4000000 in
theorem readRod_s (s : ByteArray) (w : World) (hs : s.size ≤ 2097152) :
    Calls Tryd.prog 21 #[.string s] w fun e w' => e = .returned (rrT s) ∧ Below w.heap.size w w' := by
  have hR := Blk.new w 27 #[.int .i64 0, .int .i64 0, .int .i64 0]
  have b0 : Below w.heap.size w (w.alloc (.cells #[.int .i64 0, .int .i64 0, .int .i64 0] 27)) := balloc (Below.refl _ _) _
  go_enter Tryd.func21, Tryd.ntmps21
  go_wp2_with fail
  refine (l01Split_c s 32 _ hs).mono ?_
  rintro e w1 ⟨v, rfl, o1, b1⟩
  have c1 := btrans b0 b1
  have R := hR.on b1
  have Rl := R.lt
  have Rc0 := R.cell 0
  have Rf0 := R.frozen 0
  have Rc1 := R.cell 1
  have Rf1 := R.frozen 1
  have Rc2 := R.cell 2
  have Rf2 := R.frozen 2
  simp at Rc0 Rc1 Rc2
  have RH := Lib.hid R
  clear R
  rcases hW : splF 32 s.data.toList with _ | ⟨a, _ | ⟨b, _ | ⟨c, _ | ⟨d, r⟩⟩⟩⟩
  case cons.cons.cons.nil =>
    have HW := Lib.hid hW
    have hle := three_le hW
    rw [splB_eq, hW] at o1
    clear hW
    obtain ⟨g, cc, rfl, hg0, hg1, d0, d1, d2⟩ := own3 o1
    clear o1
    have HC : Hid (Blk w1 w.heap.size 27 #[.int .i64 0, .int .i64 0, .int .i64 0]) := RH.out
    rcases hb : decide (b = [109, 109]) with _ | _
    · have HV := Lib.hid (rrT_none (s := s) (by unfold rrV; rw [HW.out]; simp only; rw [if_neg (of_decide_eq_false hb)]))
      have hm1 := mkB_is b [109, 109]
      rw [hb] at hm1
      have hm2 : ((mkB b).toList != [109, 109]) = true := by rw [bne, hm1]; rfl
      clear hb
      go_wp2
      refine bodyPost_ret (v := .tuple #[.agg #[.int .i64 0, .int .i64 0, .int .i64 0], .bool false]) (by simp [results, Tryd.results21, go_sem, Rc0, Rc1, Rc2]) rfl ⟨by rw [HV.out], ?_⟩
      repeat (first | exact c1 | refine bset ?_ (by omega) _)
    · have hbe := of_decide_eq_true hb
      have hm1 := mkB_is b [109, 109]
      rw [hb] at hm1
      have hm2 : ((mkB b).toList != [109, 109]) = false := by rw [bne, hm1]; rfl
      have HX : Hid (rrV s = match splF 45 c with | [v0, v1] => rodOf (rdV (mkB a)) (rdV (mkB v0)) (rdV (mkB v1)) | _ => none) := by
        show _ = _
        unfold rrV
        rw [HW.out]
        simp only
        rw [if_pos hbe]
        rfl
      clear hb hbe
      have hcs : (mkB c).size ≤ 2097152 := by rw [mkB_size]; omega
      have has : (mkB a).size ≤ 2097152 := by rw [mkB_size]; omega
      go_wp2_with fail
      refine (l01Split_c (mkB c) 45 _ hcs).mono ?_
      rintro e w2 ⟨v, rfl, o2, b2⟩
      have c2 := btrans c1 b2
      have hb1 := b1.size
      have hb2 := b2.size
      have hs1 : w.heap.size < w1.heap.size := by have := hR.lt; simp at hb1; omega
      have e0 := (b2.cell (p := ⟨g, 0, none⟩) hg1).trans d0
      have e1 := (b2.cell (p := ⟨g, 1, none⟩) hg1).trans d1
      have e2 := (b2.cell (p := ⟨g, 2, none⟩) hg1).trans d2
      clear d0 d1 d2
      clear Rc0 Rc1 Rc2 Rf0 Rf1 Rf2
      have Q := RH.out.on b2
      have Ql := Q.lt
      have Qc0 := Q.cell 0
      have Qf0 := Q.frozen 0
      have Qc1 := Q.cell 1
      have Qf1 := Q.frozen 1
      have Qc2 := Q.cell 2
      have Qf2 := Q.frozen 2
      simp at Qc0 Qc1 Qc2
      have QH := Lib.hid Q
      clear Q
      rcases hv : splF 45 c with _ | ⟨v0, _ | ⟨v1, _ | ⟨v2, r⟩⟩⟩
      case cons.cons.nil =>
        have hle2 := two_le hv
        have HX2 : Hid (rrV s = rodOf (rdV (mkB a)) (rdV (mkB v0)) (rdV (mkB v1))) := by show _ = _; rw [HX.out, hv]
        have e45 : splB 45 (mkB c) = [mkB v0, mkB v1] := by rw [splB_eq, mkB_data, hv]; rfl
        rw [e45] at o2
        clear hv e45 HX
        obtain ⟨g', cc', rfl, hg0', hg1', f0, f1⟩ := own2 o2
        clear o2
        go_wp2_with fail
        refine (num_s (mkB a) _ has).mono ?_
        rintro e w3 ⟨rfl, b3⟩
        have f0' := (b3.cell (p := ⟨g', 0, none⟩) hg1').trans f0
        have f1' := (b3.cell (p := ⟨g', 1, none⟩) hg1').trans f1
        clear f0 f1 e0 e1 e2
        go_wp2_with fail
        refine (num_s (mkB v0) _ (by rw [mkB_size]; omega)).mono ?_
        rintro e w4 ⟨rfl, b4⟩
        have f1'' := (b4.cell (p := ⟨g', 1, none⟩) (Nat.lt_of_lt_of_le hg1' b3.size)).trans f1'
        clear f0' f1'
        go_wp2_with fail
        refine (num_s (mkB v1) _ (by rw [mkB_size]; omega)).mono ?_
        rintro e w5 ⟨rfl, b5⟩
        clear f1''
        have c5 := btrans (btrans (btrans c2 b3) b4) b5
        clear Qc0 Qc1 Qc2 Qf0 Qf1 Qf2
        have P := ((QH.out.on b3).on b4).on b5
        have Pl := P.lt
        have Pc0 := P.cell 0
        have Pf0 := P.frozen 0
        have Pc1 := P.cell 1
        have Pf1 := P.frozen 1
        have Pc2 := P.cell 2
        have Pf2 := P.frozen 2
        simp at Pc0 Pc1 Pc2
        have PH := Lib.hid P
        clear P
        rcases hx : rdV (mkB a) with _ | x
        · have HV := Lib.hid (rrT_none (s := s) (by rw [HX2.out, hx]; rfl))
          clear hx
          go_wp2
          refine bodyPost_ret (v := .tuple #[.agg #[.int .i64 0, .int .i64 0, .int .i64 0], .bool false]) (by simp [results, Tryd.results21, go_sem, World.cell?_alloc_lt, World.size_setCell, Pl, Pc0, Pc1, Pc2]) rfl ⟨by rw [HV.out], ?_⟩
          repeat (first | exact c5 | apply balloc | refine bset ?_ (by omega) _)
        · rcases hy : rdV (mkB v0) with _ | y
          · have HV := Lib.hid (rrT_none (s := s) (by rw [HX2.out, hy, hx]; rfl))
            clear hx hy
            go_wp2
            refine bodyPost_ret (v := .tuple #[.agg #[.int .i64 0, .int .i64 0, .int .i64 0], .bool false]) (by simp [results, Tryd.results21, go_sem, World.cell?_alloc_lt, World.size_setCell, Pl, Pc0, Pc1, Pc2]) rfl ⟨by rw [HV.out], ?_⟩
            repeat (first | exact c5 | apply balloc | refine bset ?_ (by omega) _)
          · rcases hz : rdV (mkB v1) with _ | z
            · have HV := Lib.hid (rrT_none (s := s) (by rw [HX2.out, hz, hy, hx]; rfl))
              clear hx hy hz
              go_wp2
              refine bodyPost_ret (v := .tuple #[.agg #[.int .i64 0, .int .i64 0, .int .i64 0], .bool false]) (by simp [results, Tryd.results21, go_sem, World.cell?_alloc_lt, World.size_setCell, Pl, Pc0, Pc1, Pc2]) rfl ⟨by rw [HV.out], ?_⟩
              repeat (first | exact c5 | apply balloc | refine bset ?_ (by omega) _)
            · have HX3 : Hid (rrV s = rodOf (some x) (some y) (some z)) := by show _ = _; rw [HX2.out, hz, hy, hx]
              clear hx hy hz
              simp only [Option.getD_some, Option.isSome_some]
              have hlt5 : w.heap.size < w5.heap.size := Pl
              go_wp2_with fail
              refine (l02One_c w5.heap.size 0 x y z _ (by simp) (by simp) (by simp)).mono ?_
              rintro e w6 ⟨rfl, b6⟩
              have c6 := btrans (balloc c5 (.cells #[.int .i64 x, .int .i64 y, .int .i64 z] 27)) b6
              clear Pc0 Pc1 Pc2 Pf0 Pf1 Pf2
              have N := (PH.out.alloc _).on b6
              have Nl := N.lt
              have Nc0 := N.cell 0
              have Nf0 := N.frozen 0
              have Nc1 := N.cell 1
              have Nf1 := N.frozen 1
              have Nc2 := N.cell 2
              have Nf2 := N.frozen 2
              simp at Nc0 Nc1 Nc2
              have NH := Lib.hid N
              clear N
              have M := (Blk.new w5 27 #[.int .i64 x, .int .i64 y, .int .i64 z]).on b6
              have Ml := M.lt
              have Mc0 := M.cell 0
              have Mf0 := M.frozen 0
              have Mc1 := M.cell 1
              have Mf1 := M.frozen 1
              have Mc2 := M.cell 2
              have Mf2 := M.frozen 2
              simp at Mc0 Mc1 Mc2
              have MH := Lib.hid M
              clear M
              have hne : ¬ w.heap.size = w5.heap.size := by omega
              rcases hr : rodOk x y z with _ | _
              · have HV := Lib.hid (rrT_none (s := s) (by rw [HX3.out]; simp [rodOf, hr]))
                clear hr
                go_wp2
                refine bodyPost_ret (v := .tuple #[.agg #[.int .i64 0, .int .i64 0, .int .i64 0], .bool false]) (by simp [results, Tryd.results21, go_sem, Nc0, Nc1, Nc2]) rfl ⟨by rw [HV.out], ?_⟩
                repeat (first | exact c6 | refine bset ?_ (by omega) _)
              · have HV := Lib.hid (rrT_some (s := s) (a := x) (b := y) (c := z) (by rw [HX3.out]; simp [rodOf, hr]))
                clear hr
                go_wp2
                refine bodyPost_ret (v := .tuple #[.agg #[.int .i64 x, .int .i64 y, .int .i64 z], .bool true]) (by simp [results, Tryd.results21, go_sem, Nc0, Nc1, Nc2]) rfl ⟨by rw [HV.out], ?_⟩
                repeat (first | exact c6 | refine bset ?_ (by omega) _)
      all_goals
        have HV := Lib.hid (rrT_none (s := s) (by rw [HX.out, hv]))
        have hql : (splB 45 (mkB c)).length ≠ 2 := by rw [splB_eq, mkB_data, hv]; simp
        obtain ⟨A, q, cc', rfl, hq⟩ := own_len o2
        rw [hq] at hql
        have hq3 : ((q : Int) == 2) = false := by rw [beq_eq_false_iff_ne]; omega
        have hq4 : ((q : Int) != 2) = true := by rw [bne_iff_ne]; omega
        clear hq o2 hv hql
        go_wp2
        refine bodyPost_ret (v := .tuple #[.agg #[.int .i64 0, .int .i64 0, .int .i64 0], .bool false]) (by simp [results, Tryd.results21, go_sem, Qc0, Qc1, Qc2]) rfl ⟨by rw [HV.out], ?_⟩
        repeat (first | exact c2 | refine bset ?_ (by omega) _)
  all_goals
    have HV := Lib.hid (rrT_none (s := s) (by unfold rrV; rw [hW]))
    rw [splB_eq, hW] at o1
    obtain ⟨A, q, cc, rfl, hq⟩ := own_len o1
    have hq3 : ((q : Int) == 3) = false := by rw [beq_eq_false_iff_ne]; simp at hq; omega
    have hq4 : ((q : Int) != 3) = true := by rw [bne_iff_ne]; simp at hq; omega
    clear hq o1 hW
    go_wp2
    refine bodyPost_ret (v := .tuple #[.agg #[.int .i64 0, .int .i64 0, .int .i64 0], .bool false]) (by simp [results, Tryd.results21, go_sem, Rc0, Rc1, Rc2]) rfl ⟨by rw [HV.out], ?_⟩
    repeat (first | exact c1 | refine bset ?_ (by omega) _)
theorem cut_le (c : List UInt8) : (Lib.cut c [45]).1.length ≤ c.length ∧ (Lib.cut c [45]).2.1.length ≤ c.length := by
  unfold Lib.cut
  split
  · simp; omega
  · simp
set_option maxRecDepth 100000 in
set_option maxHeartbeats 4000000 in
theorem readRod_i (s : ByteArray) (w : World) (hs : s.size ≤ 2097152) (hsh : w.ShapedOpen Tryd.prog) (ht : Tens w) :
    Calls Tryd.prog 22 #[.string s] w fun e w' => e = .returned (rrT s) ∧ Below w.heap.size w w' := by
  have hR := Blk.new w 27 #[.int .i64 0, .int .i64 0, .int .i64 0]
  have b0 : Below w.heap.size w (w.alloc (.cells #[.int .i64 0, .int .i64 0, .int .i64 0] 27)) := balloc (Below.refl _ _) _
  have HSH := Lib.hid (shaped_on' hsh b0)
  have HTN := Lib.hid (ht.on b0)
  clear hsh ht
  go_enter Tryd.func22, Tryd.ntmps22
  go_wp2_with fail
  refine (split_lib_c s 32 _ HSH.out hs).mono ?_
  rintro e w1 ⟨v, rfl, o1, b1⟩
  have c1 := btrans b0 b1
  have R := hR.on b1
  have Rl := R.lt
  have Rc0 := R.cell 0
  have Rf0 := R.frozen 0
  have Rc1 := R.cell 1
  have Rf1 := R.frozen 1
  have Rc2 := R.cell 2
  have Rf2 := R.frozen 2
  simp at Rc0 Rc1 Rc2
  have RH := Lib.hid R
  clear R
  rcases hW : splF 32 s.data.toList with _ | ⟨a, _ | ⟨b, _ | ⟨c, _ | ⟨d, r⟩⟩⟩⟩
  case cons.cons.cons.nil =>
    have HW := Lib.hid hW
    have hle := three_le hW
    rw [splB_eq, hW] at o1
    clear hW
    obtain ⟨g, cc, rfl, hg0, hg1, d0, d1, d2⟩ := own3 o1
    clear o1
    have hcl := cut_le c
    have hcs : (mkB c).size ≤ 2097152 := by rw [mkB_size]; omega
    have has : (mkB a).size ≤ 2097152 := by rw [mkB_size]; omega
    have HSS := Lib.hid (rr_same s a b c HW.out)
    obtain ⟨x0, hx0⟩ : ∃ x0, (Lib.cut c [45]).1 = x0 := ⟨_, rfl⟩
    obtain ⟨x1, hx1⟩ : ∃ x1, (Lib.cut c [45]).2.1 = x1 := ⟨_, rfl⟩
    obtain ⟨x2, hx2⟩ : ∃ x2, (Lib.cut c [45]).2.2 = x2 := ⟨_, rfl⟩
    rw [hx0, hx1] at hcl HSS
    have hxs0 : (mkB x0).size ≤ 2097152 := by rw [mkB_size]; omega
    have hxs1 : (mkB x1).size ≤ 2097152 := by rw [mkB_size]; omega
    have HCT : Hid (∀ w : World, w.ShapedOpen Tryd.prog → Calls Tryd.prog 41 #[.string (mkB c), .string ⟨#[45]⟩] w fun e w' => e = .returned (.tuple #[.string (mkB x0), .string (mkB x1), .bool x2]) ∧ ∃ n, w' = w.drewN n) := by
      intro w hw
      have := Tryd.strings_Cut_shaped (mkB c) ⟨#[45]⟩ w hw (by omega)
      rw [mkB_data] at this
      rw [← hx0, ← hx1, ← hx2]
      exact this
    clear hx0 hx1 hx2 hcl
    go_wp2_with fail
    refine (HCT.out _ (shaped_on' HSH.out b1)).mono ?_
    rintro e w2 ⟨rfl, n2, rfl⟩
    clear d1 d2
    have HT2 := Lib.hid (HTN.out.on (bdrewN b1 n2))
    go_wp2_with fail
    refine (read_i (mkB a) _ has HT2.out).mono ?_
    rintro e w3 ⟨rfl, b3⟩
    clear d0
    have HT3 := Lib.hid (HT2.out.on b3)
    go_wp2_with fail
    refine (read_i (mkB x0) _ hxs0 HT3.out).mono ?_
    rintro e w4 ⟨rfl, b4⟩
    have HT4 := Lib.hid (HT3.out.on b4)
    go_wp2_with fail
    refine (read_i (mkB x1) _ hxs1 HT4.out).mono ?_
    rintro e w5 ⟨rfl, b5⟩
    have HT5 := Lib.hid (HT4.out.on b5)
    have c5 := btrans (btrans (btrans (bdrewN c1 n2) b3) b4) b5
    clear Rc0 Rc1 Rc2 Rf0 Rf1 Rf2
    have P := (((RH.out.drewN n2).on b3).on b4).on b5
    have Pl := P.lt
    have Pc0 := P.cell 0
    have Pf0 := P.frozen 0
    have Pc1 := P.cell 1
    have Pf1 := P.frozen 1
    have Pc2 := P.cell 2
    have Pf2 := P.frozen 2
    simp at Pc0 Pc1 Pc2
    have PH := Lib.hid P
    clear P
    rcases hx : rdV (mkB a) with _ | x
    · have HV := Lib.hid (rrT_none (s := s) (by rw [HSS.out, hx]; rfl))
      clear hx
      go_wp2
      refine bodyPost_ret (v := .tuple #[.agg #[.int .i64 0, .int .i64 0, .int .i64 0], .bool false]) (by simp [results, Tryd.results22, go_sem, World.cell?_alloc_lt, World.size_setCell, Pl, Pc0, Pc1, Pc2]) rfl ⟨by rw [HV.out], ?_⟩
      repeat (first | exact c5 | apply balloc | refine bset ?_ (by omega) _)
    · rcases hy : rdV (mkB x0) with _ | y
      · have HV := Lib.hid (rrT_none (s := s) (by rw [HSS.out, hy, hx]; rfl))
        clear hx hy
        go_wp2
        refine bodyPost_ret (v := .tuple #[.agg #[.int .i64 0, .int .i64 0, .int .i64 0], .bool false]) (by simp [results, Tryd.results22, go_sem, World.cell?_alloc_lt, World.size_setCell, Pl, Pc0, Pc1, Pc2]) rfl ⟨by rw [HV.out], ?_⟩
        repeat (first | exact c5 | apply balloc | refine bset ?_ (by omega) _)
      · rcases hz : rdV (mkB x1) with _ | z
        · have HV := Lib.hid (rrT_none (s := s) (by rw [HSS.out, hz, hy, hx]; rfl))
          clear hx hy hz
          go_wp2
          refine bodyPost_ret (v := .tuple #[.agg #[.int .i64 0, .int .i64 0, .int .i64 0], .bool false]) (by simp [results, Tryd.results22, go_sem, World.cell?_alloc_lt, World.size_setCell, Pl, Pc0, Pc1, Pc2]) rfl ⟨by rw [HV.out], ?_⟩
          repeat (first | exact c5 | apply balloc | refine bset ?_ (by omega) _)
        · have HX3 : Hid (rrV s = match rodOf (some x) (some y) (some z) with | some (x, y, z) => if rodTxt x y z = s.data.toList then some (x, y, z) else none | none => none) := by show _ = _; rw [HSS.out, hz, hy, hx]; rfl
          clear hx hy hz
          simp only [Option.getD_some, Option.isSome_some]
          have hlt5 : w.heap.size < w5.heap.size := Pl
          go_wp2_with fail
          refine (isRod_c x y z _).mono ?_
          rintro e w6 ⟨rfl, b6⟩
          have c6 := btrans (balloc c5 (.cells #[.int .i64 x, .int .i64 y, .int .i64 z] 27)) b6
          have hne : ¬ w.heap.size = w5.heap.size := by omega
          clear Pc0 Pc1 Pc2 Pf0 Pf1 Pf2
          have N := (PH.out.alloc _).on b6
          have Nl := N.lt
          have Nc0 := N.cell 0
          have Nf0 := N.frozen 0
          have Nc1 := N.cell 1
          have Nf1 := N.frozen 1
          have Nc2 := N.cell 2
          have Nf2 := N.frozen 2
          simp at Nc0 Nc1 Nc2
          have NH := Lib.hid N
          clear N
          have M := (Blk.new w5 27 #[.int .i64 x, .int .i64 y, .int .i64 z]).on b6
          have Ml := M.lt
          have Mc0 := M.cell 0
          have Mf0 := M.frozen 0
          have Mc1 := M.cell 1
          have Mf1 := M.frozen 1
          have Mc2 := M.cell 2
          have Mf2 := M.frozen 2
          simp at Mc0 Mc1 Mc2
          have MH := Lib.hid M
          clear M
          rcases hr : rodOk x y z with _ | _
          · have HV := Lib.hid (rrT_none (s := s) (by rw [HX3.out]; simp [rodOf, hr]))
            clear hr
            go_wp2
            refine bodyPost_ret (v := .tuple #[.agg #[.int .i64 0, .int .i64 0, .int .i64 0], .bool false]) (by simp [results, Tryd.results22, go_sem, World.cell?_alloc_lt, World.size_setCell, Nl, Nc0, Nc1, Nc2]) rfl ⟨by rw [HV.out], ?_⟩
            repeat (first | exact c6 | refine bset ?_ (by omega) _)
          · have HTX : Hid (txV x y z = ⟨(rodTxt x y z).toArray⟩) := by show _ = _; unfold txV; rw [hr]; rfl
            have HX4 : Hid (rrV s = if rodTxt x y z = s.data.toList then some (x, y, z) else none) := by show _ = _; rw [HX3.out]; simp [rodOf, hr]
            clear hr
            have HT6 := Lib.hid ((HT5.out.on (balloc (Below.refl w5.heap.size w5) _)).on b6)
            go_wp2_with fail
            refine (text_i x y z _ HT6.out).mono ?_
            rintro e w7 ⟨rfl, b7⟩
            rw [HTX.out]
            have c7 := btrans c6 b7
            have hlt7 : w.heap.size < w7.heap.size := by have := b7.size; omega
            clear Nc0 Nc1 Nc2 Nf0 Nf1 Nf2 Mc0 Mc1 Mc2 Mf0 Mf1 Mf2
            have K := NH.out.on b7
            have Kl := K.lt
            have Kc0 := K.cell 0
            have Kf0 := K.frozen 0
            have Kc1 := K.cell 1
            have Kf1 := K.frozen 1
            have Kc2 := K.cell 2
            have Kf2 := K.frozen 2
            simp at Kc0 Kc1 Kc2
            have KH := Lib.hid K
            clear K
            have L := MH.out.on b7
            have Ll := L.lt
            have Lc0 := L.cell 0
            have Lf0 := L.frozen 0
            have Lc1 := L.cell 1
            have Lf1 := L.frozen 1
            have Lc2 := L.cell 2
            have Lf2 := L.frozen 2
            simp at Lc0 Lc1 Lc2
            have LH := Lib.hid L
            clear L
            rcases heq : decide (rodTxt x y z = s.data.toList) with _ | _
            · have HV := Lib.hid (rrT_none (s := s) (by rw [HX4.out, if_neg (of_decide_eq_false heq)]))
              have hst := str_eq (rodTxt x y z) s
              rw [heq] at hst
              clear heq
              have hst2 : (rodTxt x y z != s.toList) = true := by rw [bne, hst]; rfl
              go_wp2
              refine bodyPost_ret (v := .tuple #[.agg #[.int .i64 0, .int .i64 0, .int .i64 0], .bool false]) (by simp [results, Tryd.results22, go_sem, World.cell?_alloc_lt, World.size_setCell, Kl, Kc0, Kc1, Kc2]) rfl ⟨by rw [HV.out], ?_⟩
              repeat (first | exact c7 | refine bset ?_ (by omega) _)
            · have HV := Lib.hid (rrT_some (s := s) (a := x) (b := y) (c := z) (by rw [HX4.out, if_pos (of_decide_eq_true heq)]))
              have hst := str_eq (rodTxt x y z) s
              rw [heq] at hst
              clear heq
              have hst2 : (rodTxt x y z != s.toList) = false := by rw [bne, hst]; rfl
              go_wp2
              refine bodyPost_ret (v := .tuple #[.agg #[.int .i64 x, .int .i64 y, .int .i64 z], .bool true]) (by simp [results, Tryd.results22, go_sem, Kl, Kc0, Kc1, Kc2]) rfl ⟨by rw [HV.out], ?_⟩
              repeat (first | exact c7 | refine bset ?_ (by omega) _)
  all_goals
    have HV := Lib.hid (rrT_none (s := s) (by unfold rrV; rw [hW]))
    rw [splB_eq, hW] at o1
    obtain ⟨A, q, cc, rfl, hq⟩ := own_len o1
    have hq3 : ((q : Int) == 3) = false := by rw [beq_eq_false_iff_ne]; simp at hq; omega
    have hq4 : ((q : Int) != 3) = true := by rw [bne_iff_ne]; simp at hq; omega
    clear hq o1 hW
    go_wp2
    refine bodyPost_ret (v := .tuple #[.agg #[.int .i64 0, .int .i64 0, .int .i64 0], .bool false]) (by simp [results, Tryd.results22, go_sem, Rc0, Rc1, Rc2]) rfl ⟨by rw [HV.out], ?_⟩
    repeat (first | exact c1 | refine bset ?_ (by omega) _)
end Go.Proofs.YtlnlohopgnocaaaDoor
