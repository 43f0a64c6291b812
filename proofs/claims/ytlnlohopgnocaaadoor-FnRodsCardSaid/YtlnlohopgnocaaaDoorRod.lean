/-
  One rod: how long it is thick enough, how thick it is, what is left of it.
  No conditions.
-/
import Derived.Test.YtlnlohopgnocaaaDoorValid
import Derived.Test.YtlnlohopgnocaaaDoorFrac
import Derived.Test.YtlnlohopgnocaaaDoorNum
import Derived.Deep.RegionWith
namespace Go.Proofs.YtlnlohopgnocaaaDoor
open Go.ChangeShapes Go.WideShapes Go.ChangeAt Go.RowKit Go.Deep

theorem rodOk_bd {a b c : Int} (h : rodOk a b c = true) : 100 ≤ a ∧ a ≤ 3000 ∧ 1 ≤ b ∧ b ≤ 300 ∧ 1 ≤ c ∧ c ≤ b := by
  simp only [rodOk, Bool.and_eq_true] at h
  have h1 := inR_true h.1.1
  have h2 := inR_true h.1.2
  have h3 := inR_true h.2
  omega
theorem mul_bd {a b m n : Int} (h0 : 0 ≤ a) (h1 : a ≤ m) (h2 : 0 ≤ b) (h3 : b ≤ n) : 0 ≤ a * b ∧ a * b ≤ m * n :=
  ⟨Int.mul_nonneg h0 h2, Int.mul_le_mul h1 h3 h2 (by omega)⟩
/-- LengthWith. -/
def lenW (l b t th : Int) : Int × Int :=
  if rodOk l b t then (if inR th 1 300 then (if b < th then (0, 3) else if th ≤ t then (l, 0) else ((b - th) * l / (b - t), 0)) else (0, 2)) else (0, 1)

set_option maxHeartbeats 1000000 in
theorem lenW_i (l b t th : Int) (w : World) : Calls Tryd.prog 27 #[.agg #[.int .i64 l, .int .i64 b, .int .i64 t], .int .i64 th] w fun e w' =>
    e = .returned (.tuple #[.int .i64 (lenW l b t th).1, .int .i64 (lenW l b t th).2]) ∧ Below w.heap.size w w' := by
  rcases hok : rodOk l b t with _ | _
  · have HV : Hid (lenW l b t th = (0, 1)) := by show _ = _; simp [lenW, hok]
    go_enter Tryd.func27, Tryd.ntmps27
    go_wp2_with fail
    refine (isRod_c _ _ _ _).mono ?_
    rintro e w1 ⟨rfl, hb1⟩
    have K : Blk w1 w.heap.size 27 #[.int .i64 l, .int .i64 b, .int .i64 t] := by first | exact (Blk.new w 27 #[.int .i64 l, .int .i64 b, .int .i64 t]).on hb1 | exact ((Blk.new w 27 #[.int .i64 l, .int .i64 b, .int .i64 t]).alloc _).on hb1
    have Kl := K.lt
    have Kc0 := K.cell 0
    have Kc1 := K.cell 1
    have Kc2 := K.cell 2
    simp at Kc0 Kc1 Kc2
    clear K
    rw [hok]
    go_wp2
    go_ret2
    refine ⟨by rw [HV.out]; rfl, btrans (balloc (Below.refl _ _) _) hb1⟩
  · have hbd := rodOk_bd hok
    refine inR_split th 1 300 (fun hl _ _ => ?_) (fun hl => ?_)
    · have hV : lenW l b t th = if b < th then (0, 3) else if th ≤ t then (l, 0) else ((b - th) * l / (b - t), 0) := by simp [lenW, hok, hl]
      have HV := Lib.hid hV
      clear hV
      by_cases h1 : b < th
      · go_enter Tryd.func27, Tryd.ntmps27
        go_wp2_with fail
        refine (isRod_c _ _ _ _).mono ?_
        rintro e w1 ⟨rfl, hb1⟩
        have K : Blk w1 w.heap.size 27 #[.int .i64 l, .int .i64 b, .int .i64 t] := by first | exact (Blk.new w 27 #[.int .i64 l, .int .i64 b, .int .i64 t]).on hb1 | exact ((Blk.new w 27 #[.int .i64 l, .int .i64 b, .int .i64 t]).alloc _).on hb1
        have Kl := K.lt
        have Kc0 := K.cell 0
        have Kc1 := K.cell 1
        have Kc2 := K.cell 2
        simp at Kc0 Kc1 Kc2
        clear K
        rw [hok]
        go_wp2_with (first | (go_at_call 35; refine (isRod_c _ _ _ _).mono ?_; rintro e w1 ⟨rfl, hb1⟩) | (go_at_call 44; refine (within_c _ _ _ _).mono ?_; rintro e w' ⟨rfl, rfl⟩))
        go_ret2
        refine ⟨by rw [HV.out, if_pos (by omega)]; rfl, btrans (balloc (Below.refl _ _) _) hb1⟩
      · by_cases h2 : th ≤ t
        · go_enter Tryd.func27, Tryd.ntmps27
          go_wp2_with fail
          refine (isRod_c _ _ _ _).mono ?_
          rintro e w1 ⟨rfl, hb1⟩
          have K : Blk w1 w.heap.size 27 #[.int .i64 l, .int .i64 b, .int .i64 t] := by first | exact (Blk.new w 27 #[.int .i64 l, .int .i64 b, .int .i64 t]).on hb1 | exact ((Blk.new w 27 #[.int .i64 l, .int .i64 b, .int .i64 t]).alloc _).on hb1
          have Kl := K.lt
          have Kc0 := K.cell 0
          have Kc1 := K.cell 1
          have Kc2 := K.cell 2
          simp at Kc0 Kc1 Kc2
          clear K
          rw [hok]
          go_wp2_with (first | (go_at_call 35; refine (isRod_c _ _ _ _).mono ?_; rintro e w1 ⟨rfl, hb1⟩) | (go_at_call 44; refine (within_c _ _ _ _).mono ?_; rintro e w' ⟨rfl, rfl⟩))
          go_ret2
          refine ⟨by rw [HV.out, if_neg (by omega), if_pos (by omega)]; rfl, btrans (balloc (Below.refl _ _) _) hb1⟩
        · have q0 := mul_bd (a := b - th) (b := l) (m := 300) (n := 3000) (by omega) (by omega) (by omega) (by omega)
          have q1 : 0 ≤ (b - th) * l / (b - t) := Int.ediv_nonneg q0.1 (by omega)
          have q2 : (b - th) * l / (b - t) ≤ (b - th) * l := Int.ediv_le_self _ q0.1
          have q3 : ((b - t) == 0) = false := by rw [beq_eq_false_iff_ne]; omega
          go_enter Tryd.func27, Tryd.ntmps27
          go_wp2_with fail
          refine (isRod_c _ _ _ _).mono ?_
          rintro e w1 ⟨rfl, hb1⟩
          have K : Blk w1 w.heap.size 27 #[.int .i64 l, .int .i64 b, .int .i64 t] := by first | exact (Blk.new w 27 #[.int .i64 l, .int .i64 b, .int .i64 t]).on hb1 | exact ((Blk.new w 27 #[.int .i64 l, .int .i64 b, .int .i64 t]).alloc _).on hb1
          have Kl := K.lt
          have Kc0 := K.cell 0
          have Kc1 := K.cell 1
          have Kc2 := K.cell 2
          simp at Kc0 Kc1 Kc2
          clear K
          rw [hok]
          go_wp2_with (first | (go_at_call 35; refine (isRod_c _ _ _ _).mono ?_; rintro e w1 ⟨rfl, hb1⟩) | (go_at_call 44; refine (within_c _ _ _ _).mono ?_; rintro e w' ⟨rfl, rfl⟩))
          go_ret2
          refine ⟨by rw [HV.out, if_neg (by omega), if_neg (by omega)]; rfl, btrans (balloc (Below.refl _ _) _) hb1⟩
    · have HV : Hid (lenW l b t th = (0, 2)) := by show _ = _; simp [lenW, hok, hl]
      go_enter Tryd.func27, Tryd.ntmps27
      go_wp2_with fail
      refine (isRod_c _ _ _ _).mono ?_
      rintro e w1 ⟨rfl, hb1⟩
      have K : Blk w1 w.heap.size 27 #[.int .i64 l, .int .i64 b, .int .i64 t] := by first | exact (Blk.new w 27 #[.int .i64 l, .int .i64 b, .int .i64 t]).on hb1 | exact ((Blk.new w 27 #[.int .i64 l, .int .i64 b, .int .i64 t]).alloc _).on hb1
      have Kl := K.lt
      have Kc0 := K.cell 0
      have Kc1 := K.cell 1
      have Kc2 := K.cell 2
      simp at Kc0 Kc1 Kc2
      clear K
      rw [hok]
      go_wp2_with (first | (go_at_call 35; refine (isRod_c _ _ _ _).mono ?_; rintro e w1 ⟨rfl, hb1⟩) | (go_at_call 44; refine (within_c _ _ _ _).mono ?_; rintro e w' ⟨rfl, rfl⟩))
      go_ret2
      refine ⟨by rw [HV.out]; rfl, btrans (balloc (Below.refl _ _) _) hb1⟩

/-- A thickness times the length of a rod. -/
def thk (l b t a : Int) : Int := b * l - (b - t) * a
theorem thk_bd {l b t a : Int} (hl : 100 ≤ l) (hl2 : l ≤ 3000) (hb : 1 ≤ b) (hb2 : b ≤ 300) (ht : 1 ≤ t) (ht2 : t ≤ b) (ha : 0 ≤ a) (ha2 : a ≤ l) :
    0 ≤ b * l ∧ b * l ≤ 900000 ∧ 0 ≤ (b - t) * a ∧ (b - t) * a ≤ 900000 ∧ (b - t) * a ≤ b * l := by
  have q0 := mul_bd (a := b) (b := l) (m := 300) (n := 3000) (by omega) (by omega) (by omega) (by omega)
  have q1 := mul_bd (a := b - t) (b := a) (m := b) (n := l) (by omega) (by omega) (by omega) (by omega)
  omega
/-- ThickAt. -/
def thN (l b t a : Int) : Int := if rodOk l b t && inR a 0 l then frN (thk l b t a) l else 0
def thD (l b t a : Int) : Int := if rodOk l b t && inR a 0 l then frD (thk l b t a) l else 0
def thC (l b t a : Int) : Int := if rodOk l b t then (if inR a 0 l then 0 else 2) else 1

theorem thk_s (bk o : Nat) (l b t a : Int) (w : World) (c0 : w.cell? ⟨bk, o, none⟩ = some (.int .i64 l)) (c1 : w.cell? ⟨bk, o + 1, none⟩ = some (.int .i64 b)) (c2 : w.cell? ⟨bk, o + 2, none⟩ = some (.int .i64 t))
    (hl : 100 ≤ l) (hl2 : l ≤ 3000) (hb : 1 ≤ b) (hb2 : b ≤ 300) (ht : 1 ≤ t) (ht2 : t ≤ b) (ha : 0 ≤ a) (ha2 : a ≤ l) :
    Calls Tryd.prog 48 #[.pointer (some ⟨bk, o, none⟩), .int .i64 a] w fun e w' => e = .returned (.int .i64 (thk l b t a)) ∧ ∃ m, w' = w.drewN m := by
  have q := thk_bd hl hl2 hb hb2 ht ht2 ha ha2
  obtain ⟨q0, q1, q2, q3, q4⟩ := q
  go_enter Tryd.func48, Tryd.ntmps48
  go_wp2
  go_quiet (fail)
  go_wp2
  go_ret
  exact ⟨rfl, _, rfl⟩

set_option maxHeartbeats 2000000 in
theorem thick_i (l b t a : Int) (w : World) : Calls Tryd.prog 28 #[.agg #[.int .i64 l, .int .i64 b, .int .i64 t], .int .i64 a] w fun e w' =>
    e = .returned (.tuple #[.agg #[.int .i64 (thN l b t a), .int .i64 (thD l b t a)], .int .i64 (thC l b t a)]) ∧ Below w.heap.size w w' := by
  rcases hok : rodOk l b t with _ | _
  · have HV : Hid (thN l b t a = 0 ∧ thD l b t a = 0 ∧ thC l b t a = 1) := by show _ ∧ _ ∧ _; simp [thN, thD, thC, hok]
    go_enter Tryd.func28, Tryd.ntmps28
    go_wp2_with fail
    refine (isRod_c _ _ _ _).mono ?_
    rintro e w1 ⟨rfl, hb1⟩
    have K : Blk w1 w.heap.size 27 #[.int .i64 l, .int .i64 b, .int .i64 t] := by first | exact (Blk.new w 27 #[.int .i64 l, .int .i64 b, .int .i64 t]).on hb1 | exact ((Blk.new w 27 #[.int .i64 l, .int .i64 b, .int .i64 t]).alloc _).on hb1
    have Kl := K.lt
    have Kc0 := K.cell 0
    have Kc1 := K.cell 1
    have Kc2 := K.cell 2
    simp at Kc0 Kc1 Kc2
    clear K
    rw [hok]
    have R := (Blk.new (w.alloc (.cells #[.int .i64 l, .int .i64 b, .int .i64 t] 27)) 47 #[.int .i64 0, .int .i64 0]).on hb1
    have Rl := R.lt
    have Rc0 := R.cell 0
    have Rf0 := R.frozen 0
    have Rc1 := R.cell 1
    have Rf1 := R.frozen 1
    simp at Rc0 Rc1
    have RH := Lib.hid R
    clear R
    simp at Rl Rf0 Rf1
    go_wp2
    refine bodyPost_ret (v := .tuple #[.agg #[.int .i64 (thN l b t a), .int .i64 (thD l b t a)], .int .i64 (thC l b t a)]) (by simp [results, Tryd.results28, go_sem, HV.out, Rc0, Rc1]) rfl ⟨rfl, ?_⟩
    have hbel := btrans (balloc (balloc (Below.refl _ w) _) _) hb1
    repeat (first | exact hbel | refine bset ?_ (by omega) _)
  · have hbd := rodOk_bd hok
    obtain ⟨d0, d1, d2, d3, d4, d5⟩ := hbd
    refine inR_split a 0 l (fun hl g0 g1 => ?_) (fun hl => ?_)
    · have HV : Hid (thN l b t a = frN (thk l b t a) l ∧ thD l b t a = frD (thk l b t a) l ∧ thC l b t a = 0) := by show _ ∧ _ ∧ _; simp [thN, thD, thC, hok, hl]
      have q := thk_bd d0 d1 d2 d3 d4 d5 g0 g1
      obtain ⟨q0, q1, q2, q3, q4⟩ := q
      have HT : Hid (thk l b t a = b * l - (b - t) * a) := rfl
      have t0 : 0 ≤ thk l b t a ∧ thk l b t a ≤ 900000 := by rw [HT.out]; omega
      go_enter Tryd.func28, Tryd.ntmps28
      go_wp2_with fail
      refine (isRod_c _ _ _ _).mono ?_
      rintro e w1 ⟨rfl, hb1⟩
      have K : Blk w1 w.heap.size 27 #[.int .i64 l, .int .i64 b, .int .i64 t] := by first | exact (Blk.new w 27 #[.int .i64 l, .int .i64 b, .int .i64 t]).on hb1 | exact ((Blk.new w 27 #[.int .i64 l, .int .i64 b, .int .i64 t]).alloc _).on hb1
      have Kl := K.lt
      have Kc0 := K.cell 0
      have Kc1 := K.cell 1
      have Kc2 := K.cell 2
      simp at Kc0 Kc1 Kc2
      clear K
      rw [hok]
      have R := (Blk.new (w.alloc (.cells #[.int .i64 l, .int .i64 b, .int .i64 t] 27)) 47 #[.int .i64 0, .int .i64 0]).on hb1
      have Rl := R.lt
      have Rc0 := R.cell 0
      have Rf0 := R.frozen 0
      have Rc1 := R.cell 1
      have Rf1 := R.frozen 1
      simp at Rc0 Rc1
      have RH := Lib.hid R
      clear R
      simp at Rl Rf0 Rf1
      have hbel := btrans (balloc (balloc (Below.refl _ w) _) _) hb1
      go_wp2_with (first | (go_at_call 35; refine (isRod_c _ _ _ _).mono ?_; rintro e w1 ⟨rfl, hb1⟩) | (go_at_call 44; refine (within_c _ _ _ _).mono ?_; rintro e w' ⟨rfl, rfl⟩))
      refine (fr_i _ _ _ (by omega) (by omega) (by omega) (by omega)).mono ?_
      rintro e w2 ⟨rfl, hb2⟩
      have S := RH.out.on hb2
      have Sl := S.lt
      have Sc0 := S.cell 0
      have Sc1 := S.cell 1
      have Sf0 := S.frozen 0
      have Sf1 := S.frozen 1
      simp at Sc0 Sc1 Sf0 Sf1 Sl
      clear S
      go_wp2
      refine bodyPost_ret (v := .tuple #[.agg #[.int .i64 (thN l b t a), .int .i64 (thD l b t a)], .int .i64 (thC l b t a)]) (by simp [results, Tryd.results28, go_sem, HV.out, thk, Sc0, Sc1]) rfl ⟨rfl, ?_⟩
      have hbe2 := btrans hbel hb2
      repeat (first | exact hbe2 | apply bdrewN | apply Below.drew | refine bset ?_ (by omega) _)
    · have HV : Hid (thN l b t a = 0 ∧ thD l b t a = 0 ∧ thC l b t a = 2) := by show _ ∧ _ ∧ _; simp [thN, thD, thC, hok, hl]
      go_enter Tryd.func28, Tryd.ntmps28
      go_wp2_with fail
      refine (isRod_c _ _ _ _).mono ?_
      rintro e w1 ⟨rfl, hb1⟩
      have K : Blk w1 w.heap.size 27 #[.int .i64 l, .int .i64 b, .int .i64 t] := by first | exact (Blk.new w 27 #[.int .i64 l, .int .i64 b, .int .i64 t]).on hb1 | exact ((Blk.new w 27 #[.int .i64 l, .int .i64 b, .int .i64 t]).alloc _).on hb1
      have Kl := K.lt
      have Kc0 := K.cell 0
      have Kc1 := K.cell 1
      have Kc2 := K.cell 2
      simp at Kc0 Kc1 Kc2
      clear K
      rw [hok]
      have R := (Blk.new (w.alloc (.cells #[.int .i64 l, .int .i64 b, .int .i64 t] 27)) 47 #[.int .i64 0, .int .i64 0]).on hb1
      have Rl := R.lt
      have Rc0 := R.cell 0
      have Rf0 := R.frozen 0
      have Rc1 := R.cell 1
      have Rf1 := R.frozen 1
      simp at Rc0 Rc1
      have RH := Lib.hid R
      clear R
      simp at Rl Rf0 Rf1
      go_wp2_with (first | (go_at_call 35; refine (isRod_c _ _ _ _).mono ?_; rintro e w1 ⟨rfl, hb1⟩) | (go_at_call 44; refine (within_c _ _ _ _).mono ?_; rintro e w' ⟨rfl, rfl⟩))
      refine bodyPost_ret (v := .tuple #[.agg #[.int .i64 (thN l b t a), .int .i64 (thD l b t a)], .int .i64 (thC l b t a)]) (by simp [results, Tryd.results28, go_sem, HV.out, Rc0, Rc1]) rfl ⟨rfl, ?_⟩
      have hbel := btrans (balloc (balloc (Below.refl _ w) _) _) hb1
      repeat (first | exact hbel | refine bset ?_ (by omega) _)
set_option maxHeartbeats 2000000 in
theorem thick_s (l b t a : Int) (w : World) : Calls Tryd.prog 30 #[.agg #[.int .i64 l, .int .i64 b, .int .i64 t], .int .i64 a] w fun e w' =>
    e = .returned (.tuple #[.agg #[.int .i64 (thN l b t a), .int .i64 (thD l b t a)], .int .i64 (thC l b t a)]) ∧ Below w.heap.size w w' := by
  rcases hok : rodOk l b t with _ | _
  · have HV : Hid (thN l b t a = 0 ∧ thD l b t a = 0 ∧ thC l b t a = 1) := by show _ ∧ _ ∧ _; simp [thN, thD, thC, hok]
    go_enter Tryd.func30, Tryd.ntmps30
    go_wp2_with fail
    refine (l02One_c w.heap.size 0 l b t _ (by simp) (by simp) (by simp)).mono ?_
    rintro e w1 ⟨rfl, hb1⟩
    have K : Blk w1 w.heap.size 27 #[.int .i64 l, .int .i64 b, .int .i64 t] := by first | exact (Blk.new w 27 #[.int .i64 l, .int .i64 b, .int .i64 t]).on hb1 | exact ((Blk.new w 27 #[.int .i64 l, .int .i64 b, .int .i64 t]).alloc _).on hb1
    have Kl := K.lt
    have Kc0 := K.cell 0
    have Kc1 := K.cell 1
    have Kc2 := K.cell 2
    simp at Kc0 Kc1 Kc2
    clear K
    rw [hok]
    have R := (Blk.new (w.alloc (.cells #[.int .i64 l, .int .i64 b, .int .i64 t] 27)) 47 #[.int .i64 0, .int .i64 0]).on hb1
    have Rl := R.lt
    have Rc0 := R.cell 0
    have Rf0 := R.frozen 0
    have Rc1 := R.cell 1
    have Rf1 := R.frozen 1
    simp at Rc0 Rc1
    have RH := Lib.hid R
    clear R
    simp at Rl Rf0 Rf1
    go_wp2
    refine bodyPost_ret (v := .tuple #[.agg #[.int .i64 (thN l b t a), .int .i64 (thD l b t a)], .int .i64 (thC l b t a)]) (by simp [results, Tryd.results30, go_sem, HV.out, Rc0, Rc1]) rfl ⟨rfl, ?_⟩
    have hbel := btrans (balloc (balloc (Below.refl _ w) _) _) hb1
    repeat (first | exact hbel | refine bset ?_ (by omega) _)
  · have hbd := rodOk_bd hok
    obtain ⟨d0, d1, d2, d3, d4, d5⟩ := hbd
    refine inR_split a 0 l (fun hl g0 g1 => ?_) (fun hl => ?_)
    · have HV : Hid (thN l b t a = frN (thk l b t a) l ∧ thD l b t a = frD (thk l b t a) l ∧ thC l b t a = 0) := by show _ ∧ _ ∧ _; simp [thN, thD, thC, hok, hl]
      have q := thk_bd d0 d1 d2 d3 d4 d5 g0 g1
      obtain ⟨q0, q1, q2, q3, q4⟩ := q
      have HT : Hid (thk l b t a = b * l - (b - t) * a) := rfl
      have t0 : 0 ≤ thk l b t a ∧ thk l b t a ≤ 900000 := by rw [HT.out]; omega
      go_enter Tryd.func30, Tryd.ntmps30
      go_wp2_with fail
      refine (l02One_c w.heap.size 0 l b t _ (by simp) (by simp) (by simp)).mono ?_
      rintro e w1 ⟨rfl, hb1⟩
      have K : Blk w1 w.heap.size 27 #[.int .i64 l, .int .i64 b, .int .i64 t] := by first | exact (Blk.new w 27 #[.int .i64 l, .int .i64 b, .int .i64 t]).on hb1 | exact ((Blk.new w 27 #[.int .i64 l, .int .i64 b, .int .i64 t]).alloc _).on hb1
      have Kl := K.lt
      have Kc0 := K.cell 0
      have Kc1 := K.cell 1
      have Kc2 := K.cell 2
      simp at Kc0 Kc1 Kc2
      clear K
      rw [hok]
      have R := (Blk.new (w.alloc (.cells #[.int .i64 l, .int .i64 b, .int .i64 t] 27)) 47 #[.int .i64 0, .int .i64 0]).on hb1
      have Rl := R.lt
      have Rc0 := R.cell 0
      have Rf0 := R.frozen 0
      have Rc1 := R.cell 1
      have Rf1 := R.frozen 1
      simp at Rc0 Rc1
      have RH := Lib.hid R
      clear R
      simp at Rl Rf0 Rf1
      have hbel := btrans (balloc (balloc (Below.refl _ w) _) _) hb1
      go_wp2_with (first | (go_at_call 46; refine (l00In_c _ _ _ _).mono ?_; rintro e w' ⟨rfl, rfl⟩))
      go_region_with (first | (go_at_call 48; refine (thk_s w.heap.size 0 l b t a _ (by simpa using Kc0) (by simpa using Kc1) (by simpa using Kc2) d0 d1 d2 d3 d4 d5 g0 g1).mono ?_; rintro e w3 ⟨rfl, m, rfl⟩) | (go_at_call 47; refine (fr_s _ _ _ (by omega) (by omega) (by omega) (by omega)).mono ?_; rintro e w2 ⟨rfl, hb2⟩; have S := (RH.out.drewN _).on hb2; have Sl := S.lt; have Sc0 := S.cell 0; have Sc1 := S.cell 1; have Sf0 := S.frozen 0; have Sf1 := S.frozen 1; simp at Sc0 Sc1 Sf0 Sf1 Sl; clear S))
      all_goals
        go_wp2
        refine bodyPost_ret (v := .tuple #[.agg #[.int .i64 (thN l b t a), .int .i64 (thD l b t a)], .int .i64 (thC l b t a)]) (by simp [results, Tryd.results30, go_sem, HV.out, thk, Sc0, Sc1]) rfl ⟨rfl, ?_⟩
        have hbe2 := btrans (bdrewN hbel _) hb2
        repeat (first | exact hbe2 | apply bdrewN | apply Below.drew | refine bset ?_ (by omega) _)
    · have HV : Hid (thN l b t a = 0 ∧ thD l b t a = 0 ∧ thC l b t a = 2) := by show _ ∧ _ ∧ _; simp [thN, thD, thC, hok, hl]
      go_enter Tryd.func30, Tryd.ntmps30
      go_wp2_with fail
      refine (l02One_c w.heap.size 0 l b t _ (by simp) (by simp) (by simp)).mono ?_
      rintro e w1 ⟨rfl, hb1⟩
      have K : Blk w1 w.heap.size 27 #[.int .i64 l, .int .i64 b, .int .i64 t] := by first | exact (Blk.new w 27 #[.int .i64 l, .int .i64 b, .int .i64 t]).on hb1 | exact ((Blk.new w 27 #[.int .i64 l, .int .i64 b, .int .i64 t]).alloc _).on hb1
      have Kl := K.lt
      have Kc0 := K.cell 0
      have Kc1 := K.cell 1
      have Kc2 := K.cell 2
      simp at Kc0 Kc1 Kc2
      clear K
      rw [hok]
      have R := (Blk.new (w.alloc (.cells #[.int .i64 l, .int .i64 b, .int .i64 t] 27)) 47 #[.int .i64 0, .int .i64 0]).on hb1
      have Rl := R.lt
      have Rc0 := R.cell 0
      have Rf0 := R.frozen 0
      have Rc1 := R.cell 1
      have Rf1 := R.frozen 1
      simp at Rc0 Rc1
      have RH := Lib.hid R
      clear R
      simp at Rl Rf0 Rf1
      go_wp2_with (first | (go_at_call 46; refine (l00In_c _ _ _ _).mono ?_; rintro e w' ⟨rfl, rfl⟩))
      refine bodyPost_ret (v := .tuple #[.agg #[.int .i64 (thN l b t a), .int .i64 (thD l b t a)], .int .i64 (thC l b t a)]) (by simp [results, Tryd.results30, go_sem, HV.out, Rc0, Rc1]) rfl ⟨rfl, ?_⟩
      have hbel := btrans (balloc (balloc (Below.refl _ w) _) _) hb1
      repeat (first | exact hbel | refine bset ?_ (by omega) _)

/-- What CutTip answers. -/
def ctL (l b t a : Int) : Int := if rodOk l b t && inR a 100 l then a else 0
def ctB (l b t a : Int) : Int := if rodOk l b t && inR a 100 l then b else 0
def ctT (l b t a : Int) : Int := if rodOk l b t && inR a 100 l then thk l b t a / l else 0
def ctC (l b t a : Int) : Int := if rodOk l b t then (if inR a 100 l then 0 else 2) else 1
theorem thk_ge {l b t a : Int} (hl : 100 ≤ l) (ht : 1 ≤ t) (ht2 : t ≤ b) (_ha : 0 ≤ a) (ha2 : a ≤ l) : l ≤ thk l b t a := by
  have q1 := Int.mul_le_mul_of_nonneg_left ha2 (by omega : 0 ≤ b - t)
  have q2 := Int.mul_le_mul_of_nonneg_right ht (by omega : 0 ≤ l)
  rw [Int.sub_mul] at q1
  unfold thk
  rw [Int.sub_mul] at *
  omega
theorem cut_bd {l b t a : Int} (hl : 100 ≤ l) (hl2 : l ≤ 3000) (hb : 1 ≤ b) (hb2 : b ≤ 300) (ht : 1 ≤ t) (ht2 : t ≤ b) (ha : 0 ≤ a) (ha2 : a ≤ l) :
    1 ≤ thk l b t a / l ∧ thk l b t a / l ≤ 900000 := by
  have h1 := thk_ge hl ht ht2 ha ha2
  have h2 := thk_bd hl hl2 hb hb2 ht ht2 ha ha2
  have h3 : thk l b t a ≤ 900000 := by unfold thk; omega
  refine ⟨(Int.le_ediv_iff_mul_le (by omega)).2 (by omega), Int.le_trans (Int.ediv_le_self _ (by omega)) h3⟩

set_option maxHeartbeats 2000000 in
theorem cut_i (l b t a : Int) (w : World) : Calls Tryd.prog 29 #[.agg #[.int .i64 l, .int .i64 b, .int .i64 t], .int .i64 a] w fun e w' =>
    e = .returned (.tuple #[.agg #[.int .i64 (ctL l b t a), .int .i64 (ctB l b t a), .int .i64 (ctT l b t a)], .int .i64 (ctC l b t a)]) ∧ Below w.heap.size w w' := by
  rcases hok : rodOk l b t with _ | _
  · have HV : Hid (ctL l b t a = 0 ∧ ctB l b t a = 0 ∧ ctT l b t a = 0 ∧ ctC l b t a = 1) := by show _ ∧ _ ∧ _; simp [ctL, ctB, ctT, ctC, hok]
    go_enter Tryd.func29, Tryd.ntmps29
    go_wp2_with fail
    refine (isRod_c _ _ _ _).mono ?_
    rintro e w1 ⟨rfl, hb1⟩
    have K : Blk w1 w.heap.size 27 #[.int .i64 l, .int .i64 b, .int .i64 t] := by first | exact (Blk.new w 27 #[.int .i64 l, .int .i64 b, .int .i64 t]).on hb1 | exact ((Blk.new w 27 #[.int .i64 l, .int .i64 b, .int .i64 t]).alloc _).on hb1
    have Kl := K.lt
    have Kc0 := K.cell 0
    have Kc1 := K.cell 1
    have Kc2 := K.cell 2
    simp at Kc0 Kc1 Kc2
    clear K
    rw [hok]
    have R := (Blk.new (w.alloc (.cells #[.int .i64 l, .int .i64 b, .int .i64 t] 27)) 27 #[.int .i64 0, .int .i64 0, .int .i64 0]).on hb1
    have Rl := R.lt
    have Rc0 := R.cell 0
    have Rf0 := R.frozen 0
    have Rc1 := R.cell 1
    have Rf1 := R.frozen 1
    have Rc2 := R.cell 2
    have Rf2 := R.frozen 2
    simp at Rc0 Rc1 Rc2
    have RH := Lib.hid R
    clear R
    simp at Rl Rf0 Rf1 Rf2
    go_wp2
    refine bodyPost_ret (v := .tuple #[.agg #[.int .i64 (ctL l b t a), .int .i64 (ctB l b t a), .int .i64 (ctT l b t a)], .int .i64 (ctC l b t a)]) (by simp [results, Tryd.results29, go_sem, HV.out, Rc0, Rc1, Rc2]) rfl ⟨rfl, ?_⟩
    have hbel := btrans (balloc (balloc (Below.refl _ w) _) _) hb1
    repeat (first | exact hbel | refine bset ?_ (by omega) _)
  · have hbd := rodOk_bd hok
    obtain ⟨d0, d1, d2, d3, d4, d5⟩ := hbd
    refine inR_split a 100 l (fun hl g0 g1 => ?_) (fun hl => ?_)
    · have HV : Hid (ctL l b t a = a ∧ ctB l b t a = b ∧ ctT l b t a = thk l b t a / l ∧ ctC l b t a = 0) := by show _ ∧ _ ∧ _; simp [ctL, ctB, ctT, ctC, hok, hl]
      have q := thk_bd d0 d1 d2 d3 d4 d5 (by omega : 0 ≤ a) g1
      obtain ⟨q0, q1, q2, q3, q4⟩ := q
      have HT : Hid (thk l b t a = b * l - (b - t) * a) := rfl
      have t0 : 0 ≤ thk l b t a ∧ thk l b t a ≤ 900000 := by rw [HT.out]; omega
      have t1 := cut_bd d0 d1 d2 d3 d4 d5 (by omega : 0 ≤ a) g1
      have t2 : 1 ≤ (b * l - (b - t) * a) / l ∧ (b * l - (b - t) * a) / l ≤ 900000 := t1
      have hz : (l == 0) = false := by rw [beq_eq_false_iff_ne]; omega
      go_enter Tryd.func29, Tryd.ntmps29
      go_wp2_with fail
      refine (isRod_c _ _ _ _).mono ?_
      rintro e w1 ⟨rfl, hb1⟩
      have K : Blk w1 w.heap.size 27 #[.int .i64 l, .int .i64 b, .int .i64 t] := by first | exact (Blk.new w 27 #[.int .i64 l, .int .i64 b, .int .i64 t]).on hb1 | exact ((Blk.new w 27 #[.int .i64 l, .int .i64 b, .int .i64 t]).alloc _).on hb1
      have Kl := K.lt
      have Kc0 := K.cell 0
      have Kc1 := K.cell 1
      have Kc2 := K.cell 2
      simp at Kc0 Kc1 Kc2
      clear K
      rw [hok]
      have R := (Blk.new (w.alloc (.cells #[.int .i64 l, .int .i64 b, .int .i64 t] 27)) 27 #[.int .i64 0, .int .i64 0, .int .i64 0]).on hb1
      have Rl := R.lt
      have Rc0 := R.cell 0
      have Rf0 := R.frozen 0
      have Rc1 := R.cell 1
      have Rf1 := R.frozen 1
      have Rc2 := R.cell 2
      have Rf2 := R.frozen 2
      simp at Rc0 Rc1 Rc2
      have RH := Lib.hid R
      clear R
      simp at Rl Rf0 Rf1 Rf2
      have hbel := btrans (balloc (balloc (Below.refl _ w) _) _) hb1
      go_wp2_with (first | (go_at_call 35; refine (isRod_c _ _ _ _).mono ?_; rintro e w1 ⟨rfl, hb1⟩) | (go_at_call 44; refine (within_c _ _ _ _).mono ?_; rintro e w' ⟨rfl, rfl⟩))
      case inl =>
        refine bodyPost_ret (v := .tuple #[.agg #[.int .i64 (ctL l b t a), .int .i64 (ctB l b t a), .int .i64 (ctT l b t a)], .int .i64 (ctC l b t a)]) (by simp [results, Tryd.results29, go_sem, HV.out, thk, Rc0, Rc1, Rc2]) rfl ⟨rfl, ?_⟩
        repeat (first | exact hbel | apply bdrewN | apply Below.drew | refine bset ?_ (by omega) _)
      case inr =>
        have e1 : (b * l - (b - t) * a) / l = 1 := by omega
        refine bodyPost_ret (v := .tuple #[.agg #[.int .i64 (ctL l b t a), .int .i64 (ctB l b t a), .int .i64 (ctT l b t a)], .int .i64 (ctC l b t a)]) (by simp [results, Tryd.results29, go_sem, HV.out, thk, e1, Rc0, Rc1, Rc2]) rfl ⟨rfl, ?_⟩
        repeat (first | exact hbel | apply bdrewN | apply Below.drew | refine bset ?_ (by omega) _)
    · have HV : Hid (ctL l b t a = 0 ∧ ctB l b t a = 0 ∧ ctT l b t a = 0 ∧ ctC l b t a = 2) := by show _ ∧ _ ∧ _; simp [ctL, ctB, ctT, ctC, hok, hl]
      go_enter Tryd.func29, Tryd.ntmps29
      go_wp2_with fail
      refine (isRod_c _ _ _ _).mono ?_
      rintro e w1 ⟨rfl, hb1⟩
      have K : Blk w1 w.heap.size 27 #[.int .i64 l, .int .i64 b, .int .i64 t] := by first | exact (Blk.new w 27 #[.int .i64 l, .int .i64 b, .int .i64 t]).on hb1 | exact ((Blk.new w 27 #[.int .i64 l, .int .i64 b, .int .i64 t]).alloc _).on hb1
      have Kl := K.lt
      have Kc0 := K.cell 0
      have Kc1 := K.cell 1
      have Kc2 := K.cell 2
      simp at Kc0 Kc1 Kc2
      clear K
      rw [hok]
      have R := (Blk.new (w.alloc (.cells #[.int .i64 l, .int .i64 b, .int .i64 t] 27)) 27 #[.int .i64 0, .int .i64 0, .int .i64 0]).on hb1
      have Rl := R.lt
      have Rc0 := R.cell 0
      have Rf0 := R.frozen 0
      have Rc1 := R.cell 1
      have Rf1 := R.frozen 1
      have Rc2 := R.cell 2
      have Rf2 := R.frozen 2
      simp at Rc0 Rc1 Rc2
      have RH := Lib.hid R
      clear R
      simp at Rl Rf0 Rf1 Rf2
      go_wp2_with (first | (go_at_call 35; refine (isRod_c _ _ _ _).mono ?_; rintro e w1 ⟨rfl, hb1⟩) | (go_at_call 44; refine (within_c _ _ _ _).mono ?_; rintro e w' ⟨rfl, rfl⟩))
      refine bodyPost_ret (v := .tuple #[.agg #[.int .i64 (ctL l b t a), .int .i64 (ctB l b t a), .int .i64 (ctT l b t a)], .int .i64 (ctC l b t a)]) (by simp [results, Tryd.results29, go_sem, HV.out, Rc0, Rc1, Rc2]) rfl ⟨rfl, ?_⟩
      have hbel := btrans (balloc (balloc (Below.refl _ w) _) _) hb1
      repeat (first | exact hbel | refine bset ?_ (by omega) _)