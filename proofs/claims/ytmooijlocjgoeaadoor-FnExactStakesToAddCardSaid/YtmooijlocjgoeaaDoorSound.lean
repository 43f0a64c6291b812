/-
  Loose stakes, stacks, sound weaves, stakes to add: what each function answers, by the program and by the reference.
  No conditions.
-/
import Derived.Test.YtmooijlocjgoeaaDoorWeave
namespace Go.Proofs.YtmooijlocjgoeaaDoor
open Go.ChangeShapes Go.WideShapes Go.ChangeAt Go.RowKit Go.Deep

theorem Own.len {w : World} {base : Nat} {v : Value} {zs : List Int} (h : Own w base v zs) : ∃ A c q, v = .slice A q c ∧ zs.length = q := by
  rcases h.2 with ⟨rfl, h0⟩ | ⟨g, cap, cur, rfl, h1⟩
  · exact ⟨none, 0, 0, rfl, h0⟩
  · exact ⟨_, cap, _, rfl, rfl⟩
theorem selTo_nil (p : Nat → Bool) : ∀ n : Nat, (selTo p n).length = 0 → ∀ k, k < n → p k = false
  | n + 1, h, k, hk => by
    rcases hp : p n with _ | _
    · rw [selTo_no hp] at h
      by_cases he : k = n
      · subst he; exact hp
      · exact selTo_nil p n h k (by omega)
    · rw [selTo_yes hp] at h; simp at h
/-- LooseStakes. -/
def lsV (s : ByteArray) (n : Int) : List Int := if wOk s n then lsL s n.toNat else []
theorem lsV_bd (s : ByteArray) (n : Int) : (lsV s n).length ≤ 1048576 ∧ ∀ z ∈ lsV s n, -9223372036854775808 ≤ z ∧ z ≤ 9223372036854775807 := by
  unfold lsV; split
  · rename_i h
    unfold wOk at h
    rw [Bool.and_eq_true] at h
    have := inR_true h.2
    exact ⟨by have := selTo_len (lsP s n.toNat) n.toNat; unfold lsL; omega, fun z hz => by have := selTo_mem _ _ _ hz; omega⟩
  · exact ⟨by simp, by simp⟩
theorem loose_s (s : ByteArray) (n : Int) (hs : s.size ≤ maxLen) (w : World) : Calls Tryd.prog 21 #[.string s, .int .i64 n] w fun e w' => ∃ v, e = .returned (.tuple #[v, .int .i64 (codeV s n)]) ∧ Own w' w.heap.size v (lsV s n) ∧ Below w.heap.size w w' := by
  refine code_cases s n (fun hc ho => ?_) (fun hc ho => ?_) (fun hc ho g1 g2 g3 m hm m1 m2 => ?_)
  · have HC := Lib.hid hc
    have HV : Hid (lsV s n = []) := by show _ = _; simp [lsV, ho]
    clear hc ho
    go_enter Tryd.func21, Tryd.ntmps21
    go_wp2_with fail
    refine (l06Code_c _ _ hs _).mono ?_
    rintro e w1 ⟨rfl, rfl⟩
    rw [HC.out]
    go_wp2
    go_ret2
    exact ⟨_, by rw [HC.out]; rfl, by rw [HV.out]; exact Own.nil _ _, (Below.refl _ _)⟩
  · have HC := Lib.hid hc
    have HV : Hid (lsV s n = []) := by show _ = _; simp [lsV, ho]
    clear hc ho
    go_enter Tryd.func21, Tryd.ntmps21
    go_wp2_with fail
    refine (l06Code_c _ _ hs _).mono ?_
    rintro e w1 ⟨rfl, rfl⟩
    rw [HC.out]
    go_wp2
    go_ret2
    exact ⟨_, by rw [HC.out]; rfl, by rw [HV.out]; exact Own.nil _ _, (Below.refl _ _)⟩
  · subst hm
    have HC := Lib.hid hc
    have HG := Lib.hid g3
    have HV : Hid (lsV s m = lsL s m) := by show _ = _; simp [lsV, ho]
    clear hc ho g3
    go_enter Tryd.func21, Tryd.ntmps21
    go_wp2_with fail
    refine (l06Code_c _ _ hs _).mono ?_
    rintro e w1 ⟨rfl, rfl⟩
    rw [HC.out]
    go_wp2_with fail
    first | refine (l06Loose_c _ m _ g1 g2 (by omega) HG.out).mono ?_ | refine (looseStakes_c _ m _ g1 g2 (by omega)).mono ?_
    rintro e w2 ⟨v, rfl, o2, b2⟩
    go_wp2
    go_ret2
    exact ⟨_, by rw [HC.out]; rfl, by rw [HV.out]; exact o2.base_le (by have := (b2).size; first | omega | exact Nat.le_refl _ | exact b1.size), b2⟩
theorem loose_i (s : ByteArray) (n : Int) (hs : s.size ≤ maxLen) (w : World) : Calls Tryd.prog 22 #[.string s, .int .i64 n] w fun e w' => ∃ v, e = .returned (.tuple #[v, .int .i64 (codeV s n)]) ∧ Own w' w.heap.size v (lsV s n) ∧ Below w.heap.size w w' := by
  refine code_cases s n (fun hc ho => ?_) (fun hc ho => ?_) (fun hc ho g1 g2 g3 m hm m1 m2 => ?_)
  · have HC := Lib.hid hc
    have HV : Hid (lsV s n = []) := by show _ = _; simp [lsV, ho]
    clear hc ho
    go_enter Tryd.func22, Tryd.ntmps22
    go_wp2_with fail
    refine (strokeCode_c _ _ hs _).mono ?_
    rintro e w1 ⟨rfl, b1⟩
    rw [HC.out]
    go_wp2
    go_ret2
    exact ⟨_, by rw [HC.out]; rfl, by rw [HV.out]; exact Own.nil _ _, b1⟩
  · have HC := Lib.hid hc
    have HV : Hid (lsV s n = []) := by show _ = _; simp [lsV, ho]
    clear hc ho
    go_enter Tryd.func22, Tryd.ntmps22
    go_wp2_with fail
    refine (strokeCode_c _ _ hs _).mono ?_
    rintro e w1 ⟨rfl, b1⟩
    rw [HC.out]
    go_wp2
    go_ret2
    exact ⟨_, by rw [HC.out]; rfl, by rw [HV.out]; exact Own.nil _ _, b1⟩
  · subst hm
    have HC := Lib.hid hc
    have HG := Lib.hid g3
    have HV : Hid (lsV s m = lsL s m) := by show _ = _; simp [lsV, ho]
    clear hc ho g3
    go_enter Tryd.func22, Tryd.ntmps22
    go_wp2_with fail
    refine (strokeCode_c _ _ hs _).mono ?_
    rintro e w1 ⟨rfl, b1⟩
    rw [HC.out]
    go_wp2_with fail
    first | refine (l06Loose_c _ m _ g1 g2 (by omega) HG.out).mono ?_ | refine (looseStakes_c _ m _ g1 g2 (by omega)).mono ?_
    rintro e w2 ⟨v, rfl, o2, b2⟩
    go_wp2
    go_ret2
    exact ⟨_, by rw [HC.out]; rfl, by rw [HV.out]; exact o2.base_le (by have := ((btrans b1 b2)).size; first | omega | exact Nat.le_refl _ | exact b1.size), (btrans b1 b2)⟩
/-- The greatest. -/
def maxTo (p : Nat → Nat) : Nat → Nat
  | 0 => 0
  | k + 1 => max (maxTo p k) (p k)
/-- LongestStack. -/
def skV (s : ByteArray) (n : Int) : Int × Int := if wOk s n then (if (lsL s n.toNat).length = 0 then (((maxTo (fun k => runZ (stB s n.toNat k)) n.toNat : Nat) : Int), 0) else (0, 10)) else (0, codeV s n)
set_option maxHeartbeats 2000000 in
theorem stack_s (s : ByteArray) (n : Int) (hs : s.size ≤ maxLen) (w : World) : Calls Tryd.prog 19 #[.string s, .int .i64 n] w fun e w' => e = .returned (.tuple #[.int .i64 (skV s n).1, .int .i64 (skV s n).2]) ∧ Below w.heap.size w w' := by
  refine code_cases s n (fun hc ho => ?_) (fun hc ho => ?_) (fun hc ho g1 g2 g3 m hm m1 m2 => ?_)
  · have HC := Lib.hid hc
    have HV : Hid (skV s n = (0, 1)) := by show _ = _; simp [skV, ho, hc]
    clear hc ho
    go_enter Tryd.func19, Tryd.ntmps19
    go_wp2_with fail
    refine (l06Code_c _ _ hs _).mono ?_
    rintro e w1 ⟨rfl, rfl⟩
    rw [HC.out]
    go_wp2
    go_ret2
    exact ⟨by rw [HV.out]; rfl, Below.refl _ _⟩
  · have HC := Lib.hid hc
    have HV : Hid (skV s n = (0, 2)) := by show _ = _; simp [skV, ho, hc]
    clear hc ho
    go_enter Tryd.func19, Tryd.ntmps19
    go_wp2_with fail
    refine (l06Code_c _ _ hs _).mono ?_
    rintro e w1 ⟨rfl, rfl⟩
    rw [HC.out]
    go_wp2
    go_ret2
    exact ⟨by rw [HV.out]; rfl, Below.refl _ _⟩
  · subst hm
    have HC := Lib.hid hc
    have HG := Lib.hid g3
    have hx : skV s m = if (lsL s m).length = 0 then (((maxTo (fun k => runZ (stB s m k)) m : Nat) : Int), 0) else (0, 10) := by simp [skV, ho]
    have HX := Lib.hid hx
    clear hc ho g3 hx
    go_enter Tryd.func19, Tryd.ntmps19
    go_wp2_with fail
    refine (l06Code_c _ _ hs _).mono ?_
    rintro e w1 ⟨rfl, rfl⟩
    rw [HC.out]
    go_wp2_with fail
    refine (l06Loose_c _ m _ g1 g2 (by omega) HG.out).mono ?_
    rintro e w2 ⟨v, rfl, o2, b2⟩
    obtain ⟨A, c, q, rfl, hq⟩ := o2.len
    clear o2
    by_cases h0 : q = 0
    · subst h0
      have HV := Lib.hid (HX.out.trans (if_pos hq))
      clear hq
      go_wp2_with fail
      go_loopw [7, 8] (fun a i wr => ∃ k : Nat, k ≤ m ∧ i = .int .i64 k ∧ a = .int .i64 (maxTo (fun k => runZ (stB s m k)) k : Nat) ∧ Below w.heap.size w wr) (fun _ i _ => m - (intOf i).toNat)
      case atStart => exact ⟨0, Nat.zero_le _, rfl, rfl, b2⟩
      case round =>
        obtain ⟨k, hk, rfl, rfl, hbel⟩ := hrel
        by_cases hlt : k < m
        · obtain ⟨q1, q2, q3⟩ := stB_ok s m k g1 HG.out
          clear q3
          have HM : Hid (maxTo (fun k => runZ (stB s m k)) (k + 1) = max (maxTo (fun k => runZ (stB s m k)) k) (runZ (stB s m k))) := rfl
          go_wp2_with fail
          refine (l06Stack_c s m k _ g1 g2 (by omega) (by omega)).mono ?_
          rintro e w3 ⟨rfl, b3⟩
          go_wp2_with fail
          refine (l06Run_c _ _ q1 (by omega)).mono ?_
          rintro e w4 ⟨rfl, b4⟩
          go_wp2_with fail
          refine (l00Max_any _ _ _).mono ?_
          rintro e w5 ⟨rfl, rfl⟩
          go_wp2_with fail
          go_roundw
          case rel => exact ⟨k + 1, by omega, by go_num, by rw [HM.out]; unfold runZ; go_num, btrans hbel (btrans b3 b4)⟩
          case measure => simp [intOf]; omega
        · obtain rfl : k = m := by omega
          go_wp2
          go_ret2
          exact ⟨by rw [HV.out]; rfl, hbel⟩
    · have HV := Lib.hid (HX.out.trans (if_neg (by omega)))
      have h1 : 0 < q := by omega
      have h2 : decide (0 < q) = true := by simpa using h1
      clear hq h0
      go_wp2
      go_ret2
      exact ⟨by rw [HV.out]; rfl, b2⟩
set_option maxHeartbeats 2000000 in
theorem stack_i (s : ByteArray) (n : Int) (hs : s.size ≤ maxLen) (w : World) : Calls Tryd.prog 20 #[.string s, .int .i64 n] w fun e w' => e = .returned (.tuple #[.int .i64 (skV s n).1, .int .i64 (skV s n).2]) ∧ Below w.heap.size w w' := by
  refine code_cases s n (fun hc ho => ?_) (fun hc ho => ?_) (fun hc ho g1 g2 g3 m hm m1 m2 => ?_)
  · have HC := Lib.hid hc
    have HV : Hid (skV s n = (0, 1)) := by show _ = _; simp [skV, ho, hc]
    clear hc ho
    go_enter Tryd.func20, Tryd.ntmps20
    go_wp2_with fail
    refine (strokeCode_c _ _ hs _).mono ?_
    rintro e w1 ⟨rfl, b1⟩
    rw [HC.out]
    go_wp2
    go_ret2
    exact ⟨by rw [HV.out]; rfl, b1⟩
  · have HC := Lib.hid hc
    have HV : Hid (skV s n = (0, 2)) := by show _ = _; simp [skV, ho, hc]
    clear hc ho
    go_enter Tryd.func20, Tryd.ntmps20
    go_wp2_with fail
    refine (strokeCode_c _ _ hs _).mono ?_
    rintro e w1 ⟨rfl, b1⟩
    rw [HC.out]
    go_wp2
    go_ret2
    exact ⟨by rw [HV.out]; rfl, b1⟩
  · subst hm
    have HC := Lib.hid hc
    clear g3
    have ha := agN_bd s.size m g1
    have hx : skV s m = if (lsL s m).length = 0 then (((maxTo (fun k => runZ (stB s m k)) m : Nat) : Int), 0) else (0, 10) := by simp [skV, ho]
    have HX := Lib.hid hx
    clear hc ho hx
    go_enter Tryd.func20, Tryd.ntmps20
    go_wp2_with fail
    refine (strokeCode_c _ _ hs _).mono ?_
    rintro e w1 ⟨rfl, b1⟩
    rw [HC.out]
    go_wp2_with fail
    refine (looseStakes_c _ m _ g1 g2 (by omega)).mono ?_
    rintro e w2 ⟨v, rfl, o2, b2⟩
    obtain ⟨A, c, q, rfl, hq⟩ := o2.len
    clear o2
    by_cases h0 : q = 0
    · subst h0
      have HV := Lib.hid (HX.out.trans (if_pos hq))
      have HB := Lib.hid (selTo_nil (lsP s m) m hq)
      clear hq
      go_wp2_with fail
      go_loopw [7, 21] (fun a i wr => ∃ k : Nat, k ≤ m ∧ i = .int .i64 k ∧ a = .int .i64 (maxTo (fun k => runZ (stB s m k)) k : Nat) ∧ Below w.heap.size w wr) (fun _ i _ => m - (intOf i).toNat)
      case atStart => exact ⟨0, Nat.zero_le _, rfl, rfl, btrans b1 b2⟩
      case round =>
        obtain ⟨k, hk, rfl, rfl, hbel⟩ := hrel
        by_cases hlt : k < m
        · have hb : bothB (stB s m k) = true := by
            have := HB.out k hlt
            unfold lsP at this
            simpa using this
          have HR := Lib.hid (run_both _ hb).1
          clear hb
          have HM : Hid (maxTo (fun k => runZ (stB s m k)) (k + 1) = max (maxTo (fun k => runZ (stB s m k)) k) (runZ (stB s m k))) := rfl
          go_wp2_with fail
          refine (beginsAgain_c s m _ g1 g2 (by omega)).mono ?_
          rintro e w3 ⟨rfl, b3⟩
          go_wp2_with fail
          refine (along_c s k m _ _ g1 (by omega) (by omega) (by omega) (by omega) (by omega) (by omega)).mono ?_
          rintro e w4 ⟨rfl, b4⟩
          have hsz : (alB s k m (agN s.size m)).size = agN s.size m := alB_size _ _ _ _
          have HSZ := Lib.hid hsz
          clear hsz
          go_wp2_with fail
          refine (longestRun_c _ _ (by rw [HSZ.out]; omega) (by rw [HSZ.out]; omega)).mono ?_
          rintro e w5 ⟨rfl, b5⟩
          have HR2 : Hid (mostI (dB (alB s k m (agN s.size m))) (alB s k m (agN s.size m)).size (2 * (alB s k m (agN s.size m)).size) = runZ (stB s m k)) := HR
          rw [HR2.out]
          go_wp2_with fail
          go_roundw
          case rel => exact ⟨k + 1, by omega, by go_num, by rw [HM.out]; go_num, btrans hbel (btrans b3 (btrans b4 b5))⟩
          case measure => simp [intOf]; omega
        · obtain rfl : k = m := by omega
          go_wp2
          go_ret2
          exact ⟨by rw [HV.out]; rfl, hbel⟩
    · have HV := Lib.hid (HX.out.trans (if_neg (by omega)))
      have h1 : 0 < q := by omega
      have h2 : decide (0 < q) = true := by simpa using h1
      clear hq h0
      go_wp2
      go_ret2
      exact ⟨by rw [HV.out]; rfl, btrans b1 b2⟩
/-- A weave is sound. -/
def sdB (s : ByteArray) (m : Nat) (fl : Int) : Bool := bothB s && decide (((runZ s : Nat) : Int) ≤ fl) && decide ((lsL s m).length = 0)
set_option maxHeartbeats 2000000 in
theorem sound_s (s : ByteArray) (m : Nat) (fl : Int) (w : World) (g1 : 1 ≤ s.size) (g2 : s.size ≤ 12) (hm : m ≤ 100) (g3 : ∀ c ∈ s.data.toList, okFB c = true) :
    Calls Tryd.prog 49 #[.string s, .int .i64 m, .int .i64 fl] w fun e w' => e = .returned (.bool (sdB s m fl)) ∧ Below w.heap.size w w' := by
  have HG := Lib.hid g3
  clear g3
  rcases hb : bothB s with _ | _
  · have HR := Lib.hid (run_one s g1 HG.out hb)
    have HV : Hid (sdB s m fl = false) := by show _ = _; simp [sdB, hb]
    unfold runZ at HR
    clear hb
    go_enter Tryd.func49, Tryd.ntmps49
    go_wp2_with fail
    refine (l06Run_c _ _ g1 (by omega)).mono ?_
    rintro e w1 ⟨rfl, b1⟩
    rw [HR.out]
    go_wp2
    go_ret
    exact ⟨ret_bool HV.out.symm, b1⟩
  · have hr := (run_both s hb).2
    have hx : sdB s m fl = (decide (((runZ s : Nat) : Int) ≤ fl) && decide ((lsL s m).length = 0)) := by simp [sdB, hb]
    have HX := Lib.hid hx
    clear hb hx
    by_cases hf : ((runZ s : Nat) : Int) ≤ fl
    · have hx2 := HX.out
      rw [decide_eq_true hf, Bool.true_and] at hx2
      have HV := Lib.hid hx2
      clear hx2 HX
      unfold runZ at hr hf
      have hr' : (0 : Int) < (mostS (dB s) (2 * s.size) : Nat) := by omega
      have hr2 : 0 < mostS (dB s) (2 * s.size) := by omega
      go_enter Tryd.func49, Tryd.ntmps49
      go_wp2_with fail
      refine (l06Run_c _ _ g1 (by omega)).mono ?_
      rintro e w1 ⟨rfl, b1⟩
      go_wp2_with fail
      refine (l06Loose_c _ m _ g1 g2 (by omega) HG.out).mono ?_
      rintro e w2 ⟨v, rfl, o2, b2⟩
      obtain ⟨A, c, q, rfl, hq⟩ := o2.len
      clear o2
      have HQ := Lib.hid hq
      clear hq
      rcases hz : ((q : Int) == 0) with _ | _
      all_goals
        have HZ := Lib.hid hz
        go_wp2
        go_ret
        refine ⟨ret_bool ?_, btrans b1 b2⟩
        rw [HV.out, HQ.out]
        have := HZ.out
        first | (rw [beq_iff_eq] at this; simp; omega) | (rw [beq_eq_false_iff_ne] at this; simp; omega)
    · have HV : Hid (sdB s m fl = false) := by show _ = _; rw [HX.out, decide_eq_false hf]; rfl
      unfold runZ at hr hf
      have hr' : (0 : Int) < (mostS (dB s) (2 * s.size) : Nat) := by omega
      have hr2 : 0 < mostS (dB s) (2 * s.size) := by omega
      have hf2 : fl < (mostS (dB s) (2 * s.size) : Nat) := by omega
      go_enter Tryd.func49, Tryd.ntmps49
      go_wp2_with fail
      refine (l06Run_c _ _ g1 (by omega)).mono ?_
      rintro e w1 ⟨rfl, b1⟩
      go_wp2
      go_ret
      exact ⟨ret_bool HV.out.symm, b1⟩
set_option maxHeartbeats 2000000 in
theorem sound_i (s : ByteArray) (m : Nat) (fl : Int) (w : World) (g1 : 1 ≤ s.size) (g2 : s.size ≤ 12) (hm : m ≤ 100) :
    Calls Tryd.prog 51 #[.string s, .int .i64 m, .int .i64 fl] w fun e w' => e = .returned (.bool (sdB s m fl)) ∧ Below w.heap.size w w' := by
  rcases hb : bothB s with _ | _
  · have HV : Hid (sdB s m fl = false) := by show _ = _; simp [sdB, hb]
    go_enter Tryd.func51, Tryd.ntmps51
    go_wp2_with fail
    refine (bothKinds_c _ _).mono ?_
    rintro e w1 ⟨rfl, rfl⟩
    rw [hb]
    clear hb
    go_wp2
    go_ret
    exact ⟨ret_bool HV.out.symm, Below.refl _ _⟩
  · have HR := Lib.hid (run_both s hb).1
    have hx : sdB s m fl = (decide (((runZ s : Nat) : Int) ≤ fl) && decide ((lsL s m).length = 0)) := by simp [sdB, hb]
    have HX := Lib.hid hx
    clear hx
    by_cases hf : ((runZ s : Nat) : Int) ≤ fl
    · have hx2 := HX.out
      rw [decide_eq_true hf, Bool.true_and] at hx2
      have HV := Lib.hid hx2
      clear hx2 HX
      go_enter Tryd.func51, Tryd.ntmps51
      go_wp2_with fail
      refine (bothKinds_c _ _).mono ?_
      rintro e w1 ⟨rfl, rfl⟩
      rw [hb]
      clear hb
      go_wp2_with fail
      refine (longestRun_c _ _ g1 (by omega)).mono ?_
      rintro e w1 ⟨rfl, b1⟩
      rw [HR.out]
      go_wp2_with fail
      refine (looseStakes_c _ m _ g1 g2 (by omega)).mono ?_
      rintro e w2 ⟨v, rfl, o2, b2⟩
      obtain ⟨A, c, q, rfl, hq⟩ := o2.len
      clear o2
      have HQ := Lib.hid hq
      clear hq
      rcases hz : ((q : Int) == 0) with _ | _
      all_goals
        have HZ := Lib.hid hz
        go_wp2
        go_ret
        refine ⟨ret_bool ?_, btrans b1 b2⟩
        rw [HV.out, HQ.out]
        have := HZ.out
        first | (rw [beq_iff_eq] at this; simp; omega) | (rw [beq_eq_false_iff_ne] at this; simp; omega)
    · have HV : Hid (sdB s m fl = false) := by show _ = _; rw [HX.out, decide_eq_false hf]; rfl
      have hf2 : fl < (runZ s : Nat) := by omega
      go_enter Tryd.func51, Tryd.ntmps51
      go_wp2_with fail
      refine (bothKinds_c _ _).mono ?_
      rintro e w1 ⟨rfl, rfl⟩
      rw [hb]
      clear hb
      go_wp2_with fail
      refine (longestRun_c _ _ g1 (by omega)).mono ?_
      rintro e w1 ⟨rfl, b1⟩
      rw [HR.out]
      go_wp2
      go_ret
      exact ⟨ret_bool HV.out.symm, b1⟩
end Go.Proofs.YtmooijlocjgoeaaDoor
