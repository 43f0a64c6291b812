/-
  Weaves: what each function answers, by the program and by the reference.
  No conditions.
-/
import Derived.Test.YtmooijlocjgoeaaDoorLoose
namespace Go.Proofs.YtmooijlocjgoeaaDoor
open Go.ChangeShapes Go.WideShapes Go.ChangeAt Go.RowKit Go.Deep

/-- A stroke and a number of stakes. -/
def wOk (s : ByteArray) (n : Int) : Bool := vstB s && inR n 3 60
theorem code_cases {p : Prop} (s : ByteArray) (n : Int) (h1 : codeV s n = 1 → wOk s n = false → p) (h2 : codeV s n = 2 → wOk s n = false → p)
    (h0 : codeV s n = 0 → wOk s n = true → 1 ≤ s.size → s.size ≤ 12 → (∀ c ∈ s.data.toList, okFB c = true) → ∀ m : Nat, n = m → 3 ≤ m → m ≤ 60 → p) : p := by
  rcases hv : vstB s with _ | _
  · exact h1 (by simp [codeV, hv]) (by simp [wOk, hv])
  · rcases hn : inR n 3 60 with _ | _
    · exact h2 (by simp [codeV, hv, hn]) (by simp [wOk, hv, hn])
    · obtain ⟨a, b, c⟩ := vstB_true hv
      have := inR_true hn
      exact h0 (by simp [codeV, hv, hn]) (by simp [wOk, hv, hn]) a b c n.toNat (by omega) (by omega) (by omega)
/-- BeginsAgain. -/
def agV (s : ByteArray) (n : Int) : Int := if wOk s n then (agN s.size n.toNat : Nat) else 0
theorem again_s (s : ByteArray) (n : Int) (hs : s.size ≤ maxLen) (w : World) : Calls Tryd.prog 15 #[.string s, .int .i64 n] w fun e w' => e = .returned (.tuple #[.int .i64 (agV s n), .int .i64 (codeV s n)]) ∧ Below w.heap.size w w' := by
  refine code_cases s n (fun hc ho => ?_) (fun hc ho => ?_) (fun hc ho g1 g2 _ m hm m1 m2 => ?_)
  · have HC := Lib.hid hc
    have HV : Hid (agV s n = 0) := by show _ = _; simp [agV, ho]
    clear hc ho
    go_enter Tryd.func15, Tryd.ntmps15
    go_wp2_with fail
    refine (l06Code_c _ _ hs _).mono ?_
    rintro e w1 ⟨rfl, rfl⟩
    rw [HC.out]
    go_wp2
    go_ret2
    exact ⟨by rw [HV.out, HC.out]; rfl, (Below.refl _ _)⟩
  · have HC := Lib.hid hc
    have HV : Hid (agV s n = 0) := by show _ = _; simp [agV, ho]
    clear hc ho
    go_enter Tryd.func15, Tryd.ntmps15
    go_wp2_with fail
    refine (l06Code_c _ _ hs _).mono ?_
    rintro e w1 ⟨rfl, rfl⟩
    rw [HC.out]
    go_wp2
    go_ret2
    exact ⟨by rw [HV.out, HC.out]; rfl, (Below.refl _ _)⟩
  · subst hm
    have HC := Lib.hid hc
    have HV : Hid (agV s m = (agN s.size m : Nat)) := by show _ = _; simp [agV, ho]
    clear hc ho
    go_enter Tryd.func15, Tryd.ntmps15
    go_wp2_with fail
    refine (l06Code_c _ _ hs _).mono ?_
    rintro e w1 ⟨rfl, rfl⟩
    rw [HC.out]
    go_wp2_with fail
    refine (l06Again_c _ _ _ g1 g2 (by omega)).mono ?_
    rintro e w2 ⟨rfl, b2⟩
    try subst b2
    go_wp2
    go_ret2
    exact ⟨by rw [HV.out, HC.out]; rfl, (Below.refl _ _)⟩
theorem again_i (s : ByteArray) (n : Int) (hs : s.size ≤ maxLen) (w : World) : Calls Tryd.prog 16 #[.string s, .int .i64 n] w fun e w' => e = .returned (.tuple #[.int .i64 (agV s n), .int .i64 (codeV s n)]) ∧ Below w.heap.size w w' := by
  refine code_cases s n (fun hc ho => ?_) (fun hc ho => ?_) (fun hc ho g1 g2 _ m hm m1 m2 => ?_)
  · have HC := Lib.hid hc
    have HV : Hid (agV s n = 0) := by show _ = _; simp [agV, ho]
    clear hc ho
    go_enter Tryd.func16, Tryd.ntmps16
    go_wp2_with fail
    refine (strokeCode_c _ _ hs _).mono ?_
    rintro e w1 ⟨rfl, b1⟩
    rw [HC.out]
    go_wp2
    go_ret2
    exact ⟨by rw [HV.out, HC.out]; rfl, b1⟩
  · have HC := Lib.hid hc
    have HV : Hid (agV s n = 0) := by show _ = _; simp [agV, ho]
    clear hc ho
    go_enter Tryd.func16, Tryd.ntmps16
    go_wp2_with fail
    refine (strokeCode_c _ _ hs _).mono ?_
    rintro e w1 ⟨rfl, b1⟩
    rw [HC.out]
    go_wp2
    go_ret2
    exact ⟨by rw [HV.out, HC.out]; rfl, b1⟩
  · subst hm
    have HC := Lib.hid hc
    have HV : Hid (agV s m = (agN s.size m : Nat)) := by show _ = _; simp [agV, ho]
    clear hc ho
    go_enter Tryd.func16, Tryd.ntmps16
    go_wp2_with fail
    refine (strokeCode_c _ _ hs _).mono ?_
    rintro e w1 ⟨rfl, b1⟩
    rw [HC.out]
    go_wp2_with fail
    refine (beginsAgain_c _ _ _ g1 g2 (by omega)).mono ?_
    rintro e w2 ⟨rfl, b2⟩
    try subst b2
    go_wp2
    go_ret2
    exact ⟨by rw [HV.out, HC.out]; rfl, (btrans b1 b2)⟩
/-- LongestFloat. -/
def lfV (s : ByteArray) : Int × Int := if vstB s then (if bothB s then (((runZ s : Nat) : Int), (0 : Int)) else (0, 6)) else (0, 1)
theorem float_s (s : ByteArray) (hs : s.size ≤ maxLen) (w : World) : Calls Tryd.prog 17 #[.string s] w fun e w' => e = .returned (.tuple #[.int .i64 (lfV s).1, .int .i64 (lfV s).2]) ∧ Below w.heap.size w w' := by
  rcases hv : vstB s with _ | _
  · have HV : Hid (lfV s = (0, 1)) := by show _ = _; simp [lfV, hv]
    go_enter Tryd.func17, Tryd.ntmps17
    go_wp2_with fail
    refine (l06Ok_c _ hs _).mono ?_
    rintro e w1 ⟨rfl, rfl⟩
    rw [hv]
    clear hv
    go_wp2
    go_ret2
    exact ⟨by rw [HV.out]; rfl, Below.refl _ _⟩
  · obtain ⟨g1, g2, g3⟩ := vstB_true hv
    have HG := Lib.hid g3
    clear g3
    rcases hb : bothB s with _ | _
    · have HV : Hid (lfV s = (0, 6)) := by show _ = _; simp [lfV, hv, hb]
      have HR := Lib.hid (run_one s g1 HG.out hb)
      unfold runZ at HR
      clear hb
      go_enter Tryd.func17, Tryd.ntmps17
      go_wp2_with fail
      refine (l06Ok_c _ hs _).mono ?_
      rintro e w1 ⟨rfl, rfl⟩
      rw [hv]
      clear hv
      go_wp2_with fail
      refine (l06Run_c _ _ g1 (by omega)).mono ?_
      rintro e w1 ⟨rfl, b1⟩
      rw [HR.out]
      go_wp2
      go_ret2
      exact ⟨by rw [HV.out]; rfl, b1⟩
    · have HV : Hid (lfV s = (((runZ s : Nat) : Int), (0 : Int))) := by show _ = _; simp [lfV, hv, hb]
      have hr := (run_both s hb).2
      unfold runZ at hr
      have hz : (((mostS (dB s) (2 * s.size) : Nat) : Int) == 0) = false := by rw [beq_eq_false_iff_ne]; omega
      clear hb
      go_enter Tryd.func17, Tryd.ntmps17
      go_wp2_with fail
      refine (l06Ok_c _ hs _).mono ?_
      rintro e w1 ⟨rfl, rfl⟩
      rw [hv]
      clear hv
      go_wp2_with fail
      refine (l06Run_c _ _ g1 (by omega)).mono ?_
      rintro e w1 ⟨rfl, b1⟩
      go_wp2
      go_ret2
      exact ⟨by rw [HV.out]; rfl, b1⟩
theorem float_i (s : ByteArray) (hs : s.size ≤ maxLen) (w : World) : Calls Tryd.prog 18 #[.string s] w fun e w' => e = .returned (.tuple #[.int .i64 (lfV s).1, .int .i64 (lfV s).2]) ∧ Below w.heap.size w w' := by
  rcases hv : vstB s with _ | _
  · have HV : Hid (lfV s = (0, 1)) := by show _ = _; simp [lfV, hv]
    go_enter Tryd.func18, Tryd.ntmps18
    go_wp2_with fail
    refine (valid_i _ hs _).mono ?_
    rintro e w1 ⟨rfl, b1⟩
    rw [hv]
    clear hv
    go_wp2
    go_ret2
    exact ⟨by rw [HV.out]; rfl, b1⟩
  · obtain ⟨g1, g2, -⟩ := vstB_true hv
    rcases hb : bothB s with _ | _
    · have HV : Hid (lfV s = (0, 6)) := by show _ = _; simp [lfV, hv, hb]
      have HB := Lib.hid hb
      clear hb
      go_enter Tryd.func18, Tryd.ntmps18
      go_wp2_with fail
      refine (valid_i _ hs _).mono ?_
      rintro e w1 ⟨rfl, b1⟩
      rw [hv]
      clear hv
      go_wp2_with fail
      refine (bothKinds_c _ _).mono ?_
      rintro e w2 ⟨rfl, rfl⟩
      rw [HB.out]
      go_wp2
      go_ret2
      exact ⟨by rw [HV.out]; rfl, b1⟩
    · have HV : Hid (lfV s = (((runZ s : Nat) : Int), (0 : Int))) := by show _ = _; simp [lfV, hv, hb]
      have HR := Lib.hid (run_both s hb).1
      have HB := Lib.hid hb
      clear hb
      go_enter Tryd.func18, Tryd.ntmps18
      go_wp2_with fail
      refine (valid_i _ hs _).mono ?_
      rintro e w1 ⟨rfl, b1⟩
      rw [hv]
      clear hv
      go_wp2_with fail
      refine (bothKinds_c _ _).mono ?_
      rintro e w2 ⟨rfl, rfl⟩
      rw [HB.out]
      go_wp2_with fail
      refine (longestRun_c _ _ g1 (by omega)).mono ?_
      rintro e w2 ⟨rfl, b2⟩
      rw [HR.out]
      go_wp2
      go_ret2
      exact ⟨by rw [HV.out]; rfl, btrans b1 b2⟩
/-- RoundOf. -/
def rdOk (s : ByteArray) (n r : Int) : Bool := wOk s n && inR r 0 100
def rdV (s : ByteArray) (n r : Int) : ByteArray := if rdOk s n r then alB s (r * n) 1 n.toNat else ByteArray.empty
def rdC (s : ByteArray) (n r : Int) : Int := if wOk s n then (if inR r 0 100 then 0 else 2) else codeV s n
set_option maxHeartbeats 2000000 in
theorem round_i (s : ByteArray) (n r : Int) (hs : s.size ≤ maxLen) (w : World) : Calls Tryd.prog 14 #[.string s, .int .i64 n, .int .i64 r] w fun e w' => e = .returned (.tuple #[.string (rdV s n r), .int .i64 (rdC s n r)]) ∧ Below w.heap.size w w' := by
  rcases hv : vstB s with _ | _
  · have HV : Hid (rdV s n r = ByteArray.empty ∧ rdC s n r = 1) := by show _ ∧ _; simp [rdV, rdC, rdOk, wOk, codeV, hv]
    go_enter Tryd.func14, Tryd.ntmps14
    go_wp2_with fail
    refine (valid_i _ hs _).mono ?_
    rintro e w1 ⟨rfl, b1⟩
    rw [hv]
    clear hv
    go_wp2
    go_ret2
    exact ⟨by rw [HV.out.1, HV.out.2]; rfl, b1⟩
  · obtain ⟨g1, g2, -⟩ := vstB_true hv
    refine inR_split n 3 60 (fun hn n1 n2 => inR_split r 0 100 (fun hr r1 r2 => ?_) (fun hr => ?_)) (fun hn => ?_)
    · have HV : Hid (rdV s n r = alB s (r * n) 1 n.toNat ∧ rdC s n r = 0) := by show _ ∧ _; simp [rdV, rdC, rdOk, wOk, hv, hn, hr]
      obtain ⟨m, rfl⟩ : ∃ m : Nat, n = m := ⟨n.toNat, by omega⟩
      have p0 : 0 ≤ r * (m : Int) := Int.mul_nonneg (by omega) (by omega)
      have p1 : r * (m : Int) ≤ 100 * 100 := Int.mul_le_mul r2 (by omega) (by omega) (by omega)
      go_enter Tryd.func14, Tryd.ntmps14
      go_wp2_with fail
      refine (valid_i _ hs _).mono ?_
      rintro e w1 ⟨rfl, b1⟩
      rw [hv]
      clear hv
      go_wp2_with (first | (go_at_call 35; refine (areStakes_c _ _).mono ?_; rintro e w' ⟨rfl, rfl⟩) | (go_at_call 36; refine (within_c _ _ _ _).mono ?_; rintro e w' ⟨rfl, rfl⟩))
      refine (along_c s _ _ m _ g1 (by omega) p0 (by omega) (by omega) (by omega) (by omega)).mono ?_
      rintro e w2 ⟨rfl, b2⟩
      go_wp2
      go_ret2
      exact ⟨by rw [HV.out.1, HV.out.2]; rfl, btrans b1 b2⟩
    all_goals
      have HV : Hid (rdV s n r = ByteArray.empty ∧ rdC s n r = 2) := by show _ ∧ _; simp [rdV, rdC, rdOk, wOk, codeV, hv, *]
      go_enter Tryd.func14, Tryd.ntmps14
      go_wp2_with fail
      refine (valid_i _ hs _).mono ?_
      rintro e w1 ⟨rfl, b1⟩
      rw [hv]
      clear hv
      go_wp2_with (first | (go_at_call 35; refine (areStakes_c _ _).mono ?_; rintro e w' ⟨rfl, rfl⟩) | (go_at_call 36; refine (within_c _ _ _ _).mono ?_; rintro e w' ⟨rfl, rfl⟩))
      go_ret2
      exact ⟨by rw [HV.out.1, HV.out.2]; rfl, b1⟩
set_option maxHeartbeats 2000000 in
theorem round_s (s : ByteArray) (n r : Int) (hs : s.size ≤ maxLen) (w : World) : Calls Tryd.prog 13 #[.string s, .int .i64 n, .int .i64 r] w fun e w' => e = .returned (.tuple #[.string (rdV s n r), .int .i64 (rdC s n r)]) ∧ Below w.heap.size w w' := by
  refine code_cases s n (fun hc ho => ?_) (fun hc ho => ?_) (fun hc ho g1 g2 _ m hm m1 m2 => ?_)
  · have HC := Lib.hid hc
    have HV : Hid (rdV s n r = ByteArray.empty ∧ rdC s n r = 1) := by show _ ∧ _; simp [rdV, rdC, rdOk, ho, hc]
    clear hc ho
    go_enter Tryd.func13, Tryd.ntmps13
    go_wp2_with fail
    refine (l06Code_c _ _ hs _).mono ?_
    rintro e w1 ⟨rfl, rfl⟩
    rw [HC.out]
    go_wp2
    go_ret2
    exact ⟨by rw [HV.out.1, HV.out.2]; rfl, Below.refl _ _⟩
  · have HC := Lib.hid hc
    have HV : Hid (rdV s n r = ByteArray.empty ∧ rdC s n r = 2) := by show _ ∧ _; simp [rdV, rdC, rdOk, ho, hc]
    clear hc ho
    go_enter Tryd.func13, Tryd.ntmps13
    go_wp2_with fail
    refine (l06Code_c _ _ hs _).mono ?_
    rintro e w1 ⟨rfl, rfl⟩
    rw [HC.out]
    go_wp2
    go_ret2
    exact ⟨by rw [HV.out.1, HV.out.2]; rfl, Below.refl _ _⟩
  · subst hm
    have HC := Lib.hid hc
    refine inR_split r 0 100 (fun hr r1 r2 => ?_) (fun hr => ?_)
    · have HV : Hid (rdV s m r = alB s (r * m) 1 m ∧ rdC s m r = 0) := by show _ ∧ _; simp [rdV, rdC, rdOk, ho, hr]
      clear hc ho
      have HN := Lib.hid hr
      go_enter Tryd.func13, Tryd.ntmps13
      go_wp2_with fail
      refine (l06Code_c _ _ hs _).mono ?_
      rintro e w1 ⟨rfl, rfl⟩
      rw [HC.out]
      go_wp2_with ((go_at_call 33; refine (l00In_c _ _ _ _).mono ?_; rintro e w' ⟨rfl, rfl⟩))
      go_loopw [9, 10] (fun v i wr => ∃ k : Nat, k ≤ m ∧ i = .int .i64 k ∧ OwnB wr w.heap.size v (alL s (r * m) 1 k) ∧ Below w.heap.size w wr) (fun _ i _ => m - (intOf i).toNat)
      case atStart => exact ⟨0, Nat.zero_le _, rfl, OwnB.empty _ (Nat.le_refl _), balloc (Below.refl _ _) _⟩
      case round =>
        obtain ⟨k, hk, rfl, hown, hbel⟩ := hrel
        have hbase := hbel.size
        have HLEN := Lib.hid (alL_length s (r * m) 1 k)
        by_cases hlt : k < m
        · have hx : alC s (r * m) 1 k = bt s ((r * (m : Int) + (k : Int)) % (s.size : Int)).toNat := by unfold alC; rw [Int.mul_one]
          have HX := Lib.hid hx
          clear hx
          go_wp2_with fail
          refine (l06At_c s m r k _ g1 (by omega) (by omega) (by omega) (by omega) (by omega) (by omega) (by omega)).mono ?_
          rintro e w1 ⟨rfl, rfl⟩
          go_wp2_with (at_builtin; refine append_byte rfl (.tmp 30) (.tmp 36) rfl w.heap.size _ _ rfl (OwnB.alloc hown _) _ _ rfl (Blk.new _ _ _) (by rw [HLEN.out]; omega) (by simp; omega) ?_; intro v1 w2 hown1 hgr1)
          go_roundw
          case rel => exact ⟨k + 1, by omega, by go_num, by rw [alL_succ, HX.out]; exact hown1, below_grown (balloc hbel _) hgr1 (fun g hg => (hown.lt g hg).1)⟩
          case measure => simp [intOf]; omega
        · obtain rfl : k = m := by omega
          have hs2 := hown.str
          go_wp2
          go_ret2
          exact ⟨by rw [HV.out.1, HV.out.2]; rfl, hbel⟩
    · have HV : Hid (rdV s m r = ByteArray.empty ∧ rdC s m r = 2) := by show _ ∧ _; simp [rdV, rdC, rdOk, ho, hr]
      clear hc ho
      go_enter Tryd.func13, Tryd.ntmps13
      go_wp2_with fail
      refine (l06Code_c _ _ hs _).mono ?_
      rintro e w1 ⟨rfl, rfl⟩
      rw [HC.out]
      go_wp2_with ((go_at_call 33; refine (l00In_c _ _ _ _).mono ?_; rintro e w' ⟨rfl, rfl⟩))
      go_ret2
      exact ⟨by rw [HV.out.1, HV.out.2]; rfl, Below.refl _ _⟩
end Go.Proofs.YtmooijlocjgoeaaDoor
