/-
  Sound weaves and stakes to add: what each function answers, by the program and by the reference.
  No conditions.
-/
import Derived.Test.YtmooijlocjgoeaaDoorSound
namespace Go.Proofs.YtmooijlocjgoeaaDoor
open Go.ChangeShapes Go.WideShapes Go.ChangeAt Go.RowKit Go.Deep

/-- The code of a stroke, stakes and a greatest float. -/
def fltC (s : ByteArray) (n fl : Int) : Int := if wOk s n then (if inR fl 1 12 then 0 else 2) else codeV s n
theorem flt_cases {p : Prop} (s : ByteArray) (n fl : Int) (h1 : codeV s n = 1 → wOk s n = false → fltC s n fl = 1 → p) (h2 : codeV s n = 2 → wOk s n = false → fltC s n fl = 2 → p)
    (h3 : codeV s n = 0 → inR fl 1 12 = false → wOk s n = true → fltC s n fl = 2 → p)
    (h0 : codeV s n = 0 → inR fl 1 12 = true → wOk s n = true → fltC s n fl = 0 → 1 ≤ s.size → s.size ≤ 12 → (∀ c ∈ s.data.toList, okFB c = true) → ∀ m : Nat, n = m → 3 ≤ m → m ≤ 60 → p) : p := by
  refine code_cases s n (fun hc ho => h1 hc ho (by simp [fltC, ho, hc])) (fun hc ho => h2 hc ho (by simp [fltC, ho, hc])) (fun hc ho g1 g2 g3 m hm m1 m2 => ?_)
  rcases hf : inR fl 1 12 with _ | _
  · exact h3 hc hf ho (by simp [fltC, ho, hf])
  · exact h0 hc hf ho (by simp [fltC, ho, hf]) g1 g2 g3 m hm m1 m2
theorem float_c (s : ByteArray) (n fl : Int) (hs : s.size ≤ maxLen) (w : World) : Calls Tryd.prog 48 #[.string s, .int .i64 n, .int .i64 fl] w fun e w' => e = .returned (.int .i64 (fltC s n fl)) ∧ w = w' := by
  refine flt_cases s n fl (fun hc ho hv => ?_) (fun hc ho hv => ?_) (fun hc hf ho hv => ?_) (fun hc hf ho hv _ _ g3 m hm _ _ => ?_)
  all_goals
    try clear hm g3
    have HC := Lib.hid hc
    have HV := Lib.hid hv
    clear hc ho hv
    go_enter Tryd.func48, Tryd.ntmps48
    go_wp2_with fail
    refine (l06Code_c _ _ hs _).mono ?_
    rintro e w1 ⟨rfl, rfl⟩
    rw [HC.out]
    go_wp2_with ((go_at_call 33; refine (l00In_c _ _ _ _).mono ?_; rintro e w' ⟨rfl, rfl⟩))
    go_ret
    exact ⟨ret_int HV.out.symm, rfl⟩
/-- IsSound. -/
def isV (s : ByteArray) (n fl : Int) : Bool := wOk s n && inR fl 1 12 && sdB s n.toNat fl
theorem is_s (s : ByteArray) (n fl : Int) (hs : s.size ≤ maxLen) (w : World) : Calls Tryd.prog 26 #[.string s, .int .i64 n, .int .i64 fl] w fun e w' => e = .returned (.tuple #[.bool (isV s n fl), .int .i64 (fltC s n fl)]) ∧ Below w.heap.size w w' := by
  refine flt_cases s n fl (fun hc ho hv => ?_) (fun hc ho hv => ?_) (fun hc hf ho hv => ?_) (fun hc hf ho hv g1 g2 g3 m hm m1 m2 => ?_)
  rotate_left 3
  · subst hm
    have HI : Hid (isV s m fl = sdB s m fl) := by show _ = _; simp [isV, *]
    have HV := Lib.hid hv
    have HG := Lib.hid g3
    clear hc ho hv hf g3
    go_enter Tryd.func26, Tryd.ntmps26
    go_wp2_with fail
    refine (float_c _ _ _ hs _).mono ?_
    rintro e w1 ⟨rfl, rfl⟩
    rw [HV.out]
    go_wp2_with fail
    refine (sound_s _ m _ _ g1 g2 (by omega) HG.out).mono ?_
    rintro e w1 ⟨rfl, b1⟩
    go_wp2
    go_ret2
    exact ⟨by rw [HI.out, HV.out]; rfl, b1⟩
  all_goals
    have HI : Hid (isV s n fl = false) := by show _ = _; simp [isV, *]
    have HV := Lib.hid hv
    clear hc ho hv
    go_enter Tryd.func26, Tryd.ntmps26
    go_wp2_with fail
    refine (float_c _ _ _ hs _).mono ?_
    rintro e w1 ⟨rfl, rfl⟩
    rw [HV.out]
    go_wp2
    go_ret2
    exact ⟨by rw [HI.out, HV.out]; rfl, Below.refl _ _⟩
theorem is_i (s : ByteArray) (n fl : Int) (hs : s.size ≤ maxLen) (w : World) : Calls Tryd.prog 27 #[.string s, .int .i64 n, .int .i64 fl] w fun e w' => e = .returned (.tuple #[.bool (isV s n fl), .int .i64 (fltC s n fl)]) ∧ Below w.heap.size w w' := by
  refine flt_cases s n fl (fun hc ho hv => ?_) (fun hc ho hv => ?_) (fun hc hf ho hv => ?_) (fun hc hf ho hv g1 g2 g3 m hm m1 m2 => ?_)
  rotate_left 3
  · subst hm
    have HI : Hid (isV s m fl = sdB s m fl) := by show _ = _; simp [isV, *]
    have HV := Lib.hid hv
    have HC := Lib.hid hc
    clear hc ho hv g3
    go_enter Tryd.func27, Tryd.ntmps27
    go_wp2_with fail
    refine (strokeCode_c _ _ hs _).mono ?_
    rintro e w1 ⟨rfl, b1⟩
    rw [HC.out]
    go_wp2_with ((go_at_call 50; refine (isFloat_c _ _).mono ?_; rintro e w' ⟨rfl, rfl⟩))
    refine (sound_i _ m _ _ g1 g2 (by omega)).mono ?_
    rintro e w2 ⟨rfl, b2⟩
    go_wp2
    go_ret2
    exact ⟨by rw [HI.out, HV.out]; rfl, btrans b1 b2⟩
  all_goals
    have HI : Hid (isV s n fl = false) := by show _ = _; simp [isV, *]
    have HV := Lib.hid hv
    have HC := Lib.hid hc
    clear hc ho hv
    go_enter Tryd.func27, Tryd.ntmps27
    go_wp2_with fail
    refine (strokeCode_c _ _ hs _).mono ?_
    rintro e w1 ⟨rfl, b1⟩
    rw [HC.out]
    go_wp2_with ((go_at_call 50; refine (isFloat_c _ _).mono ?_; rintro e w' ⟨rfl, rfl⟩))
    go_ret2
    exact ⟨by rw [HI.out, HV.out]; rfl, b1⟩
/-- The stakes to add to m0: the first sound weave from m on; f numbers of stakes are asked. -/
def addFrom (s : ByteArray) (fl : Int) (m0 : Nat) : Nat → Nat → Int × Int
  | 0, _ => (0, 3)
  | f + 1, m => if sdB s m fl then ((m : Int) - m0, 0) else addFrom s fl m0 f (m + 1)
/-- StakesToAdd. -/
def adV (s : ByteArray) (n fl : Int) : Int × Int := if wOk s n && inR fl 1 12 then addFrom s fl n.toNat (61 - n.toNat) n.toNat else (0, fltC s n fl)
set_option maxHeartbeats 2000000 in
theorem add_s (s : ByteArray) (n fl : Int) (hs : s.size ≤ maxLen) (w : World) : Calls Tryd.prog 28 #[.string s, .int .i64 n, .int .i64 fl] w fun e w' => e = .returned (.tuple #[.int .i64 (adV s n fl).1, .int .i64 (adV s n fl).2]) ∧ Below w.heap.size w w' := by
  refine flt_cases s n fl (fun hc ho hv => ?_) (fun hc ho hv => ?_) (fun hc hf ho hv => ?_) (fun hc hf ho hv g1 g2 g3 m hm m1 m2 => ?_)
  rotate_left 3
  · subst hm
    have HI : Hid (adV s m fl = addFrom s fl m (61 - m) m) := by show _ = _; simp [adV, *]
    have HV := Lib.hid hv
    have HG := Lib.hid g3
    clear hc ho hv hf g3
    go_enter Tryd.func28, Tryd.ntmps28
    go_wp2_with fail
    refine (float_c _ _ _ hs _).mono ?_
    rintro e w1 ⟨rfl, rfl⟩
    rw [HV.out]
    go_wp2_with fail
    go_loopw [9] (fun i wr => ∃ k : Nat, m ≤ k ∧ k ≤ 61 ∧ i = .int .i64 k ∧ Hid (adV s m fl = addFrom s fl m (61 - k) k) ∧ Below w.heap.size w wr) (fun i _ => 61 - (intOf i).toNat)
    case atStart => exact ⟨m, by omega, by omega, rfl, HI, Below.refl _ _⟩
    case round =>
      obtain ⟨k, k1, hk, rfl, HK, hbel⟩ := hrel
      clear HI
      by_cases hlt : k ≤ 60
      · have hx : addFrom s fl m (61 - k) k = if sdB s k fl then ((k : Int) - m, 0) else addFrom s fl m (61 - (k + 1)) (k + 1) := by
          rw [show 61 - k = (61 - (k + 1)) + 1 by omega, addFrom]
        have HX := Lib.hid hx
        clear hx
        go_wp2_with fail
        refine (sound_s _ k _ _ g1 g2 (by omega) HG.out).mono ?_
        rintro e w1 ⟨rfl, b1⟩
        rcases hd : sdB s k fl with _ | _
        · have HN : Hid (adV s m fl = addFrom s fl m (61 - (k + 1)) (k + 1)) := by show _ = _; rw [HK.out, HX.out, hd]; rfl
          clear hd
          go_wp2_with fail
          go_roundw
          case rel => exact ⟨k + 1, by omega, by omega, by go_num, HN, btrans hbel b1⟩
          case measure => simp [intOf]; omega
        · have HN : Hid (adV s m fl = ((k : Int) - m, 0)) := by show _ = _; rw [HK.out, HX.out, hd]; rfl
          clear hd
          go_wp2
          go_ret2
          exact ⟨by rw [HN.out]; rfl, btrans hbel b1⟩
      · obtain rfl : k = 61 := by omega
        go_wp2
        go_ret2
        exact ⟨by rw [HK.out]; rfl, hbel⟩
  all_goals
    have HI : Hid (adV s n fl = (0, fltC s n fl)) := by show _ = _; simp [adV, *]
    have HV := Lib.hid hv
    clear hc ho hv
    go_enter Tryd.func28, Tryd.ntmps28
    go_wp2_with fail
    refine (float_c _ _ _ hs _).mono ?_
    rintro e w1 ⟨rfl, rfl⟩
    rw [HV.out]
    go_wp2
    go_ret2
    exact ⟨by rw [HI.out, HV.out]; rfl, Below.refl _ _⟩
set_option maxHeartbeats 2000000 in
theorem add_i (s : ByteArray) (n fl : Int) (hs : s.size ≤ maxLen) (w : World) : Calls Tryd.prog 29 #[.string s, .int .i64 n, .int .i64 fl] w fun e w' => e = .returned (.tuple #[.int .i64 (adV s n fl).1, .int .i64 (adV s n fl).2]) ∧ Below w.heap.size w w' := by
  refine flt_cases s n fl (fun hc ho hv => ?_) (fun hc ho hv => ?_) (fun hc hf ho hv => ?_) (fun hc hf ho hv g1 g2 g3 m hm m1 m2 => ?_)
  rotate_left 3
  · subst hm
    have HI : Hid (adV s m fl = addFrom s fl m (61 - m) m) := by show _ = _; simp [adV, *]
    have HC := Lib.hid hc
    clear hc ho hv g3
    go_enter Tryd.func29, Tryd.ntmps29
    go_wp2_with fail
    refine (strokeCode_c _ _ hs _).mono ?_
    rintro e w1 ⟨rfl, b1⟩
    rw [HC.out]
    go_wp2_with ((go_at_call 50; refine (isFloat_c _ _).mono ?_; rintro e w' ⟨rfl, rfl⟩))
    go_loopw [9] (fun i wr => ∃ k : Nat, m + k ≤ 61 ∧ i = .int .i64 k ∧ Hid (adV s m fl = addFrom s fl m (61 - (m + k)) (m + k)) ∧ Below w.heap.size w wr) (fun i _ => 61 - (intOf i).toNat)
    case atStart => exact ⟨0, by omega, rfl, HI, b1⟩
    case round =>
      obtain ⟨k, hk, rfl, HK, hbel⟩ := hrel
      clear HI
      by_cases hlt : m + k ≤ 60
      · have hx : addFrom s fl m (61 - (m + k)) (m + k) = if sdB s (m + k) fl then (((m + k : Nat) : Int) - m, 0) else addFrom s fl m (61 - (m + (k + 1))) (m + (k + 1)) := by
          rw [show 61 - (m + k) = (61 - (m + (k + 1))) + 1 by omega, addFrom]; rfl
        have HX := Lib.hid hx
        have he : ((m + k : Nat) : Int) = (m : Int) + (k : Int) := by omega
        have HS := Lib.hid (fun w => sound_i s (m + k) fl w g1 g2 (by omega))
        rw [he] at HS
        clear hx he
        go_wp2_with fail
        refine (HS.out _).mono ?_
        rintro e w2 ⟨rfl, b2⟩
        rcases hd : sdB s (m + k) fl with _ | _
        · have HN : Hid (adV s m fl = addFrom s fl m (61 - (m + (k + 1))) (m + (k + 1))) := by show _ = _; rw [HK.out, HX.out, hd]; rfl
          clear hd
          go_wp2_with fail
          go_roundw
          case rel => exact ⟨k + 1, by omega, by go_num, HN, btrans hbel b2⟩
          case measure => simp [intOf]; omega
        · have HN : Hid (adV s m fl = ((k : Int), 0)) := by
            show _ = _; rw [HK.out, HX.out, hd]; simp; omega
          clear hd
          go_wp2
          go_ret2
          exact ⟨by rw [HN.out]; rfl, btrans hbel b2⟩
      · have hke : m + k = 61 := by omega
        have HN : Hid (adV s m fl = (0, 3)) := by show _ = _; rw [HK.out, hke]; rfl
        clear hke
        go_wp2
        go_ret2
        exact ⟨by rw [HN.out]; rfl, hbel⟩
  all_goals
    have HI : Hid (adV s n fl = (0, fltC s n fl)) := by show _ = _; simp [adV, *]
    have HV := Lib.hid hv
    have HC := Lib.hid hc
    clear hc ho hv
    go_enter Tryd.func29, Tryd.ntmps29
    go_wp2_with fail
    refine (strokeCode_c _ _ hs _).mono ?_
    rintro e w1 ⟨rfl, b1⟩
    rw [HC.out]
    go_wp2_with ((go_at_call 50; refine (isFloat_c _ _).mono ?_; rintro e w' ⟨rfl, rfl⟩))
    go_ret2
    exact ⟨by rw [HI.out, HV.out]; rfl, b1⟩
end Go.Proofs.YtmooijlocjgoeaaDoor
