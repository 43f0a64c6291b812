/-
  Equal lists of whole numbers, equal beds: the reference's look, slices.Equal and slices.EqualFunc.
  No conditions.
-/
import Derived.Test.YtnlddplhaiceaaaBedOk
import Derived.Test.YtnlddplhaiceaaaEqZ
namespace Go.Proofs.Ytnlddplhaiceaaa
open Go.ChangeShapes Go.WideShapes Go.ChangeAt Go.RowKit Go.Deep

theorem drewN_ex {w wr : World} (h : ∃ q, wr = w.drewN q) (m : Nat) : ∃ q, wr.drewN m = w.drewN q := by
  obtain ⟨q, rfl⟩ := h
  exact ⟨q + m, by simp⟩
theorem quietD {P : Program} {f : FuncId} {args : Array Value} {w : World} {n : Nat} {v : Value}
    (h : Calls P f args (w.drewN n) fun e w' => e = .returned v ∧ ∃ q, w' = (w.drewN n).drewN q) : Calls P f args (w.drewN n) fun e w'' => e = .returned v ∧ ∃ m, w'' = w.drewN m :=
  h.mono fun _ _ ⟨he, q, hm⟩ => ⟨he, n + q, by rw [hm]; simp⟩
theorem quietD_add {P : Program} {f : FuncId} {args : Array Value} {w : World} {a n : Nat} {v : Value}
    (h : Calls P f args (w.drewN (a + n)) fun e w' => e = .returned v ∧ ∃ q, w' = (w.drewN (a + n)).drewN q) : Calls P f args (w.drewN (a + n)) fun e w'' => e = .returned v ∧ ∃ m, w'' = w.drewN (a + m) :=
  h.mono fun _ _ ⟨he, q, hm⟩ => ⟨he, n + q, by rw [hm]; simp [Nat.add_assoc]⟩
set_option maxHeartbeats 1000000 in
theorem same_s (A A' : Option Addr) (n m c c' : Nat) (zs ys : List Int) (w : World) (h : Ints w w.heap.size 1 A n zs) (h' : Ints w w.heap.size 1 A' m ys) (hn : n ≤ 1048576) (hm : m ≤ 1048576) :
    Calls Try.prog 83 #[.slice A n c, .slice A' m c'] w fun e w' => e = .returned (.bool (eqZ zs ys)) ∧ ∃ q, w' = w.drewN q := by
  have l1 := h.length
  have l2 := h'.length
  by_cases hnm : n = m
  · subst hnm
    have HL := Lib.hid l1
    have HL' := Lib.hid l2
    clear l1 l2
    go_enter Try.func83, Try.ntmps83
    go_wp2_with fail
    go_loopw [5] (fun i wr => ∃ k : Nat, k ≤ n ∧ i = .int .i64 k ∧ Hid (∃ q, wr = w.drewN q) ∧ Hid (∀ j, j < k → gi zs j = gi ys j)) (fun i _ => n - (intOf i).toNat)
    case atStart => exact ⟨0, Nat.zero_le _, rfl, ⟨0, rfl⟩, fun j h => absurd h (by omega)⟩
    case round =>
      obtain ⟨k, hk, rfl, HW, HK⟩ := hrel
      have h1 : Ints wr wr.heap.size 1 A n zs := by obtain ⟨q, rfl⟩ := HW.out; exact h.drewN q
      have h2 : Ints wr wr.heap.size 1 A' n ys := by obtain ⟨q, rfl⟩ := HW.out; exact h'.drewN q
      by_cases hlt : k < n
      · obtain ⟨b, off, rfl, hb, c0⟩ := h1.at1 hlt
        obtain ⟨b', off', rfl, hb', c0'⟩ := h2.at1 hlt
        by_cases e0 : gi zs k = gi ys k
        · have HE := Lib.hid e0
          have hbb : (gi zs k != gi ys k) = false := by rw [bne_eq_false_iff_eq]; exact e0
          clear e0
          go_wp2_with fail
          go_quiet (fail)
          go_wp2_with fail
          go_roundw
          case rel =>
            refine ⟨k + 1, by omega, by go_num, drewN_ex HW.out _, fun j hj => ?_⟩
            rcases Nat.lt_or_ge j k with hh | hh
            · exact HK.out j hh
            · obtain rfl : j = k := by omega
              exact HE.out
          case measure => simp [intOf]; omega
        · have HV : Hid (eqZ zs ys = false) := eqZ_ne k e0
          have hbb : (gi zs k != gi ys k) = true := by rw [bne_iff_ne]; exact e0
          clear e0
          go_wp2_with fail
          go_quiet (fail)
          go_wp2_with fail
          go_ret
          exact ⟨ret_bool HV.out.symm, drewN_ex HW.out _⟩
      · obtain rfl : k = n := by omega
        go_wp2
        go_ret
        refine ⟨ret_bool ?_, HW.out⟩
        have a1 := HL.out
        have a2 := HL'.out
        exact (eqZ_end (by omega) (fun j hj => HK.out j (by omega))).symm
  · have hv := eqZ_len (zs := zs) (ys := ys) (by omega)
    have hne : ((n : Int) != (m : Int)) = true := by rw [bne_iff_ne]; omega
    rw [hv]; clear hv l1 l2
    go_enter Try.func83, Try.ntmps83
    go_wp2
    go_ret
    exact ⟨rfl, 0, rfl⟩
theorem sameV_s (A A' : Option Addr) (n m c c' : Nat) (zs ys : List Int) (b : Bool) (w : World) (h : Ints w w.heap.size 1 A n zs) (h' : Ints w w.heap.size 1 A' m ys) (hn : n ≤ 1048576) (hm : m ≤ 1048576) (he : eqZ zs ys = b) :
    Calls Try.prog 83 #[.slice A n c, .slice A' m c'] w fun e w' => e = .returned (.bool b) ∧ ∃ q, w' = w.drewN q := by
  subst he
  exact same_s A A' n m c c' zs ys w h h' hn hm
set_option maxHeartbeats 1000000 in
theorem same_i (A A' : Option Addr) (n m c c' : Nat) (zs ys : List Int) (w : World) (h : Ints w w.heap.size 1 A n zs) (h' : Ints w w.heap.size 1 A' m ys) (hn : n ≤ 1048576) (hm : m ≤ 1048576) :
    Calls Try.prog 86 #[.slice A n c, .slice A' m c'] w fun e w' => e = .returned (.bool (eqZ zs ys)) ∧ ∃ q, w' = w.drewN q := by
  have l1 := h.length
  have l2 := h'.length
  by_cases hnm : n = m
  · subst hnm
    have HL := Lib.hid l1
    have HL' := Lib.hid l2
    clear l1 l2
    go_enter Try.func86, Try.ntmps86
    go_wp2_with fail
    go_loopw [13] (fun i wr => ∃ k : Nat, k ≤ n ∧ i = .int .i64 k ∧ Hid (∃ q, wr = w.drewN q) ∧ Hid (∀ j, j < k → gi zs j = gi ys j)) (fun i _ => n - (intOf i).toNat)
    case atStart => exact ⟨0, Nat.zero_le _, rfl, ⟨0, rfl⟩, fun j h => absurd h (by omega)⟩
    case round =>
      obtain ⟨k, hk, rfl, HW, HK⟩ := hrel
      have h1 : Ints wr wr.heap.size 1 A n zs := by obtain ⟨q, rfl⟩ := HW.out; exact h.drewN q
      have h2 : Ints wr wr.heap.size 1 A' n ys := by obtain ⟨q, rfl⟩ := HW.out; exact h'.drewN q
      by_cases hlt : k < n
      · obtain ⟨b, off, rfl, hb, c0⟩ := h1.at1 hlt
        obtain ⟨b', off', rfl, hb', c0'⟩ := h2.at1 hlt
        by_cases e0 : gi zs k = gi ys k
        · have HE := Lib.hid e0
          have hbb : (gi zs k != gi ys k) = false := by rw [bne_eq_false_iff_eq]; exact e0
          clear e0
          go_wp2_with fail
          go_quiet (fail)
          go_wp2_with fail
          go_roundw
          case rel =>
            refine ⟨k + 1, by omega, by go_num, drewN_ex HW.out _, fun j hj => ?_⟩
            rcases Nat.lt_or_ge j k with hh | hh
            · exact HK.out j hh
            · obtain rfl : j = k := by omega
              exact HE.out
          case measure => simp [intOf]; omega
        · have HV : Hid (eqZ zs ys = false) := eqZ_ne k e0
          have hbb : (gi zs k != gi ys k) = true := by rw [bne_iff_ne]; exact e0
          clear e0
          go_wp2_with fail
          go_quiet (fail)
          go_wp2_with fail
          go_ret
          exact ⟨ret_bool HV.out.symm, drewN_ex HW.out _⟩
      · obtain rfl : k = n := by omega
        go_wp2
        go_ret
        refine ⟨ret_bool ?_, HW.out⟩
        have a1 := HL.out
        have a2 := HL'.out
        exact (eqZ_end (by omega) (fun j hj => HK.out j (by omega))).symm
  · have hv := eqZ_len (zs := zs) (ys := ys) (by omega)
    have hne : ((n : Int) != (m : Int)) = true := by rw [bne_iff_ne]; omega
    rw [hv]; clear hv l1 l2
    go_enter Try.func86, Try.ntmps86
    go_wp2
    go_ret
    exact ⟨rfl, 0, rfl⟩
theorem sameV_i (A A' : Option Addr) (n m c c' : Nat) (zs ys : List Int) (b : Bool) (w : World) (h : Ints w w.heap.size 1 A n zs) (h' : Ints w w.heap.size 1 A' m ys) (hn : n ≤ 1048576) (hm : m ≤ 1048576) (he : eqZ zs ys = b) :
    Calls Try.prog 86 #[.slice A n c, .slice A' m c'] w fun e w' => e = .returned (.bool b) ∧ ∃ q, w' = w.drewN q := by
  subst he
  exact same_i A A' n m c c' zs ys w h h' hn hm

def sameAt (bs cs : Nat → List Int × Int) (i : Nat) : Bool := decide (ag bs i = ag cs i) && eqZ (yl bs i) (yl cs i)
def sameBs (bs cs : Nat → List Int × Int) (n m : Nat) : Bool := decide (n = m) && okAll (sameAt bs cs) n n
theorem sameBs_end {bs cs : Nat → List Int × Int} {n : Nat} (h : ∀ j, j < n → sameAt bs cs j = true) : sameBs bs cs n n = true := by
  rw [sameBs, okAll_end h]; simp
theorem sameBs_bad {bs cs : Nat → List Int × Int} {n k : Nat} (hk : k < n) (h : sameAt bs cs k = false) : sameBs bs cs n n = false := by
  rw [sameBs, okAll_bad hk h]; simp

theorem sameBed_i (A A' : Option Addr) (c c' : Nat) (zs ys : List Int) (a b : Int) (w : World) (h : Ints w w.heap.size 1 A zs.length zs) (h' : Ints w w.heap.size 1 A' ys.length ys) (hn : zs.length ≤ 1048576) (hm : ys.length ≤ 1048576) :
    Calls Try.prog 85 #[.agg #[.slice A zs.length c, .int .i64 a], .agg #[.slice A' ys.length c', .int .i64 b]] w fun e w' => e = .returned (.bool (decide (a = b) && eqZ zs ys)) ∧ Below w.heap.size w w' := by
  have hbl := balloc (balloc (Below.refl _ w) (.cells #[.slice A zs.length c, .int .i64 a] 41)) (.cells #[.slice A' ys.length c', .int .i64 b] 41)
  have HB := Lib.hid hbl
  clear hbl
  by_cases e0 : a = b
  · subst e0
    have HV : Hid ((decide (a = a) && eqZ zs ys) = eqZ zs ys) := by show _ = _; simp
    rw [HV.out]
    go_enter Try.func85, Try.ntmps85
    go_wp2_with fail
    refine (same_i _ _ _ _ _ _ zs ys _ (h.on HB.out) (h'.on HB.out) hn hm).mono ?_
    rintro e w1 ⟨rfl, q, rfl⟩
    go_wp2_with fail
    go_ret
    exact ⟨rfl, bdrewN HB.out _⟩
  · have HV : Hid ((decide (a = b) && eqZ zs ys) = false) := by show _ = _; simp [e0]
    rw [HV.out]
    have hbb : (a == b) = false := by rw [beq_eq_false_iff_ne]; exact e0
    clear e0
    go_enter Try.func85, Try.ntmps85
    go_wp2_with fail
    go_ret
    exact ⟨rfl, HB.out⟩

set_option maxHeartbeats 1000000 in
theorem sameBeds_e (A A' : Option Addr) (n m c c' : Nat) (bs cs : Nat → List Int × Int) (w : World) (h : Beds w w.heap.size A n bs) (h' : Beds w w.heap.size A' m cs) (hs : Short bs n) (hs' : Short cs m) :
    Calls Try.prog 84 #[.slice A n c, .slice A' m c', Value.func (Fn.func 85) #[] #[]] w fun e w' => e = .returned (.bool (sameBs bs cs n m)) ∧ Below w.heap.size w w' := by
  have hn := hs.1
  have hm := hs'.1
  by_cases hnm : n = m
  · subst hnm
    go_enter Try.func84, Try.ntmps84
    go_wp2_with fail
    go_loopw [17] (fun i wr => ∃ k : Nat, k ≤ n ∧ i = .int .i64 k ∧ Hid (∀ j, j < k → sameAt bs cs j = true) ∧ Below w.heap.size w wr) (fun i _ => n - (intOf i).toNat)
    case atStart => exact ⟨0, Nat.zero_le _, rfl, fun j h => absurd h (by omega), Below.refl _ _⟩
    case round =>
      obtain ⟨k, hk, rfl, HK, hbel⟩ := hrel
      by_cases hlt : k < n
      · obtain ⟨b, off, A1, m1, c1, rfl, hb, d0, d1, hm1, hI⟩ := (h.on hbel).at_ k hlt
        obtain ⟨b', off', A2, m2, c2, rfl, hb', d0', d1', hm2, hI'⟩ := (h'.on hbel).at_ k hlt
        obtain rfl : m1 = (yl bs k).length := by have := hI.length; omega
        obtain rfl : m2 = (yl cs k).length := by have := hI'.length; omega
        have hs1 := hs.2 k hlt
        have hs2 := hs'.2 k hlt
        go_wp2_with fail
        have hbl := balloc (balloc (Below.refl _ wr) (.cells #[.slice A1 (yl bs k).length c1, .int .i64 (ag bs k)] 41)) (.cells #[.slice A2 (yl cs k).length c2, .int .i64 (ag cs k)] 41)
        refine (sameBed_i A1 A2 c1 c2 (yl bs k) (yl cs k) (ag bs k) (ag cs k) _ (hI.on hbl) (hI'.on hbl) hs1 hs2).mono ?_
        rintro e w1 ⟨rfl, hb1⟩
        rcases hx : sameAt bs cs k with _ | _
        · have HV : Hid (sameBs bs cs n n = false) := sameBs_bad hlt hx
          have HX : Hid ((decide (ag bs k = ag cs k) && eqZ (yl bs k) (yl cs k)) = false) := hx
          rw [HX.out]
          have HB := Lib.hid (btrans hbl hb1)
          clear hbl hb1 hx
          go_wp2_with fail
          go_ret
          exact ⟨ret_bool HV.out.symm, btrans hbel HB.out⟩
        · have HX : Hid ((decide (ag bs k = ag cs k) && eqZ (yl bs k) (yl cs k)) = true) := hx
          rw [HX.out]
          have HB := Lib.hid (btrans hbl hb1)
          clear hbl hb1 hx
          go_wp2_with fail
          go_roundw
          case rel =>
            refine ⟨k + 1, by omega, by go_num, fun j hj => ?_, btrans hbel HB.out⟩
            rcases Nat.lt_or_ge j k with hh | hh
            · exact HK.out j hh
            · obtain rfl : j = k := by omega
              exact HX.out
          case measure => simp [intOf]; omega
      · obtain rfl : k = n := by omega
        have HV : Hid (sameBs bs cs k k = true) := sameBs_end HK.out
        go_wp2
        go_ret
        exact ⟨ret_bool HV.out.symm, hbel⟩
  · have hv : sameBs bs cs n m = false := by simp [sameBs, hnm]
    have hne : ((n : Int) != (m : Int)) = true := by rw [bne_iff_ne]; omega
    rw [hv]; clear hv
    go_enter Try.func84, Try.ntmps84
    go_wp2
    go_ret
    exact ⟨rfl, Below.refl _ _⟩
set_option maxHeartbeats 1000000 in
theorem sameBeds_i (A A' : Option Addr) (n m c c' : Nat) (bs cs : Nat → List Int × Int) (w : World) (h : Beds w w.heap.size A n bs) (h' : Beds w w.heap.size A' m cs) (hs : Short bs n) (hs' : Short cs m) :
    Calls Try.prog 42 #[.slice A n c, .slice A' m c'] w fun e w' => e = .returned (.bool (sameBs bs cs n m)) ∧ Below w.heap.size w w' := by
  go_enter Try.func42, Try.ntmps42
  go_wp2_with fail
  refine (sameBeds_e A A' n m c c' bs cs w h h' hs hs').mono ?_
  rintro e w1 ⟨rfl, hb1⟩
  go_wp2
  go_ret
  exact ⟨rfl, hb1⟩
set_option maxHeartbeats 1000000 in
theorem sameBeds_s (A A' : Option Addr) (n m c c' : Nat) (bs cs : Nat → List Int × Int) (w : World) (h : Beds w w.heap.size A n bs) (h' : Beds w w.heap.size A' m cs) (hs : Short bs n) (hs' : Short cs m) :
    Calls Try.prog 41 #[.slice A n c, .slice A' m c'] w fun e w' => e = .returned (.bool (sameBs bs cs n m)) ∧ Below w.heap.size w w' := by
  have hn := hs.1
  have hm := hs'.1
  by_cases hnm : n = m
  · subst hnm
    go_enter Try.func41, Try.ntmps41
    go_wp2_with fail
    go_loopw [5] (fun i wr => ∃ k : Nat, k ≤ n ∧ i = .int .i64 k ∧ Hid (∀ j, j < k → sameAt bs cs j = true) ∧ Below w.heap.size w wr) (fun i _ => n - (intOf i).toNat)
    case atStart => exact ⟨0, Nat.zero_le _, rfl, fun j h => absurd h (by omega), Below.refl _ _⟩
    case round =>
      obtain ⟨k, hk, rfl, HK, hbel⟩ := hrel
      by_cases hlt : k < n
      · obtain ⟨b, off, A1, m1, c1, rfl, hb, d0, d1, hm1, hI⟩ := (h.on hbel).at_ k hlt
        obtain ⟨b', off', A2, m2, c2, rfl, hb', d0', d1', hm2, hI'⟩ := (h'.on hbel).at_ k hlt
        obtain rfl : m1 = (yl bs k).length := by have := hI.length; omega
        obtain rfl : m2 = (yl cs k).length := by have := hI'.length; omega
        have hs1 := hs.2 k hlt
        have hs2 := hs'.2 k hlt
        by_cases e0 : ag bs k = ag cs k
        · have hbb : (ag bs k != ag cs k) = false := by rw [bne_eq_false_iff_eq]; exact e0
          rcases e1 : eqZ (yl bs k) (yl cs k) with _ | _
          · have HV : Hid (sameBs bs cs n n = false) := sameBs_bad hlt (by rw [sameAt, e1]; simp)
            clear e0
            go_wp2_with fail
            go_quiet ((go_at_call 83; first | exact quietD (sameV_s _ _ _ _ _ _ _ _ _ _ (hI.drewN _) (hI'.drewN _) hs1 hs2 e1) | exact quietD_add (sameV_s _ _ _ _ _ _ _ _ _ _ (hI.drewN _) (hI'.drewN _) hs1 hs2 e1)))
            go_wp2_with fail
            go_ret
            exact ⟨ret_bool HV.out.symm, bdrewN hbel _⟩
          · have HT : Hid (sameAt bs cs k = true) := by show _ = _; rw [sameAt, e1]; simp [e0]
            clear e0
            go_wp2_with fail
            go_quiet ((go_at_call 83; first | exact quietD (sameV_s _ _ _ _ _ _ _ _ _ _ (hI.drewN _) (hI'.drewN _) hs1 hs2 e1) | exact quietD_add (sameV_s _ _ _ _ _ _ _ _ _ _ (hI.drewN _) (hI'.drewN _) hs1 hs2 e1)))
            go_wp2_with fail
            go_roundw
            case rel =>
              refine ⟨k + 1, by omega, by go_num, fun j hj => ?_, bdrewN hbel _⟩
              rcases Nat.lt_or_ge j k with hh | hh
              · exact HK.out j hh
              · obtain rfl : j = k := by omega
                exact HT.out
            case measure => simp [intOf]; omega
        · have hbb : (ag bs k != ag cs k) = true := by rw [bne_iff_ne]; exact e0
          have HV : Hid (sameBs bs cs n n = false) := sameBs_bad hlt (by rw [sameAt]; simp [e0])
          clear e0
          go_wp2_with fail
          go_quiet (fail)
          go_wp2_with fail
          go_ret
          exact ⟨ret_bool HV.out.symm, bdrewN hbel _⟩
      · obtain rfl : k = n := by omega
        have HV : Hid (sameBs bs cs k k = true) := sameBs_end HK.out
        go_wp2
        go_ret
        exact ⟨ret_bool HV.out.symm, hbel⟩
  · have hv : sameBs bs cs n m = false := by simp [sameBs, hnm]
    have hne : ((n : Int) != (m : Int)) = true := by rw [bne_iff_ne]; omega
    rw [hv]; clear hv
    go_enter Try.func41, Try.ntmps41
    go_wp2
    go_ret
    exact ⟨rfl, Below.refl _ _⟩

end Go.Proofs.Ytnlddplhaiceaaa
