/-
  Loose stakes, by the program and by the reference.
  No conditions.
-/
import Derived.Test.YtmooijlocjgoeaaDoorAlong
import Derived.Test.YtmooijlocjgoeaaDoorAppend
namespace Go.Proofs.YtmooijlocjgoeaaDoor
open Go.ChangeShapes Go.WideShapes Go.ChangeAt Go.RowKit Go.Deep

/-- The longest run; 0 where all bytes are equal. -/
def runZ (s : ByteArray) : Nat := mostS (dB s) (2 * s.size)
theorem both_of (s : ByteArray) (h1 : 1 ≤ s.size) (hok : ∀ c ∈ s.data.toList, okFB c = true) (j : Nat) (hd : dB s j = true) : bothB s = true := by
  have n1 : j % s.size < s.size := Nat.mod_lt _ (by omega)
  have n2 : (j + 1) % s.size < s.size := Nat.mod_lt _ (by omega)
  have m1 := bt_mem s _ n1
  have m2 := bt_mem s _ n2
  have o1 := hok _ m1
  have o2 := hok _ m2
  unfold dB at hd
  unfold bothB
  rw [bne_iff_ne] at hd
  simp only [okFB, Bool.or_eq_true, beq_iff_eq] at o1 o2
  rw [Bool.and_eq_true, List.contains_iff_mem, List.contains_iff_mem]
  rcases o1 with o1 | o1 <;> rcases o2 with o2 | o2
  · exact absurd (o1.trans o2.symm) hd
  · exact ⟨o1 ▸ m1, o2 ▸ m2⟩
  · exact ⟨o2 ▸ m2, o1 ▸ m1⟩
  · exact absurd (o1.trans o2.symm) hd
theorem same_of (s : ByteArray) (h : ∀ j, j < s.size → dB s j = false) : ∀ i, i < s.size → bt s i = bt s 0
  | 0, _ => rfl
  | i + 1, hi => by
    have h1 := h i (by omega)
    unfold dB at h1
    rw [Nat.mod_eq_of_lt (by omega), Nat.mod_eq_of_lt hi, bne_eq_false_iff_eq] at h1
    rw [← h1]
    exact same_of s h i (by omega)
theorem mem_bt (s : ByteArray) (c : UInt8) (h : c ∈ s.data.toList) : ∃ i, i < s.size ∧ bt s i = c := by
  obtain ⟨i, hi, he⟩ := List.mem_iff_getElem.1 h
  refine ⟨i, by simpa using hi, ?_⟩
  unfold bt
  rw [List.getD, List.getElem?_eq_getElem hi]
  exact he
theorem both_has (s : ByteArray) (hb : bothB s = true) : ∃ j, j < s.size ∧ dB s j = true := by
  by_cases hx : ∃ j, j < s.size ∧ dB s j = true
  · exact hx
  · have hall : ∀ j, j < s.size → dB s j = false := fun j hj => by
      rcases hd : dB s j with _ | _
      · rfl
      · exact absurd ⟨j, hj, hd⟩ hx
    unfold bothB at hb
    rw [Bool.and_eq_true, List.contains_iff_mem, List.contains_iff_mem] at hb
    obtain ⟨i, hi, e1⟩ := mem_bt s _ hb.1
    obtain ⟨i', hi', e2⟩ := mem_bt s _ hb.2
    have a1 := same_of s hall i hi
    have a2 := same_of s hall i' hi'
    rw [e1] at a1
    rw [e2, ← a1] at a2
    exact absurd a2 (by decide)
theorem run_both (s : ByteArray) (hb : bothB s = true) : mostI (dB s) s.size (2 * s.size) = runZ s ∧ 1 ≤ runZ s := by
  obtain ⟨j, hj, hd⟩ := both_has s hb
  refine ⟨most_same (dB_period s) j hj hd, ?_⟩
  have := mostS_ge (d := dB s) (2 * s.size) j (by omega) hd
  have := rn_pos (d := dB s) j
  unfold runZ
  omega
theorem run_one (s : ByteArray) (h1 : 1 ≤ s.size) (hok : ∀ c ∈ s.data.toList, okFB c = true) (hb : bothB s = false) : runZ s = 0 := by
  refine mostS_zero _ fun i _ => ?_
  rcases hd : dB s i with _ | _
  · rfl
  · rw [both_of s h1 hok i hd] at hb; cases hb
theorem runZ_le (s : ByteArray) : runZ s ≤ 2 * s.size := mostS_le _

/-- A stake is loose. -/
def lsP (s : ByteArray) (n k : Nat) : Bool := !bothB (stB s n k)
/-- The loose stakes. -/
def lsL (s : ByteArray) (n : Nat) : List Int := selTo (lsP s n) n
theorem stB_ok (s : ByteArray) (n k : Nat) (h1 : 1 ≤ s.size) (h : ∀ c ∈ s.data.toList, okFB c = true) : 1 ≤ (stB s n k).size ∧ (stB s n k).size ≤ s.size ∧ ∀ c ∈ (stB s n k).data.toList, okFB c = true := by
  have := agN_bd s.size n h1
  refine ⟨?_, ?_, alB_ok _ _ _ _ h1 h⟩
  · unfold stB; rw [alB_size]; omega
  · unfold stB; rw [alB_size]; omega

set_option maxHeartbeats 2000000 in
theorem l06Loose_c (s : ByteArray) (n : Nat) (w : World) (h1 : 1 ≤ s.size) (h2 : s.size ≤ 12) (hn : n ≤ 100) (hok : ∀ c ∈ s.data.toList, okFB c = true) :
    Calls Tryd.prog 44 #[.string s, .int .i64 n] w fun e w' => ∃ v, e = .returned v ∧ Own w' w.heap.size v (lsL s n) ∧ Below w.heap.size w w' := by
  have HOK := Lib.hid hok
  clear hok
  go_enter Tryd.func44, Tryd.ntmps44
  go_wp2_with fail
  go_loopw [5, 6] (fun v i wr => ∃ k : Nat, k ≤ n ∧ i = .int .i64 k ∧ Own wr w.heap.size v (selTo (lsP s n) k) ∧ Below w.heap.size w wr) (fun _ i _ => n - (intOf i).toNat)
  case atStart => exact ⟨0, Nat.zero_le _, rfl, Own.empty _ (Nat.le_refl _), balloc (Below.refl _ _) _⟩
  case round =>
    obtain ⟨k, hk, rfl, hown, hbel⟩ := hrel
    have hbase := hbel.size
    have hlen := selTo_len (lsP s n) k
    by_cases hlt : k < n
    · obtain ⟨q1, q2, q3⟩ := stB_ok s n k h1 HOK.out
      have HQ := Lib.hid q3
      clear q3
      go_wp2_with fail
      refine (l06Stack_c s n k _ h1 h2 hn (by omega)).mono ?_
      rintro e w1 ⟨rfl, b1⟩
      go_wp2_with fail
      refine (l06Run_c _ _ q1 (by omega)).mono ?_
      rintro e w2 ⟨rfl, b2⟩
      have hbel2 := btrans hbel (btrans b1 b2)
      have hown2 := (hown.on b1).on b2
      have hbase2 := hbel2.size
      rcases hb : bothB (stB s n k) with _ | _
      · have HR := Lib.hid (run_one _ q1 HQ.out hb)
        unfold runZ at HR
        rw [HR.out]
        have HS : Hid (selTo (lsP s n) (k + 1) = selTo (lsP s n) k ++ [(k : Int)]) := selTo_yes (by rw [lsP, hb]; rfl)
        go_wp2_with (at_builtin; refine append_int rfl (.tmp 19) (.tmp 21) rfl w.heap.size _ _ rfl (Own.alloc hown2 _) k _ rfl (Blk.new _ _ _) (by omega) (by simp; omega) ?_; intro v1 w3 hown1 hgr1)
        go_roundw
        case rel => exact ⟨k + 1, by omega, by go_num, by rw [HS.out]; exact hown1, below_grown (balloc hbel2 _) hgr1 (fun g hg => (hown2.lt g hg).1)⟩
        case measure => simp [intOf]; omega
      · have hr := (run_both _ hb).2
        unfold runZ at hr
        have hz : (((mostS (dB (stB s n k)) (2 * (stB s n k).size) : Nat) : Int) == 0) = false := by rw [beq_eq_false_iff_ne]; omega
        have HS : Hid (selTo (lsP s n) (k + 1) = selTo (lsP s n) k) := selTo_no (by rw [lsP, hb]; rfl)
        go_wp2_with fail
        go_roundw
        case rel => exact ⟨k + 1, by omega, by go_num, by rw [HS.out]; exact hown2, hbel2⟩
        case measure => simp [intOf]; omega
    · obtain rfl : k = n := by omega
      go_wp2
      go_ret
      exact ⟨_, rfl, hown, hbel⟩
set_option maxHeartbeats 2000000 in
theorem looseStakes_c (s : ByteArray) (n : Nat) (w : World) (h1 : 1 ≤ s.size) (h2 : s.size ≤ 12) (hn : n ≤ 100) :
    Calls Tryd.prog 47 #[.string s, .int .i64 n] w fun e w' => ∃ v, e = .returned v ∧ Own w' w.heap.size v (lsL s n) ∧ Below w.heap.size w w' := by
  have ha := agN_bd s.size n h1
  go_enter Tryd.func47, Tryd.ntmps47
  go_wp2_with fail
  go_loopw [5, 9] (fun v i wr => ∃ k : Nat, k ≤ n ∧ i = .int .i64 k ∧ Own wr w.heap.size v (selTo (lsP s n) k) ∧ Below w.heap.size w wr) (fun _ i _ => n - (intOf i).toNat)
  case atStart => exact ⟨0, Nat.zero_le _, rfl, Own.empty _ (Nat.le_refl _), balloc (Below.refl _ _) _⟩
  case round =>
    obtain ⟨k, hk, rfl, hown, hbel⟩ := hrel
    have hbase := hbel.size
    have hlen := selTo_len (lsP s n) k
    by_cases hlt : k < n
    · go_wp2_with fail
      refine (beginsAgain_c s n _ h1 h2 hn).mono ?_
      rintro e w1 ⟨rfl, b1⟩
      go_wp2_with fail
      refine (along_c s k n _ _ h1 (by omega) (by omega) (by omega) (by omega) (by omega) (by omega)).mono ?_
      rintro e w2 ⟨rfl, b2⟩
      have hbel2 := btrans hbel (btrans b1 b2)
      have hown2 := (hown.on b1).on b2
      have hbase2 := hbel2.size
      go_wp2_with fail
      refine (bothKinds_c _ _).mono ?_
      rintro e w3 ⟨rfl, rfl⟩
      rcases hb : bothB (alB s k n (agN s.size n)) with _ | _
      · have HS : Hid (selTo (lsP s n) (k + 1) = selTo (lsP s n) k ++ [(k : Int)]) := selTo_yes (by rw [lsP, stB, hb]; rfl)
        clear hb
        go_wp2_with (at_builtin; refine append_int rfl (.tmp 21) (.tmp 23) rfl w.heap.size _ _ rfl (Own.alloc hown2 _) k _ rfl (Blk.new _ _ _) (by omega) (by simp; omega) ?_; intro v1 w3 hown1 hgr1)
        go_roundw
        case rel => exact ⟨k + 1, by omega, by go_num, by rw [HS.out]; exact hown1, below_grown (balloc hbel2 _) hgr1 (fun g hg => (hown2.lt g hg).1)⟩
        case measure => simp [intOf]; omega
      · have HS : Hid (selTo (lsP s n) (k + 1) = selTo (lsP s n) k) := selTo_no (by rw [lsP, stB, hb]; rfl)
        clear hb
        go_wp2_with fail
        go_roundw
        case rel => exact ⟨k + 1, by omega, by go_num, by rw [HS.out]; exact hown2, hbel2⟩
        case measure => simp [intOf]; omega
    · obtain rfl : k = n := by omega
      go_wp2
      go_ret
      exact ⟨_, rfl, hown, hbel⟩
end Go.Proofs.YtmooijlocjgoeaaDoor
