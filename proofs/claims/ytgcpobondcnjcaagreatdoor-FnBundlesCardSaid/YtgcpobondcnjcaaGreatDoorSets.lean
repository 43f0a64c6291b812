/-
  Sets told by bits: their members; which list comes first.
  No conditions.
-/
import Derived.Test.YtgcpobondcnjcaaGreatDoorPlanP
import Derived.Test.YtgcpobondcnjcaaGreatDoorBedSame
import Derived.Laws.BitsLemmas
namespace Go.Proofs.YtgcpobondcnjcaaGreatDoor
open Go.ChangeShapes Go.WideShapes Go.ChangeAt Go.RowKit Go.Deep

theorem and_one (i : Nat) (hi : i < 4611686018427387904) : bits BinOp.and IntKind.i64 (i : Int) 1 = ((i % 2 : Nat) : Int) := by
  have e63 : (2 : Int) ^ 63 = 9223372036854775808 := by decide
  have h := bits_mask .i64 63 (by decide) (fun n h0 h1 => by rw [e63] at h1; rw [IntKind.wrap_i64]; omega) 1 (by decide) (i : Int) (by omega) (by rw [e63]; omega)
  have e : ((2 : Int) ^ 1 - 1) = 1 := by decide
  rw [e] at h
  rw [h]
  omega
/-- The bit k of a number: whether it is set, in the walk's words. -/
theorem bit_at (S k : Nat) (hS : S < 1048576) : bits BinOp.and IntKind.i64 ((S : Int) / 2 ^ k) 1 = if S.testBit k then 1 else 0 := by
  have h1 : ((S : Int) / 2 ^ k) = ((S / 2 ^ k : Nat) : Int) := by norm_cast
  have h2 : S / 2 ^ k ≤ S := Nat.div_le_self _ _
  rw [h1, and_one _ (by omega), Nat.testBit_eq_decide_div_mod_eq]
  rcases Nat.mod_two_eq_zero_or_one (S / 2 ^ k) with h | h <;> simp [h]
theorem testBit_ge {S n k : Nat} (h : S < 2 ^ n) (hk : n ≤ k) : S.testBit k = false := Nat.testBit_lt_two_pow (Nat.lt_of_lt_of_le h (Nat.pow_le_pow_right (by omega) hk))
theorem sel_stop {p : Nat → Bool} {k : Nat} (h : ∀ j, k ≤ j → p j = false) : ∀ m : Nat, selTo p (k + m) = selTo p k
  | 0 => rfl
  | m + 1 => by rw [← Nat.add_assoc, selTo_no (h _ (by omega)), sel_stop h m]
theorem sel_done {S k n : Nat} (h0 : S / 2 ^ k = 0) (hk : k ≤ n) : selTo S.testBit n = selTo S.testBit k := by
  obtain ⟨m, rfl⟩ : ∃ m, n = k + m := ⟨n - k, by omega⟩
  refine sel_stop (fun j hj => testBit_ge (n := k) ?_ hj) m
  rcases Nat.div_eq_zero_iff.1 h0 with h | h
  · have := Nat.two_pow_pos k; omega
  · exact h
/-- A slice that is not nil. -/
def NN (v : Value) : Prop := ∃ A n c, v = .slice (some A) n c
theorem Own.nn {w : World} {base : Nat} {v : Value} {zs : List Int} (h : Own w base v zs) (hz : zs ≠ []) : NN v := by
  rcases h.2 with ⟨rfl, h0⟩ | ⟨g, cap, cur, rfl, h1⟩
  · exact absurd (List.eq_nil_of_length_eq_zero h0) hz
  · exact ⟨_, _, _, rfl⟩

set_option maxHeartbeats 1000000 in
theorem members_i (S n : Nat) (hn : n ≤ 16) (hS : S < 2 ^ n) (w : World) : Calls Tryz.prog 46 #[.int .i64 S] w fun e w' => ∃ v, e = .returned v ∧ NN v ∧ Own w' w.heap.size v (selTo S.testBit n) ∧ Below w.heap.size w w' := by
  have hSb : S < 1048576 := Nat.lt_of_lt_of_le hS (Nat.le_trans (Nat.pow_le_pow_right (by omega) hn) (by decide))
  go_enter Tryz.func46, Tryz.ntmps46
  go_wp2_with fail
  go_loopw [0, 3, 4] (fun s o i wr => ∃ k q : Nat, k ≤ n ∧ i = .int .i64 k ∧ s = .int .i64 q ∧ Hid (q = S / 2 ^ k) ∧ q < 1048576 ∧ NN o ∧ Own wr w.heap.size o (selTo S.testBit k) ∧ Below w.heap.size w wr) (fun _ _ i _ => n - (intOf i).toNat)
  case atStart => exact ⟨0, S, Nat.zero_le _, rfl, rfl, (by simp : S = S / 2 ^ 0), hSb, ⟨_, _, _, rfl⟩, Own.empty _ (Nat.le_refl _), balloc (Below.refl _ _) _⟩
  case round =>
    obtain ⟨k, q, hk, rfl, rfl, HQ, hqb, hnn, hown, hbel⟩ := hrel
    have hlen := selTo_len S.testBit k
    have hbase := hbel.size
    by_cases h0 : 0 < q
    · have hlt : k < n := by
        rcases Nat.lt_or_ge k n with h | h
        · exact h
        · obtain rfl : k = n := by omega
          have := HQ.out
          rw [Nat.div_eq_of_lt hS] at this; omega
      have hA := and_one q (by omega)
      have HT : Hid (S.testBit k = decide (q % 2 = 1)) := by show _ = _; rw [Nat.testBit_eq_decide_div_mod_eq, ← HQ.out]
      rcases Nat.mod_two_eq_zero_or_one q with h2 | h2
      · rw [h2] at hA
        have HQ2 : Hid (selTo S.testBit (k + 1) = selTo S.testBit k) := selTo_no (by rw [HT.out, h2]; rfl)
        go_wp2_with fail
        go_roundw
        case rel => exact ⟨k + 1, q / 2, by omega, by go_num, by go_num, (by rw [HQ.out, Nat.div_div_eq_div_mul, Nat.pow_succ] : q / 2 = S / 2 ^ (k + 1)), by omega, by rw [HQ2.out]; exact ⟨hnn, hown, hbel⟩⟩
        case measure => simp [intOf]; omega
      · rw [h2] at hA
        have HQ2 : Hid (selTo S.testBit (k + 1) = selTo S.testBit k ++ [(k : Int)]) := selTo_yes (by rw [HT.out, h2]; rfl)
        go_wp2_with (at_builtin; refine append_int rfl (.tmp 13) (.tmp 15) rfl w.heap.size _ _ rfl (Own.alloc hown _) k _ rfl (Blk.new _ _ _) (by omega) (by simp; omega) ?_; intro v1 w2 hown1 hgr1)
        go_roundw
        case rel => exact ⟨k + 1, q / 2, by omega, by go_num, by go_num, (by rw [HQ.out, Nat.div_div_eq_div_mul, Nat.pow_succ] : q / 2 = S / 2 ^ (k + 1)), by omega, by rw [HQ2.out]; exact ⟨hown1.nn (by simp), hown1, below_grown (balloc hbel _) hgr1 (fun g hg => (hown.lt g hg).1)⟩⟩
        case measure => simp [intOf]; omega
    · obtain rfl : q = 0 := by omega
      have HD : Hid (selTo S.testBit n = selTo S.testBit k) := sel_done HQ.out.symm hk
      go_wp2
      go_ret
      exact ⟨_, rfl, hnn, by rw [HD.out]; exact hown, hbel⟩

set_option maxHeartbeats 1000000 in
theorem members_s (S n : Nat) (hn : n ≤ 16) (hS : S < 1048576) (w : World) : Calls Tryz.prog 48 #[.int .i64 S, .int .i64 n] w fun e w' => ∃ v, e = .returned v ∧ NN v ∧ Own w' w.heap.size v (selTo S.testBit n) ∧ Below w.heap.size w w' := by
  go_enter Tryz.func48, Tryz.ntmps48
  go_wp2_with fail
  go_loopw [5, 6] (fun o i wr => ∃ k : Nat, k ≤ n ∧ i = .int .i64 k ∧ NN o ∧ Own wr w.heap.size o (selTo S.testBit k) ∧ Below w.heap.size w wr) (fun _ i _ => n - (intOf i).toNat)
  case atStart => exact ⟨0, Nat.zero_le _, rfl, ⟨_, _, _, rfl⟩, Own.empty _ (Nat.le_refl _), balloc (Below.refl _ _) _⟩
  case round =>
    obtain ⟨k, hk, rfl, hnn, hown, hbel⟩ := hrel
    have hlen := selTo_len S.testBit k
    have hbase := hbel.size
    by_cases hlt : k < n
    · have hA := bit_at S k hS
      rcases h2 : S.testBit k with _ | _
      · rw [h2] at hA
        simp only [Bool.false_eq_true, if_false] at hA
        have HQ2 : Hid (selTo S.testBit (k + 1) = selTo S.testBit k) := selTo_no h2
        go_wp2_with fail
        go_roundw
        case rel => exact ⟨k + 1, by omega, by go_num, by rw [HQ2.out]; exact ⟨hnn, hown, hbel⟩⟩
        case measure => simp [intOf]; omega
      · rw [h2] at hA
        simp only [if_true] at hA
        have HQ2 : Hid (selTo S.testBit (k + 1) = selTo S.testBit k ++ [(k : Int)]) := selTo_yes h2
        go_wp2_with (at_builtin; refine append_int rfl (.tmp 19) (.tmp 21) rfl w.heap.size _ _ rfl (Own.alloc hown _) k _ rfl (Blk.new _ _ _) (by omega) (by simp; omega) ?_; intro v1 w2 hown1 hgr1)
        go_roundw
        case rel => exact ⟨k + 1, by omega, by go_num, by rw [HQ2.out]; exact ⟨hown1.nn (by simp), hown1, below_grown (balloc hbel _) hgr1 (fun g hg => (hown.lt g hg).1)⟩⟩
        case measure => simp [intOf]; omega
    · obtain rfl : k = n := by omega
      go_wp2
      go_ret
      exact ⟨_, rfl, hnn, hown, hbel⟩

set_option maxHeartbeats 1000000 in
theorem less_s (A A' : Option Addr) (n m c c' : Nat) (zs ys : List Int) (w : World) (h : Ints w w.heap.size 1 A n zs) (h' : Ints w w.heap.size 1 A' m ys) (hn : n ≤ 1048576) (hm : m ≤ 1048576) :
    Calls Tryz.prog 49 #[.slice A n c, .slice A' m c'] w fun e w' => e = .returned (.bool (lessL zs ys)) ∧ Below w.heap.size w w' := by
  have l1 := h.length
  have l2 := h'.length
  by_cases hnm : n = m
  · subst hnm
    have HL := Lib.hid l1
    have HL' := Lib.hid l2
    have HX : Hid (lessL zs ys = lexLt zs ys) := by
      show _ = _
      unfold lessL
      rw [l1, l2]; simp
    clear l1 l2
    go_enter Tryz.func49, Tryz.ntmps49
    go_wp2_with fail
    go_loopw [5] (fun i wr => ∃ k : Nat, k ≤ n ∧ i = .int .i64 k ∧ Hid (∀ j, j < k → gi zs j = gi ys j) ∧ Below w.heap.size w wr) (fun i _ => n - (intOf i).toNat)
    case atStart => exact ⟨0, Nat.zero_le _, rfl, fun j h => absurd h (by omega), Below.refl _ _⟩
    case round =>
      obtain ⟨k, hk, rfl, HK, hbel⟩ := hrel
      by_cases hlt : k < n
      · obtain ⟨b, off, rfl, hb, c0⟩ := (h.below hbel (Nat.le_refl _)).at1 hlt
        obtain ⟨b', off', rfl, hb', c0'⟩ := (h'.below hbel (Nat.le_refl _)).at1 hlt
        by_cases e0 : gi zs k = gi ys k
        · have HE := Lib.hid e0
          have hbb : (gi zs k != gi ys k) = false := by rw [bne_eq_false_iff_eq]; exact e0
          clear e0
          go_wp2_with fail
          go_quiet (fail)
          go_wp2_with fail
          go_roundw
          case rel =>
            refine ⟨k + 1, by omega, by go_num, fun j hj => ?_, bdrewN hbel _⟩
            rcases Nat.lt_or_ge j k with hh | hh
            · exact HK.out j hh
            · obtain rfl : j = k := by omega
              exact HE.out
          case measure => simp [intOf]; omega
        · have HV : Hid (lexLt zs ys = decide (gi zs k < gi ys k)) := lexLt_at (by rw [HL.out]; omega) HK.out e0
          have hbb : (gi zs k != gi ys k) = true := by rw [bne_iff_ne]; exact e0
          clear e0
          go_wp2_with fail
          go_quiet (fail)
          go_wp2_with fail
          go_quiet (fail)
          go_wp2_with fail
          go_ret
          exact ⟨ret_bool (by rw [HX.out, HV.out]), by repeat (first | exact hbel | apply bdrewN)⟩
      · obtain rfl : k = n := by omega
        have HV : Hid (lexLt zs ys = false) := lexLt_eq fun j hj => HK.out j (by rw [HL.out] at hj; omega)
        go_wp2
        go_ret
        exact ⟨ret_bool (by rw [HX.out, HV.out]), hbel⟩
  · have hv : lessL zs ys = decide (n < m) := by
      have e1 : zs.length = n := by omega
      have e2 : ys.length = m := by omega
      simp [lessL, e1, e2, hnm]
    have hne : ((n : Int) != (m : Int)) = true := by rw [bne_iff_ne]; omega
    rw [hv]; clear hv l1 l2
    go_enter Tryz.func49, Tryz.ntmps49
    go_wp2
    go_ret
    exact ⟨by first | rfl | simp, Below.refl _ _⟩

theorem isNaN_c (a : Int) (w : World) : Calls Tryz.prog 90 #[.int .i64 a] w fun e w' => e = .returned (.bool false) ∧ w = w' := by
  go_enter Tryz.func90, Tryz.ntmps90
  go_wp2
  go_ret
  first | exact ⟨rfl, rfl⟩ | simp
def cmpV (a b : Int) : Int := if a < b then -1 else if b < a then 1 else 0
theorem compare_c (a b : Int) (w : World) : Calls Tryz.prog 75 #[.int .i64 a, .int .i64 b] w fun e w' => e = .returned (.int .i64 (cmpV a b)) ∧ w = w' := by
  have HV : Hid (cmpV a b = if a < b then -1 else if b < a then 1 else 0) := rfl
  by_cases h1 : a < b
  · have HV' := HV.out
    rw [if_pos h1] at HV'
    rw [HV']; clear HV' HV
    go_enter Tryz.func75, Tryz.ntmps75
    go_wp2_with fail
    refine (isNaN_c _ _).mono ?_
    rintro e w1 ⟨rfl, rfl⟩
    go_wp2_with fail
    refine (isNaN_c _ _).mono ?_
    rintro e w1 ⟨rfl, rfl⟩
    go_wp2_with fail
    go_ret
    exact ⟨rfl, rfl⟩
  · by_cases h2 : b < a
    all_goals
      have HV' := HV.out
      rw [if_neg h1] at HV'
      first | rw [if_pos h2] at HV' | rw [if_neg h2] at HV'
      rw [HV']; clear HV' HV
      go_enter Tryz.func75, Tryz.ntmps75
      go_wp2_with fail
      refine (isNaN_c _ _).mono ?_
      rintro e w1 ⟨rfl, rfl⟩
      go_wp2_with fail
      refine (isNaN_c _ _).mono ?_
      rintro e w1 ⟨rfl, rfl⟩
      go_wp2_with fail
      go_ret
      exact ⟨rfl, rfl⟩
set_option maxHeartbeats 1000000 in
theorem compareL_c (A A' : Option Addr) (n c c' : Nat) (zs ys : List Int) (w : World) (h : Ints w w.heap.size 1 A n zs) (h' : Ints w w.heap.size 1 A' n ys) (hn : n ≤ 1048576) :
    Calls Tryz.prog 65 #[.slice A n c, .slice A' n c'] w fun e w' => ∃ x : Int, e = .returned (.int .i64 x) ∧ decide (x < 0) = lexLt zs ys ∧ w = w' := by
  have HL := Lib.hid h.length
  go_enter Tryz.func65, Tryz.ntmps65
  go_wp2_with fail
  go_loop [11] (fun i => ∃ k : Nat, k ≤ n ∧ i = .int .i64 k ∧ Hid (∀ j, j < k → gi zs j = gi ys j)) (fun i => n - (intOf i).toNat)
  case atStart => exact ⟨0, Nat.zero_le _, rfl, fun j h => absurd h (by omega)⟩
  case round =>
    obtain ⟨k, hk, rfl, HK⟩ := hrel
    by_cases hlt : k < n
    · obtain ⟨b, off, rfl, hb, c0⟩ := h.at1 hlt
      obtain ⟨b', off', rfl, hb', c0'⟩ := h'.at1 hlt
      by_cases e0 : gi zs k = gi ys k
      · have HV : Hid (cmpV (gi zs k) (gi ys k) = 0) := by show _ = _; simp [cmpV, e0]
        have HE := Lib.hid e0
        clear e0
        go_wp2_with fail
        refine (compare_c _ _ _).mono ?_
        rintro e w1 ⟨rfl, rfl⟩
        rw [HV.out]
        go_wp2_with fail
        go_round
        case rel =>
          refine ⟨k + 1, by omega, by go_num, fun j hj => ?_⟩
          rcases Nat.lt_or_ge j k with hh | hh
          · exact HK.out j hh
          · obtain rfl : j = k := by omega
            exact HE.out
        case measure => simp [intOf]; omega
      · have HX : Hid (lexLt zs ys = decide (gi zs k < gi ys k)) := lexLt_at (by have := HL.out; omega) HK.out e0
        have HV : Hid (decide (cmpV (gi zs k) (gi ys k) < 0) = decide (gi zs k < gi ys k)) := by
          show _ = _
          simp only [cmpV]
          by_cases h1 : gi zs k < gi ys k
          · simp [h1]
          · simp [h1, show gi ys k < gi zs k by omega]
        have hz : (cmpV (gi zs k) (gi ys k) == 0) = false := by
          rw [beq_eq_false_iff_ne]
          unfold cmpV
          split
          · omega
          · rw [if_pos (by omega)]; omega
        have hz2 : (cmpV (gi zs k) (gi ys k) != 0) = true := by rw [bne, hz]; rfl
        clear e0
        go_wp2_with fail
        refine (compare_c _ _ _).mono ?_
        rintro e w1 ⟨rfl, rfl⟩
        go_wp2_with fail
        go_ret
        exact ⟨_, rfl, by rw [HV.out, HX.out], rfl⟩
    · obtain rfl : k = n := by omega
      have HX : Hid (lexLt zs ys = false) := lexLt_eq fun j hj => HK.out j (by have := HL.out; omega)
      go_wp2
      go_ret
      exact ⟨0, rfl, by rw [HX.out]; rfl, rfl⟩

set_option maxHeartbeats 1000000 in
theorem less_i (A A' : Option Addr) (n m c c' : Nat) (zs ys : List Int) (w : World) (h : Ints w w.heap.size 1 A n zs) (h' : Ints w w.heap.size 1 A' m ys) (hn : n ≤ 1048576) (hm : m ≤ 1048576) :
    Calls Tryz.prog 47 #[.slice A n c, .slice A' m c'] w fun e w' => e = .returned (.bool (lessL zs ys)) ∧ w = w' := by
  have l1 := h.length
  have l2 := h'.length
  by_cases hlt : n < m
  · have hv : lessL zs ys = true := by
      have e1 : zs.length = n := by omega
      have e2 : ys.length = m := by omega
      simp [lessL, e1, e2, hlt]
    rw [hv]; clear hv l1 l2
    go_enter Tryz.func47, Tryz.ntmps47
    go_wp2
    go_ret
    exact ⟨rfl, rfl⟩
  · by_cases hnm : n = m
    · subst hnm
      have HX : Hid (lessL zs ys = lexLt zs ys) := by
        show _ = _
        unfold lessL
        rw [l1, l2]; simp
      clear l1 l2
      have heq : ((n : Int) == (n : Int)) = true := by simp
      go_enter Tryz.func47, Tryz.ntmps47
      go_wp2_with fail
      refine (compareL_c _ _ _ _ _ zs ys _ h h' hn).mono ?_
      rintro e w1 ⟨x, rfl, hx, rfl⟩
      have HQ := Lib.hid hx
      clear hx
      go_wp2_with fail
      go_ret
      refine ⟨ret_bool ?_, rfl⟩
      rw [HX.out, ← HQ.out]
    · have hv : lessL zs ys = false := by
        have e1 : zs.length = n := by omega
        have e2 : ys.length = m := by omega
        simp [lessL, e1, e2, hnm]; omega
      have hne : ((n : Int) == (m : Int)) = false := by rw [beq_eq_false_iff_ne]; omega
      rw [hv]; clear hv l1 l2
      go_enter Tryz.func47, Tryz.ntmps47
      go_wp2
      go_ret
      exact ⟨rfl, rfl⟩

end Go.Proofs.YtgcpobondcnjcaaGreatDoor
