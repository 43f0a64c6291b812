/-
  Numbers read from texts, by the program and by the reference.
  No conditions.
-/
import Derived.Test.YtlnlohopgnocaaaDoorDec
import Derived.Test.YtlnlohopgnocaaaDoorReadP
namespace Go.Proofs.YtlnlohopgnocaaaDoor
open Go.ChangeShapes Go.WideShapes Go.ChangeAt Go.RowKit Go.Deep
set_option linter.unusedVariables false

theorem rd_none {s : ByteArray} (h : rdOk s = false) : rdV s = none := by unfold rdV; rw [h]; rfl
theorem rd_other {s : ByteArray} (h : ¬ Lib.itoa (rdN s) = s.data.toList) : rdV s = none := by unfold rdV; simp [h]
theorem rd_some {s : ByteArray} (h : rdOk s = true) (h2 : Lib.itoa (rdN s) = s.data.toList) : rdV s = some (rdN s) := by unfold rdV; simp [h, h2]
theorem rdOk_short {s : ByteArray} (h : ¬ (1 ≤ (rdL s).length ∧ (rdL s).length ≤ 18)) : rdOk s = false := by
  unfold rdOk
  rw [← Bool.decide_and, decide_eq_false h, Bool.false_and]
theorem rdOk_bad {s : ByteArray} (k : Nat) (hk : k < (rdT s).size) (h : isD (bt (rdT s) k) = false) : rdOk s = false := by
  have hm := bt_mem (rdT s) k hk
  rw [rdT_data] at hm
  have : (rdL s).all isD = false := by
    rw [Bool.eq_false_iff]; intro hh; rw [List.all_eq_true] at hh; have := hh _ hm; rw [h] at this; cases this
  unfold rdOk
  rw [this, Bool.and_false]
theorem rdOk_good {s : ByteArray} (h : 1 ≤ (rdL s).length ∧ (rdL s).length ≤ 18) (h2 : ∀ k, k < (rdT s).size → isD (bt (rdT s) k) = true) : rdOk s = true := by
  have : (rdL s).all isD = true := by
    rw [List.all_eq_true]
    intro c hc
    rw [← rdT_data] at hc
    obtain ⟨i, hi, e⟩ := List.mem_iff_getElem.1 hc
    have hi' : i < (rdT s).size := by simpa using hi
    have := h2 i hi'
    unfold bt at this
    rw [List.getD, List.getElem?_eq_getElem hi] at this
    rw [← e]; exact this
  unfold rdOk
  rw [this, ← Bool.decide_and, decide_eq_true h]; rfl
theorem take_snoc' (t : ByteArray) (k : Nat) (h : k < t.size) : t.data.toList.take (k + 1) = t.data.toList.take k ++ [bt t k] := by
  have h' : k < t.data.toList.length := by simpa using h
  rw [List.take_succ_eq_append_getElem h']
  unfold bt
  rw [List.getD, List.getElem?_eq_getElem h']
  rfl
theorem val_bd (t : ByteArray) (k : Nat) (hk : k ≤ t.size) (h18 : t.size ≤ 18) (h : ∀ j, j < k → isD (bt t j) = true) : valL (t.data.toList.take k) < 1000000000000000000 := by
  have hl : (t.data.toList.take k).length = k := by simp; omega
  have := valL_lt k (t.data.toList.take k) hl (fun c hc => by
    obtain ⟨i, hi, e⟩ := List.mem_iff_getElem.1 hc
    have hi' : i < k := by omega
    have := h i hi'
    unfold bt at this
    have hi2 : i < t.data.toList.length := by simp; omega
    rw [List.getD, List.getElem?_eq_getElem hi2] at this
    rw [List.getElem_take] at e
    rw [← e]; exact this)
  have h2 : 10 ^ k ≤ 10 ^ 18 := Nat.pow_le_pow_right (by omega) (by omega)
  have h3 : 10 ^ 18 = 1000000000000000000 := by decide
  omega
theorem val_bd2 (t : ByteArray) (k : Nat) (hk : k ≤ t.size) (h17 : k ≤ 17) (h : ∀ j, j < k → isD (bt t j) = true) : valL (t.data.toList.take k) < 100000000000000000 := by
  have hl : (t.data.toList.take k).length = k := by simp; omega
  have := valL_lt k (t.data.toList.take k) hl (fun c hc => by
    obtain ⟨i, hi, e⟩ := List.mem_iff_getElem.1 hc
    have hi' : i < k := by omega
    have := h i hi'
    unfold bt at this
    have hi2 : i < t.data.toList.length := by simp; omega
    rw [List.getD, List.getElem?_eq_getElem hi2] at this
    rw [List.getElem_take] at e
    rw [← e]; exact this)
  have h2 : 10 ^ k ≤ 10 ^ 17 := Nat.pow_le_pow_right (by omega) h17
  have h3 : 10 ^ 17 = 100000000000000000 := by decide
  omega
theorem val_step (t : ByteArray) (k : Nat) (h : k < t.size) (hd : isD (bt t k) = true) : ((valL (t.data.toList.take (k + 1)) : Nat) : Int) = ((valL (t.data.toList.take k) : Nat) : Int) * 10 + (((bt t k).toNat : Int) - 48) := by
  have := isD_bd hd
  rw [take_snoc' t k h, valL_snoc]
  omega
/-- What stands behind the loop: all are digits, and the number that they tell. -/
theorem rd_all (s : ByteArray) : valL ((rdT s).data.toList.take (rdT s).size) = valL (rdL s) := by
  rw [List.take_of_length_le (by simp), rdT_data]
theorem str_eq (l : List UInt8) (s : ByteArray) : (l == s.toList) = decide (l = s.data.toList) := by
  rw [Go.ByteArray.toList_eq, Bool.eq_iff_iff, beq_iff_eq, decide_eq_true_iff]

theorem l01Digit_c (n : Int) (w : World) : Calls Tryd.prog 52 #[.int .u8 n] w fun e w' => e = .returned (.bool (inR n 48 57)) ∧ w = w' := by
  by_cases h1 : 48 ≤ n <;> by_cases h2 : n ≤ 57
  all_goals
    go_enter Tryd.func52, Tryd.ntmps52
    go_wp2
    go_ret
    simp [inR, h1, h2]
set_option maxRecDepth 100000 in
set_option maxHeartbeats 4000000 in
theorem read_i (s : ByteArray) (w : World) (hs : s.size ≤ 2097152) (ht : Tens w) :
    Calls Tryd.prog 15 #[.string s] w fun e w' => e = .returned (.tuple #[.int .i64 ((rdV s).getD 0), .bool (rdV s).isSome]) ∧ Below w.heap.size w w' := by
  have HTN := Lib.hid ht
  clear ht
  have hc := Tryd.strings_TrimPrefix s ⟨#[45]⟩ w
  obtain ⟨t, hT⟩ : ∃ t, rdT s = t := ⟨_, rfl⟩
  have hc2 : Calls Tryd.prog 37 #[.string s, .string ⟨#[45]⟩] w fun e w' => e = .returned (.string t) ∧ w' = w := by rw [← hT]; exact hc
  clear hc
  have HT := Lib.hid hT
  clear hT
  go_enter Tryd.func15, Tryd.ntmps15
  go_wp2_with fail
  refine hc2.mono ?_
  rintro e w1 ⟨rfl, rfl⟩
  clear hc2
  have b1 := Below.refl w1.heap.size w1
  by_cases hlen : 1 ≤ t.size ∧ t.size ≤ 18
  · obtain ⟨hl1, hl2⟩ := hlen
    go_wp2_with fail
    go_loop [5, 6] (fun n i => ∃ k : Nat, k ≤ t.size ∧ i = .int .i64 k ∧ n = .int .i64 (valL (t.data.toList.take k) : Nat) ∧ Hid (∀ j, j < k → isD (bt t j) = true)) (fun _ i => t.size - (intOf i).toNat)
    case atStart => exact ⟨0, Nat.zero_le _, rfl, rfl, fun j h => absurd h (by omega)⟩
    case round =>
      obtain ⟨k, hk, rfl, rfl, HK⟩ := hrel
      have hvb := val_bd t k hk (by omega) HK.out
      have hv17 : k < t.size → valL (t.data.toList.take k) < 100000000000000000 := fun h => val_bd2 t k (by omega) (by omega) HK.out
      by_cases hlt : k < t.size
      · have hv1 := hv17 hlt
        clear hv17
        have hb := bt_at t k hlt
        have HB := Lib.hid hb
        clear hb
        rcases hd : isD t[k] with _ | _
        · have HV : Hid (rdV s = none) := by
            show _ = _
            refine rd_none (rdOk_bad k (by rw [HT.out]; exact hlt) ?_)
            rw [HT.out, ← HB.out]; exact hd
          have hd2 : ¬ ((48 : Int) ≤ (t[k].toNat : Int) ∧ (t[k].toNat : Int) ≤ 57) := by
            rw [isD, Bool.and_eq_false_iff, decide_eq_false_iff_not, decide_eq_false_iff_not] at hd
            omega
          clear hd
          by_cases hl48 : (48 : Int) ≤ (t[k].toNat : Int)
          · have hl57 : (57 : Int) < (t[k].toNat : Int) := by omega
            clear hd2
            go_wp2
            go_ret2
            exact ⟨by rw [HV.out]; rfl, b1⟩
          · clear hd2
            go_wp2
            go_ret2
            exact ⟨by rw [HV.out]; rfl, b1⟩
        · have hdb := isD_bd hd
          have HS := Lib.hid (val_step t k hlt (by rw [← HB.out]; exact hd))
          have HN : Hid (∀ j, j < k + 1 → isD (bt t j) = true) := fun j hj => by
            rcases Nat.lt_or_ge j k with hh | hh
            · exact HK.out j hh
            · obtain rfl : j = k := by omega
              rw [← HB.out]; exact hd
          have hd0 : (48 : Int) ≤ (t[k].toNat : Int) := by omega
          have hd1 : (t[k].toNat : Int) ≤ 57 := by omega
          clear hd hdb
          go_wp2_with fail
          go_round
          case rel => exact ⟨k + 1, by omega, by go_num, by rw [HS.out, ← HB.out]; try go_num, HN⟩
          case measure => simp [intOf]; omega
      · clear hv17
        obtain rfl : k = t.size := by omega
        have hok : rdOk s = true := rdOk_good ⟨by have := rdT_size s; rw [HT.out] at this; omega, by have := rdT_size s; rw [HT.out] at this; omega⟩ (fun j hj => by rw [HT.out] at hj ⊢; exact HK.out j hj)
        have hval : valL (t.data.toList.take t.size) = valL (rdL s) := by have := rd_all s; rw [HT.out] at this; exact this
        have HVL := Lib.hid hval
        have hvb2 : valL (rdL s) < 1000000000000000000 := by rw [← hval]; exact hvb
        rw [hval]
        clear hval hvb
        have hsz : t.size = (rdL s).length := by rw [← rdT_size s, HT.out]
        have HSZ := Lib.hid hsz
        clear hsz
        by_cases hneg : t.size < s.size
        · have hn : rdN s = -((valL (rdL s) : Nat) : Int) := by unfold rdN; rw [if_pos (by rw [← HSZ.out]; exact hneg)]
          have HNN := Lib.hid hn
          clear hn
          go_wp2_with fail
          refine (dec_i _ _ (by omega) (by omega) HTN.out).mono ?_
          rintro e w2 ⟨rfl, b2⟩
          rw [← HNN.out]
          rcases heq : decide (Lib.itoa (rdN s) = s.data.toList) with _ | _
          · have HV := Lib.hid (rd_other (of_decide_eq_false heq))
            have hst := str_eq (Lib.itoa (rdN s)) s
            rw [heq] at hst
            clear heq
            have hst2 : (Lib.itoa (rdN s) != s.toList) = true := by rw [bne, hst]; rfl
            go_wp2
            go_ret2
            exact ⟨by rw [HV.out]; rfl, btrans b1 b2⟩
          · have HV := Lib.hid (rd_some hok (of_decide_eq_true heq))
            have hst := str_eq (Lib.itoa (rdN s)) s
            rw [heq] at hst
            clear heq
            have hst2 : (Lib.itoa (rdN s) != s.toList) = false := by rw [bne, hst]; rfl
            go_wp2
            go_ret2
            exact ⟨by rw [HV.out, HNN.out]; rfl, btrans b1 b2⟩
        · have hn : rdN s = ((valL (rdL s) : Nat) : Int) := by unfold rdN; rw [if_neg (by rw [← HSZ.out]; exact hneg)]
          have HNN := Lib.hid hn
          clear hn
          go_wp2_with fail
          refine (dec_i _ _ (by omega) (by omega) HTN.out).mono ?_
          rintro e w2 ⟨rfl, b2⟩
          rw [← HNN.out]
          rcases heq : decide (Lib.itoa (rdN s) = s.data.toList) with _ | _
          · have HV := Lib.hid (rd_other (of_decide_eq_false heq))
            have hst := str_eq (Lib.itoa (rdN s)) s
            rw [heq] at hst
            clear heq
            have hst2 : (Lib.itoa (rdN s) != s.toList) = true := by rw [bne, hst]; rfl
            go_wp2
            go_ret2
            exact ⟨by rw [HV.out]; rfl, btrans b1 b2⟩
          · have HV := Lib.hid (rd_some hok (of_decide_eq_true heq))
            have hst := str_eq (Lib.itoa (rdN s)) s
            rw [heq] at hst
            clear heq
            have hst2 : (Lib.itoa (rdN s) != s.toList) = false := by rw [bne, hst]; rfl
            go_wp2
            go_ret2
            exact ⟨by rw [HV.out, HNN.out]; rfl, btrans b1 b2⟩
  · have HV : Hid (rdV s = none) := by
      show _ = _
      refine rd_none (rdOk_short ?_)
      have := rdT_size s
      rw [HT.out] at this; omega
    by_cases hl1 : 1 ≤ t.size
    · have hl2 : 18 < t.size := by omega
      clear hlen
      go_wp2
      go_ret2
      exact ⟨by rw [HV.out]; rfl, b1⟩
    · clear hlen
      go_wp2
      go_ret2
      exact ⟨by rw [HV.out]; rfl, b1⟩
set_option maxRecDepth 100000 in
set_option maxHeartbeats 4000000 in
theorem num_s (s : ByteArray) (w : World) (hs : s.size ≤ 2097152) :
    Calls Tryd.prog 36 #[.string s] w fun e w' => e = .returned (.tuple #[.int .i64 ((rdV s).getD 0), .bool (rdV s).isSome]) ∧ Below w.heap.size w w' := by
  obtain ⟨w1, rfl⟩ : ∃ w1, w1 = w := ⟨_, rfl⟩
  have b1 := Below.refl w1.heap.size w1
  rcases Nat.eq_zero_or_pos s.size with h0 | h0
  · have he : s.toList.isEmpty = true := by
      rw [List.isEmpty_iff, Go.ByteArray.toList_eq]; exact List.eq_nil_of_length_eq_zero (by simpa using h0)
    have HT := Lib.hid (rdL_plain s (.inl h0))
    have HV : Hid (rdV s = none) := by
      show _ = _
      refine rd_none (rdOk_short ?_)
      have := rdT_size s
      rw [HT.out] at this; omega
    go_enter Tryd.func36, Tryd.ntmps36
    go_wp2
    go_ret2
    exact ⟨by rw [HV.out]; rfl, b1⟩
  · have he : s.toList.isEmpty = false := by
      rcases hl : s.toList with _ | ⟨a, l⟩
      · rw [Go.ByteArray.toList_eq] at hl
        have : s.data.toList.length = s.size := by simp
        rw [hl] at this; simp at this; omega
      · rfl
    have hb0 := bt_at s 0 h0
    have HB0 := Lib.hid hb0
    clear hb0
    by_cases h45 : (s[0].toNat : Int) = 45
    · have hT : rdT s = s.extract 1 s.size := rdL_dash s h0 (by
        rw [← HB0.out]
        apply UInt8.toNat_inj.1
        have e : (45 : UInt8).toNat = 45 := rfl
        rw [e]; omega)
      have hd : ((s[0].toNat : Int) == 45) = true := by rw [beq_iff_eq]; exact h45
      clear h45
      go_enter Tryd.func36, Tryd.ntmps36
      go_upto_region 4 with fail
      rw [← hT]
      obtain ⟨t, hT2⟩ : ∃ t, rdT s = t := ⟨_, rfl⟩
      rw [hT2]
      have HT := Lib.hid hT2
      clear hT hT2
      by_cases hlen : 1 ≤ t.size ∧ t.size ≤ 18
      · obtain ⟨hl1, hl2⟩ := hlen
        go_wp2_with fail
        go_loop [5, 6] (fun n i => ∃ k : Nat, k ≤ t.size ∧ i = .int .i64 k ∧ n = .int .i64 (valL (t.data.toList.take k) : Nat) ∧ Hid (∀ j, j < k → isD (bt t j) = true)) (fun _ i => t.size - (intOf i).toNat)
        case atStart => exact ⟨0, Nat.zero_le _, rfl, rfl, fun j h => absurd h (by omega)⟩
        case round =>
          obtain ⟨k, hk, rfl, rfl, HK⟩ := hrel
          have hvb := val_bd t k hk (by omega) HK.out
          have hv17 : k < t.size → valL (t.data.toList.take k) < 100000000000000000 := fun h => val_bd2 t k (by omega) (by omega) HK.out
          by_cases hlt : k < t.size
          · have hv1 := hv17 hlt
            clear hv17
            have hb := bt_at t k hlt
            have HB := Lib.hid hb
            clear hb
            rcases hd : isD t[k] with _ | _
            · have HV : Hid (rdV s = none) := by
                show _ = _
                refine rd_none (rdOk_bad k (by rw [HT.out]; exact hlt) ?_)
                rw [HT.out, ← HB.out]; exact hd
              have hd2 : ¬ ((48 : Int) ≤ (t[k].toNat : Int) ∧ (t[k].toNat : Int) ≤ 57) := by
                rw [isD, Bool.and_eq_false_iff, decide_eq_false_iff_not, decide_eq_false_iff_not] at hd
                omega
              clear hd
              go_wp2_with fail
              refine (l01Digit_c _ _).mono ?_
              rintro e w2 ⟨rfl, rfl⟩
              have HD : Hid (inR (t[k].toNat : Int) 48 57 = false) := by show _ = _; unfold inR; rw [← Bool.decide_and, decide_eq_false_iff_not]; exact hd2
              rw [HD.out]
              go_wp2
              go_ret2
              exact ⟨by rw [HV.out]; rfl, b1⟩
            · have hdb := isD_bd hd
              have HS := Lib.hid (val_step t k hlt (by rw [← HB.out]; exact hd))
              have HN : Hid (∀ j, j < k + 1 → isD (bt t j) = true) := fun j hj => by
                rcases Nat.lt_or_ge j k with hh | hh
                · exact HK.out j hh
                · obtain rfl : j = k := by omega
                  rw [← HB.out]; exact hd
              have hd0 : (48 : Int) ≤ (t[k].toNat : Int) := by omega
              have hd1 : (t[k].toNat : Int) ≤ 57 := by omega
              clear hd hdb
              go_wp2_with fail
              refine (l01Digit_c _ _).mono ?_
              rintro e w2 ⟨rfl, rfl⟩
              have HD : Hid (inR (t[k].toNat : Int) 48 57 = true) := by show _ = _; unfold inR; rw [← Bool.decide_and, decide_eq_true_iff]; exact ⟨hd0, hd1⟩
              rw [HD.out]
              go_wp2_with fail
              go_round
              case rel => exact ⟨k + 1, by omega, by go_num, by rw [HS.out, ← HB.out]; try go_num, HN⟩
              case measure => simp [intOf]; omega
          · clear hv17
            obtain rfl : k = t.size := by omega
            have hok : rdOk s = true := rdOk_good ⟨by have := rdT_size s; rw [HT.out] at this; omega, by have := rdT_size s; rw [HT.out] at this; omega⟩ (fun j hj => by rw [HT.out] at hj ⊢; exact HK.out j hj)
            have hval : valL (t.data.toList.take t.size) = valL (rdL s) := by have := rd_all s; rw [HT.out] at this; exact this
            have HVL := Lib.hid hval
            have hvb2 : valL (rdL s) < 1000000000000000000 := by rw [← hval]; exact hvb
            rw [hval]
            clear hval hvb
            have hsz : t.size = (rdL s).length := by rw [← rdT_size s, HT.out]
            have HSZ := Lib.hid hsz
            clear hsz
            by_cases hneg : t.size < s.size
            · have hn : rdN s = -((valL (rdL s) : Nat) : Int) := by unfold rdN; rw [if_pos (by rw [← HSZ.out]; exact hneg)]
              have HNN := Lib.hid hn
              clear hn
              go_wp2_with fail
              refine (l01Dec_c _ _ (by omega) (by omega)).mono ?_
              rintro e w2 ⟨rfl, b2⟩
              rw [← HNN.out]
              rcases heq : decide (Lib.itoa (rdN s) = s.data.toList) with _ | _
              · have HV := Lib.hid (rd_other (of_decide_eq_false heq))
                have hst := str_eq (Lib.itoa (rdN s)) s
                rw [heq] at hst
                clear heq
                have hst2 : (Lib.itoa (rdN s) != s.toList) = true := by rw [bne, hst]; rfl
                go_wp2
                go_ret2
                exact ⟨by rw [HV.out]; rfl, btrans b1 b2⟩
              · have HV := Lib.hid (rd_some hok (of_decide_eq_true heq))
                have hst := str_eq (Lib.itoa (rdN s)) s
                rw [heq] at hst
                clear heq
                have hst2 : (Lib.itoa (rdN s) != s.toList) = false := by rw [bne, hst]; rfl
                go_wp2
                go_ret2
                exact ⟨by rw [HV.out, HNN.out]; rfl, btrans b1 b2⟩
            · have hn : rdN s = ((valL (rdL s) : Nat) : Int) := by unfold rdN; rw [if_neg (by rw [← HSZ.out]; exact hneg)]
              have HNN := Lib.hid hn
              clear hn
              go_wp2_with fail
              refine (l01Dec_c _ _ (by omega) (by omega)).mono ?_
              rintro e w2 ⟨rfl, b2⟩
              rw [← HNN.out]
              rcases heq : decide (Lib.itoa (rdN s) = s.data.toList) with _ | _
              · have HV := Lib.hid (rd_other (of_decide_eq_false heq))
                have hst := str_eq (Lib.itoa (rdN s)) s
                rw [heq] at hst
                clear heq
                have hst2 : (Lib.itoa (rdN s) != s.toList) = true := by rw [bne, hst]; rfl
                go_wp2
                go_ret2
                exact ⟨by rw [HV.out]; rfl, btrans b1 b2⟩
              · have HV := Lib.hid (rd_some hok (of_decide_eq_true heq))
                have hst := str_eq (Lib.itoa (rdN s)) s
                rw [heq] at hst
                clear heq
                have hst2 : (Lib.itoa (rdN s) != s.toList) = false := by rw [bne, hst]; rfl
                go_wp2
                go_ret2
                exact ⟨by rw [HV.out, HNN.out]; rfl, btrans b1 b2⟩
      · have HV : Hid (rdV s = none) := by
          show _ = _
          refine rd_none (rdOk_short ?_)
          have := rdT_size s
          rw [HT.out] at this; omega
        by_cases hl1 : 1 ≤ t.size
        · have hl2 : 18 < t.size := by omega
          clear hlen
          go_wp2
          go_ret2
          exact ⟨by rw [HV.out]; rfl, b1⟩
        · clear hlen
          go_wp2
          go_ret2
          exact ⟨by rw [HV.out]; rfl, b1⟩
    · have HT := Lib.hid (rdL_plain s (.inr (by
        rw [← HB0.out]
        intro e
        apply h45
        rw [e]; rfl)))
      have hd : ((s[0].toNat : Int) == 45) = false := by rw [beq_eq_false_iff_ne]; exact h45
      clear h45
      go_enter Tryd.func36, Tryd.ntmps36
      go_upto_region 4 with fail
      by_cases hlen : 1 ≤ s.size ∧ s.size ≤ 18
      · obtain ⟨hl1, hl2⟩ := hlen
        go_wp2_with fail
        go_loop [5, 6] (fun n i => ∃ k : Nat, k ≤ s.size ∧ i = .int .i64 k ∧ n = .int .i64 (valL (s.data.toList.take k) : Nat) ∧ Hid (∀ j, j < k → isD (bt s j) = true)) (fun _ i => s.size - (intOf i).toNat)
        case atStart => exact ⟨0, Nat.zero_le _, rfl, rfl, fun j h => absurd h (by omega)⟩
        case round =>
          obtain ⟨k, hk, rfl, rfl, HK⟩ := hrel
          have hvb := val_bd s k hk (by omega) HK.out
          have hv17 : k < s.size → valL (s.data.toList.take k) < 100000000000000000 := fun h => val_bd2 s k (by omega) (by omega) HK.out
          by_cases hlt : k < s.size
          · have hv1 := hv17 hlt
            clear hv17
            have hb := bt_at s k hlt
            have HB := Lib.hid hb
            clear hb
            rcases hd : isD s[k] with _ | _
            · have HV : Hid (rdV s = none) := by
                show _ = _
                refine rd_none (rdOk_bad k (by rw [HT.out]; exact hlt) ?_)
                rw [HT.out, ← HB.out]; exact hd
              have hd2 : ¬ ((48 : Int) ≤ (s[k].toNat : Int) ∧ (s[k].toNat : Int) ≤ 57) := by
                rw [isD, Bool.and_eq_false_iff, decide_eq_false_iff_not, decide_eq_false_iff_not] at hd
                omega
              clear hd
              go_wp2_with fail
              refine (l01Digit_c _ _).mono ?_
              rintro e w2 ⟨rfl, rfl⟩
              have HD : Hid (inR (s[k].toNat : Int) 48 57 = false) := by show _ = _; unfold inR; rw [← Bool.decide_and, decide_eq_false_iff_not]; exact hd2
              rw [HD.out]
              go_wp2
              go_ret2
              exact ⟨by rw [HV.out]; rfl, b1⟩
            · have hdb := isD_bd hd
              have HS := Lib.hid (val_step s k hlt (by rw [← HB.out]; exact hd))
              have HN : Hid (∀ j, j < k + 1 → isD (bt s j) = true) := fun j hj => by
                rcases Nat.lt_or_ge j k with hh | hh
                · exact HK.out j hh
                · obtain rfl : j = k := by omega
                  rw [← HB.out]; exact hd
              have hd0 : (48 : Int) ≤ (s[k].toNat : Int) := by omega
              have hd1 : (s[k].toNat : Int) ≤ 57 := by omega
              clear hd hdb
              go_wp2_with fail
              refine (l01Digit_c _ _).mono ?_
              rintro e w2 ⟨rfl, rfl⟩
              have HD : Hid (inR (s[k].toNat : Int) 48 57 = true) := by show _ = _; unfold inR; rw [← Bool.decide_and, decide_eq_true_iff]; exact ⟨hd0, hd1⟩
              rw [HD.out]
              go_wp2_with fail
              go_round
              case rel => exact ⟨k + 1, by omega, by go_num, by rw [HS.out, ← HB.out]; try go_num, HN⟩
              case measure => simp [intOf]; omega
          · clear hv17
            obtain rfl : k = s.size := by omega
            have hok : rdOk s = true := rdOk_good ⟨by have := rdT_size s; rw [HT.out] at this; omega, by have := rdT_size s; rw [HT.out] at this; omega⟩ (fun j hj => by rw [HT.out] at hj ⊢; exact HK.out j hj)
            have hval : valL (s.data.toList.take s.size) = valL (rdL s) := by have := rd_all s; rw [HT.out] at this; exact this
            have HVL := Lib.hid hval
            have hvb2 : valL (rdL s) < 1000000000000000000 := by rw [← hval]; exact hvb
            rw [hval]
            clear hval hvb
            have hsz : s.size = (rdL s).length := by rw [← rdT_size s, HT.out]
            have HSZ := Lib.hid hsz
            clear hsz
            by_cases hneg : s.size < s.size
            · exact absurd hneg (Nat.lt_irrefl _)
            · have hn : rdN s = ((valL (rdL s) : Nat) : Int) := by unfold rdN; rw [if_neg (by rw [← HSZ.out]; exact hneg)]
              have HNN := Lib.hid hn
              clear hn
              go_wp2_with fail
              refine (l01Dec_c _ _ (by omega) (by omega)).mono ?_
              rintro e w2 ⟨rfl, b2⟩
              rw [← HNN.out]
              rcases heq : decide (Lib.itoa (rdN s) = s.data.toList) with _ | _
              · have HV := Lib.hid (rd_other (of_decide_eq_false heq))
                have hst := str_eq (Lib.itoa (rdN s)) s
                rw [heq] at hst
                clear heq
                have hst2 : (Lib.itoa (rdN s) != s.toList) = true := by rw [bne, hst]; rfl
                go_wp2
                go_ret2
                exact ⟨by rw [HV.out]; rfl, btrans b1 b2⟩
              · have HV := Lib.hid (rd_some hok (of_decide_eq_true heq))
                have hst := str_eq (Lib.itoa (rdN s)) s
                rw [heq] at hst
                clear heq
                have hst2 : (Lib.itoa (rdN s) != s.toList) = false := by rw [bne, hst]; rfl
                go_wp2
                go_ret2
                exact ⟨by rw [HV.out, HNN.out]; rfl, btrans b1 b2⟩
      · have HV : Hid (rdV s = none) := by
          show _ = _
          refine rd_none (rdOk_short ?_)
          have := rdT_size s
          rw [HT.out] at this; omega
        by_cases hl1 : 1 ≤ s.size
        · have hl2 : 18 < s.size := by omega
          clear hlen
          go_wp2
          go_ret2
          exact ⟨by rw [HV.out]; rfl, b1⟩
        · exact absurd h0 (by omega)
theorem read_s (s : ByteArray) (w : World) (hs : s.size ≤ 2097152) :
    Calls Tryd.prog 14 #[.string s] w fun e w' => e = .returned (.tuple #[.int .i64 ((rdV s).getD 0), .bool (rdV s).isSome]) ∧ Below w.heap.size w w' := by
  go_enter Tryd.func14, Tryd.ntmps14
  go_wp2_with fail
  refine (num_s s _ hs).mono ?_
  rintro e w1 ⟨rfl, b1⟩
  go_wp2
  go_ret2
  exact ⟨rfl, b1⟩
end Go.Proofs.YtlnlohopgnocaaaDoor
