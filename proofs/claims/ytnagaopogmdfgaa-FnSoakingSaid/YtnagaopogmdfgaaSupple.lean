/-
  FnSupple: what the drawn batches answer.
  No conditions.
-/
import Derived.Test.YtnagaopogmdfgaaDraw4
import Derived.Test.YtnagaopogmdfgaaTank
import Derived.Test.YtnagaopogmdfgaaHours
import Derived.Test.YtnagaopogmdfgaaNum
namespace Go.Proofs.Ytnagaopogmdfgaa
open Go.ChangeShapes Go.WideShapes Go.ChangeAt Go.RowKit Go.Deep

theorem okAll_mk {p : Nat → Bool} {n m : Nat} (hn : n ≤ m) (h : ∀ j, j < n → p j = true) : okAll p n m = true := by
  simp [okAll, hn]
  exact h
theorem drawn_ok {zs : List Int} {m : Nat} (hm : m ≤ 6) (h : ∀ i, i < m → dB zs i) : okAll (batchAt zs) m 10 = true :=
  okAll_mk (by omega) fun j hj => by
    have := h j hj
    unfold dB at this
    simp [batchAt, batchOk, inR]
    omega
theorem drawn_late {zs : List Int} {m : Nat} (h : ∀ i, i < m → dB zs i) {hr : Int} (hh : 60 ≤ hr) : hrF zs m hr = 0 :=
  sumTo_zero fun j hj => suppF_out (by have := h j hj; unfold dB at this; unfold stF; omega)
theorem drawn_cnt {zs : List Int} {m : Nat} (h : ∀ i, i < m → dB zs i) {b : Int} (hb : 1 ≤ b) : ∀ k : Nat, cntTo (hrP zs m b) (60 + k) = cntTo (hrP zs m b) 60
  | 0 => rfl
  | k + 1 => by
    have e : hrP zs m b (60 + k) = false := by
      have := drawn_late h (hr := ((60 + k : Nat) : Int)) (by omega)
      simp only [hrP, decide_eq_false_iff_not]
      omega
    rw [show 60 + (k + 1) = (60 + k) + 1 by omega, cntTo_no e, drawn_cnt h hb k]
theorem drawn_best {zs : List Int} {m : Nat} (hm : m ≤ 6) (h : ∀ i, i < m → dB zs i) : ∀ k : Nat, bhTo (hrF zs m) (60 + k) = bhTo (hrF zs m) 60
  | 0 => rfl
  | k + 1 => by
    have e : hrF zs m ((60 + k : Nat) : Int) = 0 := drawn_late h (by omega)
    have i := drawn_best hm h k
    have hs := (bhTo_spec (hrF zs m) 60).2
    have hn : 0 ≤ (bhTo (hrF zs m) 60).2 := by
      rcases hs with h1 | ⟨j, _, h1, h2, _⟩
      · rw [h1]; simp
      · rw [h1]; omega
    rw [show 60 + (k + 1) = (60 + k) + 1 by omega]
    show (if (bhTo (hrF zs m) (60 + k)).2 < hrF zs m ((60 + k : Nat) : Int) then _ else _) = _
    rw [if_neg (by rw [e, i]; omega), i]
/-- The best hour as FnSupple counts it: -1 where there is none. -/
def fbTo (f : Int → Int) : Nat → Int × Int
  | 0 => (-1, 0)
  | k + 1 => if (fbTo f k).2 < f k then (k, f k) else fbTo f k
theorem fbTo_is (f : Int → Int) : ∀ k : Nat, fbTo f k = (if (bhTo f k).2 = 0 then (-1, 0) else bhTo f k) ∧ 0 ≤ (bhTo f k).2 ∧ 0 ≤ (bhTo f k).1
  | 0 => by simp [fbTo, bhTo]
  | k + 1 => by
    obtain ⟨h, h0, h1⟩ := fbTo_is f k
    have h2 : (fbTo f k).2 = (bhTo f k).2 := by rw [h]; split <;> simp [*]
    by_cases hlt : (bhTo f k).2 < f k
    · have e : bhTo f (k + 1) = ((k : Int), f k) := if_pos hlt
      have e' : fbTo f (k + 1) = ((k : Int), f k) := if_pos (by rw [h2]; exact hlt)
      rw [e, e']
      exact ⟨by rw [if_neg (by show ¬ f k = 0; omega)], by show 0 ≤ f k; omega, by show (0 : Int) ≤ k; omega⟩
    · have e : bhTo f (k + 1) = bhTo f k := if_neg hlt
      have e' : fbTo f (k + 1) = fbTo f k := if_neg (by rw [h2]; exact hlt)
      rw [e, e']
      exact ⟨h, h0, h1⟩

theorem drawn_fb {zs : List Int} {m : Nat} (hm : m ≤ 6) (h : ∀ i, i < m → dB zs i) : if (fbTo (hrF zs m) 60).1 < 0 then bhC zs m = 3 else bhC zs m = 0 ∧ bhV zs m = fbTo (hrF zs m) 60 := by
  have hok := drawn_ok hm h
  have hb := drawn_best hm h 5940
  obtain ⟨f1, f2, f3⟩ := fbTo_is (hrF zs m) 60
  rcases Nat.eq_zero_or_pos m with h0 | h0
  · subst h0
    have e : ∀ k, bhTo (hrF zs 0) k = (0, 0) := by
      intro k
      induction k with
      | zero => rfl
      | succ k ih => simp [bhTo, ih, hrF, sumTo]
    rw [f1, e]
    simp [bhC, hok]
  · have hst := hrF_start hok h0
    have hd := h 0 h0
    unfold dB at hd
    have hn : (stF zs 0).toNat < 60 := by unfold stF; omega
    have e0 : (((stF zs 0).toNat : Nat) : Int) = stF zs 0 := by unfold stF; omega
    have h1 := (bhTo_spec (hrF zs m) 60).1 _ hn
    rw [e0] at h1
    have e : fbTo (hrF zs m) 60 = bhTo (hrF zs m) 60 := by rw [f1, if_neg (by omega)]
    rw [e, if_neg (by omega)]
    refine ⟨by simp [bhC, hok, h0], ?_⟩
    simp [bhV, hok, h0]
    exact hb

set_option maxRecDepth 100000 in
set_option maxHeartbeats 4000000 in
theorem fnSupple_c (A A' : Option Addr) (n c n' c' : Nat) (w : World) (h : Octets w w.heap.size A n) (h' : Octets w w.heap.size A' n') :
    Calls Try.prog 8 #[.slice A n c, .slice A' n' c'] w fun e w' => e = .returned (.bool true) ∧ Below w.heap.size w w' := by
  rcases hL : (decide (3000 < n) || decide (3000 < n')) with _ | _
  case true =>
    go_enter Try.func8, Try.ntmps8
    go_wp2_with fail
    refine (a2Long_c A A' n c n' c' w h.le h'.le).mono ?_
    rintro e w1 ⟨rfl, rfl⟩
    rw [hL]
    go_wp2
    go_ret
    exact ⟨rfl, Below.refl _ _⟩
  go_enter Try.func8, Try.ntmps8
  go_wp2_with fail
  refine (a2Long_c A A' n c n' c' w h.le h'.le).mono ?_
  rintro e w1 ⟨rfl, rfl⟩
  rw [hL]
  clear hL
  go_wp2_with fail
  refine (A2Batches_s A n c _ h).mono ?_
  rintro e w1 ⟨v, m, zs, rfl, hm, hd, hb1⟩
  obtain ⟨B, c3, rfl, hI⟩ := hd.ints
  have hdb := Lib.hid hd.bd
  have hok := Lib.hid (drawn_ok hm hd.bd)
  go_wp2_with fail
  refine (a2At_c A' n' c' 0 12 _ ((h'.below hb1 (Nat.le_refl _)).more hb1.size) (by omega)).mono ?_
  rintro e w2 ⟨x, rfl, hx0, hx1, hb2⟩
  go_wp2_with fail
  refine (best_i B m c3 zs _ ((hI.below hb2 (Nat.le_refl _)).more hb2.size) (by omega)).mono ?_
  rintro e w3 ⟨rfl, hb3⟩
  have hI3 := (hI.below (btrans hb2 hb3) (Nat.le_refl _)).more (btrans hb2 hb3).size
  have HS : Hid (shV zs m (1 + x) = cntTo (hrP zs m (1 + x)) 60 ∧ shC zs m (1 + x) = 0) := by
    show _ ∧ _
    have := drawn_cnt hdb.out (b := 1 + x) (by omega) 5940
    simp [shV, shC, hok.out, inR, show (1 : Int) ≤ 1 + x by omega, show (1 + x : Int) ≤ 1000 by omega]
    exact this
  go_wp2_with fail
  refine (hours_i B m c3 zs (1 + x) _ hI3 (by omega)).mono ?_
  rintro e w4 ⟨rfl, hb4⟩
  rw [HS.out.1, HS.out.2]
  go_wp2_with fail
  have hB4 := btrans hb1 (btrans hb2 (btrans hb3 hb4))
  have HL : Hid (Loose zs m) := loose_of (by omega) hok.out
  go_loopw [12, 13, 14, 15] (fun s t f i wr => ∃ k : Nat, k ≤ 60 ∧ i = .int .i64 k ∧ s = .int .i64 (cntTo (hrP zs m (1 + x)) k) ∧ t = .int .i64 (fbTo (hrF zs m) k).2 ∧ f = .int .i64 (fbTo (hrF zs m) k).1 ∧ Below w4.heap.size w4 wr) (fun _ _ _ i _ => 60 - (intOf i).toNat)
  case atStart => exact ⟨0, Nat.zero_le _, rfl, rfl, rfl, rfl, Below.refl _ _⟩
  case round =>
    obtain ⟨k, hk, rfl, rfl, rfl, rfl, hbel⟩ := hrel
    by_cases hlt : k < 60
    · have HV : Hid (atV suppF zs m k = sumTo (suppF zs k) m ∧ atC zs m k = 0) := by
        show _ ∧ _
        simp [atV, atC, hok.out, inR, show ((k : Nat) : Int) ≤ 10000 by omega]
      have hI5 := ((hI3.below (btrans hb4 hbel) (Nat.le_refl _)).more (btrans hb4 hbel).size)
      go_wp2_with fail
      refine (suppat_i B m c3 zs k _ hI5 (by omega)).mono ?_
      rintro e w5 ⟨rfl, hb5⟩
      rw [HV.out.1, HV.out.2]
      go_wp2_with fail
      have hB5 := btrans hbel hb5
      go_loopw [18, 19] (fun q i wr5 => ∃ j : Nat, j ≤ m ∧ i = .int .i64 j ∧ q = .int .i64 (sumTo (suppF zs k) j) ∧ Below w5.heap.size w5 wr5) (fun _ i _ => m - (intOf i).toNat)
      case atStart => exact ⟨0, Nat.zero_le _, rfl, rfl, Below.refl _ _⟩
      case round =>
        obtain ⟨j, hj, rfl, rfl, hbel5⟩ := hrel
        have hbs := supp_bd (h := (k : Int)) (HL.out) j hj
        by_cases hjm : j < m
        · have hdj := hdb.out j hjm
          unfold dB at hdj
          obtain ⟨b, off, rfl, hb, c0, c1, c2, c3'⟩ := ((hI5.below hb5 (Nat.le_refl _)).below hbel5 hb5.size).at4 hjm
          have HW1 : IntKind.i64.wrap (gi zs (j * 4) + gi zs (j * 4 + 1)) = gi zs (j * 4) + gi zs (j * 4 + 1) := IntWalk.i64_in _ (by omega)
          by_cases h1 : gi zs (j * 4) + gi zs (j * 4 + 1) ≤ (k : Int)
          · by_cases h2 : (k : Int) < gi zs (j * 4) + gi zs (j * 4 + 1) + gi zs (j * 4 + 2)
            · have HQ : Hid (sumTo (suppF zs k) (j + 1) = sumTo (suppF zs k) j + gi zs (j * 4 + 3)) := by show _ = _; rw [sumTo_succ, suppF, if_pos (by simp [inR]; omega)]
              go_wp2_with fail
              go_quiet (fail)
              go_wp2_with fail
              go_roundw
              case rel => exact ⟨j + 1, by omega, by go_num, by rw [HQ.out], bdrewN hbel5 _⟩
              case measure => simp [intOf]; omega
            · have HQ : Hid (sumTo (suppF zs k) (j + 1) = sumTo (suppF zs k) j) := by show _ = _; rw [sumTo_succ, suppF, if_neg (by simp [inR]; omega)]; omega
              go_wp2_with fail
              go_quiet (fail)
              go_wp2_with fail
              go_roundw
              case rel => exact ⟨j + 1, by omega, by go_num, by rw [HQ.out], bdrewN hbel5 _⟩
              case measure => simp [intOf]; omega
          · have HQ : Hid (sumTo (suppF zs k) (j + 1) = sumTo (suppF zs k) j) := by show _ = _; rw [sumTo_succ, suppF, if_neg (by simp [inR]; omega)]; omega
            go_wp2_with fail
            go_quiet (fail)
            go_wp2_with fail
            go_roundw
            case rel => exact ⟨j + 1, by omega, by go_num, by rw [HQ.out], bdrewN hbel5 _⟩
            case measure => simp [intOf]; omega
        · obtain rfl : j = m := by omega
          have hcb := cntTo_bd (hrP zs j (1 + x)) k
          have HF : Hid (fbTo (hrF zs j) (k + 1) = if (fbTo (hrF zs j) k).2 < sumTo (suppF zs k) j then ((k : Int), sumTo (suppF zs k) j) else fbTo (hrF zs j) k) := rfl
          by_cases h1 : 1 + x ≤ sumTo (suppF zs k) j
          all_goals
            have hC : (if 1 + x ≤ sumTo (suppF zs k) j then cntTo (hrP zs j (1 + x)) (k + 1) = cntTo (hrP zs j (1 + x)) k + 1 else cntTo (hrP zs j (1 + x)) (k + 1) = cntTo (hrP zs j (1 + x)) k) := by
              first
                | (rw [if_pos h1]; exact cntTo_yes (decide_eq_true h1))
                | (rw [if_neg h1]; exact cntTo_no (p := hrP zs j (1 + x)) (decide_eq_false h1))
            have HC := Lib.hid hC
            clear hC
            by_cases h2 : (fbTo (hrF zs j) k).2 < sumTo (suppF zs k) j
          all_goals
            go_wp2_with fail
            go_roundw
            case rel =>
              have hc := HC.out
              have hf := HF.out
              first | rw [if_pos h1] at hc | rw [if_neg h1] at hc
              first | rw [if_pos h2] at hf | rw [if_neg h2] at hf
              exact ⟨k + 1, by omega, by go_num, by rw [hc], by rw [hf], by rw [hf], (btrans hB5 hbel5)⟩
            case measure => simp [intOf]; omega
    · obtain rfl : k = 60 := by omega
      have HE : Hid (if (fbTo (hrF zs m) 60).1 < 0 then bhC zs m = 3 else bhC zs m = 0 ∧ bhV zs m = fbTo (hrF zs m) 60) := drawn_fb hm hdb.out
      go_wp2_with fail
      refine (a2At_c A' n' c' 1 30 _ ((h'.below (btrans hB4 hbel) (Nat.le_refl _)).more (btrans hB4 hbel).size) (by omega)).mono ?_
      rintro e w6 ⟨y, rfl, hy0, hy1, hb6⟩
      go_wp2_with fail
      refine (a2At_c A' n' c' 2 50 _ ((h'.below (btrans (btrans hB4 hbel) hb6) (Nat.le_refl _)).more (btrans (btrans hB4 hbel) hb6).size) (by omega)).mono ?_
      rintro e w7 ⟨z, rfl, hz0, hz1, hb7⟩
      have hB7 := btrans (btrans hB4 hbel) (btrans hb6 hb7)
      by_cases hs : z < 1 + y
      · have HL2 : Hid ((latestV (1 + y) 5 z).2 = 3) := by
          show _ = _
          simp [latestV, inR, hs, show (1 : Int) ≤ 1 + y by omega, show (1 + y : Int) ≤ 500 by omega, show (0 : Int) ≤ z by omega, show z ≤ 10000 by omega]
        by_cases h0 : (fbTo (hrF zs m) 60).1 < 0
        all_goals
          have he := HE.out
          first | rw [if_pos h0] at he | rw [if_neg h0] at he
          have HE2 := Lib.hid he
          clear he
          go_wp2_with fail
          refine (latest_i _ _ _ _).mono ?_
          rintro e w8 ⟨rfl, rfl⟩
          rw [HL2.out]
          first | rw [HE2.out.2, HE2.out.1] | rw [HE2.out]
          go_wp2_with fail
          go_ret
          exact ⟨rfl, hB7⟩
      · have HL2 : Hid ((latestV (1 + y) 5 z).2 = 0 ∧ (latestV (1 + y) 5 z).1 = z - (1 + y)) := by
          show _ ∧ _
          simp [latestV, inR, hs, show (1 : Int) ≤ 1 + y by omega, show (1 + y : Int) ≤ 500 by omega, show (0 : Int) ≤ z by omega, show z ≤ 10000 by omega]
        by_cases h0 : (fbTo (hrF zs m) 60).1 < 0
        all_goals
          have he := HE.out
          first | rw [if_pos h0] at he | rw [if_neg h0] at he
          have HE2 := Lib.hid he
          clear he
          go_wp2_with fail
          refine (latest_i _ _ _ _).mono ?_
          rintro e w8 ⟨rfl, rfl⟩
          rw [HL2.out.1, HL2.out.2]
          first | rw [HE2.out.2, HE2.out.1] | rw [HE2.out]
          have HZ : ((z - (1 + y) + (1 + y)) != z) = false := by rw [bne_eq_false_iff_eq]; omega
          go_wp2_with fail
          go_ret
          exact ⟨rfl, hB7⟩

end Go.Proofs.Ytnagaopogmdfgaa
