/-
  The need that beds meet in each of some years: the walks.
  No conditions.
-/
import Derived.Test.YtnlddplhaiceaaaSteadyP
namespace Go.Proofs.Ytnlddplhaiceaaa
open Go.ChangeShapes Go.WideShapes Go.ChangeAt Go.RowKit Go.Deep
set_option linter.unusedVariables false

theorem okAll_len {bs : Nat → List Int × Int} {n : Nat} (hok : okAll (bedAt bs) n 8 = true) : ∀ i, i < n → 1 ≤ (yl bs i).length := fun i hi => (bedOk_bd (okAll_get hok hi)).1
theorem bedOk_age {ys : List Int} {a a' : Int} (h : bedOk ys a = true) (h0 : 0 ≤ a') (h1 : a' ≤ ys.length) : bedOk ys a' = true := by
  simp only [bedOk, Bool.and_eq_true] at h ⊢
  exact ⟨h.1, by simp [inR]; omega⟩
theorem aftS_ok {bs : Nat → List Int × Int} {n : Nat} (hok : okAll (bedAt bs) n 8 = true) (S : Nat) : okAll (bedAt (aftS bs n S)) n 8 = true := by
  have hle := okAll_le hok
  have hall : ∀ i, i < n → bedAt (aftS bs n S) i = true := by
    intro i hi
    have h := okAll_get hok hi
    have hb := bedOk_bd h
    have hc := cutA_bd hok (selTo (Nat.testBit S) n) (selTo (Nat.testBit S) n).length hi
    unfold bedAt
    refine bedOk_age (a := ag bs i) (ys := yl (aftS bs n S) i) h ?_ ?_
    · show 0 ≤ (if cutA bs (selTo (Nat.testBit S) n) (selTo (Nat.testBit S) n).length i + 1 < ((yl bs i).length : Int) then cutA bs (selTo (Nat.testBit S) n) (selTo (Nat.testBit S) n).length i + 1 else ((yl bs i).length : Int))
      split <;> omega
    · show (if cutA bs (selTo (Nat.testBit S) n) (selTo (Nat.testBit S) n).length i + 1 < ((yl bs i).length : Int) then cutA bs (selTo (Nat.testBit S) n) (selTo (Nat.testBit S) n).length i + 1 else ((yl bs i).length : Int)) ≤ ((yl bs i).length : Int)
      split <;> omega
  rw [okAll_end hall]
  simpa using hle
theorem aftS_short {bs : Nat → List Int × Int} {n : Nat} (hs : Short bs n) (S : Nat) : Short (aftS bs n S) n := hs
theorem anyB_next {p : Nat → Bool} {k : Nat} (h : anyB p k = false) (hk : p k = false) : anyB p (k + 1) = false := by rw [anyB_succ, h, hk]; rfl

set_option maxRecDepth 100000 in
set_option maxHeartbeats 4000000 in
theorem meets_s : ∀ (y : Nat), y ≤ 3 → ∀ (A : Option Addr) (n c : Nat) (bs : Nat → List Int × Int) (need : Int) (w : World), Beds w w.heap.size A n bs → Short bs n → (∀ i, i < n → ∀ z ∈ yl bs i, -9223372036854775808 ≤ z ∧ z ≤ 9223372036854775807) → okAll (bedAt bs) n 8 = true →
    Calls Try.prog 47 #[.slice A n c, .int .i64 (y : Int), .int .i64 need] w fun e w' => e = .returned (.bool (meets n need y bs)) ∧ Below w.heap.size w w'
  | 0, _, A, n, c, bs, need, w, h, hs, hw, hok => by
    go_enter Try.func47, Try.ntmps47
    go_wp2
    go_ret
    exact ⟨rfl, Below.refl _ _⟩
  | y + 1, hy, A, n, c, bs, need, w, h, hs, hw, hok => by
    have IH := Lib.hid (meets_s y (by omega))
    have hn := okAll_le hok
    have hshl := shl_one n (by omega)
    have hp := pow_bd (n := n) (by omega)
    have HMt : Hid (meets n need (y + 1) bs = anyB (fun S => decide (need ≤ bsum bs n S) && meets n need y (aftS bs n S)) (2 ^ n)) := meets_succ n need y bs
    obtain ⟨K, hK⟩ : ∃ K : Nat, K = 2 ^ n := ⟨_, rfl⟩
    rw [← hK] at hshl hp HMt
    have HK2 := Lib.hid hK
    clear hK
    have hshl2 : IntKind.i64.wrap ((2 : Int) ^ n) = (K : Int) := by rw [← hshl]; exact IntWalk.i64_left _
    have hyz : (((y + 1 : Nat) : Int) == 0) = false := by simp; omega
    have HS := Lib.hid (And.intro hs hw)
    clear hs hw
    have hy1 : (((y + 1 : Nat) : Int) - 1) = (y : Int) := by omega
    obtain ⟨Y, hY⟩ : ∃ Y : Int, ((y + 1 : Nat) : Int) = Y := ⟨_, rfl⟩
    rw [hY] at hyz hy1
    have hYb : 1 ≤ Y ∧ Y ≤ 3 := by omega
    rw [hY]
    clear hY
    go_enter Try.func47, Try.ntmps47
    go_wp2_with fail
    go_loopw [7] (fun i wr => ∃ k : Nat, k ≤ K ∧ i = .int .i64 k ∧ Hid (anyB (fun S => decide (need ≤ bsum bs n S) && meets n need y (aftS bs n S)) k = false) ∧ Below w.heap.size w wr) (fun i _ => K - (intOf i).toNat)
    case atStart => exact ⟨0, Nat.zero_le _, rfl, rfl, Below.refl _ _⟩
    case round =>
      obtain ⟨k, hk, rfl, HA, hbel⟩ := hrel
      by_cases hlt : k < K
      · have hlt2 : (k : Int) < K := by omega
        have hS : k < 2 ^ n := by rw [← HK2.out]; exact hlt
        have hbb := bsum_bd hok (Nat.testBit k) n (Nat.le_refl _)
        have HBs : Hid (bsum bs n k = sumTo (fun i => if k.testBit i then yNow bs i else 0) n) := rfl
        go_wp2_with fail
        refine (sum_s A n c k bs wr (h.on hbel) hok (by omega)).mono ?_
        rintro e w3 ⟨rfl, hb3⟩
        have HX3 := Lib.hid (btrans hbel hb3)
        clear hb3 hbel hbb
        obtain ⟨sm, hsm⟩ : ∃ sm, bsum bs n k = sm := ⟨_, rfl⟩
        rw [hsm]
        have HSm := Lib.hid hsm
        clear hsm HBs
        by_cases q1 : need ≤ sm
        · have q2 : ¬ sm < need := by omega
          go_wp2_with fail
          refine (members_s k n (by omega) (by omega) w3).mono ?_
          rintro e w2 ⟨v2, rfl, hn2, ho2, hb2⟩
          obtain ⟨A2, cap2, rfl, i2, -⟩ := ho2.ints (fun z hz => by have := selTo_mem _ _ _ hz; omega)
          have hll := selTo_len (Nat.testBit k) n
          have HX2 := Lib.hid (btrans HX3.out hb2)
          clear hn2 ho2 hb2
          obtain ⟨L, hL⟩ : ∃ L, selTo (Nat.testBit k) n = L := ⟨_, rfl⟩
          rw [hL] at i2 hll ⊢
          have HL := Lib.hid hL
          clear hL
          obtain ⟨m, hmL⟩ : ∃ m, L.length = m := ⟨_, rfl⟩
          rw [hmL] at i2 hll ⊢
          have HM := Lib.hid hmL
          clear hmL
          go_wp2_with fail
          refine (after_s A A2 n c m cap2 bs L w2 (h.on HX2.out) hok i2 (by omega)).mono ?_
          rintro e w4 ⟨v4, rfl, o4, b4⟩
          have HAf : Hid (aftB bs L m = aftS bs n k) := by show _ = _; rw [← HM.out, ← HL.out]; rfl
          rw [HAf.out] at o4
          have HX4 := Lib.hid (btrans HX2.out b4)
          obtain ⟨A4, cap4, rfl, B4⟩ := o4.beds HS.out.1 HS.out.2
          clear o4 b4 i2
          have hok4 := Lib.hid (aftS_ok hok k)
          rcases hq : meets n need y (aftS bs n k) with _ | _
          · have HNx : Hid (anyB (fun S => decide (need ≤ bsum bs n S) && meets n need y (aftS bs n S)) (k + 1) = false) := anyB_next HA.out (by simp only [hq, Bool.and_false])
            go_wp2_with fail
            refine (IH.out A4 n cap4 (aftS bs n k) need w4 B4 HS.out.1 HS.out.2 hok4.out).mono ?_
            rintro e w5 ⟨rfl, b5⟩
            rw [hq]
            have HX5 := Lib.hid (btrans HX4.out b5)
            clear b5 B4
            go_wp2_with fail
            go_roundw
            case rel => exact ⟨k + 1, by omega, by go_num, HNx, HX5.out⟩
            case measure => simp [intOf]; omega
          · have HNx : Hid (meets n need (y + 1) bs = true) := by show _ = _; rw [HMt.out]; exact anyB_hit (k := k) (by simp only [hq, Bool.and_true, decide_eq_true_eq]; rw [HSm.out]; exact q1) hlt
            go_wp2_with fail
            refine (IH.out A4 n cap4 (aftS bs n k) need w4 B4 HS.out.1 HS.out.2 hok4.out).mono ?_
            rintro e w5 ⟨rfl, b5⟩
            rw [hq]
            have HX5 := Lib.hid (btrans HX4.out b5)
            clear b5 B4
            go_wp2_with fail
            go_ret
            exact ⟨ret_bool HNx.out.symm, HX5.out⟩
        · have HNx : Hid (anyB (fun S => decide (need ≤ bsum bs n S) && meets n need y (aftS bs n S)) (k + 1) = false) := anyB_next HA.out (by
            have : decide (need ≤ bsum bs n k) = false := by rw [HSm.out]; simpa using q1
            simp only [this, Bool.false_and])
          go_wp2_with fail
          go_roundw
          case rel => exact ⟨k + 1, by omega, by go_num, HNx, HX3.out⟩
          case measure => simp [intOf]; omega
      · obtain rfl : k = K := by omega
        have HNx : Hid (meets n need (y + 1) bs = false) := by show _ = _; rw [HMt.out, HA.out]
        go_wp2
        go_ret
        exact ⟨ret_bool HNx.out.symm, hbel⟩
end Go.Proofs.Ytnlddplhaiceaaa
