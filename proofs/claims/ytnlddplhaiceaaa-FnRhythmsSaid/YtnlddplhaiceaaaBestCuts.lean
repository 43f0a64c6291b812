/-
  BestCuts: which plan of cuts yields most.
  No conditions.
-/
import Derived.Test.YtnlddplhaiceaaaPlan
namespace Go.Proofs.Ytnlddplhaiceaaa
open Go.ChangeShapes Go.WideShapes Go.ChangeAt Go.RowKit Go.Deep

theorem pow_bd {n : Nat} (h : n ≤ 12) : 2 ^ n ≤ 4096 := Nat.le_trans (Nat.pow_le_pow_right (by omega) h) (by decide)
/-- The best of the first K sets of years: its years and what it yields. -/
def bcTo (ys : List Int) (a : Int) (n : Nat) : Nat → List Int × Int
  | 0 => ([], 0)
  | S + 1 => if (bcTo ys a n S).2 < (planL ys a (selTo S.testBit n)).1 ∨ (planL ys a (selTo S.testBit n)).1 = (bcTo ys a n S).2 ∧ lessL (selTo S.testBit n) (bcTo ys a n S).1 = true then
      (selTo S.testBit n, (planL ys a (selTo S.testBit n)).1) else bcTo ys a n S
theorem sel_zero : ∀ n : Nat, selTo (Nat.testBit 0) n = []
  | 0 => rfl
  | n + 1 => by rw [selTo_no (by simp), sel_zero n]
theorem lessL_nil : lessL [] [] = false := by simp [lessL, lexLt]
theorem bcTo_one (ys : List Int) (a : Int) (n : Nat) : bcTo ys a n 1 = ([], 0) := by
  unfold bcTo
  rw [sel_zero]
  simp [bcTo, planL, lessL_nil]
theorem bcTo_sel (ys : List Int) (a : Int) (n : Nat) : ∀ K : Nat, ∃ p : Nat → Bool, (bcTo ys a n K).1 = selTo p n
  | 0 => ⟨fun _ => false, by
      show ([] : List Int) = _
      have : ∀ m : Nat, selTo (fun _ => false) m = [] := by
        intro m
        induction m with
        | zero => rfl
        | succ m ih => rw [selTo_no rfl, ih]
      rw [this]⟩
  | S + 1 => by
    unfold bcTo
    split
    · exact ⟨_, rfl⟩
    · exact bcTo_sel ys a n S
theorem bcTo_len (ys : List Int) (a : Int) (n K : Nat) : (bcTo ys a n K).1.length ≤ n := by
  obtain ⟨p, hp⟩ := bcTo_sel ys a n K
  rw [hp]; exact selTo_len p n
theorem bcTo_wf (ys : List Int) (a : Int) (n K : Nat) (hn : n ≤ 1000) : ∀ z ∈ (bcTo ys a n K).1, -9223372036854775808 ≤ z ∧ z ≤ 9223372036854775807 := by
  obtain ⟨p, hp⟩ := bcTo_sel ys a n K
  rw [hp]
  intro z hz
  have := selTo_mem p n z hz
  omega
theorem bcTo_nn (ys : List Int) (a : Int) (n : Nat) : ∀ K : Nat, 0 ≤ (bcTo ys a n K).2
  | 0 => by simp [bcTo]
  | S + 1 => by
    have ih := bcTo_nn ys a n S
    have e : bcTo ys a n (S + 1) = if (bcTo ys a n S).2 < (planL ys a (selTo S.testBit n)).1 ∨ (planL ys a (selTo S.testBit n)).1 = (bcTo ys a n S).2 ∧ lessL (selTo S.testBit n) (bcTo ys a n S).1 = true then (selTo S.testBit n, (planL ys a (selTo S.testBit n)).1) else bcTo ys a n S := rfl
    rw [e]
    split
    · next h => simp only; omega
    · exact ih
theorem bcTo_succ (ys : List Int) (a : Int) (n S : Nat) : bcTo ys a n (S + 1) = if (bcTo ys a n S).2 < (planL ys a (selTo S.testBit n)).1 ∨ (planL ys a (selTo S.testBit n)).1 = (bcTo ys a n S).2 ∧ lessL (selTo S.testBit n) (bcTo ys a n S).1 = true then (selTo S.testBit n, (planL ys a (selTo S.testBit n)).1) else bcTo ys a n S := rfl
theorem shl_one (m : Nat) (h : m ≤ 12) : wrap64 ((2 : Int) ^ m) = ((2 ^ m : Nat) : Int) := by
  have h2 := pow_bd h
  have : ((2 : Int) ^ m) = ((2 ^ m : Nat) : Int) := by norm_cast
  rw [this]
  generalize 2 ^ m = z at *
  unfold wrap64; omega
/-- BestCuts. -/
def bcL (ys : List Int) (a n : Int) : List Int := if bedOk ys a && inR n 1 12 then (bcTo ys a n.toNat (2 ^ n.toNat)).1 else []
def bcV (ys : List Int) (a n : Int) : Int := if bedOk ys a && inR n 1 12 then (bcTo ys a n.toNat (2 ^ n.toNat)).2 else 0
def bcC (ys : List Int) (a n : Int) : Int := if bedOk ys a then (if inR n 1 12 then 0 else 2) else 1

set_option maxHeartbeats 2000000 in
theorem best_i (A : Option Addr) (c : Nat) (ys : List Int) (a n : Int) (w : World) (hI : Ints w w.heap.size 1 A ys.length ys) (hl : ys.length ≤ 1048576) :
    Calls Try.prog 21 #[.agg #[.slice A ys.length c, .int .i64 a], .int .i64 n] w fun e w' => ∃ v, e = .returned (.tuple #[v, .int .i64 (bcV ys a n), .int .i64 (bcC ys a n)]) ∧ Own w' w.heap.size v (bcL ys a n) ∧ Below w.heap.size w w' := by
  have hbl := balloc (Below.refl _ w) (.cells #[.slice A ys.length c, .int .i64 a] 41)
  have HB := Lib.hid hbl
  clear hbl
  rcases hok : bedOk ys a with _ | _
  · have HV : Hid (bcL ys a n = [] ∧ bcV ys a n = 0 ∧ bcC ys a n = 1) := by show _ ∧ _ ∧ _; simp [bcL, bcV, bcC, hok]
    go_enter Try.func21, Try.ntmps21
    go_wp2_with fail
    refine (bedOk_i A c ys a _ (hI.on HB.out) hl).mono ?_
    rintro e w1 ⟨rfl, hb1⟩
    rw [hok]
    go_wp2
    go_ret3
    exact ⟨_, by rw [HV.out.2.1, HV.out.2.2]; rfl, by rw [HV.out.1]; exact Own.nil _ _, btrans HB.out hb1⟩
  · refine inR_split n 1 12 (fun hr n1 n12 => ?_) (fun hr => ?_)
    · obtain ⟨m, rfl⟩ := Int.eq_ofNat_of_zero_le (show 0 ≤ n by omega)
      have HV : Hid (bcL ys a m = (bcTo ys a m (2 ^ m)).1 ∧ bcV ys a m = (bcTo ys a m (2 ^ m)).2 ∧ bcC ys a m = 0) := by show _ ∧ _ ∧ _; simp [bcL, bcV, bcC, hok, hr]
      have hp := pow_bd (n := m) (by omega)
      have hp2 := Nat.two_pow_pos m
      go_enter Try.func21, Try.ntmps21
      go_wp2_with fail
      refine (bedOk_i A c ys a _ (hI.on HB.out) hl).mono ?_
      rintro e w1 ⟨rfl, hb1⟩
      rw [hok]
      have K := (Blk.new w 41 #[.slice A ys.length c, .int .i64 a]).on hb1
      have Kl := K.lt
      have Kc0 := K.cell 0
      have Kf0 := K.frozen 0
      have Kc1 := K.cell 1
      have Kf1 := K.frozen 1
      simp at Kc0 Kc1
      have KH := Lib.hid K
      clear K
      have HB1 := Lib.hid (btrans HB.out hb1)
      clear hb1
      have hshl := shl_one m (by omega)
      have HVK := HV
      obtain ⟨K, hK⟩ : ∃ K : Nat, K = 2 ^ m := ⟨_, rfl⟩
      rw [← hK] at hshl hp hp2 HV
      have HK2 := Lib.hid hK
      clear hK HVK
      go_wp2_with (first | (go_at_call 49; refine (within_c _ _ _ _).mono ?_; rintro e w' ⟨rfl, rfl⟩))
      rw [hshl]
      clear hshl
      go_loopw [7, 8, 21] (fun b s i wr => ∃ k : Nat, k ≤ K ∧ i = .int .i64 k ∧ s = .int .i64 (bcTo ys a m k).2 ∧ Own wr w.heap.size b (bcTo ys a m k).1 ∧ Blk wr w.heap.size 41 #[.slice A ys.length c, .int .i64 a] ∧ Below w.heap.size w wr) (fun _ _ i _ => K - (intOf i).toNat)
      case atStart => exact ⟨0, Nat.zero_le _, rfl, rfl, Own.empty _ HB1.out.size, KH.out.alloc _, balloc HB1.out _⟩
      case round =>
        obtain ⟨k, hk, rfl, rfl, hown, hblk, hbel⟩ := hrel
        by_cases hlt : k < K
        · have hS : k < 2 ^ m := by rw [← HK2.out]; exact hlt
          have HBS := Lib.hid (bcTo_succ ys a m k)
          have hC := Cuts.sel (Nat.testBit k) m
          have hCl := hC.len
          have hbl := bcTo_len ys a m k
          have HW := Lib.hid (bcTo_wf ys a m k (by omega))
          generalize bcTo ys a m k = bc at *
          obtain ⟨bL, bV⟩ := bc
          simp only at hown hbl
          have HH := Lib.hid hown
          have HX := Lib.hid hbel
          have HKB := Lib.hid hblk
          have hcs := hbel.size
          clear hown hbel hblk Kc0 Kc1 Kf0 Kf1 Kl
          go_wp2_with fail
          refine (members_i k m (by omega) hS wr).mono ?_
          rintro e w2 ⟨v2, rfl, hn2, ho2, hb2⟩
          have HW2 : Hid (∀ z ∈ selTo (Nat.testBit k) m, -9223372036854775808 ≤ z ∧ z ≤ 9223372036854775807) := fun z hz => by have := selTo_mem _ _ _ hz; omega
          have HO2 := Lib.hid ho2
          have HX2 := Lib.hid (btrans HX.out hb2)
          have M := HKB.out.on hb2
          have Ml := M.lt
          have Mc0 := M.cell 0
          have Mf0 := M.frozen 0
          have Mc1 := M.cell 1
          have Mf1 := M.frozen 1
          simp at Mc0 Mc1
          have MH := Lib.hid M
          clear M
          obtain ⟨A2, cap2, rfl, i2, -⟩ := ho2.ints HW2.out
          have HQ : Hid (Own w2 w.heap.size _ bL) := HH.out.on hb2
          clear hb2 ho2 HX HKB HH
          go_wp2_with fail
          refine (plan_i A A2 c cap2 ys (selTo (Nat.testBit k) m) a m w2 (hI.on HX2.out) i2 hok hC (by omega)).mono ?_
          rintro e w3 ⟨rfl, hb3⟩
          have N := MH.out.on hb3
          have Nl := N.lt
          have Nc0 := N.cell 0
          have Nf0 := N.frozen 0
          have Nc1 := N.cell 1
          have Nf1 := N.frozen 1
          simp at Nc0 Nc1
          have NH := Lib.hid N
          clear N
          have HX3 := Lib.hid (btrans HX2.out hb3)
          have HQ3 : Hid (Own w3 w.heap.size _ bL) := HQ.out.on hb3
          have HO3 := Lib.hid (HO2.out.on hb3)
          have i3 := i2.on hb3
          obtain ⟨A4, cap4, rfl, i4, -⟩ := HQ3.out.ints HW.out
          clear hb3 HX2 HQ HO2 i2 Mc0 Mc1 Mf0 Mf1 Ml MH
          have hll := selTo_len (Nat.testBit k) m
          generalize hs : (planL ys a (selTo (Nat.testBit k) m)).1 = s at *
          clear hs
          by_cases q1 : bV < s
          · have HE : Hid (bcTo ys a m (k + 1) = (selTo (Nat.testBit k) m, s)) := by
              have e := HBS.out
              rw [if_pos (.inl q1)] at e
              exact e
            go_wp2_with fail
            go_roundw
            case rel => exact ⟨k + 1, by omega, by go_num, by rw [HE.out], by rw [HE.out]; exact HO3.out.base_le (by omega), NH.out, HX3.out⟩
            case measure => simp [intOf]; omega
          · rcases q2 : (s == bV) with _ | _
            · have HE : Hid (bcTo ys a m (k + 1) = (bL, bV)) := by
                have e := HBS.out
                rw [if_neg (by
                  rintro (h | ⟨h, _⟩)
                  · exact q1 h
                  · rw [beq_eq_false_iff_ne] at q2; exact q2 h)] at e
                exact e
              go_wp2_with fail
              go_roundw
              case rel => exact ⟨k + 1, by omega, by go_num, by rw [HE.out], by rw [HE.out]; exact HQ3.out, NH.out, HX3.out⟩
              case measure => simp [intOf]; omega
            · rcases q3 : lessL (selTo (Nat.testBit k) m) bL with _ | _
              all_goals
                have HE : Hid (bcTo ys a m (k + 1) = if lessL (selTo (Nat.testBit k) m) bL = true then (selTo (Nat.testBit k) m, s) else (bL, bV)) := by
                  have e := HBS.out
                  have hq : s = bV := by simpa using q2
                  show _ = _
                  rw [e]
                  simp only [hq, Int.lt_irrefl, false_or, true_and]
                rw [q3] at HE
                go_wp2_with fail
                refine (less_i A2 A4 _ _ cap2 cap4 (selTo (Nat.testBit k) m) bL _ i3 i4 (by omega) (by omega)).mono ?_
                rintro e w4 ⟨rfl, rfl⟩
                rw [q3]
                go_wp2_with fail
                go_roundw
                case rel => exact ⟨k + 1, by omega, by go_num, by rw [HE.out]; rfl, by rw [HE.out]; first | exact HQ3.out | exact HO3.out.base_le (by omega), NH.out, HX3.out⟩
                case measure => simp [intOf]; omega
        · obtain rfl : k = K := by omega
          go_wp2
          go_ret3
          have e := HK2.out
          subst e
          exact ⟨_, by rw [HV.out.2.1, HV.out.2.2]; rfl, by rw [HV.out.1]; exact hown, hbel⟩
    · have HV : Hid (bcL ys a n = [] ∧ bcV ys a n = 0 ∧ bcC ys a n = 2) := by show _ ∧ _ ∧ _; simp [bcL, bcV, bcC, hok, hr]
      go_enter Try.func21, Try.ntmps21
      go_wp2_with fail
      refine (bedOk_i A c ys a _ (hI.on HB.out) hl).mono ?_
      rintro e w1 ⟨rfl, hb1⟩
      rw [hok]
      go_wp2_with (first | (go_at_call 49; refine (within_c _ _ _ _).mono ?_; rintro e w' ⟨rfl, rfl⟩))
      go_ret3
      exact ⟨_, by rw [HV.out.2.1, HV.out.2.2]; rfl, by rw [HV.out.1]; exact Own.nil _ _, btrans HB.out hb1⟩
set_option maxHeartbeats 2000000 in
theorem best_s (A : Option Addr) (c : Nat) (ys : List Int) (a n : Int) (w : World) (hI : Ints w w.heap.size 1 A ys.length ys) (hl : ys.length ≤ 1048576) :
    Calls Try.prog 22 #[.agg #[.slice A ys.length c, .int .i64 a], .int .i64 n] w fun e w' => ∃ v, e = .returned (.tuple #[v, .int .i64 (bcV ys a n), .int .i64 (bcC ys a n)]) ∧ Own w' w.heap.size v (bcL ys a n) ∧ Below w.heap.size w w' := by
  have hbl := balloc (Below.refl _ w) (.cells #[.slice A ys.length c, .int .i64 a] 41)
  have HB := Lib.hid hbl
  clear hbl
  rcases hok : bedOk ys a with _ | _
  · have HV : Hid (bcL ys a n = [] ∧ bcV ys a n = 0 ∧ bcC ys a n = 1) := by show _ ∧ _ ∧ _; simp [bcL, bcV, bcC, hok]
    go_enter Try.func22, Try.ntmps22
    go_wp2_with fail
    refine (bedOk_s w.heap.size 0 A c ys a _ (by simp) (by simp) (hI.on HB.out) hl).mono ?_
    rintro e w1 ⟨rfl, rfl⟩
    rw [hok]
    go_wp2
    go_ret3
    exact ⟨_, by rw [HV.out.2.1, HV.out.2.2]; rfl, by rw [HV.out.1]; exact Own.nil _ _, HB.out⟩
  · refine inR_split n 1 12 (fun hr n1 n12 => ?_) (fun hr => ?_)
    · obtain ⟨m, rfl⟩ := Int.eq_ofNat_of_zero_le (show 0 ≤ n by omega)
      have HV : Hid (bcL ys a m = (bcTo ys a m (2 ^ m)).1 ∧ bcV ys a m = (bcTo ys a m (2 ^ m)).2 ∧ bcC ys a m = 0) := by show _ ∧ _ ∧ _; simp [bcL, bcV, bcC, hok, hr]
      have hp := pow_bd (n := m) (by omega)
      have hp2 := Nat.two_pow_pos m
      go_enter Try.func22, Try.ntmps22
      go_wp2_with fail
      refine (bedOk_s w.heap.size 0 A c ys a _ (by simp) (by simp) (hI.on HB.out) hl).mono ?_
      rintro e w1 ⟨rfl, rfl⟩
      rw [hok]
      have K := Blk.new w 41 #[.slice A ys.length c, .int .i64 a]
      have Kl := K.lt
      have Kc0 := K.cell 0
      have Kf0 := K.frozen 0
      have Kc1 := K.cell 1
      have Kf1 := K.frozen 1
      simp at Kc0 Kc1
      have KH := Lib.hid K
      clear K
      have HB1 := HB
      have hshl := shl_one m (by omega)
      have HVK := HV
      obtain ⟨K, hK⟩ : ∃ K : Nat, K = 2 ^ m := ⟨_, rfl⟩
      rw [← hK] at hshl hp hp2 HV
      have HK2 := Lib.hid hK
      clear hK HVK
      have HB1C : Hid (bcTo ys a m 1 = ([], 0)) := bcTo_one ys a m
      have hshl2 : IntKind.i64.wrap ((2 : Int) ^ m) = (K : Int) := by rw [← hshl]; exact IntWalk.i64_left _
      go_wp2_with (first | (go_at_call 66; refine (l03Years_c _ _).mono ?_; rintro e w' ⟨rfl, rfl⟩))
      go_loopw [7, 8, 9] (fun b s i wr => ∃ k : Nat, 1 ≤ k ∧ k ≤ K ∧ i = .int .i64 k ∧ s = .int .i64 (bcTo ys a m k).2 ∧ Own wr w.heap.size b (bcTo ys a m k).1 ∧ Blk wr w.heap.size 41 #[.slice A ys.length c, .int .i64 a] ∧ Below w.heap.size w wr) (fun _ _ i _ => K - (intOf i).toNat)
      case atStart => exact ⟨1, by omega, by omega, rfl, by rw [HB1C.out], by rw [HB1C.out]; have := Own.empty _ HB1.out.size; simpa using this, KH.out.alloc _, balloc HB1.out _⟩
      case round =>
        obtain ⟨k, hk0, hk, rfl, rfl, hown, hblk, hbel⟩ := hrel
        by_cases hlt : k < K
        · have hS : k < 2 ^ m := by rw [← HK2.out]; exact hlt
          have HBS := Lib.hid (bcTo_succ ys a m k)
          have hC := Cuts.sel (Nat.testBit k) m
          have hCl := hC.len
          have hbl := bcTo_len ys a m k
          have HW := Lib.hid (bcTo_wf ys a m k (by omega))
          generalize bcTo ys a m k = bc at *
          obtain ⟨bL, bV⟩ := bc
          simp only at hown hbl
          have HH := Lib.hid hown
          have HX := Lib.hid hbel
          have HKB := Lib.hid hblk
          have hcs := hbel.size
          clear hown hbel hblk Kc0 Kc1 Kf0 Kf1 Kl
          have M := HKB.out
          have Ml := M.lt
          have Mc0 := M.cell 0
          have Mf0 := M.frozen 0
          have Mc1 := M.cell 1
          have Mf1 := M.frozen 1
          simp at Mc0 Mc1
          have MH := Lib.hid M
          clear M
          go_wp2_with fail
          refine (plan_s w.heap.size 0 A c ys a k m wr (by simpa using Mc0) (by simpa using Mc1) (hI.on HX.out) hok (by omega) (by omega)).mono ?_
          rintro e w2 ⟨rfl, hb2⟩
          have HPS : Hid ((planS ys a (Nat.testBit k) m).1 = (planL ys a (selTo (Nat.testBit k) m)).1) := by
            show _ = _
            rw [plan_sel]
          rw [HPS.out]
          have N := HKB.out.on hb2
          have Nl := N.lt
          have Nc0 := N.cell 0
          have Nf0 := N.frozen 0
          have Nc1 := N.cell 1
          have Nf1 := N.frozen 1
          simp at Nc0 Nc1
          have NH := Lib.hid N
          clear N
          have HX3 := Lib.hid (btrans HX.out hb2)
          have HQ3 : Hid (Own w2 w.heap.size _ bL) := HH.out.on hb2
          have hw2 := hb2.size
          clear hb2 HX HKB HH Mc0 Mc1 Mf0 Mf1 Ml MH
          have hll := selTo_len (Nat.testBit k) m
          generalize hs : (planL ys a (selTo (Nat.testBit k) m)).1 = s at *
          clear hs
          by_cases q1 : bV < s
          · have HE : Hid (bcTo ys a m (k + 1) = (selTo (Nat.testBit k) m, s)) := by
              have e := HBS.out
              rw [if_pos (.inl q1)] at e
              exact e
            have q1' : ¬ s < bV := by omega
            go_wp2_with fail
            refine (members_s k m (by omega) (by omega) w2).mono ?_
            rintro e w4 ⟨v4, rfl, hn4, ho4, hb4⟩
            go_wp2_with fail
            go_roundw
            case rel => exact ⟨k + 1, by omega, by omega, by go_num, by rw [HE.out], by rw [HE.out]; exact ho4.base_le (by omega), NH.out.on hb4, btrans HX3.out hb4⟩
            case measure => simp [intOf]; omega
          · rcases q2 : (s == bV) with _ | _
            · have HE : Hid (bcTo ys a m (k + 1) = (bL, bV)) := by
                have e := HBS.out
                rw [if_neg (by
                  rintro (h | ⟨h, _⟩)
                  · exact q1 h
                  · rw [beq_eq_false_iff_ne] at q2; exact q2 h)] at e
                exact e
              have q2' : s < bV := by rw [beq_eq_false_iff_ne] at q2; omega
              go_wp2_with fail
              go_roundw
              case rel => exact ⟨k + 1, by omega, by omega, by go_num, by rw [HE.out], by rw [HE.out]; exact HQ3.out, NH.out, HX3.out⟩
              case measure => simp [intOf]; omega
            · rcases q3 : lessL (selTo (Nat.testBit k) m) bL with _ | _
              all_goals
                have HE : Hid (bcTo ys a m (k + 1) = if lessL (selTo (Nat.testBit k) m) bL = true then (selTo (Nat.testBit k) m, s) else (bL, bV)) := by
                  have e := HBS.out
                  have hq : s = bV := by simpa using q2
                  show _ = _
                  rw [e]
                  simp only [hq, Int.lt_irrefl, false_or, true_and]
                rw [q3] at HE
                have q2' : ¬ s < bV := by have hq : s = bV := by simpa using q2
                                          omega
                go_wp2_with fail
                refine (members_s k m (by omega) (by omega) w2).mono ?_
                rintro e w4 ⟨v4, rfl, hn4, ho4, hb4⟩
                have HO4 := Lib.hid ho4
                have HQ4 : Hid (Own w4 w.heap.size _ bL) := HQ3.out.on hb4
                obtain ⟨A2, cap2, rfl, i2, -⟩ := ho4.ints (fun z hz => by have := selTo_mem _ _ _ hz; omega)
                obtain ⟨A4, cap4, rfl, i4, -⟩ := HQ4.out.ints HW.out
                go_wp2_with fail
                refine (less_s A2 A4 _ _ cap2 cap4 (selTo (Nat.testBit k) m) bL _ i2 i4 (by omega) (by omega)).mono ?_
                rintro e w5 ⟨rfl, hb5⟩
                rw [q3]
                have HB5 := Lib.hid (btrans hb4 hb5)
                have HO5 := Lib.hid (HO4.out.on hb5)
                have HQ5 : Hid (Own w5 w.heap.size _ bL) := HQ4.out.on hb5
                clear hb4 hb5 ho4
                go_wp2_with fail
                go_roundw
                case rel => exact ⟨k + 1, by omega, by omega, by go_num, by rw [HE.out]; rfl, by rw [HE.out]; first | exact HQ5.out | exact HO5.out.base_le (by omega), NH.out.on HB5.out, btrans HX3.out HB5.out⟩
                case measure => simp [intOf]; omega
        · obtain rfl : k = K := by omega
          go_wp2
          go_ret3
          have e := HK2.out
          subst e
          exact ⟨_, by rw [HV.out.2.1, HV.out.2.2]; rfl, by rw [HV.out.1]; exact hown, hbel⟩
    · have HV : Hid (bcL ys a n = [] ∧ bcV ys a n = 0 ∧ bcC ys a n = 2) := by show _ ∧ _ ∧ _; simp [bcL, bcV, bcC, hok, hr]
      go_enter Try.func22, Try.ntmps22
      go_wp2_with fail
      refine (bedOk_s w.heap.size 0 A c ys a _ (by simp) (by simp) (hI.on HB.out) hl).mono ?_
      rintro e w1 ⟨rfl, rfl⟩
      rw [hok]
      go_wp2_with (first | (go_at_call 66; refine (l03Years_c _ _).mono ?_; rintro e w' ⟨rfl, rfl⟩))
      go_ret3
      exact ⟨_, by rw [HV.out.2.1, HV.out.2.2]; rfl, by rw [HV.out.1]; exact Own.nil _ _, HB.out⟩

end Go.Proofs.Ytnlddplhaiceaaa
