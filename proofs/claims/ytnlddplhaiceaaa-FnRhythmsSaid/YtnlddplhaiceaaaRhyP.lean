/-
  FnRhythms: the plain laws; what the reference draws for it.
  No conditions.
-/
import Derived.Test.YtnlddplhaiceaaaBedsP
import Derived.Test.YtnlddplhaiceaaaRhythm
import Derived.Test.YtnlddplhaiceaaaSteadyI
namespace Go.Proofs.Ytnlddplhaiceaaa
open Go.ChangeShapes Go.WideShapes Go.ChangeAt Go.RowKit Go.Deep
set_option linter.unusedVariables false

/-- The best rhythm yields most a year. -/
theorem rh_best {ys : List Int} (hy : ∀ k : Nat, 0 ≤ yfor ys k) : ∀ (k j : Nat), 1 ≤ j → j ≤ k → yfor ys j * (rhTo ys k : Int) ≤ yfor ys (rhTo ys k) * (j : Int)
  | 0, j, h1, h2 => absurd h2 (by omega)
  | k + 1, j, h1, h2 => by
    have hb := rhTo_bd ys k
    have hstep : ∀ b : Nat, b = rhTo ys k → ((∀ i, 1 ≤ i → i ≤ k → yfor ys i * (b : Int) ≤ yfor ys b * (i : Int)) ∧ 1 ≤ b) := fun b e => by
      subst e; exact ⟨fun i hi hik => rh_best hy k i hi hik, hb.1⟩
    obtain ⟨ih, hb1⟩ := hstep _ rfl
    simp only [rhTo]
    split
    · next hlt =>
      rcases Nat.lt_or_ge j (k + 1) with hh | hh
      · have h3 := ih j h1 (by omega)
        generalize rhTo ys k = b at *
        have hbp : (0 : Int) < (b : Int) := by omega
        have e1 : yfor ys j * (b : Int) * ((k + 1 : Nat) : Int) ≤ yfor ys b * (j : Int) * ((k + 1 : Nat) : Int) := Int.mul_le_mul_of_nonneg_right h3 (by omega)
        have e2 : yfor ys b * ((k + 1 : Nat) : Int) * (j : Int) ≤ yfor ys ((k + 1 : Nat) : Int) * (b : Int) * (j : Int) := Int.mul_le_mul_of_nonneg_right (Int.le_of_lt hlt) (by omega)
        have e3 : yfor ys j * ((k + 1 : Nat) : Int) * (b : Int) ≤ yfor ys ((k + 1 : Nat) : Int) * (j : Int) * (b : Int) := by
          have a1 : yfor ys j * ((k + 1 : Nat) : Int) * (b : Int) = yfor ys j * (b : Int) * ((k + 1 : Nat) : Int) := by rw [Int.mul_assoc, Int.mul_comm ((k + 1 : Nat) : Int), ← Int.mul_assoc]
          have a2 : yfor ys b * (j : Int) * ((k + 1 : Nat) : Int) = yfor ys b * ((k + 1 : Nat) : Int) * (j : Int) := by rw [Int.mul_assoc, Int.mul_comm (j : Int), ← Int.mul_assoc]
          have a3 : yfor ys ((k + 1 : Nat) : Int) * (j : Int) * (b : Int) = yfor ys ((k + 1 : Nat) : Int) * (b : Int) * (j : Int) := by rw [Int.mul_assoc, Int.mul_comm (j : Int), ← Int.mul_assoc]
          omega
        exact Int.le_of_mul_le_mul_right e3 hbp
      · obtain rfl : j = k + 1 := by omega
        exact Int.le_refl _
    · next hge =>
      rcases Nat.lt_or_ge j (k + 1) with hh | hh
      · exact ih j h1 (by omega)
      · obtain rfl : j = k + 1 := by omega
        omega
theorem frac_le {a b N D g y : Int} {k : Nat} (hg : 0 < g) (hN : N * g = a) (hD : D * g = b) (h : y * b ≤ a * (k : Int)) : y * D ≤ N * (k : Int) := by
  subst hN hD
  have e1 : y * D * g = y * (D * g) := by rw [Int.mul_assoc]
  have e2 : N * (k : Int) * g = N * g * (k : Int) := by rw [Int.mul_assoc, Int.mul_comm (k : Int), ← Int.mul_assoc]
  have e3 : y * D * g ≤ N * (k : Int) * g := by omega
  exact Int.le_of_mul_le_mul_right e3 hg
/-- A steady need is met in the first year. -/
theorem cfTo_some {bs : Nat → List Int × Int} {n : Nat} {need : Int} : ∀ (K S : Nat), S < K → need ≤ bsum bs n S → cfTo bs n need K ≠ none
  | 0, S, h, _ => absurd h (by omega)
  | K + 1, S, h, hle => by
    rw [cfTo_succ]
    split
    · simp
    · next hc =>
      rcases Nat.lt_or_ge S K with hh | hh
      · exact cfTo_some K S hh hle
      · obtain rfl : S = K := by omega
        intro hn
        exact hc ⟨hle, by rw [hn]; rfl⟩
theorem steady_cut {bs : Nat → List Int × Int} {n : Nat} {y : Int} (h : syC bs n y = 0) : cfC bs n (syV bs n y) = 0 ∧ ¬ syV bs n y < 0 := by
  unfold syC at h
  split at h
  · next hok =>
    split at h
    · next hr =>
      split at h
      · cases h
      · next h4 =>
        have hrr := inR_true hr
        obtain ⟨k, rfl⟩ : ∃ k : Nat, y = ((k + 1 : Nat) : Int) := ⟨(y - 1).toNat, by omega⟩
        have e : syV bs n ((k + 1 : Nat) : Int) = std n bs (k + 1) (agL bs n) := by
          have e0 : ((k + 1 : Nat) : Int).toNat = k + 1 := by omega
          have h5 : n ≤ 4 := by omega
          simp only [syV, hok, hr, h5, e0, decide_true, Bool.and_self, if_true]
        have hbd := std_bd (n := n) (bs := bs) (k + 1) (az := agL bs n) (M := 40000) (by omega) (fun S => by have := (sAt_bd hok (fun i hi => ((agL_eq hok) i hi).1) S n (Nat.le_refl _)).2; omega)
        rw [e]
        refine ⟨?_, by omega⟩
        have hin : inR (std n bs (k + 1) (agL bs n)) 0 100000 = true := by simp [inR]; omega
        have hex : ∃ S, S < 2 ^ n ∧ std n bs (k + 1) (agL bs n) ≤ bsum bs n S := by
          rcases Classical.em (0 < std n bs (k + 1) (agL bs n)) with hp | hp
          · have hm := (meets_iff (n := n) hp k bs (agL bs n) (okAll_len hok) (agL_eq hok)).2 (Int.le_refl _)
            rw [meets_succ, anyB_ex] at hm
            obtain ⟨S, h1, h2⟩ := hm
            simp only [Bool.and_eq_true, decide_eq_true_eq] at h2
            exact ⟨S, h1, h2.1⟩
          · have h0 := (bsum_bd hok (Nat.testBit 0) n (Nat.le_refl _)).1
            exact ⟨0, Nat.two_pow_pos n, by unfold bsum; omega⟩
        obtain ⟨S, h1, h2⟩ := hex
        have hs := cfTo_some (2 ^ n) S h1 h2
        simp [cfC, hok, hin, hs]
    · cases h
  · cases h
/-- Ages a year later. -/
theorem aft_ages {bs : Nat → List Int × Int} {n m : Nat} {cs : List Int} (h : ayC bs n cs m = 0) : ayN bs n cs m = n ∧ ∀ i, i < n → (hasZ cs (i : Int) m = true → ag (aftB bs cs m) i = 1) ∧ (hasZ cs (i : Int) m = false → ¬ ag (aftB bs cs m) i < ag bs i) := by
  unfold ayC at h
  split at h
  · next hok =>
    split at h
    · next hr =>
      refine ⟨by simp [ayN, hok, hr], fun i hi => ?_⟩
      have hb := bedOk_bd (okAll_get hok hi)
      have e : ag (aftB bs cs m) i = if cutA bs cs m i + 1 < (yl bs i).length then cutA bs cs m i + 1 else (yl bs i).length := rfl
      rw [e]
      unfold cutA
      refine ⟨fun hh => ?_, fun hh => ?_⟩
      · rw [hh]; simp only [if_true]; split <;> omega
      · rw [hh]; simp only [Bool.false_eq_true, if_false]; split <;> omega
    · cases h
  · cases h

theorem f6has_c (A : Option Addr) (n c : Nat) (zs : List Int) (z : Int) (w : World) (h : Ints w w.heap.size 1 A n zs) (hn : n ≤ 1048576) :
    Calls Try.prog 43 #[.slice A n c, .int .i64 z] w fun e w' => e = .returned (.bool (hasZ zs z n)) ∧ w = w' := by
  go_enter Try.func43, Try.ntmps43
  go_wp2_with fail
  go_loop [5] (fun i => ∃ k : Nat, k ≤ n ∧ i = .int .i64 k ∧ Hid (∀ j, j < k → gi zs j ≠ z)) (fun i => n - (intOf i).toNat)
  case atStart => exact ⟨0, Nat.zero_le _, rfl, fun j h => absurd h (by omega)⟩
  case round =>
    obtain ⟨k, hk, rfl, HK⟩ := hrel
    by_cases hlt : k < n
    · obtain ⟨b, off, rfl, hb, d0⟩ := h.at1 hlt
      by_cases e : gi zs k = z
      · have HV : Hid (hasZ zs z n = true) := hasZ_at e n hlt
        have hbb : (gi zs k == z) = true := by simpa using e
        go_wp2_with fail
        go_ret
        exact ⟨ret_bool HV.out.symm, rfl⟩
      · have hbb : (gi zs k == z) = false := by simpa using e
        have HE := Lib.hid e
        clear e
        go_wp2_with fail
        go_round
        case rel =>
          refine ⟨k + 1, by omega, by go_num, fun j hj => ?_⟩
          rcases Nat.lt_or_ge j k with hh | hh
          · exact HK.out j hh
          · obtain rfl : j = k := by omega
            exact HE.out
        case measure => simp [intOf]; omega
    · obtain rfl : k = n := by omega
      have HV : Hid (hasZ zs z k = false) := hasZ_no k HK.out
      go_wp2
      go_ret
      exact ⟨ret_bool HV.out.symm, rfl⟩
set_option maxHeartbeats 1000000 in
theorem draw_ay (A : Option Addr) (n c : Nat) (w : World) (h : Octets w w.heap.size A n) :
    Calls Try.prog 38 #[.slice A n c] w fun e w' => ∃ (v : Value) (m : Nat) (bs : Nat → List Int × Int) (v2 : Value) (L : List Int), e = .returned (.tuple #[v, v2]) ∧ L.length ≤ 20 ∧ (∀ z ∈ L, -1 ≤ z ∧ z ≤ 14) ∧ m ≤ 9 ∧ SmallB bs m ∧ OwnB w' w.heap.size w'.heap.size v m bs ∧ Own w' w.heap.size v2 L ∧ Below w.heap.size w w' := by
  go_enter Try.func38, Try.ntmps38
  go_wp2_with fail
  refine (from_s A n c w h).mono ?_
  rintro e w1 ⟨g, rfl, hg, hs1, hb1⟩
  have hz1 := hb1.size
  go_wp2_with fail
  refine (beds_s g A n c 0 w1 hs1 (by omega)).mono ?_
  rintro e w2 ⟨v, m, bs, rfl, hm, hsm, ho, hs2, hk2⟩
  have HO2 := Lib.hid ho
  have HB2 := Lib.hid (hb1.trans (hk2.below hg hz1))
  have hz2 := hk2.size
  have hgl := hs1.lt
  obtain ⟨Av, cv, hv⟩ : ∃ A c, v = .slice A m c := by
    rcases ho.form with ⟨rfl, rfl⟩ | ⟨q, cap, rfl⟩
    · exact ⟨none, 0, rfl⟩
    · exact ⟨_, cap, rfl⟩
  subst hv
  clear ho hs1 hb1 hk2
  go_wp2_with fail
  refine (some_s g A n c _ (m : Int) w2 hs2 (by omega) (by omega) (by omega)).mono ?_
  rintro e w3 ⟨v2, L, rfl, hL1, hL2, ho3, hs3, hk3⟩
  have hz3 := hk3.size
  have HO3 := Lib.hid (HO2.out.but hk3 hgl)
  have HB3 := Lib.hid (HB2.out.trans (hk3.below (B := w.heap.size) hg (by omega)))
  have HL3 : Hid (Own w3 w.heap.size v2 L) := ho3.base_le (by omega)
  clear ho3 hs3 hk3
  go_wp2
  go_ret2
  exact ⟨_, m, bs, v2, L, rfl, hL1, hL2, hm, hsm, (HO3.out.upper hz3 (Nat.le_refl _)).lower hz1, HL3.out, HB3.out⟩
set_option maxHeartbeats 1000000 in
theorem draw_sn (A : Option Addr) (n c : Nat) (w : World) (h : Octets w w.heap.size A n) :
    Calls Try.prog 39 #[.slice A n c] w fun e w' => ∃ (v : Value) (m : Nat) (bs : Nat → List Int × Int) (y : Int), e = .returned (.tuple #[v, .int .i64 y]) ∧ -1 ≤ y ∧ y ≤ 4 ∧ m ≤ 9 ∧ SmallB bs m ∧ OwnB w' w.heap.size w'.heap.size v m bs ∧ Below w.heap.size w w' := by
  go_enter Try.func39, Try.ntmps39
  go_wp2_with fail
  refine (from_s A n c w h).mono ?_
  rintro e w1 ⟨g, rfl, hg, hs1, hb1⟩
  have hz1 := hb1.size
  go_wp2_with fail
  refine (beds_s g A n c 0 w1 hs1 (by omega)).mono ?_
  rintro e w2 ⟨v, m, bs, rfl, hm, hsm, ho, hs2, hk2⟩
  have HO2 := Lib.hid ho
  have HB2 := Lib.hid (hb1.trans (hk2.below hg hz1))
  have hz2 := hk2.size
  have hgl := hs1.lt
  clear ho hs1 hb1 hk2
  go_wp2_with fail
  refine (one_s g A n c _ 8 w2 hs2 (by omega)).mono ?_
  rintro e w3 ⟨x, rfl, hs3, hk3⟩
  have hlt := hs3.lt
  have HO3 := Lib.hid (HO2.out.but hk3 hgl)
  have HB3 := Lib.hid (HB2.out.trans (hk3.below (B := w.heap.size) hg (by omega)))
  have hz3 := hk3.size
  clear hk3
  rcases x with _ | _
  · go_wp2_with fail
    refine (pick_s g A n c _ 3 w3 hs3 (by omega)).mono ?_
    rintro e w4 ⟨x, rfl, hx0, hx1, hs4, hk4⟩
    have HO4 := Lib.hid (HO3.out.but hk4 hgl)
    have HB4 := Lib.hid (HB3.out.trans (hk4.below (B := w.heap.size) hg (by omega)))
    have hz4 := hk4.size
    go_wp2
    go_ret2
    exact ⟨v, m, bs, _, rfl, by omega, by omega, hm, hsm, (HO4.out.upper (by omega) (Nat.le_refl _)).lower hz1, HB4.out⟩
  · go_wp2_with fail
    refine (among_s g A n c _ w3.heap.size 5 [-1, 0, 1, 3, 4] _ (hs3.on (balloc (Below.refl _ _) _) hlt) (by omega) (Blk.new _ _ _) (by omega) rfl (by omega) (by omega)).mono ?_
    rintro e w4 ⟨x, rfl, hx, hs4, hk4⟩
    simp only [List.mem_cons, List.not_mem_nil, or_false] at hx
    have hx2 : -1 ≤ x ∧ x ≤ 4 := by omega
    have hk34 := ((But.refl g w3).alloc (.cells (iv [-1, 0, 1, 3, 4]).toArray 2)).trans hk4
    have HO4 := Lib.hid (HO3.out.but hk34 hgl)
    have HB4 := Lib.hid (HB3.out.trans (hk34.below (B := w.heap.size) hg (by omega)))
    have hz4 := hk34.size
    clear hx
    go_wp2
    go_ret2
    exact ⟨v, m, bs, x, rfl, hx2.1, hx2.2, hm, hsm, (HO4.out.upper (by omega) (Nat.le_refl _)).lower hz1, HB4.out⟩
end Go.Proofs.Ytnlddplhaiceaaa
