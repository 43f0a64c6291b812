/-
  Rods in plain words: where one is thick enough, what a cut leaves, a text read back.
  No conditions.
-/
import Derived.Test.YtlnlohopgnocaaaDoorReadRodP
import Derived.Test.YtlnlohopgnocaaaDoorRod
namespace Go.Proofs.YtlnlohopgnocaaaDoor
open Go.ChangeShapes Go.WideShapes Go.ChangeAt Go.RowKit
set_option linter.unusedVariables false

theorem valL_dgs : ∀ (k u : Nat), u ≤ k → valL (dgs u) = u
  | 0, u, h => by
    obtain rfl : u = 0 := by omega
    rfl
  | k + 1, u, h => by
    by_cases h0 : u = 0
    · subst h0; rfl
    · rw [dgs_step u (by omega), valL_snoc, valL_dgs k (u / 10) (by omega)]
      have := dig_byte u
      have h2 : u % 10 < 10 := Nat.mod_lt _ (by omega)
      omega
theorem rdV_of (n : Int) (h1 : 1 ≤ n) (h2 : n ≤ 100000) : rdV (mkB (Lib.itoa n)) = some n := by
  obtain ⟨u, rfl⟩ := Int.eq_ofNat_of_zero_le (by omega : 0 ≤ n)
  have hd := itoa_isD (u : Int) h1
  have hi := itoa_pos u (by omega)
  have hlen := dgs_len 6 u (by omega)
  have hne : dgs u ≠ [] := by rw [dgs_step u (by omega)]; simp
  have hpos : 0 < (dgs u).length := List.length_pos_iff.2 hne
  have hs : (mkB (Lib.itoa (u : Int))).size = (dgs u).length := by rw [hi]; exact size_mk _
  have hT : rdT (mkB (Lib.itoa (u : Int))) = mkB (Lib.itoa (u : Int)) := by
    refine rdL_plain _ (.inr fun e => ?_)
    have hm := bt_mem (mkB (Lib.itoa (u : Int))) 0 (by omega)
    rw [mkB_data] at hm
    have := hd _ hm
    rw [e] at this
    cases this
  have hL : rdL (mkB (Lib.itoa (u : Int))) = dgs u := by rw [← rdT_data, hT, mkB_data, hi]
  have hN : rdN (mkB (Lib.itoa (u : Int))) = u := by
    unfold rdN
    rw [hL, hs, if_neg (by omega), valL_dgs u u (Nat.le_refl _)]
  have hok : rdOk (mkB (Lib.itoa (u : Int))) = true := by
    unfold rdOk
    rw [hL, Bool.and_eq_true, Bool.and_eq_true, decide_eq_true_iff, decide_eq_true_iff, List.all_eq_true]
    rw [hi] at hd
    exact ⟨⟨by omega, by omega⟩, hd⟩
  unfold rdV
  rw [hok, hN, mkB_data]
  simp
theorem rrV_txt (a b c : Int) (h : rodOk a b c = true) : rrV (mkB (rodTxt a b c)) = some (a, b, c) := by
  have hb := rodOk_bds h
  obtain ⟨s1, s2⟩ := spl_rod a b c h
  unfold rrV
  rw [mkB_data, s1]
  simp only [if_true]
  rw [s2]
  simp only
  rw [rdV_of a (by omega) (by omega), rdV_of b (by omega) (by omega), rdV_of c (by omega) (by omega)]
  simp [rodOf, h]

theorem fr_law (a b : Nat) (hb : 1 ≤ b) : fracN a b * (b : Int) = (a : Int) * fracD a b ∧ 0 ≤ fracN a b ∧ fracN a b ≤ a ∧ 1 ≤ fracD a b ∧ fracD a b ≤ b := by
  have hg : 0 < Nat.gcd a b := Nat.gcd_pos_of_pos_right a (by omega)
  obtain ⟨p, hp⟩ := Nat.gcd_dvd_left a b
  obtain ⟨q, hq⟩ := Nat.gcd_dvd_right a b
  have e1 : a / Nat.gcd a b = p := by
    have : Nat.gcd a b * p / Nat.gcd a b = p := Nat.mul_div_cancel_left p hg
    rwa [← hp] at this
  have e2 : b / Nat.gcd a b = q := by
    have : Nat.gcd a b * q / Nat.gcd a b = q := Nat.mul_div_cancel_left q hg
    rwa [← hq] at this
  have f1 : fracN a b = (p : Int) := by unfold fracN; rw [← Int.natCast_ediv, e1]
  have f2 : fracD a b = (q : Int) := by unfold fracD; rw [← Int.natCast_ediv, e2]
  have hq0 : 1 ≤ q := by
    rcases Nat.eq_zero_or_pos q with h | h
    · rw [h, Nat.mul_zero] at hq; omega
    · exact h
  have hpa : p ≤ a := by rw [← e1]; exact Nat.div_le_self _ _
  have hqb : q ≤ b := by rw [← e2]; exact Nat.div_le_self _ _
  refine ⟨?_, by omega, by omega, by omega, by omega⟩
  rw [f1, f2, ← Int.natCast_mul, ← Int.natCast_mul]
  congr 1
  calc p * b = p * (Nat.gcd a b * q) := by rw [← hq]
    _ = (Nat.gcd a b * p) * q := by rw [← Nat.mul_assoc, Nat.mul_comm p]
    _ = a * q := by rw [← hp]
/-- What holds of a thickness. -/
theorem th_law (l b t a : Int) (h : rodOk l b t = true) (h0 : 0 ≤ a) (h1 : a ≤ l) :
    thC l b t a = 0 ∧ thN l b t a * l = thk l b t a * thD l b t a ∧ 0 ≤ thN l b t a ∧ thN l b t a ≤ 900000 ∧ 1 ≤ thD l b t a ∧ thD l b t a ≤ 3000 ∧ 0 ≤ thk l b t a ∧ thk l b t a ≤ 900000 := by
  obtain ⟨d0, d1, d2, d3, d4, d5⟩ := rodOk_bds h
  have hin : inR a 0 l = true := by simp [inR]; omega
  obtain ⟨q0, q1, q2, q3, q4⟩ := thk_bd d0 d1 d2 d3 d4 d5 h0 h1
  have hk : 0 ≤ thk l b t a ∧ thk l b t a ≤ 900000 := by unfold thk; omega
  have hl := fr_law (thk l b t a).toNat l.toNat (by omega)
  have e1 : ((thk l b t a).toNat : Int) = thk l b t a := by omega
  have e2 : (l.toNat : Int) = l := by omega
  rw [e1, e2] at hl
  have f1 : thN l b t a = fracN (thk l b t a).toNat l.toNat := by unfold thN; rw [h, hin]; rfl
  have f2 : thD l b t a = fracD (thk l b t a).toNat l.toNat := by unfold thD; rw [h, hin]; rfl
  rw [f1, f2]
  exact ⟨by unfold thC; rw [h, hin]; rfl, hl.1, hl.2.1, by omega, hl.2.2.2.1, by omega, hk.1, hk.2⟩
/-- A bound on a quotient, by its parts. -/
theorem le_of_parts {N D l m k : Int} (hl : 0 < l) (hD : 0 ≤ D) (h : N * l = k * D) (hk : m * l ≤ k) : m * D ≤ N := by
  have h1 : m * l * D ≤ k * D := Int.mul_le_mul_of_nonneg_right hk hD
  rw [← h] at h1
  have h2 : m * D * l ≤ N * l := by rw [Int.mul_assoc, Int.mul_comm D l, ← Int.mul_assoc]; exact h1
  exact Int.le_of_mul_le_mul_right h2 hl
theorem lt_of_parts {N D l m k : Int} (hl : 0 < l) (hD : 0 < D) (h : N * l = k * D) (hk : k < m * l) : N < m * D := by
  have h1 : k * D < m * l * D := Int.mul_lt_mul_of_pos_right hk hD
  rw [← h] at h1
  have h2 : N * l < m * D * l := by rw [Int.mul_assoc m D l, Int.mul_comm D l, ← Int.mul_assoc]; exact h1
  exact Int.lt_of_mul_lt_mul_right h2 (by omega)
/-- Where a rod is thick enough. -/
theorem len_law (l b t th : Int) (h : rodOk l b t = true) (h1 : 1 ≤ th) (h2 : th ≤ 300) (hb : th ≤ b) :
    ∃ a, lenW l b t th = (a, 0) ∧ 0 ≤ a ∧ a ≤ l ∧ th * l ≤ thk l b t a ∧ (a < l → thk l b t (a + 1) < th * l) := by
  obtain ⟨d0, d1, d2, d3, d4, d5⟩ := rodOk_bds h
  have hin : inR th 1 300 = true := by simp [inR]; omega
  by_cases h3 : th ≤ t
  · refine ⟨l, by simp [lenW, h, hin, h3]; omega, by omega, Int.le_refl _, ?_, fun hh => absurd hh (by omega)⟩
    have q2 := Int.mul_le_mul_of_nonneg_right h3 (by omega : 0 ≤ l)
    unfold thk
    rw [Int.sub_mul]
    omega
  · refine ⟨(b - th) * l / (b - t), by simp [lenW, h, hin, h3]; omega, ?_⟩
    have hp : 0 < b - t := by omega
    have hx0 : 0 ≤ (b - th) * l := Int.mul_nonneg (by omega) (by omega)
    have hq0 : 0 ≤ (b - th) * l / (b - t) := Int.ediv_nonneg hx0 (by omega)
    have hm := Int.mul_ediv_add_emod ((b - th) * l) (b - t)
    have hr0 := Int.emod_nonneg ((b - th) * l) (by omega : b - t ≠ 0)
    have hr1 := Int.emod_lt_of_pos ((b - th) * l) hp
    have hle : (b - th) * l / (b - t) ≤ l := by
      refine Int.ediv_le_of_le_mul hp ?_
      have := Int.mul_le_mul_of_nonneg_right (by omega : b - th ≤ b - t) (by omega : 0 ≤ l)
      rw [Int.mul_comm l]; exact this
    have e : (b - th) * l = b * l - th * l := Int.sub_mul _ _ _
    generalize (b - th) * l / (b - t) = a at *
    refine ⟨hq0, hle, ?_, fun _ => ?_⟩
    · unfold thk; omega
    · unfold thk
      rw [Int.mul_add, Int.mul_one]
      omega
/-- What a cut leaves. -/
theorem cut_law (l b t a : Int) (h : rodOk l b t = true) (h0 : 100 ≤ a) (h1 : a ≤ l) :
    ctC l b t a = 0 ∧ ctL l b t a = a ∧ ctB l b t a = b ∧ 0 ≤ ctT l b t a ∧ ctT l b t a ≤ 900000 ∧ ctT l b t a * thD l b t a ≤ thN l b t a ∧ thN l b t a < (ctT l b t a + 1) * thD l b t a := by
  obtain ⟨d0, d1, d2, d3, d4, d5⟩ := rodOk_bds h
  have hin : inR a 100 l = true := by simp [inR]; omega
  obtain ⟨-, t1, t2, t3, t4, t5, t6, t7⟩ := th_law l b t a h (by omega) h1
  have e : ctT l b t a = thk l b t a / l := by unfold ctT; rw [h, hin]; rfl
  have hm := Int.mul_ediv_add_emod (thk l b t a) l
  have hr0 := Int.emod_nonneg (thk l b t a) (by omega : l ≠ 0)
  have hr1 := Int.emod_lt_of_pos (thk l b t a) (by omega : 0 < l)
  have hc := cut_bd d0 d1 d2 d3 d4 d5 (by omega : 0 ≤ a) h1
  refine ⟨by unfold ctC; rw [h, hin]; rfl, by unfold ctL; rw [h, hin]; rfl, by unfold ctB; rw [h, hin]; rfl, by rw [e]; omega, by rw [e]; omega, ?_, ?_⟩
  · refine le_of_parts (by omega : 0 < l) (by omega) t1 ?_
    rw [e, Int.mul_comm]; omega
  · refine lt_of_parts (by omega : 0 < l) (by omega) t1 ?_
    rw [e, Int.add_mul, Int.mul_comm (thk l b t a / l) l]; omega

end Go.Proofs.YtlnlohopgnocaaaDoor
