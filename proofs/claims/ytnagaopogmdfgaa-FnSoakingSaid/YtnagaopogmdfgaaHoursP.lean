/-
  Plain laws on batches over the hours: counts, the first hour with the greatest sum, the first hour with too many.
  No conditions.
-/
import Derived.Test.YtnagaopogmdfgaaBatch
namespace Go.Proofs.Ytnagaopogmdfgaa

/-- How many of the first k. -/
def cntTo (p : Nat → Bool) : Nat → Int
  | 0 => 0
  | k + 1 => cntTo p k + (if p k then 1 else 0)
theorem cntTo_yes {p : Nat → Bool} {k : Nat} (h : p k = true) : cntTo p (k + 1) = cntTo p k + 1 := by simp [cntTo, h]
theorem cntTo_no {p : Nat → Bool} {k : Nat} (h : p k = false) : cntTo p (k + 1) = cntTo p k := by simp [cntTo, h]
theorem cntTo_bd (p : Nat → Bool) : ∀ k : Nat, 0 ≤ cntTo p k ∧ cntTo p k ≤ k
  | 0 => by simp [cntTo]
  | k + 1 => by
    have := cntTo_bd p k
    simp only [cntTo]
    split <;> omega

/-- What is supple at an hour; when a batch begins to be supple. -/
def hrF (zs : List Int) (n : Nat) (h : Int) : Int := sumTo (suppF zs h) n
def stF (zs : List Int) (i : Nat) : Int := gi zs (i * 4) + gi zs (i * 4 + 1)
def hrP (zs : List Int) (n : Nat) (b : Int) (k : Nat) : Bool := decide (b ≤ hrF zs n k)

theorem sumTo_le {f g : Nat → Int} : ∀ {n : Nat}, (∀ j, j < n → f j ≤ g j) → sumTo f n ≤ sumTo g n
  | 0, _ => by simp [sumTo]
  | n + 1, h => by
    have := sumTo_le (n := n) fun j hj => h j (by omega)
    have := h n (by omega)
    simp only [sumTo]; omega
theorem sumTo_zero {f : Nat → Int} : ∀ {n : Nat}, (∀ j, j < n → f j = 0) → sumTo f n = 0
  | 0, _ => rfl
  | n + 1, h => by
    have h1 := sumTo_zero (n := n) fun j hj => h j (by omega)
    have h2 := h n (by omega)
    simp only [sumTo]; omega
theorem sumTo_ge {f : Nat → Int} : ∀ {n i : Nat}, (∀ j, j < n → 0 ≤ f j) → i < n → f i ≤ sumTo f n
  | 0, _, _, hi => absurd hi (by omega)
  | n + 1, i, h, hi => by
    simp only [sumTo]
    have hn := h n (by omega)
    rcases Nat.lt_or_ge i n with h1 | h1
    · have := sumTo_ge (f := f) (n := n) (i := i) (fun j hj => h j (by omega)) h1; omega
    · obtain rfl : i = n := by omega
      have : 0 ≤ sumTo f i := by
        have := sumTo_le (f := fun _ => 0) (g := f) (n := i) fun j hj => h j (by omega)
        have h0 : sumTo (fun _ => (0 : Int)) i = 0 := sumTo_zero fun _ _ => rfl
        omega
      omega

section
variable {zs : List Int} {n : Nat}
/-- What a valid batch is. -/
theorem bat (hok : okAll (batchAt zs) n 10 = true) (j : Nat) (hj : j < n) : 1 ≤ stF zs j ∧ stF zs j ≤ 5500 ∧ 1 ≤ gi zs (j * 4 + 2) ∧ gi zs (j * 4 + 2) ≤ 500 ∧ 1 ≤ gi zs (j * 4 + 3) := by
  have := batchOk_bd (okAll_get hok hj)
  unfold stF; omega
theorem batAll (hok : okAll (batchAt zs) n 10 = true) : ∀ j, j < n → 0 ≤ gi zs (j * 4) ∧ gi zs (j * 4) ≤ 5000 ∧ 1 ≤ gi zs (j * 4 + 1) ∧ gi zs (j * 4 + 1) ≤ 500 := fun j hj => by
  have := batchOk_bd (okAll_get hok hj); omega
theorem suppF_in {h : Int} {j : Nat} (h1 : stF zs j ≤ h) (h2 : h ≤ stF zs j + gi zs (j * 4 + 2) - 1) : suppF zs h j = gi zs (j * 4 + 3) := by
  unfold stF at h1 h2
  rw [suppF, if_pos (by simp [inR]; omega)]
theorem suppF_out {h : Int} {j : Nat} (h1 : ¬ (stF zs j ≤ h ∧ h ≤ stF zs j + gi zs (j * 4 + 2) - 1)) : suppF zs h j = 0 := by
  unfold stF at h1
  rw [suppF, if_neg (by simp only [inR, Bool.and_eq_true, decide_eq_true_eq]; omega)]
theorem hrF_last (hok : okAll (batchAt zs) n 10 = true) : hrF zs n 6000 = 0 :=
  sumTo_zero fun j hj => suppF_out (by have := bat hok j hj; omega)
theorem hrF_nn (hok : okAll (batchAt zs) n 10 = true) (h : Int) : 0 ≤ hrF zs n h := (supp_bd (loose_of (by omega) hok) n (Nat.le_refl _)).1
theorem hrF_start (hok : okAll (batchAt zs) n 10 = true) {i : Nat} (hi : i < n) : 1 ≤ hrF zs n (stF zs i) := by
  have h1 := sumTo_ge (f := suppF zs (stF zs i)) (n := n) (i := i) (fun j hj => (suppF_bd (loose_of (by omega) hok) j hj).1) hi
  have hb := bat hok i hi
  rw [suppF_in (by omega) (by omega)] at h1
  unfold hrF; omega
theorem some_max (act : Nat → Prop) (f : Nat → Int) : ∀ n : Nat, (∃ i, i < n ∧ act i) → ∃ i, i < n ∧ act i ∧ ∀ j, j < n → act j → f j ≤ f i
  | 0, ⟨i, hi, _⟩ => absurd hi (by omega)
  | n + 1, ⟨i, hi, ha⟩ => by
    rcases Classical.em (∃ i, i < n ∧ act i) with h | h
    · obtain ⟨m, hm, ham, hmax⟩ := some_max act f n h
      rcases Classical.em (act n ∧ f m < f n) with ⟨h1, h2⟩ | h1
      · refine ⟨n, by omega, h1, fun j hj hja => ?_⟩
        rcases Nat.lt_or_ge j n with h3 | h3
        · have := hmax j h3 hja; omega
        · obtain rfl : j = n := by omega
          omega
      · refine ⟨m, by omega, ham, fun j hj hja => ?_⟩
        rcases Nat.lt_or_ge j n with h3 | h3
        · exact hmax j h3 hja
        · obtain rfl : j = n := by omega
          rcases Int.lt_or_le (f m) (f j) with h4 | h4
          · exact absurd ⟨hja, h4⟩ h1
          · exact h4
    · have hin : i = n := by
        rcases Nat.lt_or_ge i n with h3 | h3
        · exact absurd ⟨i, h3, ha⟩ h
        · omega
      subst hin
      refine ⟨i, by omega, ha, fun j hj hja => ?_⟩
      rcases Nat.lt_or_ge j i with h3 | h3
      · exact absurd ⟨j, h3, hja⟩ h
      · obtain rfl : j = i := by omega
        omega
/-- At no hour more are supple than when one begins to be. -/
theorem hrF_peak (hok : okAll (batchAt zs) n 10 = true) {h : Int} (hp : 0 < hrF zs n h) : ∃ i, i < n ∧ stF zs i ≤ h ∧ hrF zs n h ≤ hrF zs n (stF zs i) := by
  have hex : ∃ i, i < n ∧ (stF zs i ≤ h ∧ h ≤ stF zs i + gi zs (i * 4 + 2) - 1) := by
    rcases Classical.em (∃ i, i < n ∧ (stF zs i ≤ h ∧ h ≤ stF zs i + gi zs (i * 4 + 2) - 1)) with hx | hx
    · exact hx
    · exfalso
      have : hrF zs n h = 0 := sumTo_zero fun j hj => suppF_out fun hh => hx ⟨j, hj, hh⟩
      omega
  obtain ⟨i, hi, ha, hmax⟩ := some_max _ (stF zs) n hex
  refine ⟨i, hi, ha.1, sumTo_le fun j hj => ?_⟩
  rcases Classical.em (stF zs j ≤ h ∧ h ≤ stF zs j + gi zs (j * 4 + 2) - 1) with hx | hx
  · have := hmax j hj hx
    rw [suppF_in hx.1 hx.2, suppF_in this (by omega)]; omega
  · rw [suppF_out hx]
    exact (suppF_bd (loose_of (by omega) hok) j hj).1
end

/-- The first of k hours with the greatest number. -/
def bhTo (f : Int → Int) : Nat → Int × Int
  | 0 => (0, 0)
  | k + 1 => if (bhTo f k).2 < f k then (k, f k) else bhTo f k
theorem bhTo_spec (f : Int → Int) : ∀ k : Nat, (∀ j : Nat, j < k → f j ≤ (bhTo f k).2) ∧ (bhTo f k = (0, 0) ∨ ∃ j : Nat, j < k ∧ bhTo f k = ((j : Int), f j) ∧ 0 < f j ∧ ∀ i : Nat, i < j → f i < f j)
  | 0 => ⟨fun j h => absurd h (by omega), .inl rfl⟩
  | k + 1 => by
    obtain ⟨h1, h2⟩ := bhTo_spec f k
    rcases Int.lt_or_le (bhTo f k).2 (f k) with hlt | hge
    · have e : bhTo f (k + 1) = ((k : Int), f k) := by simp only [bhTo, if_pos hlt]
      rw [e]
      refine ⟨fun j hj => ?_, .inr ⟨k, by omega, rfl, ?_, fun i hi => ?_⟩⟩
      · rcases Nat.lt_or_ge j k with h3 | h3
        · have := h1 j h3; show f j ≤ f k; omega
        · obtain rfl : j = k := by omega
          exact Int.le_refl _
      · rcases h2 with h2 | ⟨j, hj, h2, h3, _⟩
        · rw [h2] at hlt; exact hlt
        · rw [h2] at hlt; simp only at hlt; omega
      · have := h1 i hi; omega
    · have e : bhTo f (k + 1) = bhTo f k := by simp only [bhTo, if_neg (by omega : ¬ (bhTo f k).2 < f k)]
      rw [e]
      refine ⟨fun j hj => ?_, ?_⟩
      · rcases Nat.lt_or_ge j k with h3 | h3
        · exact h1 j h3
        · obtain rfl : j = k := by omega
          exact hge
      · rcases h2 with h2 | ⟨j, hj, h2, h3, h4⟩
        · exact .inl h2
        · exact .inr ⟨j, by omega, h2, h3, h4⟩

/-- The least start with the greatest number, of the first k batches. -/
def shTo (v : Int → Int) (st : Nat → Int) : Nat → Int × Int
  | 0 => (-1, 0)
  | k + 1 => if (shTo v st k).2 < v (st k) ∨ v (st k) = (shTo v st k).2 ∧ st k < (shTo v st k).1 then (st k, v (st k)) else shTo v st k
theorem shTo_spec (v : Int → Int) (st : Nat → Int) : ∀ k : Nat, (∀ j, j < k → 1 ≤ v (st j)) → 0 < k →
    (∃ i, i < k ∧ shTo v st k = (st i, v (st i))) ∧ ∀ j, j < k → v (st j) ≤ (shTo v st k).2 ∧ (v (st j) = (shTo v st k).2 → (shTo v st k).1 ≤ st j)
  | 0, _, h => absurd h (by omega)
  | k + 1, hv, _ => by
    rcases Nat.eq_zero_or_pos k with h0 | h0
    · subst h0
      have h1 := hv 0 (by omega)
      have e : shTo v st 1 = (st 0, v (st 0)) := if_pos (.inl (Int.lt_of_lt_of_le (by decide : (0 : Int) < 1) h1))
      rw [e]
      refine ⟨⟨0, by omega, rfl⟩, fun j hj => ?_⟩
      obtain rfl : j = 0 := by omega
      exact ⟨Int.le_refl _, fun _ => Int.le_refl _⟩
    · obtain ⟨⟨i, hi, hr⟩, hall⟩ := shTo_spec v st k (fun j hj => hv j (by omega)) h0
      by_cases hc : (shTo v st k).2 < v (st k) ∨ v (st k) = (shTo v st k).2 ∧ st k < (shTo v st k).1
      · have e : shTo v st (k + 1) = (st k, v (st k)) := by simp only [shTo, if_pos hc]
        rw [e]
        refine ⟨⟨k, by omega, rfl⟩, fun j hj => ?_⟩
        rcases Nat.lt_or_ge j k with h3 | h3
        · have h4 := hall j h3
          rw [hr] at hc h4
          simp only at hc h4 ⊢
          refine ⟨by omega, fun h5 => ?_⟩
          rcases hc with h6 | ⟨h6, h7⟩
          · omega
          · have := h4.2 (by omega); omega
        · obtain rfl : j = k := by omega
          exact ⟨Int.le_refl _, fun _ => Int.le_refl _⟩
      · have e : shTo v st (k + 1) = shTo v st k := by simp only [shTo, if_neg hc]
        rw [e]
        refine ⟨⟨i, by omega, hr⟩, fun j hj => ?_⟩
        rcases Nat.lt_or_ge j k with h3 | h3
        · exact hall j h3
        · obtain rfl : j = k := by omega
          rw [not_or] at hc
          refine ⟨by omega, fun h5 => ?_⟩
          have := hc.2
          rcases Int.lt_or_le (st j) (shTo v st j).1 with h6 | h6
          · exact absurd ⟨h5, h6⟩ this
          · exact h6

/-- The two ways to the best hour come to one. -/
theorem best_one {zs : List Int} {n : Nat} (hok : okAll (batchAt zs) n 10 = true) (hn : 0 < n) : shTo (hrF zs n) (stF zs) n = bhTo (hrF zs n) 6000 := by
  obtain ⟨⟨i, hi, hr⟩, hall⟩ := shTo_spec (hrF zs n) (stF zs) n (fun j hj => hrF_start hok hj) hn
  obtain ⟨b1, b2⟩ := bhTo_spec (hrF zs n) 6000
  have hst := bat hok i hi
  have e0 : ((stF zs i).toNat : Int) = stF zs i := Int.toNat_of_nonneg (by omega)
  have h1 := b1 (stF zs i).toNat (by omega)
  rw [e0] at h1
  have h2 := hrF_start hok hi
  rcases b2 with b2 | ⟨j, hj, b2, b3, b4⟩
  · rw [b2] at h1; simp only at h1; omega
  · obtain ⟨m, hm, hml, hmp⟩ := hrF_peak hok b3
    have h3 := hall m hm
    rw [hr] at h3 ⊢
    rw [b2] at h1 ⊢
    simp only at h1 h3
    have hmt := bat hok m hm
    have e1 : ((stF zs m).toNat : Int) = stF zs m := Int.toNat_of_nonneg (by omega)
    have hM : hrF zs n (stF zs i) = hrF zs n j := by omega
    have h4 : stF zs i ≤ stF zs m := h3.2 (by omega)
    have h5 : ¬ stF zs i < (j : Int) := fun hlt => by
      have := b4 (stF zs i).toNat (by omega)
      rw [e0] at this; omega
    have h6 : stF zs i = (j : Int) := by omega
    rw [h6]

/-- The first start with too many, of the first k batches. -/
def ftTo (v : Int → Int) (st : Nat → Int) (room : Int) : Nat → Int
  | 0 => -1
  | k + 1 => if room < v (st k) ∧ (ftTo v st room k < 0 ∨ st k < ftTo v st room k) then st k else ftTo v st room k

end Go.Proofs.Ytnagaopogmdfgaa
