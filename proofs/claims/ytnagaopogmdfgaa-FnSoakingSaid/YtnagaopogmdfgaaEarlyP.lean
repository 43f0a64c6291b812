/-
  EarliestPlan: the least hour at which there is room: plain lemmas.
  No conditions.
-/
import Derived.Test.YtnagaopogmdfgaaHoursP
namespace Go.Proofs.Ytnagaopogmdfgaa

/-- Is there room for a batch that is put in at t, with those in front of it? -/
def spB (ps : List Int) (m : Nat) (so bu room t : Int) : Bool :=
  decide (sumTo (tankF ps t) m + bu ≤ room) && (List.range m).all fun i => !(inR (gi ps (i * 4)) t (t + so - 1)) || decide (sumTo (tankF ps (gi ps (i * 4))) m + bu ≤ room)
theorem spB_true {ps : List Int} {m : Nat} {so bu room t : Int} : spB ps m so bu room t = true ↔ sumTo (tankF ps t) m + bu ≤ room ∧ ∀ i, i < m → t ≤ gi ps (i * 4) → gi ps (i * 4) ≤ t + so - 1 → sumTo (tankF ps (gi ps (i * 4))) m + bu ≤ room := by
  simp only [spB, Bool.and_eq_true, decide_eq_true_eq, List.all_eq_true, List.mem_range, Bool.or_eq_true, Bool.not_eq_true', inR, Bool.and_eq_false_iff, decide_eq_false_iff_not]
  constructor
  · rintro ⟨h1, h2⟩
    refine ⟨h1, fun i hi ha hb => ?_⟩
    rcases h2 i hi with (h | h) | h
    · exact absurd ha h
    · exact absurd hb h
    · exact h
  · rintro ⟨h1, h2⟩
    refine ⟨h1, fun i hi => ?_⟩
    by_cases ha : t ≤ gi ps (i * 4)
    · by_cases hb : gi ps (i * 4) ≤ t + so - 1
      · exact .inr (h2 i hi ha hb)
      · exact .inl (.inr hb)
    · exact .inl (.inl ha)
/-- The program's look at one batch. -/
def imB (ps : List Int) (m : Nat) (so bu room t : Int) (i : Nat) : Bool :=
  !(decide (max (gi ps (i * 4)) t < t + so)) || decide (sumTo (tankF ps (max (gi ps (i * 4)) t)) m + bu ≤ room)
theorem tank_zero {ps : List Int} {m : Nat} {t : Int} (h : ∀ j, j < m → tankF ps t j = 0) : sumTo (tankF ps t) m = 0 := sumTo_zero h
theorem im_sp {ps : List Int} {m : Nat} {so bu room t : Int} (hso : 1 ≤ so) (hbu : bu ≤ room) : spB ps m so bu room t = (List.range m).all (imB ps m so bu room t) := by
  rw [Bool.eq_iff_iff, spB_true]
  simp only [List.all_eq_true, List.mem_range, imB, Bool.or_eq_true, Bool.not_eq_true', decide_eq_true_eq, decide_eq_false_iff_not]
  constructor
  · rintro ⟨h1, h2⟩ i hi
    by_cases hlt : max (gi ps (i * 4)) t < t + so
    · refine .inr ?_
      rcases Int.le_total (gi ps (i * 4)) t with hle | hle
      · rw [Int.max_eq_right hle]; exact h1
      · rw [Int.max_eq_left hle] at hlt ⊢
        exact h2 i hi hle (by omega)
    · exact .inl hlt
  · intro h
    refine ⟨?_, fun i hi ha hb => ?_⟩
    · by_cases hex : ∃ i, i < m ∧ gi ps (i * 4) ≤ t
      · obtain ⟨i, hi, hle⟩ := hex
        have h3 := h i hi
        rw [Int.max_eq_right hle] at h3
        rcases h3 with h3 | h3
        · omega
        · exact h3
      · have : sumTo (tankF ps t) m = 0 := tank_zero fun j hj => by
          unfold tankF
          rw [if_neg]
          rw [Bool.not_eq_true]
          have : ¬ gi ps (j * 4) ≤ t := fun hle => hex ⟨j, hj, hle⟩
          simp [inR, this]
        omega
    · have h3 := h i hi
      rw [Int.max_eq_left ha] at h3
      rcases h3 with h3 | h3
      · omega
      · exact h3
/-- The least t from a on that is so; f are asked. -/
def leastFrom (p : Int → Bool) : Nat → Int → Int
  | 0, a => a
  | f + 1, a => if p a then a else leastFrom p f (a + 1)
theorem leastFrom_eq {p : Int → Bool} : ∀ (j f : Nat) (a : Int), (∀ i : Nat, i < j → p (a + i) = false) → p (a + j) = true → j < f → leastFrom p f a = a + j
  | 0, 0, a, _, _, h => absurd h (by omega)
  | 0, f + 1, a, _, h, _ => by
    simp only [leastFrom]
    rw [if_pos (by simpa using h)]; simp
  | j + 1, 0, a, _, _, h => absurd h (by omega)
  | j + 1, f + 1, a, hn, h, hf => by
    have h0 := hn 0 (by omega)
    simp only [leastFrom]
    rw [if_neg (by simpa using h0), leastFrom_eq j f (a + 1) (fun i hi => by have := hn (i + 1) (by omega); rw [← this]; congr 1; omega) (by rw [← h]; congr 1; omega) (by omega)]
    omega
theorem least_ex (p : Int → Bool) : ∀ (f : Nat) (a : Int), (∃ j : Nat, j < f ∧ p (a + j) = true) → ∃ j : Nat, j < f ∧ p (a + j) = true ∧ ∀ i : Nat, i < j → p (a + i) = false
  | 0, a, h => by obtain ⟨j, h, _⟩ := h; omega
  | f + 1, a, h => by
    rcases h0 : p a with _ | _
    · obtain ⟨j, hj, hp⟩ := h
      have hj0 : j ≠ 0 := by rintro rfl; simp [h0] at hp
      obtain ⟨i, hi, h1, h2⟩ := least_ex p f (a + 1) ⟨j - 1, by omega, by rw [← hp]; congr 1; omega⟩
      refine ⟨i + 1, by omega, by rw [← h1]; congr 1; omega, fun q hq => ?_⟩
      rcases Nat.eq_zero_or_pos q with hz | hz
      · subst hz; simpa using h0
      · have := h2 (q - 1) (by omega)
        rw [← this]; congr 1; omega
    · exact ⟨0, by omega, by simpa using h0, fun i hi => absurd hi (by omega)⟩
/-- Placed batches: starts, hours. -/
def Placed (ps : List Int) (m : Nat) : Prop := m ≤ 10 ∧ ∀ j, j < m → 0 ≤ gi ps (j * 4) ∧ gi ps (j * 4) ≤ 5000 ∧ 1 ≤ gi ps (j * 4 + 1) ∧ gi ps (j * 4 + 1) ≤ 500 ∧ 1 ≤ gi ps (j * 4 + 3) ∧ gi ps (j * 4 + 3) ≤ 100
/-- When a batch leaves the tank. -/
def endF (ps : List Int) (j : Nat) : Int := gi ps (j * 4) + gi ps (j * 4 + 1)
theorem sp_late {ps : List Int} {m : Nat} {so bu room t : Int} (hp : Placed ps m) (hbu : bu ≤ room) (ht : ∀ j, j < m → endF ps j ≤ t) : spB ps m so bu room t = true := by
  rw [spB_true]
  have hz : sumTo (tankF ps t) m = 0 := tank_zero fun j hj => by
    have h1 := ht j hj
    unfold endF at h1
    unfold tankF
    rw [if_neg]
    rw [Bool.not_eq_true]
    simp [inR]; omega
  refine ⟨by omega, fun i hi ha hb => ?_⟩
  have h1 := ht i hi
  have h2 := hp.2 i hi
  unfold endF at h1
  omega
/-- The greatest of the ends, and of a start. -/
def lateF (ps : List Int) (st : Int) : Nat → Int
  | 0 => st
  | k + 1 => max (lateF ps st k) (endF ps k)
theorem lateF_ge (ps : List Int) (st : Int) : ∀ k : Nat, st ≤ lateF ps st k ∧ (∀ j, j < k → endF ps j ≤ lateF ps st k) ∧ (lateF ps st k = st ∨ ∃ j, j < k ∧ lateF ps st k = endF ps j)
  | 0 => ⟨Int.le_refl _, fun j h => absurd h (by omega), .inl rfl⟩
  | k + 1 => by
    obtain ⟨h1, h2, h3⟩ := lateF_ge ps st k
    simp only [lateF]
    refine ⟨by omega, fun j hj => ?_, ?_⟩
    · rcases Nat.lt_or_ge j k with h | h
      · have := h2 j h; omega
      · obtain rfl : j = k := by omega
        omega
    · rcases Int.le_total (lateF ps st k) (endF ps k) with h | h
      · rw [Int.max_eq_right h]; exact .inr ⟨k, by omega, rfl⟩
      · rw [Int.max_eq_left h]
        rcases h3 with h3 | ⟨j, hj, h3⟩
        · exact .inl h3
        · exact .inr ⟨j, by omega, h3⟩
theorem lateF_bd {ps : List Int} {m : Nat} {st : Int} (hp : Placed ps m) (h1 : st ≤ 5000) : lateF ps st m ≤ 5500 := by
  rcases (lateF_ge ps st m).2.2 with h | ⟨j, hj, h⟩
  · omega
  · have := hp.2 j hj
    unfold endF at h; omega
/-- There is a least hour, and it is not far. -/
theorem early_ex {ps : List Int} {m : Nat} {so bu room st : Int} (hp : Placed ps m) (hbu : bu ≤ room) (h0 : 0 ≤ st) (h1 : st ≤ 5000) :
    ∃ j : Nat, j < 6000 ∧ spB ps m so bu room (st + j) = true ∧ (∀ i : Nat, i < j → spB ps m so bu room (st + i) = false) ∧ leastFrom (spB ps m so bu room) 6000 st = st + j := by
  obtain ⟨a1, a2, _⟩ := lateF_ge ps st m
  have a4 := lateF_bd hp h1
  obtain ⟨j, hj, h2, h3⟩ := least_ex (spB ps m so bu room) 6000 st ⟨(lateF ps st m - st).toNat, by omega, by
    rw [show st + ((lateF ps st m - st).toNat : Int) = lateF ps st m by omega]
    exact sp_late hp hbu a2⟩
  exact ⟨j, hj, h2, h3, leastFrom_eq j 6000 st h3 h2 (by omega)⟩
/-- The least hour is the batch's own, or one at which another leaves. -/
theorem early_at {ps : List Int} {m : Nat} {so bu room st T : Int} (hp : Placed ps m) (hso : 1 ≤ so) (hT : spB ps m so bu room T = true) (hst : st ≤ T) (hl : st < T → spB ps m so bu room (T - 1) = false) :
    T = st ∨ ∃ j, j < m ∧ T = max st (endF ps j) := by
  rcases Int.lt_or_le st T with hlt | hge
  · refine .inr ?_
    have h1 := hl hlt
    rw [spB_true] at hT
    obtain ⟨t1, t2⟩ := hT
    have hnot : ¬ sumTo (tankF ps (T - 1)) m + bu ≤ room := by
      intro hle
      have : spB ps m so bu room (T - 1) = true := by
        rw [spB_true]
        refine ⟨hle, fun i hi ha hb => ?_⟩
        rcases Int.lt_or_le (T - 1) (gi ps (i * 4)) with h3 | h3
        · exact t2 i hi (by omega) (by omega)
        · have e : gi ps (i * 4) = T - 1 := by omega
          rw [e]; exact hle
      rw [h1] at this; cases this
    have hex : ∃ j, j < m ∧ tankF ps T j < tankF ps (T - 1) j := by
      refine Classical.byContradiction fun hno => ?_
      have : sumTo (tankF ps (T - 1)) m ≤ sumTo (tankF ps T) m := sumTo_le fun j hj => by
        refine Classical.byContradiction fun hh => hno ⟨j, hj, by omega⟩
      omega
    obtain ⟨j, hj, hlt2⟩ := hex
    refine ⟨j, hj, ?_⟩
    have hb := hp.2 j hj
    have he : T = endF ps j := by
      unfold tankF at hlt2
      unfold endF
      simp only [inR] at hlt2
      by_cases c1 : gi ps (j * 4) ≤ T - 1 <;> by_cases c2 : T - 1 ≤ gi ps (j * 4) + gi ps (j * 4 + 1) - 1 <;> by_cases c3 : gi ps (j * 4) ≤ T <;> by_cases c4 : T ≤ gi ps (j * 4) + gi ps (j * 4 + 1) - 1 <;> simp [c1, c2, c3, c4] at hlt2 <;> omega
    omega
  · exact .inl (by omega)

end Go.Proofs.Ytnagaopogmdfgaa
