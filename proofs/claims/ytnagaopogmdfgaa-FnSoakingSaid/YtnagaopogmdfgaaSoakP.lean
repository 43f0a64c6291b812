/-
  FnSoaking: plain lemmas on a plan of drawn batches.
  No conditions.
-/
import Derived.Test.YtnagaopogmdfgaaEarlyW
namespace Go.Proofs.Ytnagaopogmdfgaa

theorem gi4_0 (a b c d : Int) : gi [a, b, c, d] 0 = a := rfl
theorem gi4_1 (a b c d : Int) : gi [a, b, c, d] 1 = b := rfl
theorem gi4_2 (a b c d : Int) : gi [a, b, c, d] 2 = c := rfl
theorem gi4_3 (a b c d : Int) : gi [a, b, c, d] 3 = d := rfl
theorem sumTo_congr {f g : Nat → Int} : ∀ {k : Nat}, (∀ j, j < k → f j = g j) → sumTo f k = sumTo g k
  | 0, _ => rfl
  | k + 1, h => by
    have h1 := sumTo_congr (k := k) fun j hj => h j (by omega)
    have h2 := h k (by omega)
    simp only [sumTo, h1, h2]
/-- The tank with one batch more. -/
theorem tank_snoc {ps : List Int} {k : Nat} {t so su bu h : Int} (hl : ps.length = k * 4) :
    sumTo (tankF (ps ++ [t, so, su, bu]) h) (k + 1) = sumTo (tankF ps h) k + if inR h t (t + so - 1) then bu else 0 := by
  rw [sumTo_succ]
  congr 1
  · exact sumTo_congr fun j hj => by
      unfold tankF
      rw [gi_left (by omega), gi_left (by omega), gi_left (by omega)]
  · unfold tankF
    rw [gi_right (r := 0) (by omega), gi_right (r := 1) (by omega), gi_right (r := 3) (by omega)]
    simp [gi]
theorem ftTo_neg {v : Int → Int} {st : Nat → Int} {room : Int} : ∀ {k : Nat}, (∀ j, j < k → v (st j) ≤ room) → ftTo v st room k = -1
  | 0, _ => rfl
  | k + 1, h => by
    have h1 := ftTo_neg (k := k) fun j hj => h j (by omega)
    have h2 := h k (by omega)
    simp only [ftTo]
    rw [if_neg (fun hh => by omega), h1]
theorem ftTo_pos {v : Int → Int} {st : Nat → Int} {room : Int} : ∀ {k : Nat}, (∀ j, j < k → 0 ≤ st j) → (∃ j, j < k ∧ room < v (st j)) → 0 ≤ ftTo v st room k
  | 0, _, h => by obtain ⟨j, hj, _⟩ := h; omega
  | k + 1, h0, h => by
    simp only [ftTo]
    split
    · exact h0 k (by omega)
    · next hn =>
      obtain ⟨j, hj, hr⟩ := h
      rcases Nat.lt_or_ge j k with hlt | hge
      · exact ftTo_pos (fun i hi => h0 i (by omega)) ⟨j, hlt, hr⟩
      · obtain rfl : j = k := by omega
        refine Classical.byContradiction fun hh => hn ⟨hr, .inl (by omega)⟩
/-- What the first hour with too many is. -/
theorem ftTo_spec {v : Int → Int} {st : Nat → Int} {room : Int} : ∀ {k : Nat}, (∀ j, j < k → 0 ≤ st j) → (ftTo v st room k = -1 ∧ ∀ j, j < k → v (st j) ≤ room) ∨ (0 ≤ ftTo v st room k ∧ room < v (ftTo v st room k) ∧ (∃ j, j < k ∧ ftTo v st room k = st j) ∧ ∀ j, j < k → room < v (st j) → ftTo v st room k ≤ st j)
  | 0, _ => .inl ⟨rfl, fun j h => absurd h (by omega)⟩
  | k + 1, h0 => by
    have ih := ftTo_spec (v := v) (st := st) (room := room) (k := k) fun j hj => h0 j (by omega)
    have hk := h0 k (by omega)
    by_cases hc : room < v (st k) ∧ (ftTo v st room k < 0 ∨ st k < ftTo v st room k)
    · have e : ftTo v st room (k + 1) = st k := if_pos hc
      rw [e]
      refine .inr ⟨hk, hc.1, ⟨k, by omega, rfl⟩, fun j hj hr => ?_⟩
      rcases Nat.lt_or_ge j k with h | h
      · rcases ih with ⟨_, h2⟩ | ⟨h1, _, _, h3⟩
        · have := h2 j h; omega
        · have := h3 j h hr
          rcases hc.2 with h4 | h4 <;> omega
      · obtain rfl : j = k := by omega
        exact Int.le_refl _
    · have e : ftTo v st room (k + 1) = ftTo v st room k := if_neg hc
      rw [e]
      rcases ih with ⟨h1, h2⟩ | ⟨h1, h2, ⟨i, hi, h3⟩, h4⟩
      · refine .inl ⟨h1, fun j hj => ?_⟩
        rcases Nat.lt_or_ge j k with h | h
        · exact h2 j h
        · obtain rfl : j = k := by omega
          refine Classical.byContradiction fun hh => hc ⟨by omega, .inl (by omega)⟩
      · refine .inr ⟨h1, h2, ⟨i, by omega, h3⟩, fun j hj hr => ?_⟩
        rcases Nat.lt_or_ge j k with h | h
        · exact h4 j h hr
        · obtain rfl : j = k := by omega
          refine Classical.byContradiction fun hh => hc ⟨hr, .inr (by omega)⟩
/-- What is in the tank at an hour is there at a start that is not later. -/
theorem tank_peak {zs : List Int} {m : Nat} {h : Int} (hb : ∀ j, j < m → 0 ≤ gi zs (j * 4 + 3)) (hpos : 0 < sumTo (tankF zs h) m) : ∃ i, i < m ∧ gi zs (i * 4) ≤ h ∧ sumTo (tankF zs h) m ≤ sumTo (tankF zs (gi zs (i * 4))) m := by
  -- the latest start among those in the tank
  have key : ∀ k : Nat, k ≤ m → (∃ j, j < k ∧ tankF zs h j ≠ 0) → ∃ i, i < k ∧ tankF zs h i ≠ 0 ∧ ∀ j, j < k → tankF zs h j ≠ 0 → gi zs (j * 4) ≤ gi zs (i * 4) := by
    intro k
    induction k with
    | zero => rintro _ ⟨j, hj, _⟩; omega
    | succ k ih =>
      intro hk hex
      by_cases hp : ∃ j, j < k ∧ tankF zs h j ≠ 0
      · obtain ⟨i, hi, h1, h2⟩ := ih (by omega) hp
        by_cases hc : tankF zs h k ≠ 0 ∧ gi zs (i * 4) < gi zs (k * 4)
        · refine ⟨k, by omega, hc.1, fun j hj hne => ?_⟩
          rcases Nat.lt_or_ge j k with hl | hl
          · have := h2 j hl hne; omega
          · obtain rfl : j = k := by omega
            exact Int.le_refl _
        · refine ⟨i, by omega, h1, fun j hj hne => ?_⟩
          rcases Nat.lt_or_ge j k with hl | hl
          · exact h2 j hl hne
          · obtain rfl : j = k := by omega
            refine Classical.byContradiction fun hh => hc ⟨hne, by omega⟩
      · obtain ⟨j, hj, hne⟩ := hex
        obtain rfl : j = k := by
          rcases Nat.lt_or_ge j k with hl | hl
          · exact absurd ⟨j, hl, hne⟩ hp
          · omega
        refine ⟨j, by omega, hne, fun q hq hq2 => ?_⟩
        rcases Nat.lt_or_ge q j with hl | hl
        · exact absurd ⟨q, hl, hq2⟩ hp
        · obtain rfl : q = j := by omega
          exact Int.le_refl _
  have hex : ∃ j, j < m ∧ tankF zs h j ≠ 0 := by
    refine Classical.byContradiction fun hno => ?_
    have : sumTo (tankF zs h) m = 0 := sumTo_zero fun j hj => by
      refine Classical.byContradiction fun hh => hno ⟨j, hj, hh⟩
    omega
  obtain ⟨i, hi, h1, h2⟩ := key m (Nat.le_refl _) hex
  have hin : ∀ j, tankF zs h j ≠ 0 → gi zs (j * 4) ≤ h ∧ h ≤ gi zs (j * 4) + gi zs (j * 4 + 1) - 1 := fun j hj => by
    unfold tankF at hj
    split at hj
    · next hr => exact inR_true hr
    · exact absurd rfl hj
  refine ⟨i, hi, (hin i h1).1, sumTo_le fun j hj => ?_⟩
  by_cases hz : tankF zs h j = 0
  · rw [hz]
    unfold tankF
    split
    · exact hb j hj
    · exact Int.le_refl _
  · have h3 := h2 j hj hz
    have h4 := hin j hz
    have h5 := hin i h1
    have e1 : tankF zs h j = gi zs (j * 4 + 3) := by unfold tankF; rw [if_pos (by simp [inR]; omega)]
    have e2 : tankF zs (gi zs (i * 4)) j = gi zs (j * 4 + 3) := by unfold tankF; rw [if_pos (by simp [inR]; omega)]
    rw [e1, e2]; exact Int.le_refl _
/-- A plan of drawn batches. -/
structure SoakP (zs : List Int) (room : Int) (k : Nat) (ps : List Int) : Prop where
  plan : Plan zs k ps
  ends : ∀ j, j < k → endF ps j ≤ 33 + 14 * (k : Int)
  same : ∀ j, j < k → gi zs (j * 4) ≤ gi ps (j * 4) ∧ gi ps (j * 4 + 1) = gi zs (j * 4 + 1) ∧ gi ps (j * 4 + 2) = gi zs (j * 4 + 2) ∧ gi ps (j * 4 + 3) = gi zs (j * 4 + 3)
  room_ : ∀ j, j < k → sumTo (tankF ps (gi ps (j * 4))) k ≤ room
  tight : ∀ j, j < k → gi zs (j * 4) < gi ps (j * 4) → spB (ps.take (j * 4)) j (gi zs (j * 4 + 1)) (gi zs (j * 4 + 3)) room (gi ps (j * 4) - 1) = false
theorem soak_plan {zs : List Int} {m : Nat} {room : Int} (hm : m ≤ 6) (hd : ∀ i, i < m → dB zs i) (h7 : 7 ≤ room) : ∀ k : Nat, k ≤ m → ∃ ps, plTo zs room k = some ps ∧ SoakP zs room k ps
  | 0, _ => ⟨[], rfl, ⟨Plan.nil zs, fun j hj => absurd hj (by omega), fun j hj => absurd hj (by omega), fun j hj => absurd hj (by omega), fun j hj => absurd hj (by omega)⟩⟩
  | k + 1, hk => by
    obtain ⟨ps, hp, S⟩ := soak_plan hm hd h7 k (by omega)
    have hdk := hd k (by omega)
    unfold dB at hdk
    have hlen := S.plan.len
    have hpl := S.plan.placed (by omega : k ≤ 10)
    obtain ⟨j0, hj0, e1, e2, e3⟩ := early_ex (so := gi zs (k * 4 + 1)) (bu := gi zs (k * 4 + 3)) (room := room) (st := gi zs (k * 4)) hpl (by omega) (by omega) (by omega)
    have hT : nextT zs ps k room = gi zs (k * 4) + j0 := e3
    have hat := early_at (so := gi zs (k * 4 + 1)) (bu := gi zs (k * 4 + 3)) (room := room) (st := gi zs (k * 4)) (T := gi zs (k * 4) + j0) hpl (by omega) e1 (by omega) (fun hlt => by
      have := e2 (j0 - 1) (by omega)
      rw [← this]; congr 1; omega)
    have hbd : gi zs (k * 4) + (j0 : Int) ≤ 33 + 14 * (k : Int) := by
      rcases hat with h | ⟨j, hj, h⟩
      · omega
      · have := S.ends j hj; omega
    have hs := plTo_succ zs room k ps hp
    rw [hT, if_neg (by omega)] at hs
    refine ⟨_, hs, ⟨S.plan.snoc (by omega) (by omega) (by omega) (by omega) (by omega) (by omega) (by omega) (by omega) (by omega), fun j hj => ?_, fun j hj => ?_, fun j hj => ?_, fun j hj hlt => ?_⟩⟩
    · unfold endF
      by_cases hjk : j < k
      · rw [gi_left (by omega), gi_left (by omega)]
        have := S.ends j hjk
        unfold endF at this; omega
      · obtain rfl : j = k := by omega
        rw [gi_right (r := 0) (by omega), gi_right (r := 1) (by omega), gi4_0, gi4_1]
        omega
    · by_cases hjk : j < k
      · rw [gi_left (by omega), gi_left (by omega), gi_left (by omega), gi_left (by omega)]
        exact S.same j hjk
      · obtain rfl : j = k := by omega
        rw [gi_right (r := 0) (by omega), gi_right (r := 1) (by omega), gi_right (r := 2) (by omega), gi_right (r := 3) (by omega), gi4_0, gi4_1, gi4_2, gi4_3]
        exact ⟨by omega, rfl, rfl, rfl⟩
    · rw [tank_snoc hlen]
      have hsp := spB_true.1 e1
      by_cases hjk : j < k
      · rw [gi_left (by omega)]
        have h1 := S.room_ j hjk
        split
        · next hr =>
          have hr2 := inR_true hr
          exact hsp.2 j hjk hr2.1 hr2.2
        · omega
      · obtain rfl : j = k := by omega
        rw [gi_right (r := 0) (by omega)]
        have e0 : gi [gi zs (j * 4) + (j0 : Int), gi zs (j * 4 + 1), gi zs (j * 4 + 2), gi zs (j * 4 + 3)] 0 = gi zs (j * 4) + (j0 : Int) := rfl
        rw [e0, if_pos (by simp [inR]; omega)]
        exact hsp.1
    · by_cases hjk : j < k
      · rw [gi_left (by omega)] at hlt ⊢
        rw [List.take_append_of_le_length (by omega)]
        exact S.tight j hjk hlt
      · obtain rfl : j = k := by omega
        rw [gi_right (r := 0) (by omega)] at hlt ⊢
        have e0 : gi [gi zs (j * 4) + (j0 : Int), gi zs (j * 4 + 1), gi zs (j * 4 + 2), gi zs (j * 4 + 3)] 0 = gi zs (j * 4) + (j0 : Int) := rfl
        rw [e0] at hlt ⊢
        rw [List.take_append_of_le_length (by omega), List.take_of_length_le (by omega)]
        have := e2 (j0 - 1) (by omega)
        rw [← this]; congr 1; omega

end Go.Proofs.Ytnagaopogmdfgaa
