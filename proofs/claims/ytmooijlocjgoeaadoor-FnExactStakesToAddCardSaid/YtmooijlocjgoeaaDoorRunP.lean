/-
  The longest run of a text that goes on for ever: two ways to count it answer the same.
  No conditions.
-/
import Derived.Test.YtmooijlocjgoeaaDoorBase
namespace Go.Proofs.YtmooijlocjgoeaaDoor

/-- How many equal elements stand up to place i, this one counted, since the last change (d j: places j and j + 1 differ). -/
def rn (d : Nat → Bool) : Nat → Nat
  | 0 => 1
  | i + 1 => if d i then 1 else rn d i + 1
def mostI (d : Nat → Bool) (n : Nat) : Nat → Nat
  | 0 => 1
  | k + 1 => max (mostI d n k) (min (rn d k) n)
def mostS (d : Nat → Bool) : Nat → Nat
  | 0 => 0
  | k + 1 => if d k then max (mostS d k) (rn d k) else mostS d k
def runI (d : Nat → Bool) : Nat → Nat
  | 0 => 0
  | k + 1 => rn d k
def runS (d : Nat → Bool) : Nat → Nat
  | 0 => 0
  | k + 1 => if d k then 0 else rn d k
section
variable {d : Nat → Bool} {n : Nat}
theorem rn_pos (i : Nat) : 1 ≤ rn d i := by
  cases i with
  | zero => simp [rn]
  | succ i => simp only [rn]; split <;> omega
theorem rn_le : ∀ i : Nat, rn d i ≤ i + 1
  | 0 => by simp [rn]
  | i + 1 => by
    have := rn_le i
    simp only [rn]; split <;> omega
theorem runS_succ (k : Nat) : runS d k + 1 = rn d k := by
  cases k with
  | zero => simp [rn, runS]
  | succ k => simp only [rn, runS]; split <;> simp
theorem runI_change {k : Nat} (hk : 0 < k) (h : d (k - 1) = true) : rn d k = 1 := by
  obtain ⟨j, rfl⟩ : ∃ j, k = j + 1 := ⟨k - 1, by omega⟩
  simp at h
  simp [rn, h]
theorem runI_keep {k : Nat} (hk : 0 < k) (h : d (k - 1) = false) : rn d k = runI d k + 1 := by
  obtain ⟨j, rfl⟩ : ∃ j, k = j + 1 := ⟨k - 1, by omega⟩
  simp at h
  simp [rn, runI, h]
theorem runI_le (k : Nat) : runI d k ≤ k := by
  cases k with
  | zero => simp [runI]
  | succ k => exact rn_le k
theorem runS_le (k : Nat) : runS d k ≤ k := by
  have := runS_succ (d := d) k
  have := rn_le (d := d) k
  omega
theorem rn_flat (a c : Nat) (h : ∀ i, a ≤ i → i < a + c → d i = false) : rn d (a + c) = rn d a + c := by
  induction c with
  | zero => rfl
  | succ c ih =>
    have h1 := ih (fun i h1 h2 => h i h1 (by omega))
    have h2 := h (a + c) (by omega) (by omega)
    show rn d ((a + c) + 1) = _
    rw [rn, h2]
    simp
    omega
theorem rn_since (a b : Nat) (ha : d a = true) (hab : a < b) (h : ∀ i, a < i → i < b → d i = false) : rn d b = b - a := by
  have h1 := rn_flat (d := d) (a + 1) (b - (a + 1)) (fun i h1 h2 => h i (by omega) (by omega))
  rw [show a + 1 + (b - (a + 1)) = b by omega] at h1
  have h2 : rn d (a + 1) = 1 := by simp [rn, ha]
  omega
theorem d_next (a : Nat) : ∀ c : Nat, d (a + c) = true → ∃ q, a ≤ q ∧ q ≤ a + c ∧ d q = true ∧ ∀ i, a ≤ i → i < q → d i = false
  | 0, h => ⟨a, Nat.le_refl _, by omega, h, fun i h1 h2 => absurd h1 (by omega)⟩
  | c + 1, h => by
    by_cases hx : ∃ i, a ≤ i ∧ i ≤ a + c ∧ d i = true
    · obtain ⟨i, h1, h2, h3⟩ := hx
      obtain ⟨e, rfl⟩ : ∃ e, i = a + e := ⟨i - a, by omega⟩
      have hlt : e ≤ c := by omega
      obtain ⟨q, k1, k2, k3⟩ := d_next a e h3
      exact ⟨q, k1, by omega, k3⟩
    · refine ⟨a + (c + 1), by omega, Nat.le_refl _, h, fun i h1 h2 => ?_⟩
      rcases hd : d i with _ | _
      · rfl
      · exact absurd ⟨i, h1, by omega, hd⟩ hx
termination_by c => c
theorem d_last (b : Nat) (hb : d b = true) : ∀ c : Nat, ∃ q, b ≤ q ∧ q ≤ b + c ∧ d q = true ∧ ∀ i, q < i → i ≤ b + c → d i = false
  | 0 => ⟨b, Nat.le_refl _, by omega, hb, fun i h1 h2 => absurd h1 (by omega)⟩
  | c + 1 => by
    rcases hd : d (b + (c + 1)) with _ | _
    · obtain ⟨q, h1, h2, h3, h4⟩ := d_last b hb c
      refine ⟨q, h1, by omega, h3, fun i k1 k2 => ?_⟩
      by_cases he : i = b + (c + 1)
      · rw [he]; exact hd
      · exact h4 i k1 (by omega)
    · exact ⟨b + (c + 1), by omega, Nat.le_refl _, hd, fun i h1 h2 => absurd h1 (by omega)⟩
theorem mostI_ge : ∀ (k i : Nat), i < k → min (rn d i) n ≤ mostI d n k
  | k + 1, i, h => by
    simp only [mostI]
    by_cases he : i = k
    · subst he; omega
    · have := mostI_ge k i (by omega); omega
theorem mostI_pos : ∀ k : Nat, 1 ≤ mostI d n k
  | 0 => by simp [mostI]
  | k + 1 => by have := mostI_pos k; simp only [mostI]; omega
theorem mostI_le (hn : 1 ≤ n) : ∀ k : Nat, mostI d n k ≤ n
  | 0 => by simpa [mostI] using hn
  | k + 1 => by have := mostI_le hn k; simp only [mostI]; omega
theorem mostI_is : ∀ k : Nat, mostI d n k = 1 ∨ ∃ i, i < k ∧ mostI d n k = min (rn d i) n
  | 0 => .inl rfl
  | k + 1 => by
    simp only [mostI]
    by_cases h : mostI d n k ≤ min (rn d k) n
    · exact .inr ⟨k, by omega, by omega⟩
    · rcases mostI_is k with h1 | ⟨i, h1, h2⟩
      · left; omega
      · exact .inr ⟨i, by omega, by omega⟩
theorem mostS_ge : ∀ (k i : Nat), i < k → d i = true → rn d i ≤ mostS d k
  | k + 1, i, h, hd => by
    simp only [mostS]
    by_cases he : i = k
    · subst he; simp [hd]; omega
    · have := mostS_ge k i (by omega) hd; split <;> omega
theorem mostS_le : ∀ k : Nat, mostS d k ≤ k
  | 0 => by simp [mostS]
  | k + 1 => by
    have := mostS_le k
    have := rn_le (d := d) k
    simp only [mostS]; split <;> omega
theorem mostS_is : ∀ k : Nat, mostS d k = 0 ∨ ∃ i, i < k ∧ d i = true ∧ mostS d k = rn d i
  | 0 => .inl rfl
  | k + 1 => by
    rcases hd : d k with _ | _
    · simp only [mostS, hd]
      rcases mostS_is k with h1 | ⟨i, h1, h2⟩
      · exact .inl h1
      · exact .inr ⟨i, by omega, h2⟩
    · simp only [mostS, hd, if_pos]
      by_cases h : mostS d k ≤ rn d k
      · exact .inr ⟨k, by omega, hd, by omega⟩
      · rcases mostS_is k with h1 | ⟨i, h1, h2, h3⟩
        · omega
        · exact .inr ⟨i, by omega, h2, by omega⟩
theorem mostS_zero (k : Nat) (h : ∀ i, i < k → d i = false) : mostS d k = 0 := by
  rcases mostS_is (d := d) k with h1 | ⟨i, h1, h2, _⟩
  · exact h1
  · rw [h i h1] at h2; cases h2
/-- The two counts agree where there is a change. -/
theorem most_same (hp : ∀ i, d (i + n) = d i) (j : Nat) (hj : j < n) (hd : d j = true) : mostI d n (2 * n) = mostS d (2 * n) := by
  refine Nat.le_antisymm ?_ ?_
  · rcases mostI_is (d := d) (n := n) (2 * n) with h | ⟨i, hi, h⟩
    · have := mostS_ge (d := d) (2 * n) j (by omega) hd
      have := rn_pos (d := d) j
      omega
    · have hle : rn d i ≤ mostS d (2 * n) := by
        by_cases hx : ∃ q, i ≤ q ∧ q < 2 * n ∧ d q = true
        · obtain ⟨q, h1, h2, h3⟩ := hx
          obtain ⟨e, rfl⟩ : ∃ e, q = i + e := ⟨q - i, by omega⟩
          obtain ⟨c, k1, k2, k3, k4⟩ := d_next i e h3
          obtain ⟨f, rfl⟩ : ∃ f, c = i + f := ⟨c - i, by omega⟩
          have := rn_flat (d := d) i f k4
          have := mostS_ge (d := d) (2 * n) (i + f) (by omega) k3
          omega
        · have hn : ∀ q, i ≤ q → q < 2 * n → d q = false := fun q h1 h2 => by
            rcases hq : d q with _ | _
            · rfl
            · exact absurd ⟨q, h1, h2, hq⟩ hx
          have hjn : d (j + n) = true := by rw [hp]; exact hd
          have hji : j + n < i := by
            rcases Nat.lt_or_ge (j + n) i with h1 | h1
            · exact h1
            · rw [hn _ h1 (by omega)] at hjn; cases hjn
          obtain ⟨b, k1, k2, k3, k4⟩ := d_last (d := d) (j + n) hjn (i - (j + n))
          have hb : b < i := by
            rcases Nat.lt_or_ge b i with h1 | h1
            · exact h1
            · rw [hn _ h1 (by omega)] at k3; cases k3
          have e1 := rn_since (d := d) b i k3 hb (fun q h1 h2 => k4 q h1 (by omega))
          have hb2 : d (b - n) = true := by have := hp (b - n); rw [show b - n + n = b by omega, k3] at this; exact this.symm
          have e2 := rn_since (d := d) (b - n) (i - n) hb2 (by omega) (fun q h1 h2 => by
            have := hp q; rw [k4 (q + n) (by omega) (by omega)] at this; exact this.symm)
          obtain ⟨e, he⟩ : ∃ e, b = (i - n) + e := ⟨b - (i - n), by omega⟩
          obtain ⟨c, m1, m2, m3, m4⟩ := d_next (d := d) (i - n) e (by rw [← he]; exact k3)
          obtain ⟨f, rfl⟩ : ∃ f, c = (i - n) + f := ⟨c - (i - n), by omega⟩
          have := rn_flat (d := d) (i - n) f m4
          have := mostS_ge (d := d) (2 * n) (i - n + f) (by omega) m3
          omega
      omega
  · rcases mostS_is (d := d) (2 * n) with h | ⟨i, hi, h1, h⟩
    · omega
    · have hle : rn d i ≤ n := by
        rcases Nat.lt_or_ge i n with h2 | h2
        · have := rn_le (d := d) i; omega
        · have h3 : d (i - n) = true := by have := hp (i - n); rw [show i - n + n = i by omega, h1] at this; exact this.symm
          obtain ⟨b, k1, k2, k3, k4⟩ := d_last (d := d) (i - n) h3 (n - 1)
          have := rn_since (d := d) b i k3 (by omega) (fun q h1 h2 => k4 q h1 (by omega))
          omega
      have := mostI_ge (d := d) (n := n) (2 * n) i hi
      omega
end

end Go.Proofs.YtmooijlocjgoeaaDoor
