/-
  The need that beds meet in each of some years: plain lemmas.
  No conditions.
-/
import Derived.Test.YtnlddplhaiceaaaAfterI
namespace Go.Proofs.Ytnlddplhaiceaaa
set_option linter.unusedVariables false

/-- Whether one of the first numbers has it. -/
def anyB (p : Nat → Bool) : Nat → Bool
  | 0 => false
  | k + 1 => anyB p k || p k
theorem anyB_ex {p : Nat → Bool} : ∀ {k : Nat}, anyB p k = true ↔ ∃ j, j < k ∧ p j = true
  | 0 => by simp [anyB]
  | k + 1 => by
    simp only [anyB, Bool.or_eq_true, anyB_ex (p := p) (k := k)]
    constructor
    · rintro (⟨j, h1, h2⟩ | h)
      · exact ⟨j, by omega, h2⟩
      · exact ⟨k, by omega, h⟩
    · rintro ⟨j, h1, h2⟩
      rcases Nat.lt_or_ge j k with hh | hh
      · exact .inl ⟨j, hh, h2⟩
      · obtain rfl : j = k := by omega
        exact .inr h2
theorem anyB_hit {p : Nat → Bool} {k n : Nat} (h : p k = true) (hk : k < n) : anyB p n = true := anyB_ex.2 ⟨k, hk, h⟩
theorem anyB_succ (p : Nat → Bool) (k : Nat) : anyB p (k + 1) = (anyB p k || p k) := rfl
/-- The beds a year later where the set S has been cut. -/
def aftS (bs : Nat → List Int × Int) (n S : Nat) : Nat → List Int × Int := aftB bs (selTo (Nat.testBit S) n) (selTo (Nat.testBit S) n).length
/-- Whether beds meet a need in each of some years. -/
def meets (n : Nat) (need : Int) : Nat → (Nat → List Int × Int) → Bool
  | 0, _ => true
  | y + 1, bs => anyB (fun S => decide (need ≤ bsum bs n S) && meets n need y (aftS bs n S)) (2 ^ n)
theorem meets_succ (n : Nat) (need : Int) (y : Nat) (bs : Nat → List Int × Int) : meets n need (y + 1) bs = anyB (fun S => decide (need ≤ bsum bs n S) && meets n need y (aftS bs n S)) (2 ^ n) := rfl
/-- What the beds of a set yield at these ages. -/
def sAt (bs : Nat → List Int × Int) (az : List Int) (S : Nat) (i : Nat) : Int := if S.testBit i then yfor (yl bs i) (gi az i) else 0
/-- The ages a year later. -/
def nxt (az : List Int) (S : Nat) : Nat → List Int
  | 0 => []
  | k + 1 => nxt az S k ++ [if S.testBit k then 1 else gi az k + 1]
theorem nxt_len (az : List Int) (S : Nat) : ∀ k, (nxt az S k).length = k
  | 0 => rfl
  | k + 1 => by simp [nxt, nxt_len az S k]
theorem nxt_gi (az : List Int) (S : Nat) : ∀ k i, i < k → gi (nxt az S k) i = if S.testBit i then 1 else gi az i + 1
  | 0, i, h => absurd h (by omega)
  | k + 1, i, h => by
    rcases Nat.lt_or_ge i k with hh | hh
    · rw [nxt, gi_snoc_lt (by rw [nxt_len]; exact hh), nxt_gi az S k i hh]
    · obtain rfl : i = k := by omega
      rw [nxt, gi_snoc_at (by rw [nxt_len])]
/-- The best of the first sets: s what a set yields now, t what the years behind it give. -/
def stFold (s t : Nat → Int) (deep : Bool) : Nat → Int
  | 0 => 0
  | K + 1 => let b := stFold s t deep K
    let v := if deep && decide (b < s K) then (if s K < t K then s K else t K) else s K
    if b < v then v else b
def std (n : Nat) (bs : Nat → List Int × Int) : Nat → List Int → Int
  | 0, _ => 0
  | y + 1, az => stFold (fun S => sumTo (sAt bs az S) n) (fun S => std n bs y (nxt az S n)) (decide (0 < y)) (2 ^ n)
theorem std_succ (n : Nat) (bs : Nat → List Int × Int) (y : Nat) (az : List Int) : std n bs (y + 1) az = stFold (fun S => sumTo (sAt bs az S) n) (fun S => std n bs y (nxt az S n)) (decide (0 < y)) (2 ^ n) := rfl
theorem stFold_ge (s t : Nat → Int) (deep : Bool) : ∀ K, 0 ≤ stFold s t deep K
  | 0 => by simp [stFold]
  | K + 1 => by
    have := stFold_ge s t deep K
    simp only [stFold]
    generalize (if deep && decide (stFold s t deep K < s K) then (if s K < t K then s K else t K) else s K) = v
    split <;> omega
theorem stFold_le {s t : Nat → Int} {deep : Bool} {M : Int} (h0 : 0 ≤ M) (hs : ∀ S, s S ≤ M) : ∀ K, stFold s t deep K ≤ M
  | 0 => by simpa [stFold] using h0
  | K + 1 => by
    have ih := stFold_le (t := t) (deep := deep) h0 hs K
    have h1 := hs K
    simp only [stFold]
    have h2 : (if deep && decide (stFold s t deep K < s K) then (if s K < t K then s K else t K) else s K) ≤ M := by
      split
      · split <;> omega
      · exact h1
    generalize (if deep && decide (stFold s t deep K < s K) then (if s K < t K then s K else t K) else s K) = v at h2 ⊢
    split
    · exact h2
    · exact ih
theorem stFold_iff {s t : Nat → Int} {deep : Bool} {need : Int} (h0 : 0 < need) : ∀ K, need ≤ stFold s t deep K ↔ ∃ S, S < K ∧ need ≤ s S ∧ (deep = true → need ≤ t S)
  | 0 => by simp [stFold]; omega
  | K + 1 => by
    have ih := stFold_iff (s := s) (t := t) (deep := deep) h0 K
    have hex : (∃ S, S < K + 1 ∧ need ≤ s S ∧ (deep = true → need ≤ t S)) ↔ (∃ S, S < K ∧ need ≤ s S ∧ (deep = true → need ≤ t S)) ∨ (need ≤ s K ∧ (deep = true → need ≤ t K)) := by
      constructor
      · rintro ⟨S, h1, h2⟩
        rcases Nat.lt_or_ge S K with hh | hh
        · exact .inl ⟨S, hh, h2⟩
        · obtain rfl : S = K := by omega
          exact .inr h2
      · rintro (⟨S, h1, h2⟩ | h)
        · exact ⟨S, by omega, h2⟩
        · exact ⟨K, by omega, h⟩
    rw [hex, ← ih]
    simp only [stFold]
    generalize stFold s t deep K = b
    rcases deep with _ | _
    · simp only [Bool.false_and, Bool.false_eq_true, if_false, false_implies, and_true]
      split <;> omega
    · simp only [Bool.true_and, decide_eq_true_eq, true_implies]
      (repeat' split) <;> omega
theorem yfor_min {ys : List Int} {a : Int} (h1 : 1 ≤ ys.length) (h0 : 0 ≤ a) : yfor ys (if a < ys.length then a else ys.length) = yfor ys a := by
  by_cases h : a < ys.length
  · rw [if_pos h]
  · by_cases h2 : a ≤ ys.length
    · have e : a = ys.length := by omega
      rw [e]; simp
    · rw [if_neg h]
      unfold yfor
      have e1 : ¬ (ys.length : Int) = 0 := by omega
      have e2 : ¬ a = 0 := by omega
      rw [if_neg e1, if_neg e2, if_pos (Int.le_refl _), if_neg h2]
      simp
/-- The ages of the beds are these, but for what is above the last. -/
def AgeEq (bs : Nat → List Int × Int) (az : List Int) (n : Nat) : Prop := ∀ i, i < n → 0 ≤ gi az i ∧ ag bs i = (if gi az i < (yl bs i).length then gi az i else (yl bs i).length)
theorem bsum_at {bs : Nat → List Int × Int} {az : List Int} {n : Nat} (hok : ∀ i, i < n → 1 ≤ (yl bs i).length) (h : AgeEq bs az n) (S : Nat) : bsum bs n S = sumTo (sAt bs az S) n := by
  have key : ∀ k, k ≤ n → sumTo (fun i => if S.testBit i then yNow bs i else 0) k = sumTo (sAt bs az S) k := by
    intro k
    induction k with
    | zero => intro _; rfl
    | succ k ih =>
      intro hk
      rw [sumTo_succ, sumTo_succ, ih (by omega)]
      congr 1
      unfold sAt yNow
      have hh := h k (by omega)
      rw [hh.2, yfor_min (hok k (by omega)) hh.1]
  exact key n (Nat.le_refl _)
theorem hasZ_sel (p : Nat → Bool) {n i : Nat} (hi : i < n) : hasZ (selTo p n) (i : Int) (selTo p n).length = p i := by
  rcases h : p i with _ | _
  · refine hasZ_no _ (fun k hk e => ?_)
    have hm := mem_gi hk
    rw [e] at hm
    exact absurd (sel_has p n i hi |>.1 hm) (by rw [h]; simp)
  · obtain ⟨k, hk, e⟩ := gi_mem ((sel_has p n i hi).2 h)
    exact hasZ_at e _ hk
theorem aftS_age {bs : Nat → List Int × Int} {az : List Int} {n : Nat} (hok : ∀ i, i < n → 1 ≤ (yl bs i).length) (h : AgeEq bs az n) (S : Nat) : AgeEq (aftS bs n S) (nxt az S n) n := by
  intro i hi
  have hh := h i hi
  have h1 := hok i hi
  rw [nxt_gi az S n i hi]
  have e1 : yl (aftS bs n S) i = yl bs i := rfl
  have e2 : ag (aftS bs n S) i = if cutA bs (selTo (Nat.testBit S) n) (selTo (Nat.testBit S) n).length i + 1 < (yl bs i).length then cutA bs (selTo (Nat.testBit S) n) (selTo (Nat.testBit S) n).length i + 1 else (yl bs i).length := rfl
  rw [e1, e2]
  unfold cutA
  rw [hasZ_sel _ hi]
  rcases S.testBit i with _ | _
  · simp only [Bool.false_eq_true, if_false]
    refine ⟨by omega, ?_⟩
    rw [hh.2]
    (repeat' split) <;> omega
  · simp only [if_true]
    refine ⟨by omega, ?_⟩
    (repeat' split) <;> omega
theorem std_same (n : Nat) {bs bs' : Nat → List Int × Int} (he : ∀ i, yl bs' i = yl bs i) : ∀ y az, std n bs' y az = std n bs y az
  | 0, _ => rfl
  | y + 1, az => by
    rw [std_succ, std_succ]
    have e1 : (fun S => sumTo (sAt bs' az S) n) = fun S => sumTo (sAt bs az S) n := by
      funext S
      have : sAt bs' az S = sAt bs az S := by funext i; simp only [sAt, he]
      rw [this]
    have e2 : (fun S => std n bs' y (nxt az S n)) = fun S => std n bs y (nxt az S n) := by funext S; exact std_same n he y _
    rw [e1, e2]
/-- The needs that are met are those up to the steady one. -/
theorem meets_iff {n : Nat} {need : Int} (h0 : 0 < need) : ∀ (y : Nat) (bs : Nat → List Int × Int) (az : List Int), (∀ i, i < n → 1 ≤ (yl bs i).length) → AgeEq bs az n → (meets n need (y + 1) bs = true ↔ need ≤ std n bs (y + 1) az)
  | 0, bs, az, hok, h => by
    rw [meets_succ, std_succ, stFold_iff h0, anyB_ex]
    simp only [bsum_at hok h, meets, Bool.and_true, decide_eq_true_eq, Nat.lt_irrefl, decide_false, Bool.false_eq_true, false_implies, and_true]
  | y + 1, bs, az, hok, h => by
    rw [meets_succ, std_succ, stFold_iff h0, anyB_ex]
    have key : ∀ S, (meets n need (y + 1) (aftS bs n S) = true ↔ need ≤ std n bs (y + 1) (nxt az S n)) := by
      intro S
      rw [meets_iff h0 y (aftS bs n S) (nxt az S n) hok (aftS_age hok h S), std_same (bs := bs) (bs' := aftS bs n S) n (fun _ => rfl)]
    simp only [bsum_at hok h, Bool.and_eq_true, decide_eq_true_eq, key, Nat.zero_lt_succ, true_implies]
theorem std_bd {n : Nat} {bs : Nat → List Int × Int} (y : Nat) {az : List Int} {M : Int} (h0 : 0 ≤ M) (hs : ∀ S, sumTo (sAt bs az S) n ≤ M) : 0 ≤ std n bs y az ∧ std n bs y az ≤ M := by
  cases y with
  | zero => exact ⟨Int.le_refl _, h0⟩
  | succ y => rw [std_succ]; exact ⟨stFold_ge _ _ _ _, stFold_le h0 hs _⟩
end Go.Proofs.Ytnlddplhaiceaaa
