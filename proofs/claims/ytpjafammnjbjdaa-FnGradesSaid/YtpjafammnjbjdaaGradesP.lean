/-
  Plain laws on grades, the order of the rods and the two most alike.
  No conditions.
-/
import Derived.Test.YtpjafammnjbjdaaLong
import Derived.Test.YtpjafammnjbjdaaAlike
import Derived.Test.YtpjafammnjbjdaaCount
import Derived.Test.YtpjafammnjbjdaaBetween
import Derived.Test.YtpjafammnjbjdaaDrawRs
namespace Go.Proofs.Ytpjafammnjbjdaa
open Go.ChangeShapes Go.WideShapes Go.ChangeAt Go.RowKit Go.Deep
set_option linter.unusedVariables false

/-! The order: the greater key first, those of one key in their order. -/
def oR (f : Int → Int) (a b : Int) : Prop := f b < f a ∨ (f a = f b ∧ a < b)
theorem gi_nth {zs : List Int} {j : Nat} (h : j < zs.length) : gi zs j = zs[j] := by simp [gi, List.getD, List.getElem?_eq_getElem h]
/-- What stands behind the place has a smaller key. -/
theorem insK_after (f : Int → Int) (xs : List Int) (x : Int) : ∀ (k j : Nat), insK f xs x k ≤ j → j < k → f (gi xs j) < f x
  | 0, j, _, h => absurd h (by omega)
  | k + 1, j, h1, h2 => by
    unfold insK at h1
    split at h1
    · next hlt =>
      rcases Nat.lt_or_ge j k with h3 | h3
      · exact insK_after f xs x k j h1 h3
      · obtain rfl : j = k := by omega
        exact hlt
    · omega
/-- The last that stands ahead has no smaller key. -/
theorem insK_last (f : Int → Int) (xs : List Int) (x : Int) : ∀ (k : Nat), 0 < insK f xs x k → f x ≤ f (gi xs (insK f xs x k - 1))
  | 0, h => absurd h (by simp [insK])
  | k + 1, h => by
    unfold insK at h ⊢
    split
    · next hlt => rw [if_pos hlt] at h; exact insK_last f xs x k h
    · next hlt => simp only [Nat.add_sub_cancel]; omega
theorem oR_trans {f : Int → Int} {a b c : Int} (h1 : oR f a b) (h2 : oR f b c) : oR f a c := by unfold oR at *; omega
theorem stTo_sorted (f : Int → Int) : ∀ k, (stTo f k).Pairwise (oR f)
  | 0 => List.Pairwise.nil
  | k + 1 => by
    have ih := stTo_sorted f k
    have hl := stTo_len f k
    unfold stTo insL
    rw [hl]
    have hle := insK_le f (stTo f k) k k
    rw [List.pairwise_append, List.pairwise_cons]
    have hsub := ih
    rw [← List.take_append_drop (insK f (stTo f k) k k) (stTo f k), List.pairwise_append] at hsub
    refine ⟨hsub.1, ⟨fun b hb => ?_, hsub.2.1⟩, fun a ha b hb => ?_⟩
    · obtain ⟨j, hj, rfl⟩ := List.mem_iff_getElem.1 hb
      rw [List.length_drop] at hj
      have := insK_after f (stTo f k) k k (insK f (stTo f k) k k + j) (by omega) (by omega)
      rw [gi_nth (by omega)] at this
      rw [List.getElem_drop]
      exact .inl this
    · rcases List.mem_cons.1 hb with rfl | hb
      · have hm := stTo_mem f k a (List.mem_of_mem_take ha)
        obtain ⟨j, hj, rfl⟩ := List.mem_iff_getElem.1 ha
        rw [List.length_take] at hj
        have h0 : 0 < insK f (stTo f k) k k := by omega
        have hlast := insK_last f (stTo f k) k k h0
        rw [gi_nth (by omega)] at hlast
        rw [List.getElem_take] at hm ⊢
        have : f ((stTo f k)[insK f (stTo f k) k k - 1]'(by omega)) ≤ f ((stTo f k)[j]'(by omega)) := by
          rcases Nat.lt_or_ge j (insK f (stTo f k) k k - 1) with h1 | h1
          · have := (List.pairwise_iff_getElem.1 ih) j (insK f (stTo f k) k k - 1) (by omega) (by omega) h1
            unfold oR at this; omega
          · have e : j = insK f (stTo f k) k k - 1 := by omega
            subst e; exact Int.le_refl _
        unfold oR; omega
      · exact hsub.2.2 a ha b hb
theorem st_ord {f : Int → Int} {m i j : Nat} (h : i < j) (hj : j < m) : oR f (gi (stTo f m) i) (gi (stTo f m) j) := by
  have hl := stTo_len f m
  rw [gi_nth (by omega), gi_nth (by omega)]
  exact (List.pairwise_iff_getElem.1 (stTo_sorted f m)) i j (by omega) (by omega) h
theorem st_bd {f : Int → Int} {m i : Nat} (h : i < m) : 0 ≤ gi (stTo f m) i ∧ gi (stTo f m) i < m := by
  have hl := stTo_len f m
  rw [gi_nth (by omega)]
  exact stTo_mem f m _ (List.getElem_mem _)
theorem gi_take {zs : List Int} {i j : Nat} (h : j < i) : gi (zs.take i) j = gi zs j := by simp [gi, List.getD, List.getElem?_take_of_lt h]
/-- No place stands twice. -/
theorem st_new {f : Int → Int} {m i : Nat} (h : i < m) : hasB ((stTo f m).take i) (gi (stTo f m) i) i = false := by
  rw [Bool.eq_false_iff]
  intro hh
  obtain ⟨j, hj, e⟩ := hasB_ex hh
  rw [gi_take hj] at e
  have := st_ord (f := f) hj h
  rw [e] at this
  unfold oR at this; omega

/-! The chosen. -/
theorem sel_has {p : Nat → Bool} {i : Nat} : ∀ (m : Nat), i < m → hasB (selTo p m) i (selTo p m).length = p i := by
  intro m hi
  rcases hp : p i with _ | _
  · rw [Bool.eq_false_iff]
    intro hh
    obtain ⟨j, hj, e⟩ := hasB_ex hh
    rw [gi_nth hj] at e
    have hm : (selTo p m)[j] ∈ selTo p m := List.getElem_mem _
    rw [e] at hm
    have : ∀ k, (i : Int) ∈ selTo p k → p i = true := by
      intro k
      induction k with
      | zero => intro h; simp [selTo] at h
      | succ k ih =>
        intro h
        simp only [selTo] at h
        split at h
        · next hk =>
          rcases List.mem_append.1 h with h | h
          · exact ih h
          · simp at h
            obtain rfl : i = k := by omega
            exact hk
        · exact ih h
    rw [this m hm] at hp; cases hp
  · have : (i : Int) ∈ selTo p m := by
      have : ∀ k, i < k → (i : Int) ∈ selTo p k := by
        intro k
        induction k with
        | zero => intro h; omega
        | succ k ih =>
          intro h
          simp only [selTo]
          rcases Nat.lt_or_ge i k with h1 | h1
          · split
            · exact List.mem_append.2 (.inl (ih h1))
            · exact ih h1
          · obtain rfl : i = k := by omega
            rw [if_pos hp]; simp
      exact this m hi
    obtain ⟨j, hj, e⟩ := List.mem_iff_getElem.1 this
    exact hasB_at (k := j) (by rw [gi_nth hj]; exact e) _ hj
theorem sel_sorted (p : Nat → Bool) : ∀ m, (selTo p m).Pairwise (· < ·)
  | 0 => List.Pairwise.nil
  | m + 1 => by
    simp only [selTo]
    split
    · rw [List.pairwise_append]
      refine ⟨sel_sorted p m, by simp, fun a ha b hb => ?_⟩
      have := selTo_mem p m a ha
      simp at hb; omega
    · exact sel_sorted p m
theorem sel_rise (p : Nat → Bool) (m j : Nat) (hj : j < (selTo p m).length) : 0 ≤ gi (selTo p m) j ∧ gi (selTo p m) j < m ∧ (0 < j → gi (selTo p m) (j - 1) < gi (selTo p m) j) := by
  have hm := selTo_mem p m _ (List.getElem_mem hj)
  rw [gi_nth hj]
  refine ⟨hm.1, hm.2, fun h0 => ?_⟩
  rw [gi_nth (by omega)]
  exact (List.pairwise_iff_getElem.1 (sel_sorted p m)) (j - 1) j (by omega) hj (by omega)

/-! The counts. -/
theorem cg_sum (zs ls : List Int) : ∀ k, sumTo (gi (cgTo zs ls 2 k)) 3 = k
  | 0 => by simp [cgTo, sumTo, gi]
  | k + 1 => by
    have ih := cg_sum zs ls k
    have hl := cg_len zs ls 2 k
    have hg := grN_le zs ls 2 k
    simp only [cgTo]
    generalize cgTo zs ls 2 k = L at ih hl
    generalize grN zs ls 2 k = g at hg
    obtain ⟨a, b, c, rfl⟩ : ∃ a b c, L = [a, b, c] := by
      match L, hl with
      | [a, b, c], _ => exact ⟨a, b, c, rfl⟩
    simp [sumTo, gi] at ih
    rcases (by omega : g = 0 ∨ g = 1 ∨ g = 2) with rfl | rfl | rfl <;> simp [sumTo, gi] <;> omega

/-! The two most alike. -/
def mLess (d : Nat → Nat → Int) (n : Nat) (s : Nat × Nat) : Prop := s.1 < s.2 ∧ s.2 < n
theorem stS_ok {d : Nat → Nat → Int} {n i k : Nat} {s : Nat × Nat} (h : mLess d n s) (hi : i < k) (hk : k < n) : mLess d n (stS d i k s) ∧ d (stS d i k s).1 (stS d i k s).2 ≤ d s.1 s.2 ∧ d (stS d i k s).1 (stS d i k s).2 ≤ d i k := by
  unfold stS
  split
  · next hc => exact ⟨⟨hi, hk⟩, by simp only; omega, Int.le_refl _⟩
  · next hc => exact ⟨h, Int.le_refl _, by omega⟩
theorem inS_ok {d : Nat → Nat → Int} {n i : Nat} {s : Nat × Nat} (h : mLess d n s) : ∀ m, i + m < n → mLess d n (inS d i s m) ∧ d (inS d i s m).1 (inS d i s m).2 ≤ d s.1 s.2 ∧ ∀ j, j < m → d (inS d i s m).1 (inS d i s m).2 ≤ d i (i + 1 + j)
  | 0, _ => ⟨h, Int.le_refl _, fun j hj => absurd hj (by omega)⟩
  | m + 1, hm => by
    obtain ⟨h1, h2, h3⟩ := inS_ok (i := i) h m (by omega)
    obtain ⟨g1, g2, g3⟩ := stS_ok h1 (i := i) (k := i + 1 + m) (by omega) (by omega)
    refine ⟨g1, Int.le_trans g2 h2, fun j hj => ?_⟩
    rcases Nat.lt_or_ge j m with h4 | h4
    · exact Int.le_trans g2 (h3 j h4)
    · obtain rfl : j = m := by omega
      exact g3
theorem ouS_ok {d : Nat → Nat → Int} {n : Nat} (hn : 2 ≤ n) : ∀ q, q ≤ n → mLess d n (ouS d n q) ∧ ∀ i k, i < q → i < k → k < n → d (ouS d n q).1 (ouS d n q).2 ≤ d i k
  | 0, _ => ⟨⟨by show 0 < 1; omega, by show 1 < n; omega⟩, fun i k h => absurd h (by omega)⟩
  | q + 1, hq => by
    obtain ⟨h1, h2⟩ := ouS_ok (d := d) hn q (by omega)
    obtain ⟨g1, g2, g3⟩ := inS_ok (i := q) h1 (n - (q + 1)) (by omega)
    refine ⟨g1, fun i k hi hik hk => ?_⟩
    rcases Nat.lt_or_ge i q with h4 | h4
    · exact Int.le_trans g2 (h2 i k h4 hik hk)
    · obtain rfl : i = q := by omega
      have := g3 (k - (i + 1)) (by omega)
      rwa [show i + 1 + (k - (i + 1)) = k by omega] at this
end Go.Proofs.Ytpjafammnjbjdaa
