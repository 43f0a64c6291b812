/-
  FnBeds: the plain laws, and the verifier's small helpers.
  No conditions.
-/
import Derived.Test.YtnlddplhaiceaaaDraws
import Derived.Test.YtnlddplhaiceaaaYield
namespace Go.Proofs.Ytnlddplhaiceaaa
open Go.ChangeShapes Go.WideShapes Go.ChangeAt Go.RowKit Go.Deep
set_option linter.unusedVariables false

theorem selTo_congr {p q : Nat → Bool} : ∀ n : Nat, (∀ k, k < n → p k = q k) → selTo p n = selTo q n
  | 0, _ => rfl
  | n + 1, h => by simp only [selTo, h n (by omega), selTo_congr n (fun k hk => h k (by omega))]
/-- The best is at least as good as any of the sets. -/
theorem bcTo_ge (ys : List Int) (a : Int) (n : Nat) : ∀ (K S : Nat), S < K → (planL ys a (selTo (Nat.testBit S) n)).1 ≤ (bcTo ys a n K).2
  | 0, S, h => absurd h (by omega)
  | K + 1, S, h => by
    rw [bcTo_succ]
    rcases Nat.lt_or_ge S K with hh | hh
    · have ih := bcTo_ge ys a n K S hh
      split
      · next hc => simp only; omega
      · exact ih
    · obtain rfl : S = K := by omega
      split
      · simp only; omega
      · next hc => omega
theorem bcTo_own (ys : List Int) (a : Int) (n : Nat) : ∀ K : Nat, (planL ys a (bcTo ys a n K).1).1 = (bcTo ys a n K).2
  | 0 => by simp [bcTo, planL]
  | K + 1 => by
    rw [bcTo_succ]
    split
    · rfl
    · exact bcTo_own ys a n K
theorem rise_ok {L : List Int} {n : Nat} (h : Cuts L n) : okAll (riseAt L 0 ((n : Int) - 1)) L.length L.length = true := by
  rw [okAll_end]
  · simp
  · intro i hi
    have hb := h.bd i hi
    simp only [riseAt, inR, Bool.and_eq_true, Bool.or_eq_true, decide_eq_true_eq]
    refine ⟨⟨by omega, by omega⟩, ?_⟩
    rcases Nat.eq_zero_or_pos i with h0 | h0
    · exact .inl h0
    · exact .inr (h.rise (i - 1) i (by omega) hi)
/-- A plan that is in order yields no more than the best cuts. -/
theorem plan_le {ys : List Int} {a : Int} {L : List Int} {n : Int} (h : ypC ys a L L.length n = 0) : bcC ys a n = 0 ∧ ¬ bcV ys a n < ypV ys a L L.length n := by
  unfold ypC at h
  split at h
  · next hb =>
    split at h
    · next hc =>
      simp only [Bool.and_eq_true] at hc
      have hr := inR_true hc.1
      obtain ⟨m, rfl⟩ : ∃ m : Nat, n = m := ⟨n.toNat, by omega⟩
      have hcut := cuts_of hc.2
      refine ⟨by simp [bcC, hb, hc.1], ?_⟩
      have e1 : ypV ys a L L.length (m : Int) = (planL ys a L).1 := by simp [ypV, hb, hc.1, hc.2]
      have e2 : bcV ys a (m : Int) = (bcTo ys a m (2 ^ m)).2 := by simp [bcV, hb, hc.1]
      have e3 : selTo (Nat.testBit (bitsOf L % 2 ^ m)) m = L := by
        rw [selTo_congr m (q := (bitsOf L).testBit) (fun k hk => by rw [Nat.testBit_mod_two_pow]; simp [hk])]
        exact take_of_sel hcut
      have := bcTo_ge ys a m (2 ^ m) (bitsOf L % 2 ^ m) (Nat.mod_lt _ (Nat.two_pow_pos m))
      rw [e3] at this
      rw [e1, e2]; omega
    · cases h
  · cases h
/-- The best cuts yield as much as told. -/
theorem best_own {ys : List Int} {a n : Int} (h : bcC ys a n = 0) : ypC ys a (bcL ys a n) (bcL ys a n).length n = 0 ∧ ypV ys a (bcL ys a n) (bcL ys a n).length n = bcV ys a n := by
  unfold bcC at h
  split at h
  · next hb =>
    split at h
    · next hc =>
      have hr := inR_true hc
      obtain ⟨m, rfl⟩ : ∃ m : Nat, n = m := ⟨n.toNat, by omega⟩
      have e1 : bcL ys a (m : Int) = (bcTo ys a m (2 ^ m)).1 := by simp [bcL, hb, hc]
      have e2 : bcV ys a (m : Int) = (bcTo ys a m (2 ^ m)).2 := by simp [bcV, hb, hc]
      obtain ⟨p, hp⟩ := bcTo_sel ys a m (2 ^ m)
      have hcut : Cuts (bcTo ys a m (2 ^ m)).1 m := by rw [hp]; exact Cuts.sel p m
      have hr2 := rise_ok hcut
      rw [e1, e2]
      refine ⟨by simp [ypC, hb, hc, hr2], by simp [ypV, hb, hc, hr2]; exact bcTo_own ys a m _⟩
    · cases h
  · cases h
theorem bcL_bd (ys : List Int) (a n : Int) : (bcL ys a n).length ≤ 1000 ∧ ∀ z ∈ bcL ys a n, -9223372036854775808 ≤ z ∧ z ≤ 9223372036854775807 := by
  unfold bcL
  split
  · next h =>
    simp only [Bool.and_eq_true] at h
    have hr := inR_true h.2
    exact ⟨by have := bcTo_len ys a n.toNat (2 ^ n.toNat); omega, bcTo_wf ys a n.toNat _ (by omega)⟩
  · exact ⟨by simp, by simp⟩
/-- The beds that are cut for a need are enough. -/
theorem cut_enough {bs : Nat → List Int × Int} {n : Nat} {need : Int} (h : cfC bs n need = 0) : okAll (bedAt bs) n 8 = true ∧ (cfL bs n need).length ≤ n ∧ (∀ i, i < (cfL bs n need).length → 0 ≤ gi (cfL bs n need) i ∧ gi (cfL bs n need) i < n) ∧ need ≤ sumOver (yNow bs) (cfL bs n need) := by
  unfold cfC at h
  split at h
  · next hb =>
    split at h
    · next hc =>
      split at h
      · cases h
      · next hn =>
        refine ⟨hb, ?_⟩
        rcases ho : cfTo bs n need (2 ^ n) with _ | L
        · exact absurd ho hn
        · obtain ⟨S, hS, rfl, hle⟩ := cfTo_sel bs n need _ L ho
          have e : cfL bs n need = selTo (Nat.testBit S) n := by simp [cfL, hb, hc, ho]
          rw [e]
          have hcut := Cuts.sel (Nat.testBit S) n
          exact ⟨hcut.len, hcut.bd, by rw [sumOver_sel]; exact hle⟩
    · cases h
  · cases h
theorem cfL_bd' (bs : Nat → List Int × Int) (n : Nat) (need : Int) : (cfL bs n need).length ≤ 1000 ∧ ∀ z ∈ cfL bs n need, -9223372036854775808 ≤ z ∧ z ≤ 9223372036854775807 := by
  unfold cfL
  split
  · next h =>
    simp only [Bool.and_eq_true] at h
    have h2 := okAll_le h.1
    rcases hc : cfTo bs n need (2 ^ n) with _ | L
    · simp
    · obtain ⟨S, -, rfl, -⟩ := cfTo_sel bs n need _ L hc
      have h3 := selTo_len (Nat.testBit S) n
      simp only [Option.getD_some]
      exact ⟨by omega, fun z hz => by have := selTo_mem _ _ _ hz; omega⟩
  · exact ⟨by simp, by simp⟩

theorem f6big_c (A : Option Addr) (n c : Nat) (w : World) (hn : n ≤ 9223372036854775807) :
    Calls Try.prog 19 #[.slice A n c] w fun e w' => e = .returned (.bool (decide (4096 < n))) ∧ w = w' := by
  go_enter Try.func19, Try.ntmps19
  go_wp2
  go_ret
  exact ⟨ret_bool (by simp; omega), rfl⟩
theorem f6ints_c (A A' : Option Addr) (n c c' : Nat) (zs : List Int) (w : World) (h : Ints w w.heap.size 1 A n zs) (h' : Ints w w.heap.size 1 A' n zs) (hn : n ≤ 1000) :
    Calls Try.prog 32 #[.slice A n c, .slice A' n c'] w fun e w' => e = .returned (.bool true) ∧ Below w.heap.size w w' := by
  go_enter Try.func32, Try.ntmps32
  go_wp2_with fail
  go_loopw [5] (fun i wr => ∃ k : Nat, k ≤ n ∧ i = .int .i64 k ∧ Below w.heap.size w wr) (fun i _ => n - (intOf i).toNat)
  case atStart => exact ⟨0, Nat.zero_le _, rfl, Below.refl _ _⟩
  case round =>
    obtain ⟨k, hk, rfl, hbel⟩ := hrel
    by_cases hlt : k < n
    · obtain ⟨b, off, rfl, hb, c0⟩ := (h.below hbel (Nat.le_refl _)).at1 hlt
      obtain ⟨b', off', rfl, hb', c0'⟩ := (h'.below hbel (Nat.le_refl _)).at1 hlt
      go_wp2_with fail
      go_quiet (fail)
      go_wp2_with fail
      go_roundw
      case rel => exact ⟨k + 1, by omega, by go_num, bdrewN hbel _⟩
      case measure => simp [intOf]; omega
    · obtain rfl : k = n := by omega
      go_wp2
      go_ret
      exact ⟨rfl, hbel⟩
end Go.Proofs.Ytnlddplhaiceaaa
