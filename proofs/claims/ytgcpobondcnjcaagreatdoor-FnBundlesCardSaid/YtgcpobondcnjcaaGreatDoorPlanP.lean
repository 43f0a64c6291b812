/-
  Sets of numbers told by bits, rising lists, what a plan of cuts yields: plain lemmas.
  No conditions.
-/
import Derived.Test.YtgcpobondcnjcaaGreatDoorAppend
import Derived.Test.YtgcpobondcnjcaaGreatDoorEqZ
import Derived.Test.YtgcpobondcnjcaaGreatDoorBedOk
namespace Go.Proofs.YtgcpobondcnjcaaGreatDoor

/-- What a bed yields that is cut in the told years; the last cut. -/
def planL (ys : List Int) (a : Int) (cuts : List Int) : Int × Int := cuts.foldl (fun s c => (s.1 + yfor ys (c - s.2), c)) (0, -a)
theorem planL_snoc (ys : List Int) (a : Int) (cuts : List Int) (c : Int) : planL ys a (cuts ++ [c]) = ((planL ys a cuts).1 + yfor ys (c - (planL ys a cuts).2), c) := by
  simp [planL, List.foldl_append]
/-- The same year by year: the sum and the age. -/
def planS (ys : List Int) (a : Int) (p : Nat → Bool) : Nat → Int × Int
  | 0 => (0, a)
  | k + 1 => if p k then ((planS ys a p k).1 + yfor ys (planS ys a p k).2, 1) else ((planS ys a p k).1, (planS ys a p k).2 + 1)
theorem plan_sel (ys : List Int) (a : Int) (p : Nat → Bool) : ∀ n : Nat, planL ys a (selTo p n) = ((planS ys a p n).1, n - (planS ys a p n).2)
  | 0 => by simp [planL, planS, selTo]
  | n + 1 => by
    have ih := plan_sel ys a p n
    rcases h : p n with _ | _
    · rw [selTo_no h, ih]
      simp only [planS, h]
      simp only [Bool.false_eq_true, if_false, Prod.mk.injEq, true_and]
      omega
    · rw [selTo_yes h, planL_snoc, ih]
      simp only [planS, h, if_true, Prod.mk.injEq]
      refine ⟨?_, by omega⟩
      rw [show (n : Int) - (n - (planS ys a p n).2) = (planS ys a p n).2 by omega]
theorem planS_bd {ys : List Int} {a : Int} (hy : ∀ j, j < ys.length → 0 ≤ gi ys j ∧ gi ys j ≤ 10000) (h1 : 1 ≤ ys.length) (ha : 0 ≤ a) (p : Nat → Bool) : ∀ n : Nat, 0 ≤ (planS ys a p n).1 ∧ (planS ys a p n).1 ≤ 10000 * n ∧ 0 ≤ (planS ys a p n).2 ∧ (planS ys a p n).2 ≤ a + n
  | 0 => by simp [planS]; omega
  | n + 1 => by
    have ih := planS_bd hy h1 ha p n
    have hf := yfor_bd (k := (planS ys a p n).2) hy h1 ih.2.2.1
    simp only [planS]
    split <;> simp only <;> omega
/-- Rising numbers. -/
def Rise (L : List Int) : Prop := ∀ i j, i < j → j < L.length → gi L i < gi L j
theorem gi_get {L : List Int} {i : Nat} (h : i < L.length) : gi L i = L[i] := by simp [gi, List.getD, List.getElem?_eq_getElem h]
theorem gi_snoc_lt {L : List Int} {x : Int} {i : Nat} (h : i < L.length) : gi (L ++ [x]) i = gi L i := by
  simp [gi, List.getD, List.getElem?_append_left h]
theorem gi_snoc_at {L : List Int} {x : Int} {i : Nat} (h : i = L.length) : gi (L ++ [x]) i = x := by
  subst h; simp [gi, List.getD]
theorem gi_mem {L : List Int} {x : Int} (h : x ∈ L) : ∃ i, i < L.length ∧ gi L i = x := by
  obtain ⟨i, hi, rfl⟩ := List.mem_iff_getElem.1 h
  exact ⟨i, hi, gi_get hi⟩
theorem mem_gi {L : List Int} {i : Nat} (h : i < L.length) : gi L i ∈ L := by rw [gi_get h]; exact List.getElem_mem h
theorem snoc_of {L : List Int} (h : 0 < L.length) : ∃ M x, L = M ++ [x] := ⟨L.dropLast, L.getLast (List.ne_nil_of_length_pos h), (List.dropLast_concat_getLast _).symm⟩
/-- A rising list is the list of its members. -/
theorem sel_rise : ∀ (n : Nat) (L : List Int) (p : Nat → Bool), Rise L → (∀ x ∈ L, 0 ≤ x ∧ x < n) → (∀ k, k < n → (p k = true ↔ (k : Int) ∈ L)) → selTo p n = L
  | 0, L, p, _, hb, _ => by
    cases L with
    | nil => rfl
    | cons x xs => have := hb x (by simp); omega
  | n + 1, L, p, hr, hb, hp => by
    by_cases hn : (n : Int) ∈ L
    · have hpn := (hp n (by omega)).2 hn
      obtain ⟨i, hi, he⟩ := gi_mem hn
      obtain ⟨M, x, rfl⟩ := snoc_of (L := L) (by omega)
      have hlen : (M ++ [x]).length = M.length + 1 := by simp
      have hx : x = n := by
        have hxm := hb x (by simp)
        by_cases hil : i = M.length
        · rw [gi_snoc_at hil] at he; exact he
        · have := hr i M.length (by omega) (by omega)
          rw [gi_snoc_at rfl, he] at this; omega
      subst hx
      rw [selTo_yes hpn]
      congr 1
      refine sel_rise n M p ?_ ?_ ?_
      · intro a b hab hbl
        have := hr a b hab (by omega)
        rwa [gi_snoc_lt (by omega), gi_snoc_lt hbl] at this
      · intro y hy
        have h1 := hb y (by simp [hy])
        obtain ⟨j, hj, hje⟩ := gi_mem hy
        have := hr j M.length (by omega) (by omega)
        rw [gi_snoc_lt hj, gi_snoc_at rfl, hje] at this
        omega
      · intro k hk
        rw [hp k (by omega)]
        simp only [List.mem_append, List.mem_singleton]
        constructor
        · rintro (h | h)
          · exact h
          · omega
        · exact .inl
    · have hpn : p n = false := by
        rcases h : p n with _ | _
        · rfl
        · exact absurd ((hp n (by omega)).1 h) hn
      rw [selTo_no hpn]
      refine sel_rise n L p hr ?_ ?_
      · intro x hx
        have := hb x hx
        have : x ≠ n := fun e => hn (e ▸ hx)
        omega
      · intro k hk; exact hp k (by omega)
theorem rise_sel (p : Nat → Bool) : ∀ n : Nat, Rise (selTo p n)
  | 0 => fun i j _ h => by simp [selTo] at h
  | n + 1 => by
    have ih := rise_sel p n
    rcases h : p n with _ | _
    · rw [selTo_no h]; exact ih
    · rw [selTo_yes h]
      intro i j hij hj
      simp only [List.length_append, List.length_singleton] at hj
      by_cases hjl : j = (selTo p n).length
      · rw [gi_snoc_at hjl, gi_snoc_lt (by omega)]
        have := selTo_mem p n _ (mem_gi (L := selTo p n) (i := i) (by omega))
        omega
      · rw [gi_snoc_lt (by omega), gi_snoc_lt (by omega)]
        exact ih i j hij (by omega)
theorem sel_has (p : Nat → Bool) : ∀ (n k : Nat), k < n → ((k : Int) ∈ selTo p n ↔ p k = true)
  | 0, k, h => absurd h (by omega)
  | n + 1, k, h => by
    rcases hp : p n with _ | _
    · rw [selTo_no hp]
      by_cases hk : k = n
      · subst hk
        rw [hp]
        constructor
        · intro hm; have := selTo_mem p k _ hm; omega
        · intro hf; cases hf
      · exact sel_has p n k (by omega)
    · rw [selTo_yes hp]
      by_cases hk : k = n
      · subst hk; simp [hp]
      · rw [← sel_has p n k (by omega)]
        simp only [List.mem_append, List.mem_singleton]
        constructor
        · rintro (h | h)
          · exact h
          · omega
        · exact .inl
/-- The bits of a list. -/
def bitsOf (L : List Int) : Nat := L.foldl (fun s c => s ||| 2 ^ c.toNat) 0
theorem bitsOf_snoc (L : List Int) (c : Int) : bitsOf (L ++ [c]) = bitsOf L ||| 2 ^ c.toNat := by simp [bitsOf, List.foldl_append]
theorem bitsOf_has (k : Nat) : ∀ (m : Nat) (L : List Int), L.length = m → (∀ x ∈ L, 0 ≤ x) → ((bitsOf L).testBit k = true ↔ (k : Int) ∈ L)
  | 0, L, hl, _ => by
    obtain rfl := List.eq_nil_of_length_eq_zero hl
    simp [bitsOf]
  | m + 1, L, hl, hb => by
    obtain ⟨M, x, rfl⟩ := snoc_of (L := L) (by omega)
    have ih := bitsOf_has k m M (by simpa using hl) fun y hy => hb y (by simp [hy])
    have hx := hb x (by simp)
    rw [bitsOf_snoc, Nat.testBit_or, Bool.or_eq_true, ih, Nat.testBit_two_pow]
    simp only [decide_eq_true_eq, List.mem_append, List.mem_singleton]
    constructor
    · rintro (h | h)
      · exact .inl h
      · exact .inr (by omega)
    · rintro (h | h)
      · exact .inl h
      · exact .inr (by omega)
theorem bitsOf_lt (n : Nat) : ∀ (m : Nat) (L : List Int), L.length = m → (∀ x ∈ L, 0 ≤ x ∧ x < n) → bitsOf L < 2 ^ n
  | 0, L, hl, _ => by
    obtain rfl := List.eq_nil_of_length_eq_zero hl
    simp [bitsOf, Nat.two_pow_pos]
  | m + 1, L, hl, hb => by
    obtain ⟨M, x, rfl⟩ := snoc_of (L := L) (by omega)
    have ih := bitsOf_lt n m M (by simpa using hl) fun y hy => hb y (by simp [hy])
    have hx := hb x (by simp)
    rw [bitsOf_snoc]
    exact Nat.or_lt_two_pow ih (Nat.pow_lt_pow_right (by omega) (by omega))
/-- One list comes before another one of the same length. -/
def lexLt (a b : List Int) : Bool := (List.range a.length).any fun k => (List.range k).all (fun j => decide (gi a j = gi b j)) && decide (gi a k < gi b k)
theorem lexLt_at {a b : List Int} {k : Nat} (hk : k < a.length) (he : ∀ j, j < k → gi a j = gi b j) (hne : gi a k ≠ gi b k) : lexLt a b = decide (gi a k < gi b k) := by
  by_cases hlt : gi a k < gi b k
  · rw [decide_eq_true hlt, lexLt, List.any_eq_true]
    refine ⟨k, List.mem_range.2 hk, ?_⟩
    simp only [Bool.and_eq_true, List.all_eq_true, List.mem_range, decide_eq_true_eq]
    exact ⟨he, hlt⟩
  · rw [decide_eq_false hlt, lexLt, Bool.eq_false_iff]
    intro hh
    rw [List.any_eq_true] at hh
    obtain ⟨m, hm, h2⟩ := hh
    simp only [Bool.and_eq_true, List.all_eq_true, List.mem_range, decide_eq_true_eq] at h2
    rcases Nat.lt_trichotomy m k with h | h | h
    · have := he m h; omega
    · subst h; exact hlt h2.2
    · exact hne (h2.1 k h)
theorem lexLt_eq {a b : List Int} (he : ∀ j, j < a.length → gi a j = gi b j) : lexLt a b = false := by
  rw [lexLt, Bool.eq_false_iff]
  intro hh
  rw [List.any_eq_true] at hh
  obtain ⟨m, hm, h2⟩ := hh
  simp only [Bool.and_eq_true, List.all_eq_true, List.mem_range, decide_eq_true_eq] at h2
  have := he m (List.mem_range.1 hm); omega
/-- A list is shorter, or as long and before. -/
def lessL (a b : List Int) : Bool := decide (a.length < b.length) || decide (a.length = b.length) && lexLt a b
/-- The sum over a list of places. -/
def sumOver (f : Nat → Int) (L : List Int) : Int := L.foldl (fun s c => s + f c.toNat) 0
theorem sumOver_snoc (f : Nat → Int) (L : List Int) (c : Int) : sumOver f (L ++ [c]) = sumOver f L + f c.toNat := by simp [sumOver, List.foldl_append]
theorem sumOver_sel (f : Nat → Int) (p : Nat → Bool) : ∀ n : Nat, sumOver f (selTo p n) = sumTo (fun i => if p i then f i else 0) n
  | 0 => rfl
  | n + 1 => by
    rw [sumTo_succ, ← sumOver_sel f p n]
    rcases h : p n with _ | _
    · rw [selTo_no h]; simp
    · rw [selTo_yes h, sumOver_snoc]; simp
theorem take_snoc {L : List Int} {k : Nat} (h : k < L.length) : L.take (k + 1) = L.take k ++ [gi L k] := by
  rw [List.take_succ_eq_append_getElem h, gi_get h]

end Go.Proofs.YtgcpobondcnjcaaGreatDoor
