/-
  slices.SortStableFunc over at most 20 whole numbers with a closure that compares keys: the library's walk of insertionSortCmpFunc at this program; the list that the sort leaves.
  No conditions.
-/
import Derived.Test.YtgcpobondcnjcaaGreatDoorAppend
import Derived.Shelf.SlSortCmp.Insertion1
namespace Go.Proofs.YtgcpobondcnjcaaGreatDoor
open Go.ChangeShapes Go.WideShapes Go.ChangeAt Go.RowKit Go.Deep Go.Shelf Go.Lib Go.Sort
set_option linter.unusedVariables false

/-! The plain law. -/
/-- How many of the first k stand ahead of x: from the right, past those of a smaller key. -/
def insK (f : Int → Int) (xs : List Int) (x : Int) : Nat → Nat
  | 0 => 0
  | k + 1 => if f (gi xs k) < f x then insK f xs x k else k + 1
theorem insK_le (f : Int → Int) (xs : List Int) (x : Int) : ∀ k, insK f xs x k ≤ k
  | 0 => Nat.le_refl _
  | k + 1 => by
    unfold insK; split
    · have := insK_le f xs x k; omega
    · exact Nat.le_refl _
def insL (f : Int → Int) (xs : List Int) (x : Int) : List Int := xs.take (insK f xs x xs.length) ++ x :: xs.drop (insK f xs x xs.length)
/-- The first k places, the greatest key first, those of one key in their order. -/
def stTo (f : Int → Int) : Nat → List Int
  | 0 => []
  | k + 1 => insL f (stTo f k) k
theorem insL_len (f : Int → Int) (xs : List Int) (x : Int) : (insL f xs x).length = xs.length + 1 := by
  have := insK_le f xs x xs.length
  simp only [insL, List.length_append, List.length_cons, List.length_take, List.length_drop]; omega
theorem insL_mem (f : Int → Int) (xs : List Int) (x z : Int) (h : z ∈ insL f xs x) : z ∈ xs ∨ z = x := by
  unfold insL at h
  rcases List.mem_append.1 h with h | h
  · exact .inl (List.mem_of_mem_take h)
  · rcases List.mem_cons.1 h with h | h
    · exact .inr h
    · exact .inl (List.mem_of_mem_drop h)
theorem stTo_len (f : Int → Int) : ∀ k, (stTo f k).length = k
  | 0 => rfl
  | k + 1 => by rw [stTo, insL_len, stTo_len f k]
theorem stTo_mem (f : Int → Int) : ∀ (k : Nat) (z : Int), z ∈ stTo f k → 0 ≤ z ∧ z < k
  | 0, z, h => by simp [stTo] at h
  | k + 1, z, h => by
    rcases insL_mem _ _ _ _ h with h | h
    · have := stTo_mem f k z h; omega
    · omega

/-- One element is moved down to its place. -/
theorem insInner_law (f : Int → Int) (x : Int) : ∀ (k : Nat) (xs ys : List Int), xs.length = k →
    insInner (ltOf fun a b => f b - f a) 0 k (xs ++ x :: ys).toArray = (xs.take (insK f xs x k) ++ x :: (xs.drop (insK f xs x k) ++ ys)).toArray
  | 0, xs, ys, h => by
    obtain rfl := List.eq_nil_of_length_eq_zero h
    simp [insInner, insK]
  | k + 1, xs, ys, h => by
    obtain ⟨ls, a, rfl⟩ : ∃ ls a, xs = ls ++ [a] := ⟨xs.dropLast, xs.getLast (by intro e; rw [e] at h; simp at h), (List.dropLast_concat_getLast _).symm⟩
    have ha : ls.length = k := by simpa using h
    subst ha
    have e1 : ((ls ++ [a]) ++ x :: ys).toArray[ls.length + 1]! = x := by simp
    have e0 : ((ls ++ [a]) ++ x :: ys).toArray[ls.length]! = a := by simp
    have eg : gi (ls ++ [a]) ls.length = a := by simp [gi, List.getD]
    unfold insInner insK
    rw [e1, e0, eg]
    by_cases hlt : f a < f x
    · have hl : (decide (ls.length + 1 > 0) && ltOf (fun a b => f b - f a) x a) = true := by simp [ltOf]; omega
      rw [if_pos (by simpa using hl), if_pos hlt]
      have hs : swp ((ls ++ [a]) ++ x :: ys).toArray (ls.length + 1) ls.length = (ls ++ x :: (a :: ys)).toArray := by
        unfold swp
        rw [e1, e0]
        simp only [List.setIfInBounds_toArray]
        congr 1
        simp
      rw [hs, insInner_law f x ls.length ls (a :: ys) rfl]
      have hk := insK_le f ls x ls.length
      have hg : insK f (ls ++ [a]) x ls.length = insK f ls x ls.length := by
        have : ∀ q, q ≤ ls.length → insK f (ls ++ [a]) x q = insK f ls x q := by
          intro q
          induction q with
          | zero => intro _; rfl
          | succ q ih =>
            intro hq
            have : gi (ls ++ [a]) q = gi ls q := by simp [gi, List.getD, List.getElem?_append_left (show q < ls.length by omega)]
            unfold insK
            rw [this, ih (by omega)]
        exact this _ (Nat.le_refl _)
      rw [hg, List.take_append_of_le_length hk, List.drop_append_of_le_length hk]
      simp
    · have hl : (decide (ls.length + 1 > 0) && ltOf (fun a b => f b - f a) x a) = false := by simp [ltOf]; omega
      rw [if_neg (by simpa using hl), if_neg hlt]
      have e : (ls ++ [a]).length = ls.length + 1 := by simp
      rw [← e, List.take_length, List.drop_length]
      simp

/-- The places 0, .., n - 1. -/
def upTo (n : Nat) : List Int := (List.range n).map (fun (j : Nat) => (j : Int))
theorem upTo_len (n : Nat) : (upTo n).length = n := by simp [upTo]
theorem upTo_drop {n k : Nat} (h : k < n) : (upTo n).drop k = (k : Int) :: (upTo n).drop (k + 1) := by
  rw [List.drop_eq_getElem_cons (by rw [upTo_len]; exact h)]
  simp [upTo]
theorem upTo_succ (n : Nat) : upTo (n + 1) = upTo n ++ [(n : Int)] := by simp [upTo, List.range_succ]
theorem insOuter_law (f : Int → Int) (n : Nat) : ∀ (q k : Nat), n - k = q → k ≤ n →
    insOuter (ltOf fun a b => f b - f a) 0 n k (stTo f k ++ (upTo n).drop k).toArray = (stTo f n).toArray
  | 0, k, hq, hk => by
    obtain rfl : k = n := by omega
    unfold insOuter
    rw [if_neg (by omega), List.drop_of_length_le (by rw [upTo_len]; omega), List.append_nil]
  | q + 1, k, hq, hk => by
    unfold insOuter
    rw [if_pos (by omega), upTo_drop (by omega)]
    have h1 := insInner_law f k k (stTo f k) ((upTo n).drop (k + 1)) (stTo_len f k)
    have h2 : (stTo f k).take (insK f (stTo f k) k k) ++ (k : Int) :: ((stTo f k).drop (insK f (stTo f k) k k) ++ (upTo n).drop (k + 1)) = stTo f (k + 1) ++ (upTo n).drop (k + 1) := by
      have e : (stTo f k).length = k := stTo_len f k
      conv => rhs; unfold stTo insL
      rw [e]
      simp
    rw [h1, h2]
    exact insOuter_law f n q (k + 1) (by omega) (by omega)
theorem insertionSort_law (f : Int → Int) (n : Nat) (hn : 0 < n) : Sort.insertionSort (ltOf fun a b => f b - f a) (upTo n).toArray 0 n = (stTo f n).toArray := by
  unfold Sort.insertionSort
  have h := insOuter_law f n (n - 1) 1 rfl hn
  have e : stTo f 1 ++ (upTo n).drop 1 = upTo n := by
    obtain ⟨m, rfl⟩ : ∃ m, n = m + 1 := ⟨n - 1, by omega⟩
    simp [stTo, insL, insK, upTo, List.range_succ_eq_map]
  rw [e] at h
  exact h

/-! The library's walk at this program. -/
def insRen : Go.Shelf.Ren := ⟨fun | 20 => 91 | n => n, fun | 0 => 0 | 3 => 3 | 4 => 4 | 22 => 32 | 24 => 2 | 25 => 80 | n => n, fun n => n⟩
theorem insLays : SlLaysF.n20 Tryz.prog insRen := {
  mixed := by kernel_rfl
  f20 := ⟨"slices.insertionSortCmpFunc[int64]", by decide, Tryz.func91.trans (congrArg some (by kernel_rfl))⟩
  t0 := Tryz.underlying0
  a0 := Tryz.isAgg0
  z0 := Tryz.sizeOf0
  v0 := Tryz.zeroValue0
  t3 := Tryz.underlying3
  a3 := Tryz.isAgg3
  z3 := Tryz.sizeOf3
  v3 := Tryz.zeroValue3
  t4 := Tryz.underlying4
  a4 := Tryz.isAgg4
  z4 := Tryz.sizeOf4
  v4 := Tryz.zeroValue4
  t22 := Tryz.underlying32
  a22 := Tryz.isAgg32
  z22 := Tryz.sizeOf32
  v22 := Tryz.zeroValue32
  a24 := Tryz.isAgg2
  z24 := Tryz.sizeOf2
  t25 := Tryz.underlying80
  a25 := Tryz.isAgg80
  z25 := Tryz.sizeOf80
  v25 := Tryz.zeroValue80
}
end Go.Proofs.YtgcpobondcnjcaaGreatDoor
