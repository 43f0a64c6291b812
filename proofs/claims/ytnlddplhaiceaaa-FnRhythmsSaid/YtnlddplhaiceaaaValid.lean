/-
  Which structs and lists of structs are valid: the reference's look and the program's.
  No conditions.
-/
import Derived.Test.YtnlddplhaiceaaaConv
namespace Go.Proofs.Ytnlddplhaiceaaa
open Go.ChangeShapes Go.WideShapes Go.ChangeAt Go.RowKit Go.Deep

/-- All of n are so, and they are at most m. -/
def okAll (p : Nat → Bool) (n m : Nat) : Bool := (List.range n).all p && decide (n ≤ m)
theorem okAll_bad {p : Nat → Bool} {n m k : Nat} (hk : k < n) (h : p k = false) : okAll p n m = false := by
  have : (List.range n).all p = false := by
    rw [Bool.eq_false_iff]; intro hh; rw [List.all_eq_true] at hh
    have := hh k (List.mem_range.2 hk); rw [h] at this; cases this
  simp [okAll, this]
theorem okAll_end {p : Nat → Bool} {n m : Nat} (h : ∀ j, j < n → p j = true) : okAll p n m = decide (n ≤ m) := by
  have : (List.range n).all p = true := by
    rw [List.all_eq_true]; intro x hx; exact h x (List.mem_range.1 hx)
  simp [okAll, this]
theorem okAll_get {p : Nat → Bool} {n m k : Nat} (h : okAll p n m = true) (hk : k < n) : p k = true := by
  simp only [okAll, Bool.and_eq_true, List.all_eq_true] at h
  exact h.1 k (List.mem_range.2 hk)
theorem okAll_le {p : Nat → Bool} {n m : Nat} (h : okAll p n m = true) : n ≤ m := by
  simp only [okAll, Bool.and_eq_true, decide_eq_true_eq] at h
  exact h.2

/-- The sum of the first k. -/
def sumTo (f : Nat → Int) : Nat → Int
  | 0 => 0
  | k + 1 => sumTo f k + f k
theorem sumTo_succ (f : Nat → Int) (k : Nat) : sumTo f (k + 1) = sumTo f k + f k := rfl
theorem sumTo_bd (f : Nat → Int) (m : Int) : ∀ k : Nat, (∀ j, j < k → 0 ≤ f j ∧ f j ≤ m) → 0 ≤ sumTo f k ∧ sumTo f k ≤ m * k
  | 0, _ => by simp [sumTo]
  | k + 1, h => by
    have h1 := sumTo_bd f m k fun j hj => h j (by omega)
    have h2 := h k (by omega)
    rw [sumTo_succ, Int.natCast_add, Int.mul_add]
    simp only [Int.natCast_one, Int.mul_one]
    omega

def bunchOk (a b c : Int) : Bool := inR a 100 3000 && inR b 10 2000 && inR c 1 50000
def rodOk (a b c : Int) : Bool := inR a 100 3000 && inR b 1 300 && inR c 1 b
def bunchAt (zs : List Int) (i : Nat) : Bool := bunchOk (gi zs (i * 3)) (gi zs (i * 3 + 1)) (gi zs (i * 3 + 2))
def rodAt (zs : List Int) (i : Nat) : Bool := rodOk (gi zs (i * 3)) (gi zs (i * 3 + 1)) (gi zs (i * 3 + 2))
