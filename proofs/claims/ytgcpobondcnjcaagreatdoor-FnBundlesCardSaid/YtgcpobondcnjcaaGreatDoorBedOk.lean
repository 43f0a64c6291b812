/-
  Which beds are valid, and what a bed yields: the reference's look and the program's.
  No conditions.
-/
import Derived.Test.YtgcpobondcnjcaaGreatDoorBedMem
import Derived.WalkLawsBesides
namespace Go.Proofs.YtgcpobondcnjcaaGreatDoor
open Go.ChangeShapes Go.WideShapes Go.ChangeAt Go.RowKit Go.Deep

def inAll (ys : List Int) (lo hi : Int) (j : Nat) : Bool := inR (gi ys j) lo hi
def bedOk (ys : List Int) (a : Int) : Bool := okAll (inAll ys 0 10000) ys.length 5 && decide (1 ≤ ys.length) && inR a 0 ys.length
def bedAt (bs : Nat → List Int × Int) (i : Nat) : Bool := bedOk (yl bs i) (ag bs i)
theorem bedOk_bad {ys : List Int} {a : Int} {k : Nat} (hk : k < ys.length) (h : inR (gi ys k) 0 10000 = false) : bedOk ys a = false := by
  rw [bedOk, okAll_bad hk h]; rfl
theorem bedOk_end {ys : List Int} {a : Int} (h : ∀ j, j < ys.length → inR (gi ys j) 0 10000 = true) : bedOk ys a = (inR ys.length 1 5 && inR a 0 ys.length) := by
  rw [bedOk, okAll_end (p := inAll ys 0 10000) h]
  simp only [inR]
  by_cases h1 : ys.length ≤ 5 <;> by_cases h2 : 1 ≤ ys.length <;> simp [h1, h2] <;> omega
theorem bedOk_bd {ys : List Int} {a : Int} (h : bedOk ys a = true) : 1 ≤ ys.length ∧ ys.length ≤ 5 ∧ 0 ≤ a ∧ a ≤ ys.length ∧ ∀ j, j < ys.length → 0 ≤ gi ys j ∧ gi ys j ≤ 10000 := by
  simp only [bedOk, Bool.and_eq_true, decide_eq_true_eq] at h
  have h1 := okAll_le h.1.1
  have h2 := inR_true h.2
  exact ⟨h.1.2, h1, h2.1, h2.2, fun j hj => inR_true (okAll_get h.1.1 hj)⟩
/-- What a bed yields that was cut so many years ago. -/
def yfor (ys : List Int) (k : Int) : Int := if k = 0 then 0 else if k ≤ ys.length then gi ys (k.toNat - 1) else gi ys (ys.length - 1)
theorem yfor_bd {ys : List Int} {k : Int} (h : ∀ j, j < ys.length → 0 ≤ gi ys j ∧ gi ys j ≤ 10000) (h1 : 1 ≤ ys.length) (_hk : 0 ≤ k) : 0 ≤ yfor ys k ∧ yfor ys k ≤ 10000 := by
  unfold yfor
  split
  · omega
  · split
    · exact h _ (by omega)
    · exact h _ (by omega)


end Go.Proofs.YtgcpobondcnjcaaGreatDoor
