/-
  The weight of the bundles of a length.
  No conditions.
-/
import Derived.Test.YtgcpobondcnjcaaGreatDoorValid
namespace Go.Proofs.YtgcpobondcnjcaaGreatDoor
open Go.ChangeShapes Go.WideShapes Go.ChangeAt Go.RowKit Go.Deep

def wolF (zs : List Int) (l : Int) (i : Nat) : Int := if gi zs (i * 3) = l then gi zs (i * 3 + 2) else 0
/-- WeightOfLength. -/
def wolV (zs : List Int) (n : Nat) (l : Int) : Int := if okAll (bunchAt zs) n 30 && inR l 100 3000 then sumTo (wolF zs l) n else 0
def wolC (zs : List Int) (n : Nat) (l : Int) : Int := if okAll (bunchAt zs) n 30 then (if inR l 100 3000 then 0 else 2) else 1
theorem bunchOk_bd {a b c : Int} (h : bunchOk a b c = true) : 100 ≤ a ∧ a ≤ 3000 ∧ 10 ≤ b ∧ b ≤ 2000 ∧ 1 ≤ c ∧ c ≤ 50000 := by
  simp only [bunchOk, Bool.and_eq_true] at h
  have h1 := inR_true h.1.1
  have h2 := inR_true h.1.2
  have h3 := inR_true h.2
  omega
theorem wolF_bd {zs : List Int} {n : Nat} {l : Int} (h : okAll (bunchAt zs) n 30 = true) (j : Nat) (hj : j < n) : 0 ≤ wolF zs l j ∧ wolF zs l j ≤ 50000 := by
  have := bunchOk_bd (okAll_get h hj)
  unfold wolF; split <;> omega
theorem wol_bd {zs : List Int} {n : Nat} {l : Int} (h : okAll (bunchAt zs) n 30 = true) (k : Nat) (hk : k ≤ n) : 0 ≤ sumTo (wolF zs l) k ∧ sumTo (wolF zs l) k ≤ 1500000 := by
  have := sumTo_bd (wolF zs l) 50000 k fun j hj => wolF_bd h j (by omega)
  have := okAll_le h
  omega
