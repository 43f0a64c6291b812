/-
  Equal lists of whole numbers, equal beds: the reference's look, slices.Equal and slices.EqualFunc.
  No conditions.
-/
import Derived.Test.YtgcpobondcnjcaaGreatDoorBedOk
import Derived.Test.YtgcpobondcnjcaaGreatDoorEqZ
namespace Go.Proofs.YtgcpobondcnjcaaGreatDoor
open Go.ChangeShapes Go.WideShapes Go.ChangeAt Go.RowKit Go.Deep

theorem drewN_ex {w wr : World} (h : ∃ q, wr = w.drewN q) (m : Nat) : ∃ q, wr.drewN m = w.drewN q := by
  obtain ⟨q, rfl⟩ := h
  exact ⟨q + m, by simp⟩
theorem quietD {P : Program} {f : FuncId} {args : Array Value} {w : World} {n : Nat} {v : Value}
    (h : Calls P f args (w.drewN n) fun e w' => e = .returned v ∧ ∃ q, w' = (w.drewN n).drewN q) : Calls P f args (w.drewN n) fun e w'' => e = .returned v ∧ ∃ m, w'' = w.drewN m :=
  h.mono fun _ _ ⟨he, q, hm⟩ => ⟨he, n + q, by rw [hm]; simp⟩
theorem quietD_add {P : Program} {f : FuncId} {args : Array Value} {w : World} {a n : Nat} {v : Value}
    (h : Calls P f args (w.drewN (a + n)) fun e w' => e = .returned v ∧ ∃ q, w' = (w.drewN (a + n)).drewN q) : Calls P f args (w.drewN (a + n)) fun e w'' => e = .returned v ∧ ∃ m, w'' = w.drewN (a + m) :=
  h.mono fun _ _ ⟨he, q, hm⟩ => ⟨he, n + q, by rw [hm]; simp [Nat.add_assoc]⟩
def sameAt (bs cs : Nat → List Int × Int) (i : Nat) : Bool := decide (ag bs i = ag cs i) && eqZ (yl bs i) (yl cs i)
def sameBs (bs cs : Nat → List Int × Int) (n m : Nat) : Bool := decide (n = m) && okAll (sameAt bs cs) n n
theorem sameBs_end {bs cs : Nat → List Int × Int} {n : Nat} (h : ∀ j, j < n → sameAt bs cs j = true) : sameBs bs cs n n = true := by
  rw [sameBs, okAll_end h]; simp
theorem sameBs_bad {bs cs : Nat → List Int × Int} {n k : Nat} (hk : k < n) (h : sameAt bs cs k = false) : sameBs bs cs n n = false := by
  rw [sameBs, okAll_bad hk h]; simp


end Go.Proofs.YtgcpobondcnjcaaGreatDoor
