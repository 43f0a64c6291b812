/-
  Results that are batches: lists in slices of the call's own.
  No conditions.
-/
import Derived.Test.YtnagaopogmdfgaaEarlyW
import Derived.Test.YtnagaopogmdfgaaHeld4
namespace Go.Proofs.Ytnagaopogmdfgaa
open Go.ChangeShapes Go.WideShapes Go.ChangeAt Go.RowKit Go.Deep

theorem Own4.kept {w w' : World} {base n : Nat} {v : Value} {zs : List Int} {row : Option Nat} (h : Own4 w base v n zs) (hg : w.grownBy w' row) (hne : v.ownBlock = none ∨ v.ownBlock ≠ row) : Own4 w' base v n zs := World.ownsRow.kept h hg hne
theorem Own4.row {w : World} {base n : Nat} {v : Value} {zs : List Int} (h : Own4 w base v n zs) : w.ownsRow base 32 4 v n (iv zs) := h
theorem own4_ne {w2 w4 : World} {b2 b4 n2 : Nat} {v2 v4 : Value} {L : List Int} {e : TypeId} {K n : Nat} {X : List Value} (h2 : Own4 w2 b2 v2 n2 L) (hb : w2.heap.size ≤ b4) (h4 : w4.ownsRow b4 e K v4 n X) : v2.ownBlock = none ∨ v2.ownBlock ≠ v4.ownBlock := by
  rcases hv : v2.ownBlock with _ | k
  · exact .inl rfl
  · refine .inr fun he => ?_
    have a1 := (h2.lt k hv).2
    have a2 := (World.ownsRow.lt h4 k he.symm).1
    omega
theorem own4_ne_blk {w4 : World} {b4 g n : Nat} {v4 : Value} {M : List Int} (h4 : Own4 w4 b4 v4 n M) (hg : g < b4) : v4.ownBlock = none ∨ v4.ownBlock ≠ some g := by
  rcases hv : v4.ownBlock with _ | k
  · exact .inl rfl
  · refine .inr fun he => ?_
    have a1 := (h4.lt k hv).1
    injection he with he
    omega
theorem own4_lt_blk {w2 : World} {b2 g n : Nat} {v2 : Value} {L : List Int} (h2 : Own4 w2 b2 v2 n L) (hg : w2.heap.size ≤ g) : v2.ownBlock = none ∨ v2.ownBlock ≠ some g := by
  rcases hv : v2.ownBlock with _ | k
  · exact .inl rfl
  · refine .inr fun he => ?_
    have a1 := (h2.lt k hv).2
    injection he with he
    omega

end Go.Proofs.Ytnagaopogmdfgaa
