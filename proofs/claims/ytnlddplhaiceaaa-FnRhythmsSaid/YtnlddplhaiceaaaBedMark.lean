/-
  The verifier's mark of one bed.
  No conditions.
-/
import Derived.Test.YtnlddplhaiceaaaBed
import Derived.Test.YtnlddplhaiceaaaAppend
namespace Go.Proofs.Ytnlddplhaiceaaa
open Go.ChangeShapes Go.WideShapes Go.ChangeAt Go.RowKit Go.Deep

/-- All that was there is as it was, but for block g. -/
def Within (g : Nat) (w w' : World) : Prop := w'.os = w.os ∧ w'.tape = w.tape ∧ w'.output = w.output ∧ w.heap.size ≤ w'.heap.size ∧ ∀ k, k < w.heap.size → k ≠ g → w'.heap[k]? = w.heap[k]?
theorem Within.of_grown {w w' : World} {g : Nat} {o : Obj} (h : (w.alloc o).grownBy w' (some g)) : Within g w w' := by
  have hs : w.heap.size ≤ (w.alloc o).heap.size := by simp
  refine ⟨h.os, h.tape, h.output, Nat.le_trans hs h.size, fun k hk hne => (h.block k (Nat.lt_of_lt_of_le hk hs) (fun e => hne (by injection e))).trans (Below.heap_alloc w o k hk)⟩
theorem Within.below {g : Nat} {w w' : World} {B : Nat} (h : Within g w w') (hB : B ≤ g) (hs : B ≤ w.heap.size) : Below B w w' := ⟨h.1, h.2.1, h.2.2.1, h.2.2.2.1, fun k hk => h.2.2.2.2 k (by omega) (by omega)⟩
theorem Within.own {g base : Nat} {w w' : World} {v : Value} {zs : List Int} (h : Within g w w') (ho : Own w base v zs) (hne : ∀ k, v.ownBlock = some k → k ≠ g) : Own w' base v zs :=
  World.ownsRow.kept (row := some g) ho ⟨h.1, h.2.1, h.2.2.1, h.2.2.2.1, fun k hk hk2 => h.2.2.2.2 k hk (fun e => hk2 (by rw [e]))⟩ (by
    rcases hv : v.ownBlock with _ | q
    · exact .inl rfl
    · refine .inr fun he => hne q hv (by injection he))

theorem Own.row {w : World} {base : Nat} {v : Value} {zs : List Int} (h : Own w base v zs) : w.ownsRow base 2 1 v zs.length (iv zs) := h

end Go.Proofs.Ytnlddplhaiceaaa
