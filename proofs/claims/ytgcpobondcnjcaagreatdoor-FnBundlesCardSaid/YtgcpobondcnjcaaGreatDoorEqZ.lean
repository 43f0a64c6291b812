/-
  Equal lists of whole numbers, place by place.
  No conditions.
-/
import Derived.Test.YtgcpobondcnjcaaGreatDoorMem
namespace Go.Proofs.YtgcpobondcnjcaaGreatDoor

def eqZ (zs ys : List Int) : Bool := decide (zs = ys)
theorem eqZ_ne {zs ys : List Int} (j : Nat) (h : gi zs j ≠ gi ys j) : eqZ zs ys = false := by
  rw [eqZ, decide_eq_false_iff_not]; rintro rfl; exact h rfl
theorem eqZ_len {zs ys : List Int} (h : zs.length ≠ ys.length) : eqZ zs ys = false := by
  rw [eqZ, decide_eq_false_iff_not]; rintro rfl; exact h rfl
theorem gi_ext {zs ys : List Int} (hl : zs.length = ys.length) (h : ∀ j, j < zs.length → gi zs j = gi ys j) : zs = ys := by
  apply List.ext_getElem hl
  intro j h1 h2
  have := h j h1
  simpa [gi, List.getD, List.getElem?_eq_getElem h1, List.getElem?_eq_getElem h2] using this
theorem eqZ_end {zs ys : List Int} (hl : zs.length = ys.length) (h : ∀ j, j < zs.length → gi zs j = gi ys j) : eqZ zs ys = true := by
  rw [eqZ, decide_eq_true_iff]; exact gi_ext hl h

end Go.Proofs.YtgcpobondcnjcaaGreatDoor
