/-
  The verifier's marks: numbers written into a slice, and the look whether they are still there.
  No conditions.
-/
import Derived.Test.YtgcpobondcnjcaaGreatDoorInts
namespace Go.Proofs.YtgcpobondcnjcaaGreatDoor
open Go.ChangeShapes Go.WideShapes Go.ChangeAt Go.RowKit Go.Deep

theorem grownBy_trans {a b c : World} {r : Option Nat} (h : a.grownBy b r) (k : b.grownBy c r) : a.grownBy c r :=
  ⟨k.os.trans h.os, k.tape.trans h.tape, k.output.trans h.output, Nat.le_trans h.size k.size, fun i hi hne => (k.block i (Nat.lt_of_lt_of_le hi h.size) hne).trans (h.block i hi hne)⟩
theorem grownBy_drewN {a b : World} {r : Option Nat} (h : a.grownBy b r) (n : Nat) : a.grownBy (b.drewN n) r := ⟨h.os, h.tape, h.output, h.size, h.block⟩
theorem below_grown {a b c : World} {r : Option Nat} (h : Below a.heap.size a b) (k : b.grownBy c r) (hr : ∀ g, r = some g → a.heap.size ≤ g) : Below a.heap.size a c := h.grown k h.size hr
/-- A block that was there and is not the one that is written stays. -/
theorem Blk.grown {w w' : World} {g : Nat} {t : TypeId} {cs : Array Value} {row : Option Nat} (h : Blk w g t cs) (hb : w.grownBy w' row) (hg : some g ≠ row) : Blk w' g t cs := (hb.block g h.lt hg).trans h
/-- The numbers k, k + 1, .. -/
def mkL (k : Int) (m : Nat) : List Int := (List.range m).map fun (j : Nat) => k + (j : Int)
theorem mkL_length (k : Int) (m : Nat) : (mkL k m).length = m := by simp [mkL]
theorem mkL_gi (k : Int) (m j : Nat) (h : j < m) : gi (mkL k m) j = k + j := by
  simp [gi, mkL, List.getD, h]
theorem mkL_set (k : Int) (zs : List Int) (m : Nat) (x : Int) (h : m < zs.length) (hx : x = k + m) : (iv (mkL k m ++ zs.drop m)).set m (.int .i64 x) = iv (mkL k (m + 1) ++ zs.drop (m + 1)) := by
  subst hx
  have e : zs.drop m = zs[m] :: zs.drop (m + 1) := List.drop_eq_getElem_cons h
  have e2 : mkL k (m + 1) = mkL k m ++ [k + m] := by simp [mkL, List.range_succ]
  rw [e, e2]
  unfold iv
  simp only [List.map_append, List.map_cons, List.map_nil]
  rw [List.set_append_right _ _ (by simp [mkL])]
  have e3 : m - (List.map (Value.int IntKind.i64) (mkL k m)).length = 0 := by rw [List.length_map, mkL_length]; omega
  rw [e3]
  simp only [List.set_cons_zero, List.append_assoc, List.cons_append, List.nil_append]
theorem own_cell {w : World} {base : Nat} {e : TypeId} {K g n cap : Nat} {L : List Value} (h : w.ownsRow base e K (.slice (some ⟨g, 0, none⟩) n cap) n L) (j : Nat) (hj : j < n * K) : ∃ u, w.cell? ⟨g, j, none⟩ = some u := by
  refine ⟨L[j]'(by rw [h.1]; exact hj), ?_⟩
  rw [h.cellAt j hj]; simp [h.1, hj]

end Go.Proofs.YtgcpobondcnjcaaGreatDoor
