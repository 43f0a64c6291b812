/-
  Beds: a slice of yields and an age, one by one and in lists; arguments of this kind, opened.
  No conditions.
-/
import Derived.Test.YtgcpobondcnjcaaGreatDoorValid
import Derived.Test.YtgcpobondcnjcaaGreatDoorOpen
import Derived.IntWalk
namespace Go.Proofs.YtgcpobondcnjcaaGreatDoor
open Go.ChangeShapes Go.WideShapes Go.ChangeAt Go.RowKit Go.Deep

/-- The yields and the age of the bed at place i. -/
def yl (bs : Nat → List Int × Int) (i : Nat) : List Int := (bs i).1
def ag (bs : Nat → List Int × Int) (i : Nat) : Int := (bs i).2
/-- The slice '.slice A n c' holds the beds bs, below block B. -/
structure Beds (w : World) (B : Nat) (A : Option Addr) (n : Nat) (bs : Nat → List Int × Int) : Prop where
  at_ : ∀ i, i < n → ∃ b off A' m c, A = some ⟨b, off, none⟩ ∧ b < B ∧ w.cell? ⟨b, off + i * 2, none⟩ = some (.slice A' m c) ∧
    w.cell? ⟨b, off + i * 2 + 1, none⟩ = some (.int .i64 (ag bs i)) ∧ m ≤ maxLen ∧ Ints w B 1 A' m (yl bs i)
section
variable {w w' : World} {B B' n : Nat} {A : Option Addr} {bs : Nat → List Int × Int}
theorem Beds.below (h : Beds w B A n bs) (hb : Below B' w w') (hB : B ≤ B') : Beds w' B A n bs :=
  ⟨fun i hi => by
    obtain ⟨b, off, A', m, c, e, hb', h0, h1, hm, hI⟩ := h.at_ i hi
    exact ⟨b, off, A', m, c, e, hb', (hb.cell (p := ⟨b, off + i * 2, none⟩) (by show b < B'; omega)).trans h0, (hb.cell (p := ⟨b, off + i * 2 + 1, none⟩) (by show b < B'; omega)).trans h1, hm, hI.below hb hB⟩⟩
theorem Beds.more (h : Beds w B A n bs) (hB : B ≤ B') : Beds w B' A n bs :=
  ⟨fun i hi => by
    obtain ⟨b, off, A', m, c, e, hb', h0, h1, hm, hI⟩ := h.at_ i hi
    exact ⟨b, off, A', m, c, e, by omega, h0, h1, hm, hI.more hB⟩⟩
theorem Beds.on (h : Beds w w.heap.size A n bs) (hb : Below w.heap.size w w') : Beds w' w'.heap.size A n bs := (h.below hb (Nat.le_refl _)).more hb.size
theorem Beds.wf (h : Beds w B A n bs) : ∀ i, i < n → ∀ z ∈ yl bs i, -9223372036854775808 ≤ z ∧ z ≤ 9223372036854775807 := fun i hi => by
  obtain ⟨b, off, A', m, c, e, hb', h0, h1, hm, hI⟩ := h.at_ i hi
  exact hI.wf
theorem Beds.drewN (h : Beds w w.heap.size A n bs) (m : Nat) : Beds (w.drewN m) (w.drewN m).heap.size A n bs := ⟨fun i hi => by
    obtain ⟨b, off, A', k, c, e, hb', h0, h1, hm, hI⟩ := h.at_ i hi
    exact ⟨b, off, A', k, c, e, hb', h0, h1, hm, ⟨hI.reads, hI.wf⟩⟩⟩
theorem Ints.on {k : Nat} {zs : List Int} (h : Ints w w.heap.size k A n zs) (hb : Below w.heap.size w w') : Ints w' w'.heap.size k A n zs := (h.below hb (Nat.le_refl _)).more hb.size
end
/-- Beds whose lists are short. -/
def Short (bs : Nat → List Int × Int) (n : Nat) : Prop := n ≤ 1048576 ∧ ∀ i, i < n → (yl bs i).length ≤ 1048576
theorem beds_of (n : Nat) (P : Nat → List Int → Int → Prop) (h : ∀ i, i < n → ∃ ys a, P i ys a) : ∃ bs : Nat → List Int × Int, ∀ i, i < n → P i (yl bs i) (ag bs i) := by
  refine ⟨fun i => if hi : i < n then (Classical.choose (h i hi), Classical.choose (Classical.choose_spec (h i hi))) else ([], 0), fun i hi => ?_⟩
  have := Classical.choose_spec (Classical.choose_spec (h i hi))
  simpa [yl, ag, hi] using this

/-- A bed by value, and beds: what a walk is told of such an argument. -/
def BedArg (v : Value) (w : World) : Prop := ∃ A n c zs a, v = .agg #[.slice A n c, .int .i64 a] ∧ n ≤ maxLen ∧ Ints w w.heap.size 1 A n zs
def BedsArg (v : Value) (w : World) : Prop := ∃ A n c bs, v = .slice A n c ∧ n ≤ maxLen ∧ Beds w w.heap.size A n bs

end Go.Proofs.YtgcpobondcnjcaaGreatDoor
