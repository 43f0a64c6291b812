/-
  slices.Sort on a slice of whole numbers of the call's own.
  No conditions.
-/
import Derived.Test.YtgcpobondcnjcaaGreatDoorAppend
import Derived.Test.YtgcpobondcnjcaaGreatDoorShelf
import Derived.Sort.OwnSortedInts
namespace Go.Proofs.YtgcpobondcnjcaaGreatDoor
set_option linter.unusedSimpArgs false
open Go.ChangeShapes Go.WideShapes Go.ChangeAt Go.RowKit Go.Deep

/-- The numbers, rising. -/
def srt (zs : List Int) : List Int := zs.mergeSort fun x y => decide (x ≤ y)
theorem srt_len (zs : List Int) : (srt zs).length = zs.length := List.length_mergeSort zs
theorem srt_mem {zs : List Int} {x : Int} : x ∈ srt zs ↔ x ∈ zs := List.mem_mergeSort
theorem srt_pair (zs : List Int) : (srt zs).Pairwise fun x y => x ≤ y := by
  have := List.pairwise_mergeSort (le := fun (x y : Int) => decide (x ≤ y)) (by simp; omega) (by simp; omega) zs
  exact this.imp (by simp)
theorem sort_own (base g n c : Nat) (zs : List Int) (w : World) (h : Own w base (.slice (some ⟨g, 0, none⟩) n c) zs) (hn : n ≤ 1048576) :
    Calls Tryz.prog 52 #[.slice (some ⟨g, 0, none⟩) n c] w fun e w' => e = .returned (.tuple #[]) ∧ Own w' base (.slice (some ⟨g, 0, none⟩) n c) (srt zs) ∧ w.grownBy w' (some g) := by
  rcases h.2 with ⟨h1, _⟩ | ⟨g', cap, cur, h1, hb, hg, hc, hm, hs, ht⟩
  · cases h1
  simp only [Value.slice.injEq, Option.some.injEq, Addr.mk.injEq, and_true, true_and] at h1
  obtain ⟨rfl, rfl, rfl⟩ := h1
  rw [Nat.mul_one] at ht
  have hlt : g < w.heap.size := (Array.getElem?_eq_some_iff.1 hg).1
  refine (Tryz.slices_Sort_int g 0 c zs w (holds_of_blockI hg ht) hlt (by omega)).mono ?_
  rintro e w' ⟨rfl, q, os, rfl⟩
  refine ⟨rfl, ?_, Go.grownBy_sortedI _⟩
  have hl : (srt zs).length = zs.length := srt_len zs
  have := ownsRow_sortedI (w := w) (base := base) (n := q) (os := os) (ss := zs) (ts := srt zs) hl hb hg hc hm (by rw [hs])
  unfold Own
  rw [hl]
  exact this

end Go.Proofs.YtgcpobondcnjcaaGreatDoor
