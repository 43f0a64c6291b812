/-
  Beds: a slice of yields and an age, one by one and in lists; arguments of this kind, opened.
  No conditions.
-/
import Derived.Test.YtnlddplhaiceaaaValid
import Derived.Test.YtnlddplhaiceaaaOpen
import Derived.IntWalk
namespace Go.Proofs.Ytnlddplhaiceaaa
open Go.ChangeShapes Go.WideShapes Go.ChangeAt Go.RowKit Go.Deep

/-- The yields and the age of the bed at place i. -/
def yl (bs : Nat → List Int × Int) (i : Nat) : List Int := (bs i).1
def ag (bs : Nat → List Int × Int) (i : Nat) : Int := (bs i).2
/-- The slice '.slice A n c' holds the beds bs, below block B. -/
structure Beds (w : World) (B : Nat) (A : Option Addr) (n : Nat) (bs : Nat → List Int × Int) : Prop where
  at_ : ∀ i, i < n → ∃ b off A' m c, A = some ⟨b, off, none⟩ ∧ b < B ∧ w.cell? ⟨b, off + i * 2, none⟩ = some (.slice A' m c) ∧
    w.cell? ⟨b, off + i * 2 + 1, none⟩ = some (.int .i64 (ag bs i)) ∧ m ≤ maxLen ∧ Ints w B 1 A' m (yl bs i)
section
variable {w w' : World} {B B' n : Nat} {A : Option Addr} {bs : Nat → List Int × Int}
theorem Beds.below (h : Beds w B A n bs) (hb : Below B' w w') (hB : B ≤ B') : Beds w' B A n bs :=
  ⟨fun i hi => by
    obtain ⟨b, off, A', m, c, e, hb', h0, h1, hm, hI⟩ := h.at_ i hi
    exact ⟨b, off, A', m, c, e, hb', (hb.cell (p := ⟨b, off + i * 2, none⟩) (by show b < B'; omega)).trans h0, (hb.cell (p := ⟨b, off + i * 2 + 1, none⟩) (by show b < B'; omega)).trans h1, hm, hI.below hb hB⟩⟩
theorem Beds.more (h : Beds w B A n bs) (hB : B ≤ B') : Beds w B' A n bs :=
  ⟨fun i hi => by
    obtain ⟨b, off, A', m, c, e, hb', h0, h1, hm, hI⟩ := h.at_ i hi
    exact ⟨b, off, A', m, c, e, by omega, h0, h1, hm, hI.more hB⟩⟩
theorem Beds.on (h : Beds w w.heap.size A n bs) (hb : Below w.heap.size w w') : Beds w' w'.heap.size A n bs := (h.below hb (Nat.le_refl _)).more hb.size
theorem Beds.wf (h : Beds w B A n bs) : ∀ i, i < n → ∀ z ∈ yl bs i, -9223372036854775808 ≤ z ∧ z ≤ 9223372036854775807 := fun i hi => by
  obtain ⟨b, off, A', m, c, e, hb', h0, h1, hm, hI⟩ := h.at_ i hi
  exact hI.wf
theorem Beds.drewN (h : Beds w w.heap.size A n bs) (m : Nat) : Beds (w.drewN m) (w.drewN m).heap.size A n bs := ⟨fun i hi => by
    obtain ⟨b, off, A', k, c, e, hb', h0, h1, hm, hI⟩ := h.at_ i hi
    exact ⟨b, off, A', k, c, e, hb', h0, h1, hm, ⟨hI.reads, hI.wf⟩⟩⟩
theorem Ints.on {k : Nat} {zs : List Int} (h : Ints w w.heap.size k A n zs) (hb : Below w.heap.size w w') : Ints w' w'.heap.size k A n zs := (h.below hb (Nat.le_refl _)).more hb.size
end
/-- Beds whose lists are short. -/
def Short (bs : Nat → List Int × Int) (n : Nat) : Prop := n ≤ 1048576 ∧ ∀ i, i < n → (yl bs i).length ≤ 1048576
theorem beds_of (n : Nat) (P : Nat → List Int → Int → Prop) (h : ∀ i, i < n → ∃ ys a, P i ys a) : ∃ bs : Nat → List Int × Int, ∀ i, i < n → P i (yl bs i) (ag bs i) := by
  refine ⟨fun i => if hi : i < n then (Classical.choose (h i hi), Classical.choose (Classical.choose_spec (h i hi))) else ([], 0), fun i hi => ?_⟩
  have := Classical.choose_spec (Classical.choose_spec (h i hi))
  simpa [yl, ag, hi] using this

/-- A bed by value, and beds: what a walk is told of such an argument. -/
def BedArg (v : Value) (w : World) : Prop := ∃ A n c zs a, v = .agg #[.slice A n c, .int .i64 a] ∧ n ≤ maxLen ∧ Ints w w.heap.size 1 A n zs
def BedsArg (v : Value) (w : World) : Prop := ∃ A n c bs, v = .slice A n c ∧ n ≤ maxLen ∧ Beds w w.heap.size A n bs
section
variable {H : Type} {enc : TypeId × Value → H} {w : World} {base b0 : Nat} {spare : Nat → Bool} {held : Bool}
set_option maxRecDepth 100000 in
theorem ints_cell {fuel : Nat} {u : Value} {x : DataW H × List MemPlace} (h : DataW.trod enc Try.prog w base spare held fuel 30 [u] = some x) :
    ∃ A n c zs, u = .slice A n c ∧ n ≤ maxLen ∧ Ints w w.heap.size 1 A n zs := by
  rcases open_ints Try.underlying30 Try.underlying2 (by kernel_rfl) h with ⟨hcs, _⟩ | ⟨a, len, cap, zs, hcs, _, hl, hm, hz, _, hcell, hwz⟩
  · simp only [List.cons.injEq, and_true] at hcs
    exact ⟨none, 0, 0, [], hcs, by simp [maxLen], ⟨Reads.none_, by simp⟩⟩
  · simp only [List.cons.injEq, and_true] at hcs
    have hnz : len ≤ zs.length := by rw [hz]; split <;> omega
    obtain ⟨ys, hy⟩ := ints_of_cells (w := w) (a := a) (n := len) (k := 1) (by omega) (fun q hq => by
      refine ⟨_, hcell q (by omega), hwz _ ?_⟩
      rw [List.getD, List.getElem?_eq_getElem (by omega)]; exact List.getElem_mem _)
    exact ⟨_, len, cap, ys, hcs, by omega, hy⟩
set_option maxRecDepth 100000 in
theorem argBed {r : Reach} {v : Value} (hv : Value.okWide Try.prog w r b0 65 v) {d : DataW H} {p : List MemPlace} (h : DataW.Trod enc Try.prog w base spare held 65 v d p) :
    BedArg v w := by
  obtain ⟨c0, c1, y0, y1, m, rfl, _, _, h0, h1⟩ := Go.Joins.open_agg2 Try.underlying65 (by kernel_rfl) (by kernel_rfl) hv h
  obtain ⟨a, e1, _, _⟩ := DataW.trod_int Try.underlying2 h1
  obtain ⟨A, n, c, zs, rfl, hn, hI⟩ := ints_cell h0
  simp at e1
  subst e1
  exact ⟨A, n, c, zs, a, rfl, hn, hI⟩
set_option maxRecDepth 100000 in
theorem argBedS {r : Reach} {v : Value} (hv : Value.okWide Try.prog w r b0 22 v) {d : DataW H} {p : List MemPlace} (h : DataW.Trod enc Try.prog w base spare held 22 v d p) :
    BedsArg v w := by
  obtain ⟨A, n, c, rfl⟩ := okWide_slice Try.underlying22 hv
  obtain ⟨fuel, hr⟩ := h
  rcases open_slice_fields Try.underlying22 Try.underlying65 (by kernel_rfl) (by kernel_rfl) hr with ⟨hcs, _⟩ | ⟨a, len, cap, m, D, Pl, hcs, _, hl, hm, hmm, _, hall⟩
  · simp [Value.cells] at hcs
    obtain ⟨rfl, rfl, rfl⟩ := hcs
    exact ⟨none, 0, 0, fun _ => ([], 0), rfl, by simp [maxLen], ⟨fun i hi => absurd hi (by omega)⟩⟩
  · simp [Value.cells] at hcs
    obtain ⟨rfl, rfl, rfl⟩ := hcs
    have hnm : n ≤ m := by rw [hmm]; split <;> omega
    obtain ⟨bs, hbs⟩ := beds_of n (fun i ys ag => ∃ b off A' m c, some a = some (⟨b, off, none⟩ : Addr) ∧ b < w.heap.size ∧ w.cell? ⟨b, off + i * 2, none⟩ = some (.slice A' m c) ∧
      w.cell? ⟨b, off + i * 2 + 1, none⟩ = some (.int .i64 ag) ∧ m ≤ maxLen ∧ Ints w w.heap.size 1 A' m ys) (fun i hi => by
        obtain ⟨ys, nn, _, _, _, hcell⟩ := hall i (by omega)
        obtain ⟨u0, z0, hu0, _, hy0⟩ := hcell 0 _ rfl
        obtain ⟨u1, z1, hu1, _, hy1⟩ := hcell 1 _ rfl
        obtain ⟨A', m', c', zs, rfl, hm', hI⟩ := ints_cell hy0
        obtain ⟨ag, e1, _, _⟩ := DataW.trod_int Try.underlying2 hy1
        simp at e1
        subst e1
        have hb := World.block_lt_of_cell? _ _ hu0
        obtain ⟨ys0, nn0, _, _, _, hcell0⟩ := hall 0 (by omega)
        obtain ⟨u2, z2, hu2, _, _⟩ := hcell0 0 _ rfl
        have hs := World.cell?_spot hu2
        obtain ⟨b, off, spot⟩ := a
        have hsp : spot = none := by simpa [Addr.add] using hs
        subst hsp
        have ea : ∀ q, (⟨b, off, none⟩ : Addr).add q = ⟨b, off + q, none⟩ := by intro q; unfold Addr.add; split <;> simp_all
        rw [ea] at hu0 hu1 hb
        exact ⟨zs, ag, b, off, A', m', c', rfl, hb, hu0, by rw [Nat.add_assoc]; exact hu1, hm', hI⟩)
    exact ⟨_, n, c, bs, rfl, by omega, ⟨hbs⟩⟩
end

end Go.Proofs.Ytnlddplhaiceaaa
