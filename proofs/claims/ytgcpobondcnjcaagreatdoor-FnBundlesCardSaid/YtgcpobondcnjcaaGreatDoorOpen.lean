/-
  Arguments that are slices of whole numbers or of structs of whole numbers, opened to what they hold.
  No conditions.
-/
import Derived.Test.YtgcpobondcnjcaaGreatDoorMem
import Derived.OpenShut
import Derived.ChangeOld
import Derived.Lib.SmallJoins
namespace Go.Proofs.YtgcpobondcnjcaaGreatDoor
open Go.ChangeShapes Go.WideShapes Go.ChangeAt Go.RowKit Go.Deep

theorem wf_bd {n : Int} (h : (Lit.int .i64 n).wf = true) : -9223372036854775808 ≤ n ∧ n ≤ 9223372036854775807 := by
  simpa [Lit.wf, IntKind.min, IntKind.max, IntKind.signed, IntKind.bits] using h

/-- The number that a cell holds. -/
def numAt (w : World) (a : Addr) : Int := intOf ((w.cell? a).getD undef)

section
variable {H : Type} {enc : TypeId × Value → H} {P : Program} {w : World} {base : Nat} {spare : Nat → Bool} {held : Bool}
theorem open_slice_fields {t e : TypeId} {fs : Array Field} {fuel : Nat} {cs : List Value} {x : DataW H × List MemPlace} (ht : P.underlying t = some (.slice e)) (he : P.underlying e = some (.struct fs))
    (hone : oneCellFields P fs = true) (hC : P.cellsOf e = fs.size) (h : DataW.trod enc P w base spare held fuel t cs = some x) :
    (cs = [.slice none 0 0] ∧ x = (.nil, [])) ∨
    ∃ (a : Addr) (len cap m : Nat) (D : Nat → DataW H) (Pl : Nat → List MemPlace), cs = [.slice (some a) len cap] ∧ base ≤ a.block ∧ len ≤ cap ∧ cap ≤ maxLen ∧ m = (if spare a.block then cap else len) ∧
      x = (.slice ((List.range len).map D) ((List.range (m - len)).map fun j => D (len + j)), MemPlace.row a (m * fs.size) ++ (List.range m).flatMap Pl) ∧
      ∀ i, i < m → ∃ (ys : List (DataW H × List MemPlace)) (n : Nat), D i = .agg (ys.map (·.1)) ∧ Pl i = ys.flatMap (·.2) ∧ ys.length = fs.size ∧
        ∀ (j : Nat) (f : Field), fs[j]? = some f → ∃ (v : Value) (y : DataW H × List MemPlace), w.cell? (a.add (i * fs.size + j)) = some v ∧ ys[j]? = some y ∧ DataW.trod enc P w base spare held n f.type [v] = some y := by
  rcases open_slice ht h with h0 | ⟨a, len, cap, m, n, D, Pl, hcs, hb, hl, hm, hmm, hx, hi⟩
  · exact .inl h0
  · refine .inr ⟨a, len, cap, m, D, Pl, hcs, hb, hl, hm, hmm, by rw [hC] at hx; exact hx, fun i him => ?_⟩
    obtain ⟨cs', hc, ht'⟩ := hi i him
    rw [hC] at hc
    obtain ⟨ys, n', hn', hy, hlen, hyl, hf⟩ := DataW.trod_struct he ht'
    obtain ⟨_, hcl, hat⟩ := World.cells?_some hc
    simp only [Prod.mk.injEq] at hy
    refine ⟨ys, n', hy.1, hy.2, hyl, fun j f hj => ?_⟩
    obtain ⟨ho, hk⟩ := hone_of hone j f hj
    have hjl : j < fs.size := (Array.getElem?_eq_some_iff.1 hj).1
    have hcell := hat j hjl
    have hv : cs'[j]? = some (cs'[j]'(by omega)) := List.getElem?_eq_getElem (by omega)
    have h1 := hf j f hj
    rw [ho, hk] at h1
    have hone' : (cs'.drop j).take 1 = [cs'[j]'(by omega)] := by
      rw [List.drop_eq_getElem_cons (by omega)]
      rfl
    rw [hone'] at h1
    have hys : ys[j]? = some (ys[j]'(by omega)) := List.getElem?_eq_getElem (by omega)
    refine ⟨_, _, ?_, hys, h1.trans hys⟩
    rw [← Go.Deep.add_add, hcell, hv]

/-- Cells that are whole numbers make a list of whole numbers. -/
theorem ints_of_cells {a : Addr} {n k : Nat} (hk : 0 < k) (hc : ∀ q, q < n * k → ∃ x, w.cell? (a.add q) = some (.int .i64 x) ∧ (Lit.int .i64 x).wf = true) :
    ∃ zs, Ints w w.heap.size k (some a) n zs := by
  refine ⟨(List.range (n * k)).map fun q => numAt w (a.add q), ⟨⟨by simp [iv], fun hn => ?_⟩, ?_⟩⟩
  · have hpos : 0 < n * k := Nat.mul_pos hn hk
    obtain ⟨x, hx, _⟩ := hc 0 hpos
    have hs := World.cell?_spot hx
    have hb := World.block_lt_of_cell? _ _ hx
    have e0 : a.add 0 = a := by simp [Addr.add]
    rw [e0] at hs hb
    obtain ⟨b, off, spot⟩ := a
    simp only at hs
    subst hs
    refine ⟨b, off, rfl, hb, fun j u hu => ?_⟩
    have hj : j < n * k := by
      have := (List.getElem?_eq_some_iff.1 hu).1
      simpa [iv] using this
    obtain ⟨y, hy, _⟩ := hc j hj
    have ea : (⟨b, off, none⟩ : Addr).add j = ⟨b, off + j, none⟩ := by unfold Addr.add; split <;> simp_all
    simp only [iv, List.map_map, List.getElem?_map, List.getElem?_range hj, Option.map_some, Function.comp_apply, Option.some.injEq] at hu
    rw [← hu]
    simp only [numAt, hy, Option.getD_some, intOf]
    rw [← ea]; exact hy
  · intro z hz
    simp only [List.mem_map, List.mem_range] at hz
    obtain ⟨q, hq, rfl⟩ := hz
    obtain ⟨y, hy, hw⟩ := hc q hq
    simp only [numAt, hy, Option.getD_some, intOf]
    exact wf_bd hw

/-- An argument that is a slice of structs whose fields are all int64. -/
theorem openK {t e : TypeId} {fs : Array Field} (ht : P.underlying t = some (.slice e)) (he : P.underlying e = some (.struct fs)) (hone : oneCellFields P fs = true) (hC : P.cellsOf e = fs.size) (h0 : 0 < fs.size)
    (hf : ∀ (j : Nat) (f : Field), fs[j]? = some f → P.underlying f.type = some (.int .i64)) {r : Reach} {b0 : Nat} {v : Value} (hv : Value.okWide P w r b0 t v) {d : DataW H} {p : List MemPlace} (h : DataW.Trod enc P w base spare held t v d p) :
    ∃ A n c zs, v = .slice A n c ∧ n ≤ maxLen ∧ Ints w w.heap.size fs.size A n zs := by
  obtain ⟨A, n, c, rfl⟩ := okWide_slice ht hv
  obtain ⟨fuel, hr⟩ := h
  rcases open_slice_fields ht he hone hC hr with ⟨hcs, _⟩ | ⟨a, len, cap, m, D, Pl, hcs, _, hl, hm, hmm, _, hall⟩
  · simp [Value.cells] at hcs
    obtain ⟨rfl, rfl, rfl⟩ := hcs
    exact ⟨none, 0, 0, [], rfl, by simp [maxLen], ⟨Reads.none_, by simp⟩⟩
  · simp [Value.cells] at hcs
    obtain ⟨rfl, rfl, rfl⟩ := hcs
    have hnm : n ≤ m := by rw [hmm]; split <;> omega
    obtain ⟨zs, hz⟩ := ints_of_cells (w := w) (a := a) (n := n) (k := fs.size) h0 (fun q hq => by
      have h1 : q / fs.size < n := Nat.div_lt_of_lt_mul (by rw [Nat.mul_comm]; exact hq)
      have h2 : q % fs.size < fs.size := Nat.mod_lt _ h0
      obtain ⟨ys, nn, _, _, _, hcell⟩ := hall (q / fs.size) (by omega)
      obtain ⟨u, y, hu, _, hy⟩ := hcell (q % fs.size) fs[q % fs.size] (Array.getElem?_eq_getElem h2)
      obtain ⟨x, hx, _, hw⟩ := DataW.trod_int (hf _ _ (Array.getElem?_eq_getElem h2)) hy
      injection hx with hx _
      subst hx
      refine ⟨x, ?_, hw⟩
      rw [← hu]; congr 2
      have := Nat.div_add_mod q fs.size
      rw [Nat.mul_comm] at this; omega)
    exact ⟨_, n, c, zs, rfl, by omega, hz⟩

/-- An argument that is a slice of int64. -/
theorem open1 {t e : TypeId} (ht : P.underlying t = some (.slice e)) (he : P.underlying e = some (.int .i64)) (hC : P.cellsOf e = 1)
    {r : Reach} {b0 : Nat} {v : Value} (hv : Value.okWide P w r b0 t v) {d : DataW H} {p : List MemPlace} (h : DataW.Trod enc P w base spare held t v d p) :
    ∃ A n c zs, v = .slice A n c ∧ n ≤ maxLen ∧ Ints w w.heap.size 1 A n zs := by
  obtain ⟨A, n, c, rfl⟩ := okWide_slice ht hv
  obtain ⟨fuel, hr⟩ := h
  rcases open_ints ht he hC hr with ⟨hcs, _⟩ | ⟨a, len, cap, zs, hcs, _, hl, hm, hz, _, hcell, hwz⟩
  · simp [Value.cells] at hcs
    obtain ⟨rfl, rfl, rfl⟩ := hcs
    exact ⟨none, 0, 0, [], rfl, by simp [maxLen], ⟨Reads.none_, by simp⟩⟩
  · simp [Value.cells] at hcs
    obtain ⟨rfl, rfl, rfl⟩ := hcs
    have hnz : n ≤ zs.length := by rw [hz]; split <;> omega
    obtain ⟨ys, hy⟩ := ints_of_cells (w := w) (a := a) (n := n) (k := 1) (by omega) (fun q hq => by
      refine ⟨_, hcell q (by omega), hwz _ ?_⟩
      rw [List.getD, List.getElem?_eq_getElem (by omega)]; exact List.getElem_mem _)
    exact ⟨_, n, c, ys, rfl, by omega, hy⟩
end

/-- Whole numbers, k an element, in a slice: what a walk is told of such an argument. -/
def IntsArg (k : Nat) (v : Value) (w : World) : Prop := ∃ A n c zs, v = .slice A n c ∧ n ≤ maxLen ∧ Ints w w.heap.size k A n zs

end Go.Proofs.YtgcpobondcnjcaaGreatDoor
