/-
  SortBunches: what it answers; rows of bundles as the sort sees them.
  No conditions.
-/
import Derived.Test.YtgcpobondcnjcaaGreatDoorSortK
import Derived.Test.YtgcpobondcnjcaaGreatDoorOwn3
import Derived.Test.YtgcpobondcnjcaaGreatDoorWeight
namespace Go.Proofs.YtgcpobondcnjcaaGreatDoor
open Go.ChangeShapes Go.WideShapes Go.ChangeAt Go.RowKit Go.Deep Go.Shelf Go.Lib Go.Sort
set_option linter.unusedVariables false

/-- Cell c of bundle x. -/
def clB (zs : List Int) (n : Nat) (x : Int) (c : Nat) : Int := gi zs ((clp n x).toNat * 3 + c)
theorem clB_in (zs : List Int) {n q : Nat} (h : q < n) (c : Nat) : clB zs n (q : Int) c = gi zs (q * 3 + c) := by unfold clB; rw [clp_in (by omega) (by omega)]; simp
/-- What the closure answers. -/
def cfB (zs : List Int) (n : Nat) (x y : Int) : Int := if clB zs n x 0 = clB zs n y 0 then clB zs n x 2 - clB zs n y 2 else clB zs n x 0 - clB zs n y 0
/-- A key: the greater it is, the further ahead. -/
def bK (zs : List Int) (n : Nat) (x : Int) : Int := -(clB zs n x 0 * 100000 + clB zs n x 2)
theorem clB_bd {zs : List Int} {n : Nat} (hok : okAll (bunchAt zs) n 30 = true) (h0 : 0 < n) (x : Int) : 100 ≤ clB zs n x 0 ∧ clB zs n x 0 ≤ 3000 ∧ 10 ≤ clB zs n x 1 ∧ clB zs n x 1 ≤ 2000 ∧ 1 ≤ clB zs n x 2 ∧ clB zs n x 2 ≤ 50000 := by
  have h := clp_bd h0 x
  have := bunchOk_bd (okAll_get hok (show (clp n x).toNat < n by omega))
  unfold clB
  simpa using this
theorem cfB_sgn {zs : List Int} {n : Nat} (hok : okAll (bunchAt zs) n 30 = true) (h0 : 0 < n) (x y : Int) : cfB zs n x y < 0 ↔ bK zs n y < bK zs n x := by
  have hx := clB_bd hok h0 x
  have hy := clB_bd hok h0 y
  unfold cfB bK
  split <;> omega
/-- The bundles at these places. -/
def flB (zs : List Int) (L : List Int) : List Int := L.flatMap fun x => [gi zs (x.toNat * 3), gi zs (x.toNat * 3 + 1), gi zs (x.toNat * 3 + 2)]
theorem flB_app (zs L M : List Int) : flB zs (L ++ M) = flB zs L ++ flB zs M := by simp [flB]
theorem flB_len (zs : List Int) : ∀ L : List Int, (flB zs L).length = L.length * 3
  | [] => rfl
  | x :: L => by
    have := flB_len zs L
    simp only [flB, List.flatMap_cons, List.length_append, List.length_cons, List.length_nil] at this ⊢; omega
theorem flB_take (zs : List Int) : ∀ (k : Nat) (L : List Int), k ≤ L.length → (flB zs L).take (k * 3) = flB zs (L.take k)
  | 0, L, _ => by simp [flB]
  | k + 1, [], h => by simp at h
  | k + 1, x :: L, h => by
    have ih := flB_take zs k L (by simpa using h)
    have e : (k + 1) * 3 = k * 3 + 1 + 1 + 1 := by omega
    simp only [flB, List.flatMap_cons, List.take_succ_cons, e, List.cons_append, List.nil_append] at ih ⊢
    rw [ih]
theorem flB_drop (zs : List Int) : ∀ (k : Nat) (L : List Int), k ≤ L.length → (flB zs L).drop (k * 3) = flB zs (L.drop k)
  | 0, L, _ => by simp
  | k + 1, [], h => by simp at h
  | k + 1, x :: L, h => by
    have ih := flB_drop zs k L (by simpa using h)
    have e : (k + 1) * 3 = k * 3 + 1 + 1 + 1 := by omega
    simp only [flB, List.flatMap_cons, List.drop_succ_cons, e, List.cons_append, List.nil_append] at ih ⊢
    rw [ih]
theorem flB_at (zs : List Int) : ∀ (L : List Int) (j c : Nat), j < L.length → c < 3 → gi (flB zs L) (j * 3 + c) = gi zs ((gi L j).toNat * 3 + c)
  | [], j, c, h, _ => by simp at h
  | x :: L, 0, c, _, hc => by
    obtain rfl | rfl | rfl : c = 0 ∨ c = 1 ∨ c = 2 := by omega
    all_goals simp [gi, flB, List.getD]
  | x :: L, j + 1, c, h, hc => by
    have ih := flB_at zs L j c (by simpa using h) hc
    have e : (j + 1) * 3 + c = (j * 3 + c) + 1 + 1 + 1 := by omega
    rw [e]
    simpa [gi, flB, List.getD] using ih
theorem gi_mem3 {L : List Int} {i : Nat} (h : i < L.length) : gi L i ∈ L := by
  have : gi L i = L[i] := by simp [gi, List.getD, List.getElem?_eq_getElem h]
  rw [this]; exact List.getElem_mem h
theorem upTo_gi {n j : Nat} (h : j < n) : gi (upTo n) j = j := by simp [gi, upTo, List.getD, h]
theorem list_gi {zs ys : List Int} (hl : zs.length = ys.length) (h : ∀ j, j < zs.length → gi zs j = gi ys j) : zs = ys := by
  apply List.ext_getElem hl
  intro j h1 h2
  have := h j h1
  simpa [gi, List.getD, List.getElem?_eq_getElem h1, List.getElem?_eq_getElem h2] using this
theorem flB_upTo {zs : List Int} {n : Nat} (hl : zs.length = n * 3) : flB zs (upTo n) = zs := by
  refine list_gi (by rw [flB_len, upTo_len, hl]) fun j hj => ?_
  rw [flB_len, upTo_len] at hj
  have := flB_at zs (upTo n) (j / 3) (j % 3) (by rw [upTo_len]; omega) (by omega)
  rw [upTo_gi (by omega), show j / 3 * 3 + j % 3 = j by omega] at this
  rw [this]
  congr 1
  simp only [Int.toNat_natCast]; omega
theorem flB_mem {zs L : List Int} {z : Int} (h : z ∈ flB zs L) (hw : ∀ y ∈ zs, -9223372036854775808 ≤ y ∧ y ≤ 9223372036854775807) : -9223372036854775808 ≤ z ∧ z ≤ 9223372036854775807 := by
  have hg : ∀ j, -9223372036854775808 ≤ gi zs j ∧ gi zs j ≤ 9223372036854775807 := fun j => by
    by_cases hj : j < zs.length
    · exact hw _ (gi_mem3 hj)
    · simp [gi, List.getD, List.getElem?_eq_none (show zs.length ≤ j by omega)]
  simp only [flB, List.mem_flatMap, List.mem_cons, List.not_mem_nil, or_false] at h
  obtain ⟨x, _, rfl | rfl | rfl⟩ := h
  all_goals exact hg _

/-- SortBunches. -/
def sbV (zs : List Int) (n : Nat) : List Int := if okAll (bunchAt zs) n 30 then flB zs (stTo (bK zs n) n) else []
def sbN (zs : List Int) (n : Nat) : Nat := if okAll (bunchAt zs) n 30 then n else 0
def sbC (zs : List Int) (n : Nat) : Int := if okAll (bunchAt zs) n 30 then 0 else 1

/-! The row as the sort sees it. -/
theorem flatK_at {zs L : List Int} {n t : Nat} (hL : ∀ z ∈ L, 0 ≤ z ∧ z < (n : Int)) (ht : t < L.length * 3) : (flatK (enc3 (clB zs n)) 3 L.toArray)[t]! = .int .i64 (gi (flB zs L) t) := by
  have hj : t / 3 < L.length := by omega
  rw [get_flatK _ _ _ t (by simpa using ht)]
  have e2 : L.toArray[t / 3]! = gi L (t / 3) := by simp [gi, List.getD, hj]
  have hz := hL _ (gi_mem3 hj)
  have e3 : (clp n (gi L (t / 3))) = gi L (t / 3) := clp_in hz.1 hz.2
  have e4 := flB_at zs L (t / 3) (t % 3) hj (by omega)
  rw [show t / 3 * 3 + t % 3 = t by omega] at e4
  rw [e2, e4]
  obtain h | h | h : t % 3 = 0 ∨ t % 3 = 1 ∨ t % 3 = 2 := by omega
  all_goals rw [h]; simp [enc3, clB, e3]
theorem row_of {w : World} {base g n cap : Nat} {zs : List Int} (h : Own3 w base (.slice (some ⟨g, 0, none⟩) n cap) n zs) : RowB (clB zs n) w g (upTo n).toArray := by
  have hl := h.length
  have hlt := (h.lt g rfl).2
  have hfz : ∀ j, w.frozen? ⟨g, j, none⟩ = false := by
    intro j
    rcases h.2 with ⟨e, _⟩ | ⟨g', cap', cur, e, h1, h2, _⟩
    · cases e
    · injection e with e1
      injection e1 with e1
      injection e1 with e1
      subst e1
      simp [World.frozen?, h2]
  refine ⟨enc3_k _, enc3_1 _, fun t ht => ?_, hlt⟩
  have ht' : t < n * 3 := by simpa [upTo_len] using ht
  have hin : ∀ z ∈ upTo n, 0 ≤ z ∧ z < (n : Int) := fun z hz => by simp only [upTo, List.mem_map, List.mem_range] at hz; obtain ⟨j, hj, rfl⟩ := hz; omega
  have := flatK_at (zs := zs) (n := n) hin (t := t) (by rw [upTo_len]; exact ht')
  rw [this, flB_upTo hl, Nat.zero_add]
  exact ⟨own3_at h ht', hfz t⟩
theorem sw_own3 {w0 W : World} {base g n cap : Nat} {zs L : List Int} (h : Own3 w0 base (.slice (some ⟨g, 0, none⟩) n cap) n zs) (S : SwB (clB zs n) w0 g L.toArray W) (hn : L.length = n) (hL : ∀ z ∈ L, 0 ≤ z ∧ z < (n : Int)) :
    Own3 W base (.slice (some ⟨g, 0, none⟩) n cap) n (flB zs L) := by
  have hl := h.length
  obtain ⟨m, os, rfl⟩ := S
  unfold Own3 at h ⊢
  rcases h.2 with ⟨e, _⟩ | ⟨g', cap', cur, e, h1, h2, h3, h4, h5, h6⟩
  · cases e
  · injection e with e1 e2 e3
    injection e1 with e1
    injection e1 with e1
    subst e1
    subst cap'
    have hlt : g < w0.heap.size := by
      rcases Nat.lt_or_ge g w0.heap.size with q | q
      · exact q
      · rw [Array.getElem?_eq_none q] at h2; cases h2
    refine ⟨by rw [iv_length, flB_len, hn], .inr ⟨g, cap, putCells id 0 (flatK (enc3 (clB zs n)) 3 L.toArray) cur, rfl, h1, ?_, by omega, h4, by simpa [putCells] using h5, ?_⟩⟩
    · have := sw_heap (enc := (id : Value → Value)) (w0 := w0) (g := g) (off := 0) (dk := flatK (enc3 (clB zs n)) 3 L.toArray) m os hlt
      rw [if_pos rfl, h2] at this
      exact this
    · apply List.ext_getElem?
      intro k
      rw [List.getElem?_take]
      by_cases hk : k < n * 3
      · rw [if_pos (by omega), iv_get (flB zs L) k (by rw [flB_len, hn]; omega)]
        have e9 := flatK_at (zs := zs) (n := n) hL (t := k) (by rw [hn]; exact hk)
        simp only [putCells, Array.getElem?_toList, Array.getElem?_mapIdx]
        rw [Array.getElem?_eq_getElem (by omega)]
        simp only [Option.map_some]
        rw [if_pos ⟨by omega, by simp [hn]; omega⟩, Nat.sub_zero, e9]
        rfl
      · rw [if_neg (by omega), List.getElem?_eq_none (by rw [iv_length, flB_len, hn]; omega)]
theorem swb_below {cl : Int → Nat → Int} {w0 W : World} {g : Nat} {dk : Array Int} (h : SwB cl w0 g dk W) {B : Nat} (hB : B ≤ g) (hs : B ≤ w0.heap.size) : Below B w0 W :=
  sw_below (enc := (id : Value → Value)) (dk := flatK (enc3 cl) 3 dk) h hB hs
end Go.Proofs.YtgcpobondcnjcaaGreatDoor
