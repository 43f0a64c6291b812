/-
  append of one whole number to a slice of the call's own; what such a slice holds.
  No conditions.
-/
import Derived.Test.YtgcpobondcnjcaaGreatDoorMark
import Derived.OwnWalk
namespace Go.Proofs.YtgcpobondcnjcaaGreatDoor
open Go.ChangeShapes Go.WideShapes Go.ChangeAt Go.RowKit Go.Deep

/-- A slice of the call's own that holds the numbers zs. -/
def Own (w : World) (base : Nat) (v : Value) (zs : List Int) : Prop := w.ownsRow base 2 1 v zs.length (iv zs)
section
variable {w w' : World} {base : Nat} {v : Value} {zs : List Int}
theorem Own.alloc (h : Own w base v zs) (o : Obj) : Own (w.alloc o) base v zs := World.ownsRow.alloc h o
theorem Own.drewN (h : Own w base v zs) (m : Nat) : Own (w.drewN m) base v zs := h
theorem Own.lt (h : Own w base v zs) : ∀ k, v.ownBlock = some k → base ≤ k ∧ k < w.heap.size := World.ownsRow.lt h
theorem Own.below (h : Own w base v zs) {B : Nat} (hb : Below B w w') (hB : w.heap.size ≤ B) : Own w' base v zs :=
  World.ownsRow.kept (row := none) h ⟨hb.os, hb.tape, hb.output, hb.size, fun k hk _ => hb.block k (by omega)⟩ (by cases v.ownBlock <;> simp)
theorem Own.on (h : Own w base v zs) (hb : Below w.heap.size w w') : Own w' base v zs := h.below hb (Nat.le_refl _)
theorem Own.kept {row : Option Nat} (h : Own w base v zs) (hg : w.grownBy w' row) (hne : v.ownBlock = none ∨ v.ownBlock ≠ row) : Own w' base v zs := World.ownsRow.kept h hg hne
theorem Own.base_le {b' : Nat} (h : Own w base v zs) (hb : b' ≤ base) : Own w b' v zs := by
  refine ⟨h.1, ?_⟩
  rcases h.2 with h1 | ⟨g, cap, cur, e1, e2, r⟩
  · exact .inl h1
  · exact .inr ⟨g, cap, cur, e1, by omega, r⟩
theorem Own.empty (w : World) (hb : base ≤ w.heap.size) : Own (w.alloc (.cells #[] 2)) base (.slice (some ⟨w.heap.size, 0, none⟩) 0 0) [] := by
  have := World.ownsRow_lit (base := base) (e := 2) (size := 1) (w := w) #[] 0 hb (by simp [maxLen]) rfl
  exact this
theorem Own.nil (w : World) (base : Nat) : Own w base (.slice none 0 0) [] := World.ownsRow_nil _ _ _ _
theorem Own.ints (h : Own w base v zs) (hw : ∀ z ∈ zs, -9223372036854775808 ≤ z ∧ z ≤ 9223372036854775807) : ∃ A c, v = .slice A zs.length c ∧ Ints w w.heap.size 1 A zs.length zs ∧ (A = none → zs = []) := by
  rcases h.2 with ⟨rfl, h0⟩ | ⟨g, cap, cur, rfl, h1⟩
  · have : zs = [] := List.eq_nil_of_length_eq_zero h0
    subst this
    exact ⟨none, 0, rfl, ⟨Reads.none_, by simp⟩, fun _ => rfl⟩
  · exact ⟨_, cap, rfl, ⟨Reads.of_own h, hw⟩, fun h => by cases h⟩
theorem Own.of_blk {g : Nat} (h : Blk w g 2 (iv zs).toArray) (hb : base ≤ g) (hn : zs.length ≤ maxLen) : Own w base (.slice (some ⟨g, 0, none⟩) zs.length zs.length) zs :=
  h.own hb hn (by simp [iv_length])
end

theorem own_ne {w2 w4 : World} {b2 b4 : Nat} {v2 v4 : Value} {L : List Int} {e : TypeId} {K n : Nat} {X : List Value} (h2 : Own w2 b2 v2 L) (hb : w2.heap.size ≤ b4) (h4 : w4.ownsRow b4 e K v4 n X) : v2.ownBlock = none ∨ v2.ownBlock ≠ v4.ownBlock := by
  rcases hv : v2.ownBlock with _ | k
  · exact .inl rfl
  · refine .inr fun he => ?_
    have a1 := (h2.lt k hv).2
    have a2 := (World.ownsRow.lt h4 k he.symm).1
    omega
theorem own_ne_blk {w4 : World} {b4 g : Nat} {v4 : Value} {M : List Int} (h4 : Own w4 b4 v4 M) (hg : g < b4) : v4.ownBlock = none ∨ v4.ownBlock ≠ some g := by
  rcases hv : v4.ownBlock with _ | k
  · exact .inl rfl
  · refine .inr fun he => ?_
    have a1 := (h4.lt k hv).1
    injection he with he
    omega
theorem own_lt_blk {w2 : World} {b2 g : Nat} {v2 : Value} {L : List Int} (h2 : Own w2 b2 v2 L) (hg : w2.heap.size ≤ g) : v2.ownBlock = none ∨ v2.ownBlock ≠ some g := by
  rcases hv : v2.ownBlock with _ | k
  · exact .inl rfl
  · refine .inr fun he => ?_
    have a1 := (h2.lt k hv).2
    injection he with he
    omega
theorem mkL_bd (m : Nat) (hm : m ≤ 4194304) : ∀ z ∈ mkL 1 m, -9223372036854775808 ≤ z ∧ z ≤ 9223372036854775807 := by
  intro z hz
  simp only [mkL, List.mem_map, List.mem_range] at hz
  obtain ⟨j, hj, rfl⟩ := hz
  omega

theorem append_int {w : World} {ops : Array Oper} {rest : List Oper} {o : Oper} {a : Act} {Q : Exit → Act → World → Prop} (hgd : o.guard = none) (s x : Operand)
    (ho : o.op = .call { callee := .builtin .append, args := #[s, x], argTypes := #[32, 32] })
    (base : Nat) (v : Value) (zs : List Int) (hs : a.eval s = v) (hown : Own w base v zs) (u : Int) (g : Nat) (hx : a.eval x = .slice (some ⟨g, 0, none⟩) 1 1) (hg : Blk w g 2 #[.int .i64 u])
    (hn : zs.length ≤ 1048576) (hbase : base ≤ w.heap.size)
    (h : ∀ v' w', Own w' base v' (zs ++ [u]) → w.grownBy w' v.ownBlock → wpList Tryz.prog ops Q rest (a.put o.dst v') w') : wpList Tryz.prog ops Q (o :: rest) a w := by
  have hinfo : (Tryz.prog.info? 2).map (fun i => (i.zero, i.size, i.bytes)) = some (some (.int .i64 0), 1, 8) := by kernel_rfl
  obtain ⟨i0, hi, hz0, hz1, hz2⟩ := info_parts hinfo
  refine wpList_append_own w hgd s x 32 ho base 2 i0 (.int .i64 0) 1 8 Tryz.underlying32 hi hz0 hz1 hz2 rfl (by decide) v zs.length (iv zs) hs hown ⟨g, 0, none⟩ 1 1 [.int .i64 u] hx rfl ?_ ?_ ?_ ?_ hbase ?_
  · intro j y hy
    match j, hy with
    | 0, hy =>
      simp at hy; subst hy
      have := hg.cell 0
      simpa [Addr.add] using this
  · intro y hy; simp at hy; subst hy; rfl
  · simp only [maxLen]; omega
  · omega
  · intro v' w' hown' hgr _
    refine h v' w' ?_ hgr
    unfold Own
    rw [iv_append, List.length_append]
    exact hown'

/-- The chosen of the first k. -/
def selTo (p : Nat → Bool) : Nat → List Int
  | 0 => []
  | k + 1 => if p k then selTo p k ++ [(k : Int)] else selTo p k
theorem selTo_yes {p : Nat → Bool} {k : Nat} (h : p k = true) : selTo p (k + 1) = selTo p k ++ [(k : Int)] := by simp [selTo, h]
theorem selTo_no {p : Nat → Bool} {k : Nat} (h : p k = false) : selTo p (k + 1) = selTo p k := by simp [selTo, h]
theorem selTo_len (p : Nat → Bool) : ∀ k : Nat, (selTo p k).length ≤ k
  | 0 => by simp [selTo]
  | k + 1 => by
    have := selTo_len p k
    simp only [selTo]; split
    · simp; omega
    · omega
theorem selTo_mem (p : Nat → Bool) : ∀ (k : Nat) (z : Int), z ∈ selTo p k → 0 ≤ z ∧ z < k
  | 0, z, h => by simp [selTo] at h
  | k + 1, z, h => by
    simp only [selTo] at h
    split at h
    · rcases List.mem_append.1 h with h1 | h1
      · have := selTo_mem p k z h1; omega
      · simp at h1; omega
    · have := selTo_mem p k z h; omega

end Go.Proofs.YtgcpobondcnjcaaGreatDoor
