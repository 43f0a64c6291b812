/-
  Bytes: the bytes of a text by their place; slices of bytes of the call's own, append of one byte, the text that they make.
  No conditions.
-/
import Derived.Test.YtgcpobondcnjcaaGreatDoorMark
import Derived.OwnWalk
import Derived.Laws.IdiomStrings
namespace Go.Proofs.YtgcpobondcnjcaaGreatDoor
open Go.ChangeShapes Go.WideShapes Go.ChangeAt Go.RowKit Go.Deep

/-- Byte i of a text. -/
def bt (s : ByteArray) (i : Nat) : UInt8 := s.data.toList.getD i 0
theorem bt_at (s : ByteArray) (i : Nat) (h : i < s.size) : s[i] = bt s i := by
  have h' : i < s.data.toList.length := by simpa using h
  unfold bt
  rw [List.getD, List.getElem?_eq_getElem h']
  rfl
theorem bt_mem (s : ByteArray) (i : Nat) (h : i < s.size) : bt s i ∈ s.data.toList := by
  have h' : i < s.data.toList.length := by simpa using h
  unfold bt
  rw [List.getD, List.getElem?_eq_getElem h']
  exact List.getElem_mem h'
theorem bt_mk (l : List UInt8) (i : Nat) : bt ⟨l.toArray⟩ i = l.getD i 0 := rfl
theorem size_mk (l : List UInt8) : (⟨l.toArray⟩ : ByteArray).size = l.length := by
  show l.toArray.size = _
  simp

/-- Bytes as values. -/
def bv (l : List UInt8) : List Value := l.map fun b => .int .u8 (b.toNat : Int)
theorem bv_length (l : List UInt8) : (bv l).length = l.length := by simp [bv]
theorem bv_append (a b : List UInt8) : bv (a ++ b) = bv a ++ bv b := by simp [bv]
theorem bv_get (l : List UInt8) (j : Nat) (h : j < l.length) : (bv l)[j]? = some (.int .u8 (l[j].toNat : Int)) := by
  simp [bv, List.getElem?_eq_getElem h]
/-- A slice of the call's own that holds the bytes l. -/
def OwnB (w : World) (base : Nat) (v : Value) (l : List UInt8) : Prop := w.ownsRow base 5 1 v l.length (bv l)
section
variable {w w' : World} {base : Nat} {v : Value} {l : List UInt8}
theorem OwnB.alloc (h : OwnB w base v l) (o : Obj) : OwnB (w.alloc o) base v l := World.ownsRow.alloc h o
theorem OwnB.drewN (h : OwnB w base v l) (m : Nat) : OwnB (w.drewN m) base v l := h
theorem OwnB.lt (h : OwnB w base v l) : ∀ k, v.ownBlock = some k → base ≤ k ∧ k < w.heap.size := World.ownsRow.lt h
theorem OwnB.below (h : OwnB w base v l) {B : Nat} (hb : Below B w w') (hB : w.heap.size ≤ B) : OwnB w' base v l :=
  World.ownsRow.kept (row := none) h ⟨hb.os, hb.tape, hb.output, hb.size, fun k hk _ => hb.block k (by omega)⟩ (by cases v.ownBlock <;> simp)
theorem OwnB.on (h : OwnB w base v l) (hb : Below w.heap.size w w') : OwnB w' base v l := h.below hb (Nat.le_refl _)
theorem OwnB.kept {row : Option Nat} (h : OwnB w base v l) (hg : w.grownBy w' row) (hne : v.ownBlock = none ∨ v.ownBlock ≠ row) : OwnB w' base v l := World.ownsRow.kept h hg hne
theorem OwnB.base_le {b' : Nat} (h : OwnB w base v l) (hb : b' ≤ base) : OwnB w b' v l := by
  refine ⟨h.1, ?_⟩
  rcases h.2 with h1 | ⟨g, cap, cur, e1, e2, r⟩
  · exact .inl h1
  · exact .inr ⟨g, cap, cur, e1, by omega, r⟩
theorem OwnB.empty (w : World) (hb : base ≤ w.heap.size) : OwnB (w.alloc (.cells #[] 5)) base (.slice (some ⟨w.heap.size, 0, none⟩) 0 0) [] := by
  have := World.ownsRow_lit (base := base) (e := 5) (size := 1) (w := w) #[] 0 hb (by simp [maxLen]) rfl
  exact this
theorem OwnB.nil (w : World) (base : Nat) : OwnB w base (.slice none 0 0) [] := World.ownsRow_nil _ _ _ _
theorem OwnB.of_blk {g : Nat} (h : Blk w g 5 (bv l).toArray) (hb : base ≤ g) (hn : l.length ≤ maxLen) : OwnB w base (.slice (some ⟨g, 0, none⟩) l.length l.length) l :=
  h.own hb hn (by simp [bv_length])
theorem OwnB.len (h : OwnB w base v l) : ∃ A c, v = .slice A l.length c := by
  rcases h.2 with ⟨rfl, h0⟩ | ⟨g, cap, cur, rfl, h1⟩
  · exact ⟨none, 0, by rw [h0]⟩
  · exact ⟨_, cap, rfl⟩
/-- The text of such bytes. -/
theorem OwnB.str (h : OwnB w base v l) : (convert 22 9 v).run Tryz.prog w = .ok (.string ⟨l.toArray⟩) w := by
  rcases h.2 with ⟨rfl, h0⟩ | ⟨g, cap, cur, rfl, h1⟩
  · have : l = [] := List.eq_nil_of_length_eq_zero h0
    subst this
    have he := run_convert_bytes_string (P := Tryz.prog) w 22 9 5 none 0 0 Tryz.underlying22 Tryz.underlying5 Tryz.underlying9
    rw [he]; rfl
  · refine run_convert_bytes_back w 22 9 5 ⟨g, 0, none⟩ cap l Tryz.underlying22 Tryz.underlying5 Tryz.underlying9 fun j hj => ?_
    have := h.cells (g := g) rfl j _ (bv_get l j hj)
    exact this
/-- The text of a block of bytes. -/
theorem Blk.str {g : Nat} (h : Blk w g 5 (bv l).toArray) (c : Nat) : (convert 22 9 (.slice (some ⟨g, 0, none⟩) l.length c)).run Tryz.prog w = .ok (.string ⟨l.toArray⟩) w := by
  refine run_convert_bytes_back w 22 9 5 ⟨g, 0, none⟩ c l Tryz.underlying22 Tryz.underlying5 Tryz.underlying9 fun j hj => ?_
  have := h.cell j
  rw [List.getElem?_toArray, bv_get l j hj] at this
  have hadd : (⟨g, 0, none⟩ : Addr).add j = ⟨g, j, none⟩ := by unfold Addr.add; split <;> simp_all
  rw [hadd]; exact this
end

theorem append_byte {w : World} {ops : Array Oper} {rest : List Oper} {o : Oper} {a : Act} {Q : Exit → Act → World → Prop} (hgd : o.guard = none) (s x : Operand)
    (ho : o.op = .call { callee := .builtin .append, args := #[s, x], argTypes := #[22, 22] })
    (base : Nat) (v : Value) (l : List UInt8) (hs : a.eval s = v) (hown : OwnB w base v l) (u : UInt8) (g : Nat) (hx : a.eval x = .slice (some ⟨g, 0, none⟩) 1 1) (hg : Blk w g 5 #[.int .u8 (u.toNat : Int)])
    (hn : l.length ≤ 1048576) (hbase : base ≤ w.heap.size)
    (h : ∀ v' w', OwnB w' base v' (l ++ [u]) → w.grownBy w' v.ownBlock → wpList Tryz.prog ops Q rest (a.put o.dst v') w') : wpList Tryz.prog ops Q (o :: rest) a w := by
  have hinfo : (Tryz.prog.info? 5).map (fun i => (i.zero, i.size, i.bytes)) = some (some (.int .u8 0), 1, 1) := by kernel_rfl
  obtain ⟨i0, hi, hz0, hz1, hz2⟩ := info_parts hinfo
  refine wpList_append_own w hgd s x 22 ho base 5 i0 (.int .u8 0) 1 1 Tryz.underlying22 hi hz0 hz1 hz2 rfl (by decide) v l.length (bv l) hs hown ⟨g, 0, none⟩ 1 1 [.int .u8 (u.toNat : Int)] hx rfl ?_ ?_ ?_ ?_ hbase ?_
  · intro j y hy
    match j, hy with
    | 0, hy =>
      simp at hy; subst hy
      have := hg.cell 0
      simpa [Addr.add] using this
  · intro y hy; simp at hy; subst hy; rfl
  · simp only [maxLen]; omega
  · omega
  · intro v' w' hown' hgr _
    refine h v' w' ?_ hgr
    unfold OwnB
    rw [bv_append, List.length_append]
    exact hown'

end Go.Proofs.YtgcpobondcnjcaaGreatDoor
