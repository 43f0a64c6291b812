/-
  The reference's drawing source: what it answers lies within bounds; its block alone changes.
  No conditions.
-/
import Derived.Test.YtgcpobondcnjcaaGreatDoorConv
import Derived.IntWalk
import Derived.Test.YtgcpobondcnjcaaGreatDoorOpen
namespace Go.Proofs.YtgcpobondcnjcaaGreatDoor
open Go.ChangeShapes Go.WideShapes Go.ChangeAt Go.RowKit Go.Deep

/-- Bytes in a slice. -/
structure Octets (w : World) (B : Nat) (A : Option Addr) (n : Nat) : Prop where
  le : n ≤ 9223372036854775807
  at_ : ∀ j, j < n → ∃ b off x, A = some ⟨b, off, none⟩ ∧ b < B ∧ w.cell? ⟨b, off + j, none⟩ = some (.int .u8 x) ∧ 0 ≤ x ∧ x ≤ 255
theorem Octets.below {w w' : World} {B B' n : Nat} {A : Option Addr} (h : Octets w B A n) (hb : Below B' w w') (hB : B ≤ B') : Octets w' B A n :=
  ⟨h.le, fun j hj => by
    obtain ⟨b, off, x, e, hb', hc, hx⟩ := h.at_ j hj
    exact ⟨b, off, x, e, hb', (hb.cell (p := ⟨b, off + j, none⟩) (by show b < B'; omega)).trans hc, hx⟩⟩
theorem Octets.more {w : World} {B B' n : Nat} {A : Option Addr} (h : Octets w B A n) (hB : B ≤ B') : Octets w B' A n :=
  ⟨h.le, fun j hj => by
    obtain ⟨b, off, x, e, hb', hc, hx⟩ := h.at_ j hj
    exact ⟨b, off, x, e, by omega, hc, hx⟩⟩
/-- All that was there is as it was, but for block g. -/
structure But (g : Nat) (w w' : World) : Prop where
  os : w'.os = w.os
  tape : w'.tape = w.tape
  output : w'.output = w.output
  size : w.heap.size ≤ w'.heap.size
  block : ∀ k, k < w.heap.size → k ≠ g → w'.heap[k]? = w.heap[k]?
section
variable {g : Nat} {a b c w w' : World}
theorem But.refl (g : Nat) (w : World) : But g w w := ⟨rfl, rfl, rfl, Nat.le_refl _, fun _ _ _ => rfl⟩
theorem But.trans (h : But g a b) (k : But g b c) : But g a c :=
  ⟨k.os.trans h.os, k.tape.trans h.tape, k.output.trans h.output, Nat.le_trans h.size k.size, fun i hi hg => (k.block i (Nat.lt_of_lt_of_le hi h.size) hg).trans (h.block i hi hg)⟩
theorem But.set_ (h : But g a b) (i : Nat) (u : Value) : But g a (b.setCell ⟨g, i, none⟩ u) :=
  ⟨h.os, h.tape, h.output, by simpa [World.setCell] using h.size, fun k hk hg => (Below.heap_setCell _ _ _ _ (by exact hg)).trans (h.block k hk hg)⟩
theorem But.drewN (h : But g a b) (n : Nat) : But g a (b.drewN n) := ⟨h.os, h.tape, h.output, h.size, h.block⟩
theorem But.of_below (h : Below a.heap.size a b) : But g a b := ⟨h.os, h.tape, h.output, h.size, fun k hk _ => h.block k hk⟩
theorem But.alloc (h : But g a b) (o : Obj) : But g a (b.alloc o) := h.trans (.of_below ((Below.refl _ _).alloc (Nat.le_refl _) o))
/-- The block is one of the call's own. -/
theorem But.below (h : But g a b) {B : Nat} (hB : B ≤ g) (hs : B ≤ a.heap.size) : Below B a b := ⟨h.os, h.tape, h.output, h.size, fun k hk => h.block k (by omega) (by omega)⟩
theorem Below.but {B : Nat} (h : Below B a b) (k : But g b c) (hB : B ≤ g) (hs : B ≤ b.heap.size) : Below B a c := h.trans (k.below hB hs)
theorem Blk.but {t : TypeId} {f : Nat} {cs : Array Value} (h : Blk w f t cs) (k : But g w w') (hf : f ≠ g) : Blk w' f t cs := (k.block f h.lt hf).trans h
end
/-- A source: its block, and the bytes it reads, which lie below the block. -/
structure Src (w : World) (g : Nat) (A : Option Addr) (n c : Nat) (K : Nat) : Prop where
  blk : ∃ (m : Nat) (q : Int), m ≤ K ∧ Blk w g 75 #[.slice A n c, .int .i64 m, .int .u64 q]
  octets : Octets w g A n
section
variable {w w' : World} {g n c K K' B : Nat} {A : Option Addr}
theorem Src.lt (h : Src w g A n c K) : g < w.heap.size := by obtain ⟨m, q, _, hb⟩ := h.blk; exact hb.lt
theorem Src.on (h : Src w g A n c K) (hb : Below B w w') (hg : g < B) : Src w' g A n c K := by
  obtain ⟨m, q, hm, hk⟩ := h.blk
  exact ⟨⟨m, q, hm, hk.below hb hg⟩, h.octets.below hb (by omega)⟩
theorem Src.up (h : Src w g A n c K) (hK : K ≤ K') : Src w g A n c K' := by
  obtain ⟨m, q, hm, hk⟩ := h.blk
  exact ⟨⟨m, q, by omega, hk⟩, h.octets⟩
end
theorem src_next {w : World} {g n c K m : Nat} {A : Option Addr} {q : Int} (hb : Blk w g 75 #[.slice A n c, .int .i64 m, .int .u64 q]) (ho : Octets w g A n) (hm : m ≤ K) (q' : Int) (k1 k2 : Nat) :
    Src ((((w.drewN k1).setCell ⟨g, 1, none⟩ (.int .i64 ((m : Int) + 1))).setCell ⟨g, 2, none⟩ (.int .u64 q')).drewN k2) g A n c (K + 1) ∧
      But g w ((((w.drewN k1).setCell ⟨g, 1, none⟩ (.int .i64 ((m : Int) + 1))).setCell ⟨g, 2, none⟩ (.int .u64 q')).drewN k2) := by
  have hB := ((((But.refl g w).drewN k1).set_ 1 (.int .i64 ((m : Int) + 1))).set_ 2 (.int .u64 q')).drewN k2
  exact ⟨⟨⟨m + 1, q', by omega, ((hb.drewN k1).set_ 1 (.int .i64 ((m : Int) + 1))).set_ 2 (.int .u64 q')⟩, ho.below (hB.below (Nat.le_refl _) (Nat.le_of_lt hb.lt)) (Nat.le_refl _)⟩, hB⟩
theorem and255 (z : Int) : 0 ≤ wrap64 (bits .and .u64 z 255) ∧ wrap64 (bits .and .u64 z 255) ≤ 255 := by
  have h : 0 ≤ bits .and .u64 z 255 ∧ bits .and .u64 z 255 ≤ 255 := by
    have hle : (BitVec.ofInt IntKind.u64.bits z &&& BitVec.ofInt IntKind.u64.bits 255).toNat ≤ 255 := by
      rw [BitVec.toNat_and]; exact Nat.and_le_right
    have e : bits .and .u64 z 255 = IntKind.u64.wrap ((BitVec.ofInt IntKind.u64.bits z &&& BitVec.ofInt IntKind.u64.bits 255).toNat : Int) := rfl
    rw [e]
    generalize (BitVec.ofInt IntKind.u64.bits z &&& BitVec.ofInt IntKind.u64.bits 255).toNat = y at hle
    have : IntKind.u64.wrap (y : Int) = (y : Int) := by simp [IntKind.wrap, IntKind.signed, IntKind.bits]; omega
    rw [this]; omega
  generalize bits .and .u64 z 255 = y at h
  unfold wrap64
  omega

/-- Bytes in a slice: what a walk is told of such an argument. -/
def OctArg (v : Value) (w : World) : Prop := ∃ A n c, v = .slice A n c ∧ Octets w w.heap.size A n
set_option maxRecDepth 100000 in
theorem argOct {H : Type} {enc : TypeId × Value → H} {w : World} {base b0 : Nat} {spare : Nat → Bool} {held : Bool} {r : Reach} {v : Value} (hv : Value.okWide Tryz.prog w r b0 22 v) {d : DataW H} {p : List MemPlace} (h : DataW.Trod enc Tryz.prog w base spare held 22 v d p) :
    OctArg v w := by
  obtain ⟨A, n, c, rfl⟩ := okWide_slice Tryz.underlying22 hv
  obtain ⟨fuel, hr⟩ := h
  rcases open_ints Tryz.underlying22 Tryz.underlying5 (by kernel_rfl) hr with ⟨hcs, _⟩ | ⟨a, len, cap, zs, hcs, _, hl, hm, hz, _, hcell, hwz⟩
  · simp [Value.cells] at hcs
    obtain ⟨rfl, rfl, rfl⟩ := hcs
    exact ⟨none, 0, 0, rfl, ⟨by omega, fun j hj => absurd hj (by omega)⟩⟩
  · simp [Value.cells] at hcs
    obtain ⟨rfl, rfl, rfl⟩ := hcs
    have hnz : n ≤ zs.length := by rw [hz]; split <;> omega
    unfold maxLen at hm
    refine ⟨_, n, c, rfl, ⟨by omega, fun j hj => ?_⟩⟩
    have h0 := hcell 0 (by omega)
    have hs := World.cell?_spot h0
    have e0 : a.add 0 = a := by simp [Addr.add]
    rw [e0] at hs
    have hb := World.block_lt_of_cell? _ _ h0
    rw [e0] at hb
    obtain ⟨b, off, spot⟩ := a
    simp only at hs
    subst hs
    have hc := hcell j (by omega)
    have ea : (⟨b, off, none⟩ : Addr).add j = ⟨b, off + j, none⟩ := by unfold Addr.add; split <;> simp_all
    rw [ea] at hc
    have hmem : zs.getD j 0 ∈ zs := by rw [List.getD, List.getElem?_eq_getElem (by omega)]; exact List.getElem_mem _
    have hw := hwz _ hmem
    have hw2 : 0 ≤ zs.getD j 0 ∧ zs.getD j 0 ≤ 255 := by simpa [Lit.wf, IntKind.min, IntKind.max, IntKind.signed, IntKind.bits] using hw
    exact ⟨b, off, _, rfl, hb, hc, hw2.1, hw2.2⟩

set_option maxRecDepth 100000 in
theorem next_s (g : Nat) (A : Option Addr) (n c K : Nat) (w : World) (h : Src w g A n c K) (hK : K ≤ 1000000) :
    Calls Tryz.prog 63 #[.pointer (some ⟨g, 0, none⟩)] w fun e w' => ∃ x : Int, e = .returned (.int .i64 x) ∧ 0 ≤ x ∧ x ≤ 255 ∧ Src w' g A n c (K + 1) ∧ But g w w' := by
  obtain ⟨⟨m, q, hm, hblk⟩, hoc⟩ := h
  have HB := Lib.hid hblk
  have hn := hoc.le
  have c0 := hblk.cell 0
  have c1 := hblk.cell 1
  have c2 := hblk.cell 2
  have f1 := hblk.frozen 1
  have f2 := hblk.frozen 2
  simp at c0 c1 c2
  clear hblk
  by_cases hlt : m < n
  · obtain ⟨b, off, x, rfl, hb, hc, hx0, hx1⟩ := hoc.at_ m hlt
    go_enter Tryz.func63, Tryz.ntmps63
    go_wp2_with fail
    go_quiet (fail)
    go_wp2_with fail
    go_quiet (fail)
    go_wp2_with fail
    go_quiet (fail)
    go_wp2
    go_ret
    exact ⟨_, rfl, hx0, hx1, src_next HB.out hoc hm _ _ _⟩
  · go_enter Tryz.func63, Tryz.ntmps63
    go_wp2_with fail
    go_quiet (fail)
    go_wp2_with fail
    go_quiet (fail)
    go_wp2
    go_ret
    exact ⟨_, rfl, (and255 _).1, (and255 _).2, src_next HB.out hoc hm _ _ _⟩

set_option maxRecDepth 100000 in
theorem pick_s (g : Nat) (A : Option Addr) (n c K : Nat) (k : Int) (w : World) (h : Src w g A n c K) (hK : K ≤ 900000) :
    Calls Tryz.prog 29 #[.pointer (some ⟨g, 0, none⟩), .int .i64 k] w fun e w' => ∃ x : Int, e = .returned (.int .i64 x) ∧ 0 ≤ x ∧ (x < k ∨ x = 0) ∧ Src w' g A n c (K + 2) ∧ But g w w' := by
  by_cases h1 : k ≤ 1
  · go_enter Tryz.func29, Tryz.ntmps29
    go_wp2_with fail
    go_ret
    exact ⟨0, rfl, by omega, .inr rfl, h.up (by omega), .refl _ _⟩
  · by_cases h2 : 200 < k
    · go_enter Tryz.func29, Tryz.ntmps29
      go_wp2_with fail
      refine (next_s g A n c K w h (by omega)).mono ?_
      rintro e w1 ⟨x, rfl, hx0, hx1, hs1, hk1⟩
      go_wp2_with fail
      refine (next_s g A n c (K + 1) w1 hs1 (by omega)).mono ?_
      rintro e w2 ⟨y, rfl, hy0, hy1, hs2, hk2⟩
      go_wp2_with fail
      go_ret
      exact ⟨_, rfl, Int.emod_nonneg _ (by omega), .inl (Int.emod_lt_of_pos _ (by omega)), hs2, hk1.trans hk2⟩
    · go_enter Tryz.func29, Tryz.ntmps29
      go_wp2_with fail
      refine (next_s g A n c K w h (by omega)).mono ?_
      rintro e w1 ⟨x, rfl, hx0, hx1, hs1, hk1⟩
      go_wp2_with fail
      go_ret
      exact ⟨_, rfl, Int.emod_nonneg _ (by omega), .inl (Int.emod_lt_of_pos _ (by omega)), hs1.up (by omega), hk1⟩

set_option maxRecDepth 100000 in
theorem one_s (g : Nat) (A : Option Addr) (n c K : Nat) (k : Int) (w : World) (h : Src w g A n c K) (hK : K ≤ 900000) :
    Calls Tryz.prog 30 #[.pointer (some ⟨g, 0, none⟩), .int .i64 k] w fun e w' => ∃ x : Bool, e = .returned (.bool x) ∧ Src w' g A n c (K + 2) ∧ But g w w' := by
  go_enter Tryz.func30, Tryz.ntmps30
  go_wp2_with fail
  refine (pick_s g A n c K k w h hK).mono ?_
  rintro e w1 ⟨x, rfl, hx0, hx1, hs1, hk1⟩
  go_wp2_with fail
  go_ret
  exact ⟨_, rfl, hs1, hk1⟩

set_option maxRecDepth 100000 in
theorem from_s (A : Option Addr) (n c : Nat) (w : World) (h : Octets w w.heap.size A n) :
    Calls Tryz.prog 28 #[.slice A n c] w fun e w' => ∃ g, e = .returned (.pointer (some ⟨g, 0, none⟩)) ∧ w.heap.size ≤ g ∧ Src w' g A n c 0 ∧ Below w.heap.size w w' := by
  go_enter Tryz.func28, Tryz.ntmps28
  go_wp2_with fail
  go_ret
  exact ⟨_, rfl, Nat.le_refl _, ⟨⟨0, 0, by omega, Blk.new w _ _⟩, h.below (balloc (Below.refl _ _) _) (Nat.le_refl _)⟩, balloc (Below.refl _ _) _⟩

end Go.Proofs.YtgcpobondcnjcaaGreatDoor
