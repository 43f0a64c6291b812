/-
  Slices of whole numbers and of structs of whole numbers, read as lists.
  No conditions.
-/
import Derived.Test.YtgcpobondcnjcaaGreatDoorBase
import Derived.Below
import Derived.Laws.OwnMore
import Derived.Deep.AppendLies
import Derived.Deep.Draws
import Derived.Deep.QuietTactic
import Derived.BigQuiet
import Derived.StillTailTactics
import Derived.Deep.Slices
import Derived.Deep.Fields
import Derived.ChangeSame
namespace Go.Proofs.YtgcpobondcnjcaaGreatDoor
open Go.ChangeShapes Go.WideShapes Go.ChangeAt Go.RowKit Go.Deep

theorem block_of_add (a : Addr) (n : Nat) : (a.add n).block = a.block := by unfold Addr.add; split <;> rfl
theorem add_of_add (a : Addr) (i j : Nat) : (a.add i).add j = a.add (i + j) := by
  unfold Addr.add
  by_cases hi : i = 0 <;> by_cases hj : j = 0 <;> simp [hi, hj, Nat.add_assoc]

/-- The slice value '.slice A n c' holds the cells xs, below block B; size cells an element. -/
def Reads (w : World) (B size : Nat) (A : Option Addr) (n : Nat) (xs : List Value) : Prop :=
  xs.length = n * size ∧ (0 < n → ∃ b off, A = some ⟨b, off, none⟩ ∧ b < B ∧ ∀ j u, xs[j]? = some u → w.cell? ⟨b, off + j, none⟩ = some u)

section
variable {w w' : World} {B B' size n : Nat} {A : Option Addr} {xs : List Value}
theorem Reads.none_ : Reads w B size A 0 [] := ⟨by simp, fun h => absurd h (by omega)⟩
theorem Reads.keep (h : Reads w B size A n xs) (hk : ∀ p : Addr, p.block < B → w'.cell? p = w.cell? p) : Reads w' B size A n xs :=
  ⟨h.1, fun hn => by
    obtain ⟨b, off, e, hb, hc⟩ := h.2 hn
    exact ⟨b, off, e, hb, fun j u hu => (hk _ hb).trans (hc j u hu)⟩⟩
theorem Reads.more (h : Reads w B size A n xs) (hB : B ≤ B') : Reads w B' size A n xs :=
  ⟨h.1, fun hn => by
    obtain ⟨b, off, e, hb, hc⟩ := h.2 hn
    exact ⟨b, off, e, by omega, hc⟩⟩
theorem Reads.below (h : Reads w B size A n xs) (hb : Below B w w') : Reads w' B size A n xs := h.keep fun _ hp => hb.cell hp
theorem Reads.belowLe (h : Reads w B size A n xs) (hb : Below B' w w') (hB : B ≤ B') : Reads w' B size A n xs := h.keep fun _ hp => hb.cell (Nat.lt_of_lt_of_le hp hB)
theorem Reads.drew (h : Reads w B size A n xs) : Reads w.drew B size A n xs := h
theorem Reads.drewN (h : Reads w B size A n xs) (k : Nat) : Reads (w.drewN k) B size A n xs := h
theorem Reads.alloc (h : Reads w B size A n xs) (hB : B ≤ w.heap.size) (o : Obj) : Reads (w.alloc o) B size A n xs := h.keep fun p hp => World.cell?_alloc_lt w o p (by omega)
theorem Reads.cut (h : Reads w B size A n xs) {k cap : Nat} (hk : k ≤ n) (hc : n ≤ cap) :
    Reads w B size (if cap = k then A else A.map (·.add (k * size))) (n - k) (xs.drop (k * size)) := by
  refine ⟨by rw [List.length_drop, h.1, Nat.sub_mul], fun hn => ?_⟩
  obtain ⟨b, off, rfl, hb, hcell⟩ := h.2 (by omega)
  rw [if_neg (by omega)]
  refine ⟨b, off + k * size, ?_, hb, fun j u hu => ?_⟩
  · simp only [Option.map_some, Addr.add]; split <;> simp_all
  · rw [Nat.add_assoc]
    exact hcell _ u (by rw [← hu, List.getElem?_drop])
theorem Reads.of_own {base : Nat} {e : TypeId} {c : Nat} (h : w.ownsRow base e size (.slice A n c) n xs) : Reads w w.heap.size size A n xs := by
  refine ⟨h.1, fun hn => ?_⟩
  obtain ⟨g, cap, hv, _, hlt⟩ := h.form hn
  have hA : A = some ⟨g, 0, none⟩ := by injection hv
  subst hA
  refine ⟨_, _, rfl, hlt, fun j u hu => ?_⟩
  have := h.cells (g := g) rfl j u hu
  rw [Nat.zero_add]
  have hadd : (⟨g, 0, none⟩ : Addr).add j = ⟨g, j, none⟩ := by unfold Addr.add; split <;> simp_all
  rwa [hadd] at this
end

theorem quiet_left {P : Program} {f : FuncId} {args : Array Value} {w : World} {n : Nat} {v : Value}
    (h : Calls P f args (w.drewN n) fun e w' => e = .returned v ∧ w.drewN n = w') : Calls P f args (w.drewN n) fun e w'' => e = .returned v ∧ ∃ m, w'' = w.drewN m :=
  h.mono fun _ _ ⟨he, hm⟩ => ⟨he, n, hm.symm⟩
theorem quiet_add_left {P : Program} {f : FuncId} {args : Array Value} {w : World} {a n : Nat} {v : Value}
    (h : Calls P f args (w.drewN (a + n)) fun e w' => e = .returned v ∧ w.drewN (a + n) = w') :
    Calls P f args (w.drewN (a + n)) fun e w'' => e = .returned v ∧ ∃ m, w'' = w.drewN (a + m) :=
  h.mono fun _ _ ⟨he, hm⟩ => ⟨he, n, hm.symm⟩

theorem asV {P : Program} {f : FuncId} {args : Array Value} {w : World} {x b : Bool} (h : Calls P f args w fun e w' => e = .returned (.bool x) ∧ w = w') (he : x = b) :
    Calls P f args w fun e w' => e = .returned (.bool b) ∧ w = w' := by subst he; exact h

theorem balloc {a w : World} (h : Below a.heap.size a w) (o : Obj) : Below a.heap.size a (w.alloc o) := h.alloc h.size o
theorem bdrewN {B : Nat} {a w : World} (h : Below B a w) (n : Nat) : Below B a (w.drewN n) := ⟨h.os, h.tape, h.output, h.size, h.block⟩
theorem bset {a w : World} (h : Below a.heap.size a w) {g i : Nat} (hg : a.heap.size ≤ g) (u : Value) : Below a.heap.size a (w.setCell ⟨g, i, none⟩ u) := h.setCell hg u
theorem btrans {a b c : World} (h : Below a.heap.size a b) (k : Below b.heap.size b c) : Below a.heap.size a c := h.trans (k.mono h.size)

/-- Block g is just the cells cs, none frozen. -/
def Blk (w : World) (g : Nat) (t : TypeId) (cs : Array Value) : Prop := w.heap[g]? = some (.cells cs t (0, 0))
section
variable {w w' : World} {g : Nat} {t : TypeId} {cs : Array Value}
theorem Blk.lt (h : Blk w g t cs) : g < w.heap.size := by
  rcases Nat.lt_or_ge g w.heap.size with hlt | hge
  · exact hlt
  · unfold Blk at h; rw [Array.getElem?_eq_none hge] at h; cases h
theorem Blk.cell (h : Blk w g t cs) (i : Nat) : w.cell? ⟨g, i, none⟩ = cs[i]? := cell_of_row w g i cs t (0, 0) h
theorem Blk.frozen (h : Blk w g t cs) (i : Nat) : w.frozen? ⟨g, i, none⟩ = false := by
  unfold Blk at h
  simp [World.frozen?, h]
theorem Blk.new (w : World) (t : TypeId) (cs : Array Value) : Blk (w.alloc (.cells cs t)) w.heap.size t cs := heap_alloc_new w _
theorem Blk.new1 (w : World) (o : Obj) (t : TypeId) (cs : Array Value) : Blk ((w.alloc o).alloc (.cells cs t)) (w.heap.size + 1) t cs := by
  have := Blk.new (w.alloc o) t cs
  simpa using this
theorem Blk.drewN (h : Blk w g t cs) (n : Nat) : Blk (w.drewN n) g t cs := h
theorem Blk.alloc (h : Blk w g t cs) (o : Obj) : Blk (w.alloc o) g t cs := (Below.heap_alloc w o g h.lt).trans h
theorem Blk.set_ (h : Blk w g t cs) (i : Nat) (u : Value) : Blk (w.setCell ⟨g, i, none⟩ u) g t (cs.setIfInBounds i u) := by
  unfold Blk at h ⊢
  simp [World.setCell, Array.getElem?_modify, h]
theorem Blk.far (h : Blk w g t cs) {p : Addr} (hp : g ≠ p.block) (u : Value) : Blk (w.setCell p u) g t cs := (Below.heap_setCell w p u g hp).trans h
theorem Blk.below {B : Nat} (h : Blk w g t cs) (hb : Below B w w') (hg : g < B) : Blk w' g t cs := (hb.block g hg).trans h
theorem Blk.on (h : Blk w g t cs) (hb : Below w.heap.size w w') : Blk w' g t cs := h.below hb h.lt
theorem Blk.has {L : List Value} (h : Blk w g t L.toArray) (i : Nat) (hi : i < L.length) : ∃ u, w.cell? ⟨g, i, none⟩ = some u :=
  ⟨L[i], by rw [h.cell]; simp [hi]⟩
theorem Blk.own {base e n size : Nat} {L : List Value} (h : Blk w g e L.toArray) (hb : base ≤ g) (hn : n ≤ maxLen) (hl : L.length = n * size) :
    w.ownsRow base e size (.slice (some ⟨g, 0, none⟩) n n) n L :=
  ⟨hl, .inr ⟨g, n, L.toArray, rfl, hb, h, Nat.le_refl _, hn, by simpa using hl, by simp [← hl]⟩⟩
theorem Blk.reads {k n : Nat} {L : List Value} (h : Blk w g t L.toArray) (hl : L.length = n * k) (c : Nat) (hc : w.heap.size ≤ c) : Reads w c k (some ⟨g, 0, none⟩) n L :=
  ⟨hl, fun _ => ⟨g, 0, rfl, Nat.lt_of_lt_of_le h.lt hc, fun j u hu => by rw [Nat.zero_add, h.cell]; simpa using hu⟩⟩
end

/-- make([]T, n), T of any number of cells, each zero cell the same. -/
theorem run_make_all {P : Program} (t e : TypeId) (z : Value) (u : Value) (size bytes : Nat) (ht : P.underlying t = some (.slice e)) (hinfo : (P.info? e).map (fun i => (i.zero, i.size, i.bytes)) = some (some z, size, bytes))
    (hz : z.cells = (List.replicate size u).toArray) (hs : 0 < size) (kl kc : IntKind) (n : Nat) (hbytes : bytes * n ≤ 281474976710656) (h63 : n ≤ 9223372036854775807) (w : World) :
    (Instr.makeSlice t (.int kl (n : Int)) (.int kc (n : Int))).run P w = .ok (.slice (some ⟨w.heap.size, 0, none⟩) n n) (w.alloc (.cells (List.replicate (n * size) u).toArray e)) := by
  obtain ⟨i, hi, h0, h1, h2⟩ := info_parts hinfo
  subst h1 h2
  have hb : (i.bytes : Int) * (n : Int) ≤ 281474976710656 := by
    have h : ((i.bytes * n : Nat) : Int) ≤ 281474976710656 := by omega
    rwa [Int.natCast_mul] at h
  have hr := run_make (P := P) w t e i z ht hi h0 kl kc n n (by omega) (Int.le_refl _) hb (by omega)
  simp only [Int.toNat_natCast] at hr
  rw [hr]
  congr 4
  apply Array.ext
  · simp [size_madeCells]
  · intro j h3 h4
    have hm : j % i.size < i.size := Nat.mod_lt _ hs
    simp [madeCells, hz, hm]

/-- Whole numbers as values. -/
def iv (zs : List Int) : List Value := zs.map (Value.int .i64)
/-- The number at place j. -/
def gi (zs : List Int) (j : Nat) : Int := zs.getD j 0
theorem gi_eq (zs : List Int) (j : Nat) : gi zs j = zs.getD j 0 := rfl
theorem iv_length (zs : List Int) : (iv zs).length = zs.length := by simp [iv]
theorem iv_get (zs : List Int) (j : Nat) (h : j < zs.length) : (iv zs)[j]? = some (.int .i64 (gi zs j)) := by
  simp [iv, gi, List.getD, List.getElem?_eq_getElem h]
theorem iv_append (a b : List Int) : iv (a ++ b) = iv a ++ iv b := by simp [iv]
/-- The slice '.slice A n c' holds the numbers zs, k an element; each is a number of 64 bits. -/
structure Ints (w : World) (B k : Nat) (A : Option Addr) (n : Nat) (zs : List Int) : Prop where
  reads : Reads w B k A n (iv zs)
  wf : ∀ z ∈ zs, -9223372036854775808 ≤ z ∧ z ≤ 9223372036854775807
section
variable {w w' : World} {B B' k n : Nat} {A : Option Addr} {zs : List Int}
theorem Ints.length (h : Ints w B k A n zs) : zs.length = n * k := by have := h.reads.1; rwa [iv_length] at this
theorem Ints.below (h : Ints w B k A n zs) (hb : Below B' w w') (hB : B ≤ B') : Ints w' B k A n zs := ⟨h.reads.belowLe hb hB, h.wf⟩
theorem Ints.drewN (h : Ints w w.heap.size k A n zs) (m : Nat) : Ints (w.drewN m) (w.drewN m).heap.size k A n zs := ⟨h.reads, h.wf⟩
theorem Ints.more (h : Ints w B k A n zs) (hB : B ≤ B') : Ints w B' k A n zs := ⟨h.reads.more hB, h.wf⟩
theorem Ints.bd (h : Ints w B k A n zs) (j : Nat) : -9223372036854775808 ≤ gi zs j ∧ gi zs j ≤ 9223372036854775807 := by
  by_cases hj : j < zs.length
  · have : gi zs j ∈ zs := by
      rw [gi, List.getD, List.getElem?_eq_getElem hj]; exact List.getElem_mem hj
    exact h.wf _ this
  · rw [gi, List.getD, List.getElem?_eq_none (by omega)]; simp
theorem Ints.at_ (h : Ints w B k A n zs) (hn : 0 < n) : ∃ b off, A = some ⟨b, off, none⟩ ∧ b < B ∧ ∀ j, j < n * k → w.cell? ⟨b, off + j, none⟩ = some (.int .i64 (gi zs j)) := by
  obtain ⟨b, off, e, hb, hc⟩ := h.reads.2 hn
  exact ⟨b, off, e, hb, fun j hj => hc j _ (iv_get zs j (by rw [h.length]; exact hj))⟩
end

section
variable {w w' : World} {B B' k n i : Nat} {A : Option Addr} {zs : List Int}
theorem Ints.at1 (h : Ints w B 1 A n zs) (hi : i < n) : ∃ b off, A = some ⟨b, off, none⟩ ∧ b < B ∧ w.cell? ⟨b, off + i, none⟩ = some (.int .i64 (gi zs i)) := by
  obtain ⟨b, off, e, hb, hc⟩ := h.at_ (by omega)
  exact ⟨b, off, e, hb, hc _ (by omega)⟩
theorem Ints.at2 (h : Ints w B 2 A n zs) (hi : i < n) : ∃ b off, A = some ⟨b, off, none⟩ ∧ b < B ∧ w.cell? ⟨b, off + i * 2, none⟩ = some (.int .i64 (gi zs (i * 2))) ∧
    w.cell? ⟨b, off + i * 2 + 1, none⟩ = some (.int .i64 (gi zs (i * 2 + 1))) := by
  obtain ⟨b, off, e, hb, hc⟩ := h.at_ (by omega)
  exact ⟨b, off, e, hb, hc _ (by omega), by rw [Nat.add_assoc]; exact hc _ (by omega)⟩
theorem Ints.at3 (h : Ints w B 3 A n zs) (hi : i < n) : ∃ b off, A = some ⟨b, off, none⟩ ∧ b < B ∧ w.cell? ⟨b, off + i * 3, none⟩ = some (.int .i64 (gi zs (i * 3))) ∧
    w.cell? ⟨b, off + i * 3 + 1, none⟩ = some (.int .i64 (gi zs (i * 3 + 1))) ∧ w.cell? ⟨b, off + i * 3 + 2, none⟩ = some (.int .i64 (gi zs (i * 3 + 2))) := by
  obtain ⟨b, off, e, hb, hc⟩ := h.at_ (by omega)
  exact ⟨b, off, e, hb, hc _ (by omega), by rw [Nat.add_assoc]; exact hc _ (by omega), by rw [Nat.add_assoc]; exact hc _ (by omega)⟩
theorem Ints.at4 (h : Ints w B 4 A n zs) (hi : i < n) : ∃ b off, A = some ⟨b, off, none⟩ ∧ b < B ∧ w.cell? ⟨b, off + i * 4, none⟩ = some (.int .i64 (gi zs (i * 4))) ∧
    w.cell? ⟨b, off + i * 4 + 1, none⟩ = some (.int .i64 (gi zs (i * 4 + 1))) ∧ w.cell? ⟨b, off + i * 4 + 2, none⟩ = some (.int .i64 (gi zs (i * 4 + 2))) ∧
    w.cell? ⟨b, off + i * 4 + 3, none⟩ = some (.int .i64 (gi zs (i * 4 + 3))) := by
  obtain ⟨b, off, e, hb, hc⟩ := h.at_ (by omega)
  exact ⟨b, off, e, hb, hc _ (by omega), by rw [Nat.add_assoc]; exact hc _ (by omega), by rw [Nat.add_assoc]; exact hc _ (by omega), by rw [Nat.add_assoc]; exact hc _ (by omega)⟩
theorem Blk.ints {t : TypeId} {g : Nat} (h : Blk w g t (iv zs).toArray) (hl : zs.length = n * k) (hw : ∀ z ∈ zs, -9223372036854775808 ≤ z ∧ z ≤ 9223372036854775807) : Ints w w.heap.size k (some ⟨g, 0, none⟩) n zs :=
  ⟨h.reads (by rw [iv_length]; exact hl) _ (Nat.le_refl _), hw⟩
end

theorem iv_set (zs : List Int) (m r : Nat) (h : m < zs.length) : (iv (zs.take m ++ List.replicate (r + 1) 0)).set m (.int .i64 (gi zs m)) = iv (zs.take (m + 1) ++ List.replicate r 0) := by
  have hl : (zs.take m).length = m := by simp; omega
  rw [List.take_succ_eq_append_getElem h, List.replicate_succ]
  unfold iv
  simp only [List.map_append, List.map_cons, List.map_nil]
  rw [List.set_append_right _ _ (by simp; omega)]
  have e : m - (List.map (Value.int IntKind.i64) (List.take m zs)).length = 0 := by rw [List.length_map]; omega
  rw [e]
  simp only [List.set_cons_zero, List.append_assoc, List.cons_append, List.nil_append, gi, List.getD, List.getElem?_eq_getElem h, Option.getD_some]

end Go.Proofs.YtgcpobondcnjcaaGreatDoor
