/-
  Bundles drawn: a slice of the call's own; girths, thicknesses drawn.
  No conditions.
-/
import Derived.Test.YtgcpobondcnjcaaGreatDoorSrc
import Derived.OwnWalk
namespace Go.Proofs.YtgcpobondcnjcaaGreatDoor
open Go.ChangeShapes Go.WideShapes Go.ChangeAt Go.RowKit Go.Deep
set_option linter.unusedVariables false

theorem gi_memD (zs : List Int) (j : Nat) (h : j < zs.length) : gi zs j ∈ zs := by
  rw [gi, List.getD, List.getElem?_eq_getElem h]; exact List.getElem_mem h
theorem But.far {g : Nat} {a b : World} (h : But g a b) {p : Addr} (hp : a.heap.size ≤ p.block) (u : Value) : But g a (b.setCell p u) :=
  ⟨h.os, h.tape, h.output, by simpa [World.setCell] using h.size, fun k hk hg => (Below.heap_setCell _ _ _ _ (by omega)).trans (h.block k hk hg)⟩
theorem But.grown {g : Nat} {a b b' : World} {row : Option Nat} (h : But g a b) (hg : b.grownBy b' row) (hr : ∀ k, row = some k → a.heap.size ≤ k) : But g a b' :=
  ⟨hg.os.trans h.os, hg.tape.trans h.tape, hg.output.trans h.output, Nat.le_trans h.size hg.size, fun k hk hne => (hg.block k (Nat.lt_of_lt_of_le hk h.size) (fun e => by have := hr k e.symm; omega)).trans (h.block k hk hne)⟩
theorem own_but {w w' : World} {g base k n : Nat} {e : TypeId} {v : Value} {xs : List Value} (h : w.ownsRow base e k v n xs) (hb : But g w w') (hg : g < base) : w'.ownsRow base e k v n xs :=
  World.ownsRow.kept (row := some g) h ⟨hb.os, hb.tape, hb.output, hb.size, fun i hi hne => hb.block i hi (fun e => hne (by rw [e]))⟩ (by
    rcases hv : v.ownBlock with _ | q
    · exact .inl rfl
    · refine .inr fun he => ?_
      have := (World.ownsRow.lt h q hv).1
      injection he with he
      omega)
theorem size_setCell (w : World) (p : Addr) (u : Value) : (w.setCell p u).heap.size = w.heap.size := by simp [World.setCell]
theorem add_zero_addr (g j : Nat) : (⟨g, 0, none⟩ : Addr).add j = ⟨g, j, none⟩ := by unfold Addr.add; split <;> simp_all

set_option maxRecDepth 100000 in
theorem among_s (g : Nat) (A : Option Addr) (n c K : Nat) (b L : Nat) (zs : List Int) (w : World) (h : Src w g A n c K) (hK : K ≤ 900000) (hb : Blk w b 2 (iv zs).toArray) (hne : b ≠ g) (hL : zs.length = L) (h0 : 0 < L) (h1 : L ≤ 1000) :
    Calls Tryz.prog 31 #[.pointer (some ⟨g, 0, none⟩), .slice (some ⟨b, 0, none⟩) L L] w fun e w' => ∃ x, e = .returned (.int .i64 x) ∧ x ∈ zs ∧ Src w' g A n c (K + 2) ∧ But g w w' := by
  have HL := Lib.hid hL
  clear hL
  go_enter Tryz.func31, Tryz.ntmps31
  go_wp2_with fail
  refine (pick_s g A n c K L w h hK).mono ?_
  rintro e w1 ⟨x, rfl, hx0, hx1, hs1, hk1⟩
  obtain ⟨k, rfl⟩ : ∃ k : Nat, x = k := ⟨x.toNat, by omega⟩
  have hlt : k < L := by omega
  have hc := (hb.but hk1 hne).cell k
  rw [List.getElem?_toArray, iv_get zs k (by rw [HL.out]; exact hlt)] at hc
  go_wp2
  go_ret
  exact ⟨_, rfl, gi_memD _ _ (by rw [HL.out]; exact hlt), hs1, hk1⟩
set_option maxRecDepth 100000 in
theorem draw_thick (g : Nat) (A : Option Addr) (n c K : Nat) (w : World) (h : Src w g A n c K) (hK : K ≤ 800000) :
    Calls Tryz.prog 32 #[.pointer (some ⟨g, 0, none⟩)] w fun e w' => ∃ x : Int, e = .returned (.int .i64 x) ∧ -1 ≤ x ∧ x ≤ 301 ∧ Src w' g A n c (K + 4) ∧ But g w w' := by
  go_enter Tryz.func32, Tryz.ntmps32
  go_wp2_with fail
  refine (one_s g A n c K 8 w h (by omega)).mono ?_
  rintro e w1 ⟨x, rfl, hs1, hk1⟩
  have hlt := hs1.lt
  rcases x with _ | _
  · go_wp2_with fail
    refine (pick_s g A n c _ 90 w1 hs1 (by omega)).mono ?_
    rintro e w2 ⟨x, rfl, hx0, hx1, hs2, hk2⟩
    go_wp2
    go_ret
    exact ⟨_, rfl, by omega, by omega, hs2, hk1.trans hk2⟩
  · go_wp2_with fail
    refine (among_s g A n c _ w1.heap.size 5 [-1, 0, 1, 300, 301] _ (hs1.on (balloc (Below.refl _ _) _) hlt) (by omega) (Blk.new _ _ _) (by omega) rfl (by omega) (by omega)).mono ?_
    rintro e w2 ⟨x, rfl, hx, hs2, hk2⟩
    simp only [List.mem_cons, List.not_mem_nil, or_false] at hx
    go_wp2
    go_ret
    exact ⟨_, rfl, by omega, by omega, hs2, (hk1.alloc _).trans hk2⟩
set_option maxRecDepth 100000 in
theorem newB_s (g : Nat) (A : Option Addr) (n c K : Nat) (w : World) (h : Src w g A n c K) (hK : K ≤ 800000) :
    Calls Tryz.prog 55 #[.pointer (some ⟨g, 0, none⟩)] w fun e w' => ∃ x y z : Int, e = .returned (.agg #[.int .i64 x, .int .i64 y, .int .i64 z]) ∧ (0 ≤ x ∧ x ≤ 5000 ∧ 0 ≤ y ∧ y ≤ 5000 ∧ 0 ≤ z ∧ z ≤ 5000) ∧ Src w' g A n c (K + 6) ∧ But g w w' := by
  have hlt := h.lt
  have hR := Blk.new w 40 #[.int .i64 0, .int .i64 0, .int .i64 0]
  go_enter Tryz.func55, Tryz.ntmps55
  go_wp2_with fail
  refine (among_s g A n c K (w.heap.size + 1) 3 [900, 1200, 1500] _ (h.on (balloc (balloc (Below.refl _ _) _) _) hlt) (by omega) (Blk.new1 _ _ _ _) (by omega) rfl (by omega) (by omega)).mono ?_
  rintro e w1 ⟨x, rfl, hx, hs1, hk1⟩
  simp only [List.mem_cons, List.not_mem_nil, or_false] at hx
  have hx0 : 0 ≤ x := by omega
  have hx1 : x ≤ 1500 := by omega
  clear hx
  have hR1 := (hR.alloc (.cells #[.int .i64 900, .int .i64 1200, .int .i64 1500] 2)).but hk1 (by omega)
  go_wp2_with fail
  refine (pick_s g A n c _ 60 w1 hs1 (by omega)).mono ?_
  rintro e w2 ⟨y, rfl, hy0, hy1, hs2, hk2⟩
  have hlt2 := hs2.lt
  have hR2 := hR1.but hk2 (by omega)
  go_wp2_with fail
  refine (pick_s g A n c _ 30 _ (hs2.on (balloc (Below.refl _ _) _) hlt2) (by omega)).mono ?_
  rintro e w3 ⟨z, rfl, hz0, hz1, hs3, hk3⟩
  have hsz := hk3.size
  simp only [World.size_alloc] at hsz
  have hwz : w.heap.size < w2.heap.size := by have h1 := hk1.size; have h2 := hk2.size; simp only [World.size_alloc] at h1; omega
  have X := (Blk.new w2 40 #[.int .i64 x, .int .i64 (300 + 10 * y), .int .i64 0]).but hk3 (by omega)
  have Xl := X.lt
  have Xc0 := X.cell 0
  have Xf0 := X.frozen 0
  have Xc1 := X.cell 1
  have Xf1 := X.frozen 1
  have Xc2 := X.cell 2
  have Xf2 := X.frozen 2
  simp at Xc0 Xc1 Xc2
  have XH := Lib.hid X
  clear X
  have R := ((hR2.alloc (.cells #[.int .i64 x, .int .i64 (300 + 10 * y), .int .i64 0] 40)).but hk3 (by omega))
  have Rl := R.lt
  have Rc0 := R.cell 0
  have Rf0 := R.frozen 0
  have Rc1 := R.cell 1
  have Rf1 := R.frozen 1
  have Rc2 := R.cell 2
  have Rf2 := R.frozen 2
  simp at Rc0 Rc1 Rc2
  have RH := Lib.hid R
  clear R
  go_wp2_with fail
  refine bodyPost_ret (v := .agg #[.int .i64 x, .int .i64 (300 + 10 * y), .int .i64 (500 + 100 * z)]) (by simp [results, Tryz.results55, go_sem, Rc0, Rc1, Rc2]) rfl ⟨x, 300 + 10 * y, 500 + 100 * z, rfl, by omega, ?_, ?_⟩
  · exact hs3.on (((((Below.refl w.heap.size w3).setCell (p := ⟨w2.heap.size, 2, none⟩) (by show w.heap.size ≤ w2.heap.size; omega) _).setCell (p := ⟨w.heap.size, 0, none⟩) (Nat.le_refl _) _).setCell (p := ⟨w.heap.size, 1, none⟩) (Nat.le_refl _) _).setCell (p := ⟨w.heap.size, 2, none⟩) (Nat.le_refl _) _) hlt
  · exact ((((((((((But.refl g w).alloc _).alloc _).trans hk1).trans hk2).alloc _).trans hk3).far (p := ⟨w2.heap.size, 2, none⟩) (by show w.heap.size ≤ w2.heap.size; omega) _).far (p := ⟨w.heap.size, 0, none⟩) (Nat.le_refl _) _).far (p := ⟨w.heap.size, 1, none⟩) (Nat.le_refl _) _).far (p := ⟨w.heap.size, 2, none⟩) (Nat.le_refl _) _
theorem setB_mem {zs : List Int} {i : Nat} {u : Int} (hz : ∀ z ∈ zs, -9223372036854775808 ≤ z ∧ z ≤ 9223372036854775807) (hu : -9223372036854775808 ≤ u ∧ u ≤ 9223372036854775807) : ∀ z ∈ zs.set i u, -9223372036854775808 ≤ z ∧ z ≤ 9223372036854775807 := by
  intro z h
  rcases List.mem_or_eq_of_mem_set h with h | h
  · exact hz z h
  · subst h; exact hu
/-- A store into a row of the call's own. -/
theorem own_set {w : World} {base g n cap k : Nat} {e : TypeId} {zs : List Int} (h : w.ownsRow base e k (.slice (some ⟨g, 0, none⟩) n cap) n (iv zs)) (i : Nat) (u : Int) (hi : i < zs.length) :
    (w.setCell ⟨g, i, none⟩ (.int .i64 u)).ownsRow base e k (.slice (some ⟨g, 0, none⟩) n cap) n (iv (zs.set i u)) := by
  refine ⟨by rw [iv_length, List.length_set, ← iv_length]; exact h.1, ?_⟩
  rcases h.2 with ⟨h1, _⟩ | ⟨g', cap', cur, h1, hb, hg, hc, hm, hs, ht⟩
  · cases h1
  simp only [Value.slice.injEq, Option.some.injEq, Addr.mk.injEq, and_true, true_and] at h1
  obtain ⟨rfl, rfl⟩ := h1
  refine .inr ⟨g, cap, cur.setIfInBounds i (.int .i64 u), rfl, hb, Blk.set_ hg i _, hc, hm, by simpa using hs, ?_⟩
  rw [Array.toList_setIfInBounds, List.take_set, ht]
  unfold iv
  rw [List.map_set]
theorem own_cellD {w : World} {base : Nat} {e : TypeId} {K g n cap : Nat} {L : List Value} (h : w.ownsRow base e K (.slice (some ⟨g, 0, none⟩) n cap) n L) (j : Nat) (hj : j < n * K) : ∃ u, w.cell? ⟨g, j, none⟩ = some u := by
  refine ⟨L[j]'(by rw [h.1]; exact hj), ?_⟩
  rw [h.cellAt j hj]; simp [h.1, hj]
theorem own_frozen {w : World} {base g n cap k : Nat} {e : TypeId} {L : List Value} (h : w.ownsRow base e k (.slice (some ⟨g, 0, none⟩) n cap) n L) (j : Nat) : w.frozen? ⟨g, j, none⟩ = false := by
  rcases h.2 with ⟨h1, _⟩ | ⟨g', cap', cur, h1, hb, hg, _⟩
  · cases h1
  simp only [Value.slice.injEq, Option.some.injEq, Addr.mk.injEq, and_true, true_and] at h1
  obtain ⟨rfl, rfl⟩ := h1
  exact Blk.frozen hg j
set_option maxRecDepth 100000 in
theorem spoil_s (g : Nat) (A : Option Addr) (n c K : Nat) (q cap m base : Nat) (zs : List Int) (w : World) (h : Src w g A n c K) (hK : K ≤ 800000) (hg : g < base) (ho : w.ownsRow base 40 3 (.slice (some ⟨q, 0, none⟩) m cap) m (iv zs)) (hm : 1 ≤ m) :
    Calls Tryz.prog 56 #[.pointer (some ⟨g, 0, none⟩), .pointer (some ⟨q, 0, none⟩)] w fun e w' => ∃ (i : Nat) (u : Int) (w1 : World), e = .returned (.tuple #[]) ∧ i < 3 ∧ -9223372036854775808 ≤ u ∧ u ≤ 9223372036854775807 ∧ But g w w1 ∧ Src w1 g A n c (K + 4) ∧ w' = w1.setCell ⟨q, i, none⟩ (.int .i64 u) := by
  have hqb := World.ownsRow.lt ho q rfl
  have HO := Lib.hid ho
  clear ho
  go_enter Tryz.func56, Tryz.ntmps56
  go_wp2_with fail
  refine (pick_s g A n c K 3 w h (by omega)).mono ?_
  rintro e w1 ⟨x, rfl, hx0, hx1, hs1, hk1⟩
  have hlt := hs1.lt
  have hx : x = 0 ∨ x = 1 ∨ x = 2 := by omega
  clear hx0 hx1
  rcases hx with rfl | rfl | rfl
  · go_wp2_with fail
    refine (among_s g A n c _ w1.heap.size 5 [-1, 99, 100, 3000, 3001] _ (hs1.on (balloc (Below.refl _ _) _) hlt) (by omega) (Blk.new _ _ _) (by omega) rfl (by omega) (by omega)).mono ?_
    rintro e w2 ⟨x, rfl, hx, hs2, hk2⟩
    simp only [List.mem_cons, List.not_mem_nil, or_false] at hx
    have hB := (hk1.alloc (.cells (iv [-1, 99, 100, 3000, 3001]).toArray 2)).trans hk2
    have ho2 := own_but HO.out hB hg
    obtain ⟨u0, d0⟩ := own_cellD ho2 0 (by omega)
    have f0 := own_frozen ho2 0
    have hx2 : -9223372036854775808 ≤ x ∧ x ≤ 9223372036854775807 := by omega
    clear hx ho2
    go_wp2
    go_end0
    exact ⟨0, x, w2, rfl, by omega, hx2.1, hx2.2, hB, hs2, rfl⟩
  · go_wp2_with fail
    refine (among_s g A n c _ w1.heap.size 6 [-1, 9, 10, 2000, 2001, -9223372036854775808] _ (hs1.on (balloc (Below.refl _ _) _) hlt) (by omega) (Blk.new _ _ _) (by omega) rfl (by omega) (by omega)).mono ?_
    rintro e w2 ⟨x, rfl, hx, hs2, hk2⟩
    simp only [List.mem_cons, List.not_mem_nil, or_false] at hx
    have hB := (hk1.alloc (.cells (iv [-1, 9, 10, 2000, 2001, -9223372036854775808]).toArray 2)).trans hk2
    have ho2 := own_but HO.out hB hg
    obtain ⟨u0, d0⟩ := own_cellD ho2 1 (by omega)
    have f0 := own_frozen ho2 1
    have hx2 : -9223372036854775808 ≤ x ∧ x ≤ 9223372036854775807 := by omega
    clear hx ho2
    go_wp2
    go_end0
    exact ⟨1, x, w2, rfl, by omega, hx2.1, hx2.2, hB, hs2, rfl⟩
  · go_wp2_with fail
    refine (among_s g A n c _ w1.heap.size 5 [-1, 0, 1, 50000, 50001] _ (hs1.on (balloc (Below.refl _ _) _) hlt) (by omega) (Blk.new _ _ _) (by omega) rfl (by omega) (by omega)).mono ?_
    rintro e w2 ⟨x, rfl, hx, hs2, hk2⟩
    simp only [List.mem_cons, List.not_mem_nil, or_false] at hx
    have hB := (hk1.alloc (.cells (iv [-1, 0, 1, 50000, 50001]).toArray 2)).trans hk2
    have ho2 := own_but HO.out hB hg
    obtain ⟨u0, d0⟩ := own_cellD ho2 2 (by omega)
    have f0 := own_frozen ho2 2
    have hx2 : -9223372036854775808 ≤ x ∧ x ≤ 9223372036854775807 := by omega
    clear hx ho2
    go_wp2
    go_end0
    exact ⟨2, x, w2, rfl, by omega, hx2.1, hx2.2, hB, hs2, rfl⟩
/-- Drawn bundles in a slice of the call's own. -/
structure DrawnB (w : World) (base : Nat) (v : Value) (n : Nat) (zs : List Int) : Prop where
  own : w.ownsRow base 40 3 v n (iv zs)
  wf : ∀ z ∈ zs, -9223372036854775808 ≤ z ∧ z ≤ 9223372036854775807
theorem DrawnB.ints {w : World} {base m : Nat} {v : Value} {zs : List Int} (h : DrawnB w base v m zs) : ∃ A c, v = .slice A m c ∧ Ints w w.heap.size 3 A m zs := by
  have hl : zs.length = m * 3 := by have := h.own.1; rwa [iv_length] at this
  rcases h.own.2 with ⟨rfl, h0⟩ | ⟨g, cap, cur, rfl, h1⟩
  · subst h0
    obtain rfl : zs = [] := List.eq_nil_of_length_eq_zero (by omega)
    exact ⟨none, 0, rfl, ⟨Reads.none_, by simp⟩⟩
  · exact ⟨_, cap, rfl, ⟨Reads.of_own h.own, h.wf⟩⟩
theorem DrawnB.less {w : World} {base b' m : Nat} {v : Value} {zs : List Int} (h : DrawnB w base v m zs) (hb : b' ≤ base) : DrawnB w b' v m zs := by
  refine ⟨⟨h.own.1, ?_⟩, h.wf⟩
  rcases h.own.2 with h1 | ⟨q, cap, cur, e1, e2, r⟩
  · exact .inl h1
  · exact .inr ⟨q, cap, cur, e1, Nat.le_trans hb e2, r⟩
set_option maxRecDepth 100000 in
theorem append_bunch {w : World} {ops : Array Oper} {rest : List Oper} {o : Oper} {a : Act} {Q : Exit → Act → World → Prop} (hgd : o.guard = none) (s x : Operand)
    (ho : o.op = .call { callee := .builtin .append, args := #[s, x], argTypes := #[27, 27] })
    (base : Nat) (v : Value) (n : Nat) (zs : List Int) (hs : a.eval s = v) (hown : w.ownsRow base 40 3 v n (iv zs)) (us : List Int) (hu : us.length = 3) (g : Nat) (hx : a.eval x = .slice (some ⟨g, 0, none⟩) 1 1) (hg : Blk w g 40 (iv us).toArray)
    (hn : n ≤ 1048576) (hbase : base ≤ w.heap.size)
    (h : ∀ v' w', w'.ownsRow base 40 3 v' (n + 1) (iv (zs ++ us)) → w.grownBy w' v.ownBlock → wpList Tryz.prog ops Q rest (a.put o.dst v') w') : wpList Tryz.prog ops Q (o :: rest) a w := by
  have hinfo : (Tryz.prog.info? 40).map (fun i => (i.zero, i.size, i.bytes)) = some (some (.agg #[.int .i64 0, .int .i64 0, .int .i64 0]), 3, 24) := by kernel_rfl
  obtain ⟨i0, hi, hz0, hz1, hz2⟩ := info_parts hinfo
  refine wpList_append_own w hgd s x 27 ho base 40 i0 _ 3 24 Tryz.underlying27 hi hz0 hz1 hz2 rfl (by decide) v n (iv zs) hs hown ⟨g, 0, none⟩ 1 1 (iv us) hx (by rw [iv_length, hu]) ?_ ?_ ?_ ?_ hbase ?_
  · intro j y hy
    have := hg.cell j
    rw [add_zero_addr, this]
    simpa using hy
  · intro y hy
    simp only [iv, List.mem_map] at hy
    obtain ⟨z, _, rfl⟩ := hy
    rfl
  · simp only [maxLen]; omega
  · omega
  · intro v' w' hown' hgr _
    refine h v' w' ?_ hgr
    rw [iv_append]
    exact hown'
/-- How many bundles: one of these. -/
def howMany (x : Int) : Prop := 0 ≤ x ∧ x ≤ 31
set_option maxRecDepth 100000 in
set_option maxHeartbeats 2000000 in
theorem drawB_s (g : Nat) (A : Option Addr) (n c K : Nat) (w : World) (h : Src w g A n c K) (hK : K ≤ 10) :
    Calls Tryz.prog 39 #[.pointer (some ⟨g, 0, none⟩)] w fun e w' => ∃ (v : Value) (m : Nat) (zs : List Int), e = .returned v ∧ m ≤ 31 ∧ DrawnB w' w.heap.size v m zs ∧ Src w' g A n c (K + 1000) ∧ But g w w' := by
  have hlt := h.lt
  go_enter Tryz.func39, Tryz.ntmps39
  go_wp2_with fail
  refine (pick_s g A n c K 8 _ (h.on (balloc (Below.refl _ _) _) hlt) (by omega)).mono ?_
  rintro e w1 ⟨x, rfl, hx0, hx1, hs1, hk1⟩
  go_wp2_with fail
  refine (one_s g A n c _ 16 _ hs1 (by omega)).mono ?_
  rintro e w2 ⟨y, rfl, hs2, hk2⟩
  have hlt2 := hs2.lt
  have hk2' : But g w w2 := (((But.refl g w).alloc _).trans hk1).trans hk2
  have ho2 := own_but (World.ownsRow_lit (base := w.heap.size) (e := 40) (size := 3) (w := w) #[] 0 (Nat.le_refl _) (by simp [maxLen]) rfl) (hk1.trans hk2) hlt
  rcases y with _ | _
  case false =>
    obtain ⟨z, rfl⟩ : ∃ z, z = x := ⟨_, rfl⟩
    obtain ⟨wz, rfl⟩ : ∃ wz, wz = w2 := ⟨_, rfl⟩
    have hz0 := hx0
    have hz1 : z ≤ 31 := by omega
    have hsz := hs2
    have hkz := hk2'
    have hoz := ho2
    have hltz := hsz.lt
    have HO := Lib.hid hoz
    clear hx0 hx1 hk1 hk2 hk2' hs1 hs2 ho2 hoz hlt2
    go_wp2_with fail
    go_loopw [3, 5] (fun s i wr => ∃ (k m : Nat) (zs : List Int), Hid (m + k = z.toNat) ∧ m + k ≤ 31 ∧ i = .int .i64 k ∧ DrawnB wr w.heap.size s m zs ∧ Src wr g A n c (K + 6 + 6 * m) ∧ But g w wr) (fun _ i _ => (intOf i).toNat)
    case atStart => exact ⟨z.toNat, 0, [], (by show _ = _; omega), by omega, by rw [show ((z.toNat : Nat) : Int) = z by omega], ⟨HO.out, by simp⟩, hsz.up (by omega), hkz⟩
    case round =>
      obtain ⟨k, m, zs, HM, hm, rfl, hd, hs, hb⟩ := hrel
      by_cases hlt0 : 0 < k
      · skip
        go_wp2_with fail
        refine (newB_s g A n c _ _ hs (by omega)).mono ?_
        rintro e w3 ⟨b1, b2, b3, rfl, hbd, hs3, hk3⟩
        have HOW := own_but hd.own hk3 h.lt
        have hbs := Nat.le_trans hb.size hk3.size
        go_wp2_with (at_builtin; refine append_bunch rfl (.tmp 19) (.tmp 22) rfl w.heap.size _ m zs rfl (World.ownsRow.alloc HOW _) [b1, b2, b3] rfl _ rfl (Blk.new _ _ _) (by omega) (by simp; omega) ?_; intro v1 w6 hown1 hgr1)
        have hrow : ∀ q, Value.ownBlock _ = some q → w.heap.size ≤ q := fun q hq => (World.ownsRow.lt hd.own q hq).1
        refine ⟨⟨k - 1, m + 1, zs ++ [b1, b2, b3], (by have := HM.out; show _ = _; omega), by omega, by rw [show ((k - 1 : Nat) : Int) = (k : Int) - 1 by omega], ⟨hown1, ?_⟩, ?_, ?_⟩, by simp [intOf]; omega⟩
        · intro y hy
          rcases List.mem_append.1 hy with h1 | h1
          · exact hd.wf y h1
          · simp only [List.mem_cons, List.not_mem_nil, or_false] at h1; omega
        · exact (hs3.on (B := w.heap.size) ((((Below.refl w.heap.size w3).alloc (by omega) _)).grown hgr1 (by simp; omega) hrow) h.lt).up (by omega)
        · exact ((hb.trans hk3).alloc _).grown hgr1 hrow
      · obtain rfl : k = 0 := by omega
        have hmz : z = (m : Int) := by have := HM.out; omega
        clear HM
        by_cases hm0 : m = 0
        · subst hm0
          subst hmz
          go_wp2
          go_ret
          exact ⟨_, 0, zs, rfl, by omega, hd, hs.up (by omega), hb⟩
        · subst hmz
          have hmp : (0 : Int) < (m : Int) := by omega
          have hmp2 : 0 < m := by omega
          have hdp : decide (0 < m) = true := by simpa using hmp2
          clear hm0
          go_wp2_with fail
          refine (one_s g A n c _ 10 _ hs (by omega)).mono ?_
          rintro e w3 ⟨y, rfl, hs3, hk3⟩
          have HOW := own_but hd.own hk3 h.lt
          rcases y with _ | _
          · go_wp2
            go_ret
            exact ⟨_, m, zs, rfl, by omega, ⟨HOW, hd.wf⟩, hs3.up (by omega), hb.trans hk3⟩
          · rcases HOW.2 with ⟨_, h0⟩ | ⟨q, cap, cur, hv, _⟩
            · omega
            subst hv
            have hq := World.ownsRow.lt HOW q rfl
            go_wp2_with fail
            refine (spoil_s g A n c _ q cap m w.heap.size zs w3 hs3 (by omega) h.lt HOW (by omega)).mono ?_
            rintro e w4 ⟨i, u, w5, rfl, hi, hu0, hu1, hk5, hs5, rfl⟩
            have HO5 := own_but HOW hk5 h.lt
            have hl : zs.length = m * 3 := by have := HO5.1; rwa [iv_length] at this
            have HO6 := Lib.hid (own_set HO5 i u (by omega))
            have HL := Lib.hid hl
            clear hl
            go_wp2
            go_ret
            refine ⟨_, m, zs.set i u, rfl, by omega, ⟨HO6.out, setB_mem hd.wf ⟨hu0, hu1⟩⟩, ?_, ((hb.trans hk3).trans hk5).far (p := ⟨q, i, none⟩) hq.1 _⟩
            exact (hs5.on ((Below.refl w.heap.size w5).setCell (p := ⟨q, i, none⟩) hq.1 _) h.lt).up (by omega)
  case true =>
    go_wp2_with fail
    refine (among_s g A n c _ w2.heap.size 4 [10, 11, 30, 31] _ (hs2.on (balloc (Below.refl _ _) _) hlt2) (by omega) (Blk.new _ _ _) (by omega) rfl (by omega) (by omega)).mono ?_
    rintro e wz ⟨z, rfl, hz, hsz, hk3⟩
    simp only [List.mem_cons, List.not_mem_nil, or_false] at hz
    have hz0 : 0 ≤ z := by omega
    have hz1 : z ≤ 31 := by omega
    have hkz : But g w wz := (hk2'.alloc _).trans hk3
    have hoz := own_but (World.ownsRow.alloc ho2 (.cells (iv [10, 11, 30, 31]).toArray 2)) hk3 hlt
    have hltz := hsz.lt
    have HO := Lib.hid hoz
    clear hz hk1 hk2 hk3 hk2' hs1 hs2 ho2 hoz hlt2
    go_wp2_with fail
    go_loopw [3, 5] (fun s i wr => ∃ (k m : Nat) (zs : List Int), Hid (m + k = z.toNat) ∧ m + k ≤ 31 ∧ i = .int .i64 k ∧ DrawnB wr w.heap.size s m zs ∧ Src wr g A n c (K + 6 + 6 * m) ∧ But g w wr) (fun _ i _ => (intOf i).toNat)
    case atStart => exact ⟨z.toNat, 0, [], (by show _ = _; omega), by omega, by rw [show ((z.toNat : Nat) : Int) = z by omega], ⟨HO.out, by simp⟩, hsz.up (by omega), hkz⟩
    case round =>
      obtain ⟨k, m, zs, HM, hm, rfl, hd, hs, hb⟩ := hrel
      by_cases hlt0 : 0 < k
      · skip
        go_wp2_with fail
        refine (newB_s g A n c _ _ hs (by omega)).mono ?_
        rintro e w3 ⟨b1, b2, b3, rfl, hbd, hs3, hk3⟩
        have HOW := own_but hd.own hk3 h.lt
        have hbs := Nat.le_trans hb.size hk3.size
        go_wp2_with (at_builtin; refine append_bunch rfl (.tmp 19) (.tmp 22) rfl w.heap.size _ m zs rfl (World.ownsRow.alloc HOW _) [b1, b2, b3] rfl _ rfl (Blk.new _ _ _) (by omega) (by simp; omega) ?_; intro v1 w6 hown1 hgr1)
        have hrow : ∀ q, Value.ownBlock _ = some q → w.heap.size ≤ q := fun q hq => (World.ownsRow.lt hd.own q hq).1
        refine ⟨⟨k - 1, m + 1, zs ++ [b1, b2, b3], (by have := HM.out; show _ = _; omega), by omega, by rw [show ((k - 1 : Nat) : Int) = (k : Int) - 1 by omega], ⟨hown1, ?_⟩, ?_, ?_⟩, by simp [intOf]; omega⟩
        · intro y hy
          rcases List.mem_append.1 hy with h1 | h1
          · exact hd.wf y h1
          · simp only [List.mem_cons, List.not_mem_nil, or_false] at h1; omega
        · exact (hs3.on (B := w.heap.size) ((((Below.refl w.heap.size w3).alloc (by omega) _)).grown hgr1 (by simp; omega) hrow) h.lt).up (by omega)
        · exact ((hb.trans hk3).alloc _).grown hgr1 hrow
      · obtain rfl : k = 0 := by omega
        have hmz : z = (m : Int) := by have := HM.out; omega
        clear HM
        by_cases hm0 : m = 0
        · subst hm0
          subst hmz
          go_wp2
          go_ret
          exact ⟨_, 0, zs, rfl, by omega, hd, hs.up (by omega), hb⟩
        · subst hmz
          have hmp : (0 : Int) < (m : Int) := by omega
          have hmp2 : 0 < m := by omega
          have hdp : decide (0 < m) = true := by simpa using hmp2
          clear hm0
          go_wp2_with fail
          refine (one_s g A n c _ 10 _ hs (by omega)).mono ?_
          rintro e w3 ⟨y, rfl, hs3, hk3⟩
          have HOW := own_but hd.own hk3 h.lt
          rcases y with _ | _
          · go_wp2
            go_ret
            exact ⟨_, m, zs, rfl, by omega, ⟨HOW, hd.wf⟩, hs3.up (by omega), hb.trans hk3⟩
          · rcases HOW.2 with ⟨_, h0⟩ | ⟨q, cap, cur, hv, _⟩
            · omega
            subst hv
            have hq := World.ownsRow.lt HOW q rfl
            go_wp2_with fail
            refine (spoil_s g A n c _ q cap m w.heap.size zs w3 hs3 (by omega) h.lt HOW (by omega)).mono ?_
            rintro e w4 ⟨i, u, w5, rfl, hi, hu0, hu1, hk5, hs5, rfl⟩
            have HO5 := own_but HOW hk5 h.lt
            have hl : zs.length = m * 3 := by have := HO5.1; rwa [iv_length] at this
            have HO6 := Lib.hid (own_set HO5 i u (by omega))
            have HL := Lib.hid hl
            clear hl
            go_wp2
            go_ret
            refine ⟨_, m, zs.set i u, rfl, by omega, ⟨HO6.out, setB_mem hd.wf ⟨hu0, hu1⟩⟩, ?_, ((hb.trans hk3).trans hk5).far (p := ⟨q, i, none⟩) hq.1 _⟩
            exact (hs5.on ((Below.refl w.heap.size w5).setCell (p := ⟨q, i, none⟩) hq.1 _) h.lt).up (by omega)
theorem f6big_c (A : Option Addr) (n c : Nat) (w : World) (hn : n ≤ 9223372036854775807) : Calls Tryz.prog 4 #[.slice A n c] w fun e w' => e = .returned (.bool (decide (4096 < n))) ∧ w = w' := by
  by_cases h : 4096 < n
  all_goals
    go_enter Tryz.func4, Tryz.ntmps4
    go_wp2_with fail
    go_ret
    first | (simp [h]; done) | (simp [h]; omega)
end Go.Proofs.YtgcpobondcnjcaaGreatDoor
