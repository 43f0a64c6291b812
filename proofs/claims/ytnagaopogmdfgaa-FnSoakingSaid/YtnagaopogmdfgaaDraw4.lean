/-
  Batches drawn: a slice of the call's own, each batch within bounds.
  No conditions.
-/
import Derived.Test.YtnagaopogmdfgaaSrc
import Derived.OwnWalk
namespace Go.Proofs.Ytnagaopogmdfgaa
open Go.ChangeShapes Go.WideShapes Go.ChangeAt Go.RowKit Go.Deep

set_option maxRecDepth 100000 in
theorem a2Long_c (A A' : Option Addr) (n c n' c' : Nat) (w : World) (hn : n ≤ 9223372036854775807) (hn' : n' ≤ 9223372036854775807) :
    Calls Try.prog 13 #[.slice A n c, .slice A' n' c'] w fun e w' => e = .returned (.bool (decide (3000 < n) || decide (3000 < n'))) ∧ w = w' := by
  by_cases h : 3000 < n <;> by_cases h' : 3000 < n'
  all_goals
    go_enter Try.func13, Try.ntmps13
    go_wp2_with fail
    go_ret
    first | (simp [h, h']; done) | (simp [h, h']; omega)

set_option maxRecDepth 100000 in
theorem a2At_c (A : Option Addr) (n c : Nat) (at_ : Nat) (k : Int) (w : World) (h : Octets w w.heap.size A n) (hk : 1 ≤ k) :
    Calls Try.prog 15 #[.slice A n c, .int .i64 at_, .int .i64 k] w fun e w' => ∃ x : Int, e = .returned (.int .i64 x) ∧ 0 ≤ x ∧ x < k ∧ Below w.heap.size w w' := by
  have hn := h.le
  by_cases hlt : at_ < n
  · obtain ⟨b, off, x, rfl, hb, hc, hx0, hx1⟩ := h.at_ at_ hlt
    go_enter Try.func15, Try.ntmps15
    go_wp2_with fail
    go_ret
    exact ⟨_, rfl, Int.emod_nonneg _ (by omega), Int.emod_lt_of_pos _ (by omega), Below.refl _ _⟩
  · go_enter Try.func15, Try.ntmps15
    go_wp2_with fail
    go_ret
    exact ⟨0, rfl, by omega, by omega, Below.refl _ _⟩

theorem add_zero_addr (g j : Nat) : (⟨g, 0, none⟩ : Addr).add j = ⟨g, j, none⟩ := by unfold Addr.add; split <;> simp_all
theorem But.far {g : Nat} {a b : World} (h : But g a b) {p : Addr} (hp : a.heap.size ≤ p.block) (u : Value) : But g a (b.setCell p u) :=
  ⟨h.os, h.tape, h.output, by simpa [World.setCell] using h.size, fun k hk hg => (Below.heap_setCell _ _ _ _ (by omega)).trans (h.block k hk hg)⟩
theorem But.grown {g : Nat} {a b b' : World} {row : Option Nat} (h : But g a b) (hg : b.grownBy b' row) (hr : ∀ k, row = some k → a.heap.size ≤ k) : But g a b' :=
  ⟨hg.os.trans h.os, hg.tape.trans h.tape, hg.output.trans h.output, Nat.le_trans h.size hg.size, fun k hk hne => (hg.block k (Nat.lt_of_lt_of_le hk h.size) (fun e => by have := hr k e.symm; omega)).trans (h.block k hk hne)⟩
/-- A drawn batch is valid, and small. -/
def dB (zs : List Int) (i : Nat) : Prop := 0 ≤ gi zs (i * 4) ∧ gi zs (i * 4) < 20 ∧ 1 ≤ gi zs (i * 4 + 1) ∧ gi zs (i * 4 + 1) < 15 ∧ 1 ≤ gi zs (i * 4 + 2) ∧ gi zs (i * 4 + 2) < 11 ∧ 1 ≤ gi zs (i * 4 + 3) ∧ gi zs (i * 4 + 3) < 8
/-- Drawn batches in a slice of the call's own. -/
structure Drawn (w : World) (base : Nat) (v : Value) (n : Nat) (zs : List Int) : Prop where
  own : w.ownsRow base 32 4 v n (iv zs)
  bd : ∀ i, i < n → dB zs i
theorem gi_left {zs us : List Int} {j : Nat} (h : j < zs.length) : gi (zs ++ us) j = gi zs j := by
  simp [gi, List.getD, List.getElem?_append_left h]
theorem gi_right {zs us : List Int} {j r : Nat} (h : j = zs.length + r) : gi (zs ++ us) j = gi us r := by
  subst h
  simp [gi, List.getD, List.getElem?_append_right]
theorem dB_snoc {zs : List Int} {m : Nat} {a b c d : Int} (hl : zs.length = m * 4) (h : ∀ i, i < m → dB zs i) (h0 : dB [a, b, c, d] 0) : ∀ i, i < m + 1 → dB (zs ++ [a, b, c, d]) i := by
  intro i hi
  by_cases hlt : i < m
  · have := h i hlt
    unfold dB at this ⊢
    rw [gi_left (by omega), gi_left (by omega), gi_left (by omega), gi_left (by omega)]
    exact this
  · obtain rfl : i = m := by omega
    unfold dB at h0 ⊢
    rw [gi_right (r := 0) (by omega), gi_right (r := 1) (by omega), gi_right (r := 2) (by omega), gi_right (r := 3) (by omega)]
    exact h0
theorem size_setCell (w : World) (p : Addr) (u : Value) : (w.setCell p u).heap.size = w.heap.size := by simp [World.setCell]
theorem append_batch {w : World} {ops : Array Oper} {rest : List Oper} {o : Oper} {a : Act} {Q : Exit → Act → World → Prop} (hgd : o.guard = none) (s x : Operand)
    (ho : o.op = .call { callee := .builtin .append, args := #[s, x], argTypes := #[24, 24] })
    (base : Nat) (v : Value) (n : Nat) (zs : List Int) (hs : a.eval s = v) (hown : w.ownsRow base 32 4 v n (iv zs)) (us : List Int) (hu : us.length = 4) (g : Nat) (hx : a.eval x = .slice (some ⟨g, 0, none⟩) 1 1) (hg : Blk w g 32 (iv us).toArray)
    (hn : n ≤ 1048576) (hbase : base ≤ w.heap.size)
    (h : ∀ v' w', w'.ownsRow base 32 4 v' (n + 1) (iv (zs ++ us)) → w.grownBy w' v.ownBlock → wpList Try.prog ops Q rest (a.put o.dst v') w') : wpList Try.prog ops Q (o :: rest) a w := by
  have hinfo : (Try.prog.info? 32).map (fun i => (i.zero, i.size, i.bytes)) = some (some (.agg #[.int .i64 0, .int .i64 0, .int .i64 0, .int .i64 0]), 4, 32) := by kernel_rfl
  obtain ⟨i0, hi, hz0, hz1, hz2⟩ := info_parts hinfo
  refine wpList_append_own w hgd s x 24 ho base 32 i0 _ 4 32 Try.underlying24 hi hz0 hz1 hz2 rfl (by decide) v n (iv zs) hs hown ⟨g, 0, none⟩ 1 1 (iv us) hx (by rw [iv_length, hu]) ?_ ?_ ?_ ?_ hbase ?_
  · intro j y hy
    have := hg.cell j
    rw [add_zero_addr, this]
    simpa using hy
  · intro y hy
    simp only [iv, List.mem_map] at hy
    obtain ⟨z, _, rfl⟩ := hy
    rfl
  · simp only [maxLen]; omega
  · omega
  · intro v' w' hown' hgr _
    refine h v' w' ?_ hgr
    rw [iv_append]
    exact hown'
theorem own_but {w w' : World} {g base k n : Nat} {e : TypeId} {v : Value} {xs : List Value} (h : w.ownsRow base e k v n xs) (hb : But g w w') (hg : g < base) : w'.ownsRow base e k v n xs :=
  World.ownsRow.kept (row := some g) h ⟨hb.os, hb.tape, hb.output, hb.size, fun i hi hne => hb.block i hi (fun e => hne (by rw [e]))⟩ (by
    rcases hv : v.ownBlock with _ | q
    · exact .inl rfl
    · refine .inr fun he => ?_
      have := (World.ownsRow.lt h q hv).1
      injection he with he
      omega)
set_option maxRecDepth 100000 in
theorem draw_s (g : Nat) (A : Option Addr) (n c K : Nat) (w : World) (h : Src w g A n c K) (hK : K ≤ 10) :
    Calls Try.prog 38 #[.pointer (some ⟨g, 0, none⟩)] w fun e w' => ∃ (v : Value) (m : Nat) (zs : List Int), e = .returned v ∧ m ≤ 6 ∧ Drawn w' w.heap.size v m zs ∧ But g w w' := by
  go_enter Try.func38, Try.ntmps38
  go_wp2_with fail
  refine (pick_s g A n c K 6 _ (h.on (balloc (Below.refl _ _) _) h.lt) (by omega)).mono ?_
  rintro e w1 ⟨x, rfl, hx0, hx1, hs1, hk1⟩
  go_wp2_with fail
  go_loopw [3, 4, 5] (fun s i _x wr => ∃ (k m : Nat) (zs : List Int), m + k ≤ 6 ∧ i = .int .i64 k ∧ Drawn wr w.heap.size s m zs ∧ Src wr g A n c (K + 2 + 8 * m) ∧ But g w wr) (fun _ i _ _ => (intOf i).toNat)
  case atStart =>
    refine ⟨x.toNat, 0, [], by omega, by rw [show ((x.toNat : Nat) : Int) = x by omega], ⟨?_, fun i hi => absurd hi (by omega)⟩, hs1, ((But.refl g w).alloc _).trans hk1⟩
    exact own_but (World.ownsRow_lit (base := w.heap.size) (e := 32) (size := 4) (w := w) #[] 0 (Nat.le_refl _) (by simp [maxLen]) rfl) hk1 h.lt
  case round =>
    obtain ⟨k, m, zs, hm, rfl, hd, hs, hb⟩ := hrel
    by_cases hlt : 0 < k
    · skip
      go_wp2_with fail
      refine (pick_s g A n c _ 20 _ hs (by omega)).mono ?_
      rintro e w2 ⟨a1, rfl, ha0, ha1, hs2, hk2⟩
      have hg2 := hs2.lt
      go_wp2_with fail
      refine (pick_s g A n c _ 14 _ (hs2.on (balloc (Below.refl _ _) _) hg2) (by omega)).mono ?_
      rintro e w3 ⟨a2, rfl, hb0, hb1, hs3, hk3⟩
      have X := (Blk.new w2 32 #[.int .i64 a1, .int .i64 0, .int .i64 0, .int .i64 0]).but hk3 (by omega)
      have Xl := X.lt
      have Xc0 := X.cell 0
      have Xf0 := X.frozen 0
      have Xc1 := X.cell 1
      have Xf1 := X.frozen 1
      have Xc2 := X.cell 2
      have Xf2 := X.frozen 2
      have Xc3 := X.cell 3
      have Xf3 := X.frozen 3
      simp at Xc0 Xc1 Xc2 Xc3
      have XH := Lib.hid X
      clear X
      go_wp2_with fail
      refine (pick_s g A n c _ 10 _ (hs3.on ((Below.refl w2.heap.size w3).setCell (Nat.le_refl _) _) hg2) (by omega)).mono ?_
      rintro e w4 ⟨a3, rfl, hc0, hc1, hs4, hk4⟩
      have Y := (XH.out.set_ 1 (.int .i64 (1 + a2))).but hk4 (by omega)
      have Yl := Y.lt
      have Yc0 := Y.cell 0
      have Yf0 := Y.frozen 0
      have Yc1 := Y.cell 1
      have Yf1 := Y.frozen 1
      have Yc2 := Y.cell 2
      have Yf2 := Y.frozen 2
      have Yc3 := Y.cell 3
      have Yf3 := Y.frozen 3
      simp at Yc0 Yc1 Yc2 Yc3
      have YH := Lib.hid Y
      clear Y
      go_wp2_with fail
      refine (pick_s g A n c _ 7 _ (hs4.on ((Below.refl w2.heap.size w4).setCell (Nat.le_refl _) _) hg2) (by omega)).mono ?_
      rintro e w5 ⟨a4, rfl, hd0, hd1, hs5, hk5⟩
      have Z := (YH.out.set_ 2 (.int .i64 (1 + a3))).but hk5 (by omega)
      have Zl := Z.lt
      have Zc0 := Z.cell 0
      have Zf0 := Z.frozen 0
      have Zc1 := Z.cell 1
      have Zf1 := Z.frozen 1
      have Zc2 := Z.cell 2
      have Zf2 := Z.frozen 2
      have Zc3 := Z.cell 3
      have Zf3 := Z.frozen 3
      simp at Zc0 Zc1 Zc2 Zc3
      have ZH := Lib.hid Z
      clear Z
      have HB : But g _ _ := ((((((hk2.alloc (.cells #[.int .i64 a1, .int .i64 0, .int .i64 0, .int .i64 0] 32)).trans hk3).far (p := ⟨w2.heap.size, 1, none⟩) hk2.size (.int .i64 (1 + a2))).trans hk4).far (p := ⟨w2.heap.size, 2, none⟩) hk2.size (.int .i64 (1 + a3))).trans hk5).far (p := ⟨w2.heap.size, 3, none⟩) hk2.size (.int .i64 (1 + a4))
      have HO := own_but hd.own HB h.lt
      have hbs := Nat.le_trans hb.size HB.size
      rw [size_setCell] at hbs
      have HG : Hid (Blk ((w5.setCell ⟨w2.heap.size, 3, none⟩ (.int .i64 (1 + a4))).alloc (.cells #[.int .i64 a1, .int .i64 (1 + a2), .int .i64 (1 + a3), .int .i64 (1 + a4)] 32)) w5.heap.size 32 (iv [a1, 1 + a2, 1 + a3, 1 + a4]).toArray) := by
        have := Blk.new (w5.setCell ⟨w2.heap.size, 3, none⟩ (.int .i64 (1 + a4))) 32 #[.int .i64 a1, .int .i64 (1 + a2), .int .i64 (1 + a3), .int .i64 (1 + a4)]
        rw [size_setCell] at this
        exact this
      have hbs5 := hs5.lt
      go_wp2_with (at_builtin; refine append_batch rfl (.tmp 28) (.tmp 30) rfl w.heap.size _ m zs rfl (World.ownsRow.alloc HO _) [a1, 1 + a2, 1 + a3, 1 + a4] rfl _ rfl HG.out (by omega) (by simp; omega) ?_; intro v1 w6 hown1 hgr1)
      have hzl : zs.length = m * 4 := by have := hd.own.1; rwa [iv_length] at this
      have hrow : ∀ q, Value.ownBlock _ = some q → w.heap.size ≤ q := fun q hq => (World.ownsRow.lt hd.own q hq).1
      have h0 := hs2.lt
      refine ⟨⟨k - 1, m + 1, zs ++ [a1, 1 + a2, 1 + a3, 1 + a4], by omega, by rw [show ((k - 1 : Nat) : Int) = (k : Int) - 1 by omega], ⟨hown1, dB_snoc hzl hd.bd (by simp [dB, gi]; omega)⟩, ?_, ?_⟩, by simp [intOf]; omega⟩
      · have hlt := h.lt
        exact (hs5.on (B := w.heap.size) ((((Below.refl w.heap.size w5).setCell (p := ⟨w2.heap.size, 3, none⟩) (by have := hk2.size; have := hb.size; show w.heap.size ≤ w2.heap.size; omega) (.int .i64 (1 + a4))).alloc (by simpa [size_setCell] using hbs) _).grown hgr1 (by simp [size_setCell]; omega) hrow) hlt).up (by omega)
      · exact (hb.trans (HB.alloc _)).grown hgr1 hrow
    · obtain rfl : k = 0 := by omega
      go_wp2
      go_ret
      exact ⟨_, m, zs, rfl, by omega, hd, hb⟩
set_option maxRecDepth 100000 in
theorem A2Batches_s (A : Option Addr) (n c : Nat) (w : World) (h : Octets w w.heap.size A n) :
    Calls Try.prog 14 #[.slice A n c] w fun e w' => ∃ (v : Value) (m : Nat) (zs : List Int), e = .returned v ∧ m ≤ 6 ∧ Drawn w' w.heap.size v m zs ∧ Below w.heap.size w w' := by
  go_enter Try.func14, Try.ntmps14
  go_wp2_with fail
  refine (from_s A n c w h).mono ?_
  rintro e w1 ⟨g, rfl, hg, hs1, hb1⟩
  have hz := hb1.size
  go_wp2_with fail
  refine (draw_s g A n c 0 _ hs1 (by omega)).mono ?_
  rintro e w2 ⟨v, m, zs, rfl, hm, hd, hk⟩
  go_wp2_with fail
  go_ret
  refine ⟨_, m, zs, rfl, hm, ⟨?_, hd.bd⟩, hb1.trans (hk.below hg hz)⟩
  refine ⟨hd.own.1, ?_⟩
  rcases hd.own.2 with h1 | ⟨q, cap, cur, e1, e2, r⟩
  · exact .inl h1
  · exact .inr ⟨q, cap, cur, e1, Nat.le_trans hz e2, r⟩
theorem Drawn.ints {w : World} {base m : Nat} {v : Value} {zs : List Int} (h : Drawn w base v m zs) : ∃ A c, v = .slice A m c ∧ Ints w w.heap.size 4 A m zs := by
  have hl : zs.length = m * 4 := by have := h.own.1; rwa [iv_length] at this
  have hw : ∀ z ∈ zs, -9223372036854775808 ≤ z ∧ z ≤ 9223372036854775807 := by
    intro z hz
    obtain ⟨j, hj, rfl⟩ := List.mem_iff_getElem.1 hz
    have hb := h.bd (j / 4) (by omega)
    have e : zs[j] = gi zs j := by simp [gi, List.getD, List.getElem?_eq_getElem hj]
    rw [e]
    unfold dB at hb
    rcases (by omega : j = j / 4 * 4 ∨ j = j / 4 * 4 + 1 ∨ j = j / 4 * 4 + 2 ∨ j = j / 4 * 4 + 3) with h1 | h1 | h1 | h1 <;> rw [h1] <;> omega
  rcases h.own.2 with ⟨rfl, h0⟩ | ⟨g, cap, cur, rfl, h1⟩
  · subst h0
    obtain rfl : zs = [] := List.eq_nil_of_length_eq_zero (by omega)
    exact ⟨none, 0, rfl, ⟨Reads.none_, by simp⟩⟩
  · exact ⟨_, cap, rfl, ⟨Reads.of_own h.own, hw⟩⟩

end Go.Proofs.Ytnagaopogmdfgaa
