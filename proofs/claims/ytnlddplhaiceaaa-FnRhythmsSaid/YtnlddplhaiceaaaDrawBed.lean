/-
  Beds drawn by the reference's source.
  No conditions.
-/
import Derived.Test.YtnlddplhaiceaaaSrc
import Derived.Test.YtnlddplhaiceaaaAfterI
namespace Go.Proofs.Ytnlddplhaiceaaa
open Go.ChangeShapes Go.WideShapes Go.ChangeAt Go.RowKit Go.Deep
set_option linter.unusedVariables false

theorem gi_mem' (zs : List Int) (j : Nat) (h : j < zs.length) : gi zs j ∈ zs := by
  rw [gi, List.getD, List.getElem?_eq_getElem h]; exact List.getElem_mem h
theorem But.far {g : Nat} {a b : World} (h : But g a b) {p : Addr} (hp : a.heap.size ≤ p.block) (u : Value) : But g a (b.setCell p u) :=
  ⟨h.os, h.tape, h.output, by simpa [World.setCell] using h.size, fun k hk hg => (Below.heap_setCell _ _ _ _ (by omega)).trans (h.block k hk hg)⟩
theorem But.grown {g : Nat} {a b b' : World} {row : Option Nat} (h : But g a b) (hg : b.grownBy b' row) (hr : ∀ k, row = some k → a.heap.size ≤ k) : But g a b' :=
  ⟨hg.os.trans h.os, hg.tape.trans h.tape, hg.output.trans h.output, Nat.le_trans h.size hg.size, fun k hk hne => (hg.block k (Nat.lt_of_lt_of_le hk h.size) (fun e => by have := hr k e.symm; omega)).trans (h.block k hk hne)⟩
theorem own_but {w w' : World} {g base : Nat} {v : Value} {zs : List Int} (h : Own w base v zs) (hb : But g w w') (hg : g < base) : Own w' base v zs :=
  own_keep h (fun q hq => by have := h.lt q hq; exact hb.block q this.2 (by omega))
theorem OwnB.but {w w' : World} {g lo hi n : Nat} {v : Value} {bs : Nat → List Int × Int} (h : OwnB w lo hi v n bs) (hb : But g w w') (hg : g < lo) : OwnB w' lo hi v n bs :=
  h.keep (Nat.le_trans h.size hb.size) (fun q h1 h2 => hb.block q (by have := h.size; omega) (by omega))
theorem src_grown {w w' : World} {g n c K : Nat} {A : Option Addr} {row : Option Nat} (h : Src w g A n c K) (hg : w.grownBy w' row) (hr : ∀ k, row = some k → g < k) : Src w' g A n c K := by
  obtain ⟨m, q, hm, hk⟩ := h.blk
  have hl := hk.lt
  have hB : Below (g + 1) w w' := ⟨hg.os, hg.tape, hg.output, hg.size, fun k hk => hg.block k (by omega) (fun e => by have := hr k e.symm; omega)⟩
  exact ⟨⟨m, q, hm, hk.below hB (by omega)⟩, h.octets.below hB (by omega)⟩
theorem src_far {w : World} {g n c K : Nat} {A : Option Addr} (h : Src w g A n c K) {p : Addr} (hp : g < p.block) (u : Value) : Src (w.setCell p u) g A n c K :=
  h.on (B := g + 1) ((Below.refl (g + 1) w).setCell (by omega) u) (by omega)

set_option maxRecDepth 100000 in
theorem among_s (g : Nat) (A : Option Addr) (n c K : Nat) (b L : Nat) (zs : List Int) (w : World) (h : Src w g A n c K) (hK : K ≤ 900000) (hb : Blk w b 2 (iv zs).toArray) (hne : b ≠ g) (hL : zs.length = L) (h0 : 0 < L) (h1 : L ≤ 1000) :
    Calls Try.prog 75 #[.pointer (some ⟨g, 0, none⟩), .slice (some ⟨b, 0, none⟩) L L] w fun e w' => ∃ x, e = .returned (.int .i64 x) ∧ x ∈ zs ∧ Src w' g A n c (K + 2) ∧ But g w w' := by
  have HL := Lib.hid hL
  clear hL
  go_enter Try.func75, Try.ntmps75
  go_wp2_with fail
  refine (pick_s g A n c K L w h hK).mono ?_
  rintro e w1 ⟨x, rfl, hx0, hx1, hs1, hk1⟩
  obtain ⟨k, rfl⟩ : ∃ k : Nat, x = k := ⟨x.toNat, by omega⟩
  have hlt : k < L := by omega
  have hc := (hb.but hk1 hne).cell k
  rw [List.getElem?_toArray, iv_get zs k (by rw [HL.out]; exact hlt)] at hc
  go_wp2
  go_ret
  exact ⟨_, rfl, gi_mem' _ _ (by rw [HL.out]; exact hlt), hs1, hk1⟩
theorem own_ne_bed {w : World} {base g : Nat} {v : Value} {zs : List Int} {cs : Array Value} (ho : Own w base v zs) (hb : Blk w g 41 cs) : v.ownBlock ≠ some g := by
  intro he
  rcases ho.2 with ⟨rfl, _⟩ | ⟨q, cap, cur, rfl, _, hq, _⟩
  · cases he
  · have he' : q = g := by simpa [Value.ownBlock] using he
    subst he'
    have hb' : w.heap[q]? = some (.cells cs 41 (0, 0)) := hb
    rw [hq] at hb'
    simp at hb'
theorem snoc_bd {zs : List Int} {x M : Int} (h : ∀ z ∈ zs, 0 ≤ z ∧ z ≤ M) (hx : 0 ≤ x ∧ x ≤ M) : ∀ z ∈ zs ++ [x], 0 ≤ z ∧ z ≤ M := fun z hz => by
  rcases List.mem_append.1 hz with h1 | h1
  · exact h z h1
  · simp only [List.mem_singleton] at h1; subst h1; exact hx
set_option maxRecDepth 100000 in
set_option maxHeartbeats 4000000 in
/-- A drawn bed, yields in a slice of their own. -/
theorem newBed_s (g : Nat) (A : Option Addr) (n c K : Nat) (w : World) (h : Src w g A n c K) (hK : K ≤ 800000) :
    Calls Try.prog 90 #[.pointer (some ⟨g, 0, none⟩)] w fun e w' => ∃ (zs : List Int) (a : Int) (γ cc : Nat), e = .returned (.agg #[.slice (some ⟨γ, 0, none⟩) zs.length cc, .int .i64 a]) ∧ 1 ≤ zs.length ∧ zs.length ≤ 4 ∧ (∀ z ∈ zs, 0 ≤ z ∧ z ≤ 1000) ∧ 0 ≤ a ∧ a ≤ zs.length ∧
      Own w' w.heap.size (.slice (some ⟨γ, 0, none⟩) zs.length cc) zs ∧ Src w' g A n c (K + 20) ∧ But g w w' := by
  have hlt := h.lt
  go_enter Try.func90, Try.ntmps90
  go_wp2_with fail
  have b0 := balloc (balloc (balloc (Below.refl w.heap.size w) (.cells #[.slice none 0 0, .int .i64 0] 41)) (.cells #[] 2)) (.cells #[.slice (some ⟨w.heap.size + 1, 0, none⟩) 0 0, .int .i64 0] 41)
  have hO0 : Own ((w.alloc (.cells #[.slice none 0 0, .int .i64 0] 41)).alloc (.cells #[] 2)) w.heap.size (.slice (some ⟨w.heap.size + 1, 0, none⟩) 0 0) [] := by
    have := Own.empty (w.alloc (.cells #[.slice none 0 0, .int .i64 0] 41)) (base := w.heap.size) (by simp)
    simpa using this
  have hX0 : Blk (((w.alloc (.cells #[.slice none 0 0, .int .i64 0] 41)).alloc (.cells #[] 2)).alloc (.cells #[.slice (some ⟨w.heap.size + 1, 0, none⟩) 0 0, .int .i64 0] 41)) (w.heap.size + 1 + 1) 41 #[.slice (some ⟨w.heap.size + 1, 0, none⟩) 0 0, .int .i64 0] := blk_at (by simp)
  have hR0 : Blk (((w.alloc (.cells #[.slice none 0 0, .int .i64 0] 41)).alloc (.cells #[] 2)).alloc (.cells #[.slice (some ⟨w.heap.size + 1, 0, none⟩) 0 0, .int .i64 0] 41)) w.heap.size 41 #[.slice none 0 0, .int .i64 0] := ((Blk.new w _ _).alloc _).alloc _
  have hO1 := hO0.alloc (.cells #[.slice (some ⟨w.heap.size + 1, 0, none⟩) 0 0, .int .i64 0] 41)
  have hs0 := h.on b0 hlt
  have hk0 := But.of_below (g := g) b0
  generalize ((w.alloc (.cells #[.slice none 0 0, .int .i64 0] 41)).alloc (.cells #[] 2)).alloc (.cells #[.slice (some ⟨w.heap.size + 1, 0, none⟩) 0 0, .int .i64 0] 41) = w0 at *
  have hz0 := hX0.lt
  clear hO0 b0
  go_wp2_with fail
  refine (pick_s g A n c K 40 w0 hs0 (by omega)).mono ?_
  rintro e w1 ⟨N0, rfl, hn0, hn1, hs1, hk1⟩
  go_wp2_with fail
  refine (pick_s g A n c _ 4 w1 hs1 (by omega)).mono ?_
  rintro e w2 ⟨T0, rfl, ht0, ht1, hs2, hk2⟩
  have hk02 := hk1.trans hk2
  have hX2 := Lib.hid (hX0.but hk02 (by omega))
  have hR2 := Lib.hid (hR0.but hk02 (by omega))
  have hO2 : Hid (Own w2 w.heap.size _ []) := own_but hO1 hk02 hlt
  have HK2 := Lib.hid (hk0.trans hk02)
  have HS2 := Lib.hid hs2
  obtain ⟨T, hT⟩ : ∃ T : Nat, 1 + T0 = (T : Int) := ⟨(1 + T0).toNat, by omega⟩
  have hT1 : 1 ≤ T ∧ T ≤ 4 := by omega
  have hN0 : 0 ≤ N0 ∧ N0 ≤ 40 := by omega
  have hzz := (hk0.trans hk02).size
  clear hX0 hR0 hO1 hs0 hk0 hs1 hk1 hs2 hk2 hk02 hz0
  go_wp2_with fail
  try rw [hT]
  clear ht0 ht1 hn0 hn1 hT
  go_loopw [4, 5] (fun a b wr => ∃ (j : Nat) (N : Int) (v : Value) (zs : List Int), a = .int .i64 N ∧ b = .int .i64 j ∧ zs.length + j = T ∧ 0 ≤ N ∧ N ≤ 40 + 60 * (zs.length : Int) ∧ Hid (∀ z ∈ zs, 0 ≤ z ∧ z ≤ 1000) ∧ Hid (Blk wr (w.heap.size + 1 + 1) 41 #[v, .int .i64 0]) ∧ Hid (Blk wr w.heap.size 41 #[.slice none 0 0, .int .i64 0]) ∧ Hid (Own wr w.heap.size v zs) ∧ Hid (Src wr g A n c (K + 4 + 2 * zs.length)) ∧ Hid (But g w wr)) (fun _ b _ => (intOf b).toNat)
  case atStart => exact ⟨T, N0, _, [], rfl, rfl, by simp, hN0.1, by simp; omega, fun z hz => by simp at hz, hX2.out, hR2.out, hO2.out, HS2.out, HK2.out⟩
  case round =>
    obtain ⟨j, N, v, zs, rfl, rfl, hlen, hN1, hN2, HZ, HX, HR, HO, HS, HK⟩ := hrel
    have hwr := HX.out.lt
    by_cases hj : 0 < j
    · have x0 := HX.out.cell 0
      have x1 := HX.out.cell 1
      simp only [List.getElem?_toArray, List.getElem?_cons_zero, List.getElem?_cons_succ] at x0 x1
      have hvb : v.ownBlock ≠ some (w.heap.size + 1 + 1) := own_ne_bed HO.out HX.out
      have hvb2 : v.ownBlock ≠ some w.heap.size := own_ne_bed HO.out HR.out
      go_wp2_with (at_builtin; go_loud ((refine append_int rfl (.tmp 18) (.tmp 20) rfl w.heap.size v zs rfl (HO.out.alloc _) N _ rfl (Blk.new _ _ _) (by omega) (by simp; omega) ?_; intro v1 w3 hown1 hgr1; obtain ⟨γ1, cc1, rfl⟩ := own_form hown1 (by simp); have hl1 : (zs ++ [N]).length = zs.length + 1 := (by simp); rw [hl1] at hown1; have HX3 : Hid (Blk w3 (w.heap.size + 1 + 1) 41 #[v, .int .i64 0]) := (HX.out.alloc _).grown hgr1 (fun e => hvb e.symm); have y0 := HX3.out.cell 0; have f0 := HX3.out.frozen 0; simp only [List.getElem?_toArray, List.getElem?_cons_zero] at y0)))
      have HX4 : Hid (Blk (w3.setCell ⟨w.heap.size + 1 + 1, 0, none⟩ (.slice (some ⟨γ1, 0, none⟩) (zs.length + 1) cc1)) (w.heap.size + 1 + 1) 41 #[.slice (some ⟨γ1, 0, none⟩) (zs.length + 1) cc1, .int .i64 0]) := HX3.out.set_ 0 _
      have HR4 : Hid (Blk (w3.setCell ⟨w.heap.size + 1 + 1, 0, none⟩ (.slice (some ⟨γ1, 0, none⟩) (zs.length + 1) cc1)) w.heap.size 41 #[.slice none 0 0, .int .i64 0]) := ((HR.out.alloc _).grown hgr1 (fun e => hvb2 e.symm)).far (by show w.heap.size ≠ w.heap.size + 1 + 1; omega) _
      have HO4 : Hid (Own (w3.setCell ⟨w.heap.size + 1 + 1, 0, none⟩ (.slice (some ⟨γ1, 0, none⟩) (zs.length + 1) cc1)) w.heap.size (.slice (some ⟨γ1, 0, none⟩) (zs.length + 1) cc1) (zs ++ [N])) := own_keep hown1 (fun q hq => Below.heap_setCell _ _ _ _ (by
        intro e
        have e' : q = w.heap.size + 1 + 1 := e
        subst e'
        exact own_ne_bed hown1 HX3.out hq))
      have hlg : g < w.heap.size := hlt
      have hrow : ∀ k, v.ownBlock = some k → w.heap.size ≤ k := fun k hk => (HO.out.lt k hk).1
      have HS4 := Lib.hid (src_far (src_grown (HS.out.on (balloc (Below.refl _ wr) _) (by omega)) hgr1 (fun k hk => by have := hrow k hk; omega)) (p := ⟨w.heap.size + 1 + 1, 0, none⟩) (by show g < w.heap.size + 1 + 1; omega) (.slice (some ⟨γ1, 0, none⟩) (zs.length + 1) cc1))
      have HK4 := Lib.hid (((HK.out.alloc _).grown hgr1 hrow).far (p := ⟨w.heap.size + 1 + 1, 0, none⟩) (by show w.heap.size ≤ w.heap.size + 1 + 1; omega) (.slice (some ⟨γ1, 0, none⟩) (zs.length + 1) cc1))
      clear x0 x1 y0 f0 HX3 hgr1 hown1
      refine (pick_s g A n c _ 60 _ HS4.out (by omega)).mono ?_
      rintro e w5 ⟨x, rfl, hx0, hx1, hs5, hk5⟩
      have HX5 := Lib.hid (HX4.out.but hk5 (by omega))
      have HR5 := Lib.hid (HR4.out.but hk5 (by omega))
      have HO5 := Lib.hid (own_but HO4.out hk5 hlt)
      have HK5 := Lib.hid (HK4.out.trans hk5)
      have HS5 := Lib.hid hs5
      have HZ5 := Lib.hid (snoc_bd HZ.out (x := N) (by omega))
      have hx2 : x ≤ 59 := by omega
      have HS6 : Hid (Src w5 g A n c (K + 4 + 2 * (zs ++ [N]).length)) := HS5.out.up (by simp; omega)
      clear hx1 hk5 hs5 HX4 HR4 HO4 HS4 HK4
      go_wp2_with fail
      go_roundw
      case rel => exact ⟨j - 1, N + x, _, zs ++ [N], by go_num, by first | go_num | (congr 1; omega), by simp; omega, by omega, by simp; omega, HZ5.out, HX5.out, HR5.out, HO5.out, HS6.out, HK5.out⟩
      case measure => simp [intOf]; omega
    · obtain rfl : j = 0 := by omega
      obtain ⟨γ, cc, rfl⟩ := own_form HO.out (by omega)
      have x0 := HX.out.cell 0
      have x1 := HX.out.cell 1
      simp only [List.getElem?_toArray, List.getElem?_cons_zero, List.getElem?_cons_succ] at x0 x1
      obtain ⟨l, hl⟩ : ∃ l, zs.length = l := ⟨_, rfl⟩
      have HL := Lib.hid hl
      rw [hl] at x0 hlen
      have hS := HS.out
      rw [hl] at hS
      have HX' := HX.out
      rw [hl] at HX'
      have HX6 := Lib.hid HX'
      have hO' : Own wr w.heap.size (.slice (some ⟨γ, 0, none⟩) l cc) zs := by have := HO.out; rwa [hl] at this
      have HO6 := Lib.hid hO'
      clear hl HX' hO' HX HO
      go_wp2_with fail
      refine (pick_s g A n c _ _ _ hS (by omega)).mono ?_
      rintro e w5 ⟨x, rfl, hx0, hx1, hs5, hk5⟩
      have hXb := HX6.out.but hk5 (by omega)
      have hRb := HR.out.but hk5 (by omega)
      have HO7 := Lib.hid (own_but HO6.out hk5 hlt)
      have HK7 := Lib.hid (HK.out.trans hk5)
      have HS7 := Lib.hid hs5
      have hx2 : x ≤ l := by omega
      clear hx1 hk5 hs5 x0 x1 HS HK HO6 HX6 HR hS
      have X := hXb
      have Xl := X.lt
      have Xc0 := X.cell 0
      have Xf0 := X.frozen 0
      have Xc1 := X.cell 1
      have Xf1 := X.frozen 1
      simp at Xc0 Xc1
      have XH := Lib.hid X
      clear X
      have R := hRb
      have Rl := R.lt
      have Rc0 := R.cell 0
      have Rf0 := R.frozen 0
      have Rc1 := R.cell 1
      have Rf1 := R.frozen 1
      simp at Rc0 Rc1
      have RH := Lib.hid R
      clear R
      clear hXb hRb
      go_wp2_with fail
      have hne : ¬ w.heap.size = w.heap.size + 1 + 1 := by omega
      have hγ1 : γ ≠ w.heap.size + 1 + 1 := fun e => own_ne_bed HO7.out XH.out (by rw [← e]; rfl)
      have hγ2 : γ ≠ w.heap.size := fun e => own_ne_bed HO7.out RH.out (by rw [← e]; rfl)
      refine bodyPost_ret (v := .agg #[.slice (some ⟨γ, 0, none⟩) l cc, .int .i64 x]) (by simp [results, Try.results90, go_sem, Rc0, Rc1]) rfl ⟨zs, x, γ, cc, by rw [HL.out], by rw [HL.out]; omega, by rw [HL.out]; omega, HZ.out, hx0, by rw [HL.out]; omega, ?_, ?_, ?_⟩
      · rw [HL.out]
        exact own_far (own_far (own_far HO7.out hγ1 _) hγ2 _) hγ2 _
      · exact src_far (src_far (src_far (HS7.out.up (by omega)) (by show g < w.heap.size + 1 + 1; omega) _) (by show g < w.heap.size; omega) _) (by show g < w.heap.size; omega) _
      · exact ((HK7.out.far (p := ⟨w.heap.size + 1 + 1, 1, none⟩) (by show w.heap.size ≤ w.heap.size + 1 + 1; omega) _).far (p := ⟨w.heap.size, 0, none⟩) (Nat.le_refl _) _).far (p := ⟨w.heap.size, 1, none⟩) (Nat.le_refl _) _
end Go.Proofs.Ytnlddplhaiceaaa
