/-
  What the reference draws for beds: years, rising numbers, a bed and years, a bed and a plan, beds and a need.
  No conditions.
-/
import Derived.Test.YtnlddplhaiceaaaDrawBeds
namespace Go.Proofs.Ytnlddplhaiceaaa
open Go.ChangeShapes Go.WideShapes Go.ChangeAt Go.RowKit Go.Deep
set_option linter.unusedVariables false

set_option maxRecDepth 100000 in
theorem years_s (g : Nat) (A : Option Addr) (n c K : Nat) (w : World) (h : Src w g A n c K) (hK : K ≤ 800000) :
    Calls Try.prog 60 #[.pointer (some ⟨g, 0, none⟩)] w fun e w' => ∃ x : Int, e = .returned (.int .i64 x) ∧ -1 ≤ x ∧ x ≤ 13 ∧ Src w' g A n c (K + 4) ∧ But g w w' := by
  go_enter Try.func60, Try.ntmps60
  go_wp2_with fail
  refine (one_s g A n c K 10 w h (by omega)).mono ?_
  rintro e w1 ⟨x, rfl, hs1, hk1⟩
  have hlt := hs1.lt
  rcases x with _ | _
  · go_wp2_with fail
    refine (pick_s g A n c _ 8 w1 hs1 (by omega)).mono ?_
    rintro e w2 ⟨x, rfl, hx0, hx1, hs2, hk2⟩
    go_wp2
    go_ret
    exact ⟨_, rfl, by omega, by omega, hs2, hk1.trans hk2⟩
  · go_wp2_with fail
    refine (among_s g A n c _ w1.heap.size 5 [-1, 0, 1, 12, 13] _ (hs1.on (balloc (Below.refl _ _) _) hlt) (by omega) (Blk.new _ _ _) (by omega) rfl (by omega) (by omega)).mono ?_
    rintro e w2 ⟨x, rfl, hx, hs2, hk2⟩
    simp only [List.mem_cons, List.not_mem_nil, or_false] at hx
    go_wp2
    go_ret
    exact ⟨_, rfl, by omega, by omega, hs2, (hk1.alloc _).trans hk2⟩
theorem snoc_bd2 {zs : List Int} {x a b : Int} (h : ∀ z ∈ zs, a ≤ z ∧ z ≤ b) (hx : a ≤ x ∧ x ≤ b) : ∀ z ∈ zs ++ [x], a ≤ z ∧ z ≤ b := fun z hz => by
  rcases List.mem_append.1 hz with h1 | h1
  · exact h z h1
  · simp only [List.mem_singleton] at h1; subst h1; exact hx
set_option maxRecDepth 100000 in
set_option maxHeartbeats 4000000 in
theorem some_s (g : Nat) (A : Option Addr) (n c K : Nat) (N : Int) (w : World) (h : Src w g A n c K) (hK : K ≤ 700000) (hN0 : -1 ≤ N) (hN : N ≤ 14) :
    Calls Try.prog 70 #[.pointer (some ⟨g, 0, none⟩), .int .i64 N] w fun e w' => ∃ (v : Value) (L : List Int), e = .returned v ∧ L.length ≤ 20 ∧ (∀ z ∈ L, -1 ≤ z ∧ z ≤ 14) ∧ Own w' w.heap.size v L ∧ Src w' g A n c (K + 40) ∧ But g w w' := by
  have hlt := h.lt
  have hO0 := Own.empty w (base := w.heap.size) (Nat.le_refl _)
  have hs0 := h.on (balloc (Below.refl w.heap.size w) (.cells #[] 2)) hlt
  have hk0 := But.of_below (g := g) (balloc (Below.refl w.heap.size w) (.cells #[] 2))
  go_enter Try.func70, Try.ntmps70
  go_wp2_with fail
  generalize w.alloc (.cells #[] 2) = w0 at *
  go_loopw [5, 6] (fun v i wr => ∃ (j : Nat) (L : List Int), (j = 0 ∨ (j : Int) ≤ N) ∧ i = .int .i64 j ∧ L.length ≤ j ∧ Hid (∀ z ∈ L, -1 ≤ z ∧ z ≤ 14) ∧ Hid (Own wr w.heap.size v L) ∧ Hid (Src wr g A n c (K + 2 * j)) ∧ Hid (But g w wr)) (fun _ i _ => 14 - (intOf i).toNat)
  case atStart => exact ⟨0, [], .inl rfl, rfl, by simp, fun z hz => by simp at hz, hO0, hs0, hk0⟩
  case round =>
    clear hO0 hs0 hk0
    obtain ⟨j, L, hj, rfl, hL, HB, HO, HS, HK⟩ := hrel
    have hwr := HK.out.size
    by_cases hjn : (j : Int) < N
    · go_wp2_with fail
      refine (one_s g A n c _ 2 wr HS.out (by omega)).mono ?_
      rintro e w4 ⟨y, rfl, hs4, hk4⟩
      have HS4 := Lib.hid hs4
      have HK4 := Lib.hid (HK.out.trans hk4)
      have HO4 := Lib.hid (own_but HO.out hk4 hlt)
      have hz4 := hk4.size
      clear hs4 hk4
      rcases y with _ | _
      · go_wp2_with fail
        go_roundw
        case rel => exact ⟨j + 1, L, .inr (by omega), by go_num, by omega, HB.out, HO4.out, HS4.out.up (by omega), HK4.out⟩
        case measure => simp [intOf]; omega
      · have hrow := fun k hk => (HO.out.lt k hk).1
        go_wp2_with (at_builtin; go_loud (refine append_int rfl (.tmp 15) (.tmp 17) rfl w.heap.size _ L rfl (HO4.out.alloc _) j _ rfl (Blk.new _ _ _) (by omega) (by simp; omega) ?_); intro v1 w5 hown1 hgr1)
        go_roundw
        case rel => exact ⟨j + 1, L ++ [(j : Int)], .inr (by omega), by go_num, by simp; omega, snoc_bd2 HB.out (by omega), hown1, src_grown ((HS4.out.up (by omega)).on (balloc (Below.refl _ w4) _) HS4.out.lt) hgr1 (fun k hk => by have := hrow k hk; omega), (HK4.out.alloc _).grown hgr1 hrow⟩
        case measure => simp [intOf]; omega
    · have hj14 : j ≤ 14 := by omega
      go_wp2_with fail
      refine (one_s g A n c _ 12 wr HS.out (by omega)).mono ?_
      rintro e w4 ⟨y, rfl, hs4, hk4⟩
      have HS4 := Lib.hid hs4
      have HK4 := Lib.hid (HK.out.trans hk4)
      have HO4 := Lib.hid (own_but HO.out hk4 hlt)
      have hz4 := hk4.size
      have hlt4 := hs4.lt
      clear hs4 hk4
      rcases y with _ | _
      · go_wp2
        go_ret
        exact ⟨_, L, rfl, by omega, HB.out, HO4.out, HS4.out.up (by omega), HK4.out⟩
      · have hrow := fun k hk => (HO.out.lt k hk).1
        go_wp2_with fail
        refine (among_s g A n c _ w4.heap.size 3 [-1, 0, N] _ (HS4.out.on (balloc (Below.refl _ _) _) hlt4) (by omega) (Blk.new _ _ _) (by omega) rfl (by omega) (by omega)).mono ?_
        rintro e w5 ⟨x, rfl, hx, hs5, hk5⟩
        simp only [List.mem_cons, List.not_mem_nil, or_false] at hx
        have hx2 : -1 ≤ x ∧ x ≤ 14 := by omega
        have HO5 := Lib.hid (own_but (HO4.out.alloc _) hk5 hlt)
        have HS5 := Lib.hid hs5
        have HK5 := Lib.hid ((HK4.out.alloc _).trans hk5)
        have hz5 := hk5.size
        simp only [World.size_alloc] at hz5
        clear hx hs5 hk5
        go_wp2_with (at_builtin; go_loud (refine append_int rfl (.tmp 21) (.tmp 26) rfl w.heap.size _ L rfl (HO5.out.alloc _) x _ rfl (Blk.new _ _ _) (by omega) (by simp; omega) ?_); intro v1 w6 hown1 hgr1)
        go_ret
        exact ⟨_, L ++ [x], rfl, by simp; omega, snoc_bd2 HB.out hx2, hown1, src_grown ((HS5.out.up (by omega)).on (balloc (Below.refl _ w5) _) HS5.out.lt) hgr1 (fun k hk => by have := hrow k hk; omega), (HK5.out.alloc _).grown hgr1 hrow⟩
/-- A bed by value that is read. -/
structure BedV (w : World) (zs : List Int) (a : Int) (γ cc : Nat) : Prop where
  len : zs.length ≤ 6
  wf : Wf zs
  age : -1 ≤ a ∧ a ≤ 7
  ints : Ints w w.heap.size 1 (some ⟨γ, 0, none⟩) zs.length zs
theorem BedV.on {w w' : World} {zs : List Int} {a : Int} {γ cc : Nat} (h : BedV w zs a γ cc) (hb : Below w.heap.size w w') : BedV w' zs a γ cc := ⟨h.len, h.wf, h.age, h.ints.on hb⟩
theorem bedv_of {w : World} {base : Nat} {zs : List Int} {a : Int} {γ cc : Nat} (ho : Own w base (.slice (some ⟨γ, 0, none⟩) zs.length cc) zs) (hl : zs.length ≤ 6) (hw : Wf zs) (ha : -1 ≤ a ∧ a ≤ 7) : BedV w zs a γ cc := by
  obtain ⟨A, c, e, hI, -⟩ := ho.ints hw
  simp only [Value.slice.injEq, true_and] at e
  obtain ⟨rfl, rfl⟩ := e
  exact ⟨hl, hw, ha, hI⟩
set_option maxRecDepth 100000 in
theorem draw_ynow (A : Option Addr) (n c : Nat) (w : World) (h : Octets w w.heap.size A n) :
    Calls Try.prog 29 #[.slice A n c] w fun e w' => ∃ (zs : List Int) (a : Int) (γ cc : Nat), e = .returned (.agg #[.slice (some ⟨γ, 0, none⟩) zs.length cc, .int .i64 a]) ∧ BedV w' zs a γ cc ∧ Below w.heap.size w w' := by
  have b0 := balloc (Below.refl w.heap.size w) (.cells #[.slice none 0 0, .int .i64 0] 41)
  have h0 := (h.below b0 (Nat.le_refl _)).more b0.size
  have HR0 : Hid (Blk (w.alloc (.cells #[.slice none 0 0, .int .i64 0] 41)) w.heap.size 41 #[.slice none 0 0, .int .i64 0]) := Blk.new _ _ _
  have hz0 : (w.alloc (.cells #[.slice none 0 0, .int .i64 0] 41)).heap.size = w.heap.size + 1 := by simp
  go_enter Try.func29, Try.ntmps29
  go_wp2_with fail
  generalize w.alloc (.cells #[.slice none 0 0, .int .i64 0] 41) = w0 at *
  refine (from_s A n c w0 h0).mono ?_
  rintro e w1 ⟨g, rfl, hg, hs1, hb1⟩
  have hz1 := hb1.size
  go_wp2_with fail
  refine (any_s g A n c 0 w1 hs1 (by omega)).mono ?_
  rintro e w2 ⟨zs, a, γ, cc, rfl, hl, hw, ha, ho, hs2, hk2⟩
  have hb2 := hk2.below (B := w0.heap.size) hg hz1
  have hR2 := (HR0.out.on hb1).below hb2 (by omega)
  have HB2 := Lib.hid ((b0.trans (hb1.mono (by omega))).trans (hb2.mono (by omega)))
  have HO2 := Lib.hid ho
  have hγ := ho.lt γ rfl
  obtain ⟨l, hll⟩ : ∃ l, zs.length = l := ⟨_, rfl⟩
  have HL := Lib.hid hll
  rw [hll]
  clear hll ho hs2 hk2 hs1 hb1 hb2
  have R := hR2
  have Rl := R.lt
  have Rc0 := R.cell 0
  have Rf0 := R.frozen 0
  have Rc1 := R.cell 1
  have Rf1 := R.frozen 1
  simp at Rc0 Rc1
  have RH := Lib.hid R
  clear R
  clear hR2
  go_wp2_with fail
  refine bodyPost_ret (v := .agg #[.slice (some ⟨γ, 0, none⟩) l cc, .int .i64 a]) (by simp [results, Try.results29, go_sem, Rc0, Rc1]) rfl ⟨zs, a, γ, cc, by rw [HL.out], ?_, ?_⟩
  · have hne : γ ≠ w.heap.size := by omega
    exact bedv_of (base := w1.heap.size) (own_far (own_far HO2.out hne _) hne _) (by omega) hw ha
  · exact bset (bset HB2.out (Nat.le_refl _) _) (Nat.le_refl _) _
set_option maxRecDepth 100000 in
theorem draw_brh (A : Option Addr) (n c : Nat) (w : World) (h : Octets w w.heap.size A n) :
    Calls Try.prog 35 #[.slice A n c] w fun e w' => ∃ (zs : List Int) (a : Int) (γ cc : Nat), e = .returned (.agg #[.slice (some ⟨γ, 0, none⟩) zs.length cc, .int .i64 a]) ∧ BedV w' zs a γ cc ∧ Below w.heap.size w w' := by
  have b0 := balloc (Below.refl w.heap.size w) (.cells #[.slice none 0 0, .int .i64 0] 41)
  have h0 := (h.below b0 (Nat.le_refl _)).more b0.size
  have HR0 : Hid (Blk (w.alloc (.cells #[.slice none 0 0, .int .i64 0] 41)) w.heap.size 41 #[.slice none 0 0, .int .i64 0]) := Blk.new _ _ _
  have hz0 : (w.alloc (.cells #[.slice none 0 0, .int .i64 0] 41)).heap.size = w.heap.size + 1 := by simp
  go_enter Try.func35, Try.ntmps35
  go_wp2_with fail
  generalize w.alloc (.cells #[.slice none 0 0, .int .i64 0] 41) = w0 at *
  refine (from_s A n c w0 h0).mono ?_
  rintro e w1 ⟨g, rfl, hg, hs1, hb1⟩
  have hz1 := hb1.size
  go_wp2_with fail
  refine (any_s g A n c 0 w1 hs1 (by omega)).mono ?_
  rintro e w2 ⟨zs, a, γ, cc, rfl, hl, hw, ha, ho, hs2, hk2⟩
  have hb2 := hk2.below (B := w0.heap.size) hg hz1
  have hR2 := (HR0.out.on hb1).below hb2 (by omega)
  have HB2 := Lib.hid ((b0.trans (hb1.mono (by omega))).trans (hb2.mono (by omega)))
  have HO2 := Lib.hid ho
  have hγ := ho.lt γ rfl
  obtain ⟨l, hll⟩ : ∃ l, zs.length = l := ⟨_, rfl⟩
  have HL := Lib.hid hll
  rw [hll]
  clear hll ho hs2 hk2 hs1 hb1 hb2
  have R := hR2
  have Rl := R.lt
  have Rc0 := R.cell 0
  have Rf0 := R.frozen 0
  have Rc1 := R.cell 1
  have Rf1 := R.frozen 1
  simp at Rc0 Rc1
  have RH := Lib.hid R
  clear R
  clear hR2
  go_wp2_with fail
  refine bodyPost_ret (v := .agg #[.slice (some ⟨γ, 0, none⟩) l cc, .int .i64 a]) (by simp [results, Try.results35, go_sem, Rc0, Rc1]) rfl ⟨zs, a, γ, cc, by rw [HL.out], ?_, ?_⟩
  · have hne : γ ≠ w.heap.size := by omega
    exact bedv_of (base := w1.heap.size) (own_far (own_far HO2.out hne _) hne _) (by omega) hw ha
  · exact bset (bset HB2.out (Nat.le_refl _) _) (Nat.le_refl _) _
theorem keep2 {g : Nat} {w w' : World} {p q : Addr} {x y : Value} (h0 : w.cell? p = some x) (h1 : w.cell? q = some y) (hp : p.block < w.heap.size) (hq : q.block < w.heap.size) (hpg : p.block ≠ g) (hqg : q.block ≠ g) (hk : But g w w') :
    w'.cell? p = some x ∧ w'.cell? q = some y := ⟨but_cell h0 hk hp hpg, but_cell h1 hk hq hqg⟩
theorem far2 {W : World} {p q r r' : Addr} {x y u u' : Value} (h : W.cell? p = some x ∧ W.cell? q = some y) (h1 : p.block ≠ r.block) (h2 : q.block ≠ r.block) (h3 : p.block ≠ r'.block) (h4 : q.block ≠ r'.block) :
    ((W.setCell r u).setCell r' u').cell? p = some x ∧ ((W.setCell r u).setCell r' u').cell? q = some y := ⟨far_cell (far_cell h.1 h1 u) h3 u', far_cell (far_cell h.2 h2 u) h4 u'⟩
set_option maxRecDepth 100000 in
set_option maxHeartbeats 2000000 in
theorem draw_bc (A : Option Addr) (n c : Nat) (w : World) (h : Octets w w.heap.size A n) :
    Calls Try.prog 20 #[.slice A n c] w fun e w' => ∃ (zs : List Int) (a : Int) (γ cc : Nat) (y : Int), e = .returned (.tuple #[.agg #[.slice (some ⟨γ, 0, none⟩) zs.length cc, .int .i64 a], .int .i64 y]) ∧ -1 ≤ y ∧ y ≤ 13 ∧ BedV w' zs a γ cc ∧ Below w.heap.size w w' := by
  have b0 := balloc (Below.refl w.heap.size w) (.cells #[.slice none 0 0, .int .i64 0] 41)
  have h0 := (h.below b0 (Nat.le_refl _)).more b0.size
  have HR0 : Hid (Blk (w.alloc (.cells #[.slice none 0 0, .int .i64 0] 41)) w.heap.size 41 #[.slice none 0 0, .int .i64 0]) := Blk.new _ _ _
  have hz0 : (w.alloc (.cells #[.slice none 0 0, .int .i64 0] 41)).heap.size = w.heap.size + 1 := by simp
  go_enter Try.func20, Try.ntmps20
  go_wp2_with fail
  generalize w.alloc (.cells #[.slice none 0 0, .int .i64 0] 41) = w0 at *
  refine (from_s A n c w0 h0).mono ?_
  rintro e w1 ⟨g, rfl, hg, hs1, hb1⟩
  have hz1 := hb1.size
  have hgl := hs1.lt
  go_wp2_with fail
  refine (any_s g A n c 0 w1 hs1 (by omega)).mono ?_
  rintro e w2 ⟨zs, a, γ, cc, rfl, hl, hw, ha, ho, hs2, hk2⟩
  have hb2 := hk2.below (B := w0.heap.size) hg hz1
  have hR2 := (HR0.out.on hb1).below hb2 (by omega)
  have hB2 := (b0.trans (hb1.mono (by omega))).trans (hb2.mono (by omega))
  have hγ := ho.lt γ rfl
  have hz2 := hk2.size
  obtain ⟨l, hll⟩ : ∃ l, zs.length = l := ⟨_, rfl⟩
  have HL := Lib.hid hll
  rw [hll] at ho ⊢
  have HO3 : Hid (Own (w2.alloc (.cells #[.slice (some ⟨γ, 0, none⟩) l cc, .int .i64 a] 41)) w1.heap.size (.slice (some ⟨γ, 0, none⟩) l cc) zs) := ho.alloc _
  have hX3 : Blk (w2.alloc (.cells #[.slice (some ⟨γ, 0, none⟩) l cc, .int .i64 a] 41)) w2.heap.size 41 #[.slice (some ⟨γ, 0, none⟩) l cc, .int .i64 a] := Blk.new _ _ _
  have HR3 := Lib.hid (hR2.alloc (.cells #[.slice (some ⟨γ, 0, none⟩) l cc, .int .i64 a] 41))
  have HB3 := Lib.hid (hB2.alloc hB2.size (.cells #[.slice (some ⟨γ, 0, none⟩) l cc, .int .i64 a] 41))
  have hs3 := hs2.on (balloc (Below.refl _ w2) (.cells #[.slice (some ⟨γ, 0, none⟩) l cc, .int .i64 a] 41)) hs2.lt
  have hz3 : (w2.alloc (.cells #[.slice (some ⟨γ, 0, none⟩) l cc, .int .i64 a] 41)).heap.size = w2.heap.size + 1 := by simp
  clear hll ho hs2 hk2 hs1 hb1 hb2 hR2 hB2
  go_wp2_with fail
  have x0 := hX3.cell 0
  have x1 := hX3.cell 1
  simp only [List.getElem?_toArray, List.getElem?_cons_zero, List.getElem?_cons_succ] at x0 x1
  clear hX3
  generalize w2.alloc (.cells #[.slice (some ⟨γ, 0, none⟩) l cc, .int .i64 a] 41) = w3 at *
  obtain ⟨X, hX⟩ : ∃ X, w2.heap.size = X := ⟨_, rfl⟩
  rw [hX] at x0 x1 hz3 hz2 hγ ⊢
  have hXl : X < w3.heap.size := by omega
  have hXg : X ≠ g := by omega
  have hXw : X ≠ w.heap.size := by omega
  have hwg : w.heap.size ≠ g := by omega
  have hw3 : w.heap.size < w3.heap.size := by omega
  have HS3 := Lib.hid hs3
  have hlt3 := hs3.lt
  clear hs3 hX
  go_region_held3 (fun w' => w'.cell? ⟨X, 0, none⟩ = some (.slice (some ⟨γ, 0, none⟩) l cc) ∧ w'.cell? ⟨X, 1, none⟩ = some (.int .i64 a)) (first | exact ⟨x0, x1⟩ | exact keep2 x0 x1 hXl hXl hXg hXg ((But.refl g _).drewN 1) | exact keep2 x0 x1 hXl hXl hXg hXg (((But.refl g _).drewN 1).trans hk4) | exact far2 (keep2 x0 x1 hXl hXl hXg hXg (((But.refl g _).drewN 1).trans hk4)) hXw hXw hXw hXw | exact far2 ⟨x0, x1⟩ hXw hXw hXw hXw) ((go_at_call 60; refine (years_s g A n c _ _ (by first | exact HS3.out | exact HS3.out.on (B := w3.heap.size) (bdrewN (Below.refl _ _) 1) hlt3) (by omega)).mono ?_; rintro e w4 ⟨y, rfl, hy0, hy1, hs4, hk4⟩; have hR4 := HR3.out.but (((But.refl g _).drewN 1).trans hk4) hwg; have r0 := hR4.cell 0; have r1 := hR4.cell 1; have f0 := hR4.frozen 0; have f1 := hR4.frozen 1; have rl := hR4.lt; simp only [List.getElem?_toArray, List.getElem?_cons_zero, List.getElem?_cons_succ] at r0 r1))
  have HK4 := Lib.hid (((But.refl g w3).drewN 1).trans hk4)
  clear hk4 hs4
  go_wp2_with fail
  refine bodyPost_ret (v := .tuple #[.agg #[.slice (some ⟨γ, 0, none⟩) l cc, .int .i64 a], .int .i64 y]) (by simp [results, Try.results20, go_sem, r0, r1]) rfl ⟨zs, a, γ, cc, y, by rw [HL.out], hy0, hy1, ?_, ?_⟩
  · have hne : γ ≠ w.heap.size := by omega
    have ho4 := own_but HO3.out HK4.out (by omega)
    rw [← HL.out] at ho4 ⊢
    exact bedv_of (base := w1.heap.size) (own_far (own_far ho4 hne _) hne _) hl hw ha
  · exact bset (bset (HB3.out.trans (HK4.out.below (by omega) (by omega))) (Nat.le_refl _) _) (Nat.le_refl _) _
set_option maxRecDepth 100000 in
set_option maxHeartbeats 4000000 in
theorem draw_yop (A : Option Addr) (n c : Nat) (w : World) (h : Octets w w.heap.size A n) :
    Calls Try.prog 23 #[.slice A n c] w fun e w' => ∃ (zs : List Int) (a : Int) (γ cc : Nat) (y : Int) (v : Value) (L : List Int), e = .returned (.tuple #[.agg #[.slice (some ⟨γ, 0, none⟩) zs.length cc, .int .i64 a], v, .int .i64 y]) ∧ -1 ≤ y ∧ y ≤ 13 ∧ L.length ≤ 20 ∧ (∀ z ∈ L, -1 ≤ z ∧ z ≤ 14) ∧
      BedV w' zs a γ cc ∧ Own w' (w.heap.size + 1) v L ∧ Below w.heap.size w w' := by
  have b0 := balloc (Below.refl w.heap.size w) (.cells #[.slice none 0 0, .int .i64 0] 41)
  have h0 := (h.below b0 (Nat.le_refl _)).more b0.size
  have HR0 : Hid (Blk (w.alloc (.cells #[.slice none 0 0, .int .i64 0] 41)) w.heap.size 41 #[.slice none 0 0, .int .i64 0]) := Blk.new _ _ _
  have hz0 : (w.alloc (.cells #[.slice none 0 0, .int .i64 0] 41)).heap.size = w.heap.size + 1 := by simp
  go_enter Try.func23, Try.ntmps23
  go_wp2_with fail
  generalize w.alloc (.cells #[.slice none 0 0, .int .i64 0] 41) = w0 at *
  refine (from_s A n c w0 h0).mono ?_
  rintro e w1 ⟨g, rfl, hg, hs1, hb1⟩
  have hz1 := hb1.size
  have hgl := hs1.lt
  go_wp2_with fail
  refine (any_s g A n c 0 w1 hs1 (by omega)).mono ?_
  rintro e w2 ⟨zs, a, γ, cc, rfl, hl, hw, ha, ho, hs2, hk2⟩
  have hb2 := hk2.below (B := w0.heap.size) hg hz1
  have hR2 := (HR0.out.on hb1).below hb2 (by omega)
  have hB2 := (b0.trans (hb1.mono (by omega))).trans (hb2.mono (by omega))
  have hγ := ho.lt γ rfl
  have hz2 := hk2.size
  obtain ⟨l, hll⟩ : ∃ l, zs.length = l := ⟨_, rfl⟩
  have HL := Lib.hid hll
  rw [hll] at ho ⊢
  have HO3 : Hid (Own (w2.alloc (.cells #[.slice (some ⟨γ, 0, none⟩) l cc, .int .i64 a] 41)) w1.heap.size (.slice (some ⟨γ, 0, none⟩) l cc) zs) := ho.alloc _
  have HX3 : Hid (Blk (w2.alloc (.cells #[.slice (some ⟨γ, 0, none⟩) l cc, .int .i64 a] 41)) w2.heap.size 41 #[.slice (some ⟨γ, 0, none⟩) l cc, .int .i64 a]) := Blk.new _ _ _
  have HR3 := Lib.hid (hR2.alloc (.cells #[.slice (some ⟨γ, 0, none⟩) l cc, .int .i64 a] 41))
  have HB3 := Lib.hid (hB2.alloc hB2.size (.cells #[.slice (some ⟨γ, 0, none⟩) l cc, .int .i64 a] 41))
  have hs3 := hs2.on (balloc (Below.refl _ w2) (.cells #[.slice (some ⟨γ, 0, none⟩) l cc, .int .i64 a] 41)) hs2.lt
  have hz3 : (w2.alloc (.cells #[.slice (some ⟨γ, 0, none⟩) l cc, .int .i64 a] 41)).heap.size = w2.heap.size + 1 := by simp
  clear hll ho hs2 hk2 hs1 hb1 hb2 hR2 hB2
  go_wp2_with fail
  generalize w2.alloc (.cells #[.slice (some ⟨γ, 0, none⟩) l cc, .int .i64 a] 41) = w3 at *
  obtain ⟨X, hX⟩ : ∃ X, w2.heap.size = X := ⟨_, rfl⟩
  rw [hX] at HX3 hz3 hz2 hγ ⊢
  have hXg : X ≠ g := by omega
  have hXw : X ≠ w.heap.size := by omega
  have hwg : w.heap.size ≠ g := by omega
  clear hX
  refine (years_s g A n c _ w3 hs3 (by omega)).mono ?_
  rintro e w5 ⟨y, rfl, hy0, hy1, hs5, hk5⟩
  have hX5 := HX3.out.but hk5 hXg
  have HR5 := Lib.hid (HR3.out.but hk5 hwg)
  have HO5 := Lib.hid (own_but HO3.out hk5 (by omega))
  have HB5 := Lib.hid (HB3.out.trans (hk5.below (by omega) (by omega)))
  have hz5 := hk5.size
  have HS5 := Lib.hid hs5
  have hlt5 := hs5.lt
  clear hs3 hk5 hs5 HX3 HR3 HO3 HB3
  have x0 := hX5.cell 0
  have x1 := hX5.cell 1
  simp only [List.getElem?_toArray, List.getElem?_cons_zero, List.getElem?_cons_succ] at x0 x1
  have hXl := hX5.lt
  clear hX5
  have HM : Hid (∀ W, ∃ N : Int, N ≤ 14 ∧ -1 ≤ N ∧ Calls Try.prog 71 #[.int .i64 y, .int .i64 14] W fun e w' => e = .returned (.int .i64 N) ∧ W = w') := fun W => ⟨y, by omega, by omega, l00Min_lt y 14 W (by omega)⟩
  go_wp2_with fail
  go_region_held3 (fun w' => w'.cell? ⟨X, 0, none⟩ = some (.slice (some ⟨γ, 0, none⟩) l cc) ∧ w'.cell? ⟨X, 1, none⟩ = some (.int .i64 a)) (first | exact ⟨x0, x1⟩ | exact keep2 x0 x1 hXl hXl hXg hXg ((But.refl g _).drewN 1) | exact keep2 x0 x1 hXl hXl hXg hXg (((But.refl g _).drewN 1).trans hk6) | exact far2 (keep2 x0 x1 hXl hXl hXg hXg (((But.refl g _).drewN 1).trans hk6)) hXw hXw hXw hXw | exact far2 ⟨x0, x1⟩ hXw hXw hXw hXw) (first | (go_at_call 71; refine (l00Min_lt y 14 _ (by omega)).mono ?_; rintro e wm ⟨rfl, rfl⟩) | (go_at_call 70; refine (some_s g A n c _ y _ (by first | exact HS5.out | exact HS5.out.on (B := w5.heap.size) (bdrewN (Below.refl _ _) 1) hlt5) (by omega) (by omega) (by omega)).mono ?_; rintro e w6 ⟨v6, L, rfl, hL1, hL2, ho6, hs6, hk6⟩; have hR6 := HR5.out.but (((But.refl g _).drewN 1).trans hk6) hwg; have r0 := hR6.cell 0; have r1 := hR6.cell 1; have f0 := hR6.frozen 0; have f1 := hR6.frozen 1; have rl := hR6.lt; simp only [List.getElem?_toArray, List.getElem?_cons_zero, List.getElem?_cons_succ] at r0 r1))
  have HK6 := Lib.hid (((But.refl g w5).drewN 1).trans hk6)
  have HO6 : Hid (Own w6 w5.heap.size v6 L) := ho6
  clear hk6 hs6 ho6
  go_wp2_with fail
  refine bodyPost_ret (v := .tuple #[.agg #[.slice (some ⟨γ, 0, none⟩) l cc, .int .i64 a], v6, .int .i64 y]) (by simp [results, Try.results23, go_sem, r0, r1]) rfl ⟨zs, a, γ, cc, y, v6, L, by rw [HL.out], hy0, hy1, hL1, hL2, ?_, ?_, ?_⟩
  · have hne : γ ≠ w.heap.size := by omega
    have ho4 := own_but HO5.out HK6.out (by omega)
    rw [← HL.out] at ho4 ⊢
    exact bedv_of (base := w1.heap.size) (own_far (own_far ho4 hne _) hne _) hl hw ha
  · refine own_keep (own_keep (HO6.out.base_le (by omega)) (fun q hq => Below.heap_setCell _ _ _ _ ?_)) (fun q hq => Below.heap_setCell _ _ _ _ ?_)
    · have := (HO6.out.lt q hq).1; show q ≠ w.heap.size; omega
    · have := (HO6.out.lt q hq).1; show q ≠ w.heap.size; omega
  · exact bset (bset (HB5.out.trans (HK6.out.below (by omega) (by omega))) (Nat.le_refl _) _) (Nat.le_refl _) _
theorem draw_cf (A : Option Addr) (n c : Nat) (w : World) (h : Octets w w.heap.size A n) :
    Calls Try.prog 26 #[.slice A n c] w fun e w' => ∃ (v : Value) (m : Nat) (bs : Nat → List Int × Int) (y : Int), e = .returned (.tuple #[v, .int .i64 y]) ∧ -1 ≤ y ∧ y ≤ 100001 ∧ m ≤ 9 ∧ SmallB bs m ∧ OwnB w' w.heap.size w'.heap.size v m bs ∧ Below w.heap.size w w' := by
  go_enter Try.func26, Try.ntmps26
  go_wp2_with fail
  refine (from_s A n c w h).mono ?_
  rintro e w1 ⟨g, rfl, hg, hs1, hb1⟩
  have hz1 := hb1.size
  go_wp2_with fail
  refine (beds_s g A n c 0 w1 hs1 (by omega)).mono ?_
  rintro e w2 ⟨v, m, bs, rfl, hm, hsm, ho, hs2, hk2⟩
  have HO2 := Lib.hid ho
  have HB2 := Lib.hid (hb1.trans (hk2.below hg hz1))
  have hz2 := hk2.size
  have hgl := hs1.lt
  clear ho hs1 hb1 hk2
  go_wp2_with fail
  refine (one_s g A n c _ 8 w2 hs2 (by omega)).mono ?_
  rintro e w3 ⟨x, rfl, hs3, hk3⟩
  have hlt := hs3.lt
  have HO3 := Lib.hid (HO2.out.but hk3 hgl)
  have HB3 := Lib.hid (HB2.out.trans (hk3.below (B := w.heap.size) hg (by omega)))
  have hz3 := hk3.size
  clear hk3
  rcases x with _ | _
  · go_wp2_with fail
    refine (pick_s g A n c _ 200 w3 hs3 (by omega)).mono ?_
    rintro e w4 ⟨x, rfl, hx0, hx1, hs4, hk4⟩
    have HO4 := Lib.hid (HO3.out.but hk4 hgl)
    have HB4 := Lib.hid (HB3.out.trans (hk4.below (B := w.heap.size) hg (by omega)))
    have hz4 := hk4.size
    go_wp2
    go_ret2
    exact ⟨v, m, bs, x, rfl, by omega, by omega, hm, hsm, (HO4.out.upper (by omega) (Nat.le_refl _)).lower hz1, HB4.out⟩
  · go_wp2_with fail
    refine (among_s g A n c _ w3.heap.size 4 [-1, 0, 100000, 100001] _ (hs3.on (balloc (Below.refl _ _) _) hlt) (by omega) (Blk.new _ _ _) (by omega) rfl (by omega) (by omega)).mono ?_
    rintro e w4 ⟨x, rfl, hx, hs4, hk4⟩
    simp only [List.mem_cons, List.not_mem_nil, or_false] at hx
    have hx2 : -1 ≤ x ∧ x ≤ 100001 := by omega
    have hk34 := ((But.refl g w3).alloc (.cells (iv [-1, 0, 100000, 100001]).toArray 2)).trans hk4
    have HO4 := Lib.hid (HO3.out.but hk34 hgl)
    have HB4 := Lib.hid (HB3.out.trans (hk34.below (B := w.heap.size) hg (by omega)))
    have hz4 := hk34.size
    clear hx
    go_wp2
    go_ret2
    exact ⟨v, m, bs, x, rfl, hx2.1, hx2.2, hm, hsm, (HO4.out.upper (by omega) (Nat.le_refl _)).lower hz1, HB4.out⟩
end Go.Proofs.Ytnlddplhaiceaaa
