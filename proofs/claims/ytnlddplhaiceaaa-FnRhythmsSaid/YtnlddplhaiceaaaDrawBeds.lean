/-
  Drawn beds, drawn years, drawn rising numbers.
  No conditions.
-/
import Derived.Test.YtnlddplhaiceaaaSpoilBed
namespace Go.Proofs.Ytnlddplhaiceaaa
open Go.ChangeShapes Go.WideShapes Go.ChangeAt Go.RowKit Go.Deep
set_option linter.unusedVariables false

/-- The beds with another first one. -/
def putB (bs : Nat → List Int × Int) (x : List Int × Int) (j : Nat) : List Int × Int := if j = 0 then x else bs j
theorem putB_zero (bs : Nat → List Int × Int) (x : List Int × Int) : yl (putB bs x) 0 = x.1 ∧ ag (putB bs x) 0 = x.2 := ⟨rfl, rfl⟩
theorem putB_else (bs : Nat → List Int × Int) (x : List Int × Int) {j : Nat} (h : j ≠ 0) : yl (putB bs x) j = yl bs j ∧ ag (putB bs x) j = ag bs j := by
  unfold yl ag putB; rw [if_neg h]; exact ⟨rfl, rfl⟩
theorem OwnB.first {w : World} {lo hi q cap n : Nat} {bs : Nat → List Int × Int} (h : OwnB w lo hi (.slice (some ⟨q, 0, none⟩) n cap) n bs) (h0 : 0 < n) (hl : 1 ≤ (yl bs 0).length) : ∃ γ c,
    w.cell? ⟨q, 0, none⟩ = some (.slice (some ⟨γ, 0, none⟩) (yl bs 0).length c) ∧ w.cell? ⟨q, 1, none⟩ = some (.int .i64 (ag bs 0)) ∧ w.frozen? ⟨q, 0, none⟩ = false ∧ w.frozen? ⟨q, 1, none⟩ = false ∧
    w.cell? ⟨γ, 0, none⟩ = some (.int .i64 (gi (yl bs 0) 0)) ∧ w.frozen? ⟨γ, 0, none⟩ = false ∧ q < w.heap.size ∧ γ < w.heap.size ∧ lo ≤ q ∧ lo ≤ γ ∧ γ ≠ q ∧
    ∀ g w1, But g w w1 → g < lo → (∀ u, OwnB (w1.setCell ⟨γ, 0, none⟩ (.int .i64 u)) lo hi (.slice (some ⟨q, 0, none⟩) n cap) n (putB bs ((yl bs 0).set 0 u, ag bs 0))) ∧
      (∀ u, OwnB (w1.setCell ⟨q, 1, none⟩ (.int .i64 u)) lo hi (.slice (some ⟨q, 0, none⟩) n cap) n (putB bs (yl bs 0, u))) ∧
      (∀ γ' m', w.heap.size ≤ γ' → Own w1 w.heap.size (.slice (some ⟨γ', 0, none⟩) m' m') (List.replicate m' 0) → OwnB (w1.setCell ⟨q, 0, none⟩ (.slice (some ⟨γ', 0, none⟩) m' m')) lo w1.heap.size (.slice (some ⟨q, 0, none⟩) n cap) n (putB bs (List.replicate m' 0, ag bs 0))) := by
  obtain ⟨L, γ, c, hr, h1, h2, h3, h4⟩ := h
  obtain ⟨a1, a2, a3, a4⟩ := h3 0 h0
  have hL : L.length = n * 2 := hr.1
  have hq := World.ownsRow.lt hr q rfl
  have hγ := a4.lt (γ 0) rfl
  have hne : γ 0 ≠ q := fun e => row_ne hr a4 (by rw [← e]; rfl)
  have hy := own_cell0 a4 rfl hl
  refine ⟨γ 0, c 0, by rw [hr.cellAt 0 (by omega)]; exact a2, by rw [hr.cellAt 1 (by omega)]; exact a3, hr.frozenAt 0, hr.frozenAt 1, hy.1, hy.2, hq.2, hγ.2, hq.1, hγ.1, hne, fun g w1 hb hg => ?_⟩
  have hr1 : w1.ownsRow lo 41 2 (.slice (some ⟨q, 0, none⟩) n cap) n L := row_keep hr (fun k hk => by
    have e : q = k := by simpa [Value.ownBlock] using hk
    exact hb.block k (by omega) (by omega))
  have h31 : ∀ j, j < n → Own w1 lo (.slice (some ⟨γ j, 0, none⟩) (yl bs j).length (c j)) (yl bs j) := fun j hj => own_but (h3 j hj).2.2.2 hb hg
  have hz := hb.size
  refine ⟨fun u => ?_, fun u => ?_, fun γ' m' hγ' ho => ?_⟩
  · refine ⟨L, γ, c, row_keep hr1 (fun k hk => ?_), by simp only [World.setCell, Array.size_modify]; omega, h2, fun j hj => ?_, h4⟩
    · have e : q = k := by simpa [Value.ownBlock] using hk
      exact Below.heap_setCell _ _ _ _ (by show k ≠ γ 0; omega)
    · obtain ⟨b1, b2, b3, b4⟩ := h3 j hj
      by_cases e : j = 0
      · subst e
        have e1 : (yl (putB bs ((yl bs 0).set 0 u, ag bs 0)) 0) = (yl bs 0).set 0 u := rfl
        rw [e1, List.length_set]
        exact ⟨b1, b2, b3, own_stored (h31 0 hj) rfl 0 u⟩
      · rw [(putB_else bs _ e).1, (putB_else bs _ e).2]
        exact ⟨b1, b2, b3, own_far (h31 j hj) (fun hh => e (h4 j 0 hj h0 hh)) _⟩
  · have hst := hr1.stored 1 (.int .i64 u)
    refine ⟨_, γ, c, hst.1, by simp only [World.setCell, Array.size_modify]; omega, h2, fun j hj => ?_, h4⟩
    obtain ⟨b1, b2, b3, b4⟩ := h3 j hj
    have hjq : γ j ≠ q := fun e => row_ne hr b4 (by rw [← e]; rfl)
    by_cases e : j = 0
    · subst e
      refine ⟨b1, ?_, ?_, own_far (h31 0 hj) hjq _⟩
      · rw [List.getElem?_set_ne (by omega)]; exact b2
      · show (L.set 1 _)[1]? = _
        rw [List.getElem?_set_self (by omega)]; rfl
    · rw [(putB_else bs _ e).1, (putB_else bs _ e).2]
      refine ⟨b1, ?_, ?_, own_far (h31 j hj) hjq _⟩
      · rw [List.getElem?_set_ne (by omega)]; exact b2
      · rw [List.getElem?_set_ne (by omega)]; exact b3
  · have hst := hr1.stored 0 (.slice (some ⟨γ', 0, none⟩) m' m')
    have hγl := (ho.lt γ' rfl).2
    refine ⟨_, fun j => if j = 0 then γ' else γ j, fun j => if j = 0 then m' else c j, hst.1, by simp only [World.setCell, Array.size_modify]; omega, fun k hk => by have := h2 k hk; omega, fun j hj => ?_, fun i j hi hj he => ?_⟩
    · obtain ⟨b1, b2, b3, b4⟩ := h3 j hj
      have hjq : γ j ≠ q := fun e => row_ne hr b4 (by rw [← e]; rfl)
      by_cases e : j = 0
      · subst e
        have e1 : (yl (putB bs (List.replicate m' 0, ag bs 0)) 0) = List.replicate m' 0 := rfl
        rw [e1, List.length_replicate]
        simp only [if_true]
        refine ⟨hγl, ?_, ?_, own_far (ho.base_le (by omega)) (by omega) _⟩
        · rw [List.getElem?_set_self (by omega)]
        · rw [List.getElem?_set_ne (by omega)]; exact b3
      · rw [(putB_else bs _ e).1, (putB_else bs _ e).2]
        simp only [if_neg e]
        refine ⟨by omega, ?_, ?_, own_far (h31 j hj) hjq _⟩
        · rw [List.getElem?_set_ne (by omega)]; exact b2
        · rw [List.getElem?_set_ne (by omega)]; exact b3
    · by_cases e1 : i = 0 <;> by_cases e2 : j = 0 <;> simp only [e1, e2, if_true, if_false] at he
      · omega
      · have := (h3 j hj).1; omega
      · have := (h3 i hi).1; omega
      · exact h4 i j hi hj he

/-- Drawn beds: small ones. -/
def SmallB (bs : Nat → List Int × Int) (n : Nat) : Prop := ∀ i, i < n → (yl bs i).length ≤ 6 ∧ Wf (yl bs i) ∧ -1 ≤ ag bs i ∧ ag bs i ≤ 7
theorem SmallB.put {bs : Nat → List Int × Int} {n : Nat} {x : List Int × Int} (h : SmallB bs n) (h1 : x.1.length ≤ 6) (h2 : Wf x.1) (h3 : -1 ≤ x.2 ∧ x.2 ≤ 7) : SmallB (putB bs x) n := by
  intro i hi
  by_cases e : i = 0
  · subst e; exact ⟨h1, h2, h3⟩
  · rw [(putB_else bs _ e).1, (putB_else bs _ e).2]; exact h i hi
/-- The beds with one more. -/
def addB (bs : Nat → List Int × Int) (k : Nat) (x : List Int × Int) (j : Nat) : List Int × Int := if j = k then x else bs j
theorem addB_at (bs : Nat → List Int × Int) (k : Nat) (x : List Int × Int) : yl (addB bs k x) k = x.1 ∧ ag (addB bs k x) k = x.2 := by unfold yl ag addB; simp
theorem addB_else (bs : Nat → List Int × Int) (k : Nat) (x : List Int × Int) {j : Nat} (h : j ≠ k) : addB bs k x j = bs j := by unfold addB; rw [if_neg h]
/-- A drawn bed is valid but for what spoils it. -/
def GoodB (bs : Nat → List Int × Int) (n : Nat) : Prop := ∀ i, i < n → 1 ≤ (yl bs i).length ∧ (yl bs i).length ≤ 4
set_option maxRecDepth 100000 in
set_option maxHeartbeats 8000000 in
theorem beds_s (g : Nat) (A : Option Addr) (n c K : Nat) (w : World) (h : Src w g A n c K) (hK : K ≤ 600000) :
    Calls Try.prog 73 #[.pointer (some ⟨g, 0, none⟩)] w fun e w' => ∃ (v : Value) (m : Nat) (bs : Nat → List Int × Int), e = .returned v ∧ m ≤ 9 ∧ SmallB bs m ∧ OwnB w' w.heap.size w'.heap.size v m bs ∧ Src w' g A n c (K + 300) ∧ But g w w' := by
  have hlt := h.lt
  have hO0 := OwnB.empty w (lo := w.heap.size) (Nat.le_refl _) (fun _ => ([], 0))
  have hs0 := h.on (balloc (Below.refl w.heap.size w) (.cells #[] 41)) hlt
  have hk0 := But.of_below (g := g) (balloc (Below.refl w.heap.size w) (.cells #[] 41))
  go_enter Try.func73, Try.ntmps73
  go_wp2_with fail
  generalize w.alloc (.cells #[] 41) = w0 at *
  refine (pick_s g A n c K 5 w0 hs0 (by omega)).mono ?_
  rintro e w1 ⟨x, rfl, hx0, hx1, hs1, hk1⟩
  go_wp2_with fail
  refine (one_s g A n c _ 16 w1 hs1 (by omega)).mono ?_
  rintro e w2 ⟨y, rfl, hs2, hk2⟩
  have HO2 := Lib.hid (hO0.but (hk1.trans hk2) hlt)
  have HK2 := Lib.hid (hk0.trans (hk1.trans hk2))
  have hx4 : x ≤ 4 := by omega
  have hz0 := hk0.size
  have hlt2 := hs2.lt
  have HZ2 : Hid (w0.heap.size ≤ w2.heap.size) := (hk1.trans hk2).size
  clear hO0 hs0 hk0 hs1 hk1 hk2 hx1
  have key : ∀ (N : Int) (w3 : World), 0 ≤ N → N ≤ 9 → Src w3 g A n c (K + 6) → But g w2 w3 → ∃ N' : Nat, N = N' ∧ N' ≤ 9 ∧ Hid (OwnB w3 w.heap.size w0.heap.size (.slice (some ⟨w.heap.size, 0, none⟩) 0 0) 0 (fun _ => ([], 0))) ∧ Hid (Src w3 g A n c (K + 6)) ∧ Hid (But g w w3) ∧ Hid (w0.heap.size ≤ w3.heap.size) := fun N w3 h0 h9 hs hk =>
    ⟨N.toNat, by omega, by omega, HO2.out.but hk hlt, hs, HK2.out.trans hk, Nat.le_trans HZ2.out hk.size⟩
  rcases y with _ | _
  · obtain ⟨N, hN, hN9, HO3, HS3, HK3, HZ3⟩ := key x w2 hx0 (by omega) (hs2.up (by omega)) (.refl _ _)
    subst hN
    clear key HO2 HK2 HZ2 hs2
    go_wp2_with fail
    go_loopw [3, 5] (fun v b wr => ∃ (j i : Nat) (bs : Nat → List Int × Int), i + j = N ∧ b = .int .i64 j ∧ Hid (SmallB bs i ∧ GoodB bs i) ∧ Hid (OwnB wr w.heap.size wr.heap.size v i bs) ∧ Hid (Src wr g A n c (K + 6 + 20 * i)) ∧ Hid (But g w wr)) (fun _ b _ => (intOf b).toNat)
    case atStart => exact ⟨N, 0, fun _ => ([], 0), by omega, rfl, ⟨fun i hi => absurd hi (by omega), fun i hi => absurd hi (by omega)⟩, HO3.out.upper HZ3.out (Nat.le_refl _), HS3.out, HK3.out⟩
    case round =>
      clear HO3 HS3 HK3 HZ3
      obtain ⟨j, i, bs, hij, rfl, HB, HO, HS, HK⟩ := hrel
      have hwr := HK.out.size
      by_cases hj : 0 < j
      · go_wp2_with fail
        refine (newBed_s g A n c _ wr HS.out (by omega)).mono ?_
        rintro e w4 ⟨zs, a, γ, cc, rfl, hl1, hl4, hz, ha0, ha1, ho, hs4, hk4⟩
        have HO4 : Hid (OwnB w4 w.heap.size wr.heap.size _ i (addB bs i (zs, a))) := (HO.out.but hk4 hlt).congr (fun k hk => addB_else bs i (zs, a) (by omega))
        have HB4 : Hid (SmallB (addB bs i (zs, a)) (i + 1) ∧ GoodB (addB bs i (zs, a)) (i + 1)) := by
          refine ⟨fun k hk => ?_, fun k hk => ?_⟩
          · by_cases e : k = i
            · subst e
              rw [(addB_at bs k (zs, a)).1, (addB_at bs k (zs, a)).2]
              exact ⟨by show zs.length ≤ 6; omega, fun z hh => by have := hz z hh; omega, by show -1 ≤ a; omega, by show a ≤ 7; omega⟩
            · unfold yl ag; rw [addB_else bs i (zs, a) e]; exact HB.out.1 k (by omega)
          · by_cases e : k = i
            · subst e
              rw [(addB_at bs k (zs, a)).1]
              exact ⟨hl1, hl4⟩
            · unfold yl; rw [addB_else bs i (zs, a) e]; exact HB.out.2 k (by omega)
        have HO5 := Lib.hid ho
        have HS5 := Lib.hid hs4
        have HK5 := Lib.hid hk4
        have hz4 := hk4.size
        have hi9 : i ≤ 9 := by omega
        obtain ⟨l, hl⟩ : ∃ l, zs.length = l := ⟨_, rfl⟩
        have HL := Lib.hid hl
        rw [hl]
        clear ho hs4 hk4 hl1 hl4 hz ha1 hl
        go_wp2_with (at_builtin; go_loud (refine append_bed rfl (.tmp 19) (.tmp 22) rfl w.heap.size wr.heap.size _ i (addB bs i (zs, a)) rfl (HO4.out.below (balloc (Below.refl _ w4) _) hz4) γ cc (HO5.out.lt γ rfl).1 (by rw [(addB_at bs i (zs, a)).1]; exact (HO5.out.base_le hwr).alloc _) _ rfl (by rw [(addB_at bs i (zs, a)).1, (addB_at bs i (zs, a)).2]; show Blk _ _ 41 #[.slice (some ⟨γ, 0, none⟩) zs.length cc, .int .i64 a]; rw [HL.out]; exact blk_at rfl) (by omega) (by simp; omega) ?_); intro v1 w5 hown1 hgr1)
        have hrow := fun k hk => (HO.out.lt k hk).1
        go_roundw
        case rel => exact ⟨j - 1, i + 1, addB bs i (zs, a), by omega, by first | go_num | (congr 1; omega), HB4.out, hown1, src_grown ((HS5.out.up (by omega)).on (balloc (Below.refl _ w4) _) HS5.out.lt) hgr1 (fun k hk => by have := hrow k hk; omega), ((HK.out.trans HK5.out).alloc _).grown hgr1 hrow⟩
        case measure => simp [intOf]; omega
      · obtain rfl : j = 0 := by omega
        obtain rfl : i = N := by omega
        by_cases hN0 : 0 < i
        · have hNi : (0 : Int) < (i : Int) := by omega
          go_wp2_with fail
          refine (one_s g A n c _ 10 wr HS.out (by omega)).mono ?_
          rintro e w4 ⟨y, rfl, hs4, hk4⟩
          have HS4 := Lib.hid hs4
          have HK4 := Lib.hid (HK.out.trans hk4)
          have HO4 := Lib.hid (HO.out.but hk4 hlt)
          have hz4 := hk4.size
          clear hs4 hk4
          rcases y with _ | _
          · go_wp2
            go_ret
            exact ⟨_, i, bs, rfl, hN9, HB.out.1, HO4.out.upper hz4 (Nat.le_refl _), HS4.out.up (by omega), HK4.out⟩
          · rcases HO4.out.form with ⟨rfl, h0⟩ | ⟨q, cap, rfl⟩
            · omega
            obtain ⟨γ, cc, x0, x1, f0, f1, y0, fy, hq, hγ, hq0, hγ0, hne, hsp⟩ := HO4.out.first hN0 (HB.out.2 0 hN0).1
            have HSP := Lib.hid hsp
            have hbd := HB.out.1 0 hN0
            have hgd := HB.out.2 0 hN0
            clear hsp
            go_wp2_with fail
            refine (spoil_s g A n c _ q 0 γ _ cc _ _ w4 HS4.out (by omega) x0 x1 f0 f1 y0 fy hq hγ (by omega) (by omega) hne hgd.1 (by omega)).mono ?_
            rintro e w5 ⟨rfl, w6, hk6, hs6, hsw⟩
            obtain ⟨s0, s1, s2⟩ := HSP.out g w6 hk6 hlt
            have hz6 := hk6.size
            rcases hsw with ⟨u, hu0, hu1, rfl⟩ | ⟨u, hu0, hu1, rfl⟩ | ⟨γ', m', hm6, hγ', ho', rfl⟩
            · go_wp2
              go_ret
              exact ⟨_, i, _, rfl, hN9, HB.out.1.put (x := ((yl bs 0).set 0 u, ag bs 0)) (by show (List.set _ _ _).length ≤ 6; rw [List.length_set]; exact hbd.1) (wf_set hbd.2.1 ⟨hu0, hu1⟩) hbd.2.2, (s0 u).upper (by rw [size_setCell]; omega) (Nat.le_refl _), src_far (hs6.up (by omega)) (by show g < γ; omega) _, (HK4.out.trans hk6).far (p := ⟨γ, 0, none⟩) (by show w.heap.size ≤ γ; omega) _⟩
            · go_wp2
              go_ret
              exact ⟨_, i, _, rfl, hN9, HB.out.1.put (x := (yl bs 0, u)) hbd.1 hbd.2.1 ⟨hu0, by show u ≤ 7; omega⟩, (s1 u).upper (by rw [size_setCell]; omega) (Nat.le_refl _), src_far (hs6.up (by omega)) (by show g < q; omega) _, (HK4.out.trans hk6).far (p := ⟨q, 0 + 1, none⟩) (by show w.heap.size ≤ q; omega) _⟩
            · go_wp2
              go_ret
              exact ⟨_, i, _, rfl, hN9, HB.out.1.put (x := (List.replicate m' 0, ag bs 0)) (by show (List.replicate _ _).length ≤ 6; rw [List.length_replicate]; exact hm6) (wf_rep _) hbd.2.2, (s2 γ' m' hγ' ho').upper (by rw [size_setCell]; omega) (Nat.le_refl _), src_far (hs6.up (by omega)) (by show g < q; omega) _, (HK4.out.trans hk6).far (p := ⟨q, 0, none⟩) (by show w.heap.size ≤ q; omega) _⟩
        · go_wp2
          go_ret
          exact ⟨_, i, bs, rfl, hN9, HB.out.1, HO.out, HS.out.up (by omega), HK.out⟩
  · go_wp2_with fail
    refine (among_s g A n c _ w2.heap.size 3 [5, 8, 9] _ (hs2.on (balloc (Below.refl _ _) _) hlt2) (by omega) (Blk.new _ _ _) (by omega) rfl (by omega) (by omega)).mono ?_
    rintro e w3 ⟨x', rfl, hx', hs3, hk3⟩
    simp only [List.mem_cons, List.not_mem_nil, or_false] at hx'
    obtain ⟨N, hN, hN9, HO3, HS3, HK3, HZ3⟩ := key x' w3 (by omega) (by omega) (hs3.up (by omega)) (((But.refl g w2).alloc _).trans hk3)
    subst hN
    clear key HO2 HK2 HZ2 hs2 hx' hs3 hk3
    go_wp2_with fail
    go_loopw [3, 5] (fun v b wr => ∃ (j i : Nat) (bs : Nat → List Int × Int), i + j = N ∧ b = .int .i64 j ∧ Hid (SmallB bs i ∧ GoodB bs i) ∧ Hid (OwnB wr w.heap.size wr.heap.size v i bs) ∧ Hid (Src wr g A n c (K + 6 + 20 * i)) ∧ Hid (But g w wr)) (fun _ b _ => (intOf b).toNat)
    case atStart => exact ⟨N, 0, fun _ => ([], 0), by omega, rfl, ⟨fun i hi => absurd hi (by omega), fun i hi => absurd hi (by omega)⟩, HO3.out.upper HZ3.out (Nat.le_refl _), HS3.out, HK3.out⟩
    case round =>
      clear HO3 HS3 HK3 HZ3
      obtain ⟨j, i, bs, hij, rfl, HB, HO, HS, HK⟩ := hrel
      have hwr := HK.out.size
      by_cases hj : 0 < j
      · go_wp2_with fail
        refine (newBed_s g A n c _ wr HS.out (by omega)).mono ?_
        rintro e w4 ⟨zs, a, γ, cc, rfl, hl1, hl4, hz, ha0, ha1, ho, hs4, hk4⟩
        have HO4 : Hid (OwnB w4 w.heap.size wr.heap.size _ i (addB bs i (zs, a))) := (HO.out.but hk4 hlt).congr (fun k hk => addB_else bs i (zs, a) (by omega))
        have HB4 : Hid (SmallB (addB bs i (zs, a)) (i + 1) ∧ GoodB (addB bs i (zs, a)) (i + 1)) := by
          refine ⟨fun k hk => ?_, fun k hk => ?_⟩
          · by_cases e : k = i
            · subst e
              rw [(addB_at bs k (zs, a)).1, (addB_at bs k (zs, a)).2]
              exact ⟨by show zs.length ≤ 6; omega, fun z hh => by have := hz z hh; omega, by show -1 ≤ a; omega, by show a ≤ 7; omega⟩
            · unfold yl ag; rw [addB_else bs i (zs, a) e]; exact HB.out.1 k (by omega)
          · by_cases e : k = i
            · subst e
              rw [(addB_at bs k (zs, a)).1]
              exact ⟨hl1, hl4⟩
            · unfold yl; rw [addB_else bs i (zs, a) e]; exact HB.out.2 k (by omega)
        have HO5 := Lib.hid ho
        have HS5 := Lib.hid hs4
        have HK5 := Lib.hid hk4
        have hz4 := hk4.size
        have hi9 : i ≤ 9 := by omega
        obtain ⟨l, hl⟩ : ∃ l, zs.length = l := ⟨_, rfl⟩
        have HL := Lib.hid hl
        rw [hl]
        clear ho hs4 hk4 hl1 hl4 hz ha1 hl
        go_wp2_with (at_builtin; go_loud (refine append_bed rfl (.tmp 19) (.tmp 22) rfl w.heap.size wr.heap.size _ i (addB bs i (zs, a)) rfl (HO4.out.below (balloc (Below.refl _ w4) _) hz4) γ cc (HO5.out.lt γ rfl).1 (by rw [(addB_at bs i (zs, a)).1]; exact (HO5.out.base_le hwr).alloc _) _ rfl (by rw [(addB_at bs i (zs, a)).1, (addB_at bs i (zs, a)).2]; show Blk _ _ 41 #[.slice (some ⟨γ, 0, none⟩) zs.length cc, .int .i64 a]; rw [HL.out]; exact blk_at rfl) (by omega) (by simp; omega) ?_); intro v1 w5 hown1 hgr1)
        have hrow := fun k hk => (HO.out.lt k hk).1
        go_roundw
        case rel => exact ⟨j - 1, i + 1, addB bs i (zs, a), by omega, by first | go_num | (congr 1; omega), HB4.out, hown1, src_grown ((HS5.out.up (by omega)).on (balloc (Below.refl _ w4) _) HS5.out.lt) hgr1 (fun k hk => by have := hrow k hk; omega), ((HK.out.trans HK5.out).alloc _).grown hgr1 hrow⟩
        case measure => simp [intOf]; omega
      · obtain rfl : j = 0 := by omega
        obtain rfl : i = N := by omega
        by_cases hN0 : 0 < i
        · have hNi : (0 : Int) < (i : Int) := by omega
          go_wp2_with fail
          refine (one_s g A n c _ 10 wr HS.out (by omega)).mono ?_
          rintro e w4 ⟨y, rfl, hs4, hk4⟩
          have HS4 := Lib.hid hs4
          have HK4 := Lib.hid (HK.out.trans hk4)
          have HO4 := Lib.hid (HO.out.but hk4 hlt)
          have hz4 := hk4.size
          clear hs4 hk4
          rcases y with _ | _
          · go_wp2
            go_ret
            exact ⟨_, i, bs, rfl, hN9, HB.out.1, HO4.out.upper hz4 (Nat.le_refl _), HS4.out.up (by omega), HK4.out⟩
          · rcases HO4.out.form with ⟨rfl, h0⟩ | ⟨q, cap, rfl⟩
            · omega
            obtain ⟨γ, cc, x0, x1, f0, f1, y0, fy, hq, hγ, hq0, hγ0, hne, hsp⟩ := HO4.out.first hN0 (HB.out.2 0 hN0).1
            have HSP := Lib.hid hsp
            have hbd := HB.out.1 0 hN0
            have hgd := HB.out.2 0 hN0
            clear hsp
            go_wp2_with fail
            refine (spoil_s g A n c _ q 0 γ _ cc _ _ w4 HS4.out (by omega) x0 x1 f0 f1 y0 fy hq hγ (by omega) (by omega) hne hgd.1 (by omega)).mono ?_
            rintro e w5 ⟨rfl, w6, hk6, hs6, hsw⟩
            obtain ⟨s0, s1, s2⟩ := HSP.out g w6 hk6 hlt
            have hz6 := hk6.size
            rcases hsw with ⟨u, hu0, hu1, rfl⟩ | ⟨u, hu0, hu1, rfl⟩ | ⟨γ', m', hm6, hγ', ho', rfl⟩
            · go_wp2
              go_ret
              exact ⟨_, i, _, rfl, hN9, HB.out.1.put (x := ((yl bs 0).set 0 u, ag bs 0)) (by show (List.set _ _ _).length ≤ 6; rw [List.length_set]; exact hbd.1) (wf_set hbd.2.1 ⟨hu0, hu1⟩) hbd.2.2, (s0 u).upper (by rw [size_setCell]; omega) (Nat.le_refl _), src_far (hs6.up (by omega)) (by show g < γ; omega) _, (HK4.out.trans hk6).far (p := ⟨γ, 0, none⟩) (by show w.heap.size ≤ γ; omega) _⟩
            · go_wp2
              go_ret
              exact ⟨_, i, _, rfl, hN9, HB.out.1.put (x := (yl bs 0, u)) hbd.1 hbd.2.1 ⟨hu0, by show u ≤ 7; omega⟩, (s1 u).upper (by rw [size_setCell]; omega) (Nat.le_refl _), src_far (hs6.up (by omega)) (by show g < q; omega) _, (HK4.out.trans hk6).far (p := ⟨q, 0 + 1, none⟩) (by show w.heap.size ≤ q; omega) _⟩
            · go_wp2
              go_ret
              exact ⟨_, i, _, rfl, hN9, HB.out.1.put (x := (List.replicate m' 0, ag bs 0)) (by show (List.replicate _ _).length ≤ 6; rw [List.length_replicate]; exact hm6) (wf_rep _) hbd.2.2, (s2 γ' m' hγ' ho').upper (by rw [size_setCell]; omega) (Nat.le_refl _), src_far (hs6.up (by omega)) (by show g < q; omega) _, (HK4.out.trans hk6).far (p := ⟨q, 0, none⟩) (by show w.heap.size ≤ q; omega) _⟩
        · go_wp2
          go_ret
          exact ⟨_, i, bs, rfl, hN9, HB.out.1, HO.out, HS.out.up (by omega), HK.out⟩
end Go.Proofs.Ytnlddplhaiceaaa
