/-
  SortBunches: the walks.
  No conditions.
-/
import Derived.Test.YtgcpobondcnjcaaGreatDoorStabK
import Derived.Test.YtgcpobondcnjcaaGreatDoorSbP
import Derived.Test.YtgcpobondcnjcaaGreatDoorOrd
namespace Go.Proofs.YtgcpobondcnjcaaGreatDoor
open Go.ChangeShapes Go.WideShapes Go.ChangeAt Go.RowKit Go.Deep Go.Shelf Go.Lib Go.Sort
set_option linter.unusedVariables false

theorem cmpB_c (x0 x1 x2 y0 y1 y2 : Int) (w : World) (hx0 : 0 ≤ x0 ∧ x0 ≤ 50000) (hx2 : 0 ≤ x2 ∧ x2 ≤ 50000) (hy0 : 0 ≤ y0 ∧ y0 ≤ 50000) (hy2 : 0 ≤ y2 ∧ y2 ≤ 50000) :
    Calls Tryz.prog 42 #[.agg #[.int .i64 x0, .int .i64 x1, .int .i64 x2], .agg #[.int .i64 y0, .int .i64 y1, .int .i64 y2]] w fun e w' => e = .returned (.int .i64 (if x0 = y0 then x2 - y2 else x0 - y0)) ∧ ∃ q os', w' = grow (w.drewN q) os' := by
  have hfin : ∀ (o o' : Obj), ∃ q os', (w.alloc o).alloc o' = grow (w.drewN q) os' := fun o o' => ⟨0, #[o] ++ #[o'], by rw [← grow_grow, ← alloc_eq_grow, ← alloc_eq_grow]; rfl⟩
  have HF := Lib.hid hfin
  clear hfin
  by_cases h : x0 = y0
  · have hv : (if x0 = y0 then x2 - y2 else x0 - y0) = x2 - y2 := if_pos h
    rw [hv]
    have hb : (x0 != y0) = false := by rw [bne_eq_false_iff_eq]; exact h
    clear hv h
    go_enter Tryz.func42, Tryz.ntmps42
    go_wp2
    go_ret
    exact ⟨rfl, HF.out _ _⟩
  · have hv : (if x0 = y0 then x2 - y2 else x0 - y0) = x0 - y0 := if_neg h
    rw [hv]
    have hb : (x0 != y0) = true := by rw [bne_iff_ne]; exact h
    clear hv h
    go_enter Tryz.func42, Tryz.ntmps42
    go_wp2
    go_ret
    exact ⟨rfl, HF.out _ _⟩
theorem cmpB_lays {zs : List Int} {n g : Nat} {w : World} (hok : okAll (bunchAt zs) n 30 = true) (h0 : 0 < n) : CmpLays Tryz.prog 42 #[] (enc3 (clB zs n)) 3 (cfB zs n) g 0 n w := by
  intro m os dk hs x y
  have hx := clB_bd hok h0 x
  have hy := clB_bd hok h0 y
  exact cmpB_c _ _ _ _ _ _ _ (by omega) (by omega) (by omega) (by omega)

theorem cloneB_c (ad : Addr) (n c : Nat) (zs : List Int) (w : World) (h : Ints w w.heap.size 3 (some ad) n zs) (hn : n ≤ 1048576) :
    Calls Tryz.prog 40 #[.slice (some ad) n c] w fun e w' => ∃ v, e = .returned v ∧ Own3 w' w.heap.size v n zs ∧ Below w.heap.size w w' := by
  have hl := h.length
  have hnews : ∀ j, j < n * 3 → (w.alloc (.cells #[] 40)).cell? (ad.add j) = some (.int .i64 (gi zs j)) := by
    intro j hj
    obtain ⟨b, off, e, hb, hc⟩ := h.at_ (by omega)
    injection e with e
    subst e
    have e2 : (⟨b, off, none⟩ : Addr).add j = ⟨b, off + j, none⟩ := by unfold Addr.add; split <;> simp_all
    rw [e2, World.cell?_alloc_lt w _ _ hb, hc j hj]
  have HH := Lib.hid (And.intro hl hnews)
  clear hl hnews h
  have hnl := fun (x : World) (a : Option Addr) (p q : Nat) => Lib.run_eql_slice_nil (P := Tryz.prog) x 27 40 a p q 0 0 Tryz.underlying27
  go_enter Tryz.func40, Tryz.ntmps40
  go_wp2_with (at_builtin; refine append_bns rfl (.tmp 5) (.tmp 6) rfl w.heap.size _ 0 [] rfl (Own3.empty w (Nat.le_refl _)) zs ad n c rfl HH.out.1 HH.out.2 (by omega) hn (by simp) ?_; intro v1 w2 hown1 hgr1)
  go_ret
  exact ⟨_, rfl, by have := hown1; rwa [Nat.zero_add, List.nil_append] at this, below_grown (balloc (Below.refl _ w) _) hgr1 (fun g hg => by have e : some w.heap.size = some g := hg; injection e with e; omega)⟩
theorem cloneB0_c (n c : Nat) (w : World) :
    Calls Tryz.prog 40 #[.slice none n c] w fun e w' => e = .returned (.slice none 0 0) ∧ w = w' := by
  have hnl := fun (x : World) (a : Option Addr) (p q : Nat) => Lib.run_eql_slice_nil (P := Tryz.prog) x 27 40 a p q 0 0 Tryz.underlying27
  go_enter Tryz.func40, Tryz.ntmps40
  go_wp2
  go_ret
  exact ⟨rfl, rfl⟩

set_option maxRecDepth 100000 in
theorem sb_i (A : Option Addr) (n c : Nat) (zs : List Int) (w : World) (h : Ints w w.heap.size 3 A n zs) (hn : n ≤ 1048576) :
    Calls Tryz.prog 9 #[.slice A n c] w fun e w' => ∃ v, e = .returned (.tuple #[v, .int .i64 (sbC zs n)]) ∧ Own3 w' w.heap.size v (sbN zs n) (sbV zs n) ∧ Below w.heap.size w w' := by
  rcases hok : okAll (bunchAt zs) n 30 with _ | _
  · have HV : Hid (sbV zs n = [] ∧ sbN zs n = 0 ∧ sbC zs n = 1) := by show _ ∧ _; simp [sbV, sbN, sbC, hok]
    go_enter Tryz.func9, Tryz.ntmps9
    go_wp2_with fail
    refine (ValidBunches_c _ _ _ zs _ h hn).mono ?_
    rintro e w2 ⟨rfl, hb2⟩
    rw [hok]
    go_wp2
    go_ret2
    exact ⟨_, by rw [HV.out.2.2]; rfl, by rw [HV.out.1, HV.out.2.1]; exact Own3.nil _ _, hb2⟩
  · have HV : Hid (sbV zs n = flB zs (stTo (bK zs n) n) ∧ sbN zs n = n ∧ sbC zs n = 0) := by show _ ∧ _; simp [sbV, sbN, sbC, hok]
    have hn30 := okAll_le hok
    rcases A with _ | ad
    · have hz : n = 0 ∧ zs = [] := by
        have hl := h.length
        rcases Nat.eq_zero_or_pos n with q | q
        · exact ⟨q, List.eq_nil_of_length_eq_zero (by omega)⟩
        · obtain ⟨b, off, e, _⟩ := h.at_ q
          cases e
      obtain ⟨rfl, rfl⟩ := hz
      have HK := Lib.hid hok
      go_enter Tryz.func9, Tryz.ntmps9
      go_wp2_with fail
      refine (ValidBunches_c _ _ _ [] _ h hn).mono ?_
      rintro e w2 ⟨rfl, hb2⟩
      rw [HK.out]
      go_wp2_with fail
      refine (cloneB0_c 0 c _).mono ?_
      rintro e w3 ⟨rfl, hw⟩
      subst w3
      go_wp2_with fail
      refine (sortStableB0_c none 0 _ _).mono ?_
      rintro e w3 ⟨rfl, hw⟩
      subst w3
      go_wp2
      go_ret2
      exact ⟨_, by rw [HV.out.2.2]; rfl, by rw [HV.out.1, HV.out.2.1]; exact Own3.nil _ _, hb2⟩
    · go_enter Tryz.func9, Tryz.ntmps9
      go_wp2_with fail
      refine (ValidBunches_c _ _ _ zs _ h hn).mono ?_
      rintro e w2 ⟨rfl, hb2⟩
      rw [hok]
      go_wp2_with fail
      refine (cloneB_c ad n c zs _ ((h.below hb2 (Nat.le_refl _)).more hb2.size) hn).mono ?_
      rintro e w3 ⟨v, rfl, hown, hb3⟩
      have c3 := btrans hb2 hb3
      rcases Nat.eq_zero_or_pos n with q | q
      · subst q
        obtain ⟨A3, cap3, rfl, -, -⟩ := hown.ints h.wf
        go_wp2_with fail
        refine (sortStableB0_c _ cap3 _ _).mono ?_
        rintro e w4 ⟨rfl, hw⟩
        subst w4
        go_wp2
        go_ret2
        have hz : zs = [] := List.eq_nil_of_length_eq_zero (by have := h.length; omega)
        subst hz
        exact ⟨_, by rw [HV.out.2.2]; rfl, by rw [HV.out.1, HV.out.2.1]; exact hown.base_le hb2.size, c3⟩
      · obtain ⟨g, cap, rfl⟩ := own3_form hown q
        have hgb := (hown.lt g rfl).1
        have hs2 := hb2.size
        have M : MB Tryz.prog (clB zs n) w3 g (upTo n).toArray 42 #[] (cfB zs n) (bK zs n) n := ⟨row_of hown, (upTo_sz n).symm, by omega, cmpB_lays hok q, cfB_sgn hok q, enters_of Tryz.func42 (by decide) rfl⟩
        have HS := Lib.hid (sortStableB_c M cap q hn30)
        have HO := Lib.hid hown
        clear M hown
        go_wp2_with fail
        refine HS.out.mono ?_
        rintro e w4 ⟨rfl, S⟩
        have HT : Aside (SwB (clB zs n) w3 g (stTo (bK zs n) n).toArray w4) := S
        clear S
        go_wp2
        go_ret2
        exact ⟨_, by rw [HV.out.2.2]; rfl, by rw [HV.out.1, HV.out.2.1]; exact (sw_own3 HO.out HT.out (stTo_len _ _) (fun z hz => stTo_mem _ _ z hz)).base_le hs2, c3.trans (swb_below HT.out (by omega) c3.size)⟩

theorem drew2 (w : World) (a b : Nat) : ∃ q, (w.drewN a).drewN b = w.drewN q := ⟨a + b, by simp⟩
/-- Does a bundle come ahead of another one? -/
def bef (x0 x2 y0 y2 : Int) : Bool := if x0 = y0 then decide (x2 < y2) else decide (x0 < y0)
set_option maxRecDepth 100000 in
theorem l05Before_c (b o b' o' : Nat) (x0 x2 y0 y2 : Int) (w : World) (c0 : w.cell? ⟨b, o, none⟩ = some (.int .i64 x0)) (c2 : w.cell? ⟨b, o + 2, none⟩ = some (.int .i64 x2)) (d0 : w.cell? ⟨b', o', none⟩ = some (.int .i64 y0)) (d2 : w.cell? ⟨b', o' + 2, none⟩ = some (.int .i64 y2)) :
    Calls Tryz.prog 44 #[.pointer (some ⟨b, o, none⟩), .pointer (some ⟨b', o', none⟩)] w fun e w' => e = .returned (.bool (bef x0 x2 y0 y2)) ∧ ∃ q, w' = w.drewN q := by
  by_cases h : x0 = y0
  · have hv : bef x0 x2 y0 y2 = decide (x2 < y2) := if_pos h
    rw [hv]
    have hb : (x0 != y0) = false := by rw [bne_eq_false_iff_eq]; exact h
    clear hv h
    go_enter Tryz.func44, Tryz.ntmps44
    go_wp2_with fail
    go_quiet (fail)
    go_wp2_with fail
    go_quiet (fail)
    go_wp2
    go_ret
    exact ⟨rfl, drew2 _ _ _⟩
  · have hv : bef x0 x2 y0 y2 = decide (x0 < y0) := if_neg h
    rw [hv]
    have hb : (x0 != y0) = true := by rw [bne_iff_ne]; exact h
    clear hv h
    go_enter Tryz.func44, Tryz.ntmps44
    go_wp2_with fail
    go_quiet (fail)
    go_wp2_with fail
    go_quiet (fail)
    go_wp2
    go_ret
    exact ⟨rfl, drew2 _ _ _⟩
end Go.Proofs.YtgcpobondcnjcaaGreatDoor
