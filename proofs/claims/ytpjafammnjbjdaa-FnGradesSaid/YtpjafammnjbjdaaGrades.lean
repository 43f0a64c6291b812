/-
  FnGrades at what the reference draws.
  No conditions of ours.
-/
import Derived.Test.YtpjafammnjbjdaaGradesP
import Derived.Deep.RegionHeld3
namespace Go.Proofs.Ytpjafammnjbjdaa
open Go.ChangeShapes Go.WideShapes Go.ChangeAt Go.RowKit Go.Deep
set_option linter.unusedVariables false

theorem lim_ok {p q : Int} (h0 : 0 ≤ p) (h1 : p < 10) (h2 : 0 ≤ q) (h3 : q < 20) : limB [300 + 50 * p, 1000 + 50 * q] 2 = true := by
  simp only [limB, okAll, Bool.and_eq_true, List.all_eq_true, decide_eq_true_eq]
  refine ⟨fun i hi => ?_, by omega⟩
  have := List.mem_range.1 hi
  rcases (by omega : i = 0 ∨ i = 1) with rfl | rfl <;> simp [riseAt, inR, gi] <;> omega
theorem lim_wf {p q : Int} (h0 : 0 ≤ p) (h1 : p < 10) (h2 : 0 ≤ q) (h3 : q < 20) : ∀ z ∈ [300 + 50 * p, 1000 + 50 * q], -9223372036854775808 ≤ z ∧ z ≤ 9223372036854775807 := by
  intro z hz
  simp at hz
  omega
theorem blk_ints {w : World} {g : Nat} {xs : List Int} (h : Blk w g 2 (iv xs).toArray) (hw : ∀ z ∈ xs, -9223372036854775808 ≤ z ∧ z ≤ 9223372036854775807) (n : Nat) (hn : xs.length = n) : Ints w w.heap.size 1 (some ⟨g, 0, none⟩) n xs :=
  ⟨h.reads (by rw [iv_length]; omega) _ (Nat.le_refl _), hw⟩

theorem ints_head {w : World} {B n q : Nat} {A : Option Addr} {zs : List Int} (h : Ints w B 1 A n zs) (hq : q ≤ n) : Ints w B 1 A q (zs.take q) := by
  have hl := h.length
  refine ⟨⟨by rw [iv_length, List.length_take]; omega, fun h0 => ?_⟩, fun z hz => h.wf z (List.mem_of_mem_take hz)⟩
  obtain ⟨b, off, e, hb, hc⟩ := h.reads.2 (by omega)
  refine ⟨b, off, e, hb, fun j u hu => hc j u ?_⟩
  have hj : j < (iv (zs.take q)).length := (List.getElem?_eq_some_iff.1 hu).1
  rw [iv_length] at hj
  rw [iv_get _ j hj] at hu
  rw [List.length_take] at hj
  rw [iv_get zs j (by omega), ← hu]
  rw [gi_take (by omega)]
theorem own_cap' {w : World} {base n cap : Nat} {A : Option Addr} {zs : List Int} (h : Own w base (.slice A n cap) zs) : n ≤ cap := by
  rcases h.2 with ⟨e, _⟩ | ⟨g', cap', cur, e, _, _, hc, _⟩
  · injection e with _ e2 e3; omega
  · injection e with _ e2 e3; omega
theorem st_wf (f : Int → Int) (m : Nat) (hm : m ≤ 1000) : ∀ z ∈ stTo f m, -9223372036854775808 ≤ z ∧ z ≤ 9223372036854775807 := fun z hz => by have := stTo_mem f m z hz; omega
theorem sel_wf (p : Nat → Bool) (m : Nat) (hm : m ≤ 1000) : ∀ z ∈ selTo p m, -9223372036854775808 ≤ z ∧ z ≤ 9223372036854775807 := fun z hz => by have := selTo_mem p m z hz; omega
theorem cg_wf (zs ls : List Int) (m k : Nat) (hk : k ≤ 1000) : ∀ z ∈ cgTo zs ls m k, -9223372036854775808 ≤ z ∧ z ≤ 9223372036854775807 := fun z hz => by have := cg_bd zs ls m k z hz; omega

theorem gr_cases {zs : List Int} {l0 l1 : Int} {k : Nat} (hl : l0 < l1) (hd : dR zs k) (hlm : limB [l0, l1] 2 = true) :
    ∃ G : Nat, grV (gi zs (k * 3)) (gi zs (k * 3 + 1)) (gi zs (k * 3 + 2)) [l0, l1] 2 = G ∧ grC (gi zs (k * 3)) (gi zs (k * 3 + 1)) (gi zs (k * 3 + 2)) [l0, l1] 2 = 0 ∧ grN zs [l0, l1] 2 k = G ∧
      ((¬ l0 ≤ gi zs (k * 3) ∧ ¬ l1 ≤ gi zs (k * 3) ∧ G = 0) ∨ (l0 ≤ gi zs (k * 3) ∧ ¬ l1 ≤ gi zs (k * 3) ∧ G = 1) ∨ (l0 ≤ gi zs (k * 3) ∧ l1 ≤ gi zs (k * 3) ∧ G = 2)) := by
  have hok : rodOk (gi zs (k * 3)) (gi zs (k * 3 + 1)) (gi zs (k * 3 + 2)) = true := by
    unfold dR at hd
    simp only [rodOk, inR, Bool.and_eq_true, decide_eq_true_eq]; omega
  have hs : sumTo (grF [l0, l1] (gi zs (k * 3))) 2 = (if l0 ≤ gi zs (k * 3) then 1 else 0) + (if l1 ≤ gi zs (k * 3) then 1 else 0) := by simp [sumTo, grF, gi]
  have hV : grV (gi zs (k * 3)) (gi zs (k * 3 + 1)) (gi zs (k * 3 + 2)) [l0, l1] 2 = sumTo (grF [l0, l1] (gi zs (k * 3))) 2 := by simp [grV, hok, hlm]
  have hC : grC (gi zs (k * 3)) (gi zs (k * 3 + 1)) (gi zs (k * 3 + 2)) [l0, l1] 2 = 0 := by simp [grC, hok, hlm]
  refine ⟨grN zs [l0, l1] 2 k, ?_, hC, rfl, ?_⟩
  · rw [hV, grN_eq]
  · have := grN_eq zs [l0, l1] 2 k
    rw [hs] at this
    by_cases h0 : l0 ≤ gi zs (k * 3) <;> by_cases h1 : l1 ≤ gi zs (k * 3) <;> simp only [h0, h1, if_true, if_false] at this <;> omega

theorem cg_nx {zs ls : List Int} {k G : Nat} {C : Int} {w : World} {g : Nat} (h3 : grN zs ls 2 k = G) (hc : gi (cgTo zs ls 2 k) G = C) (h : Blk w g 2 ((iv (cgTo zs ls 2 k)).toArray.setIfInBounds G (.int .i64 (C + 1)))) : Blk w g 2 (iv (cgTo zs ls 2 (k + 1))).toArray := by
  rw [List.setIfInBounds_toArray, iv_set2] at h
  have e : cgTo zs ls 2 (k + 1) = (cgTo zs ls 2 k).set G (C + 1) := by simp only [cgTo]; rw [h3, hc]
  rw [e]; exact h

theorem ap_call {zs : List Int} {i k : Nat} {S : Int} (hi : dR zs i) (hk : dR zs k) (hS : apF zs i k = S) (w : World) :
    Calls Try.prog 25 #[.agg #[.int .i64 (gi zs (i * 3)), .int .i64 (gi zs (i * 3 + 1)), .int .i64 (gi zs (i * 3 + 2))], .agg #[.int .i64 (gi zs (k * 3)), .int .i64 (gi zs (k * 3 + 1)), .int .i64 (gi zs (k * 3 + 2))]] w fun e w' => e = .returned (.int .i64 S) ∧ Below w.heap.size w w' := by
  subst hS
  unfold dR at hi hk
  exact a2Apart_c _ _ _ _ _ _ w (by omega) (by omega)
theorem keep12 {wr w' : World} {b o1 o2 o3 o4 : Nat} {u0 u1 u2 v0 v1 v2 x0 x1 x2 y0 y1 y2 : Value} (hb : b < wr.heap.size)
    (a0 : wr.cell? ⟨b, o1, none⟩ = some u0) (a1 : wr.cell? ⟨b, o1 + 1, none⟩ = some u1) (a2 : wr.cell? ⟨b, o1 + 2, none⟩ = some u2)
    (b0 : wr.cell? ⟨b, o2, none⟩ = some v0) (b1 : wr.cell? ⟨b, o2 + 1, none⟩ = some v1) (b2 : wr.cell? ⟨b, o2 + 2, none⟩ = some v2)
    (c0 : wr.cell? ⟨b, o3, none⟩ = some x0) (c1 : wr.cell? ⟨b, o3 + 1, none⟩ = some x1) (c2 : wr.cell? ⟨b, o3 + 2, none⟩ = some x2)
    (d0 : wr.cell? ⟨b, o4, none⟩ = some y0) (d1 : wr.cell? ⟨b, o4 + 1, none⟩ = some y1) (d2 : wr.cell? ⟨b, o4 + 2, none⟩ = some y2) (h : Below wr.heap.size wr w') :
    (w'.cell? ⟨b, o1, none⟩ = some u0 ∧ w'.cell? ⟨b, o1 + 1, none⟩ = some u1 ∧ w'.cell? ⟨b, o1 + 2, none⟩ = some u2) ∧ (w'.cell? ⟨b, o2, none⟩ = some v0 ∧ w'.cell? ⟨b, o2 + 1, none⟩ = some v1 ∧ w'.cell? ⟨b, o2 + 2, none⟩ = some v2) ∧
      ((w'.cell? ⟨b, o3, none⟩ = some x0 ∧ w'.cell? ⟨b, o3 + 1, none⟩ = some x1 ∧ w'.cell? ⟨b, o3 + 2, none⟩ = some x2) ∧ (w'.cell? ⟨b, o4, none⟩ = some y0 ∧ w'.cell? ⟨b, o4 + 1, none⟩ = some y1 ∧ w'.cell? ⟨b, o4 + 2, none⟩ = some y2)) ∧ Below wr.heap.size wr w' := by
  have hc : ∀ (o : Nat) (u : Value), wr.cell? ⟨b, o, none⟩ = some u → w'.cell? ⟨b, o, none⟩ = some u := fun o u hu => (h.cell (p := ⟨b, o, none⟩) hb).trans hu
  exact ⟨⟨hc _ _ a0, hc _ _ a1, hc _ _ a2⟩, ⟨hc _ _ b0, hc _ _ b1, hc _ _ b2⟩, ⟨⟨hc _ _ c0, hc _ _ c1, hc _ _ c2⟩, ⟨hc _ _ d0, hc _ _ d1, hc _ _ d2⟩⟩, h⟩

set_option maxRecDepth 100000 in
set_option maxHeartbeats 16000000 in
theorem fnGrades_c (A A' : Option Addr) (n c n' c' : Nat) (w : World) (h : Octets w w.heap.size A n) (h' : Octets w w.heap.size A' n') :
    Calls Try.prog 4 #[.slice A n c, .slice A' n' c'] w fun e w' => e = .returned (.bool true) ∧ Below w.heap.size w w' := by
  have hn := h.le
  have hn' := h'.le
  rcases hbig : (decide (3000 < n) || decide (3000 < n')) with _ | _
  case true =>
    go_enter Try.func4, Try.ntmps4
    go_wp2_with fail
    refine (a2Long_c A A' n c n' c' _ hn hn').mono ?_
    rintro e w1 ⟨rfl, rfl⟩
    rw [hbig]
    go_wp2
    go_ret
    exact ⟨rfl, Below.refl _ _⟩
  case false =>
    have H' := Lib.hid (fun w1 (hb : Below w.heap.size w w1) => (h'.below hb (Nat.le_refl _)).more hb.size)
    go_enter Try.func4, Try.ntmps4
    go_wp2_with fail
    refine (a2Long_c A A' n c n' c' _ hn hn').mono ?_
    rintro e w1 ⟨rfl, rfl⟩
    rw [hbig]
    clear hbig
    go_wp2_with fail
    refine (A2Rods_s A n c _ h).mono ?_
    rintro e w2 ⟨v, m, zs, rfl, hm7, hd, c2⟩
    obtain ⟨B, cB, rfl, hI2⟩ := hd.ints
    have hok := dR_ok hd.bd (by omega)
    have HD := Lib.hid hd.bd
    have HOK := Lib.hid hok
    clear hd hok h
    go_wp2_with fail
    refine (a2At_c A' n' c' 0 10 _ (H'.out _ c2) (by omega)).mono ?_
    rintro e w3 ⟨p, rfl, hp0, hp1, b3⟩
    have c3 := btrans c2 b3
    go_wp2_with fail
    refine (a2At_c A' n' c' 1 20 _ (H'.out _ c3) (by omega)).mono ?_
    rintro e w4 ⟨q, rfl, hq0, hq1, b4⟩
    have c4 := btrans c3 b4
    have hLM := lim_ok hp0 hp1 hq0 hq1
    have hLW := lim_wf hp0 hp1 hq0 hq1
    obtain ⟨l0, hl0⟩ : ∃ x, x = 300 + 50 * p := ⟨_, rfl⟩
    obtain ⟨l1, hl1⟩ : ∃ x, x = 1000 + 50 * q := ⟨_, rfl⟩
    rw [← hl0, ← hl1] at hLM hLW
    have HLM := Lib.hid (And.intro hLM hLW)
    have HLL := Lib.hid (And.intro hl0 hl1)
    clear hLM hLW
    go_wp2_with fail
    rw [← HLL.out.1, ← HLL.out.2]
    have c4a := balloc c4 (.cells #[.int .i64 l0, .int .i64 l1] 2)
    have L4 : Blk (w4.alloc (.cells #[.int .i64 l0, .int .i64 l1] 2)) w4.heap.size 2 (iv [l0, l1]).toArray := Blk.new w4 _ _
    have HL4 := Lib.hid L4
    clear L4
    have i4 := ((hI2.below (b3.trans (b4.mono b3.size)) (Nat.le_refl _)).more (Nat.le_trans b3.size b4.size)).below (balloc (Below.refl _ w4) (.cells #[.int .i64 l0, .int .i64 l1] 2)) (Nat.le_refl _)
    have i4a := i4.more (B' := (w4.alloc (.cells #[.int .i64 l0, .int .i64 l1] 2)).heap.size) (by simp)
    have HIB := Lib.hid (fun w1 (hb : Below _ (w4.alloc (.cells #[.int .i64 l0, .int .i64 l1] 2)) w1) => (i4a.below hb (Nat.le_refl _)).more hb.size)
    have HCG : Hid (cgV zs m [l0, l1] 2 = cgTo zs [l0, l1] 2 m ∧ cgC zs m [l0, l1] 2 = 0) := by show _ ∧ _; simp [cgV, cgC, HOK.out, HLM.out.1]
    have HLG : Hid (lgV zs m = stTo (lenK zs m) m ∧ lgC zs m = 0) := by show _ ∧ _; simp [lgV, lgC, HOK.out]
    refine (count_i B m cB zs (some ⟨w4.heap.size, 0, none⟩) 2 2 [l0, l1] _ i4a (by omega) (blk_ints HL4.out HLM.out.2 2 rfl) (by omega)).mono ?_
    rintro e w5 ⟨v5, rfl, o5, b5⟩
    rw [HCG.out.2]
    rw [HCG.out.1] at o5
    clear i4 i4a hI2
    obtain ⟨g5, cap5, rfl⟩ := own_form o5 (by rw [cg_len]; omega)
    rw [cg_len] at o5 ⊢
    have O5 := Lib.hid o5
    clear o5
    have c5 := btrans c4a b5
    go_wp2_with fail
    refine (long_i B m cB zs _ (HIB.out _ b5) (by omega)).mono ?_
    rintro e w6 ⟨v6, rfl, o6, b6⟩
    rw [HLG.out.2]
    rw [HLG.out.1] at o6
    have hl6 := stTo_len (lenK zs m) m
    obtain ⟨A6, cap6, rfl, i6, -⟩ := o6.ints (st_wf _ m (by omega))
    rw [hl6] at i6 ⊢
    have hcap6 := Lib.hid (own_cap' o6)
    have O6 := Lib.hid (And.intro o6 hl6)
    clear o6 i6 hl6
    have c6 := btrans c5 b6
    go_wp2_with fail
    refine (a2At_c A' n' c' 2 20 _ (H'.out _ c6) (by omega)).mono ?_
    rintro e w7 ⟨r, rfl, hr0, hr1, b7⟩
    have c7 := btrans c6 b7
    have HBT : Hid (btV zs m (100 + 50 * r) (100 + 50 * r + 500) = selTo (btP zs (100 + 50 * r) (100 + 50 * r + 500)) m ∧ btC zs m (100 + 50 * r) (100 + 50 * r + 500) = 0) := by
      show _ ∧ _
      have e1 : inR (100 + 50 * r) 100 3000 = true := by simp [inR]; omega
      have e2 : inR (100 + 50 * r + 500) 100 3000 = true := by simp [inR]; omega
      simp [btV, btC, HOK.out, e1, e2]
    have b57 := btrans b5 (btrans b6 b7)
    go_wp2_with fail
    refine (between_i B m cB zs (100 + 50 * r) (100 + 50 * r + 500) _ (HIB.out _ b57) (by omega)).mono ?_
    rintro e w8 ⟨v8, rfl, o8, b8⟩
    rw [HBT.out.2]
    rw [HBT.out.1] at o8
    obtain ⟨lo, hlo⟩ : ∃ x, x = 100 + 50 * r := ⟨_, rfl⟩
    rw [← hlo] at o8 ⊢
    have hlo2 : 100 ≤ lo ∧ lo ≤ 1050 := by omega
    clear hlo
    obtain ⟨P, hP⟩ : ∃ P, P = btP zs lo (lo + 500) := ⟨_, rfl⟩
    rw [← hP] at o8
    have HP := Lib.hid hP
    clear hP
    obtain ⟨A8, cap8, rfl, i8, -⟩ := o8.ints (sel_wf _ m (by omega))
    have HL8 := Lib.hid (selTo_len P m)
    have HR8 := Lib.hid (sel_rise P m)
    obtain ⟨L, hL⟩ : ∃ L, (selTo P m).length = L := ⟨_, rfl⟩
    have hLm : L ≤ m := by rw [← hL]; exact HL8.out
    rw [hL] at i8 ⊢
    have HL := Lib.hid hL
    clear hL
    have c8 := btrans c7 b8
    have b58 := btrans b57 b8
    have i5 := ((((O5.out.on b6).on b7).on b8).ints (cg_wf _ _ _ _ (by omega)))
    obtain ⟨A5, cap5', e5, i5, -⟩ := i5
    rw [cg_len] at e5 i5
    simp only [Value.slice.injEq, true_and] at e5
    obtain ⟨rfl, rfl⟩ := e5
    obtain ⟨A6', cap6', e6, i6, -⟩ := ((O6.out.1.on b7).on b8).ints (st_wf _ m (by omega))
    rw [O6.out.2] at e6 i6
    simp only [Value.slice.injEq, true_and] at e6
    obtain ⟨rfl, rfl⟩ := e6
    have hcs : Hid (sumTo (gi (cgTo zs [l0, l1] 2 m)) 3 = (m : Int)) := cg_sum zs [l0, l1] m
    have hgb := fun j => gi_mem_bd (cg_bd zs [l0, l1] 2 m) (Int.le_refl _) (by omega) j
    have I5 := Lib.hid i5
    have I6 := Lib.hid i6
    have I8 := Lib.hid i8
    have IB := Lib.hid (HIB.out _ b58)
    have IL := Lib.hid (HL4.out.on b58)
    clear i5 i6 i8 o8
    go_wp2_with fail
    refine (a2Sum_c (some ⟨g5, 0, none⟩) 3 cap5 _ _ I5.out (by omega) (fun j => ⟨(hgb j).1, by have := (hgb j).2; omega⟩)).mono ?_
    rintro e w8' ⟨rfl, rfl⟩
    rw [hcs.out]
    clear hgb
    go_wp2_with fail
    refine (a2Rises_c A8 L cap8 _ m _ I8.out (by omega) (fun j hj => HR8.out j (by rw [HL.out]; exact hj))).mono ?_
    rintro e w9 ⟨rfl, b9⟩
    go_wp2_with fail
    have c9 := btrans c8 b9
    have J5 := Lib.hid ((I5.out.below b9 (Nat.le_refl _)).more b9.size)
    have J6 := Lib.hid ((I6.out.below b9 (Nat.le_refl _)).more b9.size)
    have J8 := Lib.hid ((I8.out.below b9 (Nat.le_refl _)).more b9.size)
    have JB := Lib.hid ((IB.out.below b9 (Nat.le_refl _)).more b9.size)
    have JL := Lib.hid (IL.out.on b9)
    clear I5 I6 I8 IB IL HIB O5 O6 hcs HR8 HL8 HCG HLG HBT H' HL4
    go_loopw [15] (fun i wr => ∃ k : Nat, k ≤ m ∧ i = .int .i64 k ∧ Blk wr w9.heap.size 2 (iv (cgTo zs [l0, l1] 2 k)).toArray ∧ Below w9.heap.size w9 wr) (fun i _ => m - (intOf i).toNat)
    case atStart => exact ⟨0, Nat.zero_le _, rfl, Blk.new w9 _ _, balloc (Below.refl _ _) _⟩
    case round =>
      obtain ⟨k, hk, rfl, hown, hbel⟩ := hrel
      have hbs := hbel.size
      have hol := hown.lt
      by_cases hlt : k < m
      · have hkc : k ≤ cap6 := by have := hcap6.out; rw [stTo_len] at this; omega
        have HOWN := Lib.hid hown
        clear hown
        obtain ⟨b, off, rfl, hb, x0, x1, x2⟩ := (JB.out.below hbel (Nat.le_refl _)).at3 hlt
        have hbd := HD.out k hlt
        unfold dR at hbd
        go_wp2_with fail
        have HLI := blk_ints (JL.out.on hbel) HLM.out.2 2 rfl
        obtain ⟨G, hG1, hG2, hG3, hG⟩ := gr_cases (k := k) (l0 := l0) (l1 := l1) (by have := HLL.out; omega) (HD.out k hlt) HLM.out.1
        refine (gradeOf_i (gi zs (k * 3)) (gi zs (k * 3 + 1)) (gi zs (k * 3 + 2)) _ _ _ [l0, l1] _ HLI (by omega)).mono ?_
        rintro e w11 ⟨rfl, b11⟩
        rw [hG1, hG2]
        have HG3 := Lib.hid hG3
        clear hG1 hG2 hG3 HLI
        have d11 := hbel.trans (b11.mono hbs)
        have L := (show Blk w11 w4.heap.size 2 #[.int .i64 l0, .int .i64 l1] from (JL.out.on hbel).on b11)
        have Ll := L.lt
        have Lc0 := L.cell 0
        have Lf0 := L.frozen 0
        have Lc1 := L.cell 1
        have Lf1 := L.frozen 1
        simp at Lc0 Lc1
        have LH := Lib.hid L
        clear L
        have y0 := (b11.cell (p := ⟨b, off + k * 3, none⟩) (by show b < wr.heap.size; omega)).trans x0
        clear x0 x1 x2
        have hCb := gi_mem_bd (cg_bd zs [l0, l1] 2 k) (Int.le_refl _) (by omega) G
        have hCl := cg_len zs [l0, l1] 2 k
        have OB := HOWN.out.on b11
        have og := OB.cell G
        have of_ := OB.frozen G
        rw [List.getElem?_toArray, iv_get _ _ (by rw [hCl]; omega)] at og
        have HOB := Lib.hid OB
        have HCl := Lib.hid hCl
        clear OB hCl
        obtain ⟨C, hC⟩ : ∃ C, gi (cgTo zs [l0, l1] 2 k) G = C := ⟨_, rfl⟩
        have HC := Lib.hid hC
        rw [hC] at og hCb
        clear hC
        have hPk : hasB (selTo P m) k L = P k := by rw [← HL.out]; exact sel_has m hlt
        have hPv : P k = inR (gi zs (k * 3)) lo (lo + 500) := by rw [HP.out]; rfl
        rw [hPv] at hPk
        clear hPv
        have K8 := (J8.out.below d11 (Nat.le_refl _)).more (Nat.le_trans hbs b11.size)
        have K6 := (J6.out.below d11 (Nat.le_refl _)).more (Nat.le_trans hbs b11.size)
        have J6w := J6.out.below d11 (Nat.le_refl _)
        obtain ⟨b6, off6, rfl, hb6, z0⟩ := J6w.at1 hlt
        have HH6 := Lib.hid (fun W (hb : Below w9.heap.size w11 W) => ints_head ((J6w.below hb (Nat.le_refl _)).more (Nat.le_trans (Nat.le_trans hbs b11.size) hb.size)) (Nat.le_of_lt hlt))
        have hne6 : ¬ b6 = w9.heap.size := by omega
        have hneb : ¬ b = w9.heap.size := by omega
        have hs1 := st_bd (f := lenK zs m) hlt
        have hnew := st_new (f := lenK zs m) hlt
        obtain ⟨q, hq⟩ : ∃ q : Nat, gi (stTo (lenK zs m) m) k = q := ⟨_, (Int.toNat_of_nonneg hs1.1).symm⟩
        rw [hq] at z0 hs1 hnew
        have HQ := Lib.hid hq
        have HNEW := Lib.hid hnew
        have hqm : (q : Int) < m := hs1.2
        clear hq hnew hs1
        have HPREV : Hid (0 < k → ∃ e : Nat, w11.cell? ⟨b6, off6 + (k - 1), none⟩ = some (.int .i64 (e : Int)) ∧ (e : Int) < m ∧ w11.cell? ⟨b, off + e * 3, none⟩ = some (.int .i64 (gi zs (e * 3))) ∧ w11.cell? ⟨b, off + q * 3, none⟩ = some (.int .i64 (gi zs (q * 3))) ∧ (gi zs (q * 3) < gi zs (e * 3) ∨ (gi zs (e * 3) = gi zs (q * 3) ∧ e < q))) := by
          intro h0
          obtain ⟨b7, off7, e7, _, z1⟩ := J6w.at1 (i := k - 1) (by omega)
          obtain ⟨rfl, rfl⟩ : b6 = b7 ∧ off6 = off7 := by simpa using e7
          have hs2 := st_bd (f := lenK zs m) (m := m) (i := k - 1) (by omega)
          obtain ⟨e, he⟩ : ∃ e : Nat, gi (stTo (lenK zs m) m) (k - 1) = e := ⟨_, (Int.toNat_of_nonneg hs2.1).symm⟩
          rw [he] at z1 hs2
          have ho := st_ord (f := lenK zs m) (m := m) (i := k - 1) (j := k) (by omega) hlt
          rw [he, HQ.out] at ho
          unfold oR at ho
          rw [lenK_in zs (by omega), lenK_in zs (by omega)] at ho
          obtain ⟨b8, off8, e8, _, u1, -⟩ := (JB.out.below d11 (Nat.le_refl _)).at3 (i := e) (by omega)
          obtain ⟨rfl, rfl⟩ : b = b8 ∧ off = off8 := by simpa using e8
          obtain ⟨b9', off9, e9, _, u2, -⟩ := (JB.out.below d11 (Nat.le_refl _)).at3 (i := q) (by omega)
          obtain ⟨rfl, rfl⟩ : b = b9' ∧ off = off9 := by simpa using e9
          exact ⟨e, z1, hs2.2, u1, u2, by omega⟩
        clear J6w
        rcases hG with ⟨g0, g1, rfl⟩ | ⟨g0, g1, rfl⟩ | ⟨g0, g1, rfl⟩
        all_goals as_aux_lemma =>
          go_wp2_with fail
          go_quiet (fail)
          go_wp2_with fail
          go_quiet (fail)
          go_wp2_with fail
          by_cases ha : lo ≤ gi zs (k * 3)
          · by_cases hb2 : gi zs (k * 3) ≤ lo + 500
            · have HB : hasB (selTo P m) k L = true := by rw [hPk]; simp [inR]; omega
              clear hPk
              go_quiet (first | (go_at_call 22; first | exact quiet_left (asV (a2Has_c _ _ _ _ _ _ (K8.drewN _) (by omega)) HB) | exact quiet_add_left (asV (a2Has_c _ _ _ _ _ _ (K8.drewN _) (by omega)) HB)))
              go_wp2_with fail
              refine (a2Has_c _ _ _ _ _ _ (HH6.out _ ((bdrewN (Below.refl w9.heap.size w11) _).setCell (p := ⟨w9.heap.size, _, none⟩) (Nat.le_refl _) _)) (by omega)).mono ?_
              rintro e w12 ⟨rfl, rfl⟩
              rw [HNEW.out]
              go_wp2_with fail
              rcases Nat.lt_or_ge 0 k with h0 | h0
              · have hd0 : decide (0 < k) = true := by simpa using h0
                have hp0' : (0 : Int) < (k : Int) := by omega
                have hkk : ((k : Int) - 1).toNat = k - 1 := by omega
                have hk1 : (0 : Int) ≤ (k : Int) - 1 := by omega
                have hk2 : (k : Int) - 1 < (m : Int) := by omega
                have HW : IntKind.i64.wrap ((k : Int) - 1) = (k : Int) - 1 := IntWalk.i64_in _ (by omega)
                obtain ⟨e, z1, hpm, y1, y2, hor⟩ := HPREV.out h0
                rcases hor with ho | ⟨ho1, ho2⟩
                · have o1 : decide (gi zs (e * 3) < gi zs (q * 3)) = false := by simp; omega
                  have o2 : decide (gi zs (e * 3) = gi zs (q * 3)) = false := by simp; omega
                  have o2' : (gi zs (e * 3) == gi zs (q * 3)) = false := by simp; omega
                  have o3 : ¬ gi zs (e * 3) < gi zs (q * 3) := by omega
                  have o4 : ¬ gi zs (e * 3) = gi zs (q * 3) := by omega
                  go_quiet (fail)
                  go_wp2_with fail
                  go_roundw
                  case rel => exact ⟨k + 1, by omega, by go_num, (cg_nx HG3.out HC.out ((HOB.out.drewN _).set_ _ _)).drewN _, bdrewN ((bdrewN d11 _).setCell (p := ⟨w9.heap.size, _, none⟩) (Nat.le_refl _) _) _⟩
                  case measure => simp [intOf]; omega
                · have o1 : decide (gi zs (e * 3) < gi zs (q * 3)) = false := by simp; omega
                  have o2 : decide (gi zs (e * 3) = gi zs (q * 3)) = true := by simp; omega
                  have o2' : (gi zs (e * 3) == gi zs (q * 3)) = true := by simp; omega
                  have o3 : ¬ gi zs (e * 3) < gi zs (q * 3) := by omega
                  have o5 : decide (q < e) = false := by simp; omega
                  have o6 : ¬ (q : Int) < (e : Int) := by omega
                  go_quiet (fail)
                  go_wp2_with fail
                  go_roundw
                  case rel => exact ⟨k + 1, by omega, by go_num, (cg_nx HG3.out HC.out ((HOB.out.drewN _).set_ _ _)).drewN _, bdrewN ((bdrewN d11 _).setCell (p := ⟨w9.heap.size, _, none⟩) (Nat.le_refl _) _) _⟩
                  case measure => simp [intOf]; omega
              · have hd0 : decide (0 < k) = false := by simpa using h0
                have hp0' : ¬ (0 : Int) < (k : Int) := by omega
                clear h0
                go_quiet (fail)
                go_wp2_with fail
                go_roundw
                case rel => exact ⟨k + 1, by omega, by go_num, (cg_nx HG3.out HC.out ((HOB.out.drewN _).set_ _ _)).drewN _, bdrewN ((bdrewN d11 _).setCell (p := ⟨w9.heap.size, _, none⟩) (Nat.le_refl _) _) _⟩
                case measure => simp [intOf]; omega
            · have HB : hasB (selTo P m) k L = false := by rw [hPk]; simp [inR]; omega
              clear hPk
              go_quiet (first | (go_at_call 22; first | exact quiet_left (asV (a2Has_c _ _ _ _ _ _ (K8.drewN _) (by omega)) HB) | exact quiet_add_left (asV (a2Has_c _ _ _ _ _ _ (K8.drewN _) (by omega)) HB)))
              go_wp2_with fail
              refine (a2Has_c _ _ _ _ _ _ (HH6.out _ ((bdrewN (Below.refl w9.heap.size w11) _).setCell (p := ⟨w9.heap.size, _, none⟩) (Nat.le_refl _) _)) (by omega)).mono ?_
              rintro e w12 ⟨rfl, rfl⟩
              rw [HNEW.out]
              go_wp2_with fail
              rcases Nat.lt_or_ge 0 k with h0 | h0
              · have hd0 : decide (0 < k) = true := by simpa using h0
                have hp0' : (0 : Int) < (k : Int) := by omega
                have hkk : ((k : Int) - 1).toNat = k - 1 := by omega
                have hk1 : (0 : Int) ≤ (k : Int) - 1 := by omega
                have hk2 : (k : Int) - 1 < (m : Int) := by omega
                have HW : IntKind.i64.wrap ((k : Int) - 1) = (k : Int) - 1 := IntWalk.i64_in _ (by omega)
                obtain ⟨e, z1, hpm, y1, y2, hor⟩ := HPREV.out h0
                rcases hor with ho | ⟨ho1, ho2⟩
                · have o1 : decide (gi zs (e * 3) < gi zs (q * 3)) = false := by simp; omega
                  have o2 : decide (gi zs (e * 3) = gi zs (q * 3)) = false := by simp; omega
                  have o2' : (gi zs (e * 3) == gi zs (q * 3)) = false := by simp; omega
                  have o3 : ¬ gi zs (e * 3) < gi zs (q * 3) := by omega
                  have o4 : ¬ gi zs (e * 3) = gi zs (q * 3) := by omega
                  go_quiet (fail)
                  go_wp2_with fail
                  go_roundw
                  case rel => exact ⟨k + 1, by omega, by go_num, (cg_nx HG3.out HC.out ((HOB.out.drewN _).set_ _ _)).drewN _, bdrewN ((bdrewN d11 _).setCell (p := ⟨w9.heap.size, _, none⟩) (Nat.le_refl _) _) _⟩
                  case measure => simp [intOf]; omega
                · have o1 : decide (gi zs (e * 3) < gi zs (q * 3)) = false := by simp; omega
                  have o2 : decide (gi zs (e * 3) = gi zs (q * 3)) = true := by simp; omega
                  have o2' : (gi zs (e * 3) == gi zs (q * 3)) = true := by simp; omega
                  have o3 : ¬ gi zs (e * 3) < gi zs (q * 3) := by omega
                  have o5 : decide (q < e) = false := by simp; omega
                  have o6 : ¬ (q : Int) < (e : Int) := by omega
                  go_quiet (fail)
                  go_wp2_with fail
                  go_roundw
                  case rel => exact ⟨k + 1, by omega, by go_num, (cg_nx HG3.out HC.out ((HOB.out.drewN _).set_ _ _)).drewN _, bdrewN ((bdrewN d11 _).setCell (p := ⟨w9.heap.size, _, none⟩) (Nat.le_refl _) _) _⟩
                  case measure => simp [intOf]; omega
              · have hd0 : decide (0 < k) = false := by simpa using h0
                have hp0' : ¬ (0 : Int) < (k : Int) := by omega
                clear h0
                go_quiet (fail)
                go_wp2_with fail
                go_roundw
                case rel => exact ⟨k + 1, by omega, by go_num, (cg_nx HG3.out HC.out ((HOB.out.drewN _).set_ _ _)).drewN _, bdrewN ((bdrewN d11 _).setCell (p := ⟨w9.heap.size, _, none⟩) (Nat.le_refl _) _) _⟩
                case measure => simp [intOf]; omega
          · have HB : hasB (selTo P m) k L = false := by rw [hPk]; simp [inR]; omega
            clear hPk
            go_quiet (first | (go_at_call 22; first | exact quiet_left (asV (a2Has_c _ _ _ _ _ _ (K8.drewN _) (by omega)) HB) | exact quiet_add_left (asV (a2Has_c _ _ _ _ _ _ (K8.drewN _) (by omega)) HB)))
            go_wp2_with fail
            refine (a2Has_c _ _ _ _ _ _ (HH6.out _ ((bdrewN (Below.refl w9.heap.size w11) _).setCell (p := ⟨w9.heap.size, _, none⟩) (Nat.le_refl _) _)) (by omega)).mono ?_
            rintro e w12 ⟨rfl, rfl⟩
            rw [HNEW.out]
            go_wp2_with fail
            rcases Nat.lt_or_ge 0 k with h0 | h0
            · have hd0 : decide (0 < k) = true := by simpa using h0
              have hp0' : (0 : Int) < (k : Int) := by omega
              have hkk : ((k : Int) - 1).toNat = k - 1 := by omega
              have hk1 : (0 : Int) ≤ (k : Int) - 1 := by omega
              have hk2 : (k : Int) - 1 < (m : Int) := by omega
              have HW : IntKind.i64.wrap ((k : Int) - 1) = (k : Int) - 1 := IntWalk.i64_in _ (by omega)
              obtain ⟨e, z1, hpm, y1, y2, hor⟩ := HPREV.out h0
              rcases hor with ho | ⟨ho1, ho2⟩
              · have o1 : decide (gi zs (e * 3) < gi zs (q * 3)) = false := by simp; omega
                have o2 : decide (gi zs (e * 3) = gi zs (q * 3)) = false := by simp; omega
                have o2' : (gi zs (e * 3) == gi zs (q * 3)) = false := by simp; omega
                have o3 : ¬ gi zs (e * 3) < gi zs (q * 3) := by omega
                have o4 : ¬ gi zs (e * 3) = gi zs (q * 3) := by omega
                go_quiet (fail)
                go_wp2_with fail
                go_roundw
                case rel => exact ⟨k + 1, by omega, by go_num, (cg_nx HG3.out HC.out ((HOB.out.drewN _).set_ _ _)).drewN _, bdrewN ((bdrewN d11 _).setCell (p := ⟨w9.heap.size, _, none⟩) (Nat.le_refl _) _) _⟩
                case measure => simp [intOf]; omega
              · have o1 : decide (gi zs (e * 3) < gi zs (q * 3)) = false := by simp; omega
                have o2 : decide (gi zs (e * 3) = gi zs (q * 3)) = true := by simp; omega
                have o2' : (gi zs (e * 3) == gi zs (q * 3)) = true := by simp; omega
                have o3 : ¬ gi zs (e * 3) < gi zs (q * 3) := by omega
                have o5 : decide (q < e) = false := by simp; omega
                have o6 : ¬ (q : Int) < (e : Int) := by omega
                go_quiet (fail)
                go_wp2_with fail
                go_roundw
                case rel => exact ⟨k + 1, by omega, by go_num, (cg_nx HG3.out HC.out ((HOB.out.drewN _).set_ _ _)).drewN _, bdrewN ((bdrewN d11 _).setCell (p := ⟨w9.heap.size, _, none⟩) (Nat.le_refl _) _) _⟩
                case measure => simp [intOf]; omega
            · have hd0 : decide (0 < k) = false := by simpa using h0
              have hp0' : ¬ (0 : Int) < (k : Int) := by omega
              clear h0
              go_quiet (fail)
              go_wp2_with fail
              go_roundw
              case rel => exact ⟨k + 1, by omega, by go_num, (cg_nx HG3.out HC.out ((HOB.out.drewN _).set_ _ _)).drewN _, bdrewN ((bdrewN d11 _).setCell (p := ⟨w9.heap.size, _, none⟩) (Nat.le_refl _) _) _⟩
              case measure => simp [intOf]; omega
      · obtain rfl : k = m := by omega
        have hown2 := blk_ints hown (cg_wf zs [l0, l1] 2 k (by omega)) 3 (cg_len zs [l0, l1] 2 k)
        go_wp2_with fail
        refine (a2Same_c (some ⟨w9.heap.size, 0, none⟩) (some ⟨g5, 0, none⟩) 3 3 cap5 _ _ hown2 ((J5.out.below hbel (Nat.le_refl _)).more hbel.size) (by omega)).mono ?_
        rintro e w13 ⟨rfl, b13⟩
        have d13 := hbel.trans (b13.mono hbs)
        go_wp2_with fail
        refine (alike_i B k cB zs _ ((JB.out.below d13 (Nat.le_refl _)).more d13.size) (by omega)).mono ?_
        rintro e w14 ⟨rfl, b14⟩
        have d14 := d13.trans (b14.mono d13.size)
        clear hown hown2 J5 J6 J8
        rcases Nat.lt_or_ge k 2 with h2 | h2
        · have hC : maC zs k = 3 := by unfold maC; rw [HOK.out, if_pos rfl, if_neg (by omega)]
          rw [hC]
          go_wp2_with fail
          go_ret
          exact ⟨rfl, c9.trans (d14.mono c9.size)⟩
        · have hC : maC zs k = 0 := by unfold maC; rw [HOK.out, if_pos rfl, if_pos h2]
          have hV : maV zs k = ouS (apF zs) k k := by unfold maV; rw [HOK.out]; simp [h2]
          obtain ⟨hxy, hmin⟩ := ouS_ok (d := apF zs) h2 k (Nat.le_refl _)
          rw [hC, hV]
          clear hC hV
          obtain ⟨x, hx⟩ : ∃ x, (ouS (apF zs) k k).1 = x := ⟨_, rfl⟩
          obtain ⟨y, hy⟩ : ∃ y, (ouS (apF zs) k k).2 = y := ⟨_, rfl⟩
          unfold mLess at hxy
          rw [hx, hy] at hxy hmin ⊢
          clear hx hy
          have HMIN := Lib.hid hmin
          clear hmin
          obtain ⟨hx1, hy1⟩ := hxy
          have JC := Lib.hid ((JB.out.below d14 (Nat.le_refl _)).more d14.size)
          clear JB
          have hd0 : decide ((x : Int) < 0) = false := by simp
          have hd1 : decide (y ≤ x) = false := by simp; omega
          have hd2 : decide (k ≤ y) = false := by simp; omega
          have hd3 : ¬ y ≤ x := by omega
          have hd4 : ¬ k ≤ y := by omega
          go_wp2_with fail
          clear hd0 hd1 hd2 hd3 hd4
          go_loopw [23] (fun i wr => ∃ j : Nat, j ≤ k ∧ i = .int .i64 j ∧ Below w14.heap.size w14 wr) (fun i _ => k - (intOf i).toNat)
          case atStart => exact ⟨0, Nat.zero_le _, rfl, Below.refl _ _⟩
          case round =>
            obtain ⟨i, hi, rfl, hb1⟩ := hrel
            obtain ⟨wo, rfl⟩ : ∃ wo : World, wo = wr := ⟨_, rfl⟩
            by_cases hlti : i < k
            · go_wp2_with fail
              go_loopw [24] (fun j wr => ∃ q : Nat, i < q ∧ q ≤ k ∧ j = .int .i64 q ∧ Below w14.heap.size w14 wr) (fun j _ => k - (intOf j).toNat)
              case atStart => exact ⟨i + 1, by omega, by omega, by go_num, hb1⟩
              case round =>
                obtain ⟨q, hq0, hq1, rfl, hb2⟩ := hrel
                by_cases hltq : q < k
                · obtain ⟨b, off, rfl, hb, a0, a1, a2⟩ := (JC.out.below hb2 (Nat.le_refl _)).at3 hlti
                  obtain ⟨b_, off_, e_, _, k0, k1, k2⟩ := (JC.out.below hb2 (Nat.le_refl _)).at3 hltq
                  obtain ⟨rfl, rfl⟩ : b = b_ ∧ off = off_ := by simpa using e_
                  clear e_
                  obtain ⟨b_, off_, e_, _, x0, x1, x2⟩ := (JC.out.below hb2 (Nat.le_refl _)).at3 (i := x) (by omega)
                  obtain ⟨rfl, rfl⟩ : b = b_ ∧ off = off_ := by simpa using e_
                  clear e_
                  obtain ⟨b_, off_, e_, _, y0, y1, y2⟩ := (JC.out.below hb2 (Nat.le_refl _)).at3 (i := y) hy1
                  obtain ⟨rfl, rfl⟩ : b = b_ ∧ off = off_ := by simpa using e_
                  clear e_
                  have hbz := hb2.size
                  have hbw : b < wr.heap.size := by omega
                  have hm1 := HMIN.out i q hlti hq0 hltq
                  obtain ⟨S1, hS1⟩ : ∃ S, apF zs i q = S := ⟨_, rfl⟩
                  obtain ⟨S2, hS2⟩ : ∃ S, apF zs x y = S := ⟨_, rfl⟩
                  have cI := Lib.hid (ap_call (HD.out i hlti) (HD.out q hltq) hS1)
                  have cX := Lib.hid (ap_call (HD.out x (by omega)) (HD.out y hy1) hS2)
                  rw [hS1, hS2] at hm1
                  clear hS1 hS2
                  have hm2 : ¬ S1 < S2 := by omega
                  have hm3 : decide (S1 < S2) = false := decide_eq_false hm2
                  have hx2 : x < k := by omega
                  have HK := Lib.hid (fun w' (hh : Below wr.heap.size wr w') => keep12 hbw a0 a1 a2 k0 k1 k2 x0 x1 x2 y0 y1 y2 hh)
                  go_wp2_with fail
                  go_region_held3 (fun w' => (w'.cell? ⟨b, off + i * 3, none⟩ = some (.int .i64 (gi zs (i * 3))) ∧ w'.cell? ⟨b, off + i * 3 + 1, none⟩ = some (.int .i64 (gi zs (i * 3 + 1))) ∧ w'.cell? ⟨b, off + i * 3 + 2, none⟩ = some (.int .i64 (gi zs (i * 3 + 2)))) ∧ (w'.cell? ⟨b, off + q * 3, none⟩ = some (.int .i64 (gi zs (q * 3))) ∧ w'.cell? ⟨b, off + q * 3 + 1, none⟩ = some (.int .i64 (gi zs (q * 3 + 1))) ∧ w'.cell? ⟨b, off + q * 3 + 2, none⟩ = some (.int .i64 (gi zs (q * 3 + 2)))) ∧ ((w'.cell? ⟨b, off + x * 3, none⟩ = some (.int .i64 (gi zs (x * 3))) ∧ w'.cell? ⟨b, off + x * 3 + 1, none⟩ = some (.int .i64 (gi zs (x * 3 + 1))) ∧ w'.cell? ⟨b, off + x * 3 + 2, none⟩ = some (.int .i64 (gi zs (x * 3 + 2)))) ∧ (w'.cell? ⟨b, off + y * 3, none⟩ = some (.int .i64 (gi zs (y * 3))) ∧ w'.cell? ⟨b, off + y * 3 + 1, none⟩ = some (.int .i64 (gi zs (y * 3 + 1))) ∧ w'.cell? ⟨b, off + y * 3 + 2, none⟩ = some (.int .i64 (gi zs (y * 3 + 2))))) ∧ Below wr.heap.size wr w') (first | exact HK.out _ (Below.refl _ _) | exact HK.out _ (Below.refl _ _).drew | exact HK.out _ (btrans (‹_ ∧ _ ∧ _ ∧ Below _ _ _›.2.2.2) ‹Below _ _ _›)) ((go_at_call 25; (first | (with_reducible refine (cI.out _).mono ?_) | (with_reducible refine (cX.out _).mono ?_)); rintro e wy ⟨rfl, by_⟩))
                  have HB := Lib.hid (‹_ ∧ _ ∧ _ ∧ Below wr.heap.size wr _›.2.2.2)
                  clear by_
                  go_wp2_with fail
                  go_roundw
                  case rel => exact ⟨q + 1, by omega, by omega, by go_num, hb2.trans (HB.out.mono hbz)⟩
                  case measure => simp [intOf]; omega
                · obtain rfl : q = k := by omega
                  go_wp2_with fail
                  go_roundw
                  case rel => exact ⟨i + 1, by omega, by go_num, hb2⟩
                  case measure => simp [intOf]; omega
            · obtain rfl : i = k := by omega
              go_wp2
              go_ret
              exact ⟨rfl, c9.trans ((d14.trans (hb1.mono d14.size)).mono c9.size)⟩
end Go.Proofs.Ytpjafammnjbjdaa
