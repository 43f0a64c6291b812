/-
  Two lists of beds drawn: the walk.
  No conditions.
-/
import Derived.Test.YtnlddplhaiceaaaSameD
namespace Go.Proofs.Ytnlddplhaiceaaa
open Go.ChangeShapes Go.WideShapes Go.ChangeAt Go.RowKit Go.Deep
set_option linter.unusedVariables false

theorem keepP {w W1 w' : World} {p q : Addr} {u v : Value} (x0 : W1.cell? p = some u) (x1 : W1.cell? q = some v) (hp : p.block < W1.heap.size) (hq : q.block < W1.heap.size) (h1 : Below w.heap.size w W1) (hb : Below W1.heap.size W1 w') :
    w'.cell? p = some u ∧ w'.cell? q = some v ∧ Below w.heap.size w w' := ⟨(hb.cell hp).trans x0, (hb.cell hq).trans x1, btrans h1 hb⟩
theorem keepPG {w W1 w2 w3 : World} {p q : Addr} {u v : Value} {row : Option Nat} (x0 : W1.cell? p = some u) (x1 : W1.cell? q = some v) (hp : p.block < W1.heap.size) (hq : q.block < W1.heap.size) (h1 : Below w.heap.size w W1) (hb : Below W1.heap.size W1 w2) (hg : w2.grownBy w3 row)
    (hr : ∀ g, row = some g → w.heap.size ≤ g ∧ g ≠ p.block ∧ g ≠ q.block) : w3.cell? p = some u ∧ w3.cell? q = some v ∧ Below w.heap.size w w3 :=
  ⟨(hg.cell_far p (Nat.lt_of_lt_of_le hp hb.size) (fun e => (hr _ e.symm).2.1 rfl)).trans ((hb.cell hp).trans x0), (hg.cell_far q (Nat.lt_of_lt_of_le hq hb.size) (fun e => (hr _ e.symm).2.2 rfl)).trans ((hb.cell hq).trans x1), below_grown (btrans h1 hb) hg (fun g he => (hr g he).1)⟩
theorem short_small {bs : Nat → List Int × Int} {n : Nat} (hn : n ≤ 9) (h : SmallB bs n) : Short bs n := ⟨by omega, fun i hi => by have := (h i hi).1; omega⟩

set_option maxRecDepth 100000 in
set_option maxHeartbeats 8000000 in
theorem draw_sb (A : Option Addr) (n c : Nat) (w : World) (h : Octets w w.heap.size A n) :
    Calls Try.prog 40 #[.slice A n c] w fun e w' => ∃ (v1 : Value) (n1 : Nat) (bs : Nat → List Int × Int) (v2 : Value) (n2 : Nat) (cs : Nat → List Int × Int), e = .returned (.tuple #[v1, v2]) ∧ BedsV w' v1 n1 bs ∧ BedsV w' v2 n2 cs ∧ Below w.heap.size w w' := by
  go_enter Try.func40, Try.ntmps40
  go_wp2_with fail
  refine (from_s A n c w h).mono ?_
  rintro e w1 ⟨g, rfl, hg, hs1, hb1⟩
  have hz1 := hb1.size
  go_wp2_with fail
  refine (beds_s g A n c 0 w1 hs1 (by omega)).mono ?_
  rintro e w2 ⟨v, m, bs, rfl, hm, hsm, ho, hs2, hk2⟩
  have HO2 := Lib.hid ho
  have HB2 := Lib.hid (hb1.trans (hk2.below hg hz1))
  have hz2 := hk2.size
  have hgl := hs1.lt
  have HW := Lib.hid (fun i (hi : i < m) => (hsm i hi).2.1)
  have HLn := Lib.hid (fun i (hi : i < m) => (hsm i hi).1)
  have HA := Lib.hid (fun i (hi : i < m) => (hsm i hi).2.2)
  have HSh := Lib.hid (short_small hm hsm)
  have HS2 := Lib.hid hs2
  have hg2 : g < w2.heap.size := by omega
  obtain ⟨Av, cv, hv⟩ : ∃ A c, v = .slice A m c := by
    rcases ho.form with ⟨rfl, rfl⟩ | ⟨q, cap, rfl⟩
    · exact ⟨none, 0, rfl⟩
    · exact ⟨_, cap, rfl⟩
  subst hv
  clear ho hs1 hb1 hk2 hsm hs2
  go_wp2_with fail
  go_loopw [6, 7] (fun o i wr => ∃ j : Nat, j ≤ m ∧ i = .int .i64 j ∧ Hid (OwnB wr w2.heap.size wr.heap.size o j bs) ∧ Hid (Below w2.heap.size w2 wr)) (fun _ i _ => m - (intOf i).toNat)
  case atStart => exact ⟨0, Nat.zero_le _, rfl, OwnB.empty w2 (Nat.le_refl _) _, balloc (Below.refl _ _) _⟩
  case round =>
    obtain ⟨j, hj, rfl, HO, HBl⟩ := hrel
    have hws := HBl.out.size
    by_cases hlt : j < m
    · obtain ⟨q, cap, γ, cc, ev, x0, x1, hq, hI⟩ := (HO2.out.on HBl.out).get hlt (HW.out j hlt)
      simp only [Value.slice.injEq, true_and] at ev
      obtain ⟨rfl, rfl⟩ := ev
      have hl6 := HLn.out j hlt
      have HI := Lib.hid hI
      have hqr : q < wr.heap.size := by omega
      have hql : q < w2.heap.size := hq
      have HAf : Hid (yl bs j = yl bs j ∧ True) := ⟨rfl, trivial⟩
      clear hI
      generalize hys : yl bs j = ys at *
      generalize haa : ag bs j = a at *
      have HYA := Lib.hid (And.intro hys haa)
      clear hys haa HAf
      obtain ⟨l, hl⟩ : ∃ l, ys.length = l := ⟨_, rfl⟩
      have HL := Lib.hid hl
      rw [hl] at x0 HI hl6
      clear hl
      go_wp2_with fail
      go_region_held3 (fun w' => w'.cell? ⟨q, j * 2, none⟩ = some (.slice (some ⟨γ, 0, none⟩) l cc) ∧ w'.cell? ⟨q, j * 2 + 1, none⟩ = some (.int .i64 a) ∧ Below w2.heap.size w2 w') (first | exact keepP x0 x1 hqr hqr HBl.out (Below.refl _ _) | exact keepP x0 x1 hqr hqr HBl.out (Below.refl _ _).drew | exact keepP x0 x1 hqr hqr HBl.out (undrew hby) | exact keepP x0 x1 hqr hqr HBl.out (balloc (undrew hby) _) | exact keepPG x0 x1 hqr hqr HBl.out (balloc (undrew hby) _) hgr1 (fun g hg => ⟨(HO.out.lt g hg).1, by have := (HO.out.lt g hg).1; show g ≠ q; omega, by have := (HO.out.lt g hg).1; show g ≠ q; omega⟩)) (first | (go_at_call 82; refine (l00OwnS_c γ l cc ys _ (by first | exact HI.out | exact HI.out.on (Below.refl _ _).drew) (by omega)).mono ?_; rintro e wy ⟨γ0, c0, rfl, hO, hby⟩) | (refine step_append_bed rfl (.tmp 19) (.tmp 32) rfl w2.heap.size wr.heap.size _ j bs rfl (HO.out.below (balloc (undrew hby) _) (Nat.le_refl _)) γ0 c0 (hO.lt γ0 rfl).1 (by rw [HYA.out.1, HL.out]; exact (hO.base_le hws).alloc _) _ rfl (by rw [HYA.out.1, HYA.out.2, HL.out]; first | exact blk_at rfl | exact blk_at (by simp)) (by omega) (by have h5 := hby.size; have h6 : wr.drew.heap.size = wr.heap.size := rfl; simp only [World.size_alloc]; omega) ?_; intro v1 w3 hown1 hgr1))
      all_goals
        have HB3 := Lib.hid (‹_ ∧ _ ∧ Below w2.heap.size w2 _›.2.2)
        go_wp2_with fail
        go_roundw
        case rel => exact ⟨j + 1, by omega, by go_num, hown1, HB3.out⟩
        case measure => simp [intOf]; omega
    · obtain rfl : j = m := by omega
      have hsr := HS2.out.on HBl.out hg2
      have HSr := Lib.hid hsr
      have HAr := Lib.hid (HO2.out.on HBl.out)
      have HBr := Lib.hid (HB2.out.trans (HBl.out.mono (by omega)))
      clear hsr
      go_wp2_with fail
      refine (pick_s g A n c _ 4 wr HSr.out (by omega)).mono ?_
      rintro e w5 ⟨x, rfl, hx0, hx1, hs5, hk5⟩
      have HA5 := Lib.hid (HAr.out.but hk5 hgl)
      have HO5 := Lib.hid (HO.out.but hk5 hg2)
      have HB5 := Lib.hid (HBr.out.trans (hk5.below (B := w.heap.size) hg (by omega)))
      have hz5 := hk5.size
      have HV1 : Hid (∀ w', Below w2.heap.size w5 w' → BedsV w' (.slice Av j cv) j bs) := fun w' hb => (HA5.out.below hb (Nat.le_refl _)).bedsV HSh.out HW.out
      have HV2 : Hid (∀ w' v', OwnB w' w2.heap.size wr.heap.size v' j bs → BedsV w' v' j bs) := fun w' v' hh => hh.bedsV HSh.out HW.out
      clear hs5 hk5
      have hx : x = 0 ∨ x = 1 ∨ x = 2 ∨ x = 3 := by omega
      clear hx0 hx1
      rcases hx with rfl | rfl | rfl | rfl
      · go_wp2_with (at_builtin; go_loud (refine append_zbed rfl (.tmp 38) (.tmp 40) rfl w2.heap.size wr.heap.size _ j bs rfl ((HO5.out).on (balloc (Below.refl _ w5) _)) HW.out (fun i hi => by have := HLn.out i hi; omega) _ rfl (Blk.new _ _ _) (by omega) (by simp; omega) ?_); intro v6 w6 hv6 hgr6)
        obtain ⟨A6, c6, rfl, B6⟩ := hv6
        have hrow := fun k hk => (HO5.out.lt k hk).1
        have hb6 : Below w2.heap.size w5 w6 := ((Below.refl w2.heap.size w5).alloc (by omega) _).grown hgr6 (by simp; omega) hrow
        go_wp2_with fail
        go_ret2
        exact ⟨_, j, bs, _, j + 1, _, rfl, HV1.out _ hb6, ⟨A6, c6, rfl, B6, by omega, fun i hi => by
          by_cases e : i = j
          · subst e; rw [(addB_at bs i ([], 0)).1]; simp
          · unfold yl; rw [addB_else bs j _ e]; exact HSh.out.2 i (by omega)⟩, HB5.out.trans (hb6.mono (by omega))⟩
      · by_cases hj0 : 0 < j
        · rcases HO5.out.form with ⟨rfl, h0⟩ | ⟨q, cap, rfl⟩
          · omega
          obtain ⟨γ, cc, x0, x1, f0, f1, hq, hq0, -, hset, -⟩ := HO5.out.head hj0 HW.out
          have ha := HA.out 0 hj0
          have HSt := Lib.hid hset
          have hji : (0 : Int) < (j : Int) := by omega
          clear hset
          go_wp2_with fail
          go_ret2
          refine ⟨_, j, bs, _, j, _, rfl, HV1.out _ ((Below.refl w2.heap.size w5).setCell (by show w2.heap.size ≤ q; omega) _), (HSt.out _).bedsV ⟨HSh.out.1, fun i hi => ?_⟩ (fun i hi => ?_), HB5.out.trans ((Below.refl w.heap.size w5).setCell (by show w.heap.size ≤ q; omega) _)⟩
          · by_cases e : i = 0
            · subst e; exact HSh.out.2 0 hi
            · rw [(putB_else bs _ e).1]; exact HSh.out.2 i hi
          · by_cases e : i = 0
            · subst e; exact HW.out 0 hi
            · rw [(putB_else bs _ e).1]; exact HW.out i hi
        · obtain rfl : j = 0 := by omega
          obtain ⟨Ao, co, eo⟩ : ∃ A c, u6 = .slice A 0 c := by
            rcases HO5.out.form with ⟨e, _⟩ | ⟨q, cap, e⟩
            · exact ⟨none, 0, e⟩
            · exact ⟨_, cap, e⟩
          subst eo
          go_wp2_with fail
          go_ret2
          exact ⟨_, 0, bs, _, 0, bs, rfl, HV1.out _ (Below.refl _ _), HV2.out _ _ HO5.out, HB5.out⟩
      · by_cases hj0 : 0 < j
        · rcases HO5.out.form with ⟨rfl, h0⟩ | ⟨q, cap, rfl⟩
          · omega
          obtain ⟨γ, cc, x0, x1, f0, f1, hq, hq0, ho0, -, hgrow⟩ := HO5.out.head hj0 HW.out
          have HG := Lib.hid hgrow
          have HO0 := Lib.hid ho0
          have hji : (0 : Int) < (j : Int) := by omega
          have hl6 := HLn.out 0 hj0
          have hγ := (ho0.lt γ rfl).1
          obtain ⟨l, hl⟩ : ∃ l, (yl bs 0).length = l := ⟨_, rfl⟩
          have HL := Lib.hid hl
          rw [hl] at x0 hl6
          have ho0' : Own w5 w2.heap.size (.slice (some ⟨γ, 0, none⟩) l cc) (yl bs 0) := by have := HO0.out; rwa [hl] at this
          have HO1 := Lib.hid ho0'
          clear hgrow ho0 ho0' hl HO0
          go_wp2_with (at_builtin; go_loud ((refine append_int rfl (.tmp 63) (.tmp 64) rfl w2.heap.size (.slice (some ⟨γ, 0, none⟩) l cc) (yl bs 0) rfl (HO1.out.alloc _) 5 _ rfl (Blk.new _ _ _) (by rw [HL.out]; omega) (by simp; omega) ?_; intro v6 w6 hown6 hgr6; obtain ⟨γ1, cc1, rfl⟩ := own_form hown6 (by simp); have hl1 : (yl bs 0 ++ [5]).length = l + 1 := (by rw [List.length_append, HL.out]; rfl); rw [hl1] at hown6 ⊢; have hl2 : (yl bs 0).length + 1 = l + 1 := (by rw [HL.out]); have HG6 := HG.out _ w6 γ1 cc1 5 (by rw [hl2]; exact hown6) hgr6 (by omega) (fun i hi => by have := HLn.out i hi; omega); rw [hl2, HL.out] at HG6; obtain ⟨y0, fy, B7⟩ := HG6)))
          have hrow : ∀ k, (some γ : Option Nat) = some k → w2.heap.size ≤ k := fun k hk => by injection hk with hk; omega
          have hb6 : Below w2.heap.size w5 w6 := ((Below.refl w2.heap.size w5).alloc (by omega) _).grown hgr6 (by simp; omega) hrow
          have hb7 : Below w2.heap.size w5 (w6.setCell ⟨q, 0, none⟩ (.slice (some ⟨γ1, 0, none⟩) (l + 1) cc1)) := hb6.setCell (by show w2.heap.size ≤ q; omega) _
          go_wp2_with fail
          go_ret2
          refine ⟨_, j, bs, _, j, _, rfl, HV1.out _ hb7, ⟨_, cap, rfl, B7, HSh.out.1, fun i hi => ?_⟩, HB5.out.trans (hb7.mono (by omega))⟩
          by_cases e : i = 0
          · subst e
            show (yl bs 0 ++ [5]).length ≤ 1048576
            rw [List.length_append, HL.out]
            show l + 1 ≤ 1048576
            omega
          · rw [(putB_else bs _ e).1]; exact HSh.out.2 i hi
        · obtain rfl : j = 0 := by omega
          obtain ⟨Ao, co, eo⟩ : ∃ A c, u6 = .slice A 0 c := by
            rcases HO5.out.form with ⟨e, _⟩ | ⟨q, cap, e⟩
            · exact ⟨none, 0, e⟩
            · exact ⟨_, cap, e⟩
          subst eo
          go_wp2_with fail
          go_ret2
          exact ⟨_, 0, bs, _, 0, bs, rfl, HV1.out _ (Below.refl _ _), HV2.out _ _ HO5.out, HB5.out⟩
      · go_wp2_with fail
        go_ret2
        exact ⟨_, j, bs, _, j, bs, rfl, HV1.out _ (Below.refl _ _), HV2.out _ _ HO5.out, HB5.out⟩
end Go.Proofs.Ytnlddplhaiceaaa
