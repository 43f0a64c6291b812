/-
  FewestBunches: the reference's walk.
  No conditions.
-/
import Derived.Test.YtgcpobondcnjcaaGreatDoorFewW
namespace Go.Proofs.YtgcpobondcnjcaaGreatDoor
open Go.ChangeShapes Go.WideShapes Go.ChangeAt Go.RowKit Go.Deep Go.Shelf Go.Sort
set_option linter.unusedVariables false

set_option maxHeartbeats 6000000 in
set_option maxRecDepth 100000 in
theorem few_s (A : Option Addr) (n c : Nat) (zs : List Int) (need : Int) (w : World) (h : Ints w w.heap.size 3 A n zs) (hn : n ≤ 1048576) :
    Calls Tryz.prog 16 #[.slice A n c, .int .i64 need] w fun e w' => ∃ v, e = .returned (.tuple #[v, .int .i64 (fwC zs n need)]) ∧ Own w' w.heap.size v (fwL zs n need) ∧ Below w.heap.size w w' := by
  rcases hok : okAll (bunchAt zs) n 30 with _ | _
  · have HV : Hid (fwL zs n need = [] ∧ fwC zs n need = 1) := by show _ ∧ _; simp [fwL, fwC, hok]
    go_enter Tryz.func16, Tryz.ntmps16
    go_wp2_with fail
    refine (l05Ok_c _ _ _ zs _ h hn).mono ?_
    rintro e w2 ⟨rfl, hb2⟩
    rw [hok]
    go_wp2
    go_ret2
    exact ⟨_, by rw [HV.out.2]; rfl, by rw [HV.out.1]; exact Own.nil _ _, hb2⟩
  · refine inR_split need 0 1000000 (fun hr r1 r2 => ?_) (fun hr => ?_)
    · have hn20 := okAll_le hok
      have HF := Lib.hid (fun j => fw_facts (need := need) hok hr (j := j))
      have HQ := Lib.hid (fun j => fwQ_eq (zs := zs) (n := n) (need := need) (j := j))
      have HOL : Hid ((fwO zs n).length = n) := stTo_len _ _
      have HWT := Lib.hid (wt_bd hok)
      have HFS := Lib.hid (fwS_bd hok)
      go_enter Tryz.func16, Tryz.ntmps16
      go_wp2_with fail
      refine (l05Ok_c _ _ _ zs _ h hn).mono ?_
      rintro e w2 ⟨rfl, hb2⟩
      rw [hok]
      go_wp2_with (first | (go_at_call 36; refine (l00In_c _ _ _ _).mono ?_; rintro e w' ⟨rfl, rfl⟩))
      go_loopw [6, 7] (fun s i wr => ∃ k g cap : Nat, k ≤ n ∧ i = .int .i64 k ∧ s = .slice (some ⟨g, 0, none⟩) k cap ∧ Own wr w.heap.size (.slice (some ⟨g, 0, none⟩) k cap) (stTo (wtK zs n) k) ∧ Below w.heap.size w wr) (fun _ i _ => n - (intOf i).toNat)
      case atStart => exact ⟨0, w2.heap.size, 0, Nat.zero_le _, rfl, rfl, Own.empty _ hb2.size, balloc hb2 _⟩
      case round =>
        obtain ⟨k, g, cap, hk, rfl, rfl, hown, hbel⟩ := hrel
        obtain ⟨wo, rfl⟩ : ∃ wo : World, wo = wr := ⟨_, rfl⟩
        have hbase := hbel.size
        by_cases hlt : k < n
        · have HOWN := Lib.hid hown
          clear hown
          go_wp2_with fail
          go_loopw [8] (fun v wr => ∃ q m : Nat, q ≤ k ∧ v = .int .i64 q ∧ wr = wo.drewN m ∧ Hid (insK (wtK zs n) (stTo (wtK zs n) k) k q = insK (wtK zs n) (stTo (wtK zs n) k) k k)) (fun v _ => (intOf v).toNat)
          case atStart => exact ⟨k, 0, Nat.le_refl _, rfl, rfl, rfl⟩
          case round =>
            obtain ⟨q, m, hq, rfl, rfl, HI⟩ := hrel
            have hqc : q ≤ cap := Nat.le_trans hq (own_cap HOWN.out)
            obtain ⟨b, off, rfl, hb, -, -, c1⟩ := (h.below hbel (Nat.le_refl _)).at3 hlt
            rcases Nat.eq_zero_or_pos q with h0 | h0
            · have hd : decide (0 < q) = false := by simpa using h0
              have hp : ¬ (0 : Int) < (q : Int) := by omega
              have H0 := Lib.hid h0
              clear h0
              go_wp2_with fail
              go_quiet (fail)
              have HPOS : Hid (insK (wtK zs n) (stTo (wtK zs n) k) k k = q) := by show _ = _; exact ins_zero HI.out (by have := H0.out; omega)
              have HH := fun r => Lib.hid (own_head (HOWN.out.drewN r) (q := q) (by rw [stTo_len]; omega) (fun z hz => by have := stTo_mem _ _ _ hz; omega))
              go_wp2_with fail
              refine (l00Own_c ⟨g, 0, none⟩ q cap _ _ (HH _).out (by omega)).mono ?_
              rintro e w4 ⟨v4, rfl, hown4, hb4⟩
              have HB4 := Lib.hid (btrans (bdrewN hbel _) hb4)
              have HQ4 := Lib.hid ((bdrewN (Below.refl wo.heap.size wo) _).trans hb4)
              have hs4 : wo.heap.size ≤ w4.heap.size := HQ4.out.size
              have hl4 : ((stTo (wtK zs n) k).take q).length ≤ 30 := by rw [List.length_take]; omega
              go_wp2_with (at_builtin; go_loud (refine append_int rfl (.tmp 52) (.tmp 54) rfl wo.heap.size v4 _ rfl (Own.alloc hown4 _) k _ rfl (Blk.new _ _ _) (by omega) (by simp; omega) ?_); intro v5 w5 hown5 hgr5; refine Hid.out ?_)
              have hs5 : wo.heap.size ≤ w5.heap.size := by have := hgr5.size; simp at this; omega
              refine Lib.hid ?_
              have HQ5 := Lib.hid (below_grown (HQ4.out.alloc hs4 _) hgr5 (fun g hg => (hown4.lt g hg).1))
              have hkc := own_cap HOWN.out
              by_cases hcq : cap = q
              · have hkq : k - q = 0 := by omega
                subst hcq
                go_wp2_with (at_builtin; go_loud (refine append_ints rfl (.tmp 56) (.tmp 59) rfl wo.heap.size v5 _ rfl hown5 ((stTo (wtK zs n) k).drop cap) ⟨g, 0, none⟩ _ _ rfl (by simp [stTo_len] <;> omega) (by intro j hj; omega) (by simp; omega) (by omega) hs5 ?_); intro v6 w6 hown6 hgr6; refine Hid.out ?_)
                have HQ6 := Lib.hid (below_grown HQ5.out hgr6 (fun g hg => (hown5.lt g hg).1))
                obtain ⟨g6, cap6, rfl, hown7⟩ := lg_end hown6 HPOS.out
                refine Lib.hid ?_
                go_wp2_with fail
                go_roundw
                case rel => exact ⟨k + 1, g6, cap6, by omega, by go_num, rfl, hown7.base_le hbase, hbel.trans (HQ6.out.mono hbase)⟩
                case measure => simp [intOf]; omega
              · go_wp2_with (at_builtin; go_loud (refine append_ints rfl (.tmp 56) (.tmp 59) rfl wo.heap.size v5 _ rfl hown5 ((stTo (wtK zs n) k).drop q) ⟨g, q, none⟩ _ _ rfl (by simp [stTo_len] <;> omega) (fun j hj => own_rest HOWN.out HQ5.out (by rw [stTo_len]; exact hj)) (by simp; omega) (by omega) hs5 ?_); intro v6 w6 hown6 hgr6; refine Hid.out ?_)
                have HQ6 := Lib.hid (below_grown HQ5.out hgr6 (fun g hg => (hown5.lt g hg).1))
                obtain ⟨g6, cap6, rfl, hown7⟩ := lg_end hown6 HPOS.out
                refine Lib.hid ?_
                go_wp2_with fail
                go_roundw
                case rel => exact ⟨k + 1, g6, cap6, by omega, by go_num, rfl, hown7.base_le hbase, hbel.trans (HQ6.out.mono hbase)⟩
                case measure => simp [intOf]; omega
            · have hql : q - 1 < (stTo (wtK zs n) k).length := by rw [stTo_len]; omega
              have c2 := own_at HOWN.out hql
              obtain ⟨p, hp0, hp1⟩ : ∃ p : Nat, gi (stTo (wtK zs n) k) (q - 1) = p ∧ p < n := by
                have hm : gi (stTo (wtK zs n) k) (q - 1) ∈ stTo (wtK zs n) k := by
                  have : gi (stTo (wtK zs n) k) (q - 1) = (stTo (wtK zs n) k)[q - 1] := by simp [gi, List.getD, List.getElem?_eq_getElem hql]
                  rw [this]; exact List.getElem_mem hql
                have := stTo_mem _ _ _ hm
                exact ⟨_, (Int.toNat_of_nonneg this.1).symm, by omega⟩
              obtain ⟨b', off', e', -, -, -, c3⟩ := (h.below hbel (Nat.le_refl _)).at3 hp1
              obtain ⟨rfl, rfl⟩ : b = b' ∧ off = off' := by simpa using e'
              clear e' hql
              rw [hp0] at c2
              have HP := Lib.hid hp0
              clear hp0
              have HW : IntKind.i64.wrap ((q : Int) - 1) = (q : Int) - 1 := IntWalk.i64_in _ (by omega)
              have hd : decide (0 < q) = true := by simpa using h0
              have hp : (0 : Int) < (q : Int) := by omega
              have hkk : ((q : Int) - 1).toNat = q - 1 := by omega
              have hk1 : (0 : Int) ≤ (q : Int) - 1 := by omega
              have hk2 : (q : Int) - 1 < (k : Int) := by omega
              have hp2 : (p : Int) < (n : Int) := by omega
              by_cases hlt2 : gi zs (p * 3 + 2) < gi zs (k * 3 + 2)
              · have hd2 : decide (gi zs (p * 3 + 2) < gi zs (k * 3 + 2)) = true := decide_eq_true hlt2
                go_wp2_with fail
                go_quiet (fail)
                go_wp2_with fail
                go_roundw
                case rel => exact ⟨q - 1, _, by omega, by go_num, rfl, ins_step HI.out h0 (by rw [HP.out, wtK_in zs hp1, wtK_in zs hlt]; exact hlt2)⟩
                case measure => simp [intOf]; omega
              · have hd2 : decide (gi zs (p * 3 + 2) < gi zs (k * 3 + 2)) = false := decide_eq_false hlt2
                go_wp2_with fail
                have HPOS : Hid (insK (wtK zs n) (stTo (wtK zs n) k) k k = q) := ins_stop HI.out h0 (by rw [HP.out, wtK_in zs hp1, wtK_in zs hlt]; omega)
                go_quiet (fail)
                have HH := fun r => Lib.hid (own_head (HOWN.out.drewN r) (q := q) (by rw [stTo_len]; omega) (fun z hz => by have := stTo_mem _ _ _ hz; omega))
                go_wp2_with fail
                refine (l00Own_c ⟨g, 0, none⟩ q cap _ _ (HH _).out (by omega)).mono ?_
                rintro e w4 ⟨v4, rfl, hown4, hb4⟩
                have HB4 := Lib.hid (btrans (bdrewN hbel _) hb4)
                have HQ4 := Lib.hid ((bdrewN (Below.refl wo.heap.size wo) _).trans hb4)
                have hs4 : wo.heap.size ≤ w4.heap.size := HQ4.out.size
                have hl4 : ((stTo (wtK zs n) k).take q).length ≤ 30 := by rw [List.length_take]; omega
                go_wp2_with (at_builtin; go_loud (refine append_int rfl (.tmp 52) (.tmp 54) rfl wo.heap.size v4 _ rfl (Own.alloc hown4 _) k _ rfl (Blk.new _ _ _) (by omega) (by simp; omega) ?_); intro v5 w5 hown5 hgr5; refine Hid.out ?_)
                have hs5 : wo.heap.size ≤ w5.heap.size := by have := hgr5.size; simp at this; omega
                refine Lib.hid ?_
                have HQ5 := Lib.hid (below_grown (HQ4.out.alloc hs4 _) hgr5 (fun g hg => (hown4.lt g hg).1))
                have hkc := own_cap HOWN.out
                by_cases hcq : cap = q
                · have hkq : k - q = 0 := by omega
                  subst hcq
                  go_wp2_with (at_builtin; go_loud (refine append_ints rfl (.tmp 56) (.tmp 59) rfl wo.heap.size v5 _ rfl hown5 ((stTo (wtK zs n) k).drop cap) ⟨g, 0, none⟩ _ _ rfl (by simp [stTo_len] <;> omega) (by intro j hj; omega) (by simp; omega) (by omega) hs5 ?_); intro v6 w6 hown6 hgr6; refine Hid.out ?_)
                  have HQ6 := Lib.hid (below_grown HQ5.out hgr6 (fun g hg => (hown5.lt g hg).1))
                  obtain ⟨g6, cap6, rfl, hown7⟩ := lg_end hown6 HPOS.out
                  refine Lib.hid ?_
                  go_wp2_with fail
                  go_roundw
                  case rel => exact ⟨k + 1, g6, cap6, by omega, by go_num, rfl, hown7.base_le hbase, hbel.trans (HQ6.out.mono hbase)⟩
                  case measure => simp [intOf]; omega
                · go_wp2_with (at_builtin; go_loud (refine append_ints rfl (.tmp 56) (.tmp 59) rfl wo.heap.size v5 _ rfl hown5 ((stTo (wtK zs n) k).drop q) ⟨g, q, none⟩ _ _ rfl (by simp [stTo_len] <;> omega) (fun j hj => own_rest HOWN.out HQ5.out (by rw [stTo_len]; exact hj)) (by simp; omega) (by omega) hs5 ?_); intro v6 w6 hown6 hgr6; refine Hid.out ?_)
                  have HQ6 := Lib.hid (below_grown HQ5.out hgr6 (fun g hg => (hown5.lt g hg).1))
                  obtain ⟨g6, cap6, rfl, hown7⟩ := lg_end hown6 HPOS.out
                  refine Lib.hid ?_
                  go_wp2_with fail
                  go_roundw
                  case rel => exact ⟨k + 1, g6, cap6, by omega, by go_num, rfl, hown7.base_le hbase, hbel.trans (HQ6.out.mono hbase)⟩
                  case measure => simp [intOf]; omega
        · obtain rfl : k = n := by omega
          have hbd : ∀ z ∈ fwO zs k, -9223372036854775808 ≤ z ∧ z ≤ 9223372036854775807 := fun z hz => by have := stTo_mem _ _ _ hz; omega
          obtain ⟨A2, cap2, e2, i2, -⟩ := Own.ints (zs := fwO zs k) hown hbd
          rw [HOL.out] at i2 e2
          simp only [Value.slice.injEq, true_and] at e2
          obtain ⟨e2, -⟩ := e2
          subst e2
          have HI2 := Lib.hid i2
          have HC3 := Lib.hid hbel
          clear hown i2 hbel hbd
          have hs3 := HC3.out.size
          go_wp2_with fail
          go_loopw [10, 11, 12] (fun s u i wr => ∃ j : Nat, j ≤ k ∧ i = .int .i64 j ∧ u = .int .i64 (fwS zs k j) ∧ Hid (∀ i, i < j → fwS zs k i < need) ∧ Own wr wo.heap.size s (putAll (fwO zs k) j) ∧ Below wo.heap.size wo wr) (fun _ _ i _ => k - (intOf i).toNat)
          case atStart => exact ⟨0, Nat.zero_le _, rfl, rfl, fun i h => absurd h (by omega), Own.empty _ (Nat.le_refl _), balloc (Below.refl _ _) _⟩
          case round =>
            obtain ⟨j, hj, rfl, rfl, HB, hown, hbel⟩ := hrel
            have hsb := HFS.out j hj
            have hbase := hbel.size
            have HO := Lib.hid hown
            have hlen := putAll_len (fwO zs k) j (by rw [HOL.out]; exact hj)
            clear hown
            by_cases hge : need ≤ fwS zs k j
            · have hd2 : decide (fwS zs k j < need) = false := by simpa using hge
              have HV := Lib.hid ((HF.out j (HQ.out j HB.out hj (.inr hge))).1 hge)
              have HE : Hid (putAll (fwO zs k) j = srt ((fwO zs k).take j)) := putAll_srt (fwO_nd zs k) (by rw [HOL.out]; exact hj)
              by_cases hlt : j < k
              · go_wp2_with fail
                go_ret2
                exact ⟨_, by rw [HV.out.2]; rfl, by rw [HV.out.1, ← HE.out]; exact HO.out.base_le hs3, btrans HC3.out hbel⟩
              · obtain rfl : j = k := by omega
                go_wp2_with fail
                go_ret2
                exact ⟨_, by rw [HV.out.2]; rfl, by rw [HV.out.1, ← HE.out]; exact HO.out.base_le hs3, btrans HC3.out hbel⟩
            · have hd2 : decide (fwS zs k j < need) = true := by simpa using hge
              by_cases hlt : j < k
              · obtain ⟨p, hp0, hp1⟩ := fwO_at zs hlt
                obtain ⟨b, off, e1, hb, c0⟩ := (HI2.out.kon hbel).at1 hlt
                obtain ⟨rfl, rfl⟩ : g = b ∧ 0 = off := by simpa using e1
                clear e1
                rw [hp0, Nat.zero_add] at c0
                have HN : Hid (fwS zs k (j + 1) = fwS zs k j + gi zs (p * 3 + 2)) := by show _ = _; rw [fwS_succ, hp0, wtK_in zs hp1]
                have HT : Hid (putAll (fwO zs k) (j + 1) = putL (putAll (fwO zs k) j) p) := by show _ = _; rw [putAll, hp0]
                have hwp := HWT.out p hp1
                have hmb : ∀ z ∈ putAll (fwO zs k) j, -9223372036854775808 ≤ z ∧ z ≤ 9223372036854775807 := fun z hz => by
                  have hm := ((putAll_law (fwO zs k) j (by rw [HOL.out]; exact hj)).2 z).1 hz
                  have := stTo_mem _ _ _ (List.mem_of_mem_take hm); omega
                obtain ⟨A4, cap4, rfl, i4, -⟩ := HO.out.ints hmb
                obtain ⟨m4, hm4⟩ : ∃ m, m = (putAll (fwO zs k) j).length := ⟨_, rfl⟩
                rw [← hm4] at i4 hlen ⊢
                have HPut := Lib.hid (l00Put_c A4 m4 cap4 _ p _ i4 (by omega))
                have HM4 := Lib.hid hm4
                have HPG := Lib.hid hp0
                clear hp0 hmb i4 hm4
                go_wp2_with fail
                refine HPut.out.mono ?_
                rintro e w5 ⟨v5, rfl, hown5, hb5⟩
                rw [← HT.out] at hown5
                have HO5 := Lib.hid hown5
                have HB5 := Lib.hid (btrans hbel hb5)
                obtain ⟨b', off', e', hb', c1⟩ := (HI2.out.kon HB5.out).at1 hlt
                obtain ⟨rfl, rfl⟩ : g = b' ∧ 0 = off' := by simpa using e'
                obtain ⟨b9, off9, e9, hb9, -, -, c2⟩ := (h.below (btrans HC3.out HB5.out) (Nat.le_refl _)).at3 hp1
                subst e9
                clear e' hown5 c0 hb5
                rw [HPG.out, Nat.zero_add] at c1
                go_wp2_with fail
                go_roundw
                case rel => exact ⟨j + 1, by omega, by go_num, by rw [HN.out], fun i hi => by
                  rcases Nat.lt_or_ge i j with q | q
                  · exact HB.out i q
                  · obtain rfl : i = j := by omega
                    omega, HO5.out.base_le hbase, HB5.out⟩
                case measure => simp [intOf]; omega
              · obtain rfl : j = k := by omega
                have HV := Lib.hid ((HF.out j (HQ.out j HB.out hj (.inl rfl))).2 (by omega))
                go_wp2
                go_ret2
                exact ⟨_, by rw [HV.out.2]; rfl, by rw [HV.out.1]; exact Own.nil _ _, btrans HC3.out hbel⟩
    · have HV : Hid (fwL zs n need = [] ∧ fwC zs n need = 2) := by show _ ∧ _; simp [fwL, fwC, hok, hr]
      go_enter Tryz.func16, Tryz.ntmps16
      go_wp2_with fail
      refine (l05Ok_c _ _ _ zs _ h hn).mono ?_
      rintro e w2 ⟨rfl, hb2⟩
      rw [hok]
      go_wp2_with (first | (go_at_call 36; refine (l00In_c _ _ _ _).mono ?_; rintro e w' ⟨rfl, rfl⟩))
      go_ret2
      exact ⟨_, by rw [HV.out.2]; rfl, by rw [HV.out.1]; exact Own.nil _ _, hb2⟩
end Go.Proofs.YtgcpobondcnjcaaGreatDoor
