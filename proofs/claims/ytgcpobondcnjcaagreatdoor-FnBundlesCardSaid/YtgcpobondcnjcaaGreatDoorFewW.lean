/-
  FewestBunches: the walks.
  No conditions.
-/
import Derived.Test.YtgcpobondcnjcaaGreatDoorStabI
import Derived.Test.YtgcpobondcnjcaaGreatDoorOrd
import Derived.Test.YtgcpobondcnjcaaGreatDoorFewP
namespace Go.Proofs.YtgcpobondcnjcaaGreatDoor
open Go.ChangeShapes Go.WideShapes Go.ChangeAt Go.RowKit Go.Deep Go.Shelf Go.Sort
set_option linter.unusedVariables false

theorem Ints.kon {w w' : World} {k n : Nat} {A : Option Addr} {zs : List Int} (h : Ints w w.heap.size k A n zs) (hb : Below w.heap.size w w') : Ints w' w'.heap.size k A n zs := (h.below hb (Nat.le_refl _)).more hb.size
set_option maxRecDepth 100000 in
theorem l00Put_c (A : Option Addr) (n c : Nat) (zs : List Int) (x : Int) (w : World) (h : Ints w w.heap.size 1 A n zs) (hn : n ≤ 1000) :
    Calls Tryz.prog 54 #[.slice A n c, .int .i64 x] w fun e w' => ∃ v, e = .returned v ∧ Own w' w.heap.size v (putL zs x) ∧ Below w.heap.size w w' := by
  have HL := Lib.hid (show zs.length = n by have := h.length; omega)
  go_enter Tryz.func54, Tryz.ntmps54
  go_wp2_with fail
  go_loopw [5, 6, 7] (fun s d i wr => ∃ k : Nat, k ≤ n ∧ i = .int .i64 k ∧ d = .bool (putTo zs x k).2 ∧ Own wr w.heap.size s (putTo zs x k).1 ∧ Below w.heap.size w wr) (fun _ _ i _ => n - (intOf i).toNat)
  case atStart => exact ⟨0, Nat.zero_le _, rfl, rfl, Own.empty _ (Nat.le_refl _), balloc (Below.refl _ _) _⟩
  case round =>
    obtain ⟨k, hk, rfl, rfl, hown, hbel⟩ := hrel
    have hlen := putTo_len zs x k
    have hbase := hbel.size
    have HP := Lib.hid (putTo_succ zs x k)
    have HO := Lib.hid hown
    clear hown
    rcases hT : putTo zs x k with ⟨L, d⟩
    rw [hT] at HP HO hlen
    simp only at hlen
    have HT := Lib.hid hT
    clear hT
    by_cases hlt : k < n
    · obtain ⟨b, off, rfl, hb, c0⟩ := (h.below hbel (Nat.le_refl _)).at1 hlt
      rcases d with _ | _
      · by_cases hge : x ≤ gi zs k
        · by_cases hgt : x < gi zs k
          · have HP2 : Hid (putTo zs x (k + 1) = (L ++ [x] ++ [gi zs k], true)) := by show _ = _; rw [HP.out, if_pos ⟨rfl, hge⟩, if_pos hgt]
            have hd1 : decide (gi zs k ≥ x) = true := decide_eq_true hge
            have hd2 : decide (gi zs k > x) = true := decide_eq_true hgt
            go_wp2_with (at_builtin; refine append_int rfl (.tmp 31) (.tmp 33) rfl w.heap.size _ _ rfl (Own.alloc HO.out _) x _ rfl (Blk.new _ _ _) (by simp; omega) (by simp; omega) ?_; intro v1 w2 hown1 hgr1; refine Hid.out ?_)
            have HO1 := Lib.hid hown1
            have HB1 := Lib.hid (below_grown (balloc hbel _) hgr1 (fun g hg => (HO.out.lt g hg).1))
            have hb1 := HB1.out.size
            obtain ⟨b', off', e', -, c1⟩ := (h.below HB1.out (Nat.le_refl _)).at1 hlt
            obtain ⟨rfl, rfl⟩ : b = b' ∧ off = off' := by simpa using e'
            clear e' hown1 hgr1 c0
            refine Lib.hid ?_
            go_wp2_with (at_builtin; refine append_int rfl (.tmp 35) (.tmp 40) rfl w.heap.size _ _ rfl (Own.alloc HO1.out _) (gi zs k) _ rfl (Blk.new _ _ _) (by simp; omega) (by simp; omega) ?_; intro v3 w3 hown3 hgr3)
            go_roundw
            case rel => exact ⟨k + 1, by omega, by go_num, by rw [HP2.out], by rw [HP2.out]; exact hown3, below_grown (balloc HB1.out _) hgr3 (fun g hg => (HO1.out.lt g hg).1)⟩
            case measure => simp [intOf]; omega
          · have HP2 : Hid (putTo zs x (k + 1) = (L ++ [gi zs k], true)) := by show _ = _; rw [HP.out, if_pos ⟨rfl, hge⟩, if_neg hgt]
            have hd1 : decide (gi zs k ≥ x) = true := decide_eq_true hge
            have hd2 : decide (gi zs k > x) = false := decide_eq_false hgt
            go_wp2_with (at_builtin; refine append_int rfl (.tmp 35) (.tmp 40) rfl w.heap.size _ _ rfl (Own.alloc HO.out _) (gi zs k) _ rfl (Blk.new _ _ _) (by simp; omega) (by simp; omega) ?_; intro v3 w3 hown3 hgr3)
            go_roundw
            case rel => exact ⟨k + 1, by omega, by go_num, by rw [HP2.out], by rw [HP2.out]; exact hown3, below_grown (balloc hbel _) hgr3 (fun g hg => (HO.out.lt g hg).1)⟩
            case measure => simp [intOf]; omega
        · have HP2 : Hid (putTo zs x (k + 1) = (L ++ [gi zs k], false)) := by show _ = _; rw [HP.out, if_neg (by rintro ⟨_, q⟩; exact hge q)]
          have hd1 : decide (gi zs k ≥ x) = false := decide_eq_false hge
          go_wp2_with (at_builtin; refine append_int rfl (.tmp 35) (.tmp 40) rfl w.heap.size _ _ rfl (Own.alloc HO.out _) (gi zs k) _ rfl (Blk.new _ _ _) (by simp; omega) (by simp; omega) ?_; intro v3 w3 hown3 hgr3)
          go_roundw
          case rel => exact ⟨k + 1, by omega, by go_num, by rw [HP2.out], by rw [HP2.out]; exact hown3, below_grown (balloc hbel _) hgr3 (fun g hg => (HO.out.lt g hg).1)⟩
          case measure => simp [intOf]; omega
      · have HP2 : Hid (putTo zs x (k + 1) = (L ++ [gi zs k], true)) := by show _ = _; rw [HP.out, if_neg (by rintro ⟨q, _⟩; cases q)]
        go_wp2_with (at_builtin; refine append_int rfl (.tmp 35) (.tmp 40) rfl w.heap.size _ _ rfl (Own.alloc HO.out _) (gi zs k) _ rfl (Blk.new _ _ _) (by simp; omega) (by simp; omega) ?_; intro v3 w3 hown3 hgr3)
        go_roundw
        case rel => exact ⟨k + 1, by omega, by go_num, by rw [HP2.out], by rw [HP2.out]; exact hown3, below_grown (balloc hbel _) hgr3 (fun g hg => (HO.out.lt g hg).1)⟩
        case measure => simp [intOf]; omega
    · obtain rfl : k = n := by omega
      rcases d with _ | _
      · have HP2 : Hid (putL zs x = L ++ [x]) := by show _ = _; unfold putL; rw [HL.out, HT.out]; rfl
        go_wp2_with (at_builtin; refine append_int rfl (.tmp 44) (.tmp 46) rfl w.heap.size _ _ rfl (Own.alloc HO.out _) x _ rfl (Blk.new _ _ _) (by simp; omega) (by simp; omega) ?_; intro v3 w3 hown3 hgr3)
        go_ret
        exact ⟨_, rfl, by rw [HP2.out]; exact hown3, below_grown (balloc hbel _) hgr3 (fun g hg => (HO.out.lt g hg).1)⟩
      · have HP2 : Hid (putL zs x = L) := by show _ = _; unfold putL; rw [HL.out, HT.out]; rfl
        go_wp2
        go_ret
        exact ⟨_, rfl, by rw [HP2.out]; exact HO.out, hbel⟩

theorem cmpF_c (A : Option Addr) (n c bx : Nat) (zs : List Int) (w : World) (h : Ints w w.heap.size 3 A n zs) (hb : Blk w bx 27 #[.slice A n c]) (hok : okAll (bunchAt zs) n 30 = true) :
    CmpOk 51 #[.pointer (some ⟨bx, 0, none⟩)] n (wtK zs n) w := by
  intro w' hbel x y hx0 hx1 hy0 hy1
  obtain ⟨p, rfl⟩ : ∃ p : Nat, x = p := ⟨x.toNat, by omega⟩
  obtain ⟨q, rfl⟩ : ∃ q : Nat, y = q := ⟨y.toNat, by omega⟩
  have hn20 := okAll_le hok
  have hp := wt_bd hok p (by omega)
  have hq := wt_bd hok q (by omega)
  rw [wtK_in zs (by omega), wtK_in zs (by omega)]
  have hB := hb.below hbel hb.lt
  have c9 := hB.cell 0
  simp at c9
  obtain ⟨b, off, rfl, hlt, -, -, c0⟩ := (h.below hbel (Nat.le_refl _)).at3 (i := p) (by omega)
  obtain ⟨b', off', e', -, -, -, c1⟩ := (h.below hbel (Nat.le_refl _)).at3 (i := q) (by omega)
  obtain ⟨rfl, rfl⟩ : b = b' ∧ off = off' := by simpa using e'
  clear e' hb hB h hbel hok
  go_enter Tryz.func51, Tryz.ntmps51
  go_wp2_with fail
  go_region
  go_wp2
  go_ret
  exact ⟨rfl, 1, rfl⟩

theorem fw_facts {zs : List Int} {n : Nat} {need : Int} (hok : okAll (bunchAt zs) n 30 = true) (hr : inR need 0 1000000 = true) {j : Nat} (hq : fwQ zs n need = j) :
    (need ≤ fwS zs n j → fwL zs n need = srt ((fwO zs n).take j) ∧ fwC zs n need = 0) ∧ (fwS zs n j < need → fwL zs n need = [] ∧ fwC zs n need = 3) := by
  refine ⟨fun h => ?_, fun h => ?_⟩
  · simp [fwL, fwC, hok, hr, hq, h]
  · have : ¬ need ≤ fwS zs n j := by omega
    simp [fwL, fwC, hok, hr, hq, this]
set_option maxHeartbeats 4000000 in
set_option maxRecDepth 100000 in
theorem few_i (A : Option Addr) (n c : Nat) (zs : List Int) (need : Int) (w : World) (h : Ints w w.heap.size 3 A n zs) (hn : n ≤ 1048576) :
    Calls Tryz.prog 15 #[.slice A n c, .int .i64 need] w fun e w' => ∃ v, e = .returned (.tuple #[v, .int .i64 (fwC zs n need)]) ∧ Own w' w.heap.size v (fwL zs n need) ∧ Below w.heap.size w w' := by
  have b1 := balloc (Below.refl w.heap.size w) (.cells #[.slice A n c] 27)
  have B1 := Blk.new w 27 #[.slice A n c]
  have h1 := (h.below b1 (Nat.le_refl _)).more b1.size
  have HB1 := Lib.hid (And.intro b1 B1)
  clear b1 B1
  rcases hok : okAll (bunchAt zs) n 30 with _ | _
  · have HV : Hid (fwL zs n need = [] ∧ fwC zs n need = 1) := by show _ ∧ _; simp [fwL, fwC, hok]
    go_enter Tryz.func15, Tryz.ntmps15
    go_wp2_with fail
    refine (ValidBunches_c _ _ _ zs _ h1 hn).mono ?_
    rintro e w2 ⟨rfl, hb2⟩
    rw [hok]
    go_wp2
    go_ret2
    exact ⟨_, by rw [HV.out.2]; rfl, by rw [HV.out.1]; exact Own.nil _ _, btrans HB1.out.1 hb2⟩
  · refine inR_split need 0 1000000 (fun hr r1 r2 => ?_) (fun hr => ?_)
    · have hn20 := okAll_le hok
      have HF := Lib.hid (fun j => fw_facts (need := need) hok hr (j := j))
      have HQ := Lib.hid (fun j => fwQ_eq (zs := zs) (n := n) (need := need) (j := j))
      have HOL : Hid ((fwO zs n).length = n) := stTo_len _ _
      go_enter Tryz.func15, Tryz.ntmps15
      go_wp2_with fail
      refine (ValidBunches_c _ _ _ zs _ h1 hn).mono ?_
      rintro e w2 ⟨rfl, hb2⟩
      rw [hok]
      have c2 := btrans HB1.out.1 hb2
      have B2 := HB1.out.2.on hb2
      have h2 := (h.below c2 (Nat.le_refl _)).more c2.size
      have HC := Lib.hid (cmpF_c A n c w.heap.size zs w2 h2 B2 hok)
      have X := B2
      have Xl := X.lt
      have Xc0 := X.cell 0
      have Xf0 := X.frozen 0
      simp at Xc0
      have XH := Lib.hid X
      clear X
      go_wp2_with (first | (go_at_call 33; refine (within_c _ _ _ _).mono ?_; rintro e w' ⟨rfl, rfl⟩))
      refine (sortedIndices30_c 51 #[.pointer (some ⟨w.heap.size, 0, none⟩)] n (wtK zs n) _ (enters_of Tryz.func51 (by decide) rfl) HC.out (wtK_clp zs n) hn20).mono ?_
      rintro e w3 ⟨v, rfl, hown, hb3⟩
      have hbd : ∀ z ∈ fwO zs n, -9223372036854775808 ≤ z ∧ z ≤ 9223372036854775807 := fun z hz => by have := stTo_mem _ _ _ hz; omega
      obtain ⟨A2, cap2, rfl, i2, -⟩ := Own.ints (zs := fwO zs n) hown hbd
      rw [HOL.out] at i2 ⊢
      have HI2 := Lib.hid i2
      have c3 := btrans c2 hb3
      have HC3 := Lib.hid c3
      have X3 := XH.out.on hb3
      have HX3 := Lib.hid X3
      clear hown i2 c3 X3 Xl Xc0 Xf0
      have hs3 := HC3.out.size
      go_wp2_with fail
      go_loopw [7, 8, 24] (fun s u i wr => ∃ j g cap : Nat, j ≤ n ∧ i = .int .i64 j ∧ s = .slice (some ⟨g, 0, none⟩) j cap ∧ u = .int .i64 (fwS zs n j) ∧ Hid (∀ i, i < j → fwS zs n i < need) ∧ Own wr w3.heap.size (.slice (some ⟨g, 0, none⟩) j cap) ((fwO zs n).take j) ∧ Below w3.heap.size w3 wr) (fun _ _ i _ => n - (intOf i).toNat)
      case atStart => exact ⟨0, w3.heap.size, 0, Nat.zero_le _, rfl, rfl, rfl, fun i h => absurd h (by omega), Own.empty _ (Nat.le_refl _), balloc (Below.refl _ _) _⟩
      case round =>
        obtain ⟨j, g, cap, hj, rfl, rfl, rfl, HB, hown, hbel⟩ := hrel
        have hsb := fwS_bd hok j hj
        have hbase := hbel.size
        have HO := Lib.hid hown
        have hlen : ((fwO zs n).take j).length = j := by rw [List.length_take, HOL.out]; omega
        have HLn := Lib.hid hlen
        clear hown hlen
        by_cases hge : need ≤ fwS zs n j
        · have hd1 : decide (fwS zs n j ≥ need) = true := decide_eq_true hge
          have hd2 : decide (fwS zs n j < need) = false := by simpa using hge
          have HV := Lib.hid ((HF.out j (HQ.out j HB.out hj (.inr hge))).1 hge)
          have HS := Lib.hid (sort_own w3.heap.size g j cap ((fwO zs n).take j) wr HO.out (by omega))
          by_cases hlt : j < n
          · obtain ⟨b, off, rfl, hb, c0⟩ := (HI2.out.kon hbel).at1 hlt
            go_wp2_with fail
            refine HS.out.mono ?_
            rintro e w5 ⟨rfl, hown5, hgr5⟩
            go_wp2
            go_ret2
            exact ⟨_, by rw [HV.out.2]; rfl, by rw [HV.out.1]; exact hown5.base_le hs3, btrans HC3.out (below_grown hbel hgr5 (fun q hq => by injection hq with hq; subst hq; exact (HO.out.lt _ rfl).1))⟩
          · obtain rfl : j = n := by omega
            go_wp2_with fail
            refine HS.out.mono ?_
            rintro e w5 ⟨rfl, hown5, hgr5⟩
            go_wp2
            go_ret2
            exact ⟨_, by rw [HV.out.2]; rfl, by rw [HV.out.1]; exact hown5.base_le hs3, btrans HC3.out (below_grown hbel hgr5 (fun q hq => by injection hq with hq; subst hq; exact (HO.out.lt _ rfl).1))⟩
        · have hd1 : decide (fwS zs n j ≥ need) = false := decide_eq_false hge
          have hd2 : decide (fwS zs n j < need) = true := by simpa using hge
          by_cases hlt : j < n
          · obtain ⟨p, hp0, hp1⟩ := fwO_at zs hlt
            obtain ⟨b, off, rfl, hb, c0⟩ := (HI2.out.kon hbel).at1 hlt
            rw [hp0] at c0
            have HN : Hid (fwS zs n (j + 1) = fwS zs n j + gi zs (p * 3 + 2)) := by show _ = _; rw [fwS_succ, hp0, wtK_in zs hp1]
            have HT : Hid ((fwO zs n).take (j + 1) = (fwO zs n).take j ++ [(p : Int)]) := by show _ = _; rw [take_next (by rw [HOL.out]; exact hlt), hp0]
            have hwp := wt_bd hok p hp1
            clear hp0
            go_wp2_with (at_builtin; refine append_int rfl (.tmp 31) (.tmp 33) rfl w3.heap.size _ _ rfl (Own.alloc HO.out _) p _ rfl (Blk.new _ _ _) (by rw [HLn.out]; omega) (by simp; omega) ?_; intro v4 w4 hown4 hgr4; refine Hid.out ?_)
            rw [← HT.out] at hown4
            have hb4 := below_grown (balloc hbel _) hgr4 (fun q hq => (HO.out.lt q hq).1)
            have HB4 := Lib.hid hb4
            obtain ⟨g4, cap4, rfl⟩ := own_form hown4 (by rw [List.length_take, HOL.out]; omega)
            have e4 : ((fwO zs n).take (j + 1)).length = j + 1 := by rw [List.length_take, HOL.out]; omega
            rw [e4] at hown4 ⊢
            have HO4 := Lib.hid hown4
            have X4 := HX3.out.on hb4
            have Y0 := X4.cell 0
            simp at Y0
            obtain ⟨b', off', rfl, hb', -, -, c1⟩ := (h.below (btrans HC3.out hb4) (Nat.le_refl _)).at3 hp1
            clear hown4 hgr4 hb4 c0 e4 X4
            refine Lib.hid ?_
            go_wp2_with fail
            go_roundw
            case rel => exact ⟨j + 1, g4, cap4, by omega, by go_num, rfl, by rw [HN.out], fun i hi => by
              rcases Nat.lt_or_ge i j with q | q
              · exact HB.out i q
              · obtain rfl : i = j := by omega
                omega, HO4.out, HB4.out⟩
            case measure => simp [intOf]; omega
          · obtain rfl : j = n := by omega
            have HV := Lib.hid ((HF.out j (HQ.out j HB.out hj (.inl rfl))).2 (by omega))
            go_wp2
            go_ret2
            exact ⟨_, by rw [HV.out.2]; rfl, by rw [HV.out.1]; exact Own.nil _ _, btrans HC3.out hbel⟩
    · have HV : Hid (fwL zs n need = [] ∧ fwC zs n need = 2) := by show _ ∧ _; simp [fwL, fwC, hok, hr]
      go_enter Tryz.func15, Tryz.ntmps15
      go_wp2_with fail
      refine (ValidBunches_c _ _ _ zs _ h1 hn).mono ?_
      rintro e w2 ⟨rfl, hb2⟩
      rw [hok]
      go_wp2_with (first | (go_at_call 33; refine (within_c _ _ _ _).mono ?_; rintro e w' ⟨rfl, rfl⟩))
      go_ret2
      exact ⟨_, by rw [HV.out.2]; rfl, by rw [HV.out.1]; exact Own.nil _ _, btrans HB1.out.1 hb2⟩
end Go.Proofs.YtgcpobondcnjcaaGreatDoor
