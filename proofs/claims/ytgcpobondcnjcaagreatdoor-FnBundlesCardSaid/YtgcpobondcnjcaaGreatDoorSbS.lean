/-
  SortBunches: the reference's walk.
  No conditions.
-/
import Derived.Test.YtgcpobondcnjcaaGreatDoorSbW
namespace Go.Proofs.YtgcpobondcnjcaaGreatDoor
open Go.ChangeShapes Go.WideShapes Go.ChangeAt Go.RowKit Go.Deep Go.Shelf Go.Lib Go.Sort
set_option linter.unusedVariables false

theorem quietB {P : Program} {f : FuncId} {args : Array Value} {w : World} {n : Nat} {x b : Bool}
    (h : Calls P f args (w.drewN n) fun e w' => e = .returned (.bool x) ∧ ∃ q, w' = (w.drewN n).drewN q) (hb : x = b) : Calls P f args (w.drewN n) fun e w'' => e = .returned (.bool b) ∧ ∃ m, w'' = w.drewN m :=
  h.mono fun _ _ ⟨he, q, hm⟩ => ⟨by rw [he, hb], n + q, by rw [hm]; simp⟩
theorem quietB_add {P : Program} {f : FuncId} {args : Array Value} {w : World} {a n : Nat} {x b : Bool}
    (h : Calls P f args (w.drewN (a + n)) fun e w' => e = .returned (.bool x) ∧ ∃ q, w' = (w.drewN (a + n)).drewN q) (hb : x = b) : Calls P f args (w.drewN (a + n)) fun e w'' => e = .returned (.bool b) ∧ ∃ m, w'' = w.drewN (a + m) :=
  h.mono fun _ _ ⟨he, q, hm⟩ => ⟨by rw [he, hb], n + q, by rw [hm]; simp [Nat.add_assoc]⟩
theorem bef_key {zs : List Int} {n p k : Nat} (hok : okAll (bunchAt zs) n 30 = true) (hp : p < n) (hk : k < n) : bef (gi zs (k * 3)) (gi zs (k * 3 + 2)) (gi zs (p * 3)) (gi zs (p * 3 + 2)) = decide (bK zs n (p : Int) < bK zs n (k : Int)) := by
  have h1 := bunchOk_bd (okAll_get hok hp)
  have h2 := bunchOk_bd (okAll_get hok hk)
  have e : ∀ q, q < n → bK zs n (q : Int) = -(gi zs (q * 3) * 100000 + gi zs (q * 3 + 2)) := fun q hq => by unfold bK; rw [clB_in zs hq, clB_in zs hq]; rfl
  rw [e p hp, e k hk]
  unfold bef
  split <;> rw [decide_eq_decide] <;> omega
theorem sb_end {zs : List Int} {f : Int → Int} {k q B M : Nat} {v : Value} {w : World} (h : w.ownsRow B 40 3 v M (iv ((flB zs (stTo f k)).take (q * 3) ++ [gi zs (k * 3), gi zs (k * 3 + 1), gi zs (k * 3 + 2)] ++ (flB zs (stTo f k)).drop (q * 3)))) (hM : M = k + 1) (hq : q ≤ k) (hp : insK f (stTo f k) k k = q) :
    ∃ g cap, v = .slice (some ⟨g, 0, none⟩) (k + 1) cap ∧ Own3 w B (.slice (some ⟨g, 0, none⟩) (k + 1) cap) (k + 1) (flB zs (stTo f (k + 1))) := by
  have hl := stTo_len f k
  have e : (flB zs (stTo f k)).take (q * 3) ++ [gi zs (k * 3), gi zs (k * 3 + 1), gi zs (k * 3 + 2)] ++ (flB zs (stTo f k)).drop (q * 3) = flB zs (stTo f (k + 1)) := by
    rw [flB_take zs q _ (by omega), flB_drop zs q _ (by omega)]
    have e2 : stTo f (k + 1) = (stTo f k).take q ++ [(k : Int)] ++ (stTo f k).drop q := by
      conv => lhs; unfold stTo insL
      rw [hl, hp]; simp
    rw [e2, flB_app, flB_app]
    simp [flB]
  rw [e, hM] at h
  have h3 : Own3 w B v (k + 1) (flB zs (stTo f (k + 1))) := h
  obtain ⟨g, cap, rfl⟩ := own3_form h3 (by omega)
  exact ⟨g, cap, rfl, h3⟩
set_option maxHeartbeats 6000000 in
set_option maxRecDepth 100000 in
theorem sb_s (A : Option Addr) (n c : Nat) (zs : List Int) (w : World) (h : Ints w w.heap.size 3 A n zs) (hn : n ≤ 1048576) :
    Calls Tryz.prog 10 #[.slice A n c] w fun e w' => ∃ v, e = .returned (.tuple #[v, .int .i64 (sbC zs n)]) ∧ Own3 w' w.heap.size v (sbN zs n) (sbV zs n) ∧ Below w.heap.size w w' := by
  rcases hok : okAll (bunchAt zs) n 30 with _ | _
  · have HV : Hid (sbV zs n = [] ∧ sbN zs n = 0 ∧ sbC zs n = 1) := by show _ ∧ _; simp [sbV, sbN, sbC, hok]
    go_enter Tryz.func10, Tryz.ntmps10
    go_wp2_with fail
    refine (l05Ok_c _ _ _ zs _ h hn).mono ?_
    rintro e w2 ⟨rfl, hb2⟩
    rw [hok]
    go_wp2
    go_ret2
    exact ⟨_, by rw [HV.out.2.2]; rfl, by rw [HV.out.1, HV.out.2.1]; exact Own3.nil _ _, hb2⟩
  · have HV : Hid (sbV zs n = flB zs (stTo (bK zs n) n) ∧ sbN zs n = n ∧ sbC zs n = 0) := by show _ ∧ _; simp [sbV, sbN, sbC, hok]
    have hn30 := okAll_le hok
    have HBK := Lib.hid (fun (p k : Nat) (hp : p < n) (hk : k < n) => bef_key hok hp hk)
    go_enter Tryz.func10, Tryz.ntmps10
    go_wp2_with fail
    refine (l05Ok_c _ _ _ zs _ h hn).mono ?_
    rintro e w2 ⟨rfl, hb2⟩
    rw [hok]
    go_wp2_with fail
    go_loopw [4, 5] (fun s i wr => ∃ k g cap : Nat, k ≤ n ∧ i = .int .i64 k ∧ s = .slice (some ⟨g, 0, none⟩) k cap ∧ Own3 wr w.heap.size (.slice (some ⟨g, 0, none⟩) k cap) k (flB zs (stTo (bK zs n) k)) ∧ Below w.heap.size w wr) (fun _ i _ => n - (intOf i).toNat)
    case atStart => exact ⟨0, w2.heap.size, 0, Nat.zero_le _, rfl, rfl, Own3.empty _ hb2.size, balloc hb2 _⟩
    case round =>
      obtain ⟨k, g, cap, hk, rfl, rfl, hown, hbel⟩ := hrel
      obtain ⟨wo, rfl⟩ : ∃ wo : World, wo = wr := ⟨_, rfl⟩
      have hbase := hbel.size
      by_cases hlt : k < n
      · have HOWN := Lib.hid hown
        clear hown
        go_wp2_with fail
        go_loopw [6] (fun v wr => ∃ q m : Nat, q ≤ k ∧ v = .int .i64 q ∧ wr = wo.drewN m ∧ Hid (insK (bK zs n) (stTo (bK zs n) k) k q = insK (bK zs n) (stTo (bK zs n) k) k k)) (fun v _ => (intOf v).toNat)
        case atStart => exact ⟨k, 0, Nat.le_refl _, rfl, rfl, rfl⟩
        case round =>
          obtain ⟨q, m, hq, rfl, rfl, HI⟩ := hrel
          have hqc : q ≤ cap := Nat.le_trans hq (own3_cap HOWN.out)
          obtain ⟨b, off, rfl, hb, c0, c1, c2⟩ := (h.below hbel (Nat.le_refl _)).at3 hlt
          rcases Nat.eq_zero_or_pos q with h0 | h0
          · have hd : decide (0 < q) = false := by simpa using h0
            have hp : ¬ (0 : Int) < (q : Int) := by omega
            have H0 := Lib.hid h0
            clear h0
            go_wp2_with fail
            go_quiet (fail)
            have HPOS : Hid (insK (bK zs n) (stTo (bK zs n) k) k k = q) := by show _ = _; exact ins_zero HI.out (by have := H0.out; omega)
            clear c0 c1 c2
            have hlF : (flB zs (stTo (bK zs n) k)).length = k * 3 := by rw [flB_len, stTo_len]
            have HLF := Lib.hid hlF
            clear hlF
            go_wp2_with (at_builtin; go_loud (refine append_bns rfl (.tmp 34) (.tmp 37) rfl wo.heap.size _ 0 [] rfl (Own3.empty _ (Nat.le_refl _)) ((flB zs (stTo (bK zs n) k)).take (q * 3)) ⟨g, 0, none⟩ q cap rfl (by rw [List.length_take, HLF.out]; omega) (fun j hj => own3_front HOWN.out (balloc (bdrewN (Below.refl _ _) _) _) hj hq) (by omega) (by omega) (by simp) ?_); intro v4 w4 hown4 hgr4; refine Hid.out ?_)
            have HO4 : Hid (Own3 w4 wo.heap.size v4 q ((flB zs (stTo (bK zs n) k)).take (q * 3))) := by have := hown4; rw [Nat.zero_add, List.nil_append] at this; exact this
            have HQ4 := Lib.hid (below_grown (balloc (bdrewN (Below.refl wo.heap.size wo) _) _) hgr4 (fun g hg => by have e : some wo.heap.size = some g := hg; injection e with e; omega))
            have hs4 : wo.heap.size ≤ w4.heap.size := HQ4.out.size
            obtain ⟨b', off', e', -, c0, c1, c2⟩ := (h.below (btrans hbel HQ4.out) (Nat.le_refl _)).at3 hlt
            obtain ⟨rfl, rfl⟩ : b = b' ∧ off = off' := by simpa using e'
            clear e' hown4 hgr4
            refine Lib.hid ?_
            go_wp2_with (at_builtin; go_loud (refine append_bn1 rfl (.tmp 39) (.tmp 44) rfl wo.heap.size v4 q _ rfl (Own3.alloc HO4.out _) [gi zs (k * 3), gi zs (k * 3 + 1), gi zs (k * 3 + 2)] rfl _ rfl (Blk.new _ _ _) (by omega) (by simp; omega) ?_); intro v5 w5 hown5 hgr5; refine Hid.out ?_)
            have HQ5 := Lib.hid (below_grown (HQ4.out.alloc hs4 _) hgr5 (fun g hg => (HO4.out.lt g hg).1))
            have hs5 : wo.heap.size ≤ w5.heap.size := HQ5.out.size
            have HO5 := Lib.hid hown5
            clear hown5 hgr5 c0 c1 c2
            refine Lib.hid ?_
            have hkc := own3_cap HOWN.out
            by_cases hcq : cap = q
            · have hkq : k - q = 0 := by omega
              subst hcq
              go_wp2_with (at_builtin; go_loud (refine append_bns rfl (.tmp 46) (.tmp 49) rfl wo.heap.size v5 _ _ rfl HO5.out ((flB zs (stTo (bK zs n) k)).drop (cap * 3)) ⟨g, 0, none⟩ _ _ rfl (by rw [List.length_drop, HLF.out]; omega) (by intro j hj; omega) (by omega) (by omega) hs5 ?_); intro v6 w6 hown6 hgr6; refine Hid.out ?_)
              have HQ6 := Lib.hid (below_grown HQ5.out hgr6 (fun g hg => (World.ownsRow.lt HO5.out g hg).1))
              obtain ⟨g6, cap6, rfl, hown7⟩ := sb_end hown6 (by omega) hq HPOS.out
              refine Lib.hid ?_
              go_wp2_with fail
              go_roundw
              case rel => exact ⟨k + 1, g6, cap6, by omega, by go_num, rfl, hown7.base_le hbase, hbel.trans (HQ6.out.mono hbase)⟩
              case measure => simp [intOf]; omega
            · go_wp2_with (at_builtin; go_loud (refine append_bns rfl (.tmp 46) (.tmp 49) rfl wo.heap.size v5 _ _ rfl HO5.out ((flB zs (stTo (bK zs n) k)).drop (q * 3)) ⟨g, q * 3, none⟩ (k - q) _ rfl (by rw [List.length_drop, HLF.out]; omega) (fun j hj => own3_rest HOWN.out HQ5.out hj) (by omega) (by omega) hs5 ?_); intro v6 w6 hown6 hgr6; refine Hid.out ?_)
              have HQ6 := Lib.hid (below_grown HQ5.out hgr6 (fun g hg => (World.ownsRow.lt HO5.out g hg).1))
              obtain ⟨g6, cap6, rfl, hown7⟩ := sb_end hown6 (by omega) hq HPOS.out
              refine Lib.hid ?_
              go_wp2_with fail
              go_roundw
              case rel => exact ⟨k + 1, g6, cap6, by omega, by go_num, rfl, hown7.base_le hbase, hbel.trans (HQ6.out.mono hbase)⟩
              case measure => simp [intOf]; omega
          · have hql : q - 1 < (stTo (bK zs n) k).length := by rw [stTo_len]; omega
            obtain ⟨p, hp0, hp1⟩ : ∃ p : Nat, gi (stTo (bK zs n) k) (q - 1) = p ∧ p < n := by
              have := stTo_mem _ _ _ (gi_mem3 hql)
              exact ⟨_, (Int.toNat_of_nonneg this.1).symm, by omega⟩
            have HOC := Lib.hid (fun c (hc : c < 3) => own3_at HOWN.out (show (q - 1) * 3 + c < k * 3 by omega))
            have HAT := Lib.hid (fun c (hc : c < 3) => flB_at zs (stTo (bK zs n) k) (q - 1) c hql hc)
            have d0 : wo.cell? ⟨g, (q - 1) * 3, none⟩ = some (.int .i64 (gi zs (p * 3))) := by
              have := HOC.out 0 (by omega); rw [HAT.out 0 (by omega), hp0] at this; simpa using this
            have d2 : wo.cell? ⟨g, (q - 1) * 3 + 2, none⟩ = some (.int .i64 (gi zs (p * 3 + 2))) := by
              have := HOC.out 2 (by omega); rw [HAT.out 2 (by omega), hp0] at this; simpa using this
            have HP := Lib.hid hp0
            have HKP := Lib.hid (HBK.out p k hp1 hlt)
            have HLB := Lib.hid (fun m => l05Before_c b (off + k * 3) g ((q - 1) * 3) _ _ _ _ (wo.drewN m) (by simpa using c0) (by simpa using c2) (by simpa using d0) (by simpa using d2))
            clear hp0 hql d0 d2
            have HW : IntKind.i64.wrap ((q : Int) - 1) = (q : Int) - 1 := IntWalk.i64_in _ (by omega)
            have hd : decide (0 < q) = true := by simpa using h0
            have hp : (0 : Int) < (q : Int) := by omega
            have hkk : ((q : Int) - 1).toNat = q - 1 := by omega
            have hk1 : (0 : Int) ≤ (q : Int) - 1 := by omega
            have hk2 : (q : Int) - 1 < (k : Int) := by omega
            by_cases hlt2 : bK zs n (p : Int) < bK zs n (k : Int)
            · have HD : Hid (bef (gi zs (k * 3)) (gi zs (k * 3 + 2)) (gi zs (p * 3)) (gi zs (p * 3 + 2)) = true) := by show _ = _; rw [HKP.out]; exact decide_eq_true hlt2
              go_wp2_with fail
              go_quiet (first | (go_at_call 44; first | exact quietB (HLB.out _) HD.out | exact quietB_add (HLB.out _) HD.out | exact quietB (by simpa using HLB.out _) HD.out))
              go_wp2_with fail
              go_roundw
              case rel => exact ⟨q - 1, _, by omega, by go_num, by first | rfl | simp; rfl, ins_step HI.out h0 (by rw [HP.out]; exact hlt2)⟩
              case measure => simp [intOf]; omega
            · have HD : Hid (bef (gi zs (k * 3)) (gi zs (k * 3 + 2)) (gi zs (p * 3)) (gi zs (p * 3 + 2)) = false) := by show _ = _; rw [HKP.out]; exact decide_eq_false hlt2
              have HPOS : Hid (insK (bK zs n) (stTo (bK zs n) k) k k = q) := ins_stop HI.out h0 (by rw [HP.out]; exact hlt2)
              go_wp2_with fail
              go_quiet (first | (go_at_call 44; first | exact quietB (HLB.out _) HD.out | exact quietB_add (HLB.out _) HD.out | exact quietB (by simpa using HLB.out _) HD.out))
              clear c0 c1 c2
              have hlF : (flB zs (stTo (bK zs n) k)).length = k * 3 := by rw [flB_len, stTo_len]
              have HLF := Lib.hid hlF
              clear hlF
              go_wp2_with (at_builtin; go_loud (refine append_bns rfl (.tmp 34) (.tmp 37) rfl wo.heap.size _ 0 [] rfl (Own3.empty _ (Nat.le_refl _)) ((flB zs (stTo (bK zs n) k)).take (q * 3)) ⟨g, 0, none⟩ q cap rfl (by rw [List.length_take, HLF.out]; omega) (fun j hj => own3_front HOWN.out (balloc (bdrewN (Below.refl _ _) _) _) hj hq) (by omega) (by omega) (by simp) ?_); intro v4 w4 hown4 hgr4; refine Hid.out ?_)
              have HO4 : Hid (Own3 w4 wo.heap.size v4 q ((flB zs (stTo (bK zs n) k)).take (q * 3))) := by have := hown4; rw [Nat.zero_add, List.nil_append] at this; exact this
              have HQ4 := Lib.hid (below_grown (balloc (bdrewN (Below.refl wo.heap.size wo) _) _) hgr4 (fun g hg => by have e : some wo.heap.size = some g := hg; injection e with e; omega))
              have hs4 : wo.heap.size ≤ w4.heap.size := HQ4.out.size
              obtain ⟨b', off', e', -, c0, c1, c2⟩ := (h.below (btrans hbel HQ4.out) (Nat.le_refl _)).at3 hlt
              obtain ⟨rfl, rfl⟩ : b = b' ∧ off = off' := by simpa using e'
              clear e' hown4 hgr4
              refine Lib.hid ?_
              go_wp2_with (at_builtin; go_loud (refine append_bn1 rfl (.tmp 39) (.tmp 44) rfl wo.heap.size v4 q _ rfl (Own3.alloc HO4.out _) [gi zs (k * 3), gi zs (k * 3 + 1), gi zs (k * 3 + 2)] rfl _ rfl (Blk.new _ _ _) (by omega) (by simp; omega) ?_); intro v5 w5 hown5 hgr5; refine Hid.out ?_)
              have HQ5 := Lib.hid (below_grown (HQ4.out.alloc hs4 _) hgr5 (fun g hg => (HO4.out.lt g hg).1))
              have hs5 : wo.heap.size ≤ w5.heap.size := HQ5.out.size
              have HO5 := Lib.hid hown5
              clear hown5 hgr5 c0 c1 c2
              refine Lib.hid ?_
              have hkc := own3_cap HOWN.out
              by_cases hcq : cap = q
              · have hkq : k - q = 0 := by omega
                subst hcq
                go_wp2_with (at_builtin; go_loud (refine append_bns rfl (.tmp 46) (.tmp 49) rfl wo.heap.size v5 _ _ rfl HO5.out ((flB zs (stTo (bK zs n) k)).drop (cap * 3)) ⟨g, 0, none⟩ _ _ rfl (by rw [List.length_drop, HLF.out]; omega) (by intro j hj; omega) (by omega) (by omega) hs5 ?_); intro v6 w6 hown6 hgr6; refine Hid.out ?_)
                have HQ6 := Lib.hid (below_grown HQ5.out hgr6 (fun g hg => (World.ownsRow.lt HO5.out g hg).1))
                obtain ⟨g6, cap6, rfl, hown7⟩ := sb_end hown6 (by omega) hq HPOS.out
                refine Lib.hid ?_
                go_wp2_with fail
                go_roundw
                case rel => exact ⟨k + 1, g6, cap6, by omega, by go_num, rfl, hown7.base_le hbase, hbel.trans (HQ6.out.mono hbase)⟩
                case measure => simp [intOf]; omega
              · go_wp2_with (at_builtin; go_loud (refine append_bns rfl (.tmp 46) (.tmp 49) rfl wo.heap.size v5 _ _ rfl HO5.out ((flB zs (stTo (bK zs n) k)).drop (q * 3)) ⟨g, q * 3, none⟩ (k - q) _ rfl (by rw [List.length_drop, HLF.out]; omega) (fun j hj => own3_rest HOWN.out HQ5.out hj) (by omega) (by omega) hs5 ?_); intro v6 w6 hown6 hgr6; refine Hid.out ?_)
                have HQ6 := Lib.hid (below_grown HQ5.out hgr6 (fun g hg => (World.ownsRow.lt HO5.out g hg).1))
                obtain ⟨g6, cap6, rfl, hown7⟩ := sb_end hown6 (by omega) hq HPOS.out
                refine Lib.hid ?_
                go_wp2_with fail
                go_roundw
                case rel => exact ⟨k + 1, g6, cap6, by omega, by go_num, rfl, hown7.base_le hbase, hbel.trans (HQ6.out.mono hbase)⟩
                case measure => simp [intOf]; omega
      · obtain rfl : k = n := by omega
        go_wp2
        go_ret2
        exact ⟨_, by rw [HV.out.2.2]; rfl, by rw [HV.out.1, HV.out.2.1]; exact hown, hbel⟩
end Go.Proofs.YtgcpobondcnjcaaGreatDoor
