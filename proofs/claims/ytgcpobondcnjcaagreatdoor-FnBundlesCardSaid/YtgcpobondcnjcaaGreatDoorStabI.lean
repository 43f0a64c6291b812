/-
  slices.SortStableFunc at up to 30 whole numbers, impl.sortedIndices at up to 30.
  No conditions.
-/
import Derived.Test.YtgcpobondcnjcaaGreatDoorStabW
namespace Go.Proofs.YtgcpobondcnjcaaGreatDoor
open Go.ChangeShapes Go.WideShapes Go.ChangeAt Go.RowKit Go.Deep Go.Shelf Go.Sort
set_option linter.unusedVariables false

theorem sortStable30_c (g : Nat) (cb : Array Value) (blk cap n N : Nat) (key : Int → Int) (w : World) (eg : ∀ args w, (callFunc g args).run Tryz.prog w = .ok (.enter g args) w)
    (hc : CmpLays1 Tryz.prog g cb (encN N) (fun a b => key b - key a) blk 0 n w) (R : Row1 (encN N) w blk 0 (upTo n).toArray) (h0 : 0 < n) (hn : n ≤ 30) :
    Calls Tryz.prog 66 #[.slice (some ⟨blk, 0, none⟩) n cap, .func (.func g) #[] cb] w fun e w' => e = .returned (.tuple #[]) ∧ SW (encN N) w blk 0 (stTo key n).toArray w' := by
  have HI : Hid (Calls Tryz.prog 76 #[.slice (some ⟨blk, 0, none⟩) n cap, .int .i64 n, .func (.func g) #[] cb] w fun e w' => e = .returned (.tuple #[]) ∧ SW (encN N) w blk 0 (stTo key n).toArray w') := by
    rcases Nat.lt_or_ge 20 n with q | q
    · exact stable30_c g cb blk cap n N key w eg hc R q hn
    · exact stable_c g cb blk cap n N key w eg hc R h0 q
  clear hc R
  go_enter Tryz.func66, Tryz.ntmps66
  go_wp2_with fail
  refine HI.out.mono ?_
  rintro e w2 ⟨rfl, S⟩
  have HT : Aside _ := S
  clear S
  go_wp2
  go_end0
  exact ⟨rfl, HT.out⟩

set_option maxRecDepth 100000 in
theorem sortedIndices30_c (g : Nat) (cb : Array Value) (n : Nat) (key : Int → Int) (w : World) (eg : ∀ args w, (callFunc g args).run Tryz.prog w = .ok (.enter g args) w)
    (hc : CmpOk g cb n key w) (hk : ∀ k, key (clp n k) = key k) (hn : n ≤ 30) :
    Calls Tryz.prog 50 #[.int .i64 n, .func (.func g) #[] cb] w fun e w' => ∃ v, e = .returned v ∧ Own w' w.heap.size v (stTo key n) ∧ Below w.heap.size w w' := by
  have HC := Lib.hid hc
  clear hc
  go_enter Tryz.func50, Tryz.ntmps50
  go_wp2_with fail
  go_loopw [5, 9] (fun s i wr => ∃ k : Nat, k ≤ n ∧ i = .int .i64 k ∧ Own wr (w.heap.size + 1) s (upTo k) ∧ Blk wr w.heap.size 54 #[.func (.func g) #[] cb] ∧ Below w.heap.size w wr) (fun _ i _ => n - (intOf i).toNat)
  case atStart =>
    refine ⟨0, Nat.zero_le _, rfl, ?_, (Blk.new w _ _).alloc _, balloc (balloc (Below.refl _ w) _) _⟩
    have := Own.empty (w.alloc (.cells #[.func (.func g) #[] cb] 54)) (base := w.heap.size + 1) (by simp)
    simpa [upTo] using this
  case round =>
    obtain ⟨k, hkn, rfl, hown, hblk, hbel⟩ := hrel
    have hlen := upTo_len k
    have hbase := hbel.size
    have hlt1 := hblk.lt
    by_cases hlt : k < n
    · have HL := Lib.hid hlen
      clear hlen
      go_wp2_with (at_builtin; refine append_int rfl (.tmp 12) (.tmp 14) rfl (w.heap.size + 1) _ _ rfl (Own.alloc hown _) k _ rfl (Blk.new _ _ _) (by rw [HL.out]; omega) (by simp; omega) ?_; intro v1 w2 hown1 hgr1)
      go_roundw
      case rel => exact ⟨k + 1, by omega, by go_num, by rw [upTo_succ]; exact hown1, (hblk.alloc _).grown hgr1 (fun e => by have := (hown.lt _ e.symm).1; omega), below_grown (balloc hbel _) hgr1 (fun g hg => by have := (hown.lt g hg).1; omega)⟩
      case measure => simp [intOf]; omega
    · obtain rfl : k = n := by omega
      have HK := Lib.hid hk
      clear hk hlt
      have HL := Lib.hid hlen
      clear hlen
      rcases hown.2 with ⟨hv, h0⟩ | ⟨blk, cap, cur, hv, h1, h2, h3, h4, h5, h6⟩
      · subst hv
        have hk0 : k = 0 := by have := HL.out; omega
        subst hk0
        go_wp2_with fail
        refine (sortStable0_c none 0 _ _).mono ?_
        rintro e w3 ⟨rfl, hw⟩
        subst w3
        go_wp2
        go_ret
        exact ⟨_, rfl, Own.nil _ _, hbel⟩
      · subst hv
        clear h2 h3 h4 h5 h6
        rw [HL.out] at hown ⊢
        rcases Nat.eq_zero_or_pos k with hk0 | hk0
        · subst hk0
          go_wp2_with fail
          refine (sortStable0_c _ cap _ _).mono ?_
          rintro e w3 ⟨rfl, hw⟩
          subst w3
          go_wp2
          go_ret
          exact ⟨_, rfl, hown.base_le (by omega), hbel⟩
        · have hbl := (hown.lt blk rfl).2
          have R : Row1 (encN k) wr blk 0 (upTo k).toArray := ⟨fun _ => rfl, holds_of hown (fun z hz => by simp only [upTo, List.mem_map, List.mem_range] at hz; obtain ⟨j, hj, rfl⟩ := hz; omega), hbl⟩
          have hcc := hblk.cell 0
          have hcm : CmpLays1 Tryz.prog 67 #[.pointer (some ⟨w.heap.size, 0, none⟩)] (encN k) (fun a b => key b - key a) blk 0 k wr := by
            intro m os dk hs x y
            have S : SW (encN k) wr blk 0 dk (sortWorld (encN k) wr blk 0 m dk os) := ⟨m, os, rfl⟩
            have hx := clp_bd hk0 x
            have hy := clp_bd hk0 y
            refine (cmpI_c g cb w.heap.size k key w _ eg (sw_cell S (by simpa using hcc) hlt1 (by show w.heap.size ≠ blk; omega)) HC.out (hbel.trans (sw_below S (by omega) (by omega))) (clp k x) (clp k y) hx.1 hx.2 hy.1 hy.2).mono ?_
            rintro e w' ⟨rfl, q, rfl⟩
            exact ⟨by rw [HK.out, HK.out], q, #[], (grow_empty _).symm⟩
          have HS := Lib.hid (sortStable30_c 67 #[.pointer (some ⟨w.heap.size, 0, none⟩)] blk cap k k key wr (enters_of Tryz.func67 (by decide) rfl) hcm R hk0 hn)
          have HO := Lib.hid hown
          clear hcm R hcc hown
          go_wp2_with fail
          refine HS.out.mono ?_
          rintro e w4 ⟨rfl, S⟩
          have HT : Aside _ := S
          clear S
          go_wp2
          go_ret
          have hz := stTo_len key k
          exact ⟨_, rfl, (sw_own HO.out HT.out (by simp [hz, HL.out]) (by rw [hz, HL.out]) (fun j hj => enc_gi (fun z h => stTo_mem key k z h) (by rw [hz]; rw [HL.out] at hj; exact hj))).base_le (by omega), hbel.trans (sw_below HT.out (by omega) (by omega))⟩
end Go.Proofs.YtgcpobondcnjcaaGreatDoor
