/-
  The words of a text, by the program and by the reference; the verifier's marks on slices of texts.
  No conditions.
-/
import Derived.Test.YtlnlohopgnocaaaDoorStrs
import Derived.Test.YtlnlohopgnocaaaDoorDec
import Derived.Laws.Concat
import Derived.ChangeAgain
import Derived.Deep.RegionHeld3
namespace Go.Proofs.YtlnlohopgnocaaaDoor
open Go.ChangeShapes Go.WideShapes Go.ChangeAt Go.RowKit Go.Deep
set_option linter.unusedVariables false

/-- The variables stay as they are laid. -/
theorem shaped_on {P : Program} {w w' : World} (h : w.ShapedOpen P) (hb : Below w.heap.size w w') : w'.ShapedOpen P := h.keptBut (hb.frame (fun _ => False)) (fun _ h => h.elim)
/-- A text is not empty. -/
def nonE (b : ByteArray) : Bool := !b.toList.isEmpty
/-- SplitWords. -/
def swL (s : ByteArray) : List ByteArray := (splB 32 s).filter nonE
theorem filt_yes {l : List ByteArray} {k : Nat} (h : k < l.length) (hp : nonE l[k] = true) : (l.take (k + 1)).filter nonE = (l.take k).filter nonE ++ [l[k]] := by
  rw [List.take_succ_eq_append_getElem h, List.filter_append]
  simp [hp]
theorem filt_no {l : List ByteArray} {k : Nat} (h : k < l.length) (hp : nonE l[k] = false) : (l.take (k + 1)).filter nonE = (l.take k).filter nonE := by
  rw [List.take_succ_eq_append_getElem h, List.filter_append]
  simp [hp]
theorem filt_len (l : List ByteArray) (k : Nat) : ((l.take k).filter nonE).length ≤ k := by
  have := List.length_filter_le nonE (l.take k)
  simp at this; omega
theorem swL_len (s : ByteArray) : (swL s).length ≤ s.size + 1 := by
  have h1 := List.length_filter_le nonE (splB 32 s)
  have h2 := splB_len 32 s
  unfold swL; omega
set_option maxRecDepth 100000 in
set_option maxHeartbeats 4000000 in
theorem words_s (s : ByteArray) (w : World) (hsh : w.ShapedOpen Tryd.prog) (hs : s.size ≤ 2097152) :
    Calls Tryd.prog 16 #[.string s] w fun e w' => ∃ v, e = .returned v ∧ OwnS w' w.heap.size v (swL s) ∧ Below w.heap.size w w' := by
  have HSH := Lib.hid (shaped_on hsh (balloc (Below.refl w.heap.size w) (.cells #[] 9)))
  clear hsh
  go_enter Tryd.func16, Tryd.ntmps16
  go_wp2_with fail
  refine ((l01Split_c s 32 _ hs)).mono ?_
  rintro e w1 ⟨v, rfl, o1, b1⟩
  have hn := splB_len 32 s
  have hne : 0 < (splB 32 s).length := by
    obtain ⟨h, r, e⟩ := splF_ne 32 s.data.toList
    unfold splB; rw [e]; simp
  rcases o1.2 with ⟨_, h0⟩ | ⟨g0, cap, cur, hv, _⟩
  · omega
  subst hv
  have hg0 := o1.lt g0 rfl
  have hcl : ∀ j (hj : j < (splB 32 s).length), w1.cell? ⟨g0, j, none⟩ = some (.string (splB 32 s)[j]) := fun j hj => by
    have := o1.cells (g := g0) rfl j _ (sv_get _ j hj)
    have hadd : (⟨g0, 0, none⟩ : Addr).add j = ⟨g0, j, none⟩ := by unfold Addr.add; split <;> simp_all
    rwa [hadd] at this
  have HC := Lib.hid hcl
  clear hcl o1 hne
  go_wp2_with fail
  go_loopw [4,5] (fun o i wr => ∃ k : Nat, k ≤ (splB 32 s).length ∧ i = .int .i64 k ∧ OwnS wr w.heap.size o (((splB 32 s).take k).filter nonE) ∧ Hid (∀ q, o.ownBlock = some q → q ≠ g0) ∧ g0 < wr.heap.size ∧ Hid (∀ j (hj : j < (splB 32 s).length), wr.cell? ⟨g0, j, none⟩ = some (.string (splB 32 s)[j])) ∧ Below w.heap.size w wr) (fun _ i _ => (splB 32 s).length - (intOf i).toNat)
  case atStart =>
    first
    | exact ⟨0, Nat.zero_le _, rfl, OwnS.empty _ b1.size, (fun q hq => by have e : w1.heap.size = q := Option.some.inj hq; omega), by simp; omega, (fun j hj => ((balloc (Below.refl w1.heap.size w1) _).cell (p := ⟨g0, j, none⟩) hg0.2).trans (HC.out j hj)), balloc b1 _⟩
    | exact ⟨0, Nat.zero_le _, rfl, (OwnS.empty w (Nat.le_refl _)).on b1, (fun q hq => by have e : w.heap.size = q := Option.some.inj hq; have := hg0.1; simp at this; omega), hg0.2, HC.out, btrans (balloc (Below.refl _ _) _) b1⟩
  case round =>
    obtain ⟨k, hk, rfl, hown, HO, hgl, HCR, hbel⟩ := hrel
    have hbase := hbel.size
    have hfl := filt_len (splB 32 s) k
    by_cases hlt : k < (splB 32 s).length
    · have hce := HCR.out k hlt
      have HY := Lib.hid (filt_yes hlt)
      have HN := Lib.hid (filt_no hlt)
      obtain ⟨x, hx⟩ : ∃ x, (splB 32 s)[k] = x := ⟨_, rfl⟩
      have HX := Lib.hid hx
      rw [hx] at hce
      clear hx
      rcases he : x.toList.isEmpty with _ | _
      · have HQ : Hid (((splB 32 s).take (k + 1)).filter nonE = ((splB 32 s).take k).filter nonE ++ [x]) := by
          have := HY.out (by rw [HX.out, nonE, he]; rfl)
          rwa [HX.out] at this
        clear HY HN
        go_wp2_with (at_builtin; refine append_str2 rfl (.tmp 20) (.tmp 25) rfl w.heap.size _ _ rfl (OwnS.alloc hown _) x _ rfl (Blk.new _ _ _) (by omega) (by simp; omega) ?_; intro v1 w2 hown1 hgr1 hob; have HOB := Lib.hid hob; clear hob)
        go_roundw
        case rel =>
          refine ⟨k + 1, by omega, by go_num, by rw [HQ.out]; exact hown1, (fun q hq => ?_), by have := hgr1.size; simp at this; omega, (fun j hj => ?_), below_grown (balloc hbel _) hgr1 (fun q hq => (hown.lt q hq).1)⟩
          · rcases HOB.out q hq with h | h
            · exact HO.out q h
            · simp at h; omega
          · have hne : some g0 ≠ _ := fun h => HO.out g0 h.symm rfl
            exact (hgr1.cell_far ⟨g0, j, none⟩ (by simp; omega) hne).trans (((balloc (Below.refl wr.heap.size wr) _).cell (p := ⟨g0, j, none⟩) hgl).trans (HCR.out j hj))
        case measure => simp [intOf]; omega
      · have HQ : Hid (((splB 32 s).take (k + 1)).filter nonE = ((splB 32 s).take k).filter nonE) := HN.out (by rw [HX.out, nonE, he]; rfl)
        clear HY HN
        go_wp2_with fail
        go_roundw
        case rel => exact ⟨k + 1, by omega, by go_num, by rw [HQ.out]; exact hown, HO, hgl, HCR, hbel⟩
        case measure => simp [intOf]; omega
    · obtain rfl : k = (splB 32 s).length := by omega
      go_wp2
      go_ret
      refine ⟨_, rfl, ?_, hbel⟩
      rw [List.take_length] at hown
      exact hown
set_option maxRecDepth 100000 in
set_option maxHeartbeats 4000000 in
theorem words_i (s : ByteArray) (w : World) (hsh : w.ShapedOpen Tryd.prog) (hs : s.size ≤ 2097152) :
    Calls Tryd.prog 17 #[.string s] w fun e w' => ∃ v, e = .returned v ∧ OwnS w' w.heap.size v (swL s) ∧ Below w.heap.size w w' := by
  have HSH := Lib.hid (shaped_on hsh (balloc (Below.refl w.heap.size w) (.cells #[] 9)))
  clear hsh
  go_enter Tryd.func17, Tryd.ntmps17
  go_wp2_with fail
  refine ((split_lib_c s 32 _ HSH.out hs)).mono ?_
  rintro e w1 ⟨v, rfl, o1, b1⟩
  have hn := splB_len 32 s
  have hne : 0 < (splB 32 s).length := by
    obtain ⟨h, r, e⟩ := splF_ne 32 s.data.toList
    unfold splB; rw [e]; simp
  rcases o1.2 with ⟨_, h0⟩ | ⟨g0, cap, cur, hv, _⟩
  · omega
  subst hv
  have hg0 := o1.lt g0 rfl
  have hcl : ∀ j (hj : j < (splB 32 s).length), w1.cell? ⟨g0, j, none⟩ = some (.string (splB 32 s)[j]) := fun j hj => by
    have := o1.cells (g := g0) rfl j _ (sv_get _ j hj)
    have hadd : (⟨g0, 0, none⟩ : Addr).add j = ⟨g0, j, none⟩ := by unfold Addr.add; split <;> simp_all
    rwa [hadd] at this
  have HC := Lib.hid hcl
  clear hcl o1 hne
  go_wp2_with fail
  go_loopw [3,10] (fun o i wr => ∃ k : Nat, k ≤ (splB 32 s).length ∧ i = .int .i64 k ∧ OwnS wr w.heap.size o (((splB 32 s).take k).filter nonE) ∧ Hid (∀ q, o.ownBlock = some q → q ≠ g0) ∧ g0 < wr.heap.size ∧ Hid (∀ j (hj : j < (splB 32 s).length), wr.cell? ⟨g0, j, none⟩ = some (.string (splB 32 s)[j])) ∧ Below w.heap.size w wr) (fun _ i _ => (splB 32 s).length - (intOf i).toNat)
  case atStart =>
    first
    | exact ⟨0, Nat.zero_le _, rfl, OwnS.empty _ b1.size, (fun q hq => by have e : w1.heap.size = q := Option.some.inj hq; omega), by simp; omega, (fun j hj => ((balloc (Below.refl w1.heap.size w1) _).cell (p := ⟨g0, j, none⟩) hg0.2).trans (HC.out j hj)), balloc b1 _⟩
    | exact ⟨0, Nat.zero_le _, rfl, (OwnS.empty w (Nat.le_refl _)).on b1, (fun q hq => by have e : w.heap.size = q := Option.some.inj hq; have := hg0.1; simp at this; omega), hg0.2, HC.out, btrans (balloc (Below.refl _ _) _) b1⟩
  case round =>
    obtain ⟨k, hk, rfl, hown, HO, hgl, HCR, hbel⟩ := hrel
    have hbase := hbel.size
    have hfl := filt_len (splB 32 s) k
    by_cases hlt : k < (splB 32 s).length
    · have hce := HCR.out k hlt
      have HY := Lib.hid (filt_yes hlt)
      have HN := Lib.hid (filt_no hlt)
      obtain ⟨x, hx⟩ : ∃ x, (splB 32 s)[k] = x := ⟨_, rfl⟩
      have HX := Lib.hid hx
      rw [hx] at hce
      clear hx
      rcases he : x.toList.isEmpty with _ | _
      · have HQ : Hid (((splB 32 s).take (k + 1)).filter nonE = ((splB 32 s).take k).filter nonE ++ [x]) := by
          have := HY.out (by rw [HX.out, nonE, he]; rfl)
          rwa [HX.out] at this
        clear HY HN
        go_wp2_with (at_builtin; refine append_str2 rfl (.tmp 16) (.tmp 18) rfl w.heap.size _ _ rfl (OwnS.alloc hown _) x _ rfl (Blk.new _ _ _) (by omega) (by simp; omega) ?_; intro v1 w2 hown1 hgr1 hob; have HOB := Lib.hid hob; clear hob)
        go_roundw
        case rel =>
          refine ⟨k + 1, by omega, by go_num, by rw [HQ.out]; exact hown1, (fun q hq => ?_), by have := hgr1.size; simp at this; omega, (fun j hj => ?_), below_grown (balloc hbel _) hgr1 (fun q hq => (hown.lt q hq).1)⟩
          · rcases HOB.out q hq with h | h
            · exact HO.out q h
            · simp at h; omega
          · have hne : some g0 ≠ _ := fun h => HO.out g0 h.symm rfl
            exact (hgr1.cell_far ⟨g0, j, none⟩ (by simp; omega) hne).trans (((balloc (Below.refl wr.heap.size wr) _).cell (p := ⟨g0, j, none⟩) hgl).trans (HCR.out j hj))
        case measure => simp [intOf]; omega
      · have HQ : Hid (((splB 32 s).take (k + 1)).filter nonE = ((splB 32 s).take k).filter nonE) := HN.out (by rw [HX.out, nonE, he]; rfl)
        clear HY HN
        go_wp2_with fail
        go_roundw
        case rel => exact ⟨k + 1, by omega, by go_num, by rw [HQ.out]; exact hown, HO, hgl, HCR, hbel⟩
        case measure => simp [intOf]; omega
    · obtain rfl : k = (splB 32 s).length := by omega
      go_wp2
      go_ret
      refine ⟨_, rfl, ?_, hbel⟩
      rw [List.take_length] at hown
      exact hown
/-- The verifier's mark. -/
def mkT (k : Nat) : ByteArray := ⟨(109 :: dgs k).toArray⟩
theorem mkT_c (u : Nat) (w : World) (hu : 1 ≤ u) (hb : u ≤ 100000000) :
    Calls Tryd.prog 40 #[.int .i64 u] w fun e w' => e = .returned (.string (mkT u)) ∧ Below w.heap.size w w' := by
  have HLN := dgs_len 20 u (by omega)
  go_enter Tryd.func40, Tryd.ntmps40
  go_wp2_with fail
  go_loopw [0, 3] (fun k o wr => ∃ (m : Nat) (S : ByteArray) (l : List UInt8), m ≤ u ∧ k = .int .i64 m ∧ o = .string S ∧ Hid (S = ⟨l.toArray⟩) ∧ Hid (dgs m ++ l = dgs u) ∧ Below w.heap.size w wr) (fun k _ _ => (intOf k).toNat)
  case atStart => exact ⟨u, _, [], Nat.le_refl _, rfl, rfl, rfl, (by show _ = _; simp), Below.refl _ _⟩
  case round =>
    obtain ⟨m, S, l, hm, rfl, rfl, HS, HM, hbel⟩ := hrel
    have hbase := hbel.size
    have hll : l.length ≤ 20 := by
      have := congrArg List.length HM.out
      rw [List.length_append] at this; omega
    have hsz : S.size ≤ 20 := by rw [HS.out, size_mk]; exact hll
    by_cases hpos : 0 < m
    · have HN := Lib.hid (dgs_next m hpos l _ HM.out)
      have h9 : ¬ (m : Int) % 10 < 0 := by omega
      have hd1 : (m : Int) % 10 ≤ 9 := by omega
      have hd0 : (0 : Int) ≤ (m : Int) % 10 := by omega
      obtain ⟨B, hB⟩ : ∃ B : ByteArray, B = ⟨[UInt8.ofNat (48 + m % 10)].toArray⟩ := ⟨_, rfl⟩
      have hK : Blk (wr.alloc (.cells #[.int .u8 (48 + (m : Int) % 10)] 5)) wr.heap.size 5 (bv [UInt8.ofNat (48 + m % 10)]).toArray := by
        have h := Blk.new wr 5 #[.int .u8 (48 + (m : Int) % 10)]
        have e : (48 + (m : Int) % 10) = ((UInt8.ofNat (48 + m % 10)).toNat : Int) := by rw [dig_byte]; omega
        rw [e] at h ⊢
        exact h
      have hs := hK.str 1
      rw [← hB] at hs
      have hs2 : (convert 40 9 (.slice (some ⟨wr.heap.size, 0, none⟩) 1 1)).run Tryd.prog (wr.alloc (.cells #[.int .u8 (48 + (m : Int) % 10)] 5)) = .ok (.string B) (wr.alloc (.cells #[.int .u8 (48 + (m : Int) % 10)] 5)) := hs
      have hBs : B.size = 1 := by rw [hB, size_mk]; rfl
      obtain ⟨S2, hS2⟩ : ∃ S2 : ByteArray, B ++ S = S2 := ⟨_, rfl⟩
      have e1 : ∀ w, (Op.stringOp .add B S).run Tryd.prog w = .ok (.string S2) w := fun w => by rw [run_string_add_sum w _ _ (by omega), hS2]
      have HS2 : Hid (S2 = ⟨(UInt8.ofNat (48 + m % 10) :: l).toArray⟩) := by
        show _ = _
        rw [← hS2, hB, HS.out, cat_bytes]; rfl
      clear hK hs hB hBs hS2
      go_wp2_with fail
      go_roundw
      case rel => exact ⟨m / 10, S2, _, by omega, by go_num, rfl, HS2, HN.out, balloc hbel _⟩
      case measure => simp [intOf]; omega
    · obtain rfl : m = 0 := by omega
      have hl : l = dgs u := HM.out
      have HV : Hid ((⟨#[109]⟩ : ByteArray) ++ S = mkT u) := by
        show _ = _
        rw [HS.out, hl]
        exact cat_bytes [109] (dgs u)
      have e1 : ∀ w, (Op.stringOp .add ⟨#[109]⟩ S).run Tryd.prog w = .ok (.string (mkT u)) w := fun w => by rw [run_string_add_sum w _ _ (by show 1 + S.size ≤ _; omega), HV.out]
      clear hl
      go_wp2
      go_ret
      exact ⟨rfl, hbel⟩
set_option maxRecDepth 100000 in
theorem eqStringS_c (A A' : Option Addr) (c c' : Nat) (l : List ByteArray) (b b' : Nat) (w : World) (h : OwnS w b (.slice A l.length c) l) (h' : OwnS w b' (.slice A' l.length c') l) (hn : l.length ≤ 4194304) :
    Calls Tryd.prog 18 #[.slice A l.length c, .slice A' l.length c'] w fun e w' => e = .returned (.bool true) ∧ Below w.heap.size w w' := by
  obtain ⟨A1, c1, e1, hc1⟩ := h.form
  obtain ⟨A2, c2, e2, hc2⟩ := h'.form
  simp only [Value.slice.injEq, true_and] at e1 e2
  obtain ⟨rfl, rfl⟩ := e1
  obtain ⟨rfl, rfl⟩ := e2
  have H1 := Lib.hid hc1
  have H2 := Lib.hid hc2
  clear hc1 hc2 h h'
  go_enter Tryd.func18, Tryd.ntmps18
  go_wp2_with fail
  go_loopw [5] (fun i wr => ∃ k : Nat, k ≤ l.length ∧ i = .int .i64 k ∧ Below w.heap.size w wr) (fun i _ => l.length - (intOf i).toNat)
  case atStart => exact ⟨0, Nat.zero_le _, rfl, Below.refl _ _⟩
  case round =>
    obtain ⟨k, hk, rfl, hbel⟩ := hrel
    by_cases hlt : k < l.length
    · obtain ⟨g1, rfl, hg1, hcell1⟩ := H1.out k hlt
      obtain ⟨g2, rfl, hg2, hcell2⟩ := H2.out k hlt
      have d1 := (hbel.cell (p := ⟨g1, k, none⟩) hg1).trans hcell1
      have d2 := (hbel.cell (p := ⟨g2, k, none⟩) hg2).trans hcell2
      clear hcell1 hcell2
      obtain ⟨x, hx⟩ : ∃ x, l[k] = x := ⟨_, rfl⟩
      rw [hx] at d1 d2
      clear hx
      go_wp2_with fail
      go_quiet (fail)
      go_wp2_with fail
      go_roundw
      case rel => exact ⟨k + 1, by omega, by go_num, bdrewN hbel _⟩
      case measure => simp [intOf]; omega
    · obtain rfl : k = l.length := by omega
      go_wp2
      go_ret
      exact ⟨rfl, hbel⟩
/-- The marks 1, 2, .. -/
def mkS (m : Nat) : List ByteArray := (List.range m).map fun j => mkT (1 + j)
theorem mkS_length (m : Nat) : (mkS m).length = m := by simp [mkS]
theorem mkS_get (m j : Nat) (h : j < (mkS m).length) : (mkS m)[j] = mkT (1 + j) := by simp [mkS]
theorem mkS_set (l : List ByteArray) (m : Nat) (h : m < l.length) : (sv (mkS m ++ l.drop m)).set m (.string (mkT (1 + m))) = sv (mkS (m + 1) ++ l.drop (m + 1)) := by
  have e : l.drop m = l[m] :: l.drop (m + 1) := List.drop_eq_getElem_cons h
  have e2 : mkS (m + 1) = mkS m ++ [mkT (1 + m)] := by simp [mkS, List.range_succ]
  rw [e, e2]
  unfold sv
  simp only [List.map_append, List.map_cons, List.map_nil]
  rw [List.set_append_right _ _ (by simp [mkS])]
  have e3 : m - (List.map Value.string (mkS m)).length = 0 := by rw [List.length_map, mkS_length]; omega
  rw [e3]
  simp only [List.set_cons_zero, List.append_assoc, List.cons_append, List.nil_append]
theorem row_setS {w : World} {base g n cap : Nat} {e : TypeId} {L : List Value} (h : w.ownsRow base e 1 (.slice (some ⟨g, 0, none⟩) n cap) n L) (i : Nat) (u : Value) :
    (w.setCell ⟨g, i, none⟩ u).ownsRow base e 1 (.slice (some ⟨g, 0, none⟩) n cap) n (L.set i u) := by
  refine ⟨by rw [List.length_set]; exact h.1, ?_⟩
  rcases h.2 with ⟨h1, _⟩ | ⟨g', cap', cur, h1, hb, hg, hc, hm, hs, ht⟩
  · cases h1
  simp only [Value.slice.injEq, Option.some.injEq, Addr.mk.injEq, and_true, true_and] at h1
  obtain ⟨rfl, rfl⟩ := h1
  refine .inr ⟨g, cap, cur.setIfInBounds i u, rfl, hb, Blk.set_ hg i _, hc, hm, by simpa using hs, ?_⟩
  rw [Array.toList_setIfInBounds, List.take_set, ht]
theorem row_frozen {w : World} {base g n cap k : Nat} {e : TypeId} {L : List Value} (h : w.ownsRow base e k (.slice (some ⟨g, 0, none⟩) n cap) n L) (j : Nat) : w.frozen? ⟨g, j, none⟩ = false := by
  rcases h.2 with ⟨h1, _⟩ | ⟨g', cap', cur, h1, hb, hg, _⟩
  · cases h1
  simp only [Value.slice.injEq, Option.some.injEq, Addr.mk.injEq, and_true, true_and] at h1
  obtain ⟨rfl, rfl⟩ := h1
  exact Blk.frozen hg j
theorem row_form {w : World} {base n c k : Nat} {A : Option Addr} {e : TypeId} {L : List Value} (h : w.ownsRow base e k (.slice A n c) n L) (hn : 0 < n) : ∃ g, A = some ⟨g, 0, none⟩ := by
  rcases h.2 with ⟨_, h1⟩ | ⟨g', cap', cur, h1, _⟩
  · omega
  · simp only [Value.slice.injEq] at h1
    exact ⟨g', h1.1⟩
set_option maxRecDepth 100000 in
set_option maxHeartbeats 2000000 in
theorem markStringS_c (A : Option Addr) (c : Nat) (l : List ByteArray) (base : Nat) (w : World) (h : OwnS w base (.slice A l.length c) l) (hbase : base ≤ w.heap.size) (hn : l.length ≤ 4194304) :
    Calls Tryd.prog 19 #[.slice A l.length c, .int .i64 1] w fun e w' => e = .returned (.int .i64 (1 + l.length)) ∧ w'.ownsRow base 9 1 (.slice A l.length c) l.length (sv (mkS l.length)) ∧ w.grownBy w' (Value.slice A l.length c).ownBlock := by
  have hn' : (l.length : Int) ≤ 4194304 := by omega
  obtain ⟨n, hl⟩ : ∃ n, l.length = n := ⟨_, rfl⟩
  have HO : Hid (w.ownsRow base 9 1 (.slice A n c) n (sv l)) := by have := h; unfold OwnS at this; rw [hl] at this; exact this
  have HL := Lib.hid hl
  rw [hl] at hn hn' ⊢
  clear h hl
  go_enter Tryd.func19, Tryd.ntmps19
  go_wp2_with fail
  go_loopw [1, 5] (fun q i wr => ∃ k : Nat, k ≤ n ∧ i = .int .i64 k ∧ q = .int .i64 (1 + k) ∧ Hid (wr.ownsRow base 9 1 (.slice A n c) n (sv (mkS k ++ l.drop k))) ∧ w.grownBy wr (Value.slice A n c).ownBlock) (fun _ i _ => n - (intOf i).toNat)
  case atStart => exact ⟨0, Nat.zero_le _, rfl, rfl, (by show World.ownsRow _ _ _ _ _ _ _; simpa [mkS] using HO.out), ⟨rfl, rfl, rfl, Nat.le_refl _, fun _ _ _ => rfl⟩⟩
  case round =>
    obtain ⟨k, hk, rfl, rfl, HR, hgr⟩ := hrel
    by_cases hlt : k < n
    · obtain ⟨g, rfl⟩ := row_form HR.out (by omega)
      have hgl := (World.ownsRow.lt HR.out g rfl)
      have hbw := hgr.size
      go_wp2_with fail
      have HM := Lib.hid (fun w => mkT_c (1 + k) w (by omega) (by omega))
      rw [show ((1 + k : Nat) : Int) = 1 + (k : Int) by omega] at HM
      refine (HM.out _).mono ?_
      rintro e w1 ⟨rfl, b1⟩
      have hr1 : w1.ownsRow base 9 1 (.slice (some ⟨g, 0, none⟩) n c) n (sv (mkS k ++ l.drop k)) := World.ownsRow.kept (row := none) HR.out ⟨b1.os, b1.tape, b1.output, b1.size, fun i hi _ => b1.block i hi⟩ (.inr (by simp [Value.ownBlock]))
      have hll : (sv (mkS k ++ l.drop k)).length = n := by rw [sv_length, List.length_append, mkS_length, List.length_drop, HL.out]; omega
      obtain ⟨u0, d0⟩ : ∃ u, w1.cell? ⟨g, k, none⟩ = some u := by
        refine ⟨(sv (mkS k ++ l.drop k))[k]'(by omega), ?_⟩
        rw [hr1.cellAt k (by omega)]; simp [hll, hlt]
      have f0 := row_frozen hr1 k
      have HS := Lib.hid (row_setS hr1 k (.string (mkT (1 + k))))
      have HQ := Lib.hid (mkS_set l k (by rw [HL.out]; exact hlt))
      clear hr1 hll
      go_wp2_with fail
      go_roundw
      case rel =>
        refine ⟨k + 1, by omega, by go_num, by go_num, by show World.ownsRow _ _ _ _ _ _ _; rw [← HQ.out]; exact HS.out, ?_⟩
        refine grownBy_trans hgr (grownBy_trans (b := w1) ⟨b1.os, b1.tape, b1.output, b1.size, fun i hi _ => b1.block i hi⟩ ?_)
        exact ⟨rfl, rfl, rfl, by simp [World.setCell], fun i hi hne => Below.heap_setCell _ _ _ _ (fun e => hne (by simp [Value.ownBlock]; exact e))⟩
      case measure => simp [intOf]; omega
    · obtain rfl : k = n := by omega
      have hz : mkS k ++ l.drop k = mkS k := by rw [List.drop_of_length_le (by rw [HL.out]; exact Nat.le_refl _), List.append_nil]
      have HZ : Hid (wr.ownsRow base 9 1 (.slice A k c) k (sv (mkS k))) := by have := HR.out; rwa [hz] at this
      clear hz
      go_wp2
      go_ret
      exact ⟨rfl, HZ.out, hgr⟩
theorem keepS {wq w' : World} {p : Addr} {v : Value} (hc : wq.cell? p = some v) (hp : p.block < wq.heap.size) (hb : Below wq.heap.size wq w') : w'.cell? p = some v ∧ Below wq.heap.size wq w' := ⟨(hb.cell hp).trans hc, hb⟩
set_option maxRecDepth 100000 in
set_option maxHeartbeats 2000000 in
theorem heldStringS_c (A : Option Addr) (c n : Nat) (base : Nat) (w : World) (h : w.ownsRow base 9 1 (.slice A n c) n (sv (mkS n))) (hn : n ≤ 4194304) :
    Calls Tryd.prog 20 #[.slice A n c, .int .i64 1] w fun e w' => e = .returned (.int .i64 (1 + n)) ∧ Below w.heap.size w w' := by
  have hn' : (n : Int) ≤ 4194304 := by omega
  have HR := Lib.hid h
  clear h
  go_enter Tryd.func20, Tryd.ntmps20
  go_wp2_with fail
  go_loopw [1, 5] (fun q i wr => ∃ k : Nat, k ≤ n ∧ i = .int .i64 k ∧ q = .int .i64 (1 + k) ∧ Below w.heap.size w wr) (fun _ i _ => n - (intOf i).toNat)
  case atStart => exact ⟨0, Nat.zero_le _, rfl, rfl, Below.refl _ _⟩
  case round =>
    obtain ⟨k, hk, rfl, rfl, hbel⟩ := hrel
    by_cases hlt : k < n
    · obtain ⟨g, rfl⟩ := row_form HR.out (by omega)
      have hgl := (World.ownsRow.lt HR.out g rfl).2
      have hcell := (hbel.cell (p := ⟨g, k, none⟩) hgl).trans (HR.out.cellAt k (by omega))
      have e1 : (sv (mkS n))[k]? = some (.string (mkT (1 + k))) := by
        rw [sv_get _ k (by rw [mkS_length]; exact hlt), mkS_get]
      rw [e1] at hcell
      clear e1
      have hgr : g < wr.heap.size := by have := hbel.size; omega
      have HM := Lib.hid (fun w => mkT_c (1 + k) w (by omega) (by omega))
      rw [show ((1 + k : Nat) : Int) = 1 + (k : Int) by omega] at HM
      obtain ⟨x, hx⟩ : ∃ x, mkT (1 + k) = x := ⟨_, rfl⟩
      rw [hx] at hcell HM
      clear hx
      go_wp2_with fail
      go_region_held3 (fun w' => w'.cell? ⟨g, k, none⟩ = some (.string x) ∧ Below wr.heap.size wr w') (first | exact keepS hcell hgr (Below.refl _ _) | exact keepS hcell hgr (Below.refl _ _).drew | exact keepS hcell hgr (btrans (‹_ ∧ Below _ _ _›.2) ‹Below _ _ _›)) ((go_at_call 40; refine (HM.out _).mono ?_; rintro e wy ⟨rfl, by_⟩))
      have HB := Lib.hid (‹_ ∧ Below wr.heap.size wr _›.2)
      clear by_
      go_wp2_with fail
      go_roundw
      case rel => exact ⟨k + 1, by omega, by go_num, by go_num, btrans hbel HB.out⟩
      case measure => simp [intOf]; omega
    · obtain rfl : k = n := by omega
      go_wp2
      go_ret
      exact ⟨rfl, hbel⟩
end Go.Proofs.YtlnlohopgnocaaaDoor
