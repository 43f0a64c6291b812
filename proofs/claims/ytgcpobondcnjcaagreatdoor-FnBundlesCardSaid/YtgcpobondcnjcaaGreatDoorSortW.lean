/-
  slices.SortStableFunc at up to 20 whole numbers, and impl.sortedIndices with a closure that compares keys.
  No conditions.
-/
import Derived.Test.YtgcpobondcnjcaaGreatDoorSortC
namespace Go.Proofs.YtgcpobondcnjcaaGreatDoor
open Go.ChangeShapes Go.WideShapes Go.ChangeAt Go.RowKit Go.Deep Go.Shelf Go.Sort
set_option linter.unusedVariables false

section
variable {α : Type} [Inhabited α] {enc : α → Value} {w0 W : World} {g off B : Nat} {dk : Array α}
theorem sw_heap (m : Nat) (os : Array Obj) {k : Nat} (hk : k < w0.heap.size) : (sortWorld enc w0 g off m dk os).heap[k]? = if g = k then (w0.heap[k]?).map (onCells (putCells enc off dk)) else w0.heap[k]? := by
  show (w0.heap.modify g (onCells (putCells enc off dk)) ++ os)[k]? = _
  rw [Array.getElem?_append_left (by simpa using hk), Array.getElem?_modify]
theorem sw_below (h : SW enc w0 g off dk W) (hB : B ≤ g) (hs : B ≤ w0.heap.size) : Below B w0 W := by
  obtain ⟨m, os, rfl⟩ := h
  refine ⟨rfl, rfl, rfl, by simp [sortWorld, grow, putRow, mapBlock, Sort.ahead], fun k hk => ?_⟩
  rw [sw_heap m os (by omega), if_neg (by omega)]
/-- A cell of another block stays. -/
theorem sw_cell (h : SW enc w0 g off dk W) {a : Addr} {u : Value} (hc : w0.cell? a = some u) (hb : a.block < w0.heap.size) (hne : a.block ≠ g) : W.cell? a = some u := by
  obtain ⟨m, os, rfl⟩ := h
  have h2 : ¬ g = a.block := fun e => hne e.symm
  rw [← hc]
  unfold World.cell?
  rw [sw_heap m os hb, if_neg h2]
theorem sw_own {base n cap : Nat} {zs zs' : List Int} (h : Own w0 base (.slice (some ⟨g, 0, none⟩) n cap) zs) (S : SW enc w0 g 0 dk W) (hn : dk.size = zs.length) (hz : zs'.length = zs.length)
    (he : ∀ j, j < zs.length → enc dk[j]! = .int .i64 (gi zs' j)) : Own W base (.slice (some ⟨g, 0, none⟩) n cap) zs' := by
  obtain ⟨m, os, rfl⟩ := S
  unfold Own at h ⊢
  rcases h.2 with ⟨e, _⟩ | ⟨g', cap', cur, e, h1, h2, h3, h4, h5, h6⟩
  · cases e
  · injection e with e1 e2 e3
    injection e1 with e1
    injection e1 with e1
    subst e1 e2
    subst cap'
    have hlt : g < w0.heap.size := by
      rcases Nat.lt_or_ge g w0.heap.size with q | q
      · exact q
      · rw [Array.getElem?_eq_none q] at h2; cases h2
    refine ⟨by rw [iv_length]; omega, .inr ⟨g, cap, putCells enc 0 dk cur, by rw [hz], h1, ?_, by omega, h4, by simpa [putCells] using h5, ?_⟩⟩
    · rw [sw_heap m os hlt, if_pos rfl, h2]; rfl
    · apply List.ext_getElem?
      intro k
      rw [List.getElem?_take]
      by_cases hk : k < zs.length
      · rw [if_pos (by omega), iv_get zs' k (by omega), ← he k hk]
        simp only [putCells, Array.getElem?_toList, Array.getElem?_mapIdx]
        rw [Array.getElem?_eq_getElem (by omega)]
        simp only [Option.map_some]
        rw [if_pos ⟨by omega, by omega⟩]
        rfl
      · rw [if_neg (by omega), List.getElem?_eq_none (by rw [iv_length]; omega)]
end

/-- A place below n, or else 0. -/
def clp (n : Nat) (k : Int) : Int := if 0 ≤ k ∧ k < n then k else 0
theorem clp_in {n : Nat} {k : Int} (h0 : 0 ≤ k) (h1 : k < n) : clp n k = k := if_pos ⟨h0, h1⟩
theorem clp_bd {n : Nat} (hn : 0 < n) (k : Int) : 0 ≤ clp n k ∧ clp n k < n := by unfold clp; split <;> omega
def encN (n : Nat) (k : Int) : Value := .int .i64 (clp n k)

theorem holds_of {w : World} {base g n cap N : Nat} {zs : List Int} (h : Own w base (.slice (some ⟨g, 0, none⟩) n cap) zs) (hz : ∀ z ∈ zs, 0 ≤ z ∧ z < (N : Int)) : Holds (encN N) w g 0 zs.toArray := by
  intro j hj
  have hj : j < zs.length := by simpa using hj
  have hc := World.ownsRow.cells (g := g) h rfl j (.int .i64 (gi zs j)) (iv_get zs j hj)
  have e : (⟨g, 0, none⟩ : Addr).add j = ⟨g, j, none⟩ := by unfold Addr.add; split <;> simp_all
  rw [e] at hc
  have hm : gi zs j ∈ zs := by
    have : gi zs j = zs[j] := by simp [gi, List.getD, List.getElem?_eq_getElem hj]
    rw [this]; exact List.getElem_mem hj
  have e2 : zs.toArray[j]! = gi zs j := by simp [gi, List.getD, hj]
  refine ⟨?_, ?_⟩
  · rw [Nat.zero_add, hc, e2, encN, clp_in (hz _ hm).1 (hz _ hm).2]
  · rcases h.2 with ⟨e, _⟩ | ⟨g', cap', cur, e, h1, h2, _⟩
    · cases e
    · injection e with e1
      injection e1 with e1
      injection e1 with e1
      subst e1
      simp [World.frozen?, h2]

theorem enc_gi {N j : Nat} {zs : List Int} (hz : ∀ z ∈ zs, 0 ≤ z ∧ z < (N : Int)) (hj : j < zs.length) : encN N zs.toArray[j]! = .int .i64 (gi zs j) := by
  have hm : gi zs j ∈ zs := by
    have : gi zs j = zs[j] := by simp [gi, List.getD, List.getElem?_eq_getElem hj]
    rw [this]; exact List.getElem_mem hj
  have e2 : zs.toArray[j]! = gi zs j := by simp [gi, List.getD, hj]
  rw [e2, encN, clp_in (hz _ hm).1 (hz _ hm).2]
/-- The closure (function f, bound to cb) compares the keys of two places below n, the greater first. -/
def CmpOk (f : Nat) (cb : Array Value) (n : Nat) (key : Int → Int) (w : World) : Prop :=
  ∀ w', Below w.heap.size w w' → ∀ x y : Int, 0 ≤ x → x < n → 0 ≤ y → y < n →
    Calls Tryz.prog f (#[.int .i64 x, .int .i64 y] ++ cb) w' fun e w'' => e = .returned (.int .i64 (key y - key x)) ∧ ∃ q, w'' = w'.drewN q

set_option maxRecDepth 100000 in
theorem stable_c (g : Nat) (cb : Array Value) (blk cap n N : Nat) (key : Int → Int) (w : World) (eg : ∀ args w, (callFunc g args).run Tryz.prog w = .ok (.enter g args) w)
    (hc : CmpLays1 Tryz.prog g cb (encN N) (fun a b => key b - key a) blk 0 n w) (R : Row1 (encN N) w blk 0 (upTo n).toArray) (h0 : 0 < n) (hn : n ≤ 20) :
    Calls Tryz.prog 76 #[.slice (some ⟨blk, 0, none⟩) n cap, .int .i64 n, .func (.func g) #[] cb] w fun e w' => e = .returned (.tuple #[]) ∧ SW (encN N) w blk 0 (stTo key n).toArray w' := by
  have hsz : (upTo n).toArray.size = n := by simp [upTo_len]
  have hs : (stTo key n).toArray.size = n := by simp [stTo_len]
  have I := Any.insertionSortCmpFunc_s insLays (encN N) (fun a b => key b - key a) g cb blk 0 cap 0 n (upTo n).toArray (upTo n).toArray w w eg (by rw [hsz]; exact hc) R rfl (SW.start R.hH) (by omega) (by omega) (by omega)
  rw [insertionSort_law key n h0, hsz] at I
  have I2 := fun W (S : SW (encN N) w blk 0 (stTo key n).toArray W) => Any.insertionSortCmpFunc_s insLays (encN N) (fun a b => key b - key a) g cb blk 0 cap n n (upTo n).toArray (stTo key n).toArray w W eg (by rw [hsz]; exact hc) R (by omega) S (by omega) (by omega) (by omega)
  have e2 : Sort.insertionSort (ltOf fun a b => key b - key a) (stTo key n).toArray n n = (stTo key n).toArray := by
    unfold Sort.insertionSort insOuter; rw [if_neg (by omega)]
  rw [hs, e2] at I2
  have HI := Lib.hid I
  have HI2 := Lib.hid I2
  clear I I2 e2 hsz hs hc
  by_cases h20 : n = 20
  · subst h20
    show Calls Tryz.prog 76 #[.slice (some ⟨blk, 0, none⟩) 20 cap, .int .i64 20, .func (.func g) #[] cb] w _
    go_enter Tryz.func76, Tryz.ntmps76
    go_wp2_with fail
    go_loopw [7, 8] (fun v7 v8 wr => ∃ q : Nat, q ≤ 1 ∧ v7 = .int .i64 (20 * q : Nat) ∧ v8 = .int .i64 (20 * q + 20 : Nat) ∧ Aside (q = 0 → wr = w) ∧ Aside (q = 1 → SW (encN N) w blk 0 (stTo key 20).toArray wr)) (fun _ v8 _ => 40 - (intOf v8).toNat)
    case atStart => exact ⟨0, by omega, rfl, rfl, fun _ => rfl, fun h => absurd h (by omega)⟩
    case round =>
      obtain ⟨q, hq, rfl, rfl, h1, h2⟩ := hrel
      obtain rfl | rfl : q = 0 ∨ q = 1 := by omega
      · obtain rfl := h1.out rfl
        clear h1 h2
        go_wp2_with fail
        refine HI.out.mono ?_
        rintro e w2 ⟨rfl, S⟩
        have HS : Aside _ := S
        clear S
        go_wp2_with fail
        go_roundw
        case rel => exact ⟨1, by omega, by go_num, by go_num, fun h => absurd h (by omega), fun _ => HS.out⟩
        case measure => simp [intOf]
      · have HS : Aside _ := h2.out rfl
        clear h1 h2
        go_wp2_with fail
        refine (HI2.out _ HS.out).mono ?_
        rintro e w3 ⟨rfl, S⟩
        have HT : Aside _ := S
        clear S
        go_wp2_with fail
        go_loopw [6] (fun v wr => v = .int .i64 20 ∧ wr = w3) (fun _ _ => 0)
        case atStart => exact ⟨rfl, rfl⟩
        case round =>
          obtain ⟨rfl, rfl⟩ := hrel
          go_wp2
          go_end0
          exact ⟨rfl, HT.out⟩
  · have hlt : ¬ (20 : Int) ≤ n := by omega
    have hlt2 : (n : Int) ≤ 20 := by omega
    go_enter Tryz.func76, Tryz.ntmps76
    go_wp2_with fail
    go_loopw [7, 8] (fun v7 v8 wr => v7 = .int .i64 0 ∧ v8 = .int .i64 20 ∧ wr = w) (fun _ v8 _ => 0)
    case atStart => exact ⟨rfl, rfl, rfl⟩
    case round =>
      obtain ⟨rfl, rfl, rfl⟩ := hrel
      go_wp2_with fail
      refine HI.out.mono ?_
      rintro e w3 ⟨rfl, S⟩
      have HT : Aside _ := S
      clear S
      go_wp2_with fail
      go_loopw [6] (fun v wr => v = .int .i64 20 ∧ wr = w3) (fun _ _ => 0)
      case atStart => exact ⟨rfl, rfl⟩
      case round =>
        obtain ⟨rfl, rfl⟩ := hrel
        go_wp2
        go_end0
        exact ⟨rfl, HT.out⟩

theorem sortStable_c (g : Nat) (cb : Array Value) (blk cap n N : Nat) (key : Int → Int) (w : World) (eg : ∀ args w, (callFunc g args).run Tryz.prog w = .ok (.enter g args) w)
    (hc : CmpLays1 Tryz.prog g cb (encN N) (fun a b => key b - key a) blk 0 n w) (R : Row1 (encN N) w blk 0 (upTo n).toArray) (h0 : 0 < n) (hn : n ≤ 20) :
    Calls Tryz.prog 66 #[.slice (some ⟨blk, 0, none⟩) n cap, .func (.func g) #[] cb] w fun e w' => e = .returned (.tuple #[]) ∧ SW (encN N) w blk 0 (stTo key n).toArray w' := by
  have HI := Lib.hid (stable_c g cb blk cap n N key w eg hc R h0 hn)
  clear hc R
  go_enter Tryz.func66, Tryz.ntmps66
  go_wp2_with fail
  refine HI.out.mono ?_
  rintro e w2 ⟨rfl, S⟩
  have HT : Aside _ := S
  clear S
  go_wp2
  go_end0
  exact ⟨rfl, HT.out⟩

theorem cmpI_c (g : Nat) (cb : Array Value) (bx n : Nat) (key : Int → Int) (w w' : World) (eg : ∀ args w, (callFunc g args).run Tryz.prog w = .ok (.enter g args) w)
    (hb : w'.cell? ⟨bx, 0, none⟩ = some (.func (.func g) #[] cb)) (hc : CmpOk g cb n key w) (hbel : Below w.heap.size w w') (x y : Int) (hx0 : 0 ≤ x) (hx1 : x < n) (hy0 : 0 ≤ y) (hy1 : y < n) :
    Calls Tryz.prog 67 #[.int .i64 x, .int .i64 y, .pointer (some ⟨bx, 0, none⟩)] w' fun e w'' => e = .returned (.int .i64 (key y - key x)) ∧ ∃ q, w'' = w'.drewN q := by
  have HC := Lib.hid (hc w' hbel x y hx0 hx1 hy0 hy1)
  clear hc hbel
  go_enter Tryz.func67, Tryz.ntmps67
  go_wp2_with fail
  refine HC.out.mono ?_
  rintro e w2 ⟨rfl, q, rfl⟩
  go_wp2
  go_ret
  exact ⟨rfl, q, rfl⟩

theorem ins0_c (p : Option Addr) (cap : Nat) (fv : Value) (w : World) :
    Calls Tryz.prog 91 #[.slice p 0 cap, .int .i64 0, .int .i64 0, fv] w fun e w' => e = .returned (.tuple #[]) ∧ w = w' := by
  go_enter Tryz.func91, Tryz.ntmps91
  go_wp2_with fail
  go_loopw [8] (fun v wr => v = .int .i64 1 ∧ wr = w) (fun _ _ => 0)
  case atStart => exact ⟨rfl, rfl⟩
  case round =>
    obtain ⟨rfl, rfl⟩ := hrel
    go_wp2
    go_end0
    exact ⟨rfl, rfl⟩
theorem stable0_c (p : Option Addr) (cap : Nat) (fv : Value) (w : World) :
    Calls Tryz.prog 76 #[.slice p 0 cap, .int .i64 0, fv] w fun e w' => e = .returned (.tuple #[]) ∧ w = w' := by
  go_enter Tryz.func76, Tryz.ntmps76
  go_wp2_with fail
  go_loopw [7, 8] (fun v7 v8 wr => v7 = .int .i64 0 ∧ v8 = .int .i64 20 ∧ wr = w) (fun _ v8 _ => 0)
  case atStart => exact ⟨rfl, rfl, rfl⟩
  case round =>
    obtain ⟨rfl, rfl, hw⟩ := hrel
    subst wr
    go_wp2_with fail
    (with_reducible refine (ins0_c p cap fv _).mono ?_)
    rintro e w3 ⟨rfl, hw⟩
    subst w3
    go_wp2_with fail
    go_loopw [6] (fun v wr => v = .int .i64 20 ∧ wr = w) (fun _ _ => 0)
    case atStart => exact ⟨rfl, rfl⟩
    case round =>
      obtain ⟨rfl, rfl⟩ := hrel
      go_wp2
      go_end0
      exact ⟨rfl, rfl⟩
theorem sortStable0_c (p : Option Addr) (cap : Nat) (fv : Value) (w : World) :
    Calls Tryz.prog 66 #[.slice p 0 cap, fv] w fun e w' => e = .returned (.tuple #[]) ∧ w = w' := by
  go_enter Tryz.func66, Tryz.ntmps66
  go_wp2_with fail
  (with_reducible refine (stable0_c p cap fv _).mono ?_)
  rintro e w3 ⟨rfl, rfl⟩
  go_wp2
  go_end0
  exact ⟨rfl, rfl⟩

set_option maxRecDepth 100000 in
theorem sortedIndices_c (g : Nat) (cb : Array Value) (n : Nat) (key : Int → Int) (w : World) (eg : ∀ args w, (callFunc g args).run Tryz.prog w = .ok (.enter g args) w)
    (hc : CmpOk g cb n key w) (hk : ∀ k, key (clp n k) = key k) (hn : n ≤ 20) :
    Calls Tryz.prog 50 #[.int .i64 n, .func (.func g) #[] cb] w fun e w' => ∃ v, e = .returned v ∧ Own w' w.heap.size v (stTo key n) ∧ Below w.heap.size w w' := by
  have HC := Lib.hid hc
  clear hc
  go_enter Tryz.func50, Tryz.ntmps50
  go_wp2_with fail
  go_loopw [5, 9] (fun s i wr => ∃ k : Nat, k ≤ n ∧ i = .int .i64 k ∧ Own wr (w.heap.size + 1) s (upTo k) ∧ Blk wr w.heap.size 54 #[.func (.func g) #[] cb] ∧ Below w.heap.size w wr) (fun _ i _ => n - (intOf i).toNat)
  case atStart =>
    refine ⟨0, Nat.zero_le _, rfl, ?_, (Blk.new w _ _).alloc _, balloc (balloc (Below.refl _ w) _) _⟩
    have := Own.empty (w.alloc (.cells #[.func (.func g) #[] cb] 54)) (base := w.heap.size + 1) (by simp)
    simpa [upTo] using this
  case round =>
    obtain ⟨k, hkn, rfl, hown, hblk, hbel⟩ := hrel
    have hlen := upTo_len k
    have hbase := hbel.size
    have hlt1 := hblk.lt
    by_cases hlt : k < n
    · have HL := Lib.hid hlen
      clear hlen
      go_wp2_with (at_builtin; refine append_int rfl (.tmp 12) (.tmp 14) rfl (w.heap.size + 1) _ _ rfl (Own.alloc hown _) k _ rfl (Blk.new _ _ _) (by rw [HL.out]; omega) (by simp; omega) ?_; intro v1 w2 hown1 hgr1)
      go_roundw
      case rel => exact ⟨k + 1, by omega, by go_num, by rw [upTo_succ]; exact hown1, (hblk.alloc _).grown hgr1 (fun e => by have := (hown.lt _ e.symm).1; omega), below_grown (balloc hbel _) hgr1 (fun g hg => by have := (hown.lt g hg).1; omega)⟩
      case measure => simp [intOf]; omega
    · obtain rfl : k = n := by omega
      have HK := Lib.hid hk
      clear hk hlt
      have HL := Lib.hid hlen
      clear hlen
      rcases hown.2 with ⟨hv, h0⟩ | ⟨blk, cap, cur, hv, h1, h2, h3, h4, h5, h6⟩
      · subst hv
        have hk0 : k = 0 := by have := HL.out; omega
        subst hk0
        go_wp2_with fail
        refine (sortStable0_c none 0 _ _).mono ?_
        rintro e w3 ⟨rfl, hw⟩
        subst w3
        go_wp2
        go_ret
        exact ⟨_, rfl, Own.nil _ _, hbel⟩
      · subst hv
        clear h2 h3 h4 h5 h6
        rw [HL.out] at hown ⊢
        rcases Nat.eq_zero_or_pos k with hk0 | hk0
        · subst hk0
          go_wp2_with fail
          refine (sortStable0_c _ cap _ _).mono ?_
          rintro e w3 ⟨rfl, hw⟩
          subst w3
          go_wp2
          go_ret
          exact ⟨_, rfl, hown.base_le (by omega), hbel⟩
        · have hbl := (hown.lt blk rfl).2
          have R : Row1 (encN k) wr blk 0 (upTo k).toArray := ⟨fun _ => rfl, holds_of hown (fun z hz => by simp only [upTo, List.mem_map, List.mem_range] at hz; obtain ⟨j, hj, rfl⟩ := hz; omega), hbl⟩
          have hcc := hblk.cell 0
          have hcm : CmpLays1 Tryz.prog 67 #[.pointer (some ⟨w.heap.size, 0, none⟩)] (encN k) (fun a b => key b - key a) blk 0 k wr := by
            intro m os dk hs x y
            have S : SW (encN k) wr blk 0 dk (sortWorld (encN k) wr blk 0 m dk os) := ⟨m, os, rfl⟩
            have hx := clp_bd hk0 x
            have hy := clp_bd hk0 y
            refine (cmpI_c g cb w.heap.size k key w _ eg (sw_cell S (by simpa using hcc) hlt1 (by show w.heap.size ≠ blk; omega)) HC.out (hbel.trans (sw_below S (by omega) (by omega))) (clp k x) (clp k y) hx.1 hx.2 hy.1 hy.2).mono ?_
            rintro e w' ⟨rfl, q, rfl⟩
            exact ⟨by rw [HK.out, HK.out], q, #[], (grow_empty _).symm⟩
          have HS := Lib.hid (sortStable_c 67 #[.pointer (some ⟨w.heap.size, 0, none⟩)] blk cap k k key wr (enters_of Tryz.func67 (by decide) rfl) hcm R hk0 hn)
          have HO := Lib.hid hown
          clear hcm R hcc hown
          go_wp2_with fail
          refine HS.out.mono ?_
          rintro e w4 ⟨rfl, S⟩
          have HT : Aside _ := S
          clear S
          go_wp2
          go_ret
          have hz := stTo_len key k
          exact ⟨_, rfl, (sw_own HO.out HT.out (by simp [hz, HL.out]) (by rw [hz, HL.out]) (fun j hj => enc_gi (fun z h => stTo_mem key k z h) (by rw [hz]; rw [HL.out] at hj; exact hj))).base_le (by omega), hbel.trans (sw_below HT.out (by omega) (by omega))⟩
end Go.Proofs.YtgcpobondcnjcaaGreatDoor
