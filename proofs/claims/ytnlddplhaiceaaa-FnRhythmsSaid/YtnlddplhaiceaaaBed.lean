/-
  The verifier's helpers over beds: to.., sz.., eq.. .
  No conditions.
-/
import Derived.Test.YtnlddplhaiceaaaBedMem
import Derived.Deep.RegionWith
import Derived.Deep.RegionHeld3
import Derived.Test.YtnlddplhaiceaaaInts
namespace Go.Proofs.Ytnlddplhaiceaaa
open Go.ChangeShapes Go.WideShapes Go.ChangeAt Go.RowKit Go.Deep

theorem Blk.drew {w : World} {g : Nat} {t : TypeId} {cs : Array Value} (h : Blk w g t cs) : Blk w.drew g t cs := h
theorem keepE {wq w' : World} {g h : Nat} {t u : TypeId} {x0 x1 m0 m1 : Value} (hX : Blk wq g t #[x0, x1]) (hM : Blk wq h u #[m0, m1]) (hb : Below wq.heap.size wq w') :
    w'.cell? ⟨g, 0, none⟩ = some x0 ∧ w'.cell? ⟨g, 1, none⟩ = some x1 ∧ w'.cell? ⟨h, 0, none⟩ = some m0 ∧ w'.cell? ⟨h, 1, none⟩ = some m1 ∧ Below wq.heap.size wq w' := by
  have a0 := (hX.on hb).cell 0
  have a1 := (hX.on hb).cell 1
  have b0 := (hM.on hb).cell 0
  have b1 := (hM.on hb).cell 1
  simp at a0 a1 b0 b1
  exact ⟨a0, a1, b0, b1, hb⟩
theorem Blk.new2 (w : World) (o o' : Obj) (t : TypeId) (cs : Array Value) : Blk (((w.alloc o).alloc o').alloc (.cells cs t)) (w.heap.size + 2) t cs := by
  have := Blk.new ((w.alloc o).alloc o') t cs
  simpa using this
theorem szInt64S_c (A : Option Addr) (n c : Nat) (left : Int) (w : World) (hn : n ≤ maxLen) (h0 : 0 ≤ left) (_h1 : left ≤ 1048576) :
    Calls Try.prog 87 #[.slice A n c, .int .i64 left] w fun e w' => e = .returned (.int .i64 (szV n left)) ∧ w = w' := by
  unfold maxLen at hn
  by_cases h : left - n < 0
  all_goals
    have HV : szV n left = if left - n < 0 then -1 else left - n := rfl
    first | rw [if_pos h] at HV | rw [if_neg h] at HV
    rw [HV]; clear HV
    go_enter Try.func87, Try.ntmps87
    go_wp2
    go_ret
    exact ⟨rfl, rfl⟩
theorem szV_cases (n : Nat) (left : Int) (_h1 : left ≤ 1048576) : szV n left = -1 ∨ (0 ≤ szV n left ∧ szV n left ≤ left ∧ (n : Int) ≤ left) := by
  unfold szV; split <;> omega
theorem szBed_c (A : Option Addr) (n c : Nat) (a left : Int) (w : World) (hn : n ≤ maxLen) (h0 : 0 ≤ left) (h1 : left ≤ 1048576) :
    Calls Try.prog 44 #[.agg #[.slice A n c, .int .i64 a], .int .i64 left] w fun e w' => e = .returned (.int .i64 (szV n left)) ∧ Below w.heap.size w w' := by
  rcases szV_cases n left h1 with h | h
  · have HV := Lib.hid h
    clear h
    go_enter Try.func44, Try.ntmps44
    go_wp2_with fail
    refine (szInt64S_c _ _ _ _ _ hn h0 h1).mono ?_
    rintro e w1 ⟨rfl, rfl⟩
    rw [HV.out]
    go_wp2
    go_ret
    exact ⟨ret_int HV.out.symm, balloc (Below.refl _ _) _⟩
  · obtain ⟨h2, h3, h4⟩ := h
    go_enter Try.func44, Try.ntmps44
    go_wp2_with fail
    refine (szInt64S_c _ _ _ _ _ hn h0 h1).mono ?_
    rintro e w1 ⟨rfl, rfl⟩
    go_wp2
    go_ret
    exact ⟨rfl, balloc (Below.refl _ _) _⟩
def SzPost (bs : Nat → List Int × Int) (n : Nat) (w : World) (e : Ending) (w' : World) : Prop :=
  ∃ r : Int, e = .returned (.int .i64 r) ∧ (r = -1 ∨ (0 ≤ r ∧ Short bs n)) ∧ Below w.heap.size w w'
set_option maxRecDepth 100000 in
theorem szBedS_c (A : Option Addr) (n c : Nat) (bs : Nat → List Int × Int) (left : Int) (w : World) (h : Beds w w.heap.size A n bs) (hn : n ≤ maxLen) (h0 : 0 ≤ left) (h1 : left ≤ 1048576) :
    Calls Try.prog 7 #[.slice A n c, .int .i64 left] w (fun e w' => ∃ r : Int, e = .returned (.int .i64 r) ∧ (r = -1 ∨ (0 ≤ r ∧ r ≤ left ∧ Short bs n)) ∧ Below w.heap.size w w') := by
  unfold maxLen at hn
  by_cases hb : left - n < 0
  · go_enter Try.func7, Try.ntmps7
    go_wp2_with fail
    go_ret
    exact ⟨-1, rfl, .inl rfl, Below.refl _ _⟩
  · have hn' : (n : Int) ≤ 1048576 := by omega
    go_enter Try.func7, Try.ntmps7
    go_wp2_with fail
    go_loopw [1, 5] (fun l i wr => ∃ (k : Nat) (r : Int), k ≤ n ∧ i = .int .i64 k ∧ l = .int .i64 r ∧ 0 ≤ r ∧ r ≤ left ∧ Hid (∀ j, j < k → (yl bs j).length ≤ 1048576) ∧ Below w.heap.size w wr) (fun _ i _ => n - (intOf i).toNat)
    case atStart => exact ⟨0, _, Nat.zero_le _, rfl, rfl, by omega, by omega, fun j h => absurd h (by omega), Below.refl _ _⟩
    case round =>
      obtain ⟨k, r, hk, rfl, rfl, hr0, hr1, HK, hbel⟩ := hrel
      by_cases hlt : k < n
      · obtain ⟨b, off, A', m, c', rfl, hb, c0, c1, hm, hI⟩ := (h.below hbel (Nat.le_refl _)).at_ k hlt
        have HM : Hid ((yl bs k).length = m) := by have := hI.length; show _ = _; omega
        rcases szV_cases m r (by omega) with hq | hq
        · have HV := Lib.hid hq
          clear hq
          go_wp2_with fail
          refine (szBed_c _ _ _ _ _ _ hm hr0 (by omega)).mono ?_
          rintro e w1 ⟨rfl, hb1⟩
          rw [HV.out]
          go_wp2_with fail
          go_ret
          exact ⟨-1, rfl, .inl rfl, btrans hbel hb1⟩
        · obtain ⟨h2, h3, h4⟩ := hq
          go_wp2_with fail
          refine (szBed_c _ _ _ _ _ _ hm hr0 (by omega)).mono ?_
          rintro e w1 ⟨rfl, hb1⟩
          go_wp2_with fail
          go_roundw
          case rel =>
            refine ⟨k + 1, _, by omega, by go_num, rfl, h2, by omega, fun j hj => ?_, btrans hbel hb1⟩
            rcases Nat.lt_or_ge j k with hh | hh
            · exact HK.out j hh
            · obtain rfl : j = k := by omega
              rw [HM.out]; omega
          case measure => simp [intOf]; omega
      · obtain rfl : k = n := by omega
        go_wp2
        go_ret
        exact ⟨r, rfl, .inr ⟨hr0, hr1, by omega, HK.out⟩, hbel⟩
theorem toBed_c (A : Option Addr) (n c : Nat) (zs : List Int) (a : Int) (w : World) (B : Nat) (h : Ints w B 1 A n zs) (hB : B ≤ w.heap.size) (hn : n ≤ 1048576) :
    Calls Try.prog 48 #[.agg #[.slice A n c, .int .i64 a]] w fun e w' => ∃ g, e = .returned (.agg #[.slice (some ⟨g, 0, none⟩) n n, .int .i64 a]) ∧ w.heap.size ≤ g ∧
      Blk w' g 2 (iv zs).toArray ∧ Below w.heap.size w w' := by
  go_enter Try.func48, Try.ntmps48
  go_wp2_with fail
  have hbl := balloc (balloc (balloc (Below.refl _ w) (.cells #[.slice A n c, .int .i64 a] 65)) (.cells #[.slice none 0 0, .int .i64 0] 41)) (.cells #[.slice none 0 0, .int .i64 0] 41)
  refine (toInt64S_c _ _ _ zs _ _ (h.below hbl hB) (Nat.le_trans hB hbl.size) hn).mono ?_
  rintro e w1 ⟨rfl, k1, b1⟩
  have X := (((Blk.new w 65 #[.slice A n c, .int .i64 a]).alloc (.cells #[.slice none 0 0, .int .i64 0] 41)).alloc (.cells #[.slice none 0 0, .int .i64 0] 41)).on b1
  have Xl := X.lt
  have Xc0 := X.cell 0
  have Xf0 := X.frozen 0
  have Xc1 := X.cell 1
  have Xf1 := X.frozen 1
  simp at Xc0 Xc1
  have XH := Lib.hid X
  clear X
  have R := ((Blk.new1 w (.cells #[.slice A n c, .int .i64 a] 65) 41 #[.slice none 0 0, .int .i64 0]).alloc (.cells #[.slice none 0 0, .int .i64 0] 41)).on b1
  have Rl := R.lt
  have Rc0 := R.cell 0
  have Rf0 := R.frozen 0
  have Rc1 := R.cell 1
  have Rf1 := R.frozen 1
  simp at Rc0 Rc1
  have RH := Lib.hid R
  clear R
  have S := (Blk.new2 w (.cells #[.slice A n c, .int .i64 a] 65) (.cells #[.slice none 0 0, .int .i64 0] 41) 41 #[.slice none 0 0, .int .i64 0]).on b1
  have Sl := S.lt
  have Sc0 := S.cell 0
  have Sf0 := S.frozen 0
  have Sc1 := S.cell 1
  have Sf1 := S.frozen 1
  simp at Sc0 Sc1
  have SH := Lib.hid S
  clear S
  have HK := Lib.hid k1
  have HB := Lib.hid (btrans hbl b1)
  have HS := Lib.hid hbl.size
  clear k1 b1 hbl
  go_wp2
  refine bodyPost_ret (v := .agg #[.slice (some ⟨w.heap.size + 3, 0, none⟩) n n, .int .i64 a]) (by simp [results, Try.results48, go_sem, Rc0, Rc1]) rfl ⟨_, rfl, by omega, ?_, ?_⟩
  · have q := HK.out
    simp at q
    refine Blk.far (Blk.far (Blk.far (Blk.far q ?_ _) ?_ _) ?_ _) ?_ _ <;> (show _ ≠ _; simp <;> omega)
  · exact bset (bset (bset (bset HB.out (by omega) _) (by omega) _) (by omega) _) (by omega) _
theorem run_make_some {P : Program} (t e : TypeId) (z : Value) (size bytes : Nat) (ht : P.underlying t = some (.slice e)) (hinfo : (P.info? e).map (fun i => (i.zero, i.size, i.bytes)) = some (some z, size, bytes))
    (kl kc : IntKind) (n : Nat) (hbytes : bytes * n ≤ 281474976710656) (h63 : n ≤ 9223372036854775807) :
    ∃ L : List Value, L.length = n * size ∧ ∀ w : World, (Instr.makeSlice t (.int kl (n : Int)) (.int kc (n : Int))).run P w = .ok (.slice (some ⟨w.heap.size, 0, none⟩) n n) (w.alloc (.cells L.toArray e)) := by
  obtain ⟨i, hi, h0, h1, h2⟩ := info_parts hinfo
  subst h1 h2
  have hb : (i.bytes : Int) * (n : Int) ≤ 281474976710656 := by
    have h : ((i.bytes * n : Nat) : Int) ≤ 281474976710656 := by omega
    rwa [Int.natCast_mul] at h
  refine ⟨(madeCells z.cells (n * i.size)).toList, by simp [size_madeCells], fun w => ?_⟩
  have hr := run_make (P := P) w t e i z ht hi h0 kl kc n n (by omega) (Int.le_refl _) hb (by omega)
  simp only [Int.toNat_natCast] at hr
  rw [hr]
/-- Beds in new memory: the first k of n are there. -/
def Made (w : World) (g hi : Nat) (bs : Nat → List Int × Int) (n k : Nat) : Prop := ∃ (L : List Value) (γ : Nat → Nat), L.length = n * 2 ∧ Blk w g 41 L.toArray ∧ g < hi ∧ hi ≤ w.heap.size ∧
  (∀ j, j < k → g < γ j ∧ γ j < hi ∧ L[j * 2]? = some (.slice (some ⟨γ j, 0, none⟩) (yl bs j).length (yl bs j).length) ∧ L[j * 2 + 1]? = some (.int .i64 (ag bs j)) ∧ Blk w (γ j) 2 (iv (yl bs j)).toArray) ∧
  ∀ i j, i < k → j < k → γ i = γ j → i = j
theorem Made.step {w w1 : World} {g g' n k : Nat} {bs : Nat → List Int × Int} (h : Made w g w.heap.size bs n k) (hk : k < n) (hb : Below w.heap.size w w1) (hg : w.heap.size ≤ g') (hB : Blk w1 g' 2 (iv (yl bs k)).toArray) :
    Made ((w1.setCell ⟨g, k * 2, none⟩ (.slice (some ⟨g', 0, none⟩) (yl bs k).length (yl bs k).length)).setCell ⟨g, k * 2 + 1, none⟩ (.int .i64 (ag bs k))) g w1.heap.size bs n (k + 1) := by
  obtain ⟨L, γ, hL, hblk, h0, h1, hall, hinj⟩ := h
  have hz := hb.size
  have hg1 := hB.lt
  refine ⟨(L.set (k * 2) (.slice (some ⟨g', 0, none⟩) (yl bs k).length (yl bs k).length)).set (k * 2 + 1) (.int .i64 (ag bs k)), fun j => if j = k then g' else γ j, by simp [hL], ?_, by omega, by simp [World.setCell], fun j hj => ?_, fun i j hi hj he => ?_⟩
  · have := ((hblk.on hb).set_ (k * 2) (.slice (some ⟨g', 0, none⟩) (yl bs k).length (yl bs k).length)).set_ (k * 2 + 1) (.int .i64 (ag bs k))
    rwa [List.setIfInBounds_toArray, List.setIfInBounds_toArray] at this
  · by_cases e : j = k
    · subst e
      simp only [if_true]
      refine ⟨by omega, hg1, ?_, ?_, (hB.far (by show _ ≠ g; omega) _).far (by show _ ≠ g; omega) _⟩
      · rw [List.getElem?_set_ne (by omega), List.getElem?_set_self (by omega)]
      · rw [List.getElem?_set_self (by simp; omega)]
    · simp only [if_neg e]
      obtain ⟨a1, a2, a3, a4, a5⟩ := hall j (by omega)
      refine ⟨a1, by omega, ?_, ?_, ((a5.on hb).far (by show _ ≠ g; omega) _).far (by show _ ≠ g; omega) _⟩
      · rw [List.getElem?_set_ne (by omega), List.getElem?_set_ne (by omega)]; exact a3
      · rw [List.getElem?_set_ne (by omega), List.getElem?_set_ne (by omega)]; exact a4
  · by_cases e1 : i = k <;> by_cases e2 : j = k <;> simp only [e1, e2, if_true, if_false] at he
    · omega
    · have := (hall j (by omega)).2.1; omega
    · have := (hall i (by omega)).2.1; omega
    · exact hinj i j (by omega) (by omega) he
theorem Made.on {w w1 : World} {g hi n k B : Nat} {bs : Nat → List Int × Int} (h : Made w g hi bs n k) (hb : Below B w w1) (hB : hi ≤ B) : Made w1 g hi bs n k := by
  obtain ⟨L, γ, hL, hblk, h0, h1, hall, hinj⟩ := h
  exact ⟨L, γ, hL, hblk.below hb (by omega), h0, Nat.le_trans h1 hb.size, fun j hj => by
    obtain ⟨a1, a2, a3, a4, a5⟩ := hall j hj
    exact ⟨a1, a2, a3, a4, a5.below hb (by omega)⟩, hinj⟩
theorem Made.beds {w : World} {g hi n : Nat} {bs : Nat → List Int × Int} (h : Made w g hi bs n n) (hs : Short bs n) (hw : ∀ i, i < n → ∀ z ∈ yl bs i, -9223372036854775808 ≤ z ∧ z ≤ 9223372036854775807) : Beds w w.heap.size (some ⟨g, 0, none⟩) n bs := by
  obtain ⟨L, γ, hL, hblk, h0, h1, hall, hinj⟩ := h
  refine ⟨fun i hi => ?_⟩
  obtain ⟨a1, a2, a3, a4, a5⟩ := hall i hi
  have c0 := hblk.cell (i * 2)
  have c1 := hblk.cell (i * 2 + 1)
  rw [List.getElem?_toArray] at c0 c1
  refine ⟨g, 0, _, _, _, rfl, by omega, by rw [Nat.zero_add, c0, a3], by rw [Nat.zero_add, c1, a4], by have := hs.2 i hi; simp [maxLen]; omega, ?_⟩
  exact a5.ints (by simp) (hw i hi)
set_option maxRecDepth 100000 in
set_option maxHeartbeats 1000000 in
theorem toBedS_c (A : Option Addr) (n c : Nat) (bs : Nat → List Int × Int) (w : World) (B : Nat) (h : Beds w B A n bs) (hB : B ≤ w.heap.size) (hs : Short bs n) :
    Calls Try.prog 9 #[.slice A n c] w fun e w' => e = .returned (.slice (some ⟨w.heap.size, 0, none⟩) n n) ∧ Made w' w.heap.size w'.heap.size bs n n ∧ Below w.heap.size w w' := by
  have hn := hs.1
  have hinfo : (Try.prog.info? 41).map (fun i => (i.zero, i.size, i.bytes)) = some (some (.agg #[.slice none 0 0, .int .i64 0]), 2, 32) := by kernel_rfl
  obtain ⟨L0, hL0, hmk⟩ := run_make_some (P := Try.prog) 26 41 (.agg #[.slice none 0 0, .int .i64 0]) 2 32 Try.underlying26 hinfo .i64 .i64 n (by omega) (by omega)
  clear hinfo
  have HS := Lib.hid hs
  clear hs
  have HL0 := Lib.hid hL0
  clear hL0
  go_enter Try.func9, Try.ntmps9
  go_wp2_with fail
  clear hmk
  go_loopw [4] (fun i wr => ∃ k : Nat, k ≤ n ∧ i = .int .i64 k ∧ Made wr w.heap.size wr.heap.size bs n k ∧ Below w.heap.size w wr) (fun i _ => n - (intOf i).toNat)
  case atStart => exact ⟨0, Nat.zero_le _, rfl, ⟨L0, fun _ => 0, HL0.out, Blk.new w _ _, by simp, by simp, fun j hj => absurd hj (by omega), fun i j hi => absurd hi (by omega)⟩, balloc (Below.refl _ _) _⟩
  case round =>
    obtain ⟨k, hk, rfl, hM, hbel⟩ := hrel
    by_cases hlt : k < n
    · obtain ⟨b, off, A', m, c', rfl, hb, c0, c1, hm, hI⟩ := (h.below hbel hB).at_ k hlt
      obtain rfl : m = (yl bs k).length := by have := hI.length; omega
      have hms := HS.out.2 k hlt
      have hbs := hbel.size
      go_wp2_with fail
      refine (toBed_c _ _ _ _ _ _ _ hI (Nat.le_trans hB hbel.size) hms).mono ?_
      rintro e w1 ⟨g1, rfl, hg1, hk1, hb1⟩
      have HH := Lib.hid hM
      obtain ⟨L, γ, hL, hblk, h0, h1, -, -⟩ := hM
      have hlb := (hblk.on hb1).lt
      obtain ⟨x0, d0⟩ := (hblk.on hb1).has (k * 2) (by omega)
      obtain ⟨x1, d1⟩ := (hblk.on hb1).has (k * 2 + 1) (by omega)
      have f0 := (hblk.on hb1).frozen (k * 2)
      have f1 := (hblk.on hb1).frozen (k * 2 + 1)
      have HB1 := Lib.hid hk1
      clear hblk hL hk1
      go_wp2_with fail
      go_roundw
      case rel =>
        refine ⟨k + 1, by omega, by go_num, ?_, bset (bset (btrans hbel hb1) (Nat.le_refl _) _) (Nat.le_refl _) _⟩
        have := HH.out.step hlt hb1 hg1 HB1.out
        simpa [World.setCell] using this
      case measure => simp [intOf]; omega
    · obtain rfl : k = n := by omega
      go_wp2
      go_ret
      exact ⟨rfl, hM, hbel⟩
theorem eqBed_c (A A' : Option Addr) (n c c' : Nat) (zs : List Int) (a : Int) (w : World) (h : Ints w w.heap.size 1 A n zs) (h' : Ints w w.heap.size 1 A' n zs) (hn : n ≤ 1048576) :
    Calls Try.prog 51 #[.agg #[.slice A n c, .int .i64 a], .agg #[.slice A' n c', .int .i64 a]] w fun e w' => e = .returned (.bool true) ∧ Below w.heap.size w w' := by
  have hbl := balloc (balloc (Below.refl _ w) (.cells #[.slice A n c, .int .i64 a] 41)) (.cells #[.slice A' n c', .int .i64 a] 41)
  have HB := Lib.hid hbl
  clear hbl
  go_enter Try.func51, Try.ntmps51
  go_wp2_with fail
  refine (eqInt64S_c _ _ _ _ _ zs _ (h.on HB.out) (h'.on HB.out) hn).mono ?_
  rintro e w1 ⟨rfl, hb1⟩
  have X := ((Blk.new w 41 #[.slice A n c, .int .i64 a]).alloc (.cells #[.slice A' n c', .int .i64 a] 41)).on hb1
  have Xl := X.lt
  have Xc0 := X.cell 0
  have Xf0 := X.frozen 0
  have Xc1 := X.cell 1
  have Xf1 := X.frozen 1
  simp at Xc0 Xc1
  have XH := Lib.hid X
  clear X
  have Y := (Blk.new1 w (.cells #[.slice A n c, .int .i64 a] 41) 41 #[.slice A' n c', .int .i64 a]).on hb1
  have Yl := Y.lt
  have Yc0 := Y.cell 0
  have Yf0 := Y.frozen 0
  have Yc1 := Y.cell 1
  have Yf1 := Y.frozen 1
  simp at Yc0 Yc1
  have YH := Lib.hid Y
  clear Y
  have HB1 := Lib.hid (btrans HB.out hb1)
  clear hb1
  go_wp2_with fail
  go_ret
  exact ⟨rfl, HB1.out⟩
set_option maxRecDepth 100000 in
set_option maxHeartbeats 1000000 in
theorem eqBedS_c (A A' : Option Addr) (n c c' : Nat) (bs : Nat → List Int × Int) (w : World) (h : Beds w w.heap.size A n bs) (h' : Beds w w.heap.size A' n bs) (hs : Short bs n) :
    Calls Try.prog 11 #[.slice A n c, .slice A' n c'] w fun e w' => e = .returned (.bool true) ∧ Below w.heap.size w w' := by
  have hn := hs.1
  go_enter Try.func11, Try.ntmps11
  go_wp2_with fail
  go_loopw [5] (fun i wr => ∃ k : Nat, k ≤ n ∧ i = .int .i64 k ∧ Below w.heap.size w wr) (fun i _ => n - (intOf i).toNat)
  case atStart => exact ⟨0, Nat.zero_le _, rfl, Below.refl _ _⟩
  case round =>
    obtain ⟨k, hk, rfl, hbel⟩ := hrel
    by_cases hlt : k < n
    · obtain ⟨b, off, A1, m, c1, rfl, hb, c0, c1, hm, hI⟩ := (h.on hbel).at_ k hlt
      obtain ⟨b', off', A2, m2, c2, rfl, hb', c0', c1', hm', hI'⟩ := (h'.on hbel).at_ k hlt
      obtain rfl : m = (yl bs k).length := by have := hI.length; omega
      obtain rfl : m2 = (yl bs k).length := by have := hI'.length; omega
      have hms := hs.2 k hlt
      go_wp2_with fail
      go_still_tail 8, (by kernel_rfl)
      go_wp2_with (go_at_call 51; refine (eqBed_c _ _ _ _ _ (yl bs k) _ _ (hI.on (bdrewN (Below.refl _ _) _)) (hI'.on (bdrewN (Below.refl _ _) _)) hms).mono ?_; rintro e w1 ⟨rfl, hb1⟩)
      go_roundw
      case rel => exact ⟨k + 1, by omega, by go_num, by first | exact btrans hbel.drew hb1 | exact btrans (bdrewN hbel _) hb1⟩
      case measure => simp [intOf]; omega
    · obtain rfl : k = n := by omega
      go_wp2
      go_ret
      exact ⟨rfl, hbel⟩

end Go.Proofs.Ytnlddplhaiceaaa
