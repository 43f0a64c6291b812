/-
  SteadyNeed: the program's and the reference's.
  No conditions.
-/
import Derived.Test.YtnlddplhaiceaaaSteady
namespace Go.Proofs.Ytnlddplhaiceaaa
open Go.ChangeShapes Go.WideShapes Go.ChangeAt Go.RowKit Go.Deep
set_option linter.unusedVariables false

theorem keepT {w W1 w' : World} {p q r : Addr} {x y z : Value} (x0 : W1.cell? p = some x) (y0 : W1.cell? q = some y) (z0 : W1.cell? r = some z) (hp : p.block < W1.heap.size) (hq : q.block < W1.heap.size) (hr : r.block < W1.heap.size) (hb : Below W1.heap.size W1 w') :
    w'.cell? p = some x ∧ w'.cell? q = some y ∧ w'.cell? r = some z ∧ Below W1.heap.size W1 w' := ⟨(hb.cell hp).trans x0, (hb.cell hq).trans y0, (hb.cell hr).trans z0, hb⟩
theorem nxt_succ (az : List Int) (S k : Nat) : nxt az S (k + 1) = nxt az S k ++ [if S.testBit k then 1 else gi az k + 1] := rfl
theorem nxt_bd {az : List Int} {n : Nat} {M : Int} (hM : 0 ≤ M) (h : ∀ i, i < n → 0 ≤ gi az i ∧ gi az i ≤ M) (S : Nat) : ∀ i, i < n → 0 ≤ gi (nxt az S n) i ∧ gi (nxt az S n) i ≤ M + 1 := by
  intro i hi
  rw [nxt_gi az S n i hi]
  have := h i hi
  split <;> omega
theorem nxt_wf {az : List Int} {M : Int} (hM : 0 ≤ M) (hM2 : M ≤ 1000) (S : Nat) : ∀ (n : Nat), (∀ i, i < n → 0 ≤ gi az i ∧ gi az i ≤ M) → ∀ z ∈ nxt az S n, -9223372036854775808 ≤ z ∧ z ≤ 9223372036854775807
  | 0, _, z, hz => by simp [nxt] at hz
  | n + 1, h, z, hz => by
    rw [nxt_succ] at hz
    rcases List.mem_append.1 hz with h1 | h1
    · exact nxt_wf hM hM2 S n (fun i hi => h i (by omega)) z h1
    · simp only [List.mem_singleton] at h1
      have := h n (by omega)
      subst h1
      split <;> omega
theorem sAt_bd {bs : Nat → List Int × Int} {n : Nat} (hok : okAll (bedAt bs) n 8 = true) {az : List Int} (h : ∀ i, i < n → 0 ≤ gi az i) (S : Nat) : ∀ k, k ≤ n → 0 ≤ sumTo (sAt bs az S) k ∧ sumTo (sAt bs az S) k ≤ 10000 * k := fun k hk =>
  sumTo_bd _ 10000 k fun j hj => by
    have hb := bedOk_bd (okAll_get hok (show j < n by omega))
    have := yfor_bd (k := gi az j) hb.2.2.2.2 hb.1 (h j (by omega))
    unfold sAt
    split <;> omega
/-- What the first sets give. -/
def stTo' (n : Nat) (bs : Nat → List Int × Int) (y : Nat) (az : List Int) (K : Nat) : Int := stFold (fun S => sumTo (sAt bs az S) n) (fun S => std n bs y (nxt az S n)) (decide (0 < y)) K
theorem stTo_succ' (n : Nat) (bs : Nat → List Int × Int) (y : Nat) (az : List Int) (K : Nat) : stTo' n bs y az (K + 1) = (let b := stTo' n bs y az K
    let s := sumTo (sAt bs az K) n
    let v := if decide (0 < y) && decide (b < s) then (if s < std n bs y (nxt az K n) then s else std n bs y (nxt az K n)) else s
    if b < v then v else b) := rfl

theorem val_int {a b : Int} (h : a = b) : Value.int .i64 a = Value.int .i64 b := by rw [h]
set_option maxRecDepth 100000 in
set_option maxHeartbeats 8000000 in
theorem steady_step (y : Nat) (hy : y ≤ 2) (IH : 0 < y → ∀ (A : Option Addr) (n c : Nat) (bs : Nat → List Int × Int) (A2 : Option Addr) (c2 : Nat) (az : List Int) (w : World), Beds w w.heap.size A n bs → okAll (bedAt bs) n 8 = true → n ≤ 4 → Ints w w.heap.size 1 A2 n az → (∀ i, i < n → 0 ≤ gi az i ∧ gi az i ≤ 11 - y) →
      Calls Try.prog 50 #[.slice A n c, .slice A2 n c2, .int .i64 (y : Int)] w fun e w' => e = .returned (.int .i64 (std n bs y az)) ∧ Below w.heap.size w w')
    (A : Option Addr) (n c : Nat) (bs : Nat → List Int × Int) (A2 : Option Addr) (c2 : Nat) (az : List Int) (w : World) (h : Beds w w.heap.size A n bs) (hok : okAll (bedAt bs) n 8 = true) (hn : n ≤ 4) (h2 : Ints w w.heap.size 1 A2 n az) (has : ∀ i, i < n → 0 ≤ gi az i ∧ gi az i ≤ 10 - y) :
    Calls Try.prog 50 #[.slice A n c, .slice A2 n c2, .int .i64 ((y : Int) + 1)] w fun e w' => e = .returned (.int .i64 (std n bs (y + 1) az)) ∧ Below w.heap.size w w' := by
  have HIH := Lib.hid IH
  have HA := Lib.hid has
  have HV : Hid (std n bs (y + 1) az = stTo' n bs y az (2 ^ n)) := std_succ n bs y az
  have HSB := Lib.hid (sAt_bd hok (fun i hi => (has i hi).1))
  have hM : (0 : Int) ≤ 10 - y := by omega
  have HNB := Lib.hid (nxt_bd hM has)
  have HNW := Lib.hid (fun S k (hk : k ≤ n) => nxt_wf hM (by omega) S k (fun i hi => has i (by omega)))
  have hshl := shl_one n (by omega)
  have hp := pow_bd (n := n) (by omega)
  obtain ⟨K, hK⟩ : ∃ K : Nat, K = 2 ^ n := ⟨_, rfl⟩
  rw [← hK] at hshl hp HV
  have HK2 := Lib.hid hK
  clear hK IH has
  go_enter Try.func50, Try.ntmps50
  go_wp2_with fail
  rw [hshl]
  clear hshl
  go_loopw [7, 16] (fun b i wr => ∃ k : Nat, k ≤ K ∧ i = .int .i64 k ∧ b = .int .i64 (stTo' n bs y az k) ∧ Below w.heap.size w wr) (fun _ i _ => K - (intOf i).toNat)
  case atStart => exact ⟨0, Nat.zero_le _, rfl, rfl, Below.refl _ _⟩
  case round =>
    obtain ⟨k, hk, rfl, rfl, hbel⟩ := hrel
    by_cases hlt : k < K
    · have HST := Lib.hid (stTo_succ' n bs y az k)
      have hb0 : 0 ≤ stTo' n bs y az k ∧ stTo' n bs y az k ≤ 40000 := ⟨stFold_ge _ _ _ _, stFold_le (by omega) (fun S => by have := (HSB.out S n (Nat.le_refl _)).2; omega) _⟩
      generalize stTo' n bs y az k = B at *
      have hkn : k < 1048576 := by omega
      obtain ⟨wo, rfl⟩ : ∃ wo : World, wo = wr := ⟨_, rfl⟩
      go_wp2_with fail
      go_loopw [9, 10, 22] (fun s o i wr => ∃ (j : Nat), j ≤ n ∧ i = .int .i64 j ∧ s = .int .i64 (sumTo (sAt bs az k) j) ∧ Hid (Own wr wo.heap.size o (nxt az k j)) ∧ Below wo.heap.size wo wr) (fun _ _ i _ => n - (intOf i).toNat)
      case atStart => exact ⟨0, Nat.zero_le _, rfl, rfl, Own.empty _ (Nat.le_refl _), balloc (Below.refl _ _) _⟩
      case round =>
        obtain ⟨j, hj, rfl, rfl, HO, hbq⟩ := hrel
        have HX := Lib.hid (btrans hbel hbq)
        have hss := HSB.out k j hj
        by_cases hjl : j < n
        · have HSS : Hid (sumTo (sAt bs az k) (j + 1) = sumTo (sAt bs az k) j + if k.testBit j then yfor (yl bs j) (gi az j) else 0) := sumTo_succ _ _
          have HNX : Hid (nxt az k (j + 1) = nxt az k j ++ [if k.testBit j then 1 else gi az j + 1]) := nxt_succ _ _ _
          have hnl := nxt_len az k j
          have ha := HA.out j hjl
          obtain ⟨b2, off2, rfl, hb2, e0⟩ := (h2.on HX.out).at1 hjl
          obtain ⟨b, off, A', m', c', rfl, hb, x0, x1, hm', hI⟩ := (h.on HX.out).at_ j hjl
          obtain rfl : m' = (yl bs j).length := by have := hI.length; omega
          have hbo := bedOk_bd (okAll_get hok hjl)
          have g1 := hbo.1
          have g2 := hbo.2.1
          have g3 := hbo.2.2.1
          have g4 := hbo.2.2.2.1
          have hyb := yfor_bd (k := gi az j) hbo.2.2.2.2 hbo.1 ha.1
          have hA := bit_at k j hkn
          have HY := Lib.hid hI
          clear hbo hI
          generalize sumTo (sAt bs az k) j = s at *
          generalize gi az j = z at *
          generalize ag bs j = a at *
          generalize yl bs j = ys at *
          rcases hbt : k.testBit j with _ | _
          · rw [hbt] at hA
            simp only [Bool.false_eq_true, if_false] at hA
            have HSS2 : Hid (sumTo (sAt bs az k) (j + 1) = s) := by show _ = _; have e := HSS.out; rw [hbt] at e; simpa using e
            have HNX2 : Hid (nxt az k (j + 1) = nxt az k j ++ [z + 1]) := by show _ = _; have e := HNX.out; rw [hbt] at e; simpa using e
            clear HSS HNX
            go_wp2_with (at_builtin; go_loud (refine append_int rfl (.tmp 43) (.tmp 49) rfl wo.heap.size _ _ rfl ((HO.out.alloc _).alloc _) (z + 1) _ rfl (Blk.new1 _ _ _ _) (by omega) (by have := hbq.size; simp; omega) ?_); intro v1 w2 hown1 hgr1)
            go_roundw
            case rel => exact ⟨j + 1, by omega, by go_num, by rw [HSS2.out], by rw [HNX2.out]; exact hown1, below_grown (balloc (balloc hbq _) _) hgr1 (fun g hg => (HO.out.lt g hg).1)⟩
            case measure => simp [intOf]; omega
          · rw [hbt] at hA
            simp only [if_true] at hA
            have HSS2 : Hid (sumTo (sAt bs az k) (j + 1) = s + yfor ys z) := by show _ = _; have e := HSS.out; rw [hbt] at e; simpa using e
            have HNX2 : Hid (nxt az k (j + 1) = nxt az k j ++ [1]) := by show _ = _; have e := HNX.out; rw [hbt] at e; simpa using e
            clear HSS HNX
            have HWr : IntKind.i64.wrap (s + yfor ys z) = s + yfor ys z := IntWalk.i64_in _ (by omega)
            go_wp2_with fail
            have HBl : Hid (Blk (wr.alloc (.cells #[.slice A' ys.length c', .int .i64 a] 41)) wr.heap.size 41 #[.slice A' ys.length c', .int .i64 a]) := Blk.new _ _ _
            have hW1 := balloc (Below.refl wr.heap.size wr) (.cells #[.slice A' ys.length c', .int .i64 a] 41)
            have y0 := HBl.out.cell 0
            have y1 := HBl.out.cell 1
            simp only [List.getElem?_toArray, List.getElem?_cons_zero, List.getElem?_cons_succ] at y0 y1
            have hgl := HBl.out.lt
            have z0 := (hW1.cell (p := ⟨b2, off2 + j, none⟩) hb2).trans e0
            have hb2' := Nat.lt_of_lt_of_le hb2 hW1.size
            generalize hW1e : wr.alloc (.cells #[.slice A' ys.length c', .int .i64 a] 41) = W1 at *
            clear hW1e HBl x0 x1 e0
            have HW1 := Lib.hid hW1
            have HY1 := Lib.hid (HY.out.on hW1)
            clear hW1
            go_region_held3 (fun w' => w'.cell? ⟨wr.heap.size, 0, none⟩ = some (.slice A' ys.length c') ∧ w'.cell? ⟨wr.heap.size, 1, none⟩ = some (.int .i64 a) ∧ w'.cell? ⟨b2, off2 + j, none⟩ = some (.int .i64 z) ∧ Below W1.heap.size W1 w') (first | exact keepT (w := w) y0 y1 z0 hgl hgl hb2' (Below.refl _ _) | exact keepT (w := w) y0 y1 z0 hgl hgl hb2' (Below.refl _ _).drew | exact keepT (w := w) y0 y1 z0 hgl hgl hb2' (btrans (‹_ ∧ _ ∧ _ ∧ Below _ _ _›.2.2.2) ‹Below _ _ _›)) ((go_at_call 77; refine (yfor_i A' c' ys a z _ (HY1.out.on (‹_ ∧ _ ∧ _ ∧ Below W1.heap.size W1 _›.2.2.2)) g1 g2 ha.1 (by omega)).mono ?_; rintro e wy ⟨rfl, hby2⟩))
            have HZ := Lib.hid (‹_ ∧ _ ∧ _ ∧ Below W1.heap.size W1 wy›.2.2.2)
            have HQ := Lib.hid (btrans hbq (HW1.out.trans (HZ.out.mono HW1.out.size)))
            clear hby2 HWr
            go_wp2_with (at_builtin; go_loud (refine append_int rfl (.tmp 40) (.tmp 41) rfl wo.heap.size _ _ rfl ((HO.out.on (HW1.out.trans (HZ.out.mono HW1.out.size))).alloc _) 1 _ rfl (Blk.new _ _ _) (by omega) (by have := HQ.out.size; simp; omega) ?_); intro v1 w2 hown1 hgr1)
            go_roundw
            case rel => exact ⟨j + 1, by omega, by go_num, by rw [HSS2.out], by rw [HNX2.out]; exact hown1, below_grown (balloc HQ.out _) hgr1 (fun g hg => (HO.out.lt g hg).1)⟩
            case measure => simp [intOf]; omega
        · obtain rfl : j = n := by omega
          obtain ⟨A9, cap9, rfl, i9, -⟩ := HO.out.ints (HNW.out k j (Nat.le_refl _))
          rw [nxt_len] at i9 ⊢
          have HNB2 := Lib.hid (HNB.out k)
          generalize nxt az k j = nx at *
          clear HNW HO
          generalize sumTo (sAt bs az k) j = s at *
          have hy1 : ((y : Int) + 1 - 1) = (y : Int) := by omega
          by_cases hy0 : 0 < y
          · have hY : (1 : Int) < (y : Int) + 1 := by omega
            by_cases hbs : B < s
            · have hst : 0 ≤ std j bs y nx := (std_bd y (M := 40000) (by omega) (fun S => by have := (sAt_bd hok (fun i hi => (HNB2.out i hi).1) S j (Nat.le_refl _)).2; omega)).1
              have hst2 : std j bs y nx ≤ 40000 := (std_bd y (M := 40000) (by omega) (fun S => by have := (sAt_bd hok (fun i hi => (HNB2.out i hi).1) S j (Nat.le_refl _)).2; omega)).2
              have HC := Lib.hid (HIH.out hy0 A j c bs A9 cap9 nx wr (h.on HX.out) hok hn i9 (fun i hi => ⟨(HNB2.out i hi).1, by have := (HNB2.out i hi).2; omega⟩))
              have HST2 : Hid (stTo' j bs y az (k + 1) = if B < (if s < std j bs y nx then s else std j bs y nx) then (if s < std j bs y nx then s else std j bs y nx) else B) := by
                show _ = _
                have e := HST.out
                simp only [hy0, hbs, decide_true, Bool.and_self, if_true] at e
                exact e
              clear HST HIH i9
              generalize std j bs y nx = q at *
              go_wp2_with fail
              refine (HC.out).mono ?_
              rintro e w4 ⟨rfl, b4⟩
              have HX4 := Lib.hid (btrans HX.out b4)
              go_wp2_with fail
              go_roundw
              case rel => exact ⟨k + 1, by omega, by go_num, by rw [HST2.out] <;> first | rfl | (congr 1; done) | (congr 1; (repeat' split) <;> omega) | (refine val_int ?_; (repeat' split) <;> omega), HX4.out⟩
              case measure => simp [intOf]; omega
            · have HST2 : Hid (stTo' j bs y az (k + 1) = B) := by
                show _ = _
                have e := HST.out
                simp only [hbs, decide_false, Bool.and_false, Bool.false_eq_true, if_false] at e
                exact e
              have hd : decide (B < s) = false := by simpa using hbs
              go_wp2_with fail
              go_roundw
              case rel => exact ⟨k + 1, by omega, by go_num, by rw [HST2.out] <;> first | rfl | (congr 1; done) | (congr 1; (repeat' split) <;> omega) | (refine val_int ?_; (repeat' split) <;> omega), HX.out⟩
              case measure => simp [intOf]; omega
          · have hY : ¬ (1 : Int) < (y : Int) + 1 := by omega
            have HST2 : Hid (stTo' j bs y az (k + 1) = if B < s then s else B) := by
              show _ = _
              have e := HST.out
              simp only [hy0, decide_false, Bool.false_and, Bool.false_eq_true, if_false] at e
              exact e
            go_wp2_with fail
            go_roundw
            case rel => exact ⟨k + 1, by omega, by go_num, by rw [HST2.out] <;> first | rfl | (congr 1; done) | (congr 1; (repeat' split) <;> omega) | (refine val_int ?_; (repeat' split) <;> omega), HX.out⟩
            case measure => simp [intOf]; omega
    · obtain rfl : k = K := by omega
      go_wp2
      go_ret
      exact ⟨ret_int HV.out.symm, hbel⟩
theorem steady_i : ∀ (y : Nat), y ≤ 2 → ∀ (A : Option Addr) (n c : Nat) (bs : Nat → List Int × Int) (A2 : Option Addr) (c2 : Nat) (az : List Int) (w : World), Beds w w.heap.size A n bs → okAll (bedAt bs) n 8 = true → n ≤ 4 → Ints w w.heap.size 1 A2 n az → (∀ i, i < n → 0 ≤ gi az i ∧ gi az i ≤ 10 - y) →
    Calls Try.prog 50 #[.slice A n c, .slice A2 n c2, .int .i64 ((y : Int) + 1)] w fun e w' => e = .returned (.int .i64 (std n bs (y + 1) az)) ∧ Below w.heap.size w w'
  | 0, hy, A, n, c, bs, A2, c2, az, w, h, hok, hn, h2, ha => steady_step 0 (by omega) (fun h0 => absurd h0 (by omega)) A n c bs A2 c2 az w h hok hn h2 ha
  | y + 1, hy, A, n, c, bs, A2, c2, az, w, h, hok, hn, h2, ha => steady_step (y + 1) hy (fun _ A n c bs A2 c2 az w h hok hn h2 ha => by
      have := steady_i y (by omega) A n c bs A2 c2 az w h hok hn h2 (fun i hi => by have := ha i hi; omega)
      have e : ((y : Int) + 1) = ((y + 1 : Nat) : Int) := by omega
      rw [e] at this
      exact this) A n c bs A2 c2 az w h hok hn h2 ha
/-- The ages of the first beds. -/
def agL (bs : Nat → List Int × Int) : Nat → List Int
  | 0 => []
  | k + 1 => agL bs k ++ [ag bs k]
theorem agL_len (bs : Nat → List Int × Int) : ∀ k, (agL bs k).length = k
  | 0 => rfl
  | k + 1 => by simp [agL, agL_len bs k]
theorem agL_gi (bs : Nat → List Int × Int) : ∀ k i, i < k → gi (agL bs k) i = ag bs i
  | 0, i, h => absurd h (by omega)
  | k + 1, i, h => by
    rcases Nat.lt_or_ge i k with hh | hh
    · rw [agL, gi_snoc_lt (by rw [agL_len]; exact hh), agL_gi bs k i hh]
    · obtain rfl : i = k := by omega
      rw [agL, gi_snoc_at (by rw [agL_len])]
theorem agL_wf {bs : Nat → List Int × Int} : ∀ n, (∀ i, i < n → 0 ≤ ag bs i ∧ ag bs i ≤ 5) → ∀ z ∈ agL bs n, -9223372036854775808 ≤ z ∧ z ≤ 9223372036854775807
  | 0, _, z, hz => by simp [agL] at hz
  | n + 1, h, z, hz => by
    rcases List.mem_append.1 hz with h1 | h1
    · exact agL_wf n (fun i hi => h i (by omega)) z h1
    · simp only [List.mem_singleton] at h1
      have := h n (by omega)
      omega
theorem agL_eq {bs : Nat → List Int × Int} {n : Nat} (hok : okAll (bedAt bs) n 8 = true) : AgeEq bs (agL bs n) n := by
  intro i hi
  rw [agL_gi bs n i hi]
  have h := bedOk_bd (okAll_get hok hi)
  refine ⟨h.2.2.1, ?_⟩
  split <;> omega
/-- SteadyNeed: the value and the code. -/
def syC (bs : Nat → List Int × Int) (n : Nat) (y : Int) : Int := if okAll (bedAt bs) n 8 then (if inR y 1 3 then (if 4 < n then 5 else 0) else 2) else 1
def syV (bs : Nat → List Int × Int) (n : Nat) (y : Int) : Int := if okAll (bedAt bs) n 8 && inR y 1 3 && decide (n ≤ 4) then std n bs y.toNat (agL bs n) else 0

set_option maxRecDepth 100000 in
set_option maxHeartbeats 4000000 in
theorem need_i (A : Option Addr) (n c : Nat) (bs : Nat → List Int × Int) (y : Int) (w : World) (h : Beds w w.heap.size A n bs) (hs : Short bs n) :
    Calls Try.prog 10 #[.slice A n c, .int .i64 y] w fun e w' => e = .returned (.tuple #[.int .i64 (syV bs n y), .int .i64 (syC bs n y)]) ∧ Below w.heap.size w w' := by
  have hn := hs.1
  rcases hok : okAll (bedAt bs) n 8 with _ | _
  · have HV : Hid (syV bs n y = 0 ∧ syC bs n y = 1) := by show _ ∧ _; simp [syC, syV, hok]
    go_enter Try.func10, Try.ntmps10
    go_wp2_with fail
    refine (ValidBeds_i _ _ _ bs _ h hs).mono ?_
    rintro e w1 ⟨rfl, hb1⟩
    rw [hok]
    go_wp2
    go_ret2
    exact ⟨by rw [HV.out.1, HV.out.2]; rfl, hb1⟩
  · refine inR_split y 1 3 (fun hr n1 n3 => ?_) (fun hr => ?_)
    · by_cases h4 : 4 < n
      · have HV : Hid (syV bs n y = 0 ∧ syC bs n y = 5) := by show _ ∧ _; simp [syC, syV, hok, hr, h4]; omega
        go_enter Try.func10, Try.ntmps10
        go_wp2_with fail
        refine (ValidBeds_i _ _ _ bs _ h hs).mono ?_
        rintro e w1 ⟨rfl, hb1⟩
        rw [hok]
        go_wp2_with (first | (go_at_call 49; refine (within_c _ _ _ _).mono ?_; rintro e w' ⟨rfl, rfl⟩))
        go_ret2
        exact ⟨by rw [HV.out.1, HV.out.2]; rfl, hb1⟩
      · obtain ⟨k, rfl⟩ : ∃ k : Nat, y = (k : Int) + 1 := ⟨(y - 1).toNat, by omega⟩
        have hk2 : k ≤ 2 := by omega
        have HV : Hid (syV bs n ((k : Int) + 1) = std n bs (k + 1) (agL bs n) ∧ syC bs n ((k : Int) + 1) = 0) := by
          have e : ((k : Int) + 1).toNat = k + 1 := by omega
          have h5 : n ≤ 4 := by omega
          show _ ∧ _; simp [syC, syV, hok, hr, h4, h5, e]
        have HAG := Lib.hid (fun i (hi : i < n) => bedOk_bd (okAll_get hok hi))
        go_enter Try.func10, Try.ntmps10
        go_wp2_with fail
        refine (ValidBeds_i _ _ _ bs _ h hs).mono ?_
        rintro e w1 ⟨rfl, hb1⟩
        rw [hok]
        have z1 := hb1.size
        go_wp2_with (first | (go_at_call 49; refine (within_c _ _ _ _).mono ?_; rintro e w' ⟨rfl, rfl⟩))
        go_loopw [6, 21] (fun o i wr => ∃ j : Nat, j ≤ n ∧ i = .int .i64 j ∧ Hid (Own wr w.heap.size o (agL bs j)) ∧ Below w.heap.size w wr) (fun _ i _ => n - (intOf i).toNat)
        case atStart => exact ⟨0, Nat.zero_le _, rfl, (Own.empty w1 z1 : Own _ _ _ []), balloc hb1 _⟩
        case round =>
          obtain ⟨j, hj, rfl, HO, hbel⟩ := hrel
          have hln := agL_len bs j
          by_cases hjl : j < n
          · obtain ⟨b, off, A', m', c', rfl, hb, x0, x1, hm', hI⟩ := (h.on hbel).at_ j hjl
            have HNX : Hid (agL bs (j + 1) = agL bs j ++ [ag bs j]) := rfl
            generalize ag bs j = a at *
            clear hI
            go_wp2_with (at_builtin; go_loud (refine append_int rfl (.tmp 25) (.tmp 28) rfl w.heap.size _ _ rfl ((HO.out.alloc _).alloc _) a _ rfl (Blk.new1 _ _ _ _) (by omega) (by have := hbel.size; simp; omega) ?_); intro v1 w2 hown1 hgr1)
            go_roundw
            case rel => exact ⟨j + 1, by omega, by go_num, by rw [HNX.out]; exact hown1, below_grown (balloc (balloc hbel _) _) hgr1 (fun g hg => (HO.out.lt g hg).1)⟩
            case measure => simp [intOf]; omega
          · obtain rfl : j = n := by omega
            obtain ⟨A9, cap9, rfl, i9, -⟩ := HO.out.ints (agL_wf j (fun i hi => by have := HAG.out i hi; omega))
            rw [agL_len] at i9 ⊢
            go_wp2_with fail
            refine (steady_i k hk2 A j c bs A9 cap9 (agL bs j) wr (h.on hbel) hok (by omega) i9 (fun i hi => by rw [agL_gi bs j i hi]; have := HAG.out i hi; omega)).mono ?_
            rintro e w4 ⟨rfl, b4⟩
            go_wp2
            go_ret2
            exact ⟨by rw [HV.out.1, HV.out.2]; rfl, btrans hbel b4⟩
    · have HV : Hid (syV bs n y = 0 ∧ syC bs n y = 2) := by show _ ∧ _; simp [syC, syV, hok, hr]
      go_enter Try.func10, Try.ntmps10
      go_wp2_with fail
      refine (ValidBeds_i _ _ _ bs _ h hs).mono ?_
      rintro e w1 ⟨rfl, hb1⟩
      rw [hok]
      go_wp2_with (first | (go_at_call 49; refine (within_c _ _ _ _).mono ?_; rintro e w' ⟨rfl, rfl⟩))
      go_ret2
      exact ⟨by rw [HV.out.1, HV.out.2]; rfl, hb1⟩
theorem half_at (p q : Nat) : ((p : Int) + q).tdiv 2 = (((p + q) / 2 : Nat) : Int) := by
  have : ((p : Int) + q) = ((p + q : Nat) : Int) := by omega
  rw [this]; rfl
set_option maxRecDepth 100000 in
set_option maxHeartbeats 4000000 in
theorem need_s (A : Option Addr) (n c : Nat) (bs : Nat → List Int × Int) (y : Int) (w : World) (h : Beds w w.heap.size A n bs) (hs : Short bs n) :
    Calls Try.prog 8 #[.slice A n c, .int .i64 y] w fun e w' => e = .returned (.tuple #[.int .i64 (syV bs n y), .int .i64 (syC bs n y)]) ∧ Below w.heap.size w w' := by
  have hn := hs.1
  rcases hok : okAll (bedAt bs) n 8 with _ | _
  · have HV : Hid (syV bs n y = 0 ∧ syC bs n y = 1) := by show _ ∧ _; simp [syC, syV, hok]
    go_enter Try.func8, Try.ntmps8
    go_wp2_with fail
    refine (l03Ok_c _ _ _ bs _ h hs).mono ?_
    rintro e w1 ⟨rfl, rfl⟩
    rw [hok]
    go_wp2
    go_ret2
    exact ⟨by rw [HV.out.1, HV.out.2]; rfl, Below.refl _ _⟩
  · refine inR_split y 1 3 (fun hr n1 n3 => ?_) (fun hr => ?_)
    · by_cases h4 : 4 < n
      · have HV : Hid (syV bs n y = 0 ∧ syC bs n y = 5) := by show _ ∧ _; simp [syC, syV, hok, hr, h4]; omega
        go_enter Try.func8, Try.ntmps8
        go_wp2_with fail
        refine (l03Ok_c _ _ _ bs _ h hs).mono ?_
        rintro e w1 ⟨rfl, rfl⟩
        rw [hok]
        go_wp2_with (first | (go_at_call 46; refine (l00In_c _ _ _ _).mono ?_; rintro e w' ⟨rfl, rfl⟩))
        go_ret2
        exact ⟨by rw [HV.out.1, HV.out.2]; rfl, Below.refl _ _⟩
      · obtain ⟨k, rfl⟩ : ∃ k : Nat, y = ((k + 1 : Nat) : Int) := ⟨(y - 1).toNat, by omega⟩
        have hk2 : k ≤ 2 := by omega
        have HV : Hid (syV bs n ((k + 1 : Nat) : Int) = std n bs (k + 1) (agL bs n) ∧ syC bs n ((k + 1 : Nat) : Int) = 0) := by
          have e : ((k + 1 : Nat) : Int).toNat = k + 1 := by omega
          have h5 : n ≤ 4 := by omega
          show _ ∧ _; simp only [syC, syV, hok, hr, h4, h5, e, decide_true, Bool.and_self, if_true, if_false, and_self]
        have hwf := Lib.hid h.wf
        have HM := Lib.hid (fun (need : Int) (h0 : 0 < need) => meets_iff (n := n) h0 k bs (agL bs n) (okAll_len hok) (agL_eq hok))
        have hst := std_bd (n := n) (bs := bs) (k + 1) (az := agL bs n) (M := 40000) (by omega) (fun S => by have := (sAt_bd hok (fun i hi => ((agL_eq hok) i hi).1) S n (Nat.le_refl _)).2; omega)
        obtain ⟨st, hst'⟩ : ∃ st : Nat, std n bs (k + 1) (agL bs n) = st := ⟨_, (Int.toNat_of_nonneg hst.1).symm⟩
        have HC := Lib.hid (fun (need : Int) w1 (hb : Below w.heap.size w w1) => meets_s (k + 1) (by omega) A n c bs need w1 (h.on hb) hs hwf.out hok)
        rw [hst'] at hst HM HV
        have HS := Lib.hid hs
        clear hst' hs
        obtain ⟨Y, hY⟩ : ∃ Y : Int, ((k + 1 : Nat) : Int) = Y := ⟨_, rfl⟩
        rw [hY] at HC HV n1 n3 hr ⊢
        clear hY
        go_enter Try.func8, Try.ntmps8
        go_wp2_with fail
        refine (l03Ok_c _ _ _ bs _ h HS.out).mono ?_
        rintro e w1 ⟨rfl, rfl⟩
        rw [hok]
        go_wp2_with (first | (go_at_call 46; refine (l00In_c _ _ _ _).mono ?_; rintro e w' ⟨rfl, rfl⟩))
        go_loopw [6, 7] (fun a b wr => ∃ p q : Nat, p < q ∧ q ≤ 50000 ∧ p ≤ st ∧ st < q ∧ a = .int .i64 p ∧ b = .int .i64 q ∧ Below w.heap.size w wr) (fun a b _ => (intOf b).toNat - (intOf a).toNat)
        case atStart => exact ⟨0, 50000, by omega, by omega, by omega, by omega, rfl, rfl, Below.refl _ _⟩
        case round =>
          obtain ⟨p, q, hpq, hq, hp0, hq0, rfl, rfl, hbel⟩ := hrel
          by_cases h1 : (1 : Int) < (q : Int) - p
          · have hmid := half_at p q
            obtain ⟨mid, hmm⟩ : ∃ mid, (p + q) / 2 = mid := ⟨_, rfl⟩
            have hm1 : p < mid ∧ mid < q := by omega
            rw [hmm] at hmid
            clear hmm
            have HMd := HM.out (mid : Int) (by omega)
            rcases hmt : meets n (mid : Int) (k + 1) bs with _ | _
            · have hlt : st < mid := by
                have : ¬ (mid : Int) ≤ st := fun hh => by rw [HMd.2 hh] at hmt; cases hmt
                omega
              clear HMd
              have HMt := Lib.hid hmt
              clear hmt
              go_wp2_with fail
              refine (HC.out (mid : Int) wr hbel).mono ?_
              rintro e w5 ⟨rfl, b5⟩
              rw [HMt.out]
              have HX5 := Lib.hid (btrans hbel b5)
              go_wp2_with fail
              go_roundw
              case rel => exact ⟨p, mid, hm1.1, by omega, hp0, hlt, rfl, rfl, HX5.out⟩
              case measure => simp [intOf]; omega
            · have hle : mid ≤ st := by
                have := HMd.1 hmt
                omega
              clear HMd
              have HMt := Lib.hid hmt
              clear hmt
              go_wp2_with fail
              refine (HC.out (mid : Int) wr hbel).mono ?_
              rintro e w5 ⟨rfl, b5⟩
              rw [HMt.out]
              have HX5 := Lib.hid (btrans hbel b5)
              go_wp2_with fail
              go_roundw
              case rel => exact ⟨mid, q, hm1.2, hq, hle, hq0, rfl, rfl, HX5.out⟩
              case measure => simp [intOf]; omega
          · obtain rfl : p = st := by omega
            go_wp2
            go_ret2
            exact ⟨by rw [HV.out.1, HV.out.2]; rfl, hbel⟩
    · have HV : Hid (syV bs n y = 0 ∧ syC bs n y = 2) := by show _ ∧ _; simp [syC, syV, hok, hr]
      go_enter Try.func8, Try.ntmps8
      go_wp2_with fail
      refine (l03Ok_c _ _ _ bs _ h hs).mono ?_
      rintro e w1 ⟨rfl, rfl⟩
      rw [hok]
      go_wp2_with (first | (go_at_call 46; refine (l00In_c _ _ _ _).mono ?_; rintro e w' ⟨rfl, rfl⟩))
      go_ret2
      exact ⟨by rw [HV.out.1, HV.out.2]; rfl, Below.refl _ _⟩
end Go.Proofs.Ytnlddplhaiceaaa
