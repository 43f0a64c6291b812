/-
  CutFor: the first set of beds whose yields are enough.
  No conditions.
-/
import Derived.Test.YtnlddplhaiceaaaBestCuts
import Derived.Deep.RegionHeld3
namespace Go.Proofs.Ytnlddplhaiceaaa
open Go.ChangeShapes Go.WideShapes Go.ChangeAt Go.RowKit Go.Deep

/-- What a bed yields now. -/
def yNow (bs : Nat → List Int × Int) (i : Nat) : Int := yfor (yl bs i) (ag bs i)
/-- What a set of beds yields now. -/
def bsum (bs : Nat → List Int × Int) (n S : Nat) : Int := sumTo (fun i => if S.testBit i then yNow bs i else 0) n
def cfOk : Option (List Int) → List Int → Bool
  | none, _ => true
  | some L, x => lessL x L
/-- The first of the first K sets that is enough. -/
def cfTo (bs : Nat → List Int × Int) (n : Nat) (need : Int) : Nat → Option (List Int)
  | 0 => none
  | S + 1 => if need ≤ bsum bs n S ∧ cfOk (cfTo bs n need S) (selTo S.testBit n) = true then some (selTo S.testBit n) else cfTo bs n need S
theorem cfTo_succ (bs : Nat → List Int × Int) (n : Nat) (need : Int) (S : Nat) : cfTo bs n need (S + 1) = if need ≤ bsum bs n S ∧ cfOk (cfTo bs n need S) (selTo S.testBit n) = true then some (selTo S.testBit n) else cfTo bs n need S := rfl
theorem cfTo_sel (bs : Nat → List Int × Int) (n : Nat) (need : Int) : ∀ (K : Nat) (L : List Int), cfTo bs n need K = some L → ∃ S, S < K ∧ L = selTo (Nat.testBit S) n ∧ need ≤ bsum bs n S
  | 0, L, h => by cases h
  | S + 1, L, h => by
    rw [cfTo_succ] at h
    split at h
    · next hc => injection h with h; exact ⟨S, by omega, h.symm, hc.1⟩
    · obtain ⟨T, hT, h1, h2⟩ := cfTo_sel bs n need S L h
      exact ⟨T, by omega, h1, h2⟩
theorem yNow_bd {bs : Nat → List Int × Int} {n : Nat} (hok : okAll (bedAt bs) n 8 = true) {i : Nat} (hi : i < n) : 0 ≤ yNow bs i ∧ yNow bs i ≤ 10000 := by
  have h := bedOk_bd (okAll_get hok hi)
  exact yfor_bd h.2.2.2.2 h.1 h.2.2.1
theorem bsum_bd {bs : Nat → List Int × Int} {n : Nat} (hok : okAll (bedAt bs) n 8 = true) (p : Nat → Bool) (k : Nat) (hk : k ≤ n) : 0 ≤ sumTo (fun i => if p i then yNow bs i else 0) k ∧ sumTo (fun i => if p i then yNow bs i else 0) k ≤ 10000 * k :=
  sumTo_bd _ 10000 k fun j hj => by
    have := yNow_bd hok (by omega : j < n)
    split <;> omega
theorem sumOver_bd {f : Nat → Int} {L : List Int} {n : Nat} (hL : ∀ i, i < L.length → 0 ≤ gi L i ∧ gi L i < n) (hf : ∀ i, i < n → 0 ≤ f i ∧ f i ≤ 50000) : ∀ k : Nat, k ≤ L.length → 0 ≤ sumOver f (L.take k) ∧ sumOver f (L.take k) ≤ 50000 * k
  | 0, _ => by simp [sumOver]
  | k + 1, h => by
    have ih := sumOver_bd hL hf k (by omega)
    have h1 := hL k (by omega)
    have h2 := hf (gi L k).toNat (by omega)
    rw [take_snoc (by omega), sumOver_snoc]
    omega
/-- CutFor. -/
def cfL (bs : Nat → List Int × Int) (n : Nat) (need : Int) : List Int := if okAll (bedAt bs) n 8 && inR need 0 100000 then (cfTo bs n need (2 ^ n)).getD [] else []
def cfC (bs : Nat → List Int × Int) (n : Nat) (need : Int) : Int := if okAll (bedAt bs) n 8 then (if inR need 0 100000 then (if cfTo bs n need (2 ^ n) = none then 3 else 0) else 2) else 1
theorem keepB {wr w' : World} {p q : Addr} {x y : Value} (c0 : wr.cell? p = some x) (c1 : wr.cell? q = some y) (hp : p.block < wr.heap.size) (hq : q.block < wr.heap.size) (hb : Below wr.heap.size wr w') :
    w'.cell? p = some x ∧ w'.cell? q = some y ∧ Below wr.heap.size wr w' := ⟨(hb.cell hp).trans c0, (hb.cell hq).trans c1, hb⟩
/-- The best so far: nil, or a slice of the call's own. -/
def BestV (w : World) (base : Nat) (v : Value) : Option (List Int) → Prop
  | none => v = .slice none 0 0
  | some L => NN v ∧ Own w base v L

theorem BestV.on {w w' : World} {base : Nat} {v : Value} {o : Option (List Int)} (h : BestV w base v o) (hb : Below w.heap.size w w') : BestV w' base v o := by
  rcases o with _ | L
  · exact h
  · exact ⟨h.1, h.2.on hb⟩
theorem Own.some_ {w : World} {base : Nat} {v : Value} {L : List Int} (h : Own w base v ((some L).getD [])) : Own w base v L := h
set_option maxHeartbeats 1000000 in
theorem sum_s (A : Option Addr) (n c S : Nat) (bs : Nat → List Int × Int) (w : World) (h : Beds w w.heap.size A n bs) (hok : okAll (bedAt bs) n 8 = true) (hS : S < 1048576) :
    Calls Try.prog 78 #[.slice A n c, .int .i64 S] w fun e w' => e = .returned (.int .i64 (bsum bs n S)) ∧ Below w.heap.size w w' := by
  have hn := okAll_le hok
  go_enter Try.func78, Try.ntmps78
  go_wp2_with fail
  go_loopw [5, 6] (fun s i wr => ∃ k : Nat, k ≤ n ∧ i = .int .i64 k ∧ s = .int .i64 (sumTo (fun i => if S.testBit i then yNow bs i else 0) k) ∧ Hid (∃ q, wr = w.drewN q)) (fun _ i _ => n - (intOf i).toNat)
  case atStart => exact ⟨0, Nat.zero_le _, rfl, rfl, ⟨0, rfl⟩⟩
  case round =>
    obtain ⟨k, hk, rfl, rfl, HW⟩ := hrel
    have hb := bsum_bd hok S.testBit k hk
    have hB : Beds wr wr.heap.size A n bs := by obtain ⟨q, rfl⟩ := HW.out; exact h.drewN q
    by_cases hlt : k < n
    · have hA := bit_at S k hS
      have HS : Hid (sumTo (fun i => if S.testBit i then yNow bs i else 0) (k + 1) = sumTo (fun i => if S.testBit i then yNow bs i else 0) k + if S.testBit k then yNow bs k else 0) := sumTo_succ _ _
      generalize sumTo (fun i => if S.testBit i then yNow bs i else 0) k = s at *
      rcases h2' : S.testBit k with _ | _
      · rw [h2'] at hA
        simp only [Bool.false_eq_true, if_false] at hA
        go_wp2_with fail
        go_roundw
        case rel =>
          have e := HS.out
          rw [h2'] at e
          simp only [Bool.false_eq_true, if_false, Int.add_zero] at e
          exact ⟨k + 1, by omega, by go_num, by rw [e], HW⟩
        case measure => simp [intOf]; omega
      · rw [h2'] at hA
        simp only [if_true] at hA
        obtain ⟨b, off, A', m, c', rfl, hb', c0, c1, hm, hI⟩ := hB.at_ k hlt
        obtain rfl : m = (yl bs k).length := by have := hI.length; omega
        have hbo := bedOk_bd (okAll_get hok hlt)
        have g1 := hbo.1
        have g2 := hbo.2.1
        have g3 := hbo.2.2.1
        have g4 := hbo.2.2.2.1
        have hy := yNow_bd hok hlt
        have hy2 : Hid (yNow bs k = yfor (yl bs k) (ag bs k)) := rfl
        rw [hy2.out] at hy
        clear hbo
        have HWr : IntKind.i64.wrap (s + yfor (yl bs k) (ag bs k)) = s + yfor (yl bs k) (ag bs k) := IntWalk.i64_in _ (by omega)
        go_wp2_with fail
        go_quiet ((go_at_call 79; first | exact quietD (yfor_s _ _ _ _ (yl bs k) (ag bs k) _ (by simpa using c0) (hI.drewN _) g1 g2 g3 (by omega)) | exact quietD_add (yfor_s _ _ _ _ (yl bs k) (ag bs k) _ (by simpa using c0) (hI.drewN _) g1 g2 g3 (by omega))))
        clear HWr
        go_wp2_with fail
        go_roundw
        case rel =>
          have e := HS.out
          rw [h2'] at e
          simp only [if_true] at e
          exact ⟨k + 1, by omega, by go_num, by rw [e, hy2.out], drewN_ex HW.out _⟩
        case measure => simp [intOf]; omega
    · obtain rfl : k = n := by omega
      go_wp2
      go_ret
      refine ⟨rfl, ?_⟩
      obtain ⟨q, rfl⟩ := HW.out
      exact bdrewN (Below.refl _ _) _

set_option maxRecDepth 100000 in
set_option maxHeartbeats 4000000 in
theorem cut_i (A : Option Addr) (n c : Nat) (bs : Nat → List Int × Int) (need : Int) (w : World) (h : Beds w w.heap.size A n bs) (hs : Short bs n) :
    Calls Try.prog 27 #[.slice A n c, .int .i64 need] w fun e w' => ∃ v, e = .returned (.tuple #[v, .int .i64 (cfC bs n need)]) ∧ Own w' w.heap.size v (cfL bs n need) ∧ Below w.heap.size w w' := by
  rcases hok : okAll (bedAt bs) n 8 with _ | _
  · have HV : Hid (cfL bs n need = [] ∧ cfC bs n need = 1) := by show _ ∧ _; simp [cfL, cfC, hok]
    go_enter Try.func27, Try.ntmps27
    go_wp2_with fail
    refine (ValidBeds_i _ _ _ bs _ h hs).mono ?_
    rintro e w1 ⟨rfl, hb1⟩
    rw [hok]
    go_wp2
    go_ret2
    exact ⟨_, by rw [HV.out.2]; rfl, by rw [HV.out.1]; exact Own.nil _ _, hb1⟩
  · refine inR_split need 0 100000 (fun hr n1 n12 => ?_) (fun hr => ?_)
    · have hn := okAll_le hok
      have HV : Hid (cfL bs n need = (cfTo bs n need (2 ^ n)).getD [] ∧ cfC bs n need = if cfTo bs n need (2 ^ n) = none then 3 else 0) := by show _ ∧ _; simp [cfL, cfC, hok, hr]
      have hshl := shl_one n (by omega)
      have hp := pow_bd (n := n) (by omega)
      obtain ⟨K, hK⟩ : ∃ K : Nat, K = 2 ^ n := ⟨_, rfl⟩
      rw [← hK] at hshl hp HV
      have HK2 := Lib.hid hK
      clear hK
      have hnl := fun (x : World) (a : Option Addr) (p q : Nat) => Lib.run_eql_slice_nil (P := Try.prog) x 30 2 a p q 0 0 Try.underlying30
      go_enter Try.func27, Try.ntmps27
      go_wp2_with fail
      refine (ValidBeds_i _ _ _ bs _ h hs).mono ?_
      rintro e w1 ⟨rfl, hb1⟩
      rw [hok]
      go_wp2_with (first | (go_at_call 49; refine (within_c _ _ _ _).mono ?_; rintro e w' ⟨rfl, rfl⟩))
      rw [hshl]
      clear hshl
      go_loopw [6, 21] (fun b i wr => ∃ k : Nat, k ≤ K ∧ i = .int .i64 k ∧ Hid (BestV wr w.heap.size b (cfTo bs n need k)) ∧ Below w.heap.size w wr) (fun _ i _ => K - (intOf i).toNat)
      case atStart => exact ⟨0, Nat.zero_le _, rfl, rfl, hb1⟩
      case round =>
        obtain ⟨k, hk, rfl, HBV, hbel⟩ := hrel
        by_cases hlt : k < K
        · have hS : k < 2 ^ n := by rw [← HK2.out]; exact hlt
          have HBS := Lib.hid (cfTo_succ bs n need k)
          have hC := Cuts.sel (Nat.testBit k) n
          have hCl := hC.len
          have HCb := Lib.hid hC.bd
          have HSO := Lib.hid (sumOver_sel (yNow bs) (Nat.testBit k) n)
          clear hC
          have HX := Lib.hid hbel
          have hcs := hbel.size
          go_wp2_with fail
          refine (members_i k n (by omega) hS wr).mono ?_
          rintro e w2 ⟨v2, rfl, hn2, ho2, hb2⟩
          have HO2 := Lib.hid ho2
          have HN2 := Lib.hid hn2
          have HX2 := Lib.hid (btrans hbel hb2)
          obtain ⟨A2, cap2, rfl, i2, -⟩ := ho2.ints (fun z hz => by have := selTo_mem _ _ _ hz; omega)
          have HB2 := Lib.hid hb2
          clear hb2 ho2 hn2 hbel
          generalize hL : selTo (Nat.testBit k) n = L at *
          have HL := Lib.hid hL
          clear hL
          go_wp2_with fail
          go_loopw [9, 28] (fun s i wq => ∃ j : Nat, j ≤ L.length ∧ i = .int .i64 j ∧ s = .int .i64 (sumOver (yNow bs) (L.take j)) ∧ Below w2.heap.size w2 wq) (fun _ i _ => L.length - (intOf i).toNat)
          case atStart => exact ⟨0, Nat.zero_le _, rfl, rfl, Below.refl _ _⟩
          case round =>
            obtain ⟨j, hj, rfl, rfl, hbq⟩ := hrel
            have hsb := sumOver_bd (f := yNow bs) HCb.out (fun i hi => by have := yNow_bd hok hi; omega) j hj
            have HXq := Lib.hid (btrans HX2.out hbq)
            by_cases hjl : j < L.length
            · have hx := HCb.out j hjl
              have HSS : Hid (sumOver (yNow bs) (L.take (j + 1)) = sumOver (yNow bs) (L.take j) + yNow bs (gi L j).toNat) := by show _ = _; rw [take_snoc hjl, sumOver_snoc]
              obtain ⟨b2, off2, rfl, hb2', e0⟩ := (i2.on hbq).at1 hjl
              generalize sumOver (yNow bs) (L.take j) = s at *
              generalize gi L j = x at *
              obtain ⟨y, rfl⟩ := Int.eq_ofNat_of_zero_le hx.1
              have hyn : y < n := by omega
              obtain ⟨b, off, A', m, c', rfl, hb', c0, c1, hm, hI⟩ := (h.on HXq.out).at_ y hyn
              obtain rfl : m = (yl bs y).length := by have := hI.length; omega
              have hbo := bedOk_bd (okAll_get hok hyn)
              have g1 := hbo.1
              have g2 := hbo.2.1
              have g3 := hbo.2.2.1
              have g4 := hbo.2.2.2.1
              have hy := yNow_bd hok hyn
              have hy2 : Hid (yNow bs y = yfor (yl bs y) (ag bs y)) := rfl
              rw [hy2.out] at hy
              clear hbo
              have HWr : IntKind.i64.wrap (s + yfor (yl bs y) (ag bs y)) = s + yfor (yl bs y) (ag bs y) := IntWalk.i64_in _ (by omega)
              have HY := Lib.hid hI
              clear hI
              have hby : b < wr.heap.size := hb'
              go_wp2_with fail
              go_region_held3 (fun w' => w'.cell? ⟨b, off + y * 2, none⟩ = some (.slice A' (yl bs y).length c') ∧ w'.cell? ⟨b, off + y * 2 + 1, none⟩ = some (.int .i64 (ag bs y)) ∧ Below wr.heap.size wr w') (first | exact keepB c0 c1 hby hby (Below.refl _ _) | exact keepB c0 c1 hby hby (Below.refl _ _).drew | exact keepB c0 c1 hby hby (btrans (‹_ ∧ _ ∧ Below _ _ _›.2.2) ‹Below _ _ _›)) ((go_at_call 77; refine (yfor_i A' c' (yl bs y) (ag bs y) (ag bs y) _ (HY.out.on (‹_ ∧ _ ∧ Below wr.heap.size wr _›.2.2)) g1 g2 g3 (by omega)).mono ?_; rintro e wy ⟨rfl, hby2⟩))
              have HZ := Lib.hid (‹_ ∧ _ ∧ Below wr.heap.size wr wy›.2.2)
              clear hby2 HWr
              go_wp2_with fail
              go_roundw
              case rel =>
                have e := HSS.out
                rw [Int.toNat_natCast] at e
                exact ⟨j + 1, by omega, by go_num, by rw [e, hy2.out], btrans hbq HZ.out⟩
              case measure => simp [intOf]; omega
            · obtain rfl : j = L.length := by omega
              have HT : Hid (sumOver (yNow bs) (L.take L.length) = bsum bs n k) := by show _ = _; rw [List.take_length, HSO.out]; rfl
              rw [HT.out]
              rw [HT.out] at hsb
              have HBV2 := Lib.hid (HBV.out.on (btrans HB2.out hbq))
              have i4 := i2.on hbq
              have HO4 := Lib.hid (HO2.out.on hbq)
              clear HBV hbq i2 HO2
              have hl16 : L.length ≤ 16 := by omega
              by_cases q1 : need ≤ bsum bs n k
              · rcases hcf : cfTo bs n need k with _ | L0
                · have HE : Hid (cfTo bs n need (k + 1) = some L) := by
                    have e := HBS.out
                    rw [hcf, if_pos ⟨q1, rfl⟩] at e
                    exact e
                  have hv0 := HBV2.out
                  rw [hcf] at hv0
                  simp only [BestV] at hv0
                  subst hv0
                  clear hcf
                  go_wp2_with fail
                  go_roundw
                  case rel => exact ⟨k + 1, by omega, by go_num, by rw [HE.out]; exact ⟨HN2.out, HO4.out.base_le hcs⟩, HXq.out⟩
                  case measure => simp [intOf]; omega
                · have hv0 := HBV2.out
                  rw [hcf] at hv0
                  obtain ⟨hnn, hv0⟩ := hv0
                  obtain ⟨S0, -, hL0, -⟩ := cfTo_sel bs n need k L0 hcf
                  have hl0 := selTo_len (Nat.testBit S0) n
                  rw [← hL0] at hl0
                  have HW0 : Hid (∀ z ∈ L0, -9223372036854775808 ≤ z ∧ z ≤ 9223372036854775807) := fun z hz => by rw [hL0] at hz; have := selTo_mem _ _ _ hz; omega
                  obtain ⟨Ab, nb, cb, rfl⟩ := hnn
                  obtain ⟨A5, cap5, e5, i5, -⟩ := hv0.ints HW0.out
                  simp only [Value.slice.injEq] at e5
                  obtain ⟨rfl, rfl, rfl⟩ := e5
                  have HV0 := Lib.hid hv0
                  clear hL0 hv0
                  rcases q3 : lessL L L0 with _ | _
                  all_goals
                    have HE : Hid (cfTo bs n need (k + 1) = if lessL L L0 = true then some L else some L0) := by
                      have e := HBS.out
                      rw [hcf] at e
                      show _ = _
                      rw [e]
                      simp only [q1, cfOk, true_and]
                    rw [q3] at HE
                    clear hcf
                    go_wp2_with fail
                    (with_reducible refine (less_i A2 (some Ab) _ _ cap2 cb L L0 _ i4 i5 (by omega) (by omega)).mono ?_)
                    rintro e w4 ⟨rfl, rfl⟩
                    rw [q3]
                    go_wp2_with fail
                    go_roundw
                    case rel => exact ⟨k + 1, by omega, by go_num, by rw [HE.out]; first | exact ⟨HN2.out, HO4.out.base_le hcs⟩ | exact ⟨⟨_, _, _, rfl⟩, HV0.out⟩, HXq.out⟩
                    case measure => simp [intOf]; omega
              · have HE : Hid (cfTo bs n need (k + 1) = cfTo bs n need k) := by
                  have e := HBS.out
                  rw [if_neg (fun h => q1 h.1)] at e
                  exact e
                go_wp2_with fail
                go_roundw
                case rel => exact ⟨k + 1, by omega, by go_num, by rw [HE.out]; exact HBV2, HXq.out⟩
                case measure => simp [intOf]; omega
        · obtain rfl : k = K := by omega
          have hbv := HBV.out
          rcases hcf : cfTo bs n need k with _ | L0
          · rw [hcf] at hbv
            simp only [BestV] at hbv
            subst hbv
            have HE : Hid (cfL bs n need = [] ∧ cfC bs n need = 3) := by
              have e := HV.out
              rw [hcf] at e
              exact e
            clear hcf HV
            go_wp2
            go_ret2
            exact ⟨_, by rw [HE.out.2]; rfl, by rw [HE.out.1]; exact Own.nil _ _, hbel⟩
          · rw [hcf] at hbv
            obtain ⟨hnn, hv0⟩ := hbv
            obtain ⟨Ab, nb, cb, rfl⟩ := hnn
            have HV0 := Lib.hid hv0
            have HE : Hid (cfL bs n need = L0 ∧ cfC bs n need = 0) := by
              have e := HV.out
              rw [hcf] at e
              exact e
            clear hcf HV hv0
            go_wp2
            go_ret2
            exact ⟨_, by rw [HE.out.2]; rfl, by rw [HE.out.1]; exact HV0.out, hbel⟩
    · have HV : Hid (cfL bs n need = [] ∧ cfC bs n need = 2) := by show _ ∧ _; simp [cfL, cfC, hok, hr]
      go_enter Try.func27, Try.ntmps27
      go_wp2_with fail
      refine (ValidBeds_i _ _ _ bs _ h hs).mono ?_
      rintro e w1 ⟨rfl, hb1⟩
      rw [hok]
      go_wp2_with (first | (go_at_call 49; refine (within_c _ _ _ _).mono ?_; rintro e w' ⟨rfl, rfl⟩))
      go_ret2
      exact ⟨_, by rw [HV.out.2]; rfl, by rw [HV.out.1]; exact Own.nil _ _, hb1⟩
set_option maxRecDepth 100000 in
set_option maxHeartbeats 4000000 in
theorem cut_s (A : Option Addr) (n c : Nat) (bs : Nat → List Int × Int) (need : Int) (w : World) (h : Beds w w.heap.size A n bs) (hs : Short bs n) :
    Calls Try.prog 28 #[.slice A n c, .int .i64 need] w fun e w' => ∃ v, e = .returned (.tuple #[v, .int .i64 (cfC bs n need)]) ∧ Own w' w.heap.size v (cfL bs n need) ∧ Below w.heap.size w w' := by
  rcases hok : okAll (bedAt bs) n 8 with _ | _
  · have HV : Hid (cfL bs n need = [] ∧ cfC bs n need = 1) := by show _ ∧ _; simp [cfL, cfC, hok]
    go_enter Try.func28, Try.ntmps28
    go_wp2_with fail
    refine (l03Ok_c _ _ _ bs _ h hs).mono ?_
    rintro e w1 ⟨rfl, rfl⟩
    rw [hok]
    go_wp2
    go_ret2
    exact ⟨_, by rw [HV.out.2]; rfl, by rw [HV.out.1]; exact Own.nil _ _, Below.refl _ _⟩
  · refine inR_split need 0 100000 (fun hr n1 n12 => ?_) (fun hr => ?_)
    · have hn := okAll_le hok
      have HV : Hid (cfL bs n need = (cfTo bs n need (2 ^ n)).getD [] ∧ cfC bs n need = if cfTo bs n need (2 ^ n) = none then 3 else 0) := by show _ ∧ _; simp [cfL, cfC, hok, hr]
      have hshl := shl_one n (by omega)
      have hp := pow_bd (n := n) (by omega)
      obtain ⟨K, hK⟩ : ∃ K : Nat, K = 2 ^ n := ⟨_, rfl⟩
      rw [← hK] at hshl hp HV
      have HK2 := Lib.hid hK
      clear hK
      have hshl2 : IntKind.i64.wrap ((2 : Int) ^ n) = (K : Int) := by rw [← hshl]; exact IntWalk.i64_left _
      go_enter Try.func28, Try.ntmps28
      go_wp2_with fail
      refine (l03Ok_c _ _ _ bs _ h hs).mono ?_
      rintro e w1 ⟨rfl, rfl⟩
      rw [hok]
      go_wp2_with (first | (go_at_call 46; refine (l00In_c _ _ _ _).mono ?_; rintro e w' ⟨rfl, rfl⟩))
      go_loopw [6, 7, 8] (fun b f i wr => ∃ (k : Nat) (o : Bool), k ≤ K ∧ i = .int .i64 k ∧ f = .bool o ∧ Hid (o = (cfTo bs n need k).isSome ∧ Own wr w.heap.size b ((cfTo bs n need k).getD [])) ∧ Below w.heap.size w wr) (fun _ _ i _ => K - (intOf i).toNat)
      case atStart => exact ⟨0, false, Nat.zero_le _, rfl, rfl, ⟨rfl, Own.empty _ (Nat.le_refl _)⟩, balloc (Below.refl _ _) _⟩
      case round =>
        obtain ⟨k, o, hk, rfl, rfl, HBV, hbel⟩ := hrel
        by_cases hlt : k < K
        · have HBS := Lib.hid (cfTo_succ bs n need k)
          have hlt2 : (k : Int) < K := by omega
          have hcs := hbel.size
          go_wp2_with fail
          refine (members_s k n (by omega) (by omega) wr).mono ?_
          rintro e w2 ⟨v2, rfl, hn2, ho2, hb2⟩
          have HO2 := Lib.hid ho2
          obtain ⟨A2, cap2, rfl, i2, -⟩ := ho2.ints (fun z hz => by have := selTo_mem _ _ _ hz; omega)
          have HX2 := Lib.hid (btrans hbel hb2)
          have HBV2 := Lib.hid (HBV.out.2.on hb2)
          have HO := Lib.hid HBV.out.1
          have hll := selTo_len (Nat.testBit k) n
          have hbb := bsum_bd hok (Nat.testBit k) n (Nat.le_refl _)
          clear hb2 ho2 hn2 hbel HBV
          go_wp2_with fail
          refine (sum_s A n c k bs w2 (h.on HX2.out) hok (by omega)).mono ?_
          rintro e w3 ⟨rfl, hb3⟩
          have HX3 := Lib.hid (btrans HX2.out hb3)
          have HBV3 := Lib.hid (HBV2.out.on hb3)
          have HO3 := Lib.hid (HO2.out.on hb3)
          have i3 := i2.on hb3
          clear hb3 HX2 HBV2 HO2 i2 hbb
          generalize selTo (Nat.testBit k) n = L at *
          generalize hbq : bsum bs n k = sm at *
          clear hbq
          by_cases q1 : need ≤ sm
          · rcases hcf : cfTo bs n need k with _ | L0
            · have ho := HO.out
              rw [hcf] at ho
              obtain rfl : o = false := ho
              have HE : Hid (cfTo bs n need (k + 1) = some L) := by
                have e := HBS.out
                rw [hcf, if_pos ⟨q1, rfl⟩] at e
                exact e
              clear hcf
              go_wp2_with fail
              go_roundw
              case rel => exact ⟨k + 1, true, by omega, by go_num, rfl, by rw [HE.out]; exact ⟨rfl, HO3.out.base_le hcs⟩, HX3.out⟩
              case measure => simp [intOf]; omega
            · have ho := HO.out
              rw [hcf] at ho
              obtain rfl : o = true := ho
              have hv0 := HBV3.out
              rw [hcf] at hv0
              obtain ⟨S0, -, hL0, -⟩ := cfTo_sel bs n need k L0 hcf
              have hl0 := selTo_len (Nat.testBit S0) n
              rw [← hL0] at hl0
              have HW0 : Hid (∀ z ∈ L0, -9223372036854775808 ≤ z ∧ z ≤ 9223372036854775807) := fun z hz => by rw [hL0] at hz; have := selTo_mem _ _ _ hz; omega
              have hv1 := hv0.some_
              obtain ⟨A5, cap5, rfl, i5, -⟩ := hv1.ints HW0.out
              have HV0 : Hid (Own w3 w.heap.size _ L0) := hv0
              clear hL0 hv0 hv1
              rcases q3 : lessL L L0 with _ | _
              all_goals
                have HE : Hid (cfTo bs n need (k + 1) = if lessL L L0 = true then some L else some L0) := by
                  have e := HBS.out
                  rw [hcf] at e
                  show _ = _
                  rw [e]
                  simp only [q1, cfOk, true_and]
                rw [q3] at HE
                clear hcf
                go_wp2_with fail
                refine (less_s A2 A5 _ _ cap2 cap5 L L0 _ i3 i5 (by omega) (by omega)).mono ?_
                rintro e w4 ⟨rfl, hb4⟩
                rw [q3]
                have HX4 := Lib.hid (btrans HX3.out hb4)
                have HV4 := Lib.hid (HV0.out.on hb4)
                have HO4 := Lib.hid (HO3.out.on hb4)
                clear hb4
                go_wp2_with fail
                go_roundw
                case rel => exact ⟨k + 1, true, by omega, by go_num, rfl, by rw [HE.out]; first | exact ⟨rfl, HO4.out.base_le hcs⟩ | exact ⟨rfl, HV4.out⟩, HX4.out⟩
                case measure => simp [intOf]; omega
          · have HE : Hid (cfTo bs n need (k + 1) = cfTo bs n need k) := by
              have e := HBS.out
              rw [if_neg (fun h => q1 h.1)] at e
              exact e
            go_wp2_with fail
            go_roundw
            case rel => exact ⟨k + 1, o, by omega, by go_num, rfl, by rw [HE.out]; exact ⟨HO.out, HBV3.out⟩, HX3.out⟩
            case measure => simp [intOf]; omega
        · obtain rfl : k = K := by omega
          have hbv := HBV.out
          rcases hcf : cfTo bs n need k with _ | L0
          · rw [hcf] at hbv
            obtain rfl : o = false := hbv.1
            have HE : Hid (cfL bs n need = [] ∧ cfC bs n need = 3) := by
              have e := HV.out
              rw [hcf] at e
              exact e
            clear hcf HV hbv
            go_wp2
            go_ret2
            exact ⟨_, by rw [HE.out.2]; rfl, by rw [HE.out.1]; exact Own.nil _ _, hbel⟩
          · rw [hcf] at hbv
            obtain rfl : o = true := hbv.1
            have HV0 := Lib.hid hbv.2
            have HE : Hid (cfL bs n need = L0 ∧ cfC bs n need = 0) := by
              have e := HV.out
              rw [hcf] at e
              exact e
            clear hcf HV hbv
            go_wp2
            go_ret2
            exact ⟨_, by rw [HE.out.2]; rfl, by rw [HE.out.1]; exact HV0.out, hbel⟩
    · have HV : Hid (cfL bs n need = [] ∧ cfC bs n need = 2) := by show _ ∧ _; simp [cfL, cfC, hok, hr]
      go_enter Try.func28, Try.ntmps28
      go_wp2_with fail
      refine (l03Ok_c _ _ _ bs _ h hs).mono ?_
      rintro e w1 ⟨rfl, rfl⟩
      rw [hok]
      go_wp2_with (first | (go_at_call 46; refine (l00In_c _ _ _ _).mono ?_; rintro e w' ⟨rfl, rfl⟩))
      go_ret2
      exact ⟨_, by rw [HV.out.2]; rfl, by rw [HV.out.1]; exact Own.nil _ _, Below.refl _ _⟩

end Go.Proofs.Ytnlddplhaiceaaa
