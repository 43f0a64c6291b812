/-
  FitCart: the heaviest set of bundles that a cart bears.
  No conditions.
-/
import Derived.Test.YtgcpobondcnjcaaGreatDoorSets
import Derived.Test.YtgcpobondcnjcaaGreatDoorWeight
namespace Go.Proofs.YtgcpobondcnjcaaGreatDoor
open Go.ChangeShapes Go.WideShapes Go.ChangeAt Go.RowKit Go.Deep

def wOf (zs : List Int) (i : Nat) : Int := gi zs (i * 3 + 2)
def wsum (zs : List Int) (n S : Nat) : Int := sumTo (fun i => if S.testBit i then wOf zs i else 0) n
/-- The best of the first K sets. -/
def fcTo (zs : List Int) (n : Nat) (bears : Int) : Nat → List Int × Int
  | 0 => ([], 0)
  | S + 1 => if wsum zs n S ≤ bears ∧ ((fcTo zs n bears S).2 < wsum zs n S ∨ wsum zs n S = (fcTo zs n bears S).2 ∧ lessL (selTo S.testBit n) (fcTo zs n bears S).1 = true) then (selTo S.testBit n, wsum zs n S) else fcTo zs n bears S
theorem fcTo_succ (zs : List Int) (n : Nat) (bears : Int) (S : Nat) : fcTo zs n bears (S + 1) = if wsum zs n S ≤ bears ∧ ((fcTo zs n bears S).2 < wsum zs n S ∨ wsum zs n S = (fcTo zs n bears S).2 ∧ lessL (selTo S.testBit n) (fcTo zs n bears S).1 = true) then (selTo S.testBit n, wsum zs n S) else fcTo zs n bears S := rfl
theorem sel_none : ∀ m : Nat, selTo (fun _ => false) m = []
  | 0 => rfl
  | m + 1 => by rw [selTo_no rfl, sel_none m]
theorem fcTo_sel (zs : List Int) (n : Nat) (bears : Int) : ∀ K : Nat, ∃ p : Nat → Bool, (fcTo zs n bears K).1 = selTo p n
  | 0 => ⟨fun _ => false, by rw [sel_none]; rfl⟩
  | S + 1 => by
    rw [fcTo_succ]
    split
    · exact ⟨_, rfl⟩
    · exact fcTo_sel zs n bears S
theorem fcTo_len (zs : List Int) (n : Nat) (bears : Int) (K : Nat) : (fcTo zs n bears K).1.length ≤ n := by
  obtain ⟨p, hp⟩ := fcTo_sel zs n bears K
  rw [hp]; exact selTo_len p n
theorem fcTo_wf (zs : List Int) (n : Nat) (bears : Int) (K : Nat) (hn : n ≤ 1000) : ∀ z ∈ (fcTo zs n bears K).1, -9223372036854775808 ≤ z ∧ z ≤ 9223372036854775807 := by
  obtain ⟨p, hp⟩ := fcTo_sel zs n bears K
  rw [hp]
  intro z hz
  have := selTo_mem p n z hz
  omega
theorem wOf_bd {zs : List Int} {n : Nat} (hok : okAll (bunchAt zs) n 30 = true) {i : Nat} (hi : i < n) : 1 ≤ wOf zs i ∧ wOf zs i ≤ 50000 := by
  have h := okAll_get hok hi
  simp only [bunchAt, bunchOk, Bool.and_eq_true] at h
  exact inR_true h.2
theorem wsum_bd {zs : List Int} {n : Nat} (hok : okAll (bunchAt zs) n 30 = true) (p : Nat → Bool) (k : Nat) (hk : k ≤ n) : 0 ≤ sumTo (fun i => if p i then wOf zs i else 0) k ∧ sumTo (fun i => if p i then wOf zs i else 0) k ≤ 50000 * k :=
  sumTo_bd _ 50000 k fun j hj => by
    have := wOf_bd hok (by omega : j < n)
    split <;> omega
theorem pow_bd10 {n : Nat} (h : n ≤ 12) : 2 ^ n ≤ 4096 := Nat.le_trans (Nat.pow_le_pow_right (by omega) h) (by decide)
theorem shl_one10 (m : Nat) (h : m ≤ 12) : wrap64 ((2 : Int) ^ m) = ((2 ^ m : Nat) : Int) := by
  have h2 := pow_bd10 h
  have : ((2 : Int) ^ m) = ((2 ^ m : Nat) : Int) := by norm_cast
  rw [this]
  generalize 2 ^ m = z at *
  unfold wrap64; omega
theorem sumOver_bd3 {f : Nat → Int} {L : List Int} {n : Nat} (hL : ∀ i, i < L.length → 0 ≤ gi L i ∧ gi L i < n) (hf : ∀ i, i < n → 0 ≤ f i ∧ f i ≤ 50000) : ∀ k : Nat, k ≤ L.length → 0 ≤ sumOver f (L.take k) ∧ sumOver f (L.take k) ≤ 50000 * k
  | 0, _ => by simp [sumOver]
  | k + 1, h => by
    have ih := sumOver_bd3 hL hf k (by omega)
    have h1 := hL k (by omega)
    have h2 := hf (gi L k).toNat (by omega)
    rw [take_snoc (by omega), sumOver_snoc]
    omega
theorem Cuts3.sel (p : Nat → Bool) (n : Nat) : ∀ i, i < (selTo p n).length → 0 ≤ gi (selTo p n) i ∧ gi (selTo p n) i < n := fun _ hi => selTo_mem p n _ (mem_gi hi)
/-- FitCart. -/
def fcOk (zs : List Int) (n : Nat) (bears : Int) : Bool := okAll (bunchAt zs) n 30 && inR bears 0 1000000 && decide (n ≤ 10)
def fcL (zs : List Int) (n : Nat) (bears : Int) : List Int := if fcOk zs n bears then (fcTo zs n bears (2 ^ n)).1 else []
def fcV (zs : List Int) (n : Nat) (bears : Int) : Int := if fcOk zs n bears then (fcTo zs n bears (2 ^ n)).2 else 0
def fcC (zs : List Int) (n : Nat) (bears : Int) : Int := if okAll (bunchAt zs) n 30 then (if inR bears 0 1000000 then (if n ≤ 10 then 0 else 5) else 2) else 1
theorem fcL_bd (zs : List Int) (n : Nat) (bears : Int) (hn : n ≤ 1048576) : (fcL zs n bears).length ≤ 1048576 ∧ ∀ z ∈ fcL zs n bears, -9223372036854775808 ≤ z ∧ z ≤ 9223372036854775807 := by
  unfold fcL; split
  · next h =>
    simp only [fcOk, Bool.and_eq_true, decide_eq_true_eq] at h
    have h3 := fcTo_len zs n bears (2 ^ n)
    exact ⟨by omega, fcTo_wf zs n bears _ (by omega)⟩
  · exact ⟨by simp, by simp⟩
set_option maxRecDepth 100000 in
set_option maxHeartbeats 4000000 in
theorem cart_i (A : Option Addr) (n c : Nat) (zs : List Int) (bears : Int) (w : World) (h : Ints w w.heap.size 3 A n zs) (hn : n ≤ 1048576) :
    Calls Tryz.prog 12 #[.slice A n c, .int .i64 bears] w fun e w' => ∃ v, e = .returned (.tuple #[v, .int .i64 (fcV zs n bears), .int .i64 (fcC zs n bears)]) ∧ Own w' w.heap.size v (fcL zs n bears) ∧ Below w.heap.size w w' := by
  rcases hok : okAll (bunchAt zs) n 30 with _ | _
  · have HV : Hid (fcL zs n bears = [] ∧ fcV zs n bears = 0 ∧ fcC zs n bears = 1) := by show _ ∧ _ ∧ _; simp [fcL, fcV, fcC, fcOk, hok]
    go_enter Tryz.func12, Tryz.ntmps12
    go_wp2_with fail
    refine (ValidBunches_c _ _ _ zs _ h hn).mono ?_
    rintro e w1 ⟨rfl, hb1⟩
    rw [hok]
    go_wp2
    go_ret3
    exact ⟨_, by rw [HV.out.2.1, HV.out.2.2]; rfl, by rw [HV.out.1]; exact Own.nil _ _, hb1⟩
  · refine inR_split bears 0 1000000 (fun hr n1 n12 => ?_) (fun hr => ?_)
    · by_cases h10 : n ≤ 10
      · have HV : Hid (fcL zs n bears = (fcTo zs n bears (2 ^ n)).1 ∧ fcV zs n bears = (fcTo zs n bears (2 ^ n)).2 ∧ fcC zs n bears = 0) := by show _ ∧ _ ∧ _; simp [fcL, fcV, fcC, fcOk, hok, hr, h10]
        have hshl := shl_one10 n (by omega)
        have hp := pow_bd10 (n := n) (by omega)
        obtain ⟨K, hK⟩ : ∃ K : Nat, K = 2 ^ n := ⟨_, rfl⟩
        rw [← hK] at hshl hp HV
        have HK2 := Lib.hid hK
        clear hK
        have hshl2 : IntKind.i64.wrap ((2 : Int) ^ n) = (K : Int) := by rw [← hshl]; exact IntWalk.i64_left _
        have hnn : ¬ (10 : Int) < n := by omega
        go_enter Tryz.func12, Tryz.ntmps12
        go_wp2_with fail
        refine (ValidBunches_c _ _ _ zs _ h hn).mono ?_
        rintro e w1 ⟨rfl, hb1⟩
        rw [hok]
        go_wp2_with (first | (go_at_call 33; refine (within_c _ _ _ _).mono ?_; rintro e w' ⟨rfl, rfl⟩))
        try rw [hshl]
        try rw [hshl2]
        clear hshl hshl2
        go_loopw [7, 8, 27] (fun b s i wr => ∃ k : Nat, k ≤ K ∧ i = .int .i64 k ∧ s = .int .i64 (fcTo zs n bears k).2 ∧ Own wr w.heap.size b (fcTo zs n bears k).1 ∧ Below w.heap.size w wr) (fun _ _ i _ => K - (intOf i).toNat)
        case atStart => exact ⟨0, Nat.zero_le _, rfl, rfl, Own.empty _ hb1.size, balloc hb1 _⟩
        case round =>
          obtain ⟨k, hk, rfl, rfl, hown, hbel⟩ := hrel
          by_cases hlt : k < K
          · have hS : k < 2 ^ n := by rw [← HK2.out]; exact hlt
            have HBS := Lib.hid (fcTo_succ zs n bears k)
            have hC := Cuts3.sel (Nat.testBit k) n
            have HCb := Lib.hid hC
            have HSO := Lib.hid (sumOver_sel (wOf zs) (Nat.testBit k) n)
            have hfl := fcTo_len zs n bears k
            have HW := Lib.hid (fcTo_wf zs n bears k (by omega))
            generalize fcTo zs n bears k = bc at *
            obtain ⟨bL, bV⟩ := bc
            simp only at hown hfl
            have HH := Lib.hid hown
            have hcs := hbel.size
            clear hC hown
            go_wp2_with fail
            refine (members_i k n (by omega) hS wr).mono ?_
            rintro e w2 ⟨v2, rfl, hn2, ho2, hb2⟩
            have HO2 := Lib.hid ho2
            have HX2 := Lib.hid (btrans hbel hb2)
            obtain ⟨A2, cap2, rfl, i2, -⟩ := ho2.ints (fun z hz => by have := selTo_mem _ _ _ hz; omega)
            have HQ2 := Lib.hid (HH.out.on hb2)
            have hll := selTo_len (Nat.testBit k) n
            clear hb2 ho2 hn2 hbel HH
            generalize hL : selTo (Nat.testBit k) n = L at *
            have HL := Lib.hid hL
            clear hL
            go_wp2_with fail
            go_loopw [11, 34] (fun s i wq => ∃ j : Nat, j ≤ L.length ∧ i = .int .i64 j ∧ s = .int .i64 (sumOver (wOf zs) (L.take j)) ∧ Below w2.heap.size w2 wq) (fun _ i _ => L.length - (intOf i).toNat)
            case atStart => exact ⟨0, Nat.zero_le _, rfl, rfl, Below.refl _ _⟩
            case round =>
              obtain ⟨j, hj, rfl, rfl, hbq⟩ := hrel
              have hsb := sumOver_bd3 (f := wOf zs) HCb.out (fun i hi => by have := wOf_bd hok hi; omega) j hj
              have HXq := Lib.hid (btrans HX2.out hbq)
              by_cases hjl : j < L.length
              · have hx := HCb.out j hjl
                have HSS : Hid (sumOver (wOf zs) (L.take (j + 1)) = sumOver (wOf zs) (L.take j) + wOf zs (gi L j).toNat) := by show _ = _; rw [take_snoc hjl, sumOver_snoc]
                obtain ⟨b2, off2, rfl, hb2', e0⟩ := (i2.on hbq).at1 hjl
                generalize sumOver (wOf zs) (L.take j) = s at *
                generalize gi L j = x at *
                obtain ⟨y, rfl⟩ := Int.eq_ofNat_of_zero_le hx.1
                have hyn : y < n := by omega
                have hwy := wOf_bd hok hyn
                have HWy : Hid (wOf zs y = gi zs (y * 3 + 2)) := rfl
                rw [HWy.out] at hwy
                obtain ⟨b, off, rfl, hb', c0, c1, c2⟩ := (h.on HXq.out).at3 hyn
                go_wp2_with fail
                try (go_quiet (fail); go_wp2_with fail)
                go_roundw
                case rel =>
                  have e := HSS.out
                  rw [Int.toNat_natCast] at e
                  exact ⟨j + 1, by omega, by go_num, by rw [e, HWy.out], by repeat (first | exact hbq | apply bdrewN)⟩
                case measure => simp [intOf]; omega
              · obtain rfl : j = L.length := by omega
                have HT : Hid (sumOver (wOf zs) (L.take L.length) = wsum zs n k) := by show _ = _; rw [List.take_length, HSO.out]; rfl
                rw [HT.out]
                rw [HT.out] at hsb
                have HQ3 := Lib.hid (HQ2.out.on hbq)
                have i4 := i2.on hbq
                have HO4 := Lib.hid (HO2.out.on hbq)
                obtain ⟨A4, cap4, rfl, i5, -⟩ := HQ3.out.ints HW.out
                clear hbq i2 HO2 HQ2
                have hl16 : L.length ≤ 16 := by omega
                generalize hbq2 : wsum zs n k = sm at *
                clear hbq2
                by_cases q0 : sm ≤ bears
                · by_cases q1 : bV < sm
                  · have HE : Hid (fcTo zs n bears (k + 1) = (L, sm)) := by
                      have e := HBS.out
                      rw [if_pos ⟨q0, .inl q1⟩] at e
                      exact e
                    go_wp2_with fail
                    go_roundw
                    case rel => exact ⟨k + 1, by omega, by go_num, by rw [HE.out], by rw [HE.out]; exact HO4.out.base_le hcs, HXq.out⟩
                    case measure => simp [intOf]; omega
                  · rcases q2 : (sm == bV) with _ | _
                    · have HE : Hid (fcTo zs n bears (k + 1) = (bL, bV)) := by
                        have e := HBS.out
                        rw [if_neg (by
                          rintro ⟨_, h | ⟨h, _⟩⟩
                          · exact q1 h
                          · rw [beq_eq_false_iff_ne] at q2; exact q2 h)] at e
                        exact e
                      go_wp2_with fail
                      go_roundw
                      case rel => exact ⟨k + 1, by omega, by go_num, by rw [HE.out], by rw [HE.out]; exact HQ3.out, HXq.out⟩
                      case measure => simp [intOf]; omega
                    · rcases q3 : lessL L bL with _ | _
                      all_goals
                        have HE : Hid (fcTo zs n bears (k + 1) = if lessL L bL = true then (L, sm) else (bL, bV)) := by
                          have e := HBS.out
                          have hq : sm = bV := by simpa using q2
                          show _ = _
                          rw [e]
                          simp only [hq, Int.lt_irrefl, false_or, true_and, show bV ≤ bears by omega]
                        rw [q3] at HE
                        go_wp2_with fail
                        (with_reducible refine (less_i A2 A4 _ _ cap2 cap4 L bL _ i4 i5 (by omega) (by omega)).mono ?_)
                        rintro e w4 ⟨rfl, rfl⟩
                        rw [q3]
                        go_wp2_with fail
                        go_roundw
                        case rel => exact ⟨k + 1, by omega, by go_num, by rw [HE.out]; rfl, by rw [HE.out]; first | exact HQ3.out | exact HO4.out.base_le hcs, HXq.out⟩
                        case measure => simp [intOf]; omega
                · have HE : Hid (fcTo zs n bears (k + 1) = (bL, bV)) := by
                    have e := HBS.out
                    rw [if_neg (fun h => q0 h.1)] at e
                    exact e
                  go_wp2_with fail
                  go_roundw
                  case rel => exact ⟨k + 1, by omega, by go_num, by rw [HE.out], by rw [HE.out]; exact HQ3.out, HXq.out⟩
                  case measure => simp [intOf]; omega
          · obtain rfl : k = K := by omega
            go_wp2
            go_ret3
            have e := HK2.out
            subst e
            exact ⟨_, by rw [HV.out.2.1, HV.out.2.2]; rfl, by rw [HV.out.1]; exact hown, hbel⟩
      · have HV : Hid (fcL zs n bears = [] ∧ fcV zs n bears = 0 ∧ fcC zs n bears = 5) := by show _ ∧ _ ∧ _; simp [fcL, fcV, fcC, fcOk, hok, hr, h10]
        have hnn : (10 : Int) < n := by omega
        go_enter Tryz.func12, Tryz.ntmps12
        go_wp2_with fail
        refine (ValidBunches_c _ _ _ zs _ h hn).mono ?_
        rintro e w1 ⟨rfl, hb1⟩
        rw [hok]
        go_wp2_with (first | (go_at_call 33; refine (within_c _ _ _ _).mono ?_; rintro e w' ⟨rfl, rfl⟩))
        go_ret3
        exact ⟨_, by rw [HV.out.2.1, HV.out.2.2]; rfl, by rw [HV.out.1]; exact Own.nil _ _, hb1⟩
    · have HV : Hid (fcL zs n bears = [] ∧ fcV zs n bears = 0 ∧ fcC zs n bears = 2) := by show _ ∧ _ ∧ _; simp [fcL, fcV, fcC, fcOk, hok, hr]
      go_enter Tryz.func12, Tryz.ntmps12
      go_wp2_with fail
      refine (ValidBunches_c _ _ _ zs _ h hn).mono ?_
      rintro e w1 ⟨rfl, hb1⟩
      rw [hok]
      go_wp2_with (first | (go_at_call 33; refine (within_c _ _ _ _).mono ?_; rintro e w' ⟨rfl, rfl⟩))
      go_ret3
      exact ⟨_, by rw [HV.out.2.1, HV.out.2.2]; rfl, by rw [HV.out.1]; exact Own.nil _ _, hb1⟩

set_option maxRecDepth 100000 in
set_option maxHeartbeats 4000000 in
theorem cart_s (A : Option Addr) (n c : Nat) (zs : List Int) (bears : Int) (w : World) (h : Ints w w.heap.size 3 A n zs) (hn : n ≤ 1048576) :
    Calls Tryz.prog 13 #[.slice A n c, .int .i64 bears] w fun e w' => ∃ v, e = .returned (.tuple #[v, .int .i64 (fcV zs n bears), .int .i64 (fcC zs n bears)]) ∧ Own w' w.heap.size v (fcL zs n bears) ∧ Below w.heap.size w w' := by
  rcases hok : okAll (bunchAt zs) n 30 with _ | _
  · have HV : Hid (fcL zs n bears = [] ∧ fcV zs n bears = 0 ∧ fcC zs n bears = 1) := by show _ ∧ _ ∧ _; simp [fcL, fcV, fcC, fcOk, hok]
    go_enter Tryz.func13, Tryz.ntmps13
    go_wp2_with fail
    refine (l05Ok_c _ _ _ zs _ h hn).mono ?_
    rintro e w1 ⟨rfl, hb1⟩
    rw [hok]
    go_wp2
    go_ret3
    exact ⟨_, by rw [HV.out.2.1, HV.out.2.2]; rfl, by rw [HV.out.1]; exact Own.nil _ _, hb1⟩
  · refine inR_split bears 0 1000000 (fun hr n1 n12 => ?_) (fun hr => ?_)
    · by_cases h10 : n ≤ 10
      · have HV : Hid (fcL zs n bears = (fcTo zs n bears (2 ^ n)).1 ∧ fcV zs n bears = (fcTo zs n bears (2 ^ n)).2 ∧ fcC zs n bears = 0) := by show _ ∧ _ ∧ _; simp [fcL, fcV, fcC, fcOk, hok, hr, h10]
        have hshl := shl_one10 n (by omega)
        have hp := pow_bd10 (n := n) (by omega)
        obtain ⟨K, hK⟩ : ∃ K : Nat, K = 2 ^ n := ⟨_, rfl⟩
        rw [← hK] at hshl hp HV
        have HK2 := Lib.hid hK
        clear hK
        have hshl2 : IntKind.i64.wrap ((2 : Int) ^ n) = (K : Int) := by rw [← hshl]; exact IntWalk.i64_left _
        have hnn : ¬ (10 : Int) < n := by omega
        go_enter Tryz.func13, Tryz.ntmps13
        go_wp2_with fail
        refine (l05Ok_c _ _ _ zs _ h hn).mono ?_
        rintro e w1 ⟨rfl, hb1⟩
        rw [hok]
        go_wp2_with (first | (go_at_call 36; refine (l00In_c _ _ _ _).mono ?_; rintro e w' ⟨rfl, rfl⟩))
        go_loopw [7, 8, 9] (fun b s i wr => ∃ k : Nat, k ≤ K ∧ i = .int .i64 k ∧ s = .int .i64 (fcTo zs n bears k).2 ∧ Own wr w.heap.size b (fcTo zs n bears k).1 ∧ Below w.heap.size w wr) (fun _ _ i _ => K - (intOf i).toNat)
        case atStart => exact ⟨0, Nat.zero_le _, rfl, rfl, Own.empty _ hb1.size, balloc hb1 _⟩
        case round =>
          obtain ⟨k, hk, rfl, rfl, hown, hbel⟩ := hrel
          by_cases hlt : k < K
          · have hlt2 : (k : Int) < K := by omega
            have HBS := Lib.hid (fcTo_succ zs n bears k)
            have hfl := fcTo_len zs n bears k
            have HW := Lib.hid (fcTo_wf zs n bears k (by omega))
            generalize fcTo zs n bears k = bc at *
            obtain ⟨bL, bV⟩ := bc
            simp only at hown hfl
            have HH := Lib.hid hown
            have hcs := hbel.size
            have HX := Lib.hid hbel
            have hll := selTo_len (Nat.testBit k) n
            clear hown hbel
            obtain ⟨wo, rfl⟩ : ∃ wo : World, wo = wr := ⟨_, rfl⟩
            go_wp2_with fail
            go_loopw [10, 11] (fun s i wq => ∃ j : Nat, j ≤ n ∧ i = .int .i64 j ∧ s = .int .i64 (sumTo (fun i => if k.testBit i then wOf zs i else 0) j) ∧ Below wo.heap.size wo wq) (fun _ i _ => n - (intOf i).toNat)
            case atStart => exact ⟨0, Nat.zero_le _, rfl, rfl, Below.refl _ _⟩
            case round =>
              obtain ⟨j, hj, rfl, rfl, hbq⟩ := hrel
              have hb := wsum_bd hok (Nat.testBit k) j hj
              by_cases hjl : j < n
              · have hA := bit_at k j (by omega)
                have HSS : Hid (sumTo (fun i => if k.testBit i then wOf zs i else 0) (j + 1) = sumTo (fun i => if k.testBit i then wOf zs i else 0) j + if k.testBit j then wOf zs j else 0) := sumTo_succ _ _
                generalize sumTo (fun i => if k.testBit i then wOf zs i else 0) j = s at *
                rcases h2' : k.testBit j with _ | _
                · rw [h2'] at hA
                  simp only [Bool.false_eq_true, if_false] at hA
                  go_wp2_with fail
                  go_roundw
                  case rel =>
                    have e := HSS.out
                    rw [h2'] at e
                    simp only [Bool.false_eq_true, if_false, Int.add_zero] at e
                    exact ⟨j + 1, by omega, by go_num, by rw [e], hbq⟩
                  case measure => simp [intOf]; omega
                · rw [h2'] at hA
                  simp only [if_true] at hA
                  have hwy := wOf_bd hok hjl
                  have HWy : Hid (wOf zs j = gi zs (j * 3 + 2)) := rfl
                  rw [HWy.out] at hwy
                  obtain ⟨b, off, rfl, hb', c0, c1, c2⟩ := (h.on (btrans HX.out hbq)).at3 hjl
                  go_wp2_with fail
                  try (go_quiet (fail); go_wp2_with fail)
                  go_roundw
                  case rel =>
                    have e := HSS.out
                    rw [h2'] at e
                    simp only [if_true] at e
                    exact ⟨j + 1, by omega, by go_num, by rw [e, HWy.out], by repeat (first | exact hbq | apply bdrewN)⟩
                  case measure => simp [intOf]; omega
              · obtain rfl : j = n := by omega
                have HT : Hid (sumTo (fun i => if k.testBit i then wOf zs i else 0) j = wsum zs j k) := rfl
                rw [HT.out]
                rw [HT.out] at hb
                have HXq := Lib.hid (btrans HX.out hbq)
                have HQ3 := Lib.hid (HH.out.on hbq)
                have hsz := hbq.size
                clear hbq
                generalize hbq2 : wsum zs j k = sm at *
                clear hbq2
                by_cases q0 : sm ≤ bears
                · by_cases q1 : bV < sm
                  · have HE : Hid (fcTo zs j bears (k + 1) = (selTo (Nat.testBit k) j, sm)) := by
                      have e := HBS.out
                      rw [if_pos ⟨q0, .inl q1⟩] at e
                      exact e
                    have q1' : ¬ sm < bV := by omega
                    go_wp2_with fail
                    refine (members_s k j (by omega) (by omega) wr).mono ?_
                    rintro e w4 ⟨v4, rfl, hn4, ho4, hb4⟩
                    go_wp2_with fail
                    go_roundw
                    case rel => exact ⟨k + 1, by omega, by go_num, by rw [HE.out], by rw [HE.out]; exact ho4.base_le (by omega), btrans HXq.out hb4⟩
                    case measure => simp [intOf]; omega
                  · rcases q2 : (sm == bV) with _ | _
                    · have HE : Hid (fcTo zs j bears (k + 1) = (bL, bV)) := by
                        have e := HBS.out
                        rw [if_neg (by
                          rintro ⟨_, h | ⟨h, _⟩⟩
                          · exact q1 h
                          · rw [beq_eq_false_iff_ne] at q2; exact q2 h)] at e
                        exact e
                      have q2' : sm < bV := by rw [beq_eq_false_iff_ne] at q2; omega
                      go_wp2_with fail
                      go_roundw
                      case rel => exact ⟨k + 1, by omega, by go_num, by rw [HE.out], by rw [HE.out]; exact HQ3.out, HXq.out⟩
                      case measure => simp [intOf]; omega
                    · rcases q3 : lessL (selTo (Nat.testBit k) j) bL with _ | _
                      all_goals
                        have HE : Hid (fcTo zs j bears (k + 1) = if lessL (selTo (Nat.testBit k) j) bL = true then (selTo (Nat.testBit k) j, sm) else (bL, bV)) := by
                          have e := HBS.out
                          have hq : sm = bV := by simpa using q2
                          show _ = _
                          rw [e]
                          simp only [hq, Int.lt_irrefl, false_or, true_and, show bV ≤ bears by omega]
                        rw [q3] at HE
                        have hq' : sm = bV := by simpa using q2
                        have q2' : ¬ sm < bV := by omega
                        clear hq'
                        go_wp2_with fail
                        refine (members_s k j (by omega) (by omega) wr).mono ?_
                        rintro e w4 ⟨v4, rfl, hn4, ho4, hb4⟩
                        have HO4 := Lib.hid ho4
                        have HQ4 := Lib.hid (HQ3.out.on hb4)
                        obtain ⟨A2, cap2, rfl, i2, -⟩ := ho4.ints (fun z hz => by have := selTo_mem _ _ _ hz; omega)
                        obtain ⟨A4, cap4, rfl, i4, -⟩ := HQ4.out.ints HW.out
                        go_wp2_with fail
                        (with_reducible refine (less_s A2 A4 _ _ cap2 cap4 (selTo (Nat.testBit k) j) bL _ i2 i4 (by omega) (by omega)).mono ?_)
                        rintro e w5 ⟨rfl, hb5⟩
                        rw [q3]
                        have HB5 := Lib.hid (btrans hb4 hb5)
                        have HO5 := Lib.hid (HO4.out.on hb5)
                        have HQ5 := Lib.hid (HQ4.out.on hb5)
                        clear hb4 hb5 ho4
                        go_wp2_with fail
                        go_roundw
                        case rel => exact ⟨k + 1, by omega, by go_num, by rw [HE.out]; rfl, by rw [HE.out]; first | exact HQ5.out | exact HO5.out.base_le (by omega), btrans HXq.out HB5.out⟩
                        case measure => simp [intOf]; omega
                · have HE : Hid (fcTo zs j bears (k + 1) = (bL, bV)) := by
                    have e := HBS.out
                    rw [if_neg (fun h => q0 h.1)] at e
                    exact e
                  go_wp2_with fail
                  go_roundw
                  case rel => exact ⟨k + 1, by omega, by go_num, by rw [HE.out], by rw [HE.out]; exact HQ3.out, HXq.out⟩
                  case measure => simp [intOf]; omega
          · obtain rfl : k = K := by omega
            go_wp2
            go_ret3
            have e := HK2.out
            subst e
            exact ⟨_, by rw [HV.out.2.1, HV.out.2.2]; rfl, by rw [HV.out.1]; exact hown, hbel⟩
      · have HV : Hid (fcL zs n bears = [] ∧ fcV zs n bears = 0 ∧ fcC zs n bears = 5) := by show _ ∧ _ ∧ _; simp [fcL, fcV, fcC, fcOk, hok, hr, h10]
        have hnn : (10 : Int) < n := by omega
        go_enter Tryz.func13, Tryz.ntmps13
        go_wp2_with fail
        refine (l05Ok_c _ _ _ zs _ h hn).mono ?_
        rintro e w1 ⟨rfl, hb1⟩
        rw [hok]
        go_wp2_with (first | (go_at_call 36; refine (l00In_c _ _ _ _).mono ?_; rintro e w' ⟨rfl, rfl⟩))
        go_ret3
        exact ⟨_, by rw [HV.out.2.1, HV.out.2.2]; rfl, by rw [HV.out.1]; exact Own.nil _ _, hb1⟩
    · have HV : Hid (fcL zs n bears = [] ∧ fcV zs n bears = 0 ∧ fcC zs n bears = 2) := by show _ ∧ _ ∧ _; simp [fcL, fcV, fcC, fcOk, hok, hr]
      go_enter Tryz.func13, Tryz.ntmps13
      go_wp2_with fail
      refine (l05Ok_c _ _ _ zs _ h hn).mono ?_
      rintro e w1 ⟨rfl, hb1⟩
      rw [hok]
      go_wp2_with (first | (go_at_call 36; refine (l00In_c _ _ _ _).mono ?_; rintro e w' ⟨rfl, rfl⟩))
      go_ret3
      exact ⟨_, by rw [HV.out.2.1, HV.out.2.2]; rfl, by rw [HV.out.1]; exact Own.nil _ _, hb1⟩

end Go.Proofs.YtgcpobondcnjcaaGreatDoor
