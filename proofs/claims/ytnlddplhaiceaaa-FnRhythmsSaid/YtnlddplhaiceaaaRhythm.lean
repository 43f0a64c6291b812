/-
  BestRhythm: what it answers.
  No conditions.
-/
import Derived.Test.YtnlddplhaiceaaaBedOk
import Derived.Test.YtnlddplhaiceaaaFrac
import Derived.Deep.RegionHeld3
namespace Go.Proofs.Ytnlddplhaiceaaa
open Go.ChangeShapes Go.WideShapes Go.ChangeAt Go.RowKit Go.Deep

/-- The best number of years of 1 to k. -/
def rhTo (ys : List Int) : Nat → Nat
  | 0 => 1
  | k + 1 => if yfor ys (rhTo ys k) * ((k + 1 : Nat) : Int) < yfor ys ((k + 1 : Nat) : Int) * (rhTo ys k : Int) then k + 1 else rhTo ys k
theorem rhTo_bd (ys : List Int) : ∀ k : Nat, 1 ≤ rhTo ys k ∧ rhTo ys k ≤ max 1 k
  | 0 => by simp [rhTo]
  | k + 1 => by
    have := rhTo_bd ys k
    simp only [rhTo]; split <;> omega
theorem rhTo_one (ys : List Int) : rhTo ys 1 = 1 := by simp [rhTo]
def rhK (ys : List Int) (a : Int) : Int := if bedOk ys a then rhTo ys ys.length else 0
def rhN (ys : List Int) (a : Int) : Int := if bedOk ys a then frN (yfor ys (rhTo ys ys.length)) (rhTo ys ys.length) else 0
def rhD (ys : List Int) (a : Int) : Int := if bedOk ys a then frD (yfor ys (rhTo ys ys.length)) (rhTo ys ys.length) else 0
def rhC (ys : List Int) (a : Int) : Int := if bedOk ys a then 0 else 1
theorem yfor_in {ys : List Int} {k : Nat} (h0 : 1 ≤ k) (h1 : k ≤ ys.length) : yfor ys k = gi ys (k - 1) := by
  rw [yfor, if_neg (by omega), if_pos (by omega)]; rfl

theorem rhTo_step {ys : List Int} {k : Nat} (h0 : 2 ≤ k) (h1 : k ≤ ys.length) : rhTo ys k = if gi ys (rhTo ys (k - 1) - 1) * (k : Int) < gi ys (k - 1) * (rhTo ys (k - 1) : Int) then k else rhTo ys (k - 1) := by
  have hb := rhTo_bd ys (k - 1)
  obtain ⟨m, rfl⟩ : ∃ m, k = m + 1 := ⟨k - 1, by omega⟩
  simp only [Nat.add_sub_cancel] at hb ⊢
  conv => lhs; unfold rhTo
  rw [yfor_in (by omega) (by omega), yfor_in (by omega) h1, Nat.add_sub_cancel]
theorem mul_in {a b m n : Int} (h0 : 0 ≤ a) (h1 : a ≤ m) (h2 : 0 ≤ b) (h3 : b ≤ n) : 0 ≤ a * b ∧ a * b ≤ m * n :=
  ⟨Int.mul_nonneg h0 h2, Int.mul_le_mul h1 h3 h2 (by omega)⟩
/-- The bed and the fraction of a call of BestRhythm, in memory of its own. -/
def RhS (A : Option Addr) (c : Nat) (ys : List Int) (a : Int) (w wr : World) : Prop :=
  Blk wr w.heap.size 41 #[.slice A ys.length c, .int .i64 a] ∧ Blk wr (w.heap.size + 1) 56 #[.int .i64 0, .int .i64 0] ∧ Below w.heap.size w wr
theorem RhS.start (A : Option Addr) (c : Nat) (ys : List Int) (a : Int) (w : World) :
    RhS A c ys a w ((w.alloc (.cells #[.slice A ys.length c, .int .i64 a] 41)).alloc (.cells #[.int .i64 0, .int .i64 0] 56)) :=
  ⟨(Blk.new w _ _).alloc _, Blk.new1 w _ _ _, balloc (balloc (Below.refl _ _) _) _⟩
theorem RhS.on {A : Option Addr} {c : Nat} {ys : List Int} {a : Int} {w wr w' : World} (h : RhS A c ys a w wr) (hb : Below wr.heap.size wr w') : RhS A c ys a w w' :=
  ⟨h.1.on hb, h.2.1.on hb, btrans h.2.2 hb⟩
theorem RhS.drewN {A : Option Addr} {c : Nat} {ys : List Int} {a : Int} {w wr : World} (h : RhS A c ys a w wr) (m : Nat) : RhS A c ys a w (wr.drewN m) := h.on (bdrewN (Below.refl _ _) _)

theorem keepR {A : Option Addr} {c : Nat} {ys : List Int} {a : Int} {w wr w' : World} (h : RhS A c ys a w wr) (hb : Below wr.heap.size wr w') :
    w'.cell? ⟨w.heap.size, 0, none⟩ = some (.slice A ys.length c) ∧ w'.cell? ⟨w.heap.size, 1, none⟩ = some (.int .i64 a) ∧ RhS A c ys a w w' := by
  have k := (h.on hb).1
  have c0 := k.cell 0
  have c1 := k.cell 1
  simp at c0 c1
  exact ⟨c0, c1, h.on hb⟩
set_option maxHeartbeats 2000000 in
theorem rhythm_s (A : Option Addr) (c : Nat) (ys : List Int) (a : Int) (w : World) (hI : Ints w w.heap.size 1 A ys.length ys) (hn : ys.length ≤ 1048576) :
    Calls Try.prog 37 #[.agg #[.slice A ys.length c, .int .i64 a]] w fun e w' => e = .returned (.tuple #[.int .i64 (rhK ys a), .agg #[.int .i64 (rhN ys a), .int .i64 (rhD ys a)], .int .i64 (rhC ys a)]) ∧ Below w.heap.size w w' := by
  have hRS := RhS.start A c ys a w
  have hJ := hI.on hRS.2.2
  have HR := Lib.hid hRS
  clear hRS
  rcases hok : bedOk ys a with _ | _
  · have HV : Hid (rhK ys a = 0 ∧ rhN ys a = 0 ∧ rhD ys a = 0 ∧ rhC ys a = 1) := by show _ ∧ _ ∧ _ ∧ _; simp [rhK, rhN, rhD, rhC, hok]
    go_enter Try.func37, Try.ntmps37
    go_wp2_with fail
    refine (bedOk_s w.heap.size 0 A c ys a _ (by simp) (by simp) hJ hn).mono ?_
    rintro e w1 ⟨rfl, rfl⟩
    rw [hok]
    go_wp2_with fail
    exact bodyPost_ret (v := .tuple #[.int .i64 (rhK ys a), .agg #[.int .i64 (rhN ys a), .int .i64 (rhD ys a)], .int .i64 (rhC ys a)]) (by simp [results, Try.results37, go_sem, HV.out]) rfl ⟨rfl, HR.out.2.2⟩
  · have HV : Hid (rhK ys a = rhTo ys ys.length ∧ rhN ys a = frN (yfor ys (rhTo ys ys.length)) (rhTo ys ys.length) ∧ rhD ys a = frD (yfor ys (rhTo ys ys.length)) (rhTo ys ys.length) ∧ rhC ys a = 0) := by show _ ∧ _ ∧ _ ∧ _; simp [rhK, rhN, rhD, rhC, hok]
    obtain ⟨h1, h2, h3, h4, h5⟩ := bedOk_bd hok
    have HY := Lib.hid h5
    clear h5
    go_enter Try.func37, Try.ntmps37
    go_wp2_with fail
    refine (bedOk_s w.heap.size 0 A c ys a _ (by simp) (by simp) hJ hn).mono ?_
    rintro e w1 ⟨rfl, rfl⟩
    rw [hok]
    go_wp2_with fail
    go_loopw [5, 6] (fun q i wr => ∃ k : Nat, 2 ≤ k ∧ k ≤ ys.length + 1 ∧ i = .int .i64 k ∧ q = .int .i64 (rhTo ys (k - 1)) ∧ RhS A c ys a w wr) (fun _ i _ => ys.length + 1 - (intOf i).toNat)
    case atStart => exact ⟨2, by omega, by omega, rfl, by rw [show 2 - 1 = 1 from rfl, rhTo_one]; rfl, HR.out⟩
    case round =>
      obtain ⟨k, hk0, hk, rfl, rfl, hR⟩ := hrel
      have hrb := rhTo_bd ys (k - 1)
      have hI1 := hI.on hR.2.2
      have K := hR.1
      have Kl := K.lt
      have Kc0 := K.cell 0
      have Kf0 := K.frozen 0
      have Kc1 := K.cell 1
      have Kf1 := K.frozen 1
      simp at Kc0 Kc1
      have KH := Lib.hid K
      clear K
      have F := hR.2.1
      have Fl := F.lt
      have Fc0 := F.cell 0
      have Ff0 := F.frozen 0
      have Fc1 := F.cell 1
      have Ff1 := F.frozen 1
      simp at Fc0 Fc1
      have FH := Lib.hid F
      clear F
      have HR1 := Lib.hid hR
      clear hR
      by_cases hlt : k ≤ ys.length
      · have HQ : Hid (rhTo ys k = if gi ys (rhTo ys (k - 1) - 1) * (k : Int) < gi ys (k - 1) * (rhTo ys (k - 1) : Int) then k else rhTo ys (k - 1)) := rhTo_step hk0 hlt
        generalize rhTo ys (k - 1) = r at *
        obtain ⟨b, off, rfl, hb, d0⟩ := hI1.at1 (i := k - 1) (by omega)
        obtain ⟨b', off', e', -, d1⟩ := hI1.at1 (i := r - 1) (by omega)
        obtain ⟨rfl, rfl⟩ : b = b' ∧ off = off' := by simpa using e'
        clear e'
        have y1 := HY.out (k - 1) (by omega)
        have y2 := HY.out (r - 1) (by omega)
        have p1 := mul_in (a := gi ys (k - 1)) (b := (r : Int)) (m := 10000) (n := 5) y1.1 y1.2 (by omega) (by omega)
        have p2 := mul_in (a := gi ys (r - 1)) (b := (k : Int)) (m := 10000) (n := 5) y2.1 y2.2 (by omega) (by omega)
        have hn1 : ((k : Int) - 1).toNat = k - 1 := by omega
        have hn2 : ((r : Int) - 1).toNat = r - 1 := by omega
        have hp1 : (0 : Int) ≤ (k : Int) - 1 := by omega
        have hp2 : (0 : Int) ≤ (r : Int) - 1 := by omega
        have hq1 : (k : Int) - 1 < ys.length := by omega
        have hq2 : (r : Int) - 1 < ys.length := by omega
        have HW1 : IntKind.i64.wrap ((k : Int) - 1) = (k : Int) - 1 := IntWalk.i64_in _ (by omega)
        have HW2 : IntKind.i64.wrap ((r : Int) - 1) = (r : Int) - 1 := IntWalk.i64_in _ (by omega)
        have HW3 : IntKind.i64.wrap (gi ys (k - 1) * (r : Int)) = gi ys (k - 1) * (r : Int) := IntWalk.i64_in _ (by omega)
        have HW4 : IntKind.i64.wrap (gi ys (r - 1) * (k : Int)) = gi ys (r - 1) * (k : Int) := IntWalk.i64_in _ (by omega)
        by_cases hq : gi ys (r - 1) * (k : Int) < gi ys (k - 1) * (r : Int)
        all_goals
          go_wp2_with fail
          go_quiet (fail)
          clear HW1 HW2 HW3 HW4 hn1 hn2
          go_wp2_with fail
          go_roundw
          case rel =>
            have e := HQ.out
            first | rw [if_pos hq] at e | rw [if_neg (by omega)] at e
            exact ⟨k + 1, by omega, by omega, by go_num, by rw [Nat.add_sub_cancel, e], HR1.out.drewN _⟩
          case measure => simp [intOf]; omega
      · obtain rfl : k = ys.length + 1 := by omega
        simp only [Nat.add_sub_cancel] at *
        have y2 := HY.out (rhTo ys ys.length - 1) (by omega)
        have HZ : Hid (yfor ys (rhTo ys ys.length) = gi ys (rhTo ys ys.length - 1)) := yfor_in (by omega) (by omega)
        obtain ⟨b, off, rfl, hb, d0⟩ := hI1.at1 (i := rhTo ys ys.length - 1) (by omega)
        have hn2 : ((rhTo ys ys.length : Int) - 1).toNat = rhTo ys ys.length - 1 := by omega
        clear hn2
        go_wp2_with fail
        refine (fr_s _ _ _ y2.1 (by omega) (by omega) (by omega)).mono ?_
        rintro e w1 ⟨rfl, hb1⟩
        have hR1 := HR1.out.on hb1
        have G := hR1.2.1
        have Gl := G.lt
        have Gc0 := G.cell 0
        have Gf0 := G.frozen 0
        have Gc1 := G.cell 1
        have Gf1 := G.frozen 1
        simp at Gc0 Gc1
        have GH := Lib.hid G
        clear G
        have HR2 := Lib.hid hR1
        clear hR1 hb1
        go_wp2_with fail
        refine bodyPost_ret (v := .tuple #[.int .i64 (rhK ys a), .agg #[.int .i64 (rhN ys a), .int .i64 (rhD ys a)], .int .i64 (rhC ys a)]) (by simp [results, Try.results37, go_sem, HV.out, HZ.out, Gc0, Gc1]) rfl ⟨rfl, ?_⟩
        exact bset (bset HR2.out.2.2 (by omega) _) (by omega) _

set_option maxHeartbeats 2000000 in
theorem rhythm_i (A : Option Addr) (c : Nat) (ys : List Int) (a : Int) (w : World) (hI : Ints w w.heap.size 1 A ys.length ys) (hn : ys.length ≤ 1048576) :
    Calls Try.prog 36 #[.agg #[.slice A ys.length c, .int .i64 a]] w fun e w' => e = .returned (.tuple #[.int .i64 (rhK ys a), .agg #[.int .i64 (rhN ys a), .int .i64 (rhD ys a)], .int .i64 (rhC ys a)]) ∧ Below w.heap.size w w' := by
  have hRS := RhS.start A c ys a w
  have hJ := hI.on hRS.2.2
  have HR := Lib.hid hRS
  clear hRS
  rcases hok : bedOk ys a with _ | _
  · have HV : Hid (rhK ys a = 0 ∧ rhN ys a = 0 ∧ rhD ys a = 0 ∧ rhC ys a = 1) := by show _ ∧ _ ∧ _ ∧ _; simp [rhK, rhN, rhD, rhC, hok]
    go_enter Try.func36, Try.ntmps36
    go_wp2_with fail
    refine (bedOk_i A c ys a _ hJ hn).mono ?_
    rintro e w1 ⟨rfl, hb1⟩
    rw [hok]
    have F := (HR.out.on hb1).2.1
    have Fl := F.lt
    have Fc0 := F.cell 0
    have Ff0 := F.frozen 0
    have Fc1 := F.cell 1
    have Ff1 := F.frozen 1
    simp at Fc0 Fc1
    have FH := Lib.hid F
    clear F
    have HR1 := Lib.hid (HR.out.on hb1)
    clear hb1
    go_wp2_with fail
    refine bodyPost_ret (v := .tuple #[.int .i64 (rhK ys a), .agg #[.int .i64 (rhN ys a), .int .i64 (rhD ys a)], .int .i64 (rhC ys a)]) (by simp [results, Try.results36, go_sem, HV.out, Fc0, Fc1]) rfl ⟨rfl, ?_⟩
    exact bset (bset HR1.out.2.2 (by omega) _) (by omega) _
  · have HV : Hid (rhK ys a = rhTo ys ys.length ∧ rhN ys a = frN (yfor ys (rhTo ys ys.length)) (rhTo ys ys.length) ∧ rhD ys a = frD (yfor ys (rhTo ys ys.length)) (rhTo ys ys.length) ∧ rhC ys a = 0) := by show _ ∧ _ ∧ _ ∧ _; simp [rhK, rhN, rhD, rhC, hok]
    obtain ⟨h1, h2, h3, h4, h5⟩ := bedOk_bd hok
    have HY := Lib.hid h5
    clear h5
    go_enter Try.func36, Try.ntmps36
    go_wp2_with fail
    refine (bedOk_i A c ys a _ hJ hn).mono ?_
    rintro e w1 ⟨rfl, hb1⟩
    rw [hok]
    have K := (HR.out.on hb1).1
    have Kl := K.lt
    have Kc0 := K.cell 0
    have Kf0 := K.frozen 0
    have Kc1 := K.cell 1
    have Kf1 := K.frozen 1
    simp at Kc0 Kc1
    have KH := Lib.hid K
    clear K
    have HR1 := Lib.hid (HR.out.on hb1)
    clear hb1
    go_wp2_with fail
    go_loopw [5, 15] (fun q i wr => ∃ k : Nat, k ≤ ys.length + 1 ∧ i = .int .i64 k ∧ q = .int .i64 (rhTo ys (k - 1)) ∧ RhS A c ys a w wr) (fun _ i _ => ys.length + 1 - (intOf i).toNat)
    case atStart => exact ⟨0, by omega, rfl, rfl, HR1.out⟩
    case round =>
      obtain ⟨k, hk, rfl, rfl, hR⟩ := hrel
      have hrb := rhTo_bd ys (k - 1)
      have hI1 := hI.on hR.2.2
      have K := hR.1
      have Kl := K.lt
      have Kc0 := K.cell 0
      have Kf0 := K.frozen 0
      have Kc1 := K.cell 1
      have Kf1 := K.frozen 1
      simp at Kc0 Kc1
      have KH := Lib.hid K
      clear K
      have F := hR.2.1
      have Fl := F.lt
      have Fc0 := F.cell 0
      have Ff0 := F.frozen 0
      have Fc1 := F.cell 1
      have Ff1 := F.frozen 1
      simp at Fc0 Fc1
      have FH := Lib.hid F
      clear F
      have HR2 := Lib.hid hR
      clear hR
      by_cases hlt : k ≤ ys.length
      · have hlt' : (k : Int) < (ys.length : Int) + 1 := by omega
        by_cases h0 : k = 0
        · subst h0
          go_wp2_with fail
          go_quiet (fail)
          go_wp2_with fail
          go_roundw
          case rel => exact ⟨1, by omega, rfl, rfl, HR2.out.drewN _⟩
          case measure => simp [intOf]
        · have HQ : Hid (rhTo ys k = if yfor ys (rhTo ys (k - 1)) * (k : Int) < yfor ys k * (rhTo ys (k - 1) : Int) then k else rhTo ys (k - 1)) := by
            show _ = _
            obtain ⟨m, rfl⟩ : ∃ m, k = m + 1 := ⟨k - 1, by omega⟩
            rfl
          have hk0 : (0 : Int) < (k : Int) := by omega
          have hk0' : 0 < k := by omega
          have hd0 : decide (0 < k) = true := by simpa using hk0'
          generalize rhTo ys (k - 1) = r at *
          have y1 := yfor_bd (k := (k : Int)) HY.out h1 (by omega)
          have y2 := yfor_bd (k := (r : Int)) HY.out h1 (by omega)
          have p1 := mul_in (a := yfor ys k) (b := (r : Int)) (m := 10000) (n := 5) y1.1 y1.2 (by omega) (by omega)
          have p2 := mul_in (a := yfor ys r) (b := (k : Int)) (m := 10000) (n := 5) y2.1 y2.2 (by omega) (by omega)
          have HW3 : IntKind.i64.wrap (yfor ys k * (r : Int)) = yfor ys k * (r : Int) := IntWalk.i64_in _ (by omega)
          have HW4 : IntKind.i64.wrap (yfor ys r * (k : Int)) = yfor ys r * (k : Int) := IntWalk.i64_in _ (by omega)
          by_cases hq : yfor ys r * (k : Int) < yfor ys k * (r : Int)
          all_goals
            go_wp2_with fail
            go_region_held3 (fun w' => w'.cell? ⟨w.heap.size, 0, none⟩ = some (.slice A ys.length c) ∧ w'.cell? ⟨w.heap.size, 1, none⟩ = some (.int .i64 a) ∧ RhS A c ys a w w') (first | exact keepR HR2.out (Below.refl _ _) | exact keepR HR2.out (Below.refl _ _).drew | exact keepR (‹_ ∧ _ ∧ RhS A c ys a w _›.2.2) ‹Below _ _ _›) ((go_at_call 77; refine (yfor_i A c ys a _ _ (hI.on (‹_ ∧ _ ∧ RhS A c ys a w _›.2.2.2.2)) h1 h2 (by omega) (by omega)).mono ?_; rintro e w2 ⟨rfl, hb2⟩))
            have hS := ‹_ ∧ _ ∧ RhS A c ys a w w2›
            have HS := Lib.hid hS.2.2
            clear hS HW3 HW4
            go_wp2_with fail
            go_roundw
            case rel =>
              have e := HQ.out
              first | rw [if_pos hq] at e | rw [if_neg (by omega)] at e
              exact ⟨k + 1, by omega, by go_num, by rw [Nat.add_sub_cancel, e], HS.out⟩
            case measure => simp [intOf]; omega
      · obtain rfl : k = ys.length + 1 := by omega
        simp only [Nat.add_sub_cancel] at *
        have y2 := yfor_bd (k := (rhTo ys ys.length : Int)) HY.out h1 (by omega)
        go_wp2_with fail
        refine (yfor_i A c ys a _ _ (hI.on HR2.out.2.2) h1 h2 (by omega) (by omega)).mono ?_
        rintro e w1 ⟨rfl, hb1⟩
        have HR3 := Lib.hid (HR2.out.on hb1)
        clear hb1
        go_wp2_with fail
        refine (fr_i _ _ _ y2.1 (by omega) (by omega) (by omega)).mono ?_
        rintro e w2 ⟨rfl, hb2⟩
        have hR1 := HR3.out.on hb2
        have G := hR1.2.1
        have Gl := G.lt
        have Gc0 := G.cell 0
        have Gf0 := G.frozen 0
        have Gc1 := G.cell 1
        have Gf1 := G.frozen 1
        simp at Gc0 Gc1
        have GH := Lib.hid G
        clear G
        have HR4 := Lib.hid hR1
        clear hR1 hb2
        go_wp2_with fail
        refine bodyPost_ret (v := .tuple #[.int .i64 (rhK ys a), .agg #[.int .i64 (rhN ys a), .int .i64 (rhD ys a)], .int .i64 (rhC ys a)]) (by simp [results, Try.results36, go_sem, HV.out, Gc0, Gc1]) rfl ⟨rfl, ?_⟩
        exact bset (bset HR4.out.2.2 (by omega) _) (by omega) _

end Go.Proofs.Ytnlddplhaiceaaa
