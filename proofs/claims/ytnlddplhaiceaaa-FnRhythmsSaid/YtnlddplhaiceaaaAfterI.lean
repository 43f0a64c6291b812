/-
  AfterYear: the program's and the reference's.
  No conditions.
-/
import Derived.Test.YtnlddplhaiceaaaAfterW
namespace Go.Proofs.Ytnlddplhaiceaaa
open Go.ChangeShapes Go.WideShapes Go.ChangeAt Go.RowKit Go.Deep
set_option linter.unusedVariables false

theorem keepA {w W1 w' : World} {p : Addr} {u : Value} (x0 : W1.cell? p = some u) (hp : p.block < W1.heap.size) (h1 : Below w.heap.size w W1) (hb : Below W1.heap.size W1 w') : w'.cell? p = some u ∧ Below w.heap.size w w' :=
  ⟨(hb.cell hp).trans x0, btrans h1 hb⟩
theorem keepG {w W1 w2 w3 : World} {p : Addr} {u : Value} {row : Option Nat} (x0 : W1.cell? p = some u) (hp : p.block < W1.heap.size) (h1 : Below w.heap.size w W1) (hb : Below W1.heap.size W1 w2) (hg : w2.grownBy w3 row)
    (hr : ∀ g, row = some g → w.heap.size ≤ g ∧ g ≠ p.block) : w3.cell? p = some u ∧ Below w.heap.size w w3 :=
  ⟨(hg.cell_far p (Nat.lt_of_lt_of_le hp hb.size) (fun e => (hr _ e.symm).2 rfl)).trans ((hb.cell hp).trans x0), below_grown (btrans h1 hb) hg (fun g he => (hr g he).1)⟩
set_option maxHeartbeats 3000000 in
theorem indices_i (A : Option Addr) (n c : Nat) (zs : List Int) (l : Nat) (w : World) (h : Ints w w.heap.size 1 A n zs) (hn : n ≤ 1048576) (hl : l ≤ 1048576) :
    Calls Try.prog 54 #[.slice A n c, .int .i64 (l : Int)] w fun e w' => e = .returned (.bool (okAll (riseAt zs 0 ((l : Int) - 1)) n n)) ∧ Below w.heap.size w w' := by
  have hn' : (n : Int) ≤ 1048576 := by omega
  have hl' : (l : Int) ≤ 1048576 := by omega
  go_enter Try.func54, Try.ntmps54
  go_wp2_with fail
  go_loopw [9] (fun i wr => ∃ k : Nat, k ≤ n ∧ i = .int .i64 k ∧ Hid (∀ j, j < k → riseAt zs 0 ((l : Int) - 1) j = true) ∧ Below w.heap.size w wr) (fun i _ => n - (intOf i).toNat)
  case atStart => exact ⟨0, Nat.zero_le _, rfl, fun j h => absurd h (by omega), Below.refl _ _⟩
  case round =>
    obtain ⟨k, hk, rfl, HK, hbel⟩ := hrel
    by_cases hlt : k < n
    · obtain ⟨b, off, rfl, hb, c0⟩ := (h.below hbel (Nat.le_refl _)).at1 hlt
      have HW : IntKind.i64.wrap ((k : Int) - 1) = (k : Int) - 1 := IntWalk.i64_in _ (by omega)
      have HWl : IntKind.i64.wrap ((l : Int) - 1) = (l : Int) - 1 := IntWalk.i64_in _ (by omega)
      have hX : riseAt zs 0 ((l : Int) - 1) k = (inR (gi zs k) 0 ((l : Int) - 1) && (decide (k = 0) || decide (gi zs (k - 1) < gi zs k))) := rfl
      have HX := Lib.hid hX
      clear hX
      rcases h1 : inR (gi zs k) 0 ((l : Int) - 1) with _ | _
      · have HV : Hid (okAll (riseAt zs 0 ((l : Int) - 1)) n n = false) := okAll_bad hlt (by rw [HX.out, h1]; rfl)
        go_wp2_with (first | (go_at_call 49; refine (within_c _ _ _ _).mono ?_; rintro e w' ⟨rfl, rfl⟩))
        try (go_quiet ((first | (go_at_call 49; first | exact quiet_left (asV (within_c _ _ _ _) (by assumption)) | exact quiet_add_left (asV (within_c _ _ _ _) (by assumption)) | exact quiet_left (within_c _ _ _ _) | exact quiet_add_left (within_c _ _ _ _)))); go_wp2_with (first | (go_at_call 49; refine (within_c _ _ _ _).mono ?_; rintro e w' ⟨rfl, rfl⟩)))
        go_ret
        exact ⟨ret_bool HV.out.symm, by repeat (first | exact hbel | apply bdrewN)⟩
      · by_cases h0 : k = 0
        · have HT : Hid (riseAt zs 0 ((l : Int) - 1) k = true) := by show _ = _; rw [HX.out, h1]; simp [h0]
          subst h0
          simp only [Nat.add_zero] at c0
          go_wp2_with (first | (go_at_call 49; refine (within_c _ _ _ _).mono ?_; rintro e w' ⟨rfl, rfl⟩))
          try (go_quiet ((first | (go_at_call 49; first | exact quiet_left (asV (within_c _ _ _ _) (by assumption)) | exact quiet_add_left (asV (within_c _ _ _ _) (by assumption)) | exact quiet_left (within_c _ _ _ _) | exact quiet_add_left (within_c _ _ _ _)))); go_wp2_with (first | (go_at_call 49; refine (within_c _ _ _ _).mono ?_; rintro e w' ⟨rfl, rfl⟩)))
          go_roundw
          case rel =>
            refine ⟨1, by omega, by go_num, fun j hj => ?_, by repeat (first | exact hbel | apply bdrewN)⟩
            obtain rfl : j = 0 := by omega
            exact HT.out
          case measure => simp [intOf]; omega
        · have hp : (0 : Int) < (k : Int) := by omega
          have hpn : 0 < k := by omega
          have hd : decide (0 < k) = true := by simpa using hpn
          have hkk : ((k : Int) - 1).toNat = k - 1 := by omega
          have hk1 : (0 : Int) ≤ (k : Int) - 1 := by omega
          have hk2 : (k : Int) - 1 < (n : Int) := by omega
          obtain ⟨b', off', e', _, c1⟩ := (h.below hbel (Nat.le_refl _)).at1 (i := k - 1) (by omega)
          obtain ⟨rfl, rfl⟩ : b = b' ∧ off = off' := by simpa using e'
          clear e'
          by_cases h2 : gi zs (k - 1) < gi zs k
          · have HT : Hid (riseAt zs 0 ((l : Int) - 1) k = true) := by show _ = _; rw [HX.out, h1]; simp [h2]
            have h3 : ¬ gi zs k ≤ gi zs (k - 1) := by omega
            have hd3 : decide (gi zs k ≤ gi zs (k - 1)) = false := by simpa using h2
            clear h0
            go_wp2_with (first | (go_at_call 49; refine (within_c _ _ _ _).mono ?_; rintro e w' ⟨rfl, rfl⟩))
            try (go_quiet ((first | (go_at_call 49; first | exact quiet_left (asV (within_c _ _ _ _) (by assumption)) | exact quiet_add_left (asV (within_c _ _ _ _) (by assumption)) | exact quiet_left (within_c _ _ _ _) | exact quiet_add_left (within_c _ _ _ _)))); go_wp2_with (first | (go_at_call 49; refine (within_c _ _ _ _).mono ?_; rintro e w' ⟨rfl, rfl⟩)))
            go_roundw
            case rel =>
              refine ⟨k + 1, by omega, by go_num, fun j hj => ?_, by repeat (first | exact hbel | apply bdrewN)⟩
              rcases Nat.lt_or_ge j k with hh | hh
              · exact HK.out j hh
              · obtain rfl : j = k := by omega
                exact HT.out
            case measure => simp [intOf]; omega
          · have HV : Hid (okAll (riseAt zs 0 ((l : Int) - 1)) n n = false) := okAll_bad hlt (by rw [HX.out, h1]; simp [h0]; omega)
            have h3 : gi zs k ≤ gi zs (k - 1) := by omega
            have hd3 : decide (gi zs k ≤ gi zs (k - 1)) = true := by simpa using h3
            clear h0
            go_wp2_with (first | (go_at_call 49; refine (within_c _ _ _ _).mono ?_; rintro e w' ⟨rfl, rfl⟩))
            try (go_quiet ((first | (go_at_call 49; first | exact quiet_left (asV (within_c _ _ _ _) (by assumption)) | exact quiet_add_left (asV (within_c _ _ _ _) (by assumption)) | exact quiet_left (within_c _ _ _ _) | exact quiet_add_left (within_c _ _ _ _)))); go_wp2_with (first | (go_at_call 49; refine (within_c _ _ _ _).mono ?_; rintro e w' ⟨rfl, rfl⟩)))
            go_ret
            exact ⟨ret_bool HV.out.symm, by repeat (first | exact hbel | apply bdrewN)⟩
    · obtain rfl : k = n := by omega
      have HV : Hid (okAll (riseAt zs 0 ((l : Int) - 1)) k k = true) := by show _ = _; rw [okAll_end HK.out]; simp
      go_wp2
      go_ret
      exact ⟨ret_bool HV.out.symm, hbel⟩
/-- AfterYear: how many beds, and the code. -/
def ayOk (cs : List Int) (m n : Nat) : Bool := okAll (riseAt cs 0 ((n : Int) - 1)) m m
def ayN (bs : Nat → List Int × Int) (n : Nat) (cs : List Int) (m : Nat) : Nat := if okAll (bedAt bs) n 8 && ayOk cs m n then n else 0
def ayC (bs : Nat → List Int × Int) (n : Nat) (cs : List Int) (m : Nat) : Int := if okAll (bedAt bs) n 8 then (if ayOk cs m n then 0 else 2) else 1
set_option maxHeartbeats 4000000 in
theorem year_s (A A2 : Option Addr) (n c m c2 : Nat) (bs : Nat → List Int × Int) (cs : List Int) (w : World) (h : Beds w w.heap.size A n bs) (hs : Short bs n) (h2 : Ints w w.heap.size 1 A2 m cs) (hm : m ≤ 1048576) :
    Calls Try.prog 12 #[.slice A n c, .slice A2 m c2] w fun e w' => ∃ v, e = .returned (.tuple #[v, .int .i64 (ayC bs n cs m)]) ∧ OwnB w' w.heap.size w'.heap.size v (ayN bs n cs m) (aftB bs cs m) ∧ Below w.heap.size w w' := by
  have hn := hs.1
  rcases hok : okAll (bedAt bs) n 8 with _ | _
  · have HV : Hid (ayC bs n cs m = 1 ∧ ayN bs n cs m = 0) := by show _ ∧ _; simp [ayC, ayN, hok]
    go_enter Try.func12, Try.ntmps12
    go_wp2_with fail
    refine (l03Ok_c _ _ _ bs _ h hs).mono ?_
    rintro e w1 ⟨rfl, rfl⟩
    rw [hok]
    go_wp2
    go_ret2
    exact ⟨_, by rw [HV.out.1]; rfl, by rw [HV.out.2]; exact OwnB.nil _ _ _ (Nat.le_refl _) _, Below.refl _ _⟩
  · rcases hr : okAll (riseAt cs 0 ((n : Int) - 1)) m m with _ | _
    · have HV : Hid (ayC bs n cs m = 2 ∧ ayN bs n cs m = 0) := by show _ ∧ _; simp [ayC, ayN, ayOk, hok, hr]
      go_enter Try.func12, Try.ntmps12
      go_wp2_with fail
      refine (l03Ok_c _ _ _ bs _ h hs).mono ?_
      rintro e w1 ⟨rfl, rfl⟩
      rw [hok]
      go_wp2_with fail
      refine (rises_s A2 m c2 cs 0 ((n : Int) - 1) _ h2 hm).mono ?_
      rintro e w2 ⟨rfl, hb2⟩
      rw [hr]
      go_wp2
      go_ret2
      exact ⟨_, by rw [HV.out.1]; rfl, by rw [HV.out.2]; exact OwnB.nil _ _ _ (Nat.le_refl _) _, hb2⟩
    · have HV : Hid (ayC bs n cs m = 0 ∧ ayN bs n cs m = n) := by show _ ∧ _; simp [ayC, ayN, ayOk, hok, hr]
      go_enter Try.func12, Try.ntmps12
      go_wp2_with fail
      refine (l03Ok_c _ _ _ bs _ h hs).mono ?_
      rintro e w1 ⟨rfl, rfl⟩
      rw [hok]
      go_wp2_with fail
      refine (rises_s A2 m c2 cs 0 ((n : Int) - 1) _ h2 hm).mono ?_
      rintro e w2 ⟨rfl, hb2⟩
      rw [hr]
      go_wp2_with fail
      refine (after_s A A2 n c m c2 bs cs _ (h.on hb2) hok (h2.on hb2) hm).mono ?_
      rintro e w3 ⟨v, rfl, ho, hb3⟩
      have hz := hb2.size
      go_wp2
      go_ret2
      exact ⟨_, by rw [HV.out.1]; rfl, by rw [HV.out.2]; exact ho.lower hz, btrans hb2 hb3⟩
set_option maxRecDepth 100000 in
set_option maxHeartbeats 4000000 in
theorem year_i (A A2 : Option Addr) (n c m c2 : Nat) (bs : Nat → List Int × Int) (cs : List Int) (w : World) (h : Beds w w.heap.size A n bs) (hs : Short bs n) (h2 : Ints w w.heap.size 1 A2 m cs) (hm : m ≤ 1048576) :
    Calls Try.prog 14 #[.slice A n c, .slice A2 m c2] w fun e w' => ∃ v, e = .returned (.tuple #[v, .int .i64 (ayC bs n cs m)]) ∧ OwnB w' w.heap.size w'.heap.size v (ayN bs n cs m) (aftB bs cs m) ∧ Below w.heap.size w w' := by
  have hn := hs.1
  rcases hok : okAll (bedAt bs) n 8 with _ | _
  · have HV : Hid (ayC bs n cs m = 1 ∧ ayN bs n cs m = 0) := by show _ ∧ _; simp [ayC, ayN, hok]
    go_enter Try.func14, Try.ntmps14
    go_wp2_with fail
    refine (ValidBeds_i _ _ _ bs _ h hs).mono ?_
    rintro e w1 ⟨rfl, hb1⟩
    rw [hok]
    go_wp2
    go_ret2
    exact ⟨_, by rw [HV.out.1]; rfl, by rw [HV.out.2]; exact OwnB.nil _ _ _ (Nat.le_refl _) _, hb1⟩
  · rcases hr : okAll (riseAt cs 0 ((n : Int) - 1)) m m with _ | _
    · have HV : Hid (ayC bs n cs m = 2 ∧ ayN bs n cs m = 0) := by show _ ∧ _; simp [ayC, ayN, ayOk, hok, hr]
      go_enter Try.func14, Try.ntmps14
      go_wp2_with fail
      refine (ValidBeds_i _ _ _ bs _ h hs).mono ?_
      rintro e w1 ⟨rfl, hb1⟩
      rw [hok]
      go_wp2_with fail
      refine (indices_i A2 m c2 cs n _ (h2.on hb1) hm hn).mono ?_
      rintro e w2 ⟨rfl, hb2⟩
      rw [hr]
      go_wp2
      go_ret2
      exact ⟨_, by rw [HV.out.1]; rfl, by rw [HV.out.2]; exact OwnB.nil _ _ _ (Nat.le_refl _) _, btrans hb1 hb2⟩
    · have HV : Hid (ayC bs n cs m = 0 ∧ ayN bs n cs m = n) := by show _ ∧ _; simp [ayC, ayN, ayOk, hok, hr]
      have hn8 := okAll_le hok
      go_enter Try.func14, Try.ntmps14
      go_wp2_with fail
      refine (ValidBeds_i _ _ _ bs _ h hs).mono ?_
      rintro e w1 ⟨rfl, hb1⟩
      rw [hok]
      go_wp2_with fail
      refine (indices_i A2 m c2 cs n _ (h2.on hb1) hm hn).mono ?_
      rintro e w2 ⟨rfl, hb2⟩
      rw [hr]
      have cb2 := btrans hb1 hb2
      have hz2 := cb2.size
      clear hr
      go_wp2_with fail
      go_loopw [6, 21] (fun o i wr => ∃ k : Nat, k ≤ n ∧ i = .int .i64 k ∧ Hid (OwnB wr w.heap.size wr.heap.size o k (aftB bs cs m)) ∧ Below w.heap.size w wr) (fun _ i _ => n - (intOf i).toNat)
      case atStart => exact ⟨0, Nat.zero_le _, rfl, OwnB.empty w2 hz2 _, balloc cb2 _⟩
      case round =>
        obtain ⟨k, hk, rfl, HO, hbel⟩ := hrel
        by_cases hlt : k < n
        · have hB := h.on hbel
          obtain ⟨b, off, A', m', c', rfl, hb, c0, c1, hm', hI⟩ := hB.at_ k hlt
          obtain ⟨b_, off_, A_, m_, c_, e_, hb_, d0, d1, hm_, hIw⟩ := h.at_ k hlt
          obtain ⟨rfl, rfl⟩ : b = b_ ∧ off = off_ := by simpa using e_
          have d0' := (hbel.cell (p := ⟨b, off + k * 2, none⟩) hb_).trans d0
          rw [c0] at d0'
          obtain ⟨rfl, rfl, rfl⟩ : A' = A_ ∧ m' = m_ ∧ c' = c_ := by simpa using d0'
          clear d0 d1 d0' e_ hm_
          obtain rfl : m' = (yl bs k).length := by have := hI.length; omega
          have hbo := bedOk_bd (okAll_get hok hlt)
          have g1 := hbo.1
          have g2 := hbo.2.1
          have g3 := hbo.2.2.1
          have g4 := hbo.2.2.2.1
          have hcb := cutA_bd hok cs m hlt
          have HIw := Lib.hid hIw
          have H2 := Lib.hid h2
          have HAft : Hid (yl (aftB bs cs m) k = yl bs k ∧ ag (aftB bs cs m) k = if cutA bs cs m k + 1 < (yl bs k).length then cutA bs cs m k + 1 else (yl bs k).length) := ⟨rfl, rfl⟩
          have HCut : Hid (cutA bs cs m k = if hasZ cs (k : Int) m then 0 else ag bs k) := rfl
          have hws := hbel.size
          clear hbo hB hI hIw
          generalize hyl : yl bs k = ys at *
          clear hyl
          generalize hag : ag bs k = a at *
          clear hag
          generalize hct : cutA bs cs m k = x at *
          clear hct
          generalize hlen : ys.length = l at *
          have HLen := Lib.hid hlen
          clear hlen
          go_wp2_with fail
          have HBl : Hid (Blk (wr.alloc (.cells #[.slice A' l c', .int .i64 a] 41)) wr.heap.size 41 #[.slice A' l c', .int .i64 a]) := Blk.new _ _ _
          have hW1 := balloc (Below.refl wr.heap.size wr) (.cells #[.slice A' l c', .int .i64 a] 41)
          have x0 := HBl.out.cell 0
          have x1 := HBl.out.cell 1
          simp only [List.getElem?_toArray, List.getElem?_cons_zero, List.getElem?_cons_succ] at x0 x1
          have hgl := HBl.out.lt
          generalize hW1e : wr.alloc (.cells #[.slice A' l c', .int .i64 a] 41) = W1 at *
          clear hW1e HBl c0 c1
          have HW1 := Lib.hid hW1
          have HX1 := Lib.hid (btrans hbel hW1)
          have hs1 := hW1.size
          clear hW1
          rcases hh : hasZ cs (k : Int) m with _ | _
          · have hxx := HCut.out
            rw [hh] at hxx
            simp only [Bool.false_eq_true, if_false] at hxx
            subst hxx
            clear HCut
            go_wp2_with fail
            refine (contains_c A2 m c2 cs (k : Int) _ (H2.out.on HX1.out) hm).mono ?_
            rintro e w3 ⟨rfl, rfl⟩
            rw [hh]
            by_cases hmin : x + 1 ≤ (l : Int)
            · have hmn : ¬ (l : Int) < x + 1 := by omega
              have HVa : Hid (ag (aftB bs cs m) k = x + 1) := by show _ = _; rw [HAft.out.2]; simp <;> omega
              have HWr : IntKind.i64.wrap (x + 1) = x + 1 := IntWalk.i64_in _ (by omega)
              have HC := Lib.hid (fun w' (hb : Below w.heap.size w w') => clone_c A' l c' ys w' (HIw.out.on hb) (by omega) (by omega))
              have HX := Lib.hid hgl
              go_wp2_with fail
              go_region_held3 (fun w' => w'.cell? ⟨wr.heap.size, 0, none⟩ = some (.slice A' l c') ∧ Below w.heap.size w w') (first | exact keepA x0 hgl HX1.out (Below.refl _ _) | exact keepA x0 hgl HX1.out (Below.refl _ _).drew | exact keepA x0 hgl HX1.out (undrew hby) | exact keepA x0 hgl HX1.out (balloc (undrew hby) _) | exact keepG x0 hgl HX1.out (balloc (undrew hby) _) hgr1 (fun g hg => ⟨(HO.out.lt g hg).1, Nat.ne_of_lt (HO.out.lt g hg).2⟩)) (first | (go_at_call 56; refine (HC.out _ (‹_ ∧ Below w.heap.size w _›.2)).mono ?_; rintro e wy ⟨γ0, cc, rfl, hO, hby⟩) | (refine step_append_bed rfl (.tmp 31) (.tmp 42) rfl w.heap.size wr.heap.size _ k (aftB bs cs m) rfl (HO.out.below (balloc (btrans HW1.out (undrew hby)) _) (Nat.le_refl _)) γ0 cc (Nat.le_trans hs1 (hO.lt γ0 rfl).1) (by rw [HAft.out.1, HLen.out]; exact (hO.base_le (Nat.le_trans hws hs1)).alloc _) _ rfl (by rw [HAft.out.1, HLen.out, HVa.out]; first | exact blk_at rfl | exact blk_at (by simp) | (rw [if_neg (Int.not_lt.2 hmin)]; exact blk_at rfl) | (rw [if_neg (Int.not_lt.2 hmin)]; exact blk_at (by simp))) (by omega) (by have h5 := hby.size; have h6 : W1.drew.heap.size = W1.heap.size := rfl; simp only [World.size_alloc]; omega) ?_; intro v1 w3 hown1 hgr1))
              all_goals
                have HB3 := Lib.hid (‹_ ∧ Below w.heap.size w _›.2)
                go_wp2_with fail
                go_roundw
                case rel => exact ⟨k + 1, by omega, by go_num, hown1, HB3.out⟩
                case measure => simp [intOf]; omega
            · have HVa : Hid (ag (aftB bs cs m) k = l) := by show _ = _; rw [HAft.out.2]; simp <;> omega
              have HWr : IntKind.i64.wrap (x + 1) = x + 1 := IntWalk.i64_in _ (by omega)
              have HC := Lib.hid (fun w' (hb : Below w.heap.size w w') => clone_c A' l c' ys w' (HIw.out.on hb) (by omega) (by omega))
              have HX := Lib.hid hgl
              go_wp2_with fail
              go_region_held3 (fun w' => w'.cell? ⟨wr.heap.size, 0, none⟩ = some (.slice A' l c') ∧ Below w.heap.size w w') (first | exact keepA x0 hgl HX1.out (Below.refl _ _) | exact keepA x0 hgl HX1.out (Below.refl _ _).drew | exact keepA x0 hgl HX1.out (undrew hby) | exact keepA x0 hgl HX1.out (balloc (undrew hby) _) | exact keepG x0 hgl HX1.out (balloc (undrew hby) _) hgr1 (fun g hg => ⟨(HO.out.lt g hg).1, Nat.ne_of_lt (HO.out.lt g hg).2⟩)) (first | (go_at_call 56; refine (HC.out _ (‹_ ∧ Below w.heap.size w _›.2)).mono ?_; rintro e wy ⟨γ0, cc, rfl, hO, hby⟩) | (refine step_append_bed rfl (.tmp 31) (.tmp 42) rfl w.heap.size wr.heap.size _ k (aftB bs cs m) rfl (HO.out.below (balloc (btrans HW1.out (undrew hby)) _) (Nat.le_refl _)) γ0 cc (Nat.le_trans hs1 (hO.lt γ0 rfl).1) (by rw [HAft.out.1, HLen.out]; exact (hO.base_le (Nat.le_trans hws hs1)).alloc _) _ rfl (by rw [HAft.out.1, HLen.out, HVa.out]; first | exact blk_at rfl | exact blk_at (by simp) | (rw [if_neg (Int.not_lt.2 hmin)]; exact blk_at rfl) | (rw [if_neg (Int.not_lt.2 hmin)]; exact blk_at (by simp))) (by omega) (by have h5 := hby.size; have h6 : W1.drew.heap.size = W1.heap.size := rfl; simp only [World.size_alloc]; omega) ?_; intro v1 w3 hown1 hgr1))
              all_goals
                have HB3 := Lib.hid (‹_ ∧ Below w.heap.size w _›.2)
                go_wp2_with fail
                go_roundw
                case rel => exact ⟨k + 1, by omega, by go_num, hown1, HB3.out⟩
                case measure => simp [intOf]; omega
          · have hxx := HCut.out
            rw [hh] at hxx
            simp only [if_true] at hxx
            subst hxx
            clear HCut
            go_wp2_with fail
            refine (contains_c A2 m c2 cs (k : Int) _ (H2.out.on HX1.out) hm).mono ?_
            rintro e w3 ⟨rfl, rfl⟩
            rw [hh]
            have hmin : (1 : Int) ≤ (l : Int) := by omega
            have hmn : ¬ (l : Int) < 1 := by omega
            have HWr : IntKind.i64.wrap 1 = 1 := by decide
            have HVa : Hid (ag (aftB bs cs m) k = 1) := by show _ = _; rw [HAft.out.2]; simp <;> omega
            have HC := Lib.hid (fun w' (hb : Below w.heap.size w w') => clone_c A' l c' ys w' (HIw.out.on hb) (by omega) (by omega))
            have HX := Lib.hid hgl
            go_wp2_with fail
            go_region_held3 (fun w' => w'.cell? ⟨wr.heap.size, 0, none⟩ = some (.slice A' l c') ∧ Below w.heap.size w w') (first | exact keepA x0 hgl HX1.out (Below.refl _ _) | exact keepA x0 hgl HX1.out (Below.refl _ _).drew | exact keepA x0 hgl HX1.out (undrew hby) | exact keepA x0 hgl HX1.out (balloc (undrew hby) _) | exact keepG x0 hgl HX1.out (balloc (undrew hby) _) hgr1 (fun g hg => ⟨(HO.out.lt g hg).1, Nat.ne_of_lt (HO.out.lt g hg).2⟩)) (first | (go_at_call 56; refine (HC.out _ (‹_ ∧ Below w.heap.size w _›.2)).mono ?_; rintro e wy ⟨γ0, cc, rfl, hO, hby⟩) | (refine step_append_bed rfl (.tmp 31) (.tmp 42) rfl w.heap.size wr.heap.size _ k (aftB bs cs m) rfl (HO.out.below (balloc (btrans HW1.out (undrew hby)) _) (Nat.le_refl _)) γ0 cc (Nat.le_trans hs1 (hO.lt γ0 rfl).1) (by rw [HAft.out.1, HLen.out]; exact (hO.base_le (Nat.le_trans hws hs1)).alloc _) _ rfl (by rw [HAft.out.1, HLen.out, HVa.out]; first | exact blk_at rfl | exact blk_at (by simp) | (rw [if_neg (Int.not_lt.2 hmin)]; exact blk_at rfl) | (rw [if_neg (Int.not_lt.2 hmin)]; exact blk_at (by simp))) (by omega) (by have h5 := hby.size; have h6 : W1.drew.heap.size = W1.heap.size := rfl; simp only [World.size_alloc]; omega) ?_; intro v1 w3 hown1 hgr1))
            all_goals
              have HB3 := Lib.hid (‹_ ∧ Below w.heap.size w _›.2)
              go_wp2_with fail
              go_roundw
              case rel => exact ⟨k + 1, by omega, by go_num, hown1, HB3.out⟩
              case measure => simp [intOf]; omega
        · obtain rfl : k = n := by omega
          go_wp2
          go_ret2
          exact ⟨_, by rw [HV.out.1]; rfl, by rw [HV.out.2]; exact HO.out, hbel⟩
end Go.Proofs.Ytnlddplhaiceaaa
