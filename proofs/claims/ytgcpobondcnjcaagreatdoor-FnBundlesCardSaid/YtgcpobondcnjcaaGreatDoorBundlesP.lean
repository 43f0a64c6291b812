/-
  FnBundles in plain words: the least girth, the sorted bundles rise, what a cart bears, the fewest bundles are enough.
  No conditions.
-/
import Derived.Test.YtgcpobondcnjcaaGreatDoorConv
import Derived.Test.YtgcpobondcnjcaaGreatDoorEqZ
import Derived.WalkLawsBesides
import Derived.Laws.StructEq
import Derived.Test.YtgcpobondcnjcaaGreatDoorNum
import Derived.Test.YtgcpobondcnjcaaGreatDoorSbP
import Derived.Test.YtgcpobondcnjcaaGreatDoorFewP
import Derived.Test.YtgcpobondcnjcaaGreatDoorCart
namespace Go.Proofs.YtgcpobondcnjcaaGreatDoor
open Go.ChangeShapes Go.WideShapes Go.ChangeAt Go.RowKit Go.Deep
set_option linter.unusedVariables false

theorem neqBunch (w : World) (a b c x y z : Int) : (binOp .neq 40 (.agg #[.int .i64 a, .int .i64 b, .int .i64 c]) (.agg #[.int .i64 x, .int .i64 y, .int .i64 z])).run Tryz.prog w =
    .ok (.bool (!(a == x && b == y && c == z))) w := by
  have hS : Tryz.prog.underlying 40 = some (.struct (Tryz.prog.fieldsOf 40)) := by kernel_rfl
  have hp : Tryz.prog.stoodInHeld 40 = false := by kernel_rfl
  have ui := Tryz.underlying2
  rw [run_neq_struct, show (10000 : Nat) = 9999 + 1 from rfl, run_equalIn_agg w 9999 40 _ _ hS hp]
  simp only [Program.fieldsOf, Tryz.underlying40]
  go_simp
  by_cases h1 : a = x <;> by_cases h2 : b = y <;> by_cases h3 : c = z <;> simp [h1, h2, h3]

theorem grdBunch (op : BinOp) (x y : Operand) (xs ys : Array Value) (w : World) : (eqGuard op 40 x y (.agg xs) (.agg ys)).run Tryz.prog w = .ok () w :=
  run_eqGuard_agg w op _ x y xs ys (by kernel_rfl)

set_option maxRecDepth 100000 in
set_option maxHeartbeats 1000000 in
theorem SameBunches_s (A A' : Option Addr) (n m c c' : Nat) (zs ys : List Int) (w : World) (h : Ints w w.heap.size 3 A n zs) (h' : Ints w w.heap.size 3 A' m ys) (hn : n ≤ 1048576) (hm : m ≤ 1048576) :
    Calls Tryz.prog 19 #[.slice A n c, .slice A' m c'] w fun e w' => e = .returned (.bool (eqZ zs ys)) ∧ Below w.heap.size w w' := by
  have hq := neqBunch
  have hg := grdBunch
  have l1 := h.length
  have l2 := h'.length
  by_cases hnm : n = m
  · subst hnm
    have HL := Lib.hid l1
    have HL' := Lib.hid l2
    clear l1 l2
    go_enter Tryz.func19, Tryz.ntmps19
    go_wp2_with fail
    go_loopw [5] (fun i wr => ∃ k : Nat, k ≤ n ∧ i = .int .i64 k ∧ Below w.heap.size w wr ∧ Hid (∀ j, j < k * 3 → gi zs j = gi ys j)) (fun i _ => n - (intOf i).toNat)
    case atStart => exact ⟨0, Nat.zero_le _, rfl, Below.refl _ _, fun j h => absurd h (by omega)⟩
    case round =>
      obtain ⟨k, hk, rfl, hbel, HK⟩ := hrel
      by_cases hlt : k < n
      · obtain ⟨b, off, rfl, hb, c0, c1, c2⟩ := (h.below hbel (Nat.le_refl _)).at3 hlt
        obtain ⟨b', off', rfl, hb', c0', c1', c2'⟩ := (h'.below hbel (Nat.le_refl _)).at3 hlt
        by_cases e0 : gi zs (k * 3) = gi ys (k * 3) ∧ gi zs (k * 3 + 1) = gi ys (k * 3 + 1) ∧ gi zs (k * 3 + 2) = gi ys (k * 3 + 2)
        · have HE := Lib.hid e0
          have hbb : (!(gi zs (k * 3) == gi ys (k * 3) && gi zs (k * 3 + 1) == gi ys (k * 3 + 1) && gi zs (k * 3 + 2) == gi ys (k * 3 + 2))) = false := by
            obtain ⟨x0, x1, x2⟩ := e0
            rw [x0, x1, x2]; simp
          clear e0
          go_wp2_with fail
          go_quiet (fail)
          go_wp2_with fail
          go_roundw
          case rel =>
            refine ⟨k + 1, by omega, by go_num, bdrewN hbel _, fun j hj => ?_⟩
            obtain ⟨x0, x1, x2⟩ := HE.out
            rcases (by omega : j < k * 3 ∨ j = k * 3 ∨ j = k * 3 + 1 ∨ j = k * 3 + 2) with hh | rfl | rfl | rfl
            · exact HK.out j hh
            · exact x0
            · exact x1
            · exact x2
          case measure => simp [intOf]; omega
        · have HV : Hid (eqZ zs ys = false) := by
            show _ = _
            rcases hz : eqZ zs ys with _ | _
            · rfl
            · rw [eqZ, decide_eq_true_iff] at hz; subst hz; exact absurd ⟨rfl, rfl, rfl⟩ e0
          have hbb : (!(gi zs (k * 3) == gi ys (k * 3) && gi zs (k * 3 + 1) == gi ys (k * 3 + 1) && gi zs (k * 3 + 2) == gi ys (k * 3 + 2))) = true := by
            rw [Bool.not_eq_true', Bool.eq_false_iff]
            intro hh
            simp only [Bool.and_eq_true, beq_iff_eq] at hh
            exact e0 (by simpa only [and_assoc] using hh)
          clear e0
          go_wp2_with fail
          go_quiet (fail)
          go_wp2_with fail
          go_ret
          exact ⟨ret_bool HV.out.symm, bdrewN hbel _⟩
      · obtain rfl : k = n := by omega
        go_wp2
        go_ret
        refine ⟨ret_bool ?_, hbel⟩
        have a1 := HL.out
        have a2 := HL'.out
        exact (eqZ_end (by omega) (fun j hj => HK.out j (by omega))).symm
  · have hv := eqZ_len (zs := zs) (ys := ys) (by omega)
    have hne : ((n : Int) != (m : Int)) = true := by rw [bne_iff_ne]; omega
    rw [hv]; clear hv l1 l2
    go_enter Tryz.func19, Tryz.ntmps19
    go_wp2
    go_ret
    exact ⟨rfl, Below.refl _ _⟩

set_option maxRecDepth 100000 in
set_option maxHeartbeats 1000000 in
theorem EqualBunch_c (A A' : Option Addr) (n m c c' : Nat) (zs ys : List Int) (w : World) (h : Ints w w.heap.size 3 A n zs) (h' : Ints w w.heap.size 3 A' m ys) (hn : n ≤ 1048576) (hm : m ≤ 1048576) :
    Calls Tryz.prog 57 #[.slice A n c, .slice A' m c'] w fun e w' => e = .returned (.bool (eqZ zs ys)) ∧ Below w.heap.size w w' := by
  have hq := neqBunch
  have hg := grdBunch
  have l1 := h.length
  have l2 := h'.length
  by_cases hnm : n = m
  · subst hnm
    have HL := Lib.hid l1
    have HL' := Lib.hid l2
    clear l1 l2
    go_enter Tryz.func57, Tryz.ntmps57
    go_wp2_with fail
    go_loopw [13] (fun i wr => ∃ k : Nat, k ≤ n ∧ i = .int .i64 k ∧ Below w.heap.size w wr ∧ Hid (∀ j, j < k * 3 → gi zs j = gi ys j)) (fun i _ => n - (intOf i).toNat)
    case atStart => exact ⟨0, Nat.zero_le _, rfl, Below.refl _ _, fun j h => absurd h (by omega)⟩
    case round =>
      obtain ⟨k, hk, rfl, hbel, HK⟩ := hrel
      by_cases hlt : k < n
      · obtain ⟨b, off, rfl, hb, c0, c1, c2⟩ := (h.below hbel (Nat.le_refl _)).at3 hlt
        obtain ⟨b', off', rfl, hb', c0', c1', c2'⟩ := (h'.below hbel (Nat.le_refl _)).at3 hlt
        by_cases e0 : gi zs (k * 3) = gi ys (k * 3) ∧ gi zs (k * 3 + 1) = gi ys (k * 3 + 1) ∧ gi zs (k * 3 + 2) = gi ys (k * 3 + 2)
        · have HE := Lib.hid e0
          have hbb : (!(gi zs (k * 3) == gi ys (k * 3) && gi zs (k * 3 + 1) == gi ys (k * 3 + 1) && gi zs (k * 3 + 2) == gi ys (k * 3 + 2))) = false := by
            obtain ⟨x0, x1, x2⟩ := e0
            rw [x0, x1, x2]; simp
          clear e0
          go_wp2_with fail
          go_quiet (fail)
          go_wp2_with fail
          go_roundw
          case rel =>
            refine ⟨k + 1, by omega, by go_num, bdrewN hbel _, fun j hj => ?_⟩
            obtain ⟨x0, x1, x2⟩ := HE.out
            rcases (by omega : j < k * 3 ∨ j = k * 3 ∨ j = k * 3 + 1 ∨ j = k * 3 + 2) with hh | rfl | rfl | rfl
            · exact HK.out j hh
            · exact x0
            · exact x1
            · exact x2
          case measure => simp [intOf]; omega
        · have HV : Hid (eqZ zs ys = false) := by
            show _ = _
            rcases hz : eqZ zs ys with _ | _
            · rfl
            · rw [eqZ, decide_eq_true_iff] at hz; subst hz; exact absurd ⟨rfl, rfl, rfl⟩ e0
          have hbb : (!(gi zs (k * 3) == gi ys (k * 3) && gi zs (k * 3 + 1) == gi ys (k * 3 + 1) && gi zs (k * 3 + 2) == gi ys (k * 3 + 2))) = true := by
            rw [Bool.not_eq_true', Bool.eq_false_iff]
            intro hh
            simp only [Bool.and_eq_true, beq_iff_eq] at hh
            exact e0 (by simpa only [and_assoc] using hh)
          clear e0
          go_wp2_with fail
          go_quiet (fail)
          go_wp2_with fail
          go_ret
          exact ⟨ret_bool HV.out.symm, bdrewN hbel _⟩
      · obtain rfl : k = n := by omega
        go_wp2
        go_ret
        refine ⟨ret_bool ?_, hbel⟩
        have a1 := HL.out
        have a2 := HL'.out
        exact (eqZ_end (by omega) (fun j hj => HK.out j (by omega))).symm
  · have hv := eqZ_len (zs := zs) (ys := ys) (by omega)
    have hne : ((n : Int) != (m : Int)) = true := by rw [bne_iff_ne]; omega
    rw [hv]; clear hv l1 l2
    go_enter Tryz.func57, Tryz.ntmps57
    go_wp2
    go_ret
    exact ⟨rfl, Below.refl _ _⟩


theorem SameBunches_i (A A' : Option Addr) (n m c c' : Nat) (zs ys : List Int) (w : World) (h : Ints w w.heap.size 3 A n zs) (h' : Ints w w.heap.size 3 A' m ys) (hn : n ≤ 1048576) (hm : m ≤ 1048576) :
    Calls Tryz.prog 21 #[.slice A n c, .slice A' m c'] w fun e w' => e = .returned (.bool (eqZ zs ys)) ∧ Below w.heap.size w w' := by
  go_enter Tryz.func21, Tryz.ntmps21
  go_wp2_with fail
  refine (EqualBunch_c _ _ _ _ _ _ zs ys _ h h' hn hm).mono ?_
  rintro e w1 ⟨rfl, hb1⟩
  go_wp2
  go_ret
  exact ⟨rfl, hb1⟩
theorem f6ints_c (A A' : Option Addr) (n c c' : Nat) (zs : List Int) (w : World) (h : Ints w w.heap.size 1 A n zs) (h' : Ints w w.heap.size 1 A' n zs) (hn : n ≤ 1000) :
    Calls Tryz.prog 20 #[.slice A n c, .slice A' n c'] w fun e w' => e = .returned (.bool true) ∧ Below w.heap.size w w' := by
  go_enter Tryz.func20, Tryz.ntmps20
  go_wp2_with fail
  go_loopw [5] (fun i wr => ∃ k : Nat, k ≤ n ∧ i = .int .i64 k ∧ Below w.heap.size w wr) (fun i _ => n - (intOf i).toNat)
  case atStart => exact ⟨0, Nat.zero_le _, rfl, Below.refl _ _⟩
  case round =>
    obtain ⟨k, hk, rfl, hbel⟩ := hrel
    by_cases hlt : k < n
    · obtain ⟨b, off, rfl, hb, c0⟩ := (h.below hbel (Nat.le_refl _)).at1 hlt
      obtain ⟨b', off', rfl, hb', c0'⟩ := (h'.below hbel (Nat.le_refl _)).at1 hlt
      go_wp2_with fail
      go_quiet (fail)
      go_wp2_with fail
      go_roundw
      case rel => exact ⟨k + 1, by omega, by go_num, bdrewN hbel _⟩
      case measure => simp [intOf]; omega
    · obtain rfl : k = n := by omega
      go_wp2
      go_ret
      exact ⟨rfl, hbel⟩
/-- Does the number stand in the list? -/
def hasB (zs : List Int) (z : Int) : Bool := decide (z ∈ zs)
theorem f6has_c (A : Option Addr) (n c : Nat) (zs : List Int) (z : Int) (w : World) (h : Ints w w.heap.size 1 A n zs) (hn : n ≤ 1048576) :
    Calls Tryz.prog 26 #[.slice A n c, .int .i64 z] w fun e w' => e = .returned (.bool (hasB zs z)) ∧ w = w' := by
  have hl := Lib.hid h.length
  go_enter Tryz.func26, Tryz.ntmps26
  go_wp2_with fail
  go_loop [5] (fun i => ∃ k : Nat, k ≤ n ∧ i = .int .i64 k ∧ Hid (∀ j, j < k → gi zs j ≠ z)) (fun i => n - (intOf i).toNat)
  case atStart => exact ⟨0, Nat.zero_le _, rfl, fun j h => absurd h (by omega)⟩
  case round =>
    obtain ⟨k, hk, rfl, HK⟩ := hrel
    by_cases hlt : k < n
    · obtain ⟨b, off, rfl, hb, d0⟩ := h.at1 hlt
      by_cases e : gi zs k = z
      · have HV : Hid (hasB zs z = true) := by
          have hk2 : k < zs.length := by have := hl.out; omega
          have e2 : gi zs k = zs[k] := by simp [gi, List.getD, List.getElem?_eq_getElem hk2]
          show _ = _
          unfold hasB
          rw [decide_eq_true_iff, ← e, e2]; exact List.getElem_mem _
        have hbb : (gi zs k == z) = true := by simpa using e
        go_wp2_with fail
        go_ret
        exact ⟨ret_bool HV.out.symm, rfl⟩
      · have hbb : (gi zs k == z) = false := by simpa using e
        have HE := Lib.hid e
        clear e
        go_wp2_with fail
        go_round
        case rel =>
          refine ⟨k + 1, by omega, by go_num, fun j hj => ?_⟩
          rcases Nat.lt_or_ge j k with hh | hh
          · exact HK.out j hh
          · obtain rfl : j = k := by omega
            exact HE.out
        case measure => simp [intOf]; omega
    · obtain rfl : k = n := by omega
      have HV : Hid (hasB zs z = false) := by
        show _ = _
        unfold hasB
        rw [decide_eq_false_iff_not]
        intro hm
        obtain ⟨j, hj, rfl⟩ := List.mem_iff_getElem.1 hm
        refine HK.out j (by have := hl.out; omega) ?_
        simp [gi, List.getD, List.getElem?_eq_getElem hj]
      go_wp2
      go_ret
      exact ⟨ret_bool HV.out.symm, rfl⟩
end Go.Proofs.YtgcpobondcnjcaaGreatDoor
namespace Go.Proofs.YtgcpobondcnjcaaGreatDoor
open Go.ChangeShapes Go.WideShapes Go.ChangeAt Go.RowKit Go.Deep
set_option linter.unusedVariables false

/-! The least girth. -/
theorem girthFrom_law (r t : Int) : ∀ (k : Nat) (g : Int), girthFrom r t k g = (0, 3) ∨ ((girthFrom r t k g).2 = 0 ∧ g ≤ (girthFrom r t k g).1 ∧ (girthFrom r t k g).1 < g + k ∧ r ≤ rodsB (girthFrom r t k g).1 t ∧ (g < (girthFrom r t k g).1 → rodsB ((girthFrom r t k g).1 - 1) t < r))
  | 0, g => .inl rfl
  | k + 1, g => by
    by_cases h : r ≤ rodsB g t
    · have e : girthFrom r t (k + 1) g = (g, 0) := by rw [girthFrom, if_pos h]
      rw [e]
      exact .inr ⟨rfl, Int.le_refl _, by simp only; omega, h, fun h => absurd h (by simp)⟩
    · have e : girthFrom r t (k + 1) g = girthFrom r t k (g + 1) := by rw [girthFrom, if_neg h]
      rw [e]
      rcases girthFrom_law r t k (g + 1) with h1 | ⟨h1, h2, h3, h4, h5⟩
      · exact .inl h1
      · refine .inr ⟨h1, by omega, by omega, h4, fun _ => ?_⟩
        rcases Int.lt_or_le (g + 1) (girthFrom r t k (g + 1)).1 with q | q
        · exact h5 q
        · have e2 : (girthFrom r t k (g + 1)).1 = g + 1 := by omega
          rw [e2, show g + 1 - 1 = g by omega]; omega
theorem girth_cases {p : Prop} (r t : Int) (g c : Int) (hg : girthV r t = (g, c))
    (h1 : c = 2 → p) (h2 : c = 3 → p)
    (h3 : ∀ x, c = 0 → g = 10 → rodsV 10 t = (x, 0) → ¬ x < r → p)
    (h4 : ∀ x y, c = 0 → ¬ g = 10 → 10 ≤ g → g ≤ 2000 → rodsV g t = (x, 0) → ¬ x < r → rodsV (g - 1) t = (y, 0) → y < r → p) : p := by
  unfold girthV at hg
  rcases hr : inR r 1 100000 with _ | _
  · rw [hr] at hg; simp at hg; exact h1 hg.2.symm
  · rcases ht : inR t 1 300 with _ | _
    · rw [hr, ht] at hg; simp at hg; exact h1 hg.2.symm
    · rw [hr, ht] at hg
      simp only [Bool.and_self, if_true] at hg
      have hl := girthFrom_law r t 1991 10
      rw [hg] at hl
      rcases hl with h | ⟨q1, q2, q3, q4, q5⟩
      · injection h with _ h; exact h2 h
      · simp only at q1 q2 q3 q4 q5
        have hin : inR g 10 2000 = true := by simp [inR]; omega
        have e : rodsV g t = (rodsB g t, 0) := by simp [rodsV, hin, ht]
        by_cases h10 : g = 10
        · subst h10
          exact h3 _ q1 rfl e (by omega)
        · have hin2 : inR (g - 1) 10 2000 = true := by simp [inR]; omega
          exact h4 _ (rodsB (g - 1) t) q1 h10 q2 (by omega) e (by omega) (by simp [rodsV, hin2, ht]) (q5 (by omega))

/-! Sorted bundles rise. -/
theorem sb_rise {zs : List Int} {n : Nat} (i : Nat) (h0 : 0 < i) (h : i < sbN zs n) :
    ¬ gi (sbV zs n) (i * 3) < gi (sbV zs n) ((i - 1) * 3) ∧ (gi (sbV zs n) ((i - 1) * 3) = gi (sbV zs n) (i * 3) → ¬ gi (sbV zs n) (i * 3 + 2) < gi (sbV zs n) ((i - 1) * 3 + 2)) := by
  unfold sbN at h
  split at h
  · next hok =>
    have hV : sbV zs n = flB zs (stTo (bK zs n) n) := by unfold sbV; rw [if_pos hok]
    have hlen : (stTo (bK zs n) n).length = n := stTo_len _ _
    have hpw := stTo_pw (bK zs n) n
    have hp := (List.pairwise_iff_getElem.1 hpw) (i - 1) i (by omega) (by omega) (by omega)
    have ea : ∀ (j : Nat) (hj : j < (stTo (bK zs n) n).length), gi (stTo (bK zs n) n) j = (stTo (bK zs n) n)[j] := fun j hj => by simp [gi, List.getD, List.getElem?_eq_getElem hj]
    rw [← ea _ (by omega), ← ea _ (by omega)] at hp
    obtain ⟨a, ha, han⟩ : ∃ a : Nat, gi (stTo (bK zs n) n) (i - 1) = a ∧ a < n := by
      have := stTo_mem _ _ _ (gi_mem3 (L := stTo (bK zs n) n) (i := i - 1) (by omega))
      exact ⟨_, (Int.toNat_of_nonneg this.1).symm, by omega⟩
    obtain ⟨b, hb, hbn⟩ : ∃ b : Nat, gi (stTo (bK zs n) n) i = b ∧ b < n := by
      have := stTo_mem _ _ _ (gi_mem3 (L := stTo (bK zs n) n) (i := i) (by omega))
      exact ⟨_, (Int.toNat_of_nonneg this.1).symm, by omega⟩
    rw [ha, hb] at hp
    have f0 := fun (j c : Nat) (hj : j < n) (hc : c < 3) => flB_at zs (stTo (bK zs n) n) j c (by omega) hc
    have a0 := f0 (i - 1) 0 (by omega) (by omega)
    have a2 := f0 (i - 1) 2 (by omega) (by omega)
    have b0 := f0 i 0 (by omega) (by omega)
    have b2 := f0 i 2 (by omega) (by omega)
    rw [ha, Int.toNat_natCast] at a0 a2
    rw [hb, Int.toNat_natCast] at b0 b2
    simp only [Nat.add_zero] at a0 b0
    rw [hV, a0, a2, b0, b2]
    have wa := bunchOk_bd (okAll_get hok han)
    have wb := bunchOk_bd (okAll_get hok hbn)
    simp only [Rk, bK, clB_in zs han, clB_in zs hbn, Nat.add_zero] at hp
    omega
  · omega

/-! Sums over places. -/
theorem sumOver_from (f : Nat → Int) : ∀ (L : List Int) (s : Int), L.foldl (fun s c => s + f c.toNat) s = s + sumOver f L
  | [], s => by simp [sumOver]
  | x :: L, s => by
    have h1 := sumOver_from f L (s + f x.toNat)
    have h2 := sumOver_from f L (0 + f x.toNat)
    simp only [sumOver, List.foldl_cons] at h1 h2 ⊢
    rw [h1, h2]; omega
theorem sumOver_cons (f : Nat → Int) (x : Int) (L : List Int) : sumOver f (x :: L) = f x.toNat + sumOver f L := by
  have := sumOver_from f L (0 + f x.toNat)
  show List.foldl _ _ _ = _
  rw [List.foldl_cons, this]; omega
theorem sumOver_perm (f : Nat → Int) {L M : List Int} (h : L.Perm M) : sumOver f L = sumOver f M := by
  induction h with
  | nil => rfl
  | cons x _ ih => rw [sumOver_cons, sumOver_cons, ih]
  | swap x y L => rw [sumOver_cons, sumOver_cons, sumOver_cons, sumOver_cons]; omega
  | trans _ _ h1 h2 => rw [h1, h2]
theorem sumTo_eq {f g : Nat → Int} : ∀ n : Nat, (∀ i, i < n → f i = g i) → sumTo f n = sumTo g n
  | 0, _ => rfl
  | n + 1, h => by rw [sumTo_succ, sumTo_succ, sumTo_eq n fun i hi => h i (by omega), h n (by omega)]
theorem sumTo_one {f g : Nat → Int} {i : Nat} {x : Int} (hne : ∀ j, j ≠ i → f j = g j) (he : f i = g i + x) : ∀ n : Nat, i < n → sumTo f n = sumTo g n + x
  | 0, h => absurd h (by omega)
  | n + 1, h => by
    rw [sumTo_succ, sumTo_succ]
    rcases Nat.lt_or_ge i n with q | q
    · rw [sumTo_one hne he n q, hne n (by omega)]; omega
    · obtain rfl : i = n := by omega
      rw [sumTo_eq i fun j hj => hne j (by omega), he]; omega
theorem sumOver_take (f : Nat → Int) (L : List Int) : ∀ k : Nat, k ≤ L.length → sumOver f (L.take k) = sumTo (fun i => f (gi L i).toNat) k
  | 0, _ => by simp [sumOver, sumTo]
  | k + 1, h => by rw [take_snoc (by omega), sumOver_snoc, sumOver_take f L k (by omega), sumTo_succ]

/-! What the cart bears. -/
theorem fcTo_law {zs : List Int} {n : Nat} {bears : Int} (h0 : 0 ≤ bears) : ∀ K : Nat, K ≤ 2 ^ n →
    (∃ T, T < 2 ^ n ∧ (fcTo zs n bears K).1 = selTo (Nat.testBit T) n ∧ (fcTo zs n bears K).2 = wsum zs n T) ∧ (fcTo zs n bears K).2 ≤ bears ∧ ∀ U, U < K → wsum zs n U ≤ bears → wsum zs n U ≤ (fcTo zs n bears K).2
  | 0, _ => by
    refine ⟨⟨0, Nat.two_pow_pos n, ?_, ?_⟩, h0, fun U h => absurd h (by omega)⟩
    · have : (Nat.testBit 0) = fun _ => false := by funext i; simp
      rw [this, sel_none]; rfl
    · have : ∀ m : Nat, sumTo (fun i => if Nat.testBit 0 i then wOf zs i else 0) m = 0 := by
        intro m
        induction m with
        | zero => rfl
        | succ m ih => rw [sumTo_succ, ih]; simp
      exact (this n).symm
  | S + 1, hS => by
    obtain ⟨⟨T, h1, h2, h3⟩, h4, h5⟩ := fcTo_law (zs := zs) (n := n) h0 S (by omega)
    rw [fcTo_succ]
    split
    · next hc =>
      refine ⟨⟨S, by omega, rfl, rfl⟩, hc.1, fun U hU hb => ?_⟩
      simp only
      rcases Nat.lt_or_ge U S with q | q
      · have := h5 U q hb
        rcases hc.2 with q2 | q2 <;> omega
      · obtain rfl : U = S := by omega
        exact Int.le_refl _
    · next hc =>
      refine ⟨⟨T, h1, h2, h3⟩, h4, fun U hU hb => ?_⟩
      rcases Nat.lt_or_ge U S with q | q
      · exact h5 U q hb
      · obtain rfl : U = S := by omega
        rcases Int.lt_or_le (fcTo zs n bears U).2 (wsum zs n U) with q2 | q2
        · exact absurd ⟨hb, .inl q2⟩ hc
        · exact q2
theorem wsum_or {zs : List Int} {n T i : Nat} (hi : i < n) (h : T.testBit i = false) : wsum zs n (T ||| 2 ^ i) = wsum zs n T + wOf zs i := by
  refine sumTo_one (fun j hj => ?_) ?_ n hi
  · rw [Nat.testBit_or, Nat.testBit_two_pow_of_ne (by omega), Bool.or_false]
  · rw [Nat.testBit_or, Nat.testBit_two_pow_self, h]; simp
/-- What FitCart tells. -/
theorem fc_law {zs : List Int} {n : Nat} {bears : Int} (h : fcC zs n bears = 0) :
    okAll (bunchAt zs) n 30 = true ∧ n ≤ 10 ∧ 0 ≤ bears ∧ bears ≤ 1000000 ∧ (∀ i, i < (fcL zs n bears).length → 0 ≤ gi (fcL zs n bears) i ∧ gi (fcL zs n bears) i < n) ∧ (fcL zs n bears).length ≤ n ∧
      sumOver (wOf zs) (fcL zs n bears) = fcV zs n bears ∧ 0 ≤ fcV zs n bears ∧ fcV zs n bears ≤ bears ∧ ∀ i : Nat, i < n → ¬ (i : Int) ∈ fcL zs n bears → ¬ fcV zs n bears + gi zs (i * 3 + 2) ≤ bears := by
  unfold fcC at h
  split at h
  · next hok =>
    split at h
    · next hr =>
      split at h
      · next h10 =>
        have hb := inR_true hr
        have hK : fcOk zs n bears = true := by simp [fcOk, hok, hr, h10]
        have eL : fcL zs n bears = (fcTo zs n bears (2 ^ n)).1 := by unfold fcL; rw [if_pos hK]
        have eV : fcV zs n bears = (fcTo zs n bears (2 ^ n)).2 := by unfold fcV; rw [if_pos hK]
        obtain ⟨⟨T, h1, h2, h3⟩, h4, h5⟩ := fcTo_law (zs := zs) (n := n) hb.1 (2 ^ n) (Nat.le_refl _)
        rw [← eL] at h2
        rw [← eV] at h3 h4 h5
        have hs := wsum_bd hok (Nat.testBit T) n (Nat.le_refl _)
        refine ⟨hok, h10, hb.1, hb.2, ?_, ?_, ?_, ?_, h4, fun i hi hm hle => ?_⟩
        · rw [h2]; exact Cuts3.sel _ n
        · rw [h2]; exact selTo_len _ n
        · rw [h2, sumOver_sel, h3]; rfl
        · rw [h3]; exact hs.1
        · have hT : T.testBit i = false := by
            rw [h2, sel_has _ n i hi] at hm
            simpa using hm
          have hw := wOf_bd hok hi
          have hU := wsum_or (zs := zs) hi hT
          have := h5 (T ||| 2 ^ i) (Nat.or_lt_two_pow h1 (Nat.pow_lt_pow_right (by omega) hi)) (by rw [hU, ← h3]; exact hle)
          rw [hU, ← h3] at this
          omega
      · cases h
    · cases h
  · cases h
theorem srt_perm (L : List Int) : (srt L).Perm L := List.mergeSort_perm L _
/-- What FewestBunches tells. -/
theorem fw_law {zs : List Int} {n : Nat} {need : Int} (h : fwC zs n need = 0) :
    okAll (bunchAt zs) n 30 = true ∧ need ≤ 1000000 ∧ (∀ i, i < (fwL zs n need).length → 0 ≤ gi (fwL zs n need) i ∧ gi (fwL zs n need) i < n) ∧ (fwL zs n need).length ≤ n ∧ ¬ sumOver (wOf zs) (fwL zs n need) < need := by
  unfold fwC at h
  split at h
  · next hok =>
    split at h
    · next hr =>
      split at h
      · next hge =>
        have eL : fwL zs n need = srt ((fwO zs n).take (fwQ zs n need)) := by unfold fwL; rw [hok, hr, decide_eq_true hge]; rfl
        have hQ : fwQ zs n need ≤ n := stopAt_le _ n
        have hO : (fwO zs n).length = n := stTo_len _ _
        have hmem : ∀ z ∈ fwL zs n need, 0 ≤ z ∧ z < (n : Int) := fun z hz => by
          rw [eL] at hz
          exact stTo_mem _ _ _ (List.mem_of_mem_take (srt_mem.1 hz))
        refine ⟨hok, (inR_true hr).2, fun i hi => hmem _ (gi_mem3 hi), ?_, ?_⟩
        · rw [eL, srt_len, List.length_take]; omega
        · rw [eL, sumOver_perm _ (srt_perm _), sumOver_take _ _ _ (by omega)]
          have e : fwS zs n (fwQ zs n need) = sumTo (fun i => wOf zs (gi (fwO zs n) i).toNat) (fwQ zs n need) := by
            refine sumTo_eq _ fun i hi => ?_
            obtain ⟨p, h1, h2⟩ := fwO_at zs (n := n) (j := i) (by omega)
            rw [h1, wtK_in zs h2]; rfl
          rw [← e]; omega
      · cases h
    · cases h
  · cases h
/-! Lengths. -/
theorem fcL_len (zs : List Int) (n : Nat) (bears : Int) : (fcL zs n bears).length ≤ n := by
  unfold fcL; split
  · exact fcTo_len zs n bears _
  · simp
theorem fwL_len (zs : List Int) (n : Nat) (need : Int) : (fwL zs n need).length ≤ n := by
  unfold fwL; split
  · rw [srt_len, List.length_take]
    have : (fwO zs n).length = n := stTo_len _ _
    omega
  · simp
theorem sbN_le (zs : List Int) (n : Nat) : sbN zs n ≤ n := by unfold sbN; split <;> omega
theorem sbV_wf {zs : List Int} {n : Nat} (hw : ∀ z ∈ zs, -9223372036854775808 ≤ z ∧ z ≤ 9223372036854775807) : ∀ z ∈ sbV zs n, -9223372036854775808 ≤ z ∧ z ≤ 9223372036854775807 := by
  unfold sbV; split
  · exact fun z hz => flB_mem hz hw
  · simp
theorem eqZ_self (zs : List Int) : eqZ zs zs = true := by rw [eqZ, decide_eq_true_iff]
end Go.Proofs.YtgcpobondcnjcaaGreatDoor
