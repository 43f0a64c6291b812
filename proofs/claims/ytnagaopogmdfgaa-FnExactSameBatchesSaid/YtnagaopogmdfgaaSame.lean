/-
  Equal lists of structs of whole numbers: the reference's look and slices.Equal.
  No conditions.
-/
import Derived.Test.YtnagaopogmdfgaaConv
import Derived.WalkLawsBesides
import Derived.Laws.StructEq
namespace Go.Proofs.Ytnagaopogmdfgaa
open Go.ChangeShapes Go.WideShapes Go.ChangeAt Go.RowKit Go.Deep

def eqZ (zs ys : List Int) : Bool := decide (zs = ys)
theorem eqZ_ne {zs ys : List Int} (j : Nat) (h : gi zs j ≠ gi ys j) : eqZ zs ys = false := by
  rw [eqZ, decide_eq_false_iff_not]; rintro rfl; exact h rfl
theorem eqZ_len {zs ys : List Int} (h : zs.length ≠ ys.length) : eqZ zs ys = false := by
  rw [eqZ, decide_eq_false_iff_not]; rintro rfl; exact h rfl
theorem gi_ext {zs ys : List Int} (hl : zs.length = ys.length) (h : ∀ j, j < zs.length → gi zs j = gi ys j) : zs = ys := by
  apply List.ext_getElem hl
  intro j h1 h2
  have := h j h1
  simpa [gi, List.getD, List.getElem?_eq_getElem h1, List.getElem?_eq_getElem h2] using this
theorem eqZ_end {zs ys : List Int} (hl : zs.length = ys.length) (h : ∀ j, j < zs.length → gi zs j = gi ys j) : eqZ zs ys = true := by
  rw [eqZ, decide_eq_true_iff]; exact gi_ext hl h

theorem neqBatch (w : World) (a b c d x y z u : Int) : (binOp .neq 32 (.agg #[.int .i64 a, .int .i64 b, .int .i64 c, .int .i64 d]) (.agg #[.int .i64 x, .int .i64 y, .int .i64 z, .int .i64 u])).run Try.prog w =
    .ok (.bool (!(a == x && b == y && c == z && d == u))) w := by
  have hS : Try.prog.underlying 32 = some (.struct (Try.prog.fieldsOf 32)) := by kernel_rfl
  have hp : Try.prog.stoodInHeld 32 = false := by kernel_rfl
  have ui := Try.underlying2
  rw [run_neq_struct, show (10000 : Nat) = 9999 + 1 from rfl, run_equalIn_agg w 9999 32 _ _ hS hp]
  simp only [Program.fieldsOf, Try.underlying32]
  go_simp
  by_cases h1 : a = x <;> by_cases h2 : b = y <;> by_cases h3 : c = z <;> by_cases h4 : d = u <;> simp [h1, h2, h3, h4]

theorem grdBatch (op : BinOp) (x y : Operand) (xs ys : Array Value) (w : World) : (eqGuard op 32 x y (.agg xs) (.agg ys)).run Try.prog w = .ok () w :=
  run_eqGuard_agg w op _ x y xs ys (by kernel_rfl)

set_option maxRecDepth 100000 in
set_option maxHeartbeats 1000000 in
theorem SameBatches_s (A A' : Option Addr) (n m c c' : Nat) (zs ys : List Int) (w : World) (h : Ints w w.heap.size 4 A n zs) (h' : Ints w w.heap.size 4 A' m ys) (hn : n ≤ 1048576) (hm : m ≤ 1048576) :
    Calls Try.prog 26 #[.slice A n c, .slice A' m c'] w fun e w' => e = .returned (.bool (eqZ zs ys)) ∧ Below w.heap.size w w' := by
  have hq := neqBatch
  have hg := grdBatch
  have l1 := h.length
  have l2 := h'.length
  by_cases hnm : n = m
  · subst hnm
    have HL := Lib.hid l1
    have HL' := Lib.hid l2
    clear l1 l2
    go_enter Try.func26, Try.ntmps26
    go_wp2_with fail
    go_loopw [5] (fun i wr => ∃ k : Nat, k ≤ n ∧ i = .int .i64 k ∧ Below w.heap.size w wr ∧ Hid (∀ j, j < k * 4 → gi zs j = gi ys j)) (fun i _ => n - (intOf i).toNat)
    case atStart => exact ⟨0, Nat.zero_le _, rfl, Below.refl _ _, fun j h => absurd h (by omega)⟩
    case round =>
      obtain ⟨k, hk, rfl, hbel, HK⟩ := hrel
      by_cases hlt : k < n
      · obtain ⟨b, off, rfl, hb, c0, c1, c2, c3⟩ := (h.below hbel (Nat.le_refl _)).at4 hlt
        obtain ⟨b', off', rfl, hb', c0', c1', c2', c3'⟩ := (h'.below hbel (Nat.le_refl _)).at4 hlt
        by_cases e0 : gi zs (k * 4) = gi ys (k * 4) ∧ gi zs (k * 4 + 1) = gi ys (k * 4 + 1) ∧ gi zs (k * 4 + 2) = gi ys (k * 4 + 2) ∧ gi zs (k * 4 + 3) = gi ys (k * 4 + 3)
        · have HE := Lib.hid e0
          have hbb : (!(gi zs (k * 4) == gi ys (k * 4) && gi zs (k * 4 + 1) == gi ys (k * 4 + 1) && gi zs (k * 4 + 2) == gi ys (k * 4 + 2) && gi zs (k * 4 + 3) == gi ys (k * 4 + 3))) = false := by
            obtain ⟨x0, x1, x2, x3⟩ := e0
            rw [x0, x1, x2, x3]; simp
          clear e0
          go_wp2_with fail
          go_quiet (fail)
          go_wp2_with fail
          go_roundw
          case rel =>
            refine ⟨k + 1, by omega, by go_num, bdrewN hbel _, fun j hj => ?_⟩
            obtain ⟨x0, x1, x2, x3⟩ := HE.out
            rcases (by omega : j < k * 4 ∨ j = k * 4 ∨ j = k * 4 + 1 ∨ j = k * 4 + 2 ∨ j = k * 4 + 3) with hh | rfl | rfl | rfl | rfl
            · exact HK.out j hh
            · exact x0
            · exact x1
            · exact x2
            · exact x3
          case measure => simp [intOf]; omega
        · have HV : Hid (eqZ zs ys = false) := by
            show _ = _
            rcases hz : eqZ zs ys with _ | _
            · rfl
            · rw [eqZ, decide_eq_true_iff] at hz; subst hz; exact absurd ⟨rfl, rfl, rfl, rfl⟩ e0
          have hbb : (!(gi zs (k * 4) == gi ys (k * 4) && gi zs (k * 4 + 1) == gi ys (k * 4 + 1) && gi zs (k * 4 + 2) == gi ys (k * 4 + 2) && gi zs (k * 4 + 3) == gi ys (k * 4 + 3))) = true := by
            rw [Bool.not_eq_true', Bool.eq_false_iff]
            intro hh
            simp only [Bool.and_eq_true, beq_iff_eq] at hh
            exact e0 (by simpa only [and_assoc] using hh)
          clear e0
          go_wp2_with fail
          go_quiet (fail)
          go_wp2_with fail
          go_ret
          exact ⟨ret_bool HV.out.symm, bdrewN hbel _⟩
      · obtain rfl : k = n := by omega
        go_wp2
        go_ret
        refine ⟨ret_bool ?_, hbel⟩
        have a1 := HL.out
        have a2 := HL'.out
        exact (eqZ_end (by omega) (fun j hj => HK.out j (by omega))).symm
  · have hv := eqZ_len (zs := zs) (ys := ys) (by omega)
    have hne : ((n : Int) != (m : Int)) = true := by rw [bne_iff_ne]; omega
    rw [hv]; clear hv l1 l2
    go_enter Try.func26, Try.ntmps26
    go_wp2
    go_ret
    exact ⟨rfl, Below.refl _ _⟩

set_option maxRecDepth 100000 in
set_option maxHeartbeats 1000000 in
theorem EqualBatch_c (A A' : Option Addr) (n m c c' : Nat) (zs ys : List Int) (w : World) (h : Ints w w.heap.size 4 A n zs) (h' : Ints w w.heap.size 4 A' m ys) (hn : n ≤ 1048576) (hm : m ≤ 1048576) :
    Calls Try.prog 51 #[.slice A n c, .slice A' m c'] w fun e w' => e = .returned (.bool (eqZ zs ys)) ∧ Below w.heap.size w w' := by
  have hq := neqBatch
  have hg := grdBatch
  have l1 := h.length
  have l2 := h'.length
  by_cases hnm : n = m
  · subst hnm
    have HL := Lib.hid l1
    have HL' := Lib.hid l2
    clear l1 l2
    go_enter Try.func51, Try.ntmps51
    go_wp2_with fail
    go_loopw [13] (fun i wr => ∃ k : Nat, k ≤ n ∧ i = .int .i64 k ∧ Below w.heap.size w wr ∧ Hid (∀ j, j < k * 4 → gi zs j = gi ys j)) (fun i _ => n - (intOf i).toNat)
    case atStart => exact ⟨0, Nat.zero_le _, rfl, Below.refl _ _, fun j h => absurd h (by omega)⟩
    case round =>
      obtain ⟨k, hk, rfl, hbel, HK⟩ := hrel
      by_cases hlt : k < n
      · obtain ⟨b, off, rfl, hb, c0, c1, c2, c3⟩ := (h.below hbel (Nat.le_refl _)).at4 hlt
        obtain ⟨b', off', rfl, hb', c0', c1', c2', c3'⟩ := (h'.below hbel (Nat.le_refl _)).at4 hlt
        by_cases e0 : gi zs (k * 4) = gi ys (k * 4) ∧ gi zs (k * 4 + 1) = gi ys (k * 4 + 1) ∧ gi zs (k * 4 + 2) = gi ys (k * 4 + 2) ∧ gi zs (k * 4 + 3) = gi ys (k * 4 + 3)
        · have HE := Lib.hid e0
          have hbb : (!(gi zs (k * 4) == gi ys (k * 4) && gi zs (k * 4 + 1) == gi ys (k * 4 + 1) && gi zs (k * 4 + 2) == gi ys (k * 4 + 2) && gi zs (k * 4 + 3) == gi ys (k * 4 + 3))) = false := by
            obtain ⟨x0, x1, x2, x3⟩ := e0
            rw [x0, x1, x2, x3]; simp
          clear e0
          go_wp2_with fail
          go_quiet (fail)
          go_wp2_with fail
          go_roundw
          case rel =>
            refine ⟨k + 1, by omega, by go_num, bdrewN hbel _, fun j hj => ?_⟩
            obtain ⟨x0, x1, x2, x3⟩ := HE.out
            rcases (by omega : j < k * 4 ∨ j = k * 4 ∨ j = k * 4 + 1 ∨ j = k * 4 + 2 ∨ j = k * 4 + 3) with hh | rfl | rfl | rfl | rfl
            · exact HK.out j hh
            · exact x0
            · exact x1
            · exact x2
            · exact x3
          case measure => simp [intOf]; omega
        · have HV : Hid (eqZ zs ys = false) := by
            show _ = _
            rcases hz : eqZ zs ys with _ | _
            · rfl
            · rw [eqZ, decide_eq_true_iff] at hz; subst hz; exact absurd ⟨rfl, rfl, rfl, rfl⟩ e0
          have hbb : (!(gi zs (k * 4) == gi ys (k * 4) && gi zs (k * 4 + 1) == gi ys (k * 4 + 1) && gi zs (k * 4 + 2) == gi ys (k * 4 + 2) && gi zs (k * 4 + 3) == gi ys (k * 4 + 3))) = true := by
            rw [Bool.not_eq_true', Bool.eq_false_iff]
            intro hh
            simp only [Bool.and_eq_true, beq_iff_eq] at hh
            exact e0 (by simpa only [and_assoc] using hh)
          clear e0
          go_wp2_with fail
          go_quiet (fail)
          go_wp2_with fail
          go_ret
          exact ⟨ret_bool HV.out.symm, bdrewN hbel _⟩
      · obtain rfl : k = n := by omega
        go_wp2
        go_ret
        refine ⟨ret_bool ?_, hbel⟩
        have a1 := HL.out
        have a2 := HL'.out
        exact (eqZ_end (by omega) (fun j hj => HK.out j (by omega))).symm
  · have hv := eqZ_len (zs := zs) (ys := ys) (by omega)
    have hne : ((n : Int) != (m : Int)) = true := by rw [bne_iff_ne]; omega
    rw [hv]; clear hv l1 l2
    go_enter Try.func51, Try.ntmps51
    go_wp2
    go_ret
    exact ⟨rfl, Below.refl _ _⟩


theorem SameBatches_i (A A' : Option Addr) (n m c c' : Nat) (zs ys : List Int) (w : World) (h : Ints w w.heap.size 4 A n zs) (h' : Ints w w.heap.size 4 A' m ys) (hn : n ≤ 1048576) (hm : m ≤ 1048576) :
    Calls Try.prog 27 #[.slice A n c, .slice A' m c'] w fun e w' => e = .returned (.bool (eqZ zs ys)) ∧ Below w.heap.size w w' := by
  go_enter Try.func27, Try.ntmps27
  go_wp2_with fail
  refine (EqualBatch_c _ _ _ _ _ _ zs ys _ h h' hn hm).mono ?_
  rintro e w1 ⟨rfl, hb1⟩
  go_wp2
  go_ret
  exact ⟨rfl, hb1⟩
end Go.Proofs.Ytnagaopogmdfgaa
