/-
  Equal lists of structs of whole numbers: the reference's look and slices.Equal.
  No conditions.
-/
import Derived.Test.YtjdijimmbggigaaConv
import Derived.WalkLawsBesides
import Derived.Laws.StructEq
namespace Go.Proofs.Ytjdijimmbggigaa
open Go.ChangeShapes Go.WideShapes Go.ChangeAt Go.RowKit Go.Deep

def eqZ (zs ys : List Int) : Bool := decide (zs = ys)
theorem eqZ_ne {zs ys : List Int} (j : Nat) (h : gi zs j ≠ gi ys j) : eqZ zs ys = false := by
  rw [eqZ, decide_eq_false_iff_not]; rintro rfl; exact h rfl
theorem eqZ_len {zs ys : List Int} (h : zs.length ≠ ys.length) : eqZ zs ys = false := by
  rw [eqZ, decide_eq_false_iff_not]; rintro rfl; exact h rfl
theorem gi_ext {zs ys : List Int} (hl : zs.length = ys.length) (h : ∀ j, j < zs.length → gi zs j = gi ys j) : zs = ys := by
  apply List.ext_getElem hl
  intro j h1 h2
  have := h j h1
  simpa [gi, List.getD, List.getElem?_eq_getElem h1, List.getElem?_eq_getElem h2] using this
theorem eqZ_end {zs ys : List Int} (hl : zs.length = ys.length) (h : ∀ j, j < zs.length → gi zs j = gi ys j) : eqZ zs ys = true := by
  rw [eqZ, decide_eq_true_iff]; exact gi_ext hl h

theorem neqBunch (w : World) (a b c x y z : Int) : (binOp .neq 56 (.agg #[.int .i64 a, .int .i64 b, .int .i64 c]) (.agg #[.int .i64 x, .int .i64 y, .int .i64 z])).run Try.prog w =
    .ok (.bool (!(a == x && b == y && c == z))) w := by
  have hS : Try.prog.underlying 56 = some (.struct (Try.prog.fieldsOf 56)) := by kernel_rfl
  have hp : Try.prog.stoodInHeld 56 = false := by kernel_rfl
  have u := Try.underlying2
  rw [run_neq_struct, show (10000 : Nat) = 9999 + 1 from rfl, run_equalIn_agg w 9999 56 _ _ hS hp]
  simp only [Program.fieldsOf, Try.underlying56]
  go_simp
  by_cases h1 : a = x <;> by_cases h2 : b = y <;> by_cases h3 : c = z <;> simp [h1, h2, h3]
theorem grdBunch (op : BinOp) (x y : Operand) (xs ys : Array Value) (w : World) : (eqGuard op 56 x y (.agg xs) (.agg ys)).run Try.prog w = .ok () w :=
  run_eqGuard_agg w op _ x y xs ys (by kernel_rfl)

set_option maxRecDepth 100000 in
theorem SameBunches_s (A A' : Option Addr) (n m c c' : Nat) (zs ys : List Int) (w : World) (h : Ints w w.heap.size 3 A n zs) (h' : Ints w w.heap.size 3 A' m ys) (hn : n ≤ 1048576) (hm : m ≤ 1048576) :
    Calls Try.prog 15 #[.slice A n c, .slice A' m c'] w fun e w' => e = .returned (.bool (eqZ zs ys)) ∧ Below w.heap.size w w' := by
  have hq := neqBunch
  have hg := grdBunch
  have l1 := h.length
  have l2 := h'.length
  by_cases hnm : n = m
  · subst hnm
    have HL := Lib.hid l1
    have HL' := Lib.hid l2
    clear l1 l2
    go_enter Try.func15, Try.ntmps15
    go_wp2_with fail
    go_loopw [5] (fun i wr => ∃ k : Nat, k ≤ n ∧ i = .int .i64 k ∧ Below w.heap.size w wr ∧ Hid (∀ j, j < k * 3 → gi zs j = gi ys j)) (fun i _ => n - (intOf i).toNat)
    case atStart => exact ⟨0, Nat.zero_le _, rfl, Below.refl _ _, fun j h => absurd h (by omega)⟩
    case round =>
      obtain ⟨k, hk, rfl, hbel, HK⟩ := hrel
      by_cases hlt : k < n
      · obtain ⟨b, off, rfl, hb, c0, c1, c2⟩ := (h.below hbel (Nat.le_refl _)).at3 hlt
        obtain ⟨b', off', rfl, hb', c0', c1', c2'⟩ := (h'.below hbel (Nat.le_refl _)).at3 hlt
        by_cases e0 : gi zs (k * 3) = gi ys (k * 3) ∧ gi zs (k * 3 + 1) = gi ys (k * 3 + 1) ∧ gi zs (k * 3 + 2) = gi ys (k * 3 + 2)
        · have HE := Lib.hid e0
          have hbb : (!(gi zs (k * 3) == gi ys (k * 3) && gi zs (k * 3 + 1) == gi ys (k * 3 + 1) && gi zs (k * 3 + 2) == gi ys (k * 3 + 2))) = false := by
            obtain ⟨x, y, z⟩ := e0
            rw [x, y, z]; simp
          clear e0
          go_wp2_with fail
          go_quiet (fail)
          go_wp2_with fail
          go_roundw
          case rel =>
            refine ⟨k + 1, by omega, by go_num, bdrewN hbel _, fun j hj => ?_⟩
            obtain ⟨x, y, z⟩ := HE.out
            rcases (by omega : j < k * 3 ∨ j = k * 3 ∨ j = k * 3 + 1 ∨ j = k * 3 + 2) with hh | rfl | rfl | rfl
            · exact HK.out j hh
            · exact x
            · exact y
            · exact z
          case measure => simp [intOf]; omega
        · have HV : Hid (eqZ zs ys = false) := by
            show _ = _
            by_cases x : gi zs (k * 3) = gi ys (k * 3)
            · by_cases y : gi zs (k * 3 + 1) = gi ys (k * 3 + 1)
              · exact eqZ_ne (k * 3 + 2) (fun z => e0 ⟨x, y, z⟩)
              · exact eqZ_ne _ y
            · exact eqZ_ne _ x
          have hbb : (!(gi zs (k * 3) == gi ys (k * 3) && gi zs (k * 3 + 1) == gi ys (k * 3 + 1) && gi zs (k * 3 + 2) == gi ys (k * 3 + 2))) = true := by
            rw [Bool.not_eq_true', Bool.eq_false_iff]
            intro hh
            simp only [Bool.and_eq_true, beq_iff_eq] at hh
            exact e0 ⟨hh.1.1, hh.1.2, hh.2⟩
          clear e0
          go_wp2_with fail
          go_quiet (fail)
          go_wp2_with fail
          go_ret
          exact ⟨ret_bool HV.out.symm, bdrewN hbel _⟩
      · obtain rfl : k = n := by omega
        go_wp2
        go_ret
        refine ⟨ret_bool ?_, hbel⟩
        have a1 := HL.out
        have a2 := HL'.out
        exact (eqZ_end (by omega) (fun j hj => HK.out j (by omega))).symm
  · have hv := eqZ_len (zs := zs) (ys := ys) (by omega)
    have hne : ((n : Int) != (m : Int)) = true := by rw [bne_iff_ne]; omega
    rw [hv]; clear hv l1 l2
    go_enter Try.func15, Try.ntmps15
    go_wp2
    go_ret
    exact ⟨rfl, Below.refl _ _⟩

set_option maxRecDepth 100000 in
theorem EqualBunch_c (A A' : Option Addr) (n m c c' : Nat) (zs ys : List Int) (w : World) (h : Ints w w.heap.size 3 A n zs) (h' : Ints w w.heap.size 3 A' m ys) (hn : n ≤ 1048576) (hm : m ≤ 1048576) :
    Calls Try.prog 45 #[.slice A n c, .slice A' m c'] w fun e w' => e = .returned (.bool (eqZ zs ys)) ∧ Below w.heap.size w w' := by
  have hq := neqBunch
  have hg := grdBunch
  have l1 := h.length
  have l2 := h'.length
  by_cases hnm : n = m
  · subst hnm
    have HL := Lib.hid l1
    have HL' := Lib.hid l2
    clear l1 l2
    go_enter Try.func45, Try.ntmps45
    go_wp2_with fail
    go_loopw [13] (fun i wr => ∃ k : Nat, k ≤ n ∧ i = .int .i64 k ∧ Below w.heap.size w wr ∧ Hid (∀ j, j < k * 3 → gi zs j = gi ys j)) (fun i _ => n - (intOf i).toNat)
    case atStart => exact ⟨0, Nat.zero_le _, rfl, Below.refl _ _, fun j h => absurd h (by omega)⟩
    case round =>
      obtain ⟨k, hk, rfl, hbel, HK⟩ := hrel
      by_cases hlt : k < n
      · obtain ⟨b, off, rfl, hb, c0, c1, c2⟩ := (h.below hbel (Nat.le_refl _)).at3 hlt
        obtain ⟨b', off', rfl, hb', c0', c1', c2'⟩ := (h'.below hbel (Nat.le_refl _)).at3 hlt
        by_cases e0 : gi zs (k * 3) = gi ys (k * 3) ∧ gi zs (k * 3 + 1) = gi ys (k * 3 + 1) ∧ gi zs (k * 3 + 2) = gi ys (k * 3 + 2)
        · have HE := Lib.hid e0
          have hbb : (!(gi zs (k * 3) == gi ys (k * 3) && gi zs (k * 3 + 1) == gi ys (k * 3 + 1) && gi zs (k * 3 + 2) == gi ys (k * 3 + 2))) = false := by
            obtain ⟨x, y, z⟩ := e0
            rw [x, y, z]; simp
          clear e0
          go_wp2_with fail
          go_quiet (fail)
          go_wp2_with fail
          go_roundw
          case rel =>
            refine ⟨k + 1, by omega, by go_num, bdrewN hbel _, fun j hj => ?_⟩
            obtain ⟨x, y, z⟩ := HE.out
            rcases (by omega : j < k * 3 ∨ j = k * 3 ∨ j = k * 3 + 1 ∨ j = k * 3 + 2) with hh | rfl | rfl | rfl
            · exact HK.out j hh
            · exact x
            · exact y
            · exact z
          case measure => simp [intOf]; omega
        · have HV : Hid (eqZ zs ys = false) := by
            show _ = _
            by_cases x : gi zs (k * 3) = gi ys (k * 3)
            · by_cases y : gi zs (k * 3 + 1) = gi ys (k * 3 + 1)
              · exact eqZ_ne (k * 3 + 2) (fun z => e0 ⟨x, y, z⟩)
              · exact eqZ_ne _ y
            · exact eqZ_ne _ x
          have hbb : (!(gi zs (k * 3) == gi ys (k * 3) && gi zs (k * 3 + 1) == gi ys (k * 3 + 1) && gi zs (k * 3 + 2) == gi ys (k * 3 + 2))) = true := by
            rw [Bool.not_eq_true', Bool.eq_false_iff]
            intro hh
            simp only [Bool.and_eq_true, beq_iff_eq] at hh
            exact e0 ⟨hh.1.1, hh.1.2, hh.2⟩
          clear e0
          go_wp2_with fail
          go_quiet (fail)
          go_wp2_with fail
          go_ret
          exact ⟨ret_bool HV.out.symm, bdrewN hbel _⟩
      · obtain rfl : k = n := by omega
        go_wp2
        go_ret
        refine ⟨ret_bool ?_, hbel⟩
        have a1 := HL.out
        have a2 := HL'.out
        exact (eqZ_end (by omega) (fun j hj => HK.out j (by omega))).symm
  · have hv := eqZ_len (zs := zs) (ys := ys) (by omega)
    have hne : ((n : Int) != (m : Int)) = true := by rw [bne_iff_ne]; omega
    rw [hv]; clear hv l1 l2
    go_enter Try.func45, Try.ntmps45
    go_wp2
    go_ret
    exact ⟨rfl, Below.refl _ _⟩


theorem SameBunches_i (A A' : Option Addr) (n m c c' : Nat) (zs ys : List Int) (w : World) (h : Ints w w.heap.size 3 A n zs) (h' : Ints w w.heap.size 3 A' m ys) (hn : n ≤ 1048576) (hm : m ≤ 1048576) :
    Calls Try.prog 17 #[.slice A n c, .slice A' m c'] w fun e w' => e = .returned (.bool (eqZ zs ys)) ∧ Below w.heap.size w w' := by
  go_enter Try.func17, Try.ntmps17
  go_wp2_with fail
  refine (EqualBunch_c _ _ _ _ _ _ zs ys _ h h' hn hm).mono ?_
  rintro e w1 ⟨rfl, hb1⟩
  go_wp2
  go_ret
  exact ⟨rfl, hb1⟩

end Go.Proofs.Ytjdijimmbggigaa
