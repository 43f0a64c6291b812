/-
  The verifier's marks: numbers written into a slice, and the look whether they are still there.
  No conditions.
-/
import Derived.Test.YtgcpobondcnjcaaInts
namespace Go.Proofs.Ytgcpobondcnjcaa
open Go.ChangeShapes Go.WideShapes Go.ChangeAt Go.RowKit Go.Deep

theorem grownBy_trans {a b c : World} {r : Option Nat} (h : a.grownBy b r) (k : b.grownBy c r) : a.grownBy c r :=
  ⟨k.os.trans h.os, k.tape.trans h.tape, k.output.trans h.output, Nat.le_trans h.size k.size, fun i hi hne => (k.block i (Nat.lt_of_lt_of_le hi h.size) hne).trans (h.block i hi hne)⟩
theorem grownBy_drewN {a b : World} {r : Option Nat} (h : a.grownBy b r) (n : Nat) : a.grownBy (b.drewN n) r := ⟨h.os, h.tape, h.output, h.size, h.block⟩
theorem below_grown {a b c : World} {r : Option Nat} (h : Below a.heap.size a b) (k : b.grownBy c r) (hr : ∀ g, r = some g → a.heap.size ≤ g) : Below a.heap.size a c := h.grown k h.size hr
/-- A block that was there and is not the one that is written stays. -/
theorem Blk.grown {w w' : World} {g : Nat} {t : TypeId} {cs : Array Value} {row : Option Nat} (h : Blk w g t cs) (hb : w.grownBy w' row) (hg : some g ≠ row) : Blk w' g t cs := (hb.block g h.lt hg).trans h
/-- The numbers k, k + 1, .. -/
def mkL (k : Int) (m : Nat) : List Int := (List.range m).map fun (j : Nat) => k + (j : Int)
theorem mkL_length (k : Int) (m : Nat) : (mkL k m).length = m := by simp [mkL]
theorem mkL_gi (k : Int) (m j : Nat) (h : j < m) : gi (mkL k m) j = k + j := by
  simp [gi, mkL, List.getD, h]
theorem mkL_set (k : Int) (zs : List Int) (m : Nat) (x : Int) (h : m < zs.length) (hx : x = k + m) : (iv (mkL k m ++ zs.drop m)).set m (.int .i64 x) = iv (mkL k (m + 1) ++ zs.drop (m + 1)) := by
  subst hx
  have e : zs.drop m = zs[m] :: zs.drop (m + 1) := List.drop_eq_getElem_cons h
  have e2 : mkL k (m + 1) = mkL k m ++ [k + m] := by simp [mkL, List.range_succ]
  rw [e, e2]
  unfold iv
  simp only [List.map_append, List.map_cons, List.map_nil]
  rw [List.set_append_right _ _ (by simp [mkL])]
  have e3 : m - (List.map (Value.int IntKind.i64) (mkL k m)).length = 0 := by rw [List.length_map, mkL_length]; omega
  rw [e3]
  simp only [List.set_cons_zero, List.append_assoc, List.cons_append, List.nil_append]
theorem own_cell {w : World} {base : Nat} {e : TypeId} {K g n cap : Nat} {L : List Value} (h : w.ownsRow base e K (.slice (some ⟨g, 0, none⟩) n cap) n L) (j : Nat) (hj : j < n * K) : ∃ u, w.cell? ⟨g, j, none⟩ = some u := by
  refine ⟨L[j]'(by rw [h.1]; exact hj), ?_⟩
  rw [h.cellAt j hj]; simp [h.1, hj]

set_option maxRecDepth 100000 in
set_option maxHeartbeats 1000000 in
theorem markInt64S_c (v : Value) (n : Nat) (zs : List Int) (q : Int) (w : World) (base : Nat) (h : w.ownsRow base 2 1 v n (iv zs)) (hn : n ≤ 1048576) (hq : 0 ≤ q) (hq2 : q ≤ 4503599627370496) :
    Calls Try.prog 15 #[v, .int .i64 q] w fun e w' => e = .returned (.int .i64 (q + (n : Int))) ∧ w'.ownsRow base 2 1 v n (iv (mkL q n)) ∧ w.grownBy w' v.ownBlock := by
  have hz : zs.length = n * 1 := by have := h.1; rwa [iv_length] at this
  rcases h.2 with ⟨rfl, rfl⟩ | ⟨g, cap, cur, rfl, _⟩
  · go_enter Try.func15, Try.ntmps15
    go_wp2_with fail
    refine wp_loop_rounds 1 ?_
    rw [rounds_succ]
    go_wp2
    go_ret
    exact ⟨by simp, by simpa [iv, mkL] using World.ownsRow_nil w base 2 1, World.grownBy.refl _ _⟩
  · have hn' : (n : Int) ≤ 1048576 := by omega
    go_enter Try.func15, Try.ntmps15
    go_wp2_with fail
    go_loopw [1, 5] (fun s i wr => ∃ k : Nat, k ≤ n ∧ i = .int .i64 k ∧ s = .int .i64 (q + (k : Int)) ∧ wr.ownsRow base 2 1 (.slice (some ⟨g, 0, none⟩) n cap) n (iv (mkL q k ++ zs.drop k)) ∧ w.grownBy wr (some g)) (fun _ i _ => n - (intOf i).toNat)
    case atStart => exact ⟨0, Nat.zero_le _, rfl, by simp, by simpa [mkL] using h, World.grownBy.refl _ _⟩
    case round =>
      obtain ⟨k, hk, rfl, rfl, hown, hgr⟩ := hrel
      by_cases hlt : k < n
      · obtain ⟨x0, d0⟩ := own_cell hown (k) (by omega)
        have f0 := hown.frozenAt (k)
        have HO := Lib.hid hown
        have HG := Lib.hid hgr
        have HH := Lib.hid h
        have HZ := Lib.hid hz
        clear hown hgr h hz
        go_wp2_with fail
        go_roundw
        case rel =>
          have hz := HZ.out
          refine ⟨k + 1, by omega, by go_num, by first | go_num | (congr 1; omega), ?_, ?_⟩
          · have R := ((HO.out).stored (k) (.int .i64 (q + (k : Int)))).1
            rw [mkL_set q zs k _ (by omega) (by omega)] at R
            exact R
          · exact grownBy_trans (HG.out) ((HO.out).stored (k) (.int .i64 (q + (k : Int)))).2
        case measure => simp [intOf]; omega
      · obtain rfl : k = n := by omega
        go_wp2
        go_ret
        refine ⟨rfl, ?_, by simpa [Value.ownBlock] using hgr⟩
        rw [List.drop_eq_nil_of_le (by omega), List.append_nil] at hown
        exact hown

set_option maxRecDepth 100000 in
set_option maxHeartbeats 1000000 in
theorem markBunchS_c (v : Value) (n : Nat) (zs : List Int) (q : Int) (w : World) (base : Nat) (h : w.ownsRow base 41 3 v n (iv zs)) (hn : n ≤ 1048576) (hq : 0 ≤ q) (hq2 : q ≤ 4503599627370496) :
    Calls Try.prog 10 #[v, .int .i64 q] w fun e w' => e = .returned (.int .i64 (q + 3 * (n : Int))) ∧ w'.ownsRow base 41 3 v n (iv (mkL q (n * 3))) ∧ w.grownBy w' v.ownBlock := by
  have hz : zs.length = n * 3 := by have := h.1; rwa [iv_length] at this
  rcases h.2 with ⟨rfl, rfl⟩ | ⟨g, cap, cur, rfl, _⟩
  · go_enter Try.func10, Try.ntmps10
    go_wp2_with fail
    refine wp_loop_rounds 1 ?_
    rw [rounds_succ]
    go_wp2
    go_ret
    exact ⟨by simp, by simpa [iv, mkL] using World.ownsRow_nil w base 41 3, World.grownBy.refl _ _⟩
  · have hn' : (n : Int) ≤ 1048576 := by omega
    go_enter Try.func10, Try.ntmps10
    go_wp2_with fail
    go_loopw [1, 5] (fun s i wr => ∃ k : Nat, k ≤ n ∧ i = .int .i64 k ∧ s = .int .i64 (q + 3 * (k : Int)) ∧ wr.ownsRow base 41 3 (.slice (some ⟨g, 0, none⟩) n cap) n (iv (mkL q (k * 3) ++ zs.drop (k * 3))) ∧ w.grownBy wr (some g)) (fun _ i _ => n - (intOf i).toNat)
    case atStart => exact ⟨0, Nat.zero_le _, rfl, by simp, by simpa [mkL] using h, World.grownBy.refl _ _⟩
    case round =>
      obtain ⟨k, hk, rfl, rfl, hown, hgr⟩ := hrel
      by_cases hlt : k < n
      · obtain ⟨x0, d0⟩ := own_cell hown (k * 3) (by omega)
        obtain ⟨x1, d1⟩ := own_cell hown (k * 3 + 1) (by omega)
        obtain ⟨x2, d2⟩ := own_cell hown (k * 3 + 2) (by omega)
        have f0 := hown.frozenAt (k * 3)
        have f1 := hown.frozenAt (k * 3 + 1)
        have f2 := hown.frozenAt (k * 3 + 2)
        have HO := Lib.hid hown
        have HG := Lib.hid hgr
        have HH := Lib.hid h
        have HZ := Lib.hid hz
        clear hown hgr h hz
        go_wp2_with fail
        go_roundw
        case rel =>
          have hz := HZ.out
          refine ⟨k + 1, by omega, by go_num, by first | go_num | (congr 1; omega), ?_, ?_⟩
          · have R := ((((((HO.out).stored (k * 3) (.int .i64 (q + 3 * (k : Int)))).1).stored (k * 3 + 1) (.int .i64 (q + 3 * (k : Int) + 1))).1).stored (k * 3 + 2) (.int .i64 (q + 3 * (k : Int) + 1 + 1))).1
            rw [mkL_set q zs (k * 3) _ (by omega) (by omega), mkL_set q zs (k * 3 + 1) _ (by omega) (by omega), mkL_set q zs (k * 3 + 1 + 1) _ (by omega) (by omega)] at R
            have e : (k + 1) * 3 = (k * 3 + 1 + 1 + 1) := by omega
            rw [e]
            exact R
          · exact grownBy_trans (grownBy_trans (grownBy_trans (HG.out) ((HO.out).stored (k * 3) (.int .i64 (q + 3 * (k : Int)))).2) ((((HO.out).stored (k * 3) (.int .i64 (q + 3 * (k : Int)))).1).stored (k * 3 + 1) (.int .i64 (q + 3 * (k : Int) + 1))).2) ((((((HO.out).stored (k * 3) (.int .i64 (q + 3 * (k : Int)))).1).stored (k * 3 + 1) (.int .i64 (q + 3 * (k : Int) + 1))).1).stored (k * 3 + 2) (.int .i64 (q + 3 * (k : Int) + 1 + 1))).2
        case measure => simp [intOf]; omega
      · obtain rfl : k = n := by omega
        go_wp2
        go_ret
        refine ⟨rfl, ?_, by simpa [Value.ownBlock] using hgr⟩
        rw [List.drop_eq_nil_of_le (by omega), List.append_nil] at hown
        exact hown

set_option maxRecDepth 100000 in
/-- Marks that are still there. -/
theorem heldInt64S_c (A : Option Addr) (n c : Nat) (w : World) (h : Ints w w.heap.size 1 A n (mkL 1 n)) (hn : n ≤ 4194304) :
    Calls Try.prog 16 #[.slice A n c, .int .i64 1] w fun e w' => e = .returned (.int .i64 (1 + n)) ∧ Below w.heap.size w w' := by
  have hn' : (n : Int) ≤ 4194304 := by omega
  go_enter Try.func16, Try.ntmps16
  go_wp2_with fail
  go_loopw [1, 5] (fun q i wr => ∃ k : Nat, k ≤ n ∧ i = .int .i64 k ∧ q = .int .i64 (1 + k) ∧ Below w.heap.size w wr) (fun _ i _ => n - (intOf i).toNat)
  case atStart => exact ⟨0, Nat.zero_le _, rfl, rfl, Below.refl _ _⟩
  case round =>
    obtain ⟨k, hk, rfl, rfl, hbel⟩ := hrel
    by_cases hlt : k < n
    · obtain ⟨b, off, rfl, hb, c0⟩ := (h.below hbel (Nat.le_refl _)).at1 hlt
      rw [mkL_gi _ _ _ hlt] at c0
      go_wp2_with fail
      try (go_quiet (fail); go_wp2_with fail)
      go_roundw
      case rel => exact ⟨k + 1, by omega, by go_num, by go_num, by repeat (first | exact hbel | apply bdrewN)⟩
      case measure => simp [intOf]; omega
    · obtain rfl : k = n := by omega
      go_wp2
      go_ret
      exact ⟨rfl, hbel⟩
end Go.Proofs.Ytgcpobondcnjcaa
