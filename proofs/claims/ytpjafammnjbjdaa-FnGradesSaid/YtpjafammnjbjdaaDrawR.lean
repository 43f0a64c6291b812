/-
  One rod drawn; numbers that depend on some bytes.
  No conditions.
-/
import Derived.Test.YtpjafammnjbjdaaSrc
import Derived.Test.YtpjafammnjbjdaaValid
import Derived.OwnWalk
namespace Go.Proofs.Ytpjafammnjbjdaa
open Go.ChangeShapes Go.WideShapes Go.ChangeAt Go.RowKit Go.Deep
set_option linter.unusedVariables false

theorem But.far {g : Nat} {a b : World} (h : But g a b) {p : Addr} (hp : a.heap.size ≤ p.block) (u : Value) : But g a (b.setCell p u) :=
  ⟨h.os, h.tape, h.output, by simpa [World.setCell] using h.size, fun k hk hg => (Below.heap_setCell _ _ _ _ (by omega)).trans (h.block k hk hg)⟩
theorem size_setCell (w : World) (p : Addr) (u : Value) : (w.setCell p u).heap.size = w.heap.size := by simp [World.setCell]
set_option maxRecDepth 100000 in
theorem a2Long_c (A A' : Option Addr) (n c n' c' : Nat) (w : World) (hn : n ≤ 9223372036854775807) (hn' : n' ≤ 9223372036854775807) :
    Calls Try.prog 14 #[.slice A n c, .slice A' n' c'] w fun e w' => e = .returned (.bool (decide (3000 < n) || decide (3000 < n'))) ∧ w = w' := by
  by_cases h : 3000 < n <;> by_cases h' : 3000 < n'
  all_goals
    go_enter Try.func14, Try.ntmps14
    go_wp2_with fail
    go_ret
    first | (simp [h, h']; done) | (simp [h, h']; omega)

set_option maxRecDepth 100000 in
theorem a2At_c (A : Option Addr) (n c : Nat) (at_ : Nat) (k : Int) (w : World) (h : Octets w w.heap.size A n) (hk : 1 ≤ k) :
    Calls Try.prog 16 #[.slice A n c, .int .i64 at_, .int .i64 k] w fun e w' => ∃ x : Int, e = .returned (.int .i64 x) ∧ 0 ≤ x ∧ x < k ∧ Below w.heap.size w w' := by
  have hn := h.le
  by_cases hlt : at_ < n
  · obtain ⟨b, off, x, rfl, hb, hc, hx0, hx1⟩ := h.at_ at_ hlt
    go_enter Try.func16, Try.ntmps16
    go_wp2_with fail
    go_ret
    exact ⟨_, rfl, Int.emod_nonneg _ (by omega), Int.emod_lt_of_pos _ (by omega), Below.refl _ _⟩
  · go_enter Try.func16, Try.ntmps16
    go_wp2_with fail
    go_ret
    exact ⟨0, rfl, by omega, by omega, Below.refl _ _⟩

set_option maxRecDepth 100000 in
set_option maxHeartbeats 2000000 in
theorem newR_s (g : Nat) (A : Option Addr) (n c K : Nat) (w : World) (h : Src w g A n c K) (hK : K ≤ 800000) :
    Calls Try.prog 45 #[.pointer (some ⟨g, 0, none⟩)] w fun e w' => ∃ x y z : Int, e = .returned (.agg #[.int .i64 x, .int .i64 y, .int .i64 z]) ∧ (100 ≤ x ∧ x ≤ 2050 ∧ 20 ≤ y ∧ y ≤ 115 ∧ 1 ≤ z ∧ z ≤ y) ∧ Src w' g A n c (K + 6) ∧ But g w w' := by
  have hlt := h.lt
  have hR := Blk.new w 45 #[.int .i64 0, .int .i64 0, .int .i64 0]
  go_enter Try.func45, Try.ntmps45
  go_wp2_with fail
  refine (pick_s g A n c K 40 _ (h.on (balloc (Below.refl _ _) _) hlt) (by omega)).mono ?_
  rintro e w1 ⟨x, rfl, hx0, hx1, hs1, hk1⟩
  have hx2 : x ≤ 39 := by omega
  clear hx1
  have hlt1 := hs1.lt
  have hR1 := hR.but hk1 (by omega)
  go_wp2_with fail
  refine (pick_s g A n c _ 20 _ (hs1.on (balloc (Below.refl _ _) _) hlt1) (by omega)).mono ?_
  rintro e w2 ⟨y, rfl, hy0, hy1, hs2, hk2⟩
  have hy2 : y ≤ 19 := by omega
  clear hy1
  have hsz1 := hk1.size
  have hsz2 := hk2.size
  simp only [World.size_alloc] at hsz1 hsz2
  have X := (Blk.new w1 45 #[.int .i64 (100 + 50 * x), .int .i64 0, .int .i64 0]).but hk2 (by omega)
  have Xl := X.lt
  have Xc0 := X.cell 0
  have Xf0 := X.frozen 0
  have Xc1 := X.cell 1
  have Xf1 := X.frozen 1
  have Xc2 := X.cell 2
  have Xf2 := X.frozen 2
  simp at Xc0 Xc1 Xc2
  have XH := Lib.hid X
  clear X
  have hR2 := (hR1.alloc (.cells #[.int .i64 (100 + 50 * x), .int .i64 0, .int .i64 0] 45)).but hk2 (by omega)
  have hlt2 := hs2.lt
  go_wp2_with fail
  refine (pick_s g A n c _ (20 + 5 * y) _ (hs2.on ((Below.refl w1.heap.size w2).setCell (p := ⟨w1.heap.size, 1, none⟩) (Nat.le_refl _) _) hlt1) (by omega)).mono ?_
  rintro e w3 ⟨z, rfl, hz0, hz1, hs3, hk3⟩
  have hz2 : z < 20 + 5 * y := by omega
  clear hz1
  have hsz3 := hk3.size
  simp only [World.size_setCell] at hsz3
  clear Xc0 Xc1 Xc2 Xf0 Xf1 Xf2
  have Y := (XH.out.set_ 1 (.int .i64 (20 + 5 * y))).but hk3 (by omega)
  have Yl := Y.lt
  have Yc0 := Y.cell 0
  have Yf0 := Y.frozen 0
  have Yc1 := Y.cell 1
  have Yf1 := Y.frozen 1
  have Yc2 := Y.cell 2
  have Yf2 := Y.frozen 2
  simp at Yc0 Yc1 Yc2
  have YH := Lib.hid Y
  clear Y
  have R := (hR2.far (p := ⟨w1.heap.size, 1, none⟩) (by show w.heap.size ≠ w1.heap.size; omega) (.int .i64 (20 + 5 * y))).but hk3 (by omega)
  have Rl := R.lt
  have Rc0 := R.cell 0
  have Rf0 := R.frozen 0
  have Rc1 := R.cell 1
  have Rf1 := R.frozen 1
  have Rc2 := R.cell 2
  have Rf2 := R.frozen 2
  simp at Rc0 Rc1 Rc2
  have RH := Lib.hid R
  clear R
  clear hR hR1 hR2
  have hnw : ¬ w.heap.size = w1.heap.size := by omega
  go_wp2_with fail
  refine bodyPost_ret (v := .agg #[.int .i64 (100 + 50 * x), .int .i64 (20 + 5 * y), .int .i64 (1 + z)]) (by simp [results, Try.results45, go_sem, Rc0, Rc1, Rc2]) rfl ⟨100 + 50 * x, 20 + 5 * y, 1 + z, rfl, by omega, ?_, ?_⟩
  · exact hs3.on (((((Below.refl w.heap.size w3).setCell (p := ⟨w1.heap.size, 2, none⟩) (by show w.heap.size ≤ w1.heap.size; omega) _).setCell (p := ⟨w.heap.size, 0, none⟩) (Nat.le_refl _) _).setCell (p := ⟨w.heap.size, 1, none⟩) (Nat.le_refl _) _).setCell (p := ⟨w.heap.size, 2, none⟩) (Nat.le_refl _) _) hlt
  · exact ((((((((((But.refl g w).alloc _).trans hk1).alloc _).trans hk2).far (p := ⟨w1.heap.size, 1, none⟩) (by show w.heap.size ≤ w1.heap.size; omega) _).trans hk3).far (p := ⟨w1.heap.size, 2, none⟩) (by show w.heap.size ≤ w1.heap.size; omega) _).far (p := ⟨w.heap.size, 0, none⟩) (Nat.le_refl _) _).far (p := ⟨w.heap.size, 1, none⟩) (Nat.le_refl _) _).far (p := ⟨w.heap.size, 2, none⟩) (Nat.le_refl _) _
end Go.Proofs.Ytpjafammnjbjdaa
