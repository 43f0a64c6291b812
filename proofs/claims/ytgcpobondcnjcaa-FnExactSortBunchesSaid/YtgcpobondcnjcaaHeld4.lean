/-
  The verifier's look whether marks are still there, over structs of whole numbers; results that are such structs.
  No conditions.
-/
import Derived.Test.YtgcpobondcnjcaaMark
namespace Go.Proofs.Ytgcpobondcnjcaa
open Go.ChangeShapes Go.WideShapes Go.ChangeAt Go.RowKit Go.Deep

set_option maxRecDepth 100000 in
set_option maxHeartbeats 2000000 in
theorem heldBunchS_c (A : Option Addr) (n c : Nat) (w : World) (h : Ints w w.heap.size 3 A n (mkL 1 (n * 3))) (hn : n ≤ 1048576) :
    Calls Try.prog 11 #[.slice A n c, .int .i64 1] w fun e w' => e = .returned (.int .i64 (1 + ((n * 3 : Nat) : Int))) ∧ Below w.heap.size w w' := by
  have hn' : (n : Int) ≤ 1048576 := by omega
  go_enter Try.func11, Try.ntmps11
  go_wp2_with fail
  go_loopw [1, 5] (fun q i wr => ∃ k : Nat, k ≤ n ∧ i = .int .i64 k ∧ q = .int .i64 (1 + 3 * (k : Int)) ∧ Below w.heap.size w wr) (fun _ i _ => n - (intOf i).toNat)
  case atStart => exact ⟨0, Nat.zero_le _, rfl, rfl, Below.refl _ _⟩
  case round =>
    obtain ⟨k, hk, rfl, rfl, hbel⟩ := hrel
    by_cases hlt : k < n
    · obtain ⟨b, off, rfl, hb, c0, c1, c2⟩ := (h.below hbel (Nat.le_refl _)).at3 hlt
      have hg : ∀ j, j < 3 → gi (mkL 1 (n * 3)) (k * 3 + j) = 1 + 3 * (k : Int) + j := fun j hj => by rw [mkL_gi _ _ _ (by omega)]; push_cast; omega
      have g0 := hg 0 (by omega)
      have g1 := hg 1 (by omega)
      have g2 := hg 2 (by omega)
      simp only [Nat.add_zero] at g0
      rw [g0] at c0; rw [g1] at c1; rw [g2] at c2
      first | (have g3 := hg 3 (by omega); rw [g3] at c3; clear g3) | skip
      clear hg g0 g1 g2
      go_wp2_with fail
      try (go_quiet (fail); go_wp2_with fail)
      go_roundw
      case rel => exact ⟨k + 1, by omega, by go_num, by first | go_num | (congr 1; omega), by repeat (first | exact hbel | apply bdrewN)⟩
      case measure => simp [intOf]; omega
    · obtain rfl : k = n := by omega
      go_wp2
      go_ret
      exact ⟨ret_int (by push_cast; omega), hbel⟩
end Go.Proofs.Ytgcpobondcnjcaa
