/-
  Slices of whole numbers: the verifier's helpers, rising numbers.
  No conditions.
-/
import Derived.Test.YtgcpobondcnjcaaValid
import Derived.IntWalk
namespace Go.Proofs.Ytgcpobondcnjcaa
open Go.ChangeShapes Go.WideShapes Go.ChangeAt Go.RowKit Go.Deep

set_option maxRecDepth 100000 in
theorem eqInt64S_c (A A' : Option Addr) (n c c' : Nat) (zs : List Int) (w : World) (h : Ints w w.heap.size 1 A n zs) (h' : Ints w w.heap.size 1 A' n zs) (hn : n ≤ 1048576) :
    Calls Try.prog 14 #[.slice A n c, .slice A' n c'] w fun e w' => e = .returned (.bool true) ∧ Below w.heap.size w w' := by
  go_enter Try.func14, Try.ntmps14
  go_wp2_with fail
  go_loopw [5] (fun i wr => ∃ k : Nat, k ≤ n ∧ i = .int .i64 k ∧ Below w.heap.size w wr) (fun i _ => n - (intOf i).toNat)
  case atStart => exact ⟨0, Nat.zero_le _, rfl, Below.refl _ _⟩
  case round =>
    obtain ⟨k, hk, rfl, hbel⟩ := hrel
    by_cases hlt : k < n
    · obtain ⟨b, off, rfl, hb, c0⟩ := (h.below hbel (Nat.le_refl _)).at1 hlt
      obtain ⟨b', off', rfl, hb', c0'⟩ := (h'.below hbel (Nat.le_refl _)).at1 hlt
      go_wp2_with fail
      go_quiet (fail)
      go_wp2_with fail
      go_roundw
      case rel => exact ⟨k + 1, by omega, by go_num, bdrewN hbel _⟩
      case measure => simp [intOf]; omega
    · obtain rfl : k = n := by omega
      go_wp2
      go_ret
      exact ⟨rfl, hbel⟩

/-- A number is within bounds and greater than the one in front of it. -/
def riseAt (zs : List Int) (lo hi : Int) (i : Nat) : Bool := inR (gi zs i) lo hi && (decide (i = 0) || decide (gi zs (i - 1) < gi zs i))
