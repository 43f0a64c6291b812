/-
  Decimal numerals: the digits, one by one from the end.
  No conditions.
-/
import Derived.Test.YtgcpobondcnjcaaGreatDoorBytes
import Derived.Lib.ItoaNum
namespace Go.Proofs.YtgcpobondcnjcaaGreatDoor

/-- The digits of a number, none for 0. -/
def dgs (u : Nat) : List UInt8 := if u = 0 then [] else Lib.decDigits u
theorem dgs_zero : dgs 0 = [] := rfl
theorem dgs_step (u : Nat) (h : 0 < u) : dgs u = dgs (u / 10) ++ [UInt8.ofNat (48 + u % 10)] := by
  unfold dgs
  rw [if_neg (by omega)]
  by_cases hs : u < 10
  · rw [if_pos (by omega), Lib.decDigits_one hs, show u % 10 = u by omega]; rfl
  · rw [if_neg (by omega), Lib.decDigits, dif_neg hs]
theorem dgs_pos (u : Nat) (h : 0 < u) : dgs u = Lib.decDigits u := by unfold dgs; rw [if_neg (by omega)]
theorem dgs_next (u : Nat) (h : 0 < u) (l m : List UInt8) (he : dgs u ++ l = m) : dgs (u / 10) ++ (UInt8.ofNat (48 + u % 10) :: l) = m := by
  rw [dgs_step u h] at he
  rw [← he, List.append_assoc]; rfl
theorem dgs_len : ∀ (k u : Nat), u < 10 ^ k → (dgs u).length ≤ k
  | 0, u, h => by
    have : u = 0 := by simpa using h
    subst this; simp [dgs]
  | k + 1, u, h => by
    by_cases h0 : u = 0
    · subst h0; simp [dgs]
    · rw [dgs_step u (by omega), List.length_append]
      have h1 : u / 10 < 10 ^ k := by
        rw [Nat.pow_succ] at h
        exact Nat.div_lt_of_lt_mul (by rw [Nat.mul_comm]; exact h)
      have := dgs_len k (u / 10) h1
      simp only [List.length_cons, List.length_nil]; omega
theorem itoa_zero : Lib.itoa 0 = [48] := by
  unfold Lib.itoa
  rw [if_neg (by omega)]
  exact Lib.decDigits_one (by omega)
theorem itoa_pos (u : Nat) (h : 0 < u) : Lib.itoa (u : Int) = dgs u := by
  unfold Lib.itoa
  rw [if_neg (by omega), dgs_pos u h]; rfl
theorem itoa_neg' (u : Nat) (h : 0 < u) : Lib.itoa (-(u : Int)) = 45 :: dgs u := by
  unfold Lib.itoa
  rw [if_pos (by omega), dgs_pos u h]
  congr 2
  omega
theorem tmod_neg (u : Nat) : (-(u : Int)).tmod 10 = -((u % 10 : Nat) : Int) := by
  rw [Int.neg_tmod]; congr 1
theorem tdiv_neg (u : Nat) : (-(u : Int)).tdiv 10 = -((u / 10 : Nat) : Int) := by
  rw [Int.neg_tdiv]; congr 1
theorem dig_byte (u : Nat) : ((UInt8.ofNat (48 + u % 10)).toNat : Int) = 48 + ((u % 10 : Nat) : Int) := by
  have : (UInt8.ofNat (48 + u % 10)).toNat = (48 + u % 10) % 256 := rfl
  rw [this]; omega

end Go.Proofs.YtgcpobondcnjcaaGreatDoor
