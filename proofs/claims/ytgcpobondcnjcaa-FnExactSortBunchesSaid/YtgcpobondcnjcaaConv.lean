/-
  The verifier's helpers over structs of whole numbers: to.., sz.., eq.. .
  No conditions.
-/
import Derived.Test.YtgcpobondcnjcaaMem
import Derived.Outline
namespace Go.Proofs.Ytgcpobondcnjcaa
open Go.ChangeShapes Go.WideShapes Go.ChangeAt Go.RowKit Go.Deep

/-- What is left of a size. -/
def szV (n : Nat) (left : Int) : Int := if left - n < 0 then -1 else left - n

theorem toBunch_c (a b c : Int) (w : World) : Calls Try.prog 19 #[.agg #[.int .i64 a, .int .i64 b, .int .i64 c]] w fun e w' =>
    e = .returned (.agg #[.int .i64 a, .int .i64 b, .int .i64 c]) ∧ Below w.heap.size w w' := by
  go_enter Try.func19, Try.ntmps19
  go_wp2
  refine bodyPost_ret (v := .agg #[.int .i64 a, .int .i64 b, .int .i64 c]) (by simp [results, Try.results19, go_sem]) rfl ⟨rfl, ?_⟩
  repeat (first | exact Below.refl _ _ | apply balloc)
theorem szBunchS_c (A : Option Addr) (n c : Nat) (left : Int) (w : World) (hn : n ≤ maxLen) (h0 : 0 ≤ left) (h1 : left ≤ 1048576) :
    Calls Try.prog 5 #[.slice A n c, .int .i64 left] w fun e w' => e = .returned (.int .i64 (szV n left)) ∧ w = w' := by
  unfold maxLen at hn
  by_cases h : left - n < 0
  all_goals
    have HV : szV n left = if left - n < 0 then -1 else left - n := rfl
    first | rw [if_pos h] at HV | rw [if_neg h] at HV
    rw [HV]; clear HV
    go_enter Try.func5, Try.ntmps5
    go_wp2
    go_ret
    exact ⟨rfl, rfl⟩

set_option maxRecDepth 100000 in
theorem toBunchS_c (A : Option Addr) (n c : Nat) (zs : List Int) (w : World) (B : Nat) (h : Ints w B 3 A n zs) (hB : B ≤ w.heap.size) (hn : n ≤ 1048576) :
    Calls Try.prog 7 #[.slice A n c] w fun e w' => e = .returned (.slice (some ⟨w.heap.size, 0, none⟩) n n) ∧
      Blk w' w.heap.size 41 (iv zs).toArray ∧ Below w.heap.size w w' := by
  have hinfo : (Try.prog.info? 41).map (fun i => (i.zero, i.size, i.bytes)) = some (some (.agg #[.int .i64 0, .int .i64 0, .int .i64 0]), 3, 24) := by kernel_rfl
  have hmk := run_make_all (P := Try.prog) 24 41 (.agg #[.int .i64 0, .int .i64 0, .int .i64 0]) (.int .i64 0) 3 24 Try.underlying24 hinfo rfl (by omega) .i64 .i64 n (by omega) (by omega)
  clear hinfo
  go_enter Try.func7, Try.ntmps7
  go_wp2_with fail
  clear hmk
  go_loopw [4] (fun i wr => ∃ k : Nat, k ≤ n ∧ i = .int .i64 k ∧ Blk wr w.heap.size 41 (iv (zs.take (k * 3) ++ List.replicate ((n - k) * 3) 0)).toArray ∧ Below w.heap.size w wr) (fun i _ => n - (intOf i).toNat)
  case atStart => exact ⟨0, Nat.zero_le _, rfl, by simpa [iv] using Blk.new w 41 (List.replicate (n * 3) (Value.int .i64 0)).toArray, balloc (Below.refl _ _) _⟩
  case round =>
    obtain ⟨k, hk, rfl, hblk, hbel⟩ := hrel
    by_cases hlt : k < n
    · obtain ⟨b, off, rfl, hb, c0, c1, c2⟩ := (h.below hbel hB).at3 hlt
      have hl : (iv (zs.take (k * 3) ++ List.replicate ((n - k) * 3) 0)).length = n * 3 := by
        rw [iv_length, List.length_append, List.length_take, List.length_replicate, h.length]; omega
      have HL := Lib.hid hl
      clear hl
      have HB := Lib.hid hblk
      clear hblk
      go_wp2_with (go_at_call 19; refine (toBunch_c _ _ _ _).mono ?_; rintro e w1 ⟨rfl, hb1⟩; have B1 := HB.out.on hb1; obtain ⟨x0, d0⟩ := B1.has (k * 3) (by rw [HL.out]; omega); obtain ⟨x1, d1⟩ := B1.has (k * 3 + 1) (by rw [HL.out]; omega); obtain ⟨x2, d2⟩ := B1.has (k * 3 + 2) (by rw [HL.out]; omega); have f0 := B1.frozen (k * 3); have f1 := B1.frozen (k * 3 + 1); have f2 := B1.frozen (k * 3 + 2); have BB := Lib.hid B1; clear B1)
      go_roundw
      case rel =>
        refine ⟨k + 1, by omega, by go_num, ?_, bset (bset (bset (btrans hbel hb1) (Nat.le_refl _) _) (Nat.le_refl _) _) (Nat.le_refl _) _⟩
        have hz := h.length
        have R := (((BB.out.set_ (k * 3) (.int .i64 (gi zs (k * 3)))).set_ (k * 3 + 1) (.int .i64 (gi zs (k * 3 + 1)))).set_ (k * 3 + 2) (.int .i64 (gi zs (k * 3 + 2))))
        rw [List.setIfInBounds_toArray, List.setIfInBounds_toArray, List.setIfInBounds_toArray, show (n - k) * 3 = ((((n - (k + 1)) * 3 + 1) + 1) + 1) by omega, iv_set zs (k * 3) _ (by omega), iv_set zs (k * 3 + 1) _ (by omega), iv_set zs (k * 3 + 1 + 1) _ (by omega)] at R
        rw [show (k + 1) * 3 = k * 3 + 1 + 1 + 1 by omega]
        exact R
      case measure => simp [intOf]; omega
    · obtain rfl : k = n := by omega
      go_wp2
      go_ret
      refine ⟨rfl, ?_, hbel⟩
      have hz := h.length
      rw [Nat.sub_self, Nat.zero_mul, List.replicate_zero, List.append_nil, List.take_of_length_le (by omega)] at hblk
      exact hblk
theorem eqBunch_c (a b c : Int) (w : World) : Calls Try.prog 24 #[.agg #[.int .i64 a, .int .i64 b, .int .i64 c], .agg #[.int .i64 a, .int .i64 b, .int .i64 c]] w fun e w' =>
    e = .returned (.bool true) ∧ Below w.heap.size w w' := by
  go_enter Try.func24, Try.ntmps24
  go_wp2
  go_ret
  refine ⟨rfl, ?_⟩
  repeat (first | exact Below.refl _ _ | apply balloc)

set_option maxRecDepth 100000 in
theorem eqBunchS_c (A A' : Option Addr) (n c c' : Nat) (zs : List Int) (w : World) (h : Ints w w.heap.size 3 A n zs) (h' : Ints w w.heap.size 3 A' n zs) (hn : n ≤ 1048576) :
    Calls Try.prog 9 #[.slice A n c, .slice A' n c'] w fun e w' => e = .returned (.bool true) ∧ Below w.heap.size w w' := by
  go_enter Try.func9, Try.ntmps9
  go_wp2_with fail
  go_loopw [5] (fun i wr => ∃ k : Nat, k ≤ n ∧ i = .int .i64 k ∧ Below w.heap.size w wr) (fun i _ => n - (intOf i).toNat)
  case atStart => exact ⟨0, Nat.zero_le _, rfl, Below.refl _ _⟩
  case round =>
    obtain ⟨k, hk, rfl, hbel⟩ := hrel
    by_cases hlt : k < n
    · obtain ⟨b, off, rfl, hb, c0, c1, c2⟩ := (h.below hbel (Nat.le_refl _)).at3 hlt
      obtain ⟨b', off', rfl, hb', c0', c1', c2'⟩ := (h'.below hbel (Nat.le_refl _)).at3 hlt
      go_wp2_with fail
      go_still_tail 8, (by kernel_rfl)
      go_wp2_with (go_at_call 24; refine (eqBunch_c _ _ _ _).mono ?_; rintro e w1 ⟨rfl, hb1⟩)
      go_roundw
      case rel => exact ⟨k + 1, by omega, by go_num, btrans hbel.drew hb1⟩
      case measure => simp [intOf]; omega
    · obtain rfl : k = n := by omega
      go_wp2
      go_ret
      exact ⟨rfl, hbel⟩

end Go.Proofs.Ytgcpobondcnjcaa
