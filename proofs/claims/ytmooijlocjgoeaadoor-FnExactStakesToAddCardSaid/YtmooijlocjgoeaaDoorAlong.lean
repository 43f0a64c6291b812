/-
  How a weaver lies along a stroke: the texts that the program and the reference make of it.
  No conditions.
-/
import Derived.Test.YtmooijlocjgoeaaDoorRun
namespace Go.Proofs.YtmooijlocjgoeaaDoor
open Go.ChangeShapes Go.WideShapes Go.ChangeAt Go.RowKit Go.Deep

/-- The byte at place f + i * st, round and round. -/
def alC (s : ByteArray) (f st : Int) (i : Nat) : UInt8 := bt s ((f + (i : Int) * st) % (s.size : Int)).toNat
/-- The bytes of a text from place f on, st places each time, m times. -/
def alL (s : ByteArray) (f st : Int) (m : Nat) : List UInt8 := (List.range m).map (alC s f st)
def alB (s : ByteArray) (f st : Int) (m : Nat) : ByteArray := ⟨(alL s f st m).toArray⟩
theorem alL_length (s : ByteArray) (f st : Int) (m : Nat) : (alL s f st m).length = m := by simp [alL]
theorem alL_succ (s : ByteArray) (f st : Int) (m : Nat) : alL s f st (m + 1) = alL s f st m ++ [alC s f st m] := by simp [alL, List.range_succ]
theorem alB_size (s : ByteArray) (f st : Int) (m : Nat) : (alB s f st m).size = m := by unfold alB; rw [size_mk, alL_length]
theorem bv_set (s : ByteArray) (f st : Int) (m r : Nat) : (bv (alL s f st m ++ List.replicate (r + 1) 0)).set m (.int .u8 ((alC s f st m).toNat : Int)) = bv (alL s f st (m + 1) ++ List.replicate r 0) := by
  rw [alL_succ, List.replicate_succ]
  unfold bv
  simp only [List.map_append, List.map_cons, List.map_nil]
  rw [List.set_append_right _ _ (by simp [alL_length])]
  have e : m - (List.map (fun b : UInt8 => Value.int IntKind.u8 (b.toNat : Int)) (alL s f st m)).length = 0 := by rw [List.length_map, alL_length]; omega
  rw [e]
  simp only [List.set_cons_zero, List.append_assoc, List.cons_append, List.nil_append]
theorem alB_ok (s : ByteArray) (f st : Int) (m : Nat) (h1 : 1 ≤ s.size) (h : ∀ c ∈ s.data.toList, okFB c = true) : ∀ c ∈ (alB s f st m).data.toList, okFB c = true := by
  intro c hc
  have hc' : c ∈ alL s f st m := by simpa [alB] using hc
  simp only [alL, List.mem_map, List.mem_range] at hc'
  obtain ⟨i, _, rfl⟩ := hc'
  refine h _ (bt_mem s _ ?_)
  have := Int.emod_lt_of_pos (f + (i : Int) * st) (by omega : (0 : Int) < (s.size : Int))
  have := Int.emod_nonneg (f + (i : Int) * st) (by omega : (s.size : Int) ≠ 0)
  omega

set_option maxHeartbeats 2000000 in
theorem along_c (s : ByteArray) (f st : Int) (m : Nat) (w : World) (h1 : 1 ≤ s.size) (h2 : s.size ≤ 100) (f0 : 0 ≤ f) (f1 : f ≤ 100000) (s0 : 0 ≤ st) (s1 : st ≤ 1000) (hm : m ≤ 1000) :
    Calls Tryd.prog 37 #[.string s, .int .i64 f, .int .i64 st, .int .i64 m] w fun e w' => e = .returned (.string (alB s f st m)) ∧ Below w.heap.size w w' := by
  have h1' : (1 : Int) ≤ s.size := by omega
  have h2' : (s.size : Int) ≤ 100 := by omega
  have hinfo : (Tryd.prog.info? 5).map (fun i => (i.zero, i.size, i.bytes)) = some (some (.int .u8 0), 1, 1) := by kernel_rfl
  have hmk := run_make_all (P := Tryd.prog) 41 5 (.int .u8 0) (.int .u8 0) 1 1 Tryd.underlying41 hinfo rfl (by omega) .i64 .i64 m (by omega) (by omega)
  clear hinfo
  go_enter Tryd.func37, Tryd.ntmps37
  go_wp2_with fail
  clear hmk
  go_loopw [14] (fun i wr => ∃ k : Nat, k ≤ m ∧ i = .int .i64 k ∧ Blk wr w.heap.size 5 (bv (alL s f st k ++ List.replicate (m - k) 0)).toArray ∧ Below w.heap.size w wr) (fun i _ => m - (intOf i).toNat)
  case atStart => exact ⟨0, Nat.zero_le _, rfl, by simpa [bv, alL] using Blk.new w 5 (List.replicate m (Value.int .u8 0)).toArray, by simpa using balloc (Below.refl w.heap.size w) (.cells (List.replicate m (Value.int .u8 0)).toArray 5)⟩
  case round =>
    obtain ⟨k, hk, rfl, hblk, hbel⟩ := hrel
    by_cases hlt : k < m
    · have hl : (bv (alL s f st k ++ List.replicate (m - k) 0)).length = m := by
        rw [bv_length, List.length_append, alL_length, List.length_replicate]; omega
      have HL := Lib.hid hl
      clear hl
      obtain ⟨x0, d0⟩ := hblk.has k (by rw [HL.out]; omega)
      have fz0 := hblk.frozen k
      have HB := Lib.hid hblk
      clear hblk
      have p0 : 0 ≤ (k : Int) * st := Int.mul_nonneg (by omega) s0
      have p1 : (k : Int) * st ≤ 1000 * 1000 := Int.mul_le_mul (by omega) s1 s0 (by omega)
      have z1 : (0 : Int) ≤ (f + (k : Int) * st) % (s.size : Int) := Int.emod_nonneg _ (by omega)
      have z2 : (f + (k : Int) * st) % (s.size : Int) < s.size := Int.emod_lt_of_pos _ (by omega)
      have hx : s[((f + (k : Int) * st) % (s.size : Int)).toNat]'(by omega) = alC s f st k := bt_at s _ (by omega)
      have HX := Lib.hid hx
      clear hx
      go_wp2_with fail
      first | (go_region; go_wp2_with fail) | skip
      go_roundw
      case rel =>
        refine ⟨k + 1, by omega, by go_num, ?_, by repeat (first | exact hbel | refine bset ?_ (Nat.le_refl _) _ | apply bdrewN | apply Below.drew)⟩
        have R := HB.out.set_ k (.int .u8 ((alC s f st k).toNat : Int))
        rw [List.setIfInBounds_toArray, show m - k = (m - (k + 1)) + 1 by omega, bv_set] at R
        rw [HX.out]
        exact R
      case measure => simp [intOf]; omega
    · obtain rfl : k = m := by omega
      rw [Nat.sub_self, List.replicate_zero, List.append_nil] at hblk
      have hs := hblk.str k
      rw [alL_length] at hs
      go_wp2
      go_ret
      exact ⟨rfl, hbel⟩
theorem l06At_c (s : ByteArray) (n r k : Int) (w : World) (h1 : 1 ≤ s.size) (h2 : s.size ≤ 100) (n0 : 0 ≤ n) (n1 : n ≤ 100) (r0 : 0 ≤ r) (r1 : r ≤ 100) (k0 : 0 ≤ k) (k1 : k ≤ 1000) :
    Calls Tryd.prog 34 #[.string s, .int .i64 n, .int .i64 r, .int .i64 k] w fun e w' => e = .returned (.int .u8 ((bt s ((r * n + k) % (s.size : Int)).toNat).toNat : Int)) ∧ w = w' := by
  have h1' : (1 : Int) ≤ s.size := by omega
  have h2' : (s.size : Int) ≤ 100 := by omega
  have p0 : 0 ≤ r * n := Int.mul_nonneg r0 n0
  have p1 : r * n ≤ 100 * 100 := Int.mul_le_mul r1 n1 n0 (by omega)
  have z1 : (0 : Int) ≤ (r * n + k) % (s.size : Int) := Int.emod_nonneg _ (by omega)
  have z2 : (r * n + k) % (s.size : Int) < s.size := Int.emod_lt_of_pos _ (by omega)
  have hx : s[((r * n + k) % (s.size : Int)).toNat]'(by omega) = bt s ((r * n + k) % (s.size : Int)).toNat := bt_at s _ (by omega)
  have HX := Lib.hid hx
  clear hx
  go_enter Tryd.func34, Tryd.ntmps34
  go_wp2
  go_ret
  refine ⟨?_, rfl⟩
  rw [← HX.out]
  rfl
/-- How a weaver lies at stake k in all rounds until the weave begins again. -/
def stB (s : ByteArray) (n k : Nat) : ByteArray := alB s k n (agN s.size n)
set_option maxHeartbeats 2000000 in
theorem l06Stack_c (s : ByteArray) (n k : Nat) (w : World) (h1 : 1 ≤ s.size) (h2 : s.size ≤ 12) (hn : n ≤ 100) (hk : k ≤ 100) :
    Calls Tryd.prog 46 #[.string s, .int .i64 n, .int .i64 k] w fun e w' => e = .returned (.string (stB s n k)) ∧ Below w.heap.size w w' := by
  have ha := agN_bd s.size n h1
  go_enter Tryd.func46, Tryd.ntmps46
  go_wp2_with fail
  go_loopw [7, 8] (fun v i wr => ∃ r : Nat, r ≤ agN s.size n ∧ i = .int .i64 r ∧ OwnB wr w.heap.size v (alL s k n r) ∧ Below w.heap.size w wr) (fun _ i _ => agN s.size n - (intOf i).toNat)
  case atStart => exact ⟨0, Nat.zero_le _, rfl, OwnB.empty _ (Nat.le_refl _), balloc (Below.refl _ _) _⟩
  case round =>
    obtain ⟨r, hr, rfl, hown, hbel⟩ := hrel
    have hbase := hbel.size
    have hlen := alL_length s k n r
    have HLEN := Lib.hid hlen
    clear hlen
    by_cases hlt : r < agN s.size n
    · have hx : alC s k n r = bt s (((r : Int) * (n : Int) + (k : Int)) % (s.size : Int)).toNat := by unfold alC; rw [Int.add_comm]
      have HX := Lib.hid hx
      clear hx
      go_wp2_with fail
      refine (l06Again_c s n _ h1 h2 hn).mono ?_
      rintro e w1 ⟨rfl, rfl⟩
      go_wp2_with fail
      refine (l06At_c s n r k _ h1 (by omega) (by omega) (by omega) (by omega) (by omega) (by omega) (by omega)).mono ?_
      rintro e w1 ⟨rfl, rfl⟩
      go_wp2_with (at_builtin; refine append_byte rfl (.tmp 17) (.tmp 23) rfl w.heap.size _ _ rfl (OwnB.alloc hown _) _ _ rfl (Blk.new _ _ _) (by rw [HLEN.out]; omega) (by simp; omega) ?_; intro v1 w2 hown1 hgr1)
      go_roundw
      case rel => exact ⟨r + 1, by omega, by go_num, by rw [alL_succ, HX.out]; exact hown1, below_grown (balloc hbel _) hgr1 (fun g hg => (hown.lt g hg).1)⟩
      case measure => simp [intOf]; omega
    · obtain rfl : r = agN s.size n := by omega
      go_wp2_with fail
      refine (l06Again_c s n _ h1 h2 hn).mono ?_
      rintro e w1 ⟨rfl, rfl⟩
      have hs := hown.str
      go_wp2
      go_ret
      exact ⟨rfl, hbel⟩
end Go.Proofs.YtmooijlocjgoeaaDoor
