/-
  The rods between two lengths.
  No conditions.
-/
import Derived.Test.YtpjafammnjbjdaaAppend
namespace Go.Proofs.Ytpjafammnjbjdaa
open Go.ChangeShapes Go.WideShapes Go.ChangeAt Go.RowKit Go.Deep

def btP (zs : List Int) (lo hi : Int) (i : Nat) : Bool := inR (gi zs (i * 3)) lo hi
/-- RodsBetween. -/
def btV (zs : List Int) (n : Nat) (lo hi : Int) : List Int := if okAll (rodAt zs) n 20 && inR lo 100 3000 && inR hi 100 3000 then selTo (btP zs lo hi) n else []
def btC (zs : List Int) (n : Nat) (lo hi : Int) : Int := if okAll (rodAt zs) n 20 then (if inR lo 100 3000 && inR hi 100 3000 then 0 else 2) else 1
theorem btV_bd (zs : List Int) (n : Nat) (lo hi : Int) (hn : n ≤ 1048576) : (btV zs n lo hi).length ≤ 1048576 ∧ ∀ z ∈ btV zs n lo hi, -9223372036854775808 ≤ z ∧ z ≤ 9223372036854775807 := by
  unfold btV; split
  · exact ⟨by have := selTo_len (btP zs lo hi) n; omega, fun z hz => by have := selTo_mem _ _ _ hz; omega⟩
  · exact ⟨by simp, by simp⟩

set_option maxHeartbeats 3000000 in
theorem between_i (A : Option Addr) (n c : Nat) (zs : List Int) (lo hi : Int) (w : World) (h : Ints w w.heap.size 3 A n zs) (hn : n ≤ 1048576) :
    Calls Try.prog 18 #[.slice A n c, .int .i64 lo, .int .i64 hi] w fun e w' => ∃ v, e = .returned (.tuple #[v, .int .i64 (btC zs n lo hi)]) ∧ Own w' w.heap.size v (btV zs n lo hi) ∧ Below w.heap.size w w' := by
  rcases hok : okAll (rodAt zs) n 20 with _ | _
  · have HV : Hid (btV zs n lo hi = [] ∧ btC zs n lo hi = 1) := by show _ ∧ _; simp [btV, btC, hok]
    go_enter Try.func18, Try.ntmps18
    go_wp2_with fail
    refine (ValidRods_c _ _ _ zs _ h hn).mono ?_
    rintro e w1 ⟨rfl, hb1⟩
    rw [hok]
    go_wp2
    go_ret2
    exact ⟨_, by rw [HV.out.2]; rfl, by rw [HV.out.1]; exact Own.nil _ _, hb1⟩
  · refine inR_split lo 100 3000 (fun hl _ _ => inR_split hi 100 3000 (fun hh _ _ => ?_) (fun hh => ?_)) (fun hl => ?_)
    · have HV : Hid (btV zs n lo hi = selTo (btP zs lo hi) n ∧ btC zs n lo hi = 0) := by show _ ∧ _; simp [btV, btC, hok, hl, hh]
      go_enter Try.func18, Try.ntmps18
      go_wp2_with fail
      refine (ValidRods_c _ _ _ zs _ h hn).mono ?_
      rintro e w1 ⟨rfl, hb1⟩
      rw [hok]
      go_wp2_with (first | (go_at_call 37; refine (isLength_c _ _).mono ?_; rintro e w' ⟨rfl, rfl⟩) | (go_at_call 38; refine (within_c _ _ _ _).mono ?_; rintro e w' ⟨rfl, rfl⟩))
      go_loopw [8,25] (fun s i wr => ∃ k : Nat, k ≤ n ∧ i = .int .i64 k ∧ Own wr w.heap.size s (selTo (btP zs lo hi) k) ∧ Below w.heap.size w wr) (fun _ i _ => n - (intOf i).toNat)
      case atStart => exact ⟨0, Nat.zero_le _, rfl, Own.empty _ hb1.size, balloc hb1 _⟩
      case round =>
        obtain ⟨k, hk, rfl, hown, hbel⟩ := hrel
        have hlen := selTo_len (btP zs lo hi) k
        have hbase := hbel.size
        by_cases hlt : k < n
        · obtain ⟨b, off, rfl, hb, c0, c1, c2⟩ := (h.below hbel (Nat.le_refl _)).at3 hlt
          refine inR_split (gi zs (k * 3)) lo hi (fun h1 _ _ => ?_) (fun h1 => ?_)
          · have HQ : Hid (selTo (btP zs lo hi) (k + 1) = selTo (btP zs lo hi) k ++ [(k : Int)]) := selTo_yes h1
            go_wp2_with (first | (at_builtin; refine append_int rfl (.tmp 35) (.tmp 37) rfl w.heap.size _ _ rfl (Own.alloc (hown.alloc _) _) k _ rfl (Blk.new1 _ _ _ _) (by omega) (by simp; omega) ?_; intro v1 w2 hown1 hgr1) | (go_at_call 37; refine (isLength_c _ _).mono ?_; rintro e w' ⟨rfl, rfl⟩) | (go_at_call 38; refine (within_c _ _ _ _).mono ?_; rintro e w' ⟨rfl, rfl⟩))
            go_roundw
            case rel => exact ⟨k + 1, by omega, by go_num, by rw [HQ.out]; exact hown1, below_grown (balloc (balloc hbel _) _) hgr1 (fun g hg => (hown.lt g hg).1)⟩
            case measure => simp [intOf]; omega
          · have HQ : Hid (selTo (btP zs lo hi) (k + 1) = selTo (btP zs lo hi) k) := selTo_no h1
            go_wp2_with (first | (go_at_call 37; refine (isLength_c _ _).mono ?_; rintro e w' ⟨rfl, rfl⟩) | (go_at_call 38; refine (within_c _ _ _ _).mono ?_; rintro e w' ⟨rfl, rfl⟩))
            go_roundw
            case rel => exact ⟨k + 1, by omega, by go_num, by rw [HQ.out]; exact (hown.alloc _), (balloc hbel _)⟩
            case measure => simp [intOf]; omega
        · obtain rfl : k = n := by omega
          go_wp2
          go_ret2
          exact ⟨_, by rw [HV.out.2]; rfl, by rw [HV.out.1]; exact hown, hbel⟩
    all_goals
      have HV : Hid (btV zs n lo hi = [] ∧ btC zs n lo hi = 2) := by show _ ∧ _; simp [btV, btC, *]
      go_enter Try.func18, Try.ntmps18
      go_wp2_with fail
      refine (ValidRods_c _ _ _ zs _ h hn).mono ?_
      rintro e w1 ⟨rfl, hb1⟩
      rw [hok]
      go_wp2_with (first | (go_at_call 37; refine (isLength_c _ _).mono ?_; rintro e w' ⟨rfl, rfl⟩) | (go_at_call 38; refine (within_c _ _ _ _).mono ?_; rintro e w' ⟨rfl, rfl⟩))
      go_ret2
      exact ⟨_, by rw [HV.out.2]; rfl, by rw [HV.out.1]; exact Own.nil _ _, hb1⟩

end Go.Proofs.Ytpjafammnjbjdaa
