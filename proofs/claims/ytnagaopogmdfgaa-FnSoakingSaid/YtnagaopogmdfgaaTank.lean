/-
  InTank, SuppleAt: what they answer.
  No conditions.
-/
import Derived.Test.YtnagaopogmdfgaaBatch
namespace Go.Proofs.Ytnagaopogmdfgaa
open Go.ChangeShapes Go.WideShapes Go.ChangeAt Go.RowKit Go.Deep

/-- What is answered: a sum over the batches, and a code. -/
def atV (f : List Int → Int → Nat → Int) (zs : List Int) (n : Nat) (hr : Int) : Int := if okAll (batchAt zs) n 10 && inR hr 0 10000 then sumTo (f zs hr) n else 0
def atC (zs : List Int) (n : Nat) (hr : Int) : Int := if okAll (batchAt zs) n 10 then (if inR hr 0 10000 then 0 else 2) else 1

set_option maxHeartbeats 1000000 in
theorem intank_s (A : Option Addr) (n c : Nat) (zs : List Int) (hr : Int) (w : World) (h : Ints w w.heap.size 4 A n zs) (hn : n ≤ 1048576) :
    Calls Try.prog 20 #[.slice A n c, .int .i64 hr] w fun e w' => e = .returned (.tuple #[.int .i64 (atV tankF zs n hr), .int .i64 (atC zs n hr)]) ∧ Below w.heap.size w w' := by
  rcases hok : okAll (batchAt zs) n 10 with _ | _
  · have HV : Hid (atV tankF zs n hr = 0 ∧ atC zs n hr = 1) := by show _ ∧ _; simp [atV, atC, hok]
    go_enter Try.func20, Try.ntmps20
    go_wp2_with fail
    refine (ValidBatches_s _ _ _ zs _ h hn).mono ?_
    rintro e w1 ⟨rfl, hb1⟩
    rw [hok]
    go_wp2
    go_ret2
    exact ⟨by rw [HV.out.1, HV.out.2]; rfl, hb1⟩
  · refine inR_split hr 0 10000 (fun hl _ _ => ?_) (fun hl => ?_)
    · have HV : Hid (atV tankF zs n hr = sumTo (tankF zs hr) n ∧ atC zs n hr = 0) := by show _ ∧ _; simp [atV, atC, hok, hl]
      have hlo := loose_of (by omega) hok
      go_enter Try.func20, Try.ntmps20
      go_wp2_with fail
      refine (ValidBatches_s _ _ _ zs _ h hn).mono ?_
      rintro e w1 ⟨rfl, hb1⟩
      rw [hok]
      go_wp2_with (first | (go_at_call 45; refine (tankF_s _ _ _ zs _ _ (h.below hb1 (Nat.le_refl _) |>.more hb1.size) hlo).mono ?_; rintro e w2 ⟨rfl, hb2⟩) | (first | (go_at_call 48; refine (l04Hour_c _ _).mono ?_; rintro e w' ⟨rfl, rfl⟩)))
      go_ret2
      exact ⟨by rw [HV.out.1, HV.out.2]; rfl, btrans hb1 hb2⟩
    · have HV : Hid (atV tankF zs n hr = 0 ∧ atC zs n hr = 2) := by show _ ∧ _; simp [atV, atC, hok, hl]
      go_enter Try.func20, Try.ntmps20
      go_wp2_with fail
      refine (ValidBatches_s _ _ _ zs _ h hn).mono ?_
      rintro e w1 ⟨rfl, hb1⟩
      rw [hok]
      go_wp2_with (first | (go_at_call 48; refine (l04Hour_c _ _).mono ?_; rintro e w' ⟨rfl, rfl⟩))
      go_ret2
      exact ⟨by rw [HV.out.1, HV.out.2]; rfl, hb1⟩
set_option maxHeartbeats 1000000 in
theorem intank_i (A : Option Addr) (n c : Nat) (zs : List Int) (hr : Int) (w : World) (h : Ints w w.heap.size 4 A n zs) (hn : n ≤ 1048576) :
    Calls Try.prog 19 #[.slice A n c, .int .i64 hr] w fun e w' => e = .returned (.tuple #[.int .i64 (atV tankF zs n hr), .int .i64 (atC zs n hr)]) ∧ Below w.heap.size w w' := by
  rcases hok : okAll (batchAt zs) n 10 with _ | _
  · have HV : Hid (atV tankF zs n hr = 0 ∧ atC zs n hr = 1) := by show _ ∧ _; simp [atV, atC, hok]
    go_enter Try.func19, Try.ntmps19
    go_wp2_with fail
    refine (ValidBatches_c _ _ _ zs _ h hn).mono ?_
    rintro e w1 ⟨rfl, hb1⟩
    rw [hok]
    go_wp2
    go_ret2
    exact ⟨by rw [HV.out.1, HV.out.2]; rfl, hb1⟩
  · refine inR_split hr 0 10000 (fun hl _ _ => ?_) (fun hl => ?_)
    · have HV : Hid (atV tankF zs n hr = sumTo (tankF zs hr) n ∧ atC zs n hr = 0) := by show _ ∧ _; simp [atV, atC, hok, hl]
      have hlo := loose_of (by omega) hok
      go_enter Try.func19, Try.ntmps19
      go_wp2_with fail
      refine (ValidBatches_c _ _ _ zs _ h hn).mono ?_
      rintro e w1 ⟨rfl, hb1⟩
      rw [hok]
      go_wp2_with (first | (go_at_call 43; refine (tankF_i _ _ _ zs _ _ (h.below hb1 (Nat.le_refl _) |>.more hb1.size) hlo).mono ?_; rintro e w2 ⟨rfl, hb2⟩) | (first | (go_at_call 46; refine (isHourS_c _ _).mono ?_; rintro e w' ⟨rfl, rfl⟩)))
      go_ret2
      exact ⟨by rw [HV.out.1, HV.out.2]; rfl, btrans hb1 hb2⟩
    · have HV : Hid (atV tankF zs n hr = 0 ∧ atC zs n hr = 2) := by show _ ∧ _; simp [atV, atC, hok, hl]
      go_enter Try.func19, Try.ntmps19
      go_wp2_with fail
      refine (ValidBatches_c _ _ _ zs _ h hn).mono ?_
      rintro e w1 ⟨rfl, hb1⟩
      rw [hok]
      go_wp2_with (first | (go_at_call 46; refine (isHourS_c _ _).mono ?_; rintro e w' ⟨rfl, rfl⟩))
      go_ret2
      exact ⟨by rw [HV.out.1, HV.out.2]; rfl, hb1⟩
set_option maxHeartbeats 1000000 in
theorem suppat_s (A : Option Addr) (n c : Nat) (zs : List Int) (hr : Int) (w : World) (h : Ints w w.heap.size 4 A n zs) (hn : n ≤ 1048576) :
    Calls Try.prog 28 #[.slice A n c, .int .i64 hr] w fun e w' => e = .returned (.tuple #[.int .i64 (atV suppF zs n hr), .int .i64 (atC zs n hr)]) ∧ Below w.heap.size w w' := by
  rcases hok : okAll (batchAt zs) n 10 with _ | _
  · have HV : Hid (atV suppF zs n hr = 0 ∧ atC zs n hr = 1) := by show _ ∧ _; simp [atV, atC, hok]
    go_enter Try.func28, Try.ntmps28
    go_wp2_with fail
    refine (ValidBatches_s _ _ _ zs _ h hn).mono ?_
    rintro e w1 ⟨rfl, hb1⟩
    rw [hok]
    go_wp2
    go_ret2
    exact ⟨by rw [HV.out.1, HV.out.2]; rfl, hb1⟩
  · refine inR_split hr 0 10000 (fun hl _ _ => ?_) (fun hl => ?_)
    · have HV : Hid (atV suppF zs n hr = sumTo (suppF zs hr) n ∧ atC zs n hr = 0) := by show _ ∧ _; simp [atV, atC, hok, hl]
      have hlo := loose_of (by omega) hok
      go_enter Try.func28, Try.ntmps28
      go_wp2_with fail
      refine (ValidBatches_s _ _ _ zs _ h hn).mono ?_
      rintro e w1 ⟨rfl, hb1⟩
      rw [hok]
      go_wp2_with (first | (go_at_call 52; refine (suppF_s _ _ _ zs _ _ (h.below hb1 (Nat.le_refl _) |>.more hb1.size) hlo).mono ?_; rintro e w2 ⟨rfl, hb2⟩) | (first | (go_at_call 48; refine (l04Hour_c _ _).mono ?_; rintro e w' ⟨rfl, rfl⟩)))
      go_ret2
      exact ⟨by rw [HV.out.1, HV.out.2]; rfl, btrans hb1 hb2⟩
    · have HV : Hid (atV suppF zs n hr = 0 ∧ atC zs n hr = 2) := by show _ ∧ _; simp [atV, atC, hok, hl]
      go_enter Try.func28, Try.ntmps28
      go_wp2_with fail
      refine (ValidBatches_s _ _ _ zs _ h hn).mono ?_
      rintro e w1 ⟨rfl, hb1⟩
      rw [hok]
      go_wp2_with (first | (go_at_call 48; refine (l04Hour_c _ _).mono ?_; rintro e w' ⟨rfl, rfl⟩))
      go_ret2
      exact ⟨by rw [HV.out.1, HV.out.2]; rfl, hb1⟩
set_option maxHeartbeats 1000000 in
theorem suppat_i (A : Option Addr) (n c : Nat) (zs : List Int) (hr : Int) (w : World) (h : Ints w w.heap.size 4 A n zs) (hn : n ≤ 1048576) :
    Calls Try.prog 29 #[.slice A n c, .int .i64 hr] w fun e w' => e = .returned (.tuple #[.int .i64 (atV suppF zs n hr), .int .i64 (atC zs n hr)]) ∧ Below w.heap.size w w' := by
  rcases hok : okAll (batchAt zs) n 10 with _ | _
  · have HV : Hid (atV suppF zs n hr = 0 ∧ atC zs n hr = 1) := by show _ ∧ _; simp [atV, atC, hok]
    go_enter Try.func29, Try.ntmps29
    go_wp2_with fail
    refine (ValidBatches_c _ _ _ zs _ h hn).mono ?_
    rintro e w1 ⟨rfl, hb1⟩
    rw [hok]
    go_wp2
    go_ret2
    exact ⟨by rw [HV.out.1, HV.out.2]; rfl, hb1⟩
  · refine inR_split hr 0 10000 (fun hl _ _ => ?_) (fun hl => ?_)
    · have HV : Hid (atV suppF zs n hr = sumTo (suppF zs hr) n ∧ atC zs n hr = 0) := by show _ ∧ _; simp [atV, atC, hok, hl]
      have hlo := loose_of (by omega) hok
      go_enter Try.func29, Try.ntmps29
      go_wp2_with fail
      refine (ValidBatches_c _ _ _ zs _ h hn).mono ?_
      rintro e w1 ⟨rfl, hb1⟩
      rw [hok]
      go_wp2_with (first | (go_at_call 53; refine (suppF_i _ _ _ zs _ _ (h.below hb1 (Nat.le_refl _) |>.more hb1.size) hlo).mono ?_; rintro e w2 ⟨rfl, hb2⟩) | (first | (go_at_call 46; refine (isHourS_c _ _).mono ?_; rintro e w' ⟨rfl, rfl⟩)))
      go_ret2
      exact ⟨by rw [HV.out.1, HV.out.2]; rfl, btrans hb1 hb2⟩
    · have HV : Hid (atV suppF zs n hr = 0 ∧ atC zs n hr = 2) := by show _ ∧ _; simp [atV, atC, hok, hl]
      go_enter Try.func29, Try.ntmps29
      go_wp2_with fail
      refine (ValidBatches_c _ _ _ zs _ h hn).mono ?_
      rintro e w1 ⟨rfl, hb1⟩
      rw [hok]
      go_wp2_with (first | (go_at_call 46; refine (isHourS_c _ _).mono ?_; rintro e w' ⟨rfl, rfl⟩))
      go_ret2
      exact ⟨by rw [HV.out.1, HV.out.2]; rfl, hb1⟩

end Go.Proofs.Ytnagaopogmdfgaa
