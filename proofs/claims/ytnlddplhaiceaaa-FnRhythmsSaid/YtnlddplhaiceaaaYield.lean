/-
  YieldNow: what it answers.
  No conditions.
-/
import Derived.Test.YtnlddplhaiceaaaBedOk
namespace Go.Proofs.Ytnlddplhaiceaaa
open Go.ChangeShapes Go.WideShapes Go.ChangeAt Go.RowKit Go.Deep

def ynV (ys : List Int) (a : Int) : Int := if bedOk ys a then yfor ys a else 0
def ynC (ys : List Int) (a : Int) : Int := if bedOk ys a then 0 else 1
theorem yn_s (A : Option Addr) (c : Nat) (ys : List Int) (a : Int) (w : World) (hI : Ints w w.heap.size 1 A ys.length ys) (hn : ys.length ≤ 1048576) :
    Calls Try.prog 31 #[.agg #[.slice A ys.length c, .int .i64 a]] w fun e w' => e = .returned (.tuple #[.int .i64 (ynV ys a), .int .i64 (ynC ys a)]) ∧ Below w.heap.size w w' := by
  have hJ := hI.on (balloc (Below.refl _ _) (.cells #[.slice A ys.length c, .int .i64 a] 41))
  have K := Blk.new w 41 #[.slice A ys.length c, .int .i64 a]
  have Kl := K.lt
  have Kc0 := K.cell 0
  have Kf0 := K.frozen 0
  have Kc1 := K.cell 1
  have Kf1 := K.frozen 1
  simp at Kc0 Kc1
  have KH := Lib.hid K
  clear K
  rcases hok : bedOk ys a with _ | _
  · have HV : Hid (ynV ys a = 0 ∧ ynC ys a = 1) := by show _ ∧ _; simp [ynV, ynC, hok]
    go_enter Try.func31, Try.ntmps31
    go_wp2_with fail
    refine (bedOk_s w.heap.size 0 A c ys a _ (by simp) (by simp) hJ hn).mono ?_
    rintro e w1 ⟨rfl, rfl⟩
    rw [hok]
    go_wp2
    go_ret2
    exact ⟨by rw [HV.out.1, HV.out.2]; rfl, balloc (Below.refl _ _) _⟩
  · have HV : Hid (ynV ys a = yfor ys a ∧ ynC ys a = 0) := by show _ ∧ _; simp [ynV, ynC, hok]
    obtain ⟨h1, h2, h3, h4, -⟩ := bedOk_bd hok
    go_enter Try.func31, Try.ntmps31
    go_wp2_with fail
    refine (bedOk_s w.heap.size 0 A c ys a _ (by simp) (by simp) hJ hn).mono ?_
    rintro e w1 ⟨rfl, rfl⟩
    rw [hok]
    go_wp2_with fail
    refine (yfor_s w.heap.size 0 A c ys a _ (by simp) hJ h1 h2 h3 (by omega)).mono ?_
    rintro e w2 ⟨rfl, q, rfl⟩
    go_wp2
    go_ret2
    exact ⟨by rw [HV.out.1, HV.out.2]; rfl, bdrewN (balloc (Below.refl _ _) _) _⟩
theorem yn_i (A : Option Addr) (c : Nat) (ys : List Int) (a : Int) (w : World) (hI : Ints w w.heap.size 1 A ys.length ys) (hn : ys.length ≤ 1048576) :
    Calls Try.prog 30 #[.agg #[.slice A ys.length c, .int .i64 a]] w fun e w' => e = .returned (.tuple #[.int .i64 (ynV ys a), .int .i64 (ynC ys a)]) ∧ Below w.heap.size w w' := by
  have hJ := hI.on (balloc (Below.refl _ _) (.cells #[.slice A ys.length c, .int .i64 a] 41))
  rcases hok : bedOk ys a with _ | _
  · have HV : Hid (ynV ys a = 0 ∧ ynC ys a = 1) := by show _ ∧ _; simp [ynV, ynC, hok]
    go_enter Try.func30, Try.ntmps30
    go_wp2_with fail
    refine (bedOk_i A c ys a _ hJ hn).mono ?_
    rintro e w1 ⟨rfl, hb1⟩
    rw [hok]
    go_wp2
    go_ret2
    exact ⟨by rw [HV.out.1, HV.out.2]; rfl, btrans (balloc (Below.refl _ _) _) hb1⟩
  · have HV : Hid (ynV ys a = yfor ys a ∧ ynC ys a = 0) := by show _ ∧ _; simp [ynV, ynC, hok]
    obtain ⟨h1, h2, h3, h4, -⟩ := bedOk_bd hok
    go_enter Try.func30, Try.ntmps30
    go_wp2_with fail
    refine (bedOk_i A c ys a _ hJ hn).mono ?_
    rintro e w1 ⟨rfl, hb1⟩
    rw [hok]
    have K := (Blk.new w 41 #[.slice A ys.length c, .int .i64 a]).on hb1
    have Kl := K.lt
    have Kc0 := K.cell 0
    have Kf0 := K.frozen 0
    have Kc1 := K.cell 1
    have Kf1 := K.frozen 1
    simp at Kc0 Kc1
    have KH := Lib.hid K
    clear K
    go_wp2_with fail
    refine (yfor_i A c ys a a _ (hJ.on hb1) h1 h2 h3 (by omega)).mono ?_
    rintro e w2 ⟨rfl, hb2⟩
    go_wp2
    go_ret2
    exact ⟨by rw [HV.out.1, HV.out.2]; rfl, btrans (btrans (balloc (Below.refl _ _) _) hb1) hb2⟩

end Go.Proofs.Ytnlddplhaiceaaa
