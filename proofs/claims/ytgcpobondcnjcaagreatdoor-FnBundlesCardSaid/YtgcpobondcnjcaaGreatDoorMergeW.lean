/-
  swapRange, rotate, symMerge over whole numbers: the walks.
  No conditions.
-/
import Derived.Test.YtgcpobondcnjcaaGreatDoorMergeP
namespace Go.Proofs.YtgcpobondcnjcaaGreatDoor
open Go.ChangeShapes Go.WideShapes Go.ChangeAt Go.RowKit Go.Deep Go.Shelf Go.Lib Go.Sort
set_option linter.unusedVariables false

section
variable {enc : Int → Value} {w0 : World} {blk : Nat} {d0 : Array Int}
set_option maxRecDepth 100000 in
set_option maxHeartbeats 4000000 in
theorem swapRange_c (R : Row1 enc w0 blk 0 d0) (d : Array Int) (hs : d.size = d0.size) (cap p x n : Nat) (fv : Value) (W : World) (S : SW enc w0 blk 0 d W) (hpx : p + n ≤ x) (hx : x + n ≤ d.size) (hsz : d.size ≤ 1000) :
    Calls Tryz.prog 109 #[.slice (some ⟨blk, 0, none⟩) d.size cap, .int .i64 (p : Int), .int .i64 (x : Int), .int .i64 (n : Int), fv] W fun e w' => e = .returned (.tuple #[]) ∧ ∃ d' : Array Int, d'.size = d.size ∧ (∀ t, d'[t]! = d[swIx p x n t]!) ∧ SW enc w0 blk 0 d' w' := by
  have HS : Aside _ := S
  have HR : Aside _ := R
  clear S R
  obtain ⟨D, hD⟩ : ∃ D, d.size = D := ⟨_, rfl⟩
  rw [hD] at hs hx hsz ⊢
  have HD := Lib.hid hD
  clear hD
  have mixed := insLays.mixed
  have hcl0 := HR.out.hO.cells
  simp only [Value.cells] at hcl0
  have hst := HR.out.hO.store Tryz.prog
  go_enter Tryz.func109, Tryz.ntmps109
  go_wp2_with fail
  go_loopw [10] (fun v wr => ∃ (i : Nat) (dk : Array Int), i ≤ n ∧ v = .int .i64 i ∧ dk.size = D ∧ Hid (∀ t, dk[t]! = d[swIx p x i t]!) ∧ Aside (SW enc w0 blk 0 dk wr)) (fun v _ => n - (intOf v).toNat)
  case atStart => exact ⟨0, d, Nat.zero_le _, rfl, HD.out, fun t => by unfold swIx; rw [if_neg (by omega), if_neg (by omega)], HS.out⟩
  case round =>
    clear HS
    obtain ⟨i, dk, hi, rfl, hsk, HI, SK⟩ := hrel
    by_cases hlt : i < n
    · have hpi : p + i < dk.size := by omega
      have hxi : x + i < dk.size := by omega
      obtain ⟨xp, hxp⟩ : ∃ q, q = dk[p + i]! := ⟨_, rfl⟩
      obtain ⟨xx, hxx⟩ : ∃ q, q = dk[x + i]! := ⟨_, rfl⟩
      have c1 := SK.out.c1 HR.out (by omega) (p + i) hpi
      have c2 := SK.out.c1 HR.out (by omega) (x + i) hxi
      have f1 := SK.out.f1 HR.out (by omega) (p + i) hpi
      have f2 := SK.out.f1 HR.out (by omega) (x + i) hxi
      have S3 : Aside (SW enc w0 blk 0 (swp dk (p + i) (x + i)) ((wr.setCell ⟨blk, 0 + (p + i), none⟩ (enc xx)).setCell ⟨blk, 0 + (x + i), none⟩ (enc xp)).drew) := by rw [hxp, hxx]; exact SK.out.swapped HR.out (p + i) (x + i) hpi hxi
      obtain ⟨u, c3⟩ := SK.out.c2 HR.out (by omega) (p + i) (x + i) hpi hxi (enc xx)
      rw [← hxp] at c1
      rw [← hxx] at c2
      have HX := Lib.hid (And.intro hxp hxx)
      clear hxp hxx SK
      obtain ⟨pN, hpN⟩ : ∃ q, q = p + i := ⟨_, rfl⟩
      obtain ⟨xN, hxN⟩ : ∃ q, q = x + i := ⟨_, rfl⟩
      rw [← hpN] at c1 f1
      rw [← hxN] at c2 f2
      rw [← hpN, ← hxN] at c3 S3
      simp only [Nat.zero_add] at c1 c2 f1 f2 c3 S3
      have ea : ((p : Int) + (i : Int)).toNat = pN := by omega
      have pa : (0 : Int) ≤ (p : Int) + (i : Int) := by omega
      have ba : (p : Int) + (i : Int) < (D : Int) := by omega
      have ra : IntKind.i64.wrap ((p : Int) + (i : Int)) = (p : Int) + (i : Int) := by rw [IntKind.wrap_i64]; omega
      have ec : ((x : Int) + (i : Int)).toNat = xN := by omega
      have pc : (0 : Int) ≤ (x : Int) + (i : Int) := by omega
      have bc : (x : Int) + (i : Int) < (D : Int) := by omega
      have rc : IntKind.i64.wrap ((x : Int) + (i : Int)) = (x : Int) + (i : Int) := by rw [IntKind.wrap_i64]; omega
      have HPX := Lib.hid (And.intro hpN hxN)
      clear hpN hxN
      go_wp2_with fail
      go_big_region_o
      clear c1 c2 c3 f1 f2 ra rc
      generalize ((wr.setCell ⟨blk, pN, none⟩ (enc xx)).setCell ⟨blk, xN, none⟩ (enc xp)).drew = w3 at S3 ⊢
      clear ea ec
      go_wp2_with fail
      go_roundw
      case rel =>
        obtain ⟨hpN, hxN⟩ := HPX.out
        refine ⟨i + 1, _, by omega, by go_num, by rw [size_swp]; exact hsk, fun t => ?_, S3⟩
        rw [hpN, hxN, swp_get _ _ _ _ hpi hxi]
        have h := HI.out
        by_cases q1 : t = x + i
        · rw [if_pos q1, h]
          congr 1
          unfold swIx
          rw [if_neg (by omega), if_neg (by omega), if_neg (by omega), if_pos (by omega)]
          omega
        · rw [if_neg q1]
          by_cases q2 : t = p + i
          · rw [if_pos q2, h]
            congr 1
            unfold swIx
            rw [if_neg (by omega), if_neg (by omega), if_pos (by omega)]
            omega
          · rw [if_neg q2, h]
            congr 1
            unfold swIx
            repeat' split
            all_goals omega
      case measure => simp [intOf]; omega
    · obtain rfl : i = n := by omega
      go_wp2
      go_end0
      exact ⟨rfl, dk, hsk, HI.out, SK.out⟩
theorem swapRange_z (R : Row1 enc w0 blk 0 d0) (d : Array Int) (hs : d.size = d0.size) (cap p x n D : Nat) (pz xz nz : Int) (fv : Value) (W : World) (S : SW enc w0 blk 0 d W) (hp : pz = p) (hxx : xz = x) (hn : nz = n) (hD : d.size = D) (hpx : p + n ≤ x) (hx : x + n ≤ D) (hsz : D ≤ 1000) :
    Calls Tryz.prog 109 #[.slice (some ⟨blk, 0, none⟩) D cap, .int .i64 pz, .int .i64 xz, .int .i64 nz, fv] W fun e w' => e = .returned (.tuple #[]) ∧ ∃ d' : Array Int, d'.size = D ∧ (∀ t, d'[t]! = d[swIx p x n t]!) ∧ SW enc w0 blk 0 d' w' := by
  subst hp hxx hn hD
  exact swapRange_c R d hs cap p x n fv W S hpx hx hsz
set_option maxRecDepth 100000 in
set_option maxHeartbeats 4000000 in
theorem rotate_c (R : Row1 enc w0 blk 0 d0) (d : Array Int) (cap a m b D : Nat) (fv : Value) (W : World) (S : SW enc w0 blk 0 d W) (hD : d.size = D) (hD0 : D = d0.size) (ham : a < m) (hmb : m < b) (hb : b ≤ D) (hsz : D ≤ 1000) :
    Calls Tryz.prog 103 #[.slice (some ⟨blk, 0, none⟩) D cap, .int .i64 (a : Int), .int .i64 (m : Int), .int .i64 (b : Int), fv] W fun e w' => e = .returned (.tuple #[]) ∧ ∃ d' : Array Int, d'.size = D ∧ (∀ t, d'[t]! = d[rtIx a m b t]!) ∧ SW enc w0 blk 0 d' w' := by
  have HS : Aside _ := S
  have HR : Aside _ := R
  have HD := Lib.hid hD
  have HD0 := Lib.hid hD0
  clear S R hD hD0
  go_enter Tryz.func103, Tryz.ntmps103
  go_wp2_with fail
  go_loopw [10, 11] (fun v u wr => ∃ (i j : Nat) (dk : Array Int), 0 < i ∧ 0 < j ∧ a + i ≤ m ∧ m + j ≤ b ∧ v = .int .i64 i ∧ u = .int .i64 j ∧ Hid (dk.size = D) ∧ Hid (∀ t, dk[rtIx (m - i) m (m + j) t]! = d[rtIx a m b t]!) ∧ Aside (SW enc w0 blk 0 dk wr)) (fun v u _ => (intOf v).toNat + (intOf u).toNat)
  case atStart => exact ⟨m - a, b - m, d, by omega, by omega, by omega, by omega, by go_num, by go_num, HD.out, fun t => by rw [show m - (m - a) = a by omega, show m + (b - m) = b by omega], HS.out⟩
  case round =>
    clear HS
    obtain ⟨i, j, dk, hi0, hj0, hai, hbj, rfl, rfl, HK, HI, SK⟩ := hrel
    by_cases hij : i = j
    · subst hij
      go_wp2_with fail
      (with_reducible refine (swapRange_z HR.out dk (by rw [HK.out]; exact HD0.out) cap (m - i) m i D ((m : Int) - (i : Int)) _ _ fv _ SK.out (by omega) rfl rfl HK.out (by omega) (by omega) hsz).mono ?_)
      rintro e w2 ⟨rfl, d2, hs2, hd2, S2⟩
      have HS2 : Aside _ := S2
      have HD2 := Lib.hid hd2
      clear S2 hd2
      go_wp2
      go_end0
      exact ⟨rfl, d2, hs2, fun t => by
        rw [HD2.out, ← HI.out]
        have e := rt_same (p := m - i) (m := m) (q := m + i) (t := t) (by omega) (by omega) (by omega)
        rw [show m - (m - i) = i by omega] at e
        rw [e], HS2.out⟩
    · by_cases hlt : j < i
      · have hne : ¬ (i : Int) = (j : Int) := by omega
        go_wp2_with fail
        (with_reducible refine (swapRange_z HR.out dk (by rw [HK.out]; exact HD0.out) cap (m - i) m j D ((m : Int) - (i : Int)) _ _ fv _ SK.out (by omega) rfl rfl HK.out (by omega) (by omega) hsz).mono ?_)
        rintro e w2 ⟨rfl, d2, hs2, hd2, S2⟩
        have HS2 : Aside _ := S2
        have HD2 := Lib.hid hd2
        have HK2 := Lib.hid hs2
        clear S2 hd2 hs2
        go_wp2_with fail
        go_roundw
        case rel => exact ⟨i - j, j, d2, by omega, hj0, by omega, hbj, by go_num, rfl, HK2.out, fun t => by
          rw [HD2.out, ← HI.out]
          have e := rt_left (p := m - i) (m := m) (q := m + j) (t := t) (by omega) (by omega) (by omega)
          rw [show m + j - m = j by omega] at e
          rw [show m - (i - j) = m - i + j by omega, e], HS2.out⟩
        case measure => simp [intOf]; omega
      · have hne : ¬ (i : Int) = (j : Int) := by omega
        go_wp2_with fail
        (with_reducible refine (swapRange_z HR.out dk (by rw [HK.out]; exact HD0.out) cap (m - i) (m + j - i) i D ((m : Int) - (i : Int)) ((m : Int) + (j : Int) - (i : Int)) _ fv _ SK.out (by omega) (by omega) rfl HK.out (by omega) (by omega) hsz).mono ?_)
        rintro e w2 ⟨rfl, d2, hs2, hd2, S2⟩
        have HS2 : Aside _ := S2
        have HD2 := Lib.hid hd2
        have HK2 := Lib.hid hs2
        clear S2 hd2 hs2
        go_wp2_with fail
        go_roundw
        case rel => exact ⟨i, j - i, d2, hi0, by omega, hai, by omega, rfl, by go_num, HK2.out, fun t => by
          rw [HD2.out, ← HI.out]
          have e := rt_right (p := m - i) (m := m) (q := m + j) (t := t) (by omega) (by omega) (by omega)
          rw [show m - (m - i) = i by omega] at e
          rw [show m + (j - i) = m + j - i by omega, e], HS2.out⟩
        case measure => simp [intOf]; omega
end
end Go.Proofs.YtgcpobondcnjcaaGreatDoor
