/-
  The two rods that are most alike.
  No conditions.
-/
import Derived.Test.YtpjafammnjbjdaaValid
import Derived.Test.YtpjafammnjbjdaaInts
import Derived.IntWalk
import Derived.Deep.RegionWith
namespace Go.Proofs.Ytpjafammnjbjdaa
open Go.ChangeShapes Go.WideShapes Go.ChangeAt Go.RowKit Go.Deep

def absI (a : Int) : Int := if a < 0 then -a else a
theorem absI_bd {a m : Int} (h1 : -m ≤ a) (h2 : a ≤ m) : 0 ≤ absI a ∧ absI a ≤ m := by unfold absI; split <;> omega
/-- How much two rods differ. -/
def apF (zs : List Int) (i k : Nat) : Int := absI (gi zs (i * 3) - gi zs (k * 3)) + absI (gi zs (i * 3 + 1) - gi zs (k * 3 + 1)) + absI (gi zs (i * 3 + 2) - gi zs (k * 3 + 2))
/-- One pair more: the program's state, the reference's. -/
def stI (d : Nat → Nat → Int) (i k : Nat) (s : Nat × Nat × Int) : Nat × Nat × Int := if s.2.2 < 0 ∨ d i k < s.2.2 then (i, k, d i k) else s
def stS (d : Nat → Nat → Int) (i k : Nat) (s : Nat × Nat) : Nat × Nat := if d i k < d s.1 s.2 then (i, k) else s
def inI (d : Nat → Nat → Int) (i : Nat) (s : Nat × Nat × Int) : Nat → Nat × Nat × Int
  | 0 => s
  | m + 1 => stI d i (i + 1 + m) (inI d i s m)
def inS (d : Nat → Nat → Int) (i : Nat) (s : Nat × Nat) : Nat → Nat × Nat
  | 0 => s
  | m + 1 => stS d i (i + 1 + m) (inS d i s m)
def ouI (d : Nat → Nat → Int) (n : Nat) : Nat → Nat × Nat × Int
  | 0 => (0, 0, -1)
  | i + 1 => inI d i (ouI d n i) (n - (i + 1))
def ouS (d : Nat → Nat → Int) (n : Nat) : Nat → Nat × Nat
  | 0 => (0, 1)
  | i + 1 => inS d i (ouS d n i) (n - (i + 1))
theorem st_rel {d : Nat → Nat → Int} (hd : ∀ i k, 0 ≤ d i k) {s : Nat × Nat × Int} {t : Nat × Nat} (h : s = (t.1, t.2, d t.1 t.2)) (i k : Nat) :
    stI d i k s = ((stS d i k t).1, (stS d i k t).2, d (stS d i k t).1 (stS d i k t).2) := by
  subst h
  have := hd t.1 t.2
  unfold stI stS
  simp only
  by_cases hc : d i k < d t.1 t.2
  · rw [if_pos (.inr hc), if_pos hc]
  · rw [if_neg (by omega), if_neg hc]
theorem in_rel {d : Nat → Nat → Int} (hd : ∀ i k, 0 ≤ d i k) {s : Nat × Nat × Int} {t : Nat × Nat} (h : s = (t.1, t.2, d t.1 t.2)) (i : Nat) :
    ∀ m, inI d i s m = ((inS d i t m).1, (inS d i t m).2, d (inS d i t m).1 (inS d i t m).2)
  | 0 => h
  | m + 1 => st_rel hd (in_rel hd h i m) i _
theorem in_first {d : Nat → Nat → Int} (hd : ∀ i k, 0 ≤ d i k) :
    ∀ m, inI d 0 (0, 0, -1) (m + 1) = ((inS d 0 (0, 1) (m + 1)).1, (inS d 0 (0, 1) (m + 1)).2, d (inS d 0 (0, 1) (m + 1)).1 (inS d 0 (0, 1) (m + 1)).2)
  | 0 => by
    show stI d 0 1 (0, 0, -1) = _
    have e : inS d 0 (0, 1) 1 = (0, 1) := by
      show stS d 0 1 (0, 1) = _
      unfold stS; simp
    rw [e]
    unfold stI; simp
  | m + 1 => st_rel hd (in_first hd m) 0 _
theorem ou_rel {d : Nat → Nat → Int} (hd : ∀ i k, 0 ≤ d i k) {n : Nat} (hn : 2 ≤ n) :
    ∀ i, ouI d n (i + 1) = ((ouS d n (i + 1)).1, (ouS d n (i + 1)).2, d (ouS d n (i + 1)).1 (ouS d n (i + 1)).2)
  | 0 => by
    obtain ⟨m, rfl⟩ : ∃ m, n = m + 2 := ⟨n - 2, by omega⟩
    exact in_first hd m
  | i + 1 => in_rel hd (ou_rel hd hn i) (i + 1) _
theorem apF_nn (zs : List Int) (i k : Nat) : 0 ≤ apF zs i k := by unfold apF absI; split <;> split <;> split <;> omega
/-- MostAlike. -/
def maV (zs : List Int) (n : Nat) : Nat × Nat := if okAll (rodAt zs) n 20 && decide (2 ≤ n) then ouS (apF zs) n n else (0, 0)
def maC (zs : List Int) (n : Nat) : Int := if okAll (rodAt zs) n 20 then (if 2 ≤ n then 0 else 3) else 1
theorem maV_i {zs : List Int} {n : Nat} (hok : okAll (rodAt zs) n 20 = true) (h2 : 2 ≤ n) : ((maV zs n).1, (maV zs n).2) = ((ouI (apF zs) n n).1, (ouI (apF zs) n n).2.1) := by
  obtain ⟨m, rfl⟩ : ∃ m, n = m + 1 := ⟨n - 1, by omega⟩
  have := ou_rel (apF_nn zs) h2 m
  rw [this]
  simp [maV, hok, h2]
theorem rodAt_bd {zs : List Int} {n : Nat} (hok : okAll (rodAt zs) n 20 = true) (j : Nat) (hj : j < n) : 100 ≤ gi zs (j * 3) ∧ gi zs (j * 3) ≤ 3000 ∧ 1 ≤ gi zs (j * 3 + 1) ∧ gi zs (j * 3 + 1) ≤ 300 ∧ 1 ≤ gi zs (j * 3 + 2) ∧ gi zs (j * 3 + 2) ≤ 300 := by
  have h := okAll_get hok hj
  simp only [rodAt, rodOk, Bool.and_eq_true] at h
  have h1 := inR_true h.1.1
  have h2 := inR_true h.1.2
  have h3 := inR_true h.2
  omega

theorem absI_i (a b : Int) (w : World) (h : -1000000 ≤ a) (h2 : a ≤ 1000000) (h3 : -1000000 ≤ b) (h4 : b ≤ 1000000) : Calls Try.prog 40 #[.int .i64 a, .int .i64 b] w fun e w' => e = .returned (.int .i64 (absI (a - b))) ∧ w = w' := by
  by_cases h0 : a - b < 0
  · have HV : Hid (absI (a - b) = b - a) := by show _ = _; rw [absI, if_pos h0]; omega
    go_enter Try.func40, Try.ntmps40
    go_wp2
    all_goals
      go_ret
      refine ⟨?_, rfl⟩
      rw [HV.out]
      first | rfl | (congr 2; omega)
  · have HV : Hid (absI (a - b) = a - b) := if_neg h0
    go_enter Try.func40, Try.ntmps40
    go_wp2
    all_goals
      go_ret
      refine ⟨?_, rfl⟩
      rw [HV.out]
      first | rfl | (congr 2; omega)

set_option maxRecDepth 100000 in
set_option maxHeartbeats 3000000 in
theorem alike_i (A : Option Addr) (n c : Nat) (zs : List Int) (w : World) (h : Ints w w.heap.size 3 A n zs) (hn : n ≤ 1048576) :
    Calls Try.prog 24 #[.slice A n c] w fun e w' => e = .returned (.tuple #[.int .i64 (maV zs n).1, .int .i64 (maV zs n).2, .int .i64 (maC zs n)]) ∧ Below w.heap.size w w' := by
  rcases hok : okAll (rodAt zs) n 20 with _ | _
  · have HV : Hid (maV zs n = (0, 0) ∧ maC zs n = 1) := by show _ ∧ _; simp [maV, maC, hok]
    go_enter Try.func24, Try.ntmps24
    go_wp2_with fail
    refine (ValidRods_c _ _ _ zs _ h hn).mono ?_
    rintro e w1 ⟨rfl, hb1⟩
    rw [hok]
    go_wp2
    go_ret3
    exact ⟨by rw [HV.out.1, HV.out.2]; rfl, hb1⟩
  · have hnm := okAll_le hok
    have hbd := Lib.hid (rodAt_bd hok)
    by_cases h2 : n < 2
    · have HV : Hid (maV zs n = (0, 0) ∧ maC zs n = 3) := by show _ ∧ _; simp [maV, maC, hok, show ¬ 2 ≤ n by omega]
      go_enter Try.func24, Try.ntmps24
      go_wp2_with fail
      refine (ValidRods_c _ _ _ zs _ h hn).mono ?_
      rintro e w1 ⟨rfl, hb1⟩
      rw [hok]
      go_wp2
      go_ret3
      exact ⟨by rw [HV.out.1, HV.out.2]; rfl, hb1⟩
    · have h2' : 2 ≤ n := by omega
      have HV : Hid (((maV zs n).1, (maV zs n).2) = ((ouI (apF zs) n n).1, (ouI (apF zs) n n).2.1) ∧ maC zs n = 0) := ⟨maV_i hok h2', by simp [maC, hok, h2']⟩
      clear h2
      go_enter Try.func24, Try.ntmps24
      go_wp2_with fail
      refine (ValidRods_c _ _ _ zs _ h hn).mono ?_
      rintro e w1 ⟨rfl, hb1⟩
      rw [hok]
      go_wp2_with fail
      go_loopw [5, 6, 7, 21] (fun x y z i wr => ∃ (k p q : Nat) (l : Int), k ≤ n ∧ i = .int .i64 k ∧ x = .int .i64 p ∧ y = .int .i64 q ∧ z = .int .i64 l ∧ Hid ((p, q, l) = ouI (apF zs) n k) ∧ Below w.heap.size w wr) (fun _ _ _ i _ => n - (intOf i).toNat)
      case atStart => exact ⟨0, 0, 0, -1, Nat.zero_le _, rfl, rfl, rfl, rfl, rfl, hb1⟩
      case round =>
        obtain ⟨k, p, q, l, hk, rfl, rfl, rfl, rfl, HS, hbel⟩ := hrel
        obtain ⟨wo, rfl⟩ : ∃ wo : World, wo = wr := ⟨_, rfl⟩
        by_cases hlt : k < n
        · have hcello := h.below hbel (Nat.le_refl _)
          obtain ⟨b, off, rfl, hb, c0, c1, c2⟩ := hcello.at3 hlt
          have hg := hbel.size
          have HB0 := Lib.hid (Blk.new wo 45 #[.int .i64 (gi zs (k * 3)), .int .i64 (gi zs (k * 3 + 1)), .int .i64 (gi zs (k * 3 + 2))])
          go_wp2_with fail
          clear c0 c1 c2
          go_loopw [5, 6, 7, 10] (fun x y z i wr => ∃ (m j p q : Nat) (l : Int), k + 1 ≤ j ∧ j ≤ n ∧ i = .int .i64 j ∧ Hid (j = k + 1 + m) ∧ x = .int .i64 p ∧ y = .int .i64 q ∧ z = .int .i64 l ∧ Hid ((p, q, l) = inI (apF zs) k (ouI (apF zs) n k) m) ∧
              Hid (Blk wr wo.heap.size 45 #[.int .i64 (gi zs (k * 3)), .int .i64 (gi zs (k * 3 + 1)), .int .i64 (gi zs (k * 3 + 2))]) ∧ Below w.heap.size w wr) (fun _ _ _ i _ => n - (intOf i).toNat)
          case atStart => exact ⟨0, k + 1, p, q, l, Nat.le_refl _, hlt, by go_num, rfl, rfl, rfl, rfl, HS.out, HB0.out, balloc hbel _⟩
          case round =>
            clear hbel HS HB0 hcello
            obtain ⟨m, j, p, q, l, hj1, hj2, rfl, HJ, rfl, rfl, rfl, HS, HB, hbel⟩ := hrel
            by_cases hml : j < n
            · obtain ⟨b', off', e', _, d0, d1, d2⟩ := (h.below hbel (Nat.le_refl _)).at3 hml
              obtain ⟨rfl, rfl⟩ : b = b' ∧ off = off' := by simpa using e'
              clear e'
              have Kl := HB.out.lt
              have Kc0 := HB.out.cell 0
              have Kc1 := HB.out.cell 1
              have Kc2 := HB.out.cell 2
              simp at Kc0 Kc1 Kc2
              have x1 := hbd.out k hlt
              have x2 := hbd.out j hml
              have a0 := absI_bd (a := gi zs (k * 3) - gi zs (j * 3)) (m := 3000) (by omega) (by omega)
              have a1 := absI_bd (a := gi zs (k * 3 + 1) - gi zs (j * 3 + 1)) (m := 3000) (by omega) (by omega)
              have a2 := absI_bd (a := gi zs (k * 3 + 2) - gi zs (j * 3 + 2)) (m := 3000) (by omega) (by omega)
              have W3 : IntKind.i64.wrap (absI (gi zs (k * 3) - gi zs (j * 3)) + absI (gi zs (k * 3 + 1) - gi zs (j * 3 + 1))) = absI (gi zs (k * 3) - gi zs (j * 3)) + absI (gi zs (k * 3 + 1) - gi zs (j * 3 + 1)) := IntWalk.i64_in _ (by omega)
              have W4 : IntKind.i64.wrap (absI (gi zs (k * 3) - gi zs (j * 3)) + absI (gi zs (k * 3 + 1) - gi zs (j * 3 + 1)) + absI (gi zs (k * 3 + 2) - gi zs (j * 3 + 2))) = absI (gi zs (k * 3) - gi zs (j * 3)) + absI (gi zs (k * 3 + 1) - gi zs (j * 3 + 1)) + absI (gi zs (k * 3 + 2) - gi zs (j * 3 + 2)) := IntWalk.i64_in _ (by omega)
              clear a0 a1 a2
              by_cases hc : l < 0
              · skip
                have HQ : Hid (inI (apF zs) k (ouI (apF zs) n k) (m + 1) = (k, j, absI (gi zs (k * 3) - gi zs (j * 3)) + absI (gi zs (k * 3 + 1) - gi zs (j * 3 + 1)) + absI (gi zs (k * 3 + 2) - gi zs (j * 3 + 2)))) := by
                  show stI (apF zs) k (k + 1 + m) (inI (apF zs) k (ouI (apF zs) n k) m) = _
                  rw [← HS.out, ← HJ.out]
                  exact if_pos (.inl hc)
                go_wp2_with fail
                go_quiet ((go_at_call 40; first | exact quiet_left (absI_i _ _ _ (by omega) (by omega) (by omega) (by omega)) | exact quiet_add_left (absI_i _ _ _ (by omega) (by omega) (by omega) (by omega))))
                go_wp2_with fail
                go_roundw
                case rel => exact ⟨m + 1, j + 1, k, j, _, by omega, hml, by go_num, by have := HJ.out; show j + 1 = _; omega, rfl, rfl, rfl, HQ.out.symm, HB.out.alloc _, bdrewN (balloc hbel _) _⟩
                case measure => simp [intOf]; omega
              · by_cases hd : absI (gi zs (k * 3) - gi zs (j * 3)) + absI (gi zs (k * 3 + 1) - gi zs (j * 3 + 1)) + absI (gi zs (k * 3 + 2) - gi zs (j * 3 + 2)) < l
                · skip
                  have HQ : Hid (inI (apF zs) k (ouI (apF zs) n k) (m + 1) = (k, j, absI (gi zs (k * 3) - gi zs (j * 3)) + absI (gi zs (k * 3 + 1) - gi zs (j * 3 + 1)) + absI (gi zs (k * 3 + 2) - gi zs (j * 3 + 2)))) := by
                    show stI (apF zs) k (k + 1 + m) (inI (apF zs) k (ouI (apF zs) n k) m) = _
                    rw [← HS.out, ← HJ.out]
                    exact if_pos (.inr hd)
                  go_wp2_with fail
                  go_quiet ((go_at_call 40; first | exact quiet_left (absI_i _ _ _ (by omega) (by omega) (by omega) (by omega)) | exact quiet_add_left (absI_i _ _ _ (by omega) (by omega) (by omega) (by omega))))
                  go_wp2_with fail
                  go_roundw
                  case rel => exact ⟨m + 1, j + 1, k, j, _, by omega, hml, by go_num, by have := HJ.out; show j + 1 = _; omega, rfl, rfl, rfl, HQ.out.symm, HB.out.alloc _, bdrewN (balloc hbel _) _⟩
                  case measure => simp [intOf]; omega
                · skip
                  have HQ : Hid (inI (apF zs) k (ouI (apF zs) n k) (m + 1) = (p, q, l)) := by
                    show stI (apF zs) k (k + 1 + m) (inI (apF zs) k (ouI (apF zs) n k) m) = _
                    rw [← HS.out, ← HJ.out]
                    exact if_neg (fun hh => hh.elim hc hd)
                  go_wp2_with fail
                  go_quiet ((go_at_call 40; first | exact quiet_left (absI_i _ _ _ (by omega) (by omega) (by omega) (by omega)) | exact quiet_add_left (absI_i _ _ _ (by omega) (by omega) (by omega) (by omega))))
                  go_wp2_with fail
                  go_roundw
                  case rel => exact ⟨m + 1, j + 1, p, q, _, by omega, hml, by go_num, by have := HJ.out; show j + 1 = _; omega, rfl, rfl, rfl, HQ.out.symm, HB.out.alloc _, bdrewN (balloc hbel _) _⟩
                  case measure => simp [intOf]; omega
            · have hme : m = n - (k + 1) := by have := HJ.out; omega
              have HE : Hid ((p, q, l) = ouI (apF zs) n (k + 1)) := by
                show _ = inI (apF zs) k (ouI (apF zs) n k) (n - (k + 1))
                rw [← hme]; exact HS.out
              clear HS
              have e2 : n ≤ j := by omega
              clear hme
              go_wp2_with fail
              go_roundw
              case rel => exact ⟨k + 1, p, q, l, by omega, by go_num, rfl, rfl, rfl, HE, hbel⟩
              case measure => simp [intOf]; omega
        · obtain rfl : k = n := by omega
          go_wp2
          go_ret3
          refine ⟨?_, hbel⟩
          have hv := HV.out.1
          rw [← HS.out] at hv
          simp only [Prod.mk.injEq] at hv
          rw [HV.out.2, hv.1, hv.2]; rfl

end Go.Proofs.Ytpjafammnjbjdaa
