/-
  symMerge over elements of three cells: the walk.
  No conditions.
-/
import Derived.Test.YtgcpobondcnjcaaGreatDoorMergeKW
import Derived.Shelf.SlSortCmp.QuietGrown
namespace Go.Proofs.YtgcpobondcnjcaaGreatDoor
open Go.ChangeShapes Go.WideShapes Go.ChangeAt Go.RowKit Go.Deep Go.Shelf Go.Lib Go.Sort
set_option linter.unusedVariables false

section
variable {cl : Int → Nat → Int} {w0 : World} {blk : Nat} {d0 : Array Int}
set_option maxRecDepth 100000 in
set_option maxHeartbeats 8000000 in
theorem mergeOneB_c {f : Int → Int} {g D : Nat} {cb : Array Value} {cf : Int → Int → Int} (M : MB Tryz.prog cl w0 blk d0 g cb cf f D) (d : Array Int) (cap a b : Nat) (W : World) (S : SwB cl w0 blk d W) (hD : d.size = D) (hab : a + 1 < b) (hb : b ≤ D) (hpre : MPre f d a (a + 1) b) :
    Calls Tryz.prog 74 #[.slice (some ⟨blk, 0, none⟩) D cap, .int .i64 (a : Int), .int .i64 ((a : Int) + 1), .int .i64 (b : Int), .func (.func g) #[] cb] W fun ev w' => ev = .returned (.tuple #[]) ∧ ∃ d' : Array Int, d'.size = D ∧ MPost f d d' a b ∧ SwB cl w0 blk d' w' := by
  have hsm := M.small
  have eg := M.eg
  have mixed := insLaysB.mixed
  have HM : Aside _ := M
  have HS : Aside _ := S
  have HD := Lib.hid hD
  have HP := Lib.hid hpre
  clear M S hD hpre
  have hone : (a : Int) + 1 - (a : Int) = 1 := by omega
  go_enter Tryz.func74, Tryz.ntmps74
  go_wp2_with fail
  go_loopw [10, 11] (fun u v wr => ∃ i j : Nat, i ≤ j ∧ a + 1 ≤ i ∧ j ≤ b ∧ u = .int .i64 i ∧ v = .int .i64 j ∧ Hid (∀ t, a + 1 ≤ t → t < i → f d[a]! < f d[t]!) ∧ Hid (∀ t, j ≤ t → t < b → f d[t]! ≤ f d[a]!) ∧ Aside (SwB cl w0 blk d wr)) (fun u v _ => (intOf v).toNat - (intOf u).toNat)
  case atStart => exact ⟨a + 1, b, by omega, by omega, by omega, by go_num, rfl, fun t h1 h2 => absurd h2 (by omega), fun t h1 h2 => absurd h2 (by omega), HS.out⟩
  case round =>
    clear HS
    obtain ⟨i, j, hij, hi, hj, rfl, rfl, HI, HJ, SK⟩ := hrel
    by_cases hlt : i < j
    · obtain ⟨q, hq⟩ : ∃ q, q = (i + j) / 2 := ⟨_, rfl⟩
      have hqz : ((i : Int) + (j : Int)) / 2 = (q : Int) := by omega
      have hqb : i ≤ q ∧ q < j := by omega
      clear hq
      have hsz0 : d.size = d0.size := by rw [HD.out]; exact HM.out.size
      have hD' := HD.out
      by_cases hcv : f d[a]! < f d[q]!
      · have hcv2 := hcv
        obtain ⟨x1, hx1⟩ : ∃ zz, zz = d[q]! := ⟨_, rfl⟩
        obtain ⟨y1, hy1⟩ : ∃ zz, zz = d[a]! := ⟨_, rfl⟩
        have lx1a := fun nq osq => (SK.out.grown nq osq).c0 HM.out.row hsz0 (q) (by omega)
        have lx1b := fun nq osq => (SK.out.grown nq osq).c1 HM.out.row hsz0 (q) (by omega)
        have lx1c := fun nq osq => (SK.out.grown nq osq).c2 HM.out.row hsz0 (q) (by omega)
        have ly1a := fun nq osq => (SK.out.grown nq osq).c0 HM.out.row hsz0 (a) (by omega)
        have ly1b := fun nq osq => (SK.out.grown nq osq).c1 HM.out.row hsz0 (a) (by omega)
        have ly1c := fun nq osq => (SK.out.grown nq osq).c2 HM.out.row hsz0 (a) (by omega)
        rw [← hx1] at lx1a lx1b lx1c
        rw [← hy1] at ly1a ly1b ly1c
        have hc1 := SK.out.cmp (by rw [← HM.out.size]; exact HM.out.cmp) hsz0 x1 y1
        have hv1 : cf x1 y1 < 0 := by rw [HM.out.sgn, hx1, hy1]; omega
        have hd1 : decide (cf x1 y1 < 0) = true := decide_eq_true hv1
        have HXY1 := Lib.hid (And.intro hx1 hy1)
        obtain ⟨iN1, hiN1⟩ : ∃ zz, zz = q := ⟨_, rfl⟩
        obtain ⟨jN1, hjN1⟩ : ∃ zz, zz = a := ⟨_, rfl⟩
        have ea1 : (((q : Int) : Int)).toNat = iN1 := by omega
        have pa1 : (0 : Int) ≤ (q : Int) := by omega
        have ba1 : ((q : Int) : Int) < (D : Int) := by omega
        have ra1 : IntKind.i64.wrap ((q : Int)) = (q : Int) := by rw [IntKind.wrap_i64]; omega
        have ec1 : (((a : Int) : Int)).toNat = jN1 := by omega
        have pc1 : (0 : Int) ≤ (a : Int) := by omega
        have bc1 : ((a : Int) : Int) < (D : Int) := by omega
        have rc1 : IntKind.i64.wrap ((a : Int)) = (a : Int) := by rw [IntKind.wrap_i64]; omega
        rw [← hiN1] at lx1a lx1b lx1c
        rw [← hjN1] at ly1a ly1b ly1c
        clear hx1 hy1 hiN1 hjN1
        go_wp2_with fail
        go_quiet_grown (first | (go_at_fn g; refine Calls.grown_of (hc1 _ _)))
        have S2 : Aside (SwB cl w0 blk d (grow (wr.drewN nq) osq)) := SK.out.grown nq osq
        clear lx1a lx1b lx1c ly1a ly1b ly1c hc1 SK
        generalize grow (wr.drewN nq) osq = w2 at S2 ⊢
        clear nq osq
        clear ea1 pa1 ba1 ra1 ec1 pc1 bc1 rc1
        clear hsz0 hD'
        go_wp2_with fail
        go_roundw
        case rel => exact ⟨q + 1, j, by omega, by omega, hj, by go_num, rfl, fun t h1 h2 => by
          have := HP.out.right.key (i := t) (j := q) h1 (by omega) (by omega)
          omega, HJ.out, S2.out⟩
        case measure => simp [intOf]; omega
      · have hcv2 := hcv
        obtain ⟨x2, hx2⟩ : ∃ zz, zz = d[q]! := ⟨_, rfl⟩
        obtain ⟨y2, hy2⟩ : ∃ zz, zz = d[a]! := ⟨_, rfl⟩
        have lx2a := fun nq osq => (SK.out.grown nq osq).c0 HM.out.row hsz0 (q) (by omega)
        have lx2b := fun nq osq => (SK.out.grown nq osq).c1 HM.out.row hsz0 (q) (by omega)
        have lx2c := fun nq osq => (SK.out.grown nq osq).c2 HM.out.row hsz0 (q) (by omega)
        have ly2a := fun nq osq => (SK.out.grown nq osq).c0 HM.out.row hsz0 (a) (by omega)
        have ly2b := fun nq osq => (SK.out.grown nq osq).c1 HM.out.row hsz0 (a) (by omega)
        have ly2c := fun nq osq => (SK.out.grown nq osq).c2 HM.out.row hsz0 (a) (by omega)
        rw [← hx2] at lx2a lx2b lx2c
        rw [← hy2] at ly2a ly2b ly2c
        have hc2 := SK.out.cmp (by rw [← HM.out.size]; exact HM.out.cmp) hsz0 x2 y2
        have hv2 : ¬ cf x2 y2 < 0 := by rw [HM.out.sgn, hx2, hy2]; omega
        have hd2 : decide (cf x2 y2 < 0) = false := decide_eq_false hv2
        have HXY2 := Lib.hid (And.intro hx2 hy2)
        obtain ⟨iN2, hiN2⟩ : ∃ zz, zz = q := ⟨_, rfl⟩
        obtain ⟨jN2, hjN2⟩ : ∃ zz, zz = a := ⟨_, rfl⟩
        have ea2 : (((q : Int) : Int)).toNat = iN2 := by omega
        have pa2 : (0 : Int) ≤ (q : Int) := by omega
        have ba2 : ((q : Int) : Int) < (D : Int) := by omega
        have ra2 : IntKind.i64.wrap ((q : Int)) = (q : Int) := by rw [IntKind.wrap_i64]; omega
        have ec2 : (((a : Int) : Int)).toNat = jN2 := by omega
        have pc2 : (0 : Int) ≤ (a : Int) := by omega
        have bc2 : ((a : Int) : Int) < (D : Int) := by omega
        have rc2 : IntKind.i64.wrap ((a : Int)) = (a : Int) := by rw [IntKind.wrap_i64]; omega
        rw [← hiN2] at lx2a lx2b lx2c
        rw [← hjN2] at ly2a ly2b ly2c
        clear hx2 hy2 hiN2 hjN2
        go_wp2_with fail
        go_quiet_grown (first | (go_at_fn g; refine Calls.grown_of (hc2 _ _)))
        have S2 : Aside (SwB cl w0 blk d (grow (wr.drewN nq) osq)) := SK.out.grown nq osq
        clear lx2a lx2b lx2c ly2a ly2b ly2c hc2 SK
        generalize grow (wr.drewN nq) osq = w2 at S2 ⊢
        clear nq osq
        clear ea2 pa2 ba2 ra2 ec2 pc2 bc2 rc2
        clear hsz0 hD'
        go_wp2_with fail
        go_roundw
        case rel => exact ⟨i, q, by omega, hi, by omega, rfl, by go_num, HI.out, fun t h1 h2 => by
          have := HP.out.right.key (i := q) (j := t) (by omega) h1 h2
          omega, S2.out⟩
        case measure => simp [intOf]; omega
    · obtain rfl : i = j := by omega
      go_wp2_with fail
      go_loopw [13] (fun v wq => ∃ (k : Nat) (dk : Array Int), Hid (dk.size = D) ∧ a ≤ k ∧ k + 1 ≤ i ∧ v = .int .i64 k ∧ Hid (∀ t, dk[t]! = if a ≤ t ∧ t < k then d[t + 1]! else if t = k then d[a]! else d[t]!) ∧ Aside (SwB cl w0 blk dk wq)) (fun v _ => i - (intOf v).toNat)
      case atStart => exact ⟨a, d, HD.out, Nat.le_refl _, by omega, rfl, fun t => by
        by_cases e : t = a
        · rw [if_neg (by omega), if_pos e, e]
        · rw [if_neg (by omega), if_neg e], SK.out⟩
      case round =>
        clear SK
        obtain ⟨k, dk, HK, hk0, hk1, rfl, HT, SK⟩ := hrel
        by_cases hki : k + 1 < i
        · have hsz0 : dk.size = d0.size := by rw [HK.out]; exact HM.out.size
          have hp1 : k < dk.size := by rw [HK.out]; omega
          have hp2 : k + 1 < dk.size := by rw [HK.out]; omega
          obtain ⟨xp3, hxp3⟩ : ∃ zz, zz = dk[k]! := ⟨_, rfl⟩
          obtain ⟨xx3, hxx3⟩ : ∃ zz, zz = dk[k + 1]! := ⟨_, rfl⟩
          have c10 := SK.out.c0 HM.out.row hsz0 (k) hp1
          have c11 := SK.out.c1 HM.out.row hsz0 (k) hp1
          have c12 := SK.out.c2 HM.out.row hsz0 (k) hp1
          have c20 := SK.out.c0 HM.out.row hsz0 (k + 1) hp2
          have c21 := SK.out.c1 HM.out.row hsz0 (k + 1) hp2
          have c22 := SK.out.c2 HM.out.row hsz0 (k + 1) hp2
          have f10 := SK.out.f0 HM.out.row hsz0 (k) hp1
          have f11 := SK.out.f1 HM.out.row hsz0 (k) hp1
          have f12 := SK.out.f2 HM.out.row hsz0 (k) hp1
          have f20 := SK.out.f0 HM.out.row hsz0 (k + 1) hp2
          have f21 := SK.out.f1 HM.out.row hsz0 (k + 1) hp2
          have f22 := SK.out.f2 HM.out.row hsz0 (k + 1) hp2
          have S3 : Aside (SwB cl w0 blk (swp dk (k) (k + 1)) (ex3 wr blk (k) (k + 1) (.int .i64 (cl xx3 0)) (.int .i64 (cl xx3 1)) (.int .i64 (cl xx3 2)) (.int .i64 (cl xp3 0)) (.int .i64 (cl xp3 1)) (.int .i64 (cl xp3 2))).drew) := by rw [hxp3, hxx3]; exact SK.out.swapped HM.out.row (k) (k + 1) hp1 hp2
          obtain ⟨u3a, k0⟩ := SK.out.kept HM.out.row hsz0 (k) (k + 1) hp2 (.int .i64 (cl xx3 0)) (.int .i64 (cl xx3 1)) (.int .i64 (cl xx3 2)) 0 (by omega)
          obtain ⟨u3b, k1⟩ := SK.out.kept HM.out.row hsz0 (k) (k + 1) hp2 (.int .i64 (cl xx3 0)) (.int .i64 (cl xx3 1)) (.int .i64 (cl xx3 2)) 1 (by omega)
          obtain ⟨u3c, k2⟩ := SK.out.kept HM.out.row hsz0 (k) (k + 1) hp2 (.int .i64 (cl xx3 0)) (.int .i64 (cl xx3 1)) (.int .i64 (cl xx3 2)) 2 (by omega)
          rw [← hxp3] at c10 c11 c12
          rw [← hxx3] at c20 c21 c22
          clear hxp3 hxx3 SK
          obtain ⟨pN, hpN⟩ : ∃ zz, zz = k := ⟨_, rfl⟩
          obtain ⟨xN, hxN⟩ : ∃ zz, zz = k + 1 := ⟨_, rfl⟩
          rw [← hpN] at c10 c11 c12 f10 f11 f12
          rw [← hxN] at c20 c21 c22 f20 f21 f22
          rw [← hxN, ← hpN] at k0 k1 k2 S3
          simp only [Nat.add_zero] at k0
          have ea3 : (((k : Int) : Int)).toNat = pN := by omega
          have pa3 : (0 : Int) ≤ (k : Int) := by omega
          have ba3 : ((k : Int) : Int) < (D : Int) := by omega
          have ra3 : IntKind.i64.wrap ((k : Int)) = (k : Int) := by rw [IntKind.wrap_i64]; omega
          have ec3 : (((k : Int) + 1 : Int)).toNat = xN := by omega
          have pc3 : (0 : Int) ≤ (k : Int) + 1 := by omega
          have bc3 : ((k : Int) + 1 : Int) < (D : Int) := by omega
          have rc3 : IntKind.i64.wrap ((k : Int) + 1) = (k : Int) + 1 := by rw [IntKind.wrap_i64]; omega
          have HPX := Lib.hid (And.intro hpN hxN)
          clear hpN hxN
          go_wp2_with fail
          go_big_region_o
          clear c10 c11 c12 c20 c21 c22 f10 f11 f12 f20 f21 f22 k0 k1 k2 ra3 rc3
          unfold ex3 at S3
          generalize ((((((wr.setCell ⟨blk, pN * 3, none⟩ (.int .i64 (cl xx3 0))).setCell ⟨blk, pN * 3 + 1, none⟩ (.int .i64 (cl xx3 1))).setCell ⟨blk, pN * 3 + 2, none⟩ (.int .i64 (cl xx3 2))).setCell ⟨blk, xN * 3, none⟩ (.int .i64 (cl xp3 0))).setCell ⟨blk, xN * 3 + 1, none⟩ (.int .i64 (cl xp3 1))).setCell ⟨blk, xN * 3 + 2, none⟩ (.int .i64 (cl xp3 2))).drew = w3 at S3 ⊢
          clear ea3 ec3 pa3 ba3 pc3 bc3
          have HPP := Lib.hid (And.intro hp1 hp2)
          clear hsz0 hp1 hp2
          go_wp2_with fail
          go_roundw
          case rel =>
            obtain ⟨hpN, hxN⟩ := HPX.out
            refine ⟨k + 1, _, (by show _ = _; rw [size_swp]; exact HK.out), by omega, by omega, by go_num, fun t => ?_, S3.out⟩
            rw [hpN, hxN, swp_get _ _ _ _ HPP.out.1 HPP.out.2]
            have h := HT.out
            by_cases q1 : t = k + 1
            · rw [if_pos q1, if_neg (by omega), if_pos q1, h, if_neg (by omega), if_pos rfl]
            · rw [if_neg q1]
              by_cases q2 : t = k
              · rw [if_pos q2, if_pos (by omega), h, if_neg (by omega), if_neg (by omega), q2]
              · rw [if_neg q2, h, if_neg q1]
                by_cases q3 : a ≤ t ∧ t < k
                · rw [if_pos q3, if_pos (by omega)]
                · rw [if_neg q3, if_neg q2, if_neg (by omega)]
          case measure => simp [intOf]; omega
        · obtain rfl : i = k + 1 := by omega
          go_wp2
          refine bodyPost_ret (results_none rfl _ _ _) rfl ⟨rfl, dk, HK.out, merge_one HP.out hi hj HI.out (fun t h1 h2 => by have := HJ.out t h1 h2; omega) (fun t => by
            rw [HT.out t]
            by_cases q1 : a ≤ t ∧ t < k
            · rw [if_pos q1, if_pos (show a ≤ t ∧ t + 1 < k + 1 by omega)]
            · rw [if_neg q1, if_neg (show ¬ (a ≤ t ∧ t + 1 < k + 1) by omega)]
              by_cases q2 : t = k
              · rw [if_pos q2, if_pos (show t + 1 = k + 1 by omega)]
              · rw [if_neg q2, if_neg (show ¬ t + 1 = k + 1 by omega)]), SK.out⟩
set_option maxRecDepth 100000 in
set_option maxHeartbeats 8000000 in
theorem mergeLastB_c {f : Int → Int} {g D : Nat} {cb : Array Value} {cf : Int → Int → Int} (M : MB Tryz.prog cl w0 blk d0 g cb cf f D) (d : Array Int) (cap a m : Nat) (W : World) (S : SwB cl w0 blk d W) (hD : d.size = D) (hab : a + 1 < m) (hb : m + 1 ≤ D) (hpre : MPre f d a m (m + 1)) :
    Calls Tryz.prog 74 #[.slice (some ⟨blk, 0, none⟩) D cap, .int .i64 (a : Int), .int .i64 (m : Int), .int .i64 ((m : Int) + 1), .func (.func g) #[] cb] W fun ev w' => ev = .returned (.tuple #[]) ∧ ∃ d' : Array Int, d'.size = D ∧ MPost f d d' a (m + 1) ∧ SwB cl w0 blk d' w' := by
  have hsm := M.small
  have eg := M.eg
  have mixed := insLaysB.mixed
  have HM : Aside _ := M
  have HS : Aside _ := S
  have HD := Lib.hid hD
  have HP := Lib.hid hpre
  clear M S hD hpre
  have hone : (m : Int) + 1 - (m : Int) = 1 := by omega
  have hne : ((m : Int) - (a : Int) == 1) = false := by rw [beq_eq_false_iff_ne]; omega
  go_enter Tryz.func74, Tryz.ntmps74
  go_wp2_with fail
  go_loopw [14, 15] (fun u v wr => ∃ i j : Nat, i ≤ j ∧ a ≤ i ∧ j ≤ m ∧ u = .int .i64 i ∧ v = .int .i64 j ∧ Hid (∀ t, a ≤ t → t < i → f d[m]! ≤ f d[t]!) ∧ Hid (∀ t, j ≤ t → t < m → f d[t]! < f d[m]!) ∧ Aside (SwB cl w0 blk d wr)) (fun u v _ => (intOf v).toNat - (intOf u).toNat)
  case atStart => exact ⟨a, m, by omega, by omega, by omega, rfl, rfl, fun t h1 h2 => absurd h2 (by omega), fun t h1 h2 => absurd h2 (by omega), HS.out⟩
  case round =>
    clear HS
    obtain ⟨i, j, hij, hi, hj, rfl, rfl, HI, HJ, SK⟩ := hrel
    by_cases hlt : i < j
    · obtain ⟨q, hq⟩ : ∃ q, q = (i + j) / 2 := ⟨_, rfl⟩
      have hqz : ((i : Int) + (j : Int)) / 2 = (q : Int) := by omega
      have hqb : i ≤ q ∧ q < j := by omega
      clear hq
      have hsz0 : d.size = d0.size := by rw [HD.out]; exact HM.out.size
      have hD' := HD.out
      by_cases hcv : f d[q]! < f d[m]!
      · have hcv2 := hcv
        obtain ⟨x4, hx4⟩ : ∃ zz, zz = d[m]! := ⟨_, rfl⟩
        obtain ⟨y4, hy4⟩ : ∃ zz, zz = d[q]! := ⟨_, rfl⟩
        have lx4a := fun nq osq => (SK.out.grown nq osq).c0 HM.out.row hsz0 (m) (by omega)
        have lx4b := fun nq osq => (SK.out.grown nq osq).c1 HM.out.row hsz0 (m) (by omega)
        have lx4c := fun nq osq => (SK.out.grown nq osq).c2 HM.out.row hsz0 (m) (by omega)
        have ly4a := fun nq osq => (SK.out.grown nq osq).c0 HM.out.row hsz0 (q) (by omega)
        have ly4b := fun nq osq => (SK.out.grown nq osq).c1 HM.out.row hsz0 (q) (by omega)
        have ly4c := fun nq osq => (SK.out.grown nq osq).c2 HM.out.row hsz0 (q) (by omega)
        rw [← hx4] at lx4a lx4b lx4c
        rw [← hy4] at ly4a ly4b ly4c
        have hc4 := SK.out.cmp (by rw [← HM.out.size]; exact HM.out.cmp) hsz0 x4 y4
        have hv4 : cf x4 y4 < 0 := by rw [HM.out.sgn, hx4, hy4]; omega
        have hd4 : decide (cf x4 y4 < 0) = true := decide_eq_true hv4
        have HXY4 := Lib.hid (And.intro hx4 hy4)
        obtain ⟨iN4, hiN4⟩ : ∃ zz, zz = m := ⟨_, rfl⟩
        obtain ⟨jN4, hjN4⟩ : ∃ zz, zz = q := ⟨_, rfl⟩
        have ea4 : (((m : Int) : Int)).toNat = iN4 := by omega
        have pa4 : (0 : Int) ≤ (m : Int) := by omega
        have ba4 : ((m : Int) : Int) < (D : Int) := by omega
        have ra4 : IntKind.i64.wrap ((m : Int)) = (m : Int) := by rw [IntKind.wrap_i64]; omega
        have ec4 : (((q : Int) : Int)).toNat = jN4 := by omega
        have pc4 : (0 : Int) ≤ (q : Int) := by omega
        have bc4 : ((q : Int) : Int) < (D : Int) := by omega
        have rc4 : IntKind.i64.wrap ((q : Int)) = (q : Int) := by rw [IntKind.wrap_i64]; omega
        rw [← hiN4] at lx4a lx4b lx4c
        rw [← hjN4] at ly4a ly4b ly4c
        clear hx4 hy4 hiN4 hjN4
        go_wp2_with fail
        go_quiet_grown (first | (go_at_fn g; refine Calls.grown_of (hc4 _ _)))
        have S2 : Aside (SwB cl w0 blk d (grow (wr.drewN nq) osq)) := SK.out.grown nq osq
        clear lx4a lx4b lx4c ly4a ly4b ly4c hc4 SK
        generalize grow (wr.drewN nq) osq = w2 at S2 ⊢
        clear nq osq
        clear ea4 pa4 ba4 ra4 ec4 pc4 bc4 rc4
        clear hsz0 hD'
        go_wp2_with fail
        go_roundw
        case rel => exact ⟨i, q, by omega, hi, by omega, rfl, by go_num, HI.out, fun t h1 h2 => by
          have := HP.out.left.key (i := q) (j := t) (by omega) h1 h2
          omega, S2.out⟩
        case measure => simp [intOf]; omega
      · have hcv2 := hcv
        obtain ⟨x5, hx5⟩ : ∃ zz, zz = d[m]! := ⟨_, rfl⟩
        obtain ⟨y5, hy5⟩ : ∃ zz, zz = d[q]! := ⟨_, rfl⟩
        have lx5a := fun nq osq => (SK.out.grown nq osq).c0 HM.out.row hsz0 (m) (by omega)
        have lx5b := fun nq osq => (SK.out.grown nq osq).c1 HM.out.row hsz0 (m) (by omega)
        have lx5c := fun nq osq => (SK.out.grown nq osq).c2 HM.out.row hsz0 (m) (by omega)
        have ly5a := fun nq osq => (SK.out.grown nq osq).c0 HM.out.row hsz0 (q) (by omega)
        have ly5b := fun nq osq => (SK.out.grown nq osq).c1 HM.out.row hsz0 (q) (by omega)
        have ly5c := fun nq osq => (SK.out.grown nq osq).c2 HM.out.row hsz0 (q) (by omega)
        rw [← hx5] at lx5a lx5b lx5c
        rw [← hy5] at ly5a ly5b ly5c
        have hc5 := SK.out.cmp (by rw [← HM.out.size]; exact HM.out.cmp) hsz0 x5 y5
        have hv5 : ¬ cf x5 y5 < 0 := by rw [HM.out.sgn, hx5, hy5]; omega
        have hd5 : decide (cf x5 y5 < 0) = false := decide_eq_false hv5
        have HXY5 := Lib.hid (And.intro hx5 hy5)
        obtain ⟨iN5, hiN5⟩ : ∃ zz, zz = m := ⟨_, rfl⟩
        obtain ⟨jN5, hjN5⟩ : ∃ zz, zz = q := ⟨_, rfl⟩
        have ea5 : (((m : Int) : Int)).toNat = iN5 := by omega
        have pa5 : (0 : Int) ≤ (m : Int) := by omega
        have ba5 : ((m : Int) : Int) < (D : Int) := by omega
        have ra5 : IntKind.i64.wrap ((m : Int)) = (m : Int) := by rw [IntKind.wrap_i64]; omega
        have ec5 : (((q : Int) : Int)).toNat = jN5 := by omega
        have pc5 : (0 : Int) ≤ (q : Int) := by omega
        have bc5 : ((q : Int) : Int) < (D : Int) := by omega
        have rc5 : IntKind.i64.wrap ((q : Int)) = (q : Int) := by rw [IntKind.wrap_i64]; omega
        rw [← hiN5] at lx5a lx5b lx5c
        rw [← hjN5] at ly5a ly5b ly5c
        clear hx5 hy5 hiN5 hjN5
        go_wp2_with fail
        go_quiet_grown (first | (go_at_fn g; refine Calls.grown_of (hc5 _ _)))
        have S2 : Aside (SwB cl w0 blk d (grow (wr.drewN nq) osq)) := SK.out.grown nq osq
        clear lx5a lx5b lx5c ly5a ly5b ly5c hc5 SK
        generalize grow (wr.drewN nq) osq = w2 at S2 ⊢
        clear nq osq
        clear ea5 pa5 ba5 ra5 ec5 pc5 bc5 rc5
        clear hsz0 hD'
        go_wp2_with fail
        go_roundw
        case rel => exact ⟨q + 1, j, by omega, by omega, hj, by go_num, rfl, fun t h1 h2 => by
          have := HP.out.left.key (i := t) (j := q) h1 (by omega) (by omega)
          omega, HJ.out, S2.out⟩
        case measure => simp [intOf]; omega
    · obtain rfl : i = j := by omega
      go_wp2_with fail
      go_loopw [17] (fun v wq => ∃ (k : Nat) (dk : Array Int), Hid (dk.size = D) ∧ i ≤ k ∧ k ≤ m ∧ v = .int .i64 k ∧ Hid (∀ t, dk[t]! = if k < t ∧ t ≤ m then d[t - 1]! else if t = k then d[m]! else d[t]!) ∧ Aside (SwB cl w0 blk dk wq)) (fun v _ => (intOf v).toNat)
      case atStart => exact ⟨m, d, HD.out, by omega, Nat.le_refl _, rfl, fun t => by
        by_cases e : t = m
        · rw [if_neg (by omega), if_pos e, e]
        · rw [if_neg (by omega), if_neg e], SK.out⟩
      case round =>
        clear SK
        obtain ⟨k, dk, HK, hk0, hk1, rfl, HT, SK⟩ := hrel
        by_cases hki : i < k
        · have hsz0 : dk.size = d0.size := by rw [HK.out]; exact HM.out.size
          have hp1 : k < dk.size := by rw [HK.out]; omega
          have hp2 : k - 1 < dk.size := by rw [HK.out]; omega
          obtain ⟨xp6, hxp6⟩ : ∃ zz, zz = dk[k]! := ⟨_, rfl⟩
          obtain ⟨xx6, hxx6⟩ : ∃ zz, zz = dk[k - 1]! := ⟨_, rfl⟩
          have c10 := SK.out.c0 HM.out.row hsz0 (k) hp1
          have c11 := SK.out.c1 HM.out.row hsz0 (k) hp1
          have c12 := SK.out.c2 HM.out.row hsz0 (k) hp1
          have c20 := SK.out.c0 HM.out.row hsz0 (k - 1) hp2
          have c21 := SK.out.c1 HM.out.row hsz0 (k - 1) hp2
          have c22 := SK.out.c2 HM.out.row hsz0 (k - 1) hp2
          have f10 := SK.out.f0 HM.out.row hsz0 (k) hp1
          have f11 := SK.out.f1 HM.out.row hsz0 (k) hp1
          have f12 := SK.out.f2 HM.out.row hsz0 (k) hp1
          have f20 := SK.out.f0 HM.out.row hsz0 (k - 1) hp2
          have f21 := SK.out.f1 HM.out.row hsz0 (k - 1) hp2
          have f22 := SK.out.f2 HM.out.row hsz0 (k - 1) hp2
          have S3 : Aside (SwB cl w0 blk (swp dk (k) (k - 1)) (ex3 wr blk (k) (k - 1) (.int .i64 (cl xx6 0)) (.int .i64 (cl xx6 1)) (.int .i64 (cl xx6 2)) (.int .i64 (cl xp6 0)) (.int .i64 (cl xp6 1)) (.int .i64 (cl xp6 2))).drew) := by rw [hxp6, hxx6]; exact SK.out.swapped HM.out.row (k) (k - 1) hp1 hp2
          obtain ⟨u6a, k0⟩ := SK.out.kept HM.out.row hsz0 (k) (k - 1) hp2 (.int .i64 (cl xx6 0)) (.int .i64 (cl xx6 1)) (.int .i64 (cl xx6 2)) 0 (by omega)
          obtain ⟨u6b, k1⟩ := SK.out.kept HM.out.row hsz0 (k) (k - 1) hp2 (.int .i64 (cl xx6 0)) (.int .i64 (cl xx6 1)) (.int .i64 (cl xx6 2)) 1 (by omega)
          obtain ⟨u6c, k2⟩ := SK.out.kept HM.out.row hsz0 (k) (k - 1) hp2 (.int .i64 (cl xx6 0)) (.int .i64 (cl xx6 1)) (.int .i64 (cl xx6 2)) 2 (by omega)
          rw [← hxp6] at c10 c11 c12
          rw [← hxx6] at c20 c21 c22
          clear hxp6 hxx6 SK
          obtain ⟨pN, hpN⟩ : ∃ zz, zz = k := ⟨_, rfl⟩
          obtain ⟨xN, hxN⟩ : ∃ zz, zz = k - 1 := ⟨_, rfl⟩
          rw [← hpN] at c10 c11 c12 f10 f11 f12
          rw [← hxN] at c20 c21 c22 f20 f21 f22
          rw [← hxN, ← hpN] at k0 k1 k2 S3
          simp only [Nat.add_zero] at k0
          have ea6 : (((k : Int) : Int)).toNat = pN := by omega
          have pa6 : (0 : Int) ≤ (k : Int) := by omega
          have ba6 : ((k : Int) : Int) < (D : Int) := by omega
          have ra6 : IntKind.i64.wrap ((k : Int)) = (k : Int) := by rw [IntKind.wrap_i64]; omega
          have ec6 : (((k : Int) - 1 : Int)).toNat = xN := by omega
          have pc6 : (0 : Int) ≤ (k : Int) - 1 := by omega
          have bc6 : ((k : Int) - 1 : Int) < (D : Int) := by omega
          have rc6 : IntKind.i64.wrap ((k : Int) - 1) = (k : Int) - 1 := by rw [IntKind.wrap_i64]; omega
          have HPX := Lib.hid (And.intro hpN hxN)
          clear hpN hxN
          go_wp2_with fail
          go_big_region_o
          clear c10 c11 c12 c20 c21 c22 f10 f11 f12 f20 f21 f22 k0 k1 k2 ra6 rc6
          unfold ex3 at S3
          generalize ((((((wr.setCell ⟨blk, pN * 3, none⟩ (.int .i64 (cl xx6 0))).setCell ⟨blk, pN * 3 + 1, none⟩ (.int .i64 (cl xx6 1))).setCell ⟨blk, pN * 3 + 2, none⟩ (.int .i64 (cl xx6 2))).setCell ⟨blk, xN * 3, none⟩ (.int .i64 (cl xp6 0))).setCell ⟨blk, xN * 3 + 1, none⟩ (.int .i64 (cl xp6 1))).setCell ⟨blk, xN * 3 + 2, none⟩ (.int .i64 (cl xp6 2))).drew = w3 at S3 ⊢
          clear ea6 ec6 pa6 ba6 pc6 bc6
          have HPP := Lib.hid (And.intro hp1 hp2)
          clear hsz0 hp1 hp2
          go_wp2_with fail
          go_roundw
          case rel =>
            obtain ⟨hpN, hxN⟩ := HPX.out
            refine ⟨k - 1, _, (by show _ = _; rw [size_swp]; exact HK.out), by omega, by omega, by go_num, fun t => ?_, S3.out⟩
            rw [hpN, hxN, swp_get _ _ _ _ HPP.out.1 HPP.out.2]
            have h := HT.out
            by_cases q1 : t = k - 1
            · rw [if_pos q1, if_neg (show ¬ (k - 1 < t ∧ t ≤ m) by omega), if_pos q1, h k, if_neg (by omega), if_pos rfl]
            · rw [if_neg q1]
              by_cases q2 : t = k
              · rw [if_pos q2, if_pos (show k - 1 < t ∧ t ≤ m by omega), h (k - 1), if_neg (by omega), if_neg (by omega), q2]
              · rw [if_neg q2, h t, if_neg q1]
                by_cases q3 : k < t ∧ t ≤ m
                · rw [if_pos q3, if_pos (show k - 1 < t ∧ t ≤ m by omega)]
                · rw [if_neg q3, if_neg q2, if_neg (show ¬ (k - 1 < t ∧ t ≤ m) by omega)]
          case measure => simp [intOf]; omega
        · obtain rfl : i = k := by omega
          go_wp2
          refine bodyPost_ret (results_none rfl _ _ _) rfl ⟨rfl, dk, HK.out, merge_last HP.out hi hj (fun t h1 h2 => by have := HI.out t h1 h2; omega) HJ.out HT.out, SK.out⟩
end
end Go.Proofs.YtgcpobondcnjcaaGreatDoor
