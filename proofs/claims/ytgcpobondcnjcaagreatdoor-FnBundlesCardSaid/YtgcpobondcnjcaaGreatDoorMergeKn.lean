/-
  symMerge over elements of three cells: the general case.
  No conditions.
-/
import Derived.Test.YtgcpobondcnjcaaGreatDoorMergeKS
namespace Go.Proofs.YtgcpobondcnjcaaGreatDoor
open Go.ChangeShapes Go.WideShapes Go.ChangeAt Go.RowKit Go.Deep Go.Shelf Go.Lib Go.Sort
set_option linter.unusedVariables false

section
variable {cl : Int → Nat → Int} {w0 : World} {blk : Nat} {d0 : Array Int}
set_option maxRecDepth 100000 in
set_option maxHeartbeats 16000000 in
theorem mergeGenNB_c {f : Int → Int} {g D : Nat} {cb : Array Value} {cf : Int → Int → Int} (M : MB Tryz.prog cl w0 blk d0 g cb cf f D) (cap : Nat) (fuel : Nat)
    (IH : ∀ (d : Array Int) (a m b : Nat) (W : World), b - a ≤ fuel → SwB cl w0 blk d W → d.size = D → a < m → m < b → b ≤ D → MPre f d a m b →
      Calls Tryz.prog 74 #[.slice (some ⟨blk, 0, none⟩) D cap, .int .i64 (a : Int), .int .i64 (m : Int), .int .i64 (b : Int), .func (.func g) #[] cb] W fun ev w' => ev = .returned (.tuple #[]) ∧ ∃ d' : Array Int, d'.size = D ∧ MPost f d d' a b ∧ SwB cl w0 blk d' w')
    (d : Array Int) (a m b : Nat) (W : World) (hfu : b - a ≤ fuel + 1) (S : SwB cl w0 blk d W) (hD : d.size = D) (ham : a < m) (hmb : m < b) (hb : b ≤ D) (hpre : MPre f d a m b) (hn1 : a + 1 < m) (hn2 : m + 1 < b) (hside : ¬ (a + b) / 2 < m) :
    Calls Tryz.prog 74 #[.slice (some ⟨blk, 0, none⟩) D cap, .int .i64 (a : Int), .int .i64 (m : Int), .int .i64 (b : Int), .func (.func g) #[] cb] W fun ev w' => ev = .returned (.tuple #[]) ∧ ∃ d' : Array Int, d'.size = D ∧ MPost f d d' a b ∧ SwB cl w0 blk d' w' := by
  have hsm := M.small
  have eg := M.eg
  have mixed := insLaysB.mixed
  have HM : Aside _ := M
  have HS : Aside _ := S
  have HD := Lib.hid hD
  have HP := Lib.hid hpre
  have HIH := Lib.hid IH
  clear M S hD hpre IH
  have hne1 : ((m : Int) - (a : Int) == 1) = false := by rw [beq_eq_false_iff_ne]; omega
  have hne2 : ((b : Int) - (m : Int) == 1) = false := by rw [beq_eq_false_iff_ne]; omega
  obtain ⟨mid, hmid⟩ : ∃ mid, mid = (a + b) / 2 := ⟨_, rfl⟩
  have hmz : ((a : Int) + (b : Int)) / 2 = (mid : Int) := by omega
  obtain ⟨nN, hnN⟩ : ∃ nN, nN = mid + m := ⟨_, rfl⟩
  have hnz : (mid : Int) + (m : Int) = (nN : Int) := by omega
  obtain ⟨p, hp⟩ : ∃ p, p = nN - 1 := ⟨_, rfl⟩
  have hpz : (nN : Int) - 1 = (p : Int) := by omega
  have hpP : mid + m - 1 = p := by omega
  obtain ⟨lo0, hLo0⟩ : ∃ lo0, lo0 = (if mid < m then mid + m - b else a) := ⟨_, rfl⟩
  obtain ⟨r0, hR0⟩ : ∃ r0, r0 = (if mid < m then mid else m) := ⟨_, rfl⟩
  have HLo0 := Lib.hid hLo0
  have HR0 := Lib.hid hR0
  have HMd := Lib.hid hmid
  have hmb2 : a < mid ∧ mid < b ∧ a + b ≤ 2 * mid + 1 ∧ 2 * mid ≤ a + b := by omega
  have hnn1 : nN ≤ mid + m ∧ mid + m ≤ nN := by omega
  have hpp1 : p + 1 ≤ nN ∧ nN ≤ p + 1 := by omega
  have HPp := Lib.hid hpP
  clear hLo0 hR0 hmid hnN hp hpP
  have hnb1 : nN ≤ 2000 := by omega
  have hpb1 : p ≤ 2000 := by omega
  have hmm : ¬ mid < m := by rw [HMd.out]; exact hside
  have e1 : lo0 = a := by rw [HLo0.out, if_neg hmm]
  have e2 : r0 = m := by rw [HR0.out, if_neg hmm]
  have e3 : lo0 ≤ a ∧ a ≤ lo0 := by omega
  have e4 : r0 ≤ m ∧ m ≤ r0 := by omega
  clear e1 e2 hside
  have hlb1 : lo0 ≤ 1000 := by omega
  have hrb1 : r0 ≤ 1000 := by omega
  go_enter Tryz.func74, Tryz.ntmps74
  go_wp2_with fail
  go_loopw [20, 21] (fun u v wr => ∃ s r : Nat, s ≤ r ∧ lo0 ≤ s ∧ r ≤ r0 ∧ u = .int .i64 s ∧ v = .int .i64 r ∧ Hid (∀ c, lo0 ≤ c → c < s → f d[p - c]! ≤ f d[c]!) ∧ Hid (∀ c, r ≤ c → c < r0 → f d[c]! < f d[p - c]!) ∧ Aside (SwB cl w0 blk d wr)) (fun u v _ => (intOf v).toNat - (intOf u).toNat)
  case atStart => exact ⟨a, m, by omega, by omega, by omega, by first | rfl | go_num, by first | rfl | go_num, fun t h1 h2 => absurd h2 (by omega), fun t h1 h2 => absurd h2 (by omega), HS.out⟩
  case round =>
    clear HS
    obtain ⟨s, r, hsr, hs0', hs1', rfl, rfl, HI, HJ, SK⟩ := hrel
    by_cases hlt : s < r
    · obtain ⟨q, hq⟩ : ∃ q, q = (s + r) / 2 := ⟨_, rfl⟩
      have hqz : ((s : Int) + (r : Int)) / 2 = (q : Int) := by omega
      have hqb : s ≤ q ∧ q < r := by omega
      clear hq
      have hsz0 : d.size = d0.size := by rw [HD.out]; exact HM.out.size
      have hD' := HD.out
      have hpb : m ≤ p - q ∧ p - q < b ∧ q < m ∧ q ≤ p ∧ a ≤ q := by omega
      by_cases hcv : f d[q]! < f d[p - q]!
      · have hcv2 := hcv
        obtain ⟨x1, hx1⟩ : ∃ zz, zz = d[p - q]! := ⟨_, rfl⟩
        obtain ⟨y1, hy1⟩ : ∃ zz, zz = d[q]! := ⟨_, rfl⟩
        have lx1a := fun nq osq => (SK.out.grown nq osq).c0 HM.out.row hsz0 (p - q) (by omega)
        have lx1b := fun nq osq => (SK.out.grown nq osq).c1 HM.out.row hsz0 (p - q) (by omega)
        have lx1c := fun nq osq => (SK.out.grown nq osq).c2 HM.out.row hsz0 (p - q) (by omega)
        have ly1a := fun nq osq => (SK.out.grown nq osq).c0 HM.out.row hsz0 (q) (by omega)
        have ly1b := fun nq osq => (SK.out.grown nq osq).c1 HM.out.row hsz0 (q) (by omega)
        have ly1c := fun nq osq => (SK.out.grown nq osq).c2 HM.out.row hsz0 (q) (by omega)
        rw [← hx1] at lx1a lx1b lx1c
        rw [← hy1] at ly1a ly1b ly1c
        have hc1 := SK.out.cmp (by rw [← HM.out.size]; exact HM.out.cmp) hsz0 x1 y1
        have hv1 : cf x1 y1 < 0 := by rw [HM.out.sgn, hx1, hy1]; omega
        have hd1 : decide (cf x1 y1 < 0) = true := decide_eq_true hv1
        have HXY1 := Lib.hid (And.intro hx1 hy1)
        obtain ⟨iN1, hiN1⟩ : ∃ zz, zz = p - q := ⟨_, rfl⟩
        obtain ⟨jN1, hjN1⟩ : ∃ zz, zz = q := ⟨_, rfl⟩
        have ea1 : (((p : Int) - (q : Int) : Int)).toNat = iN1 := by omega
        have pa1 : (0 : Int) ≤ (p : Int) - (q : Int) := by omega
        have ba1 : ((p : Int) - (q : Int) : Int) < (D : Int) := by omega
        have ra1 : IntKind.i64.wrap ((p : Int) - (q : Int)) = (p : Int) - (q : Int) := by rw [IntKind.wrap_i64]; omega
        have ec1 : (((q : Int) : Int)).toNat = jN1 := by omega
        have pc1 : (0 : Int) ≤ (q : Int) := by omega
        have bc1 : ((q : Int) : Int) < (D : Int) := by omega
        have rc1 : IntKind.i64.wrap ((q : Int)) = (q : Int) := by rw [IntKind.wrap_i64]; omega
        rw [← hiN1] at lx1a lx1b lx1c
        rw [← hjN1] at ly1a ly1b ly1c
        clear hx1 hy1 hiN1 hjN1
        go_wp2_with fail
        go_quiet_grown (first | (go_at_fn g; refine Calls.grown_of (hc1 _ _)))
        have S2 : Aside (SwB cl w0 blk d (grow (wr.drewN nq) osq)) := SK.out.grown nq osq
        clear lx1a lx1b lx1c ly1a ly1b ly1c hc1 SK
        generalize grow (wr.drewN nq) osq = w2 at S2 ⊢
        clear nq osq
        clear ea1 pa1 ba1 ra1 ec1 pc1 bc1 rc1
        clear hsz0 hD'
        go_wp2_with fail
        go_roundw
        case rel => exact ⟨s, q, by omega, hs0', by omega, rfl, by go_num, HI.out, fun c h1 h2 => by
          rcases Nat.lt_or_ge c r with hc | hc
          · have k1 := HP.out.left.key (i := q) (j := c) (by omega) h1 (by omega)
            have k2 := HP.out.right.key (i := p - c) (j := p - q) (by omega) (by omega) (by omega)
            omega
          · exact HJ.out c hc h2, S2.out⟩
        case measure => simp [intOf]; omega
      · have hcv2 := hcv
        obtain ⟨x2, hx2⟩ : ∃ zz, zz = d[p - q]! := ⟨_, rfl⟩
        obtain ⟨y2, hy2⟩ : ∃ zz, zz = d[q]! := ⟨_, rfl⟩
        have lx2a := fun nq osq => (SK.out.grown nq osq).c0 HM.out.row hsz0 (p - q) (by omega)
        have lx2b := fun nq osq => (SK.out.grown nq osq).c1 HM.out.row hsz0 (p - q) (by omega)
        have lx2c := fun nq osq => (SK.out.grown nq osq).c2 HM.out.row hsz0 (p - q) (by omega)
        have ly2a := fun nq osq => (SK.out.grown nq osq).c0 HM.out.row hsz0 (q) (by omega)
        have ly2b := fun nq osq => (SK.out.grown nq osq).c1 HM.out.row hsz0 (q) (by omega)
        have ly2c := fun nq osq => (SK.out.grown nq osq).c2 HM.out.row hsz0 (q) (by omega)
        rw [← hx2] at lx2a lx2b lx2c
        rw [← hy2] at ly2a ly2b ly2c
        have hc2 := SK.out.cmp (by rw [← HM.out.size]; exact HM.out.cmp) hsz0 x2 y2
        have hv2 : ¬ cf x2 y2 < 0 := by rw [HM.out.sgn, hx2, hy2]; omega
        have hd2 : decide (cf x2 y2 < 0) = false := decide_eq_false hv2
        have HXY2 := Lib.hid (And.intro hx2 hy2)
        obtain ⟨iN2, hiN2⟩ : ∃ zz, zz = p - q := ⟨_, rfl⟩
        obtain ⟨jN2, hjN2⟩ : ∃ zz, zz = q := ⟨_, rfl⟩
        have ea2 : (((p : Int) - (q : Int) : Int)).toNat = iN2 := by omega
        have pa2 : (0 : Int) ≤ (p : Int) - (q : Int) := by omega
        have ba2 : ((p : Int) - (q : Int) : Int) < (D : Int) := by omega
        have ra2 : IntKind.i64.wrap ((p : Int) - (q : Int)) = (p : Int) - (q : Int) := by rw [IntKind.wrap_i64]; omega
        have ec2 : (((q : Int) : Int)).toNat = jN2 := by omega
        have pc2 : (0 : Int) ≤ (q : Int) := by omega
        have bc2 : ((q : Int) : Int) < (D : Int) := by omega
        have rc2 : IntKind.i64.wrap ((q : Int)) = (q : Int) := by rw [IntKind.wrap_i64]; omega
        rw [← hiN2] at lx2a lx2b lx2c
        rw [← hjN2] at ly2a ly2b ly2c
        clear hx2 hy2 hiN2 hjN2
        go_wp2_with fail
        go_quiet_grown (first | (go_at_fn g; refine Calls.grown_of (hc2 _ _)))
        have S2 : Aside (SwB cl w0 blk d (grow (wr.drewN nq) osq)) := SK.out.grown nq osq
        clear lx2a lx2b lx2c ly2a ly2b ly2c hc2 SK
        generalize grow (wr.drewN nq) osq = w2 at S2 ⊢
        clear nq osq
        clear ea2 pa2 ba2 ra2 ec2 pc2 bc2 rc2
        clear hsz0 hD'
        go_wp2_with fail
        go_roundw
        case rel => exact ⟨q + 1, r, by omega, by omega, hs1', by go_num, rfl, fun c h1 h2 => by
          rcases Nat.lt_or_ge c s with hc | hc
          · exact HI.out c h1 hc
          · have k1 := HP.out.left.key (i := c) (j := q) (by omega) (by omega) (by omega)
            have k2 := HP.out.right.key (i := p - q) (j := p - c) (by omega) (by omega) (by omega)
            omega, HJ.out, S2.out⟩
        case measure => simp [intOf]; omega
    · obtain rfl : s = r := by omega
      have hs0 : (if mid < m then mid + m - b else a) ≤ s := by rw [← HLo0.out]; exact hs0'
      have hs1 : s ≤ (if mid < m then mid else m) := by rw [← HR0.out]; exact hs1'
      have HLo : Hid (∀ c, (if mid < m then mid + m - b else a) ≤ c → c < s → ¬ f d[c]! < f d[mid + m - 1 - c]!) := fun c h1 h2 => by rw [HPp.out]; have := HI.out c (by rw [HLo0.out]; exact h1) h2; omega
      have HHi : Hid (∀ c, s ≤ c → c < (if mid < m then mid else m) → f d[c]! < f d[mid + m - 1 - c]!) := fun c h1 h2 => by rw [HPp.out]; exact HJ.out c h1 (by rw [HR0.out]; exact h2)
      obtain ⟨e, he⟩ : ∃ e, e = mid + m - s := ⟨_, rfl⟩
      have heN : mid + m - s = e := he.symm
      have hez : (nN : Int) - (s : Int) = (e : Int) := by omega
      have hbnd : s ≤ m ∧ m ≤ e ∧ e ≤ b := by omega
      have heb1 : e ≤ 1000 := by omega
      have hee1 : e + s ≤ nN ∧ nN ≤ e + s := by omega
      have HEn := Lib.hid heN
      clear he heN HI HJ
      by_cases t5 : s < m
      · by_cases t6 : m < e
        · have HC1 := Lib.hid (rotateB_c HM.out.row d cap s m e D (.func (.func g) #[] cb) _ SK.out HD.out HM.out.size t5 t6 (by omega) hsm)
          clear SK
          go_wp2_with fail
          refine HC1.out.mono ?_
          rintro ev w7 ⟨rfl, d1, hsz1, hrt, S1⟩
          have SA : Aside (SwB cl w0 blk d1 w7) := S1
          have HD1 := Lib.hid (And.intro hsz1 hrt)
          clear S1 HC1 hsz1 hrt
          obtain ⟨g1, g2, g3, g4, g5, g6, g7, g8, hM, hPre2, hPre3⟩ := merge_mid HP.out ham hmb HMd.out hs0 hs1 (fun c h1 h2 => by have := HLo.out c h1 h2; omega) (fun c h1 h2 => by have := HHi.out c h1 h2; omega) (by rw [HEn.out]; exact HD1.out.2)
          rw [HEn.out] at g4 g5 g6 hPre3
          have HMid := Lib.hid hM
          have HPre2 := Lib.hid hPre2
          have HPre3 := Lib.hid hPre3
          clear hM hPre2 hPre3 hs0 hs1
          by_cases t1 : a < s
          · by_cases t2 : s < mid
            · have HC2 := Lib.hid (HIH.out d1 a s mid _ (by omega) SA.out HD1.out.1 t1 t2 (by omega) HPre2.out)
              clear SA
              go_wp2_with fail
              refine HC2.out.mono ?_
              rintro ev w8 ⟨rfl, d2, hs2, hp2, S2⟩
              have SB : Aside (SwB cl w0 blk d2 w8) := S2
              have HD2 := Lib.hid hs2
              have HPo2 := Lib.hid hp2
              clear S2 HC2 hs2 hp2
              as_aux_lemma =>
                have hpre3 := HPre3.out.far (a := a) (mid := mid) (fun i hi => HPo2.out.out i hi)
                have HPre4 := Lib.hid hpre3
                clear hpre3
                by_cases t4 : mid < e
                · by_cases t3 : e < b
                  · have HC := Lib.hid (HIH.out d2 mid e b _ (by omega) SB.out HD2.out t4 t3 hb HPre4.out)
                    clear SB
                    go_wp2_with fail
                    refine HC.out.mono ?_
                    rintro ev w9 ⟨rfl, d3, hs3, hp3, S3⟩
                    have HS3 : Aside _ := S3
                    clear S3 HC
                    go_wp2
                    go_end0
                    exact ⟨rfl, d3, hs3, merge_all ⟨g1, g2, g5, g6⟩ ⟨g7, g8⟩ HMid.out HD1.out.2 HPo2.out hp3, HS3.out⟩
                  · have hme : Hid (e = b) := (by show e = b; omega)
                    go_wp2
                    go_end0
                    exact ⟨rfl, d2, HD2.out, merge_all ⟨g1, g2, g5, g6⟩ ⟨g7, g8⟩ HMid.out HD1.out.2 HPo2.out (HPre4.out.done (.inr hme.out)), SB.out⟩
                · have hme : Hid (e = mid) := (by show e = mid; omega)
                  go_wp2
                  go_end0
                  exact ⟨rfl, d2, HD2.out, merge_all ⟨g1, g2, g5, g6⟩ ⟨g7, g8⟩ HMid.out HD1.out.2 HPo2.out (HPre4.out.done (.inl hme.out)), SB.out⟩
            · have hme : Hid (s = mid) := (by show s = mid; omega)
              have HPo2 := Lib.hid (HPre2.out.done (.inr hme.out))
              obtain ⟨d2, hd2⟩ : ∃ d2, d1 = d2 := ⟨_, rfl⟩
              have SB : Aside (SwB cl w0 blk d2 _) := (by rw [← hd2]; exact SA.out)
              have HD2 : Hid (d2.size = D) := (by rw [← hd2]; exact HD1.out.1)
              have HPo3 : Hid (MPost f d1 d2 a mid) := (by rw [← hd2]; exact HPo2.out)
              clear SA HPo2 hd2
              have HPo2 := HPo3
              as_aux_lemma =>
                have hpre3 := HPre3.out.far (a := a) (mid := mid) (fun i hi => HPo2.out.out i hi)
                have HPre4 := Lib.hid hpre3
                clear hpre3
                by_cases t4 : mid < e
                · by_cases t3 : e < b
                  · have HC := Lib.hid (HIH.out d2 mid e b _ (by omega) SB.out HD2.out t4 t3 hb HPre4.out)
                    clear SB
                    go_wp2_with fail
                    refine HC.out.mono ?_
                    rintro ev w9 ⟨rfl, d3, hs3, hp3, S3⟩
                    have HS3 : Aside _ := S3
                    clear S3 HC
                    go_wp2
                    go_end0
                    exact ⟨rfl, d3, hs3, merge_all ⟨g1, g2, g5, g6⟩ ⟨g7, g8⟩ HMid.out HD1.out.2 HPo2.out hp3, HS3.out⟩
                  · have hme : Hid (e = b) := (by show e = b; omega)
                    go_wp2
                    go_end0
                    exact ⟨rfl, d2, HD2.out, merge_all ⟨g1, g2, g5, g6⟩ ⟨g7, g8⟩ HMid.out HD1.out.2 HPo2.out (HPre4.out.done (.inr hme.out)), SB.out⟩
                · have hme : Hid (e = mid) := (by show e = mid; omega)
                  go_wp2
                  go_end0
                  exact ⟨rfl, d2, HD2.out, merge_all ⟨g1, g2, g5, g6⟩ ⟨g7, g8⟩ HMid.out HD1.out.2 HPo2.out (HPre4.out.done (.inl hme.out)), SB.out⟩
          · have hme : Hid (s = a) := (by show s = a; omega)
            have HPo2 := Lib.hid (HPre2.out.done (.inl hme.out))
            obtain ⟨d2, hd2⟩ : ∃ d2, d1 = d2 := ⟨_, rfl⟩
            have SB : Aside (SwB cl w0 blk d2 _) := (by rw [← hd2]; exact SA.out)
            have HD2 : Hid (d2.size = D) := (by rw [← hd2]; exact HD1.out.1)
            have HPo3 : Hid (MPost f d1 d2 a mid) := (by rw [← hd2]; exact HPo2.out)
            clear SA HPo2 hd2
            have HPo2 := HPo3
            as_aux_lemma =>
              have hpre3 := HPre3.out.far (a := a) (mid := mid) (fun i hi => HPo2.out.out i hi)
              have HPre4 := Lib.hid hpre3
              clear hpre3
              by_cases t4 : mid < e
              · by_cases t3 : e < b
                · have HC := Lib.hid (HIH.out d2 mid e b _ (by omega) SB.out HD2.out t4 t3 hb HPre4.out)
                  clear SB
                  go_wp2_with fail
                  refine HC.out.mono ?_
                  rintro ev w9 ⟨rfl, d3, hs3, hp3, S3⟩
                  have HS3 : Aside _ := S3
                  clear S3 HC
                  go_wp2
                  go_end0
                  exact ⟨rfl, d3, hs3, merge_all ⟨g1, g2, g5, g6⟩ ⟨g7, g8⟩ HMid.out HD1.out.2 HPo2.out hp3, HS3.out⟩
                · have hme : Hid (e = b) := (by show e = b; omega)
                  go_wp2
                  go_end0
                  exact ⟨rfl, d2, HD2.out, merge_all ⟨g1, g2, g5, g6⟩ ⟨g7, g8⟩ HMid.out HD1.out.2 HPo2.out (HPre4.out.done (.inr hme.out)), SB.out⟩
              · have hme : Hid (e = mid) := (by show e = mid; omega)
                go_wp2
                go_end0
                exact ⟨rfl, d2, HD2.out, merge_all ⟨g1, g2, g5, g6⟩ ⟨g7, g8⟩ HMid.out HD1.out.2 HPo2.out (HPre4.out.done (.inl hme.out)), SB.out⟩
        · have hme : Hid (e = m) := (by show e = m; omega)
          obtain ⟨d1, hd1⟩ : ∃ d1, d = d1 := ⟨_, rfl⟩
          have SA : Aside (SwB cl w0 blk d1 _) := (by rw [← hd1]; exact SK.out)
          have HD1 : Hid (d1.size = D ∧ ∀ t, d1[t]! = d[rtIx s m e t]!) := (by rw [← hd1]; exact ⟨HD.out, fun t => by rw [rt_id (.inr hme.out) (by omega) (by omega)]⟩)
          clear SK hd1
          obtain ⟨g1, g2, g3, g4, g5, g6, g7, g8, hM, hPre2, hPre3⟩ := merge_mid HP.out ham hmb HMd.out hs0 hs1 (fun c h1 h2 => by have := HLo.out c h1 h2; omega) (fun c h1 h2 => by have := HHi.out c h1 h2; omega) (by rw [HEn.out]; exact HD1.out.2)
          rw [HEn.out] at g4 g5 g6 hPre3
          have HMid := Lib.hid hM
          have HPre2 := Lib.hid hPre2
          have HPre3 := Lib.hid hPre3
          clear hM hPre2 hPre3 hs0 hs1
          by_cases t1 : a < s
          · by_cases t2 : s < mid
            · have HC2 := Lib.hid (HIH.out d1 a s mid _ (by omega) SA.out HD1.out.1 t1 t2 (by omega) HPre2.out)
              clear SA
              go_wp2_with fail
              refine HC2.out.mono ?_
              rintro ev w8 ⟨rfl, d2, hs2, hp2, S2⟩
              have SB : Aside (SwB cl w0 blk d2 w8) := S2
              have HD2 := Lib.hid hs2
              have HPo2 := Lib.hid hp2
              clear S2 HC2 hs2 hp2
              as_aux_lemma =>
                have hpre3 := HPre3.out.far (a := a) (mid := mid) (fun i hi => HPo2.out.out i hi)
                have HPre4 := Lib.hid hpre3
                clear hpre3
                by_cases t4 : mid < e
                · by_cases t3 : e < b
                  · have HC := Lib.hid (HIH.out d2 mid e b _ (by omega) SB.out HD2.out t4 t3 hb HPre4.out)
                    clear SB
                    go_wp2_with fail
                    refine HC.out.mono ?_
                    rintro ev w9 ⟨rfl, d3, hs3, hp3, S3⟩
                    have HS3 : Aside _ := S3
                    clear S3 HC
                    go_wp2
                    go_end0
                    exact ⟨rfl, d3, hs3, merge_all ⟨g1, g2, g5, g6⟩ ⟨g7, g8⟩ HMid.out HD1.out.2 HPo2.out hp3, HS3.out⟩
                  · have hme : Hid (e = b) := (by show e = b; omega)
                    go_wp2
                    go_end0
                    exact ⟨rfl, d2, HD2.out, merge_all ⟨g1, g2, g5, g6⟩ ⟨g7, g8⟩ HMid.out HD1.out.2 HPo2.out (HPre4.out.done (.inr hme.out)), SB.out⟩
                · have hme : Hid (e = mid) := (by show e = mid; omega)
                  go_wp2
                  go_end0
                  exact ⟨rfl, d2, HD2.out, merge_all ⟨g1, g2, g5, g6⟩ ⟨g7, g8⟩ HMid.out HD1.out.2 HPo2.out (HPre4.out.done (.inl hme.out)), SB.out⟩
            · have hme : Hid (s = mid) := (by show s = mid; omega)
              have HPo2 := Lib.hid (HPre2.out.done (.inr hme.out))
              obtain ⟨d2, hd2⟩ : ∃ d2, d1 = d2 := ⟨_, rfl⟩
              have SB : Aside (SwB cl w0 blk d2 _) := (by rw [← hd2]; exact SA.out)
              have HD2 : Hid (d2.size = D) := (by rw [← hd2]; exact HD1.out.1)
              have HPo3 : Hid (MPost f d1 d2 a mid) := (by rw [← hd2]; exact HPo2.out)
              clear SA HPo2 hd2
              have HPo2 := HPo3
              as_aux_lemma =>
                have hpre3 := HPre3.out.far (a := a) (mid := mid) (fun i hi => HPo2.out.out i hi)
                have HPre4 := Lib.hid hpre3
                clear hpre3
                by_cases t4 : mid < e
                · by_cases t3 : e < b
                  · have HC := Lib.hid (HIH.out d2 mid e b _ (by omega) SB.out HD2.out t4 t3 hb HPre4.out)
                    clear SB
                    go_wp2_with fail
                    refine HC.out.mono ?_
                    rintro ev w9 ⟨rfl, d3, hs3, hp3, S3⟩
                    have HS3 : Aside _ := S3
                    clear S3 HC
                    go_wp2
                    go_end0
                    exact ⟨rfl, d3, hs3, merge_all ⟨g1, g2, g5, g6⟩ ⟨g7, g8⟩ HMid.out HD1.out.2 HPo2.out hp3, HS3.out⟩
                  · have hme : Hid (e = b) := (by show e = b; omega)
                    go_wp2
                    go_end0
                    exact ⟨rfl, d2, HD2.out, merge_all ⟨g1, g2, g5, g6⟩ ⟨g7, g8⟩ HMid.out HD1.out.2 HPo2.out (HPre4.out.done (.inr hme.out)), SB.out⟩
                · have hme : Hid (e = mid) := (by show e = mid; omega)
                  go_wp2
                  go_end0
                  exact ⟨rfl, d2, HD2.out, merge_all ⟨g1, g2, g5, g6⟩ ⟨g7, g8⟩ HMid.out HD1.out.2 HPo2.out (HPre4.out.done (.inl hme.out)), SB.out⟩
          · have hme : Hid (s = a) := (by show s = a; omega)
            have HPo2 := Lib.hid (HPre2.out.done (.inl hme.out))
            obtain ⟨d2, hd2⟩ : ∃ d2, d1 = d2 := ⟨_, rfl⟩
            have SB : Aside (SwB cl w0 blk d2 _) := (by rw [← hd2]; exact SA.out)
            have HD2 : Hid (d2.size = D) := (by rw [← hd2]; exact HD1.out.1)
            have HPo3 : Hid (MPost f d1 d2 a mid) := (by rw [← hd2]; exact HPo2.out)
            clear SA HPo2 hd2
            have HPo2 := HPo3
            as_aux_lemma =>
              have hpre3 := HPre3.out.far (a := a) (mid := mid) (fun i hi => HPo2.out.out i hi)
              have HPre4 := Lib.hid hpre3
              clear hpre3
              by_cases t4 : mid < e
              · by_cases t3 : e < b
                · have HC := Lib.hid (HIH.out d2 mid e b _ (by omega) SB.out HD2.out t4 t3 hb HPre4.out)
                  clear SB
                  go_wp2_with fail
                  refine HC.out.mono ?_
                  rintro ev w9 ⟨rfl, d3, hs3, hp3, S3⟩
                  have HS3 : Aside _ := S3
                  clear S3 HC
                  go_wp2
                  go_end0
                  exact ⟨rfl, d3, hs3, merge_all ⟨g1, g2, g5, g6⟩ ⟨g7, g8⟩ HMid.out HD1.out.2 HPo2.out hp3, HS3.out⟩
                · have hme : Hid (e = b) := (by show e = b; omega)
                  go_wp2
                  go_end0
                  exact ⟨rfl, d2, HD2.out, merge_all ⟨g1, g2, g5, g6⟩ ⟨g7, g8⟩ HMid.out HD1.out.2 HPo2.out (HPre4.out.done (.inr hme.out)), SB.out⟩
              · have hme : Hid (e = mid) := (by show e = mid; omega)
                go_wp2
                go_end0
                exact ⟨rfl, d2, HD2.out, merge_all ⟨g1, g2, g5, g6⟩ ⟨g7, g8⟩ HMid.out HD1.out.2 HPo2.out (HPre4.out.done (.inl hme.out)), SB.out⟩
      · have hme : Hid (s = m) := (by show s = m; omega)
        obtain ⟨d1, hd1⟩ : ∃ d1, d = d1 := ⟨_, rfl⟩
        have SA : Aside (SwB cl w0 blk d1 _) := (by rw [← hd1]; exact SK.out)
        have HD1 : Hid (d1.size = D ∧ ∀ t, d1[t]! = d[rtIx s m e t]!) := (by rw [← hd1]; exact ⟨HD.out, fun t => by rw [rt_id (.inl hme.out) (by omega) (by omega)]⟩)
        clear SK hd1
        obtain ⟨g1, g2, g3, g4, g5, g6, g7, g8, hM, hPre2, hPre3⟩ := merge_mid HP.out ham hmb HMd.out hs0 hs1 (fun c h1 h2 => by have := HLo.out c h1 h2; omega) (fun c h1 h2 => by have := HHi.out c h1 h2; omega) (by rw [HEn.out]; exact HD1.out.2)
        rw [HEn.out] at g4 g5 g6 hPre3
        have HMid := Lib.hid hM
        have HPre2 := Lib.hid hPre2
        have HPre3 := Lib.hid hPre3
        clear hM hPre2 hPre3 hs0 hs1
        by_cases t1 : a < s
        · by_cases t2 : s < mid
          · have HC2 := Lib.hid (HIH.out d1 a s mid _ (by omega) SA.out HD1.out.1 t1 t2 (by omega) HPre2.out)
            clear SA
            go_wp2_with fail
            refine HC2.out.mono ?_
            rintro ev w8 ⟨rfl, d2, hs2, hp2, S2⟩
            have SB : Aside (SwB cl w0 blk d2 w8) := S2
            have HD2 := Lib.hid hs2
            have HPo2 := Lib.hid hp2
            clear S2 HC2 hs2 hp2
            as_aux_lemma =>
              have hpre3 := HPre3.out.far (a := a) (mid := mid) (fun i hi => HPo2.out.out i hi)
              have HPre4 := Lib.hid hpre3
              clear hpre3
              by_cases t4 : mid < e
              · by_cases t3 : e < b
                · have HC := Lib.hid (HIH.out d2 mid e b _ (by omega) SB.out HD2.out t4 t3 hb HPre4.out)
                  clear SB
                  go_wp2_with fail
                  refine HC.out.mono ?_
                  rintro ev w9 ⟨rfl, d3, hs3, hp3, S3⟩
                  have HS3 : Aside _ := S3
                  clear S3 HC
                  go_wp2
                  go_end0
                  exact ⟨rfl, d3, hs3, merge_all ⟨g1, g2, g5, g6⟩ ⟨g7, g8⟩ HMid.out HD1.out.2 HPo2.out hp3, HS3.out⟩
                · have hme : Hid (e = b) := (by show e = b; omega)
                  go_wp2
                  go_end0
                  exact ⟨rfl, d2, HD2.out, merge_all ⟨g1, g2, g5, g6⟩ ⟨g7, g8⟩ HMid.out HD1.out.2 HPo2.out (HPre4.out.done (.inr hme.out)), SB.out⟩
              · have hme : Hid (e = mid) := (by show e = mid; omega)
                go_wp2
                go_end0
                exact ⟨rfl, d2, HD2.out, merge_all ⟨g1, g2, g5, g6⟩ ⟨g7, g8⟩ HMid.out HD1.out.2 HPo2.out (HPre4.out.done (.inl hme.out)), SB.out⟩
          · have hme : Hid (s = mid) := (by show s = mid; omega)
            have HPo2 := Lib.hid (HPre2.out.done (.inr hme.out))
            obtain ⟨d2, hd2⟩ : ∃ d2, d1 = d2 := ⟨_, rfl⟩
            have SB : Aside (SwB cl w0 blk d2 _) := (by rw [← hd2]; exact SA.out)
            have HD2 : Hid (d2.size = D) := (by rw [← hd2]; exact HD1.out.1)
            have HPo3 : Hid (MPost f d1 d2 a mid) := (by rw [← hd2]; exact HPo2.out)
            clear SA HPo2 hd2
            have HPo2 := HPo3
            as_aux_lemma =>
              have hpre3 := HPre3.out.far (a := a) (mid := mid) (fun i hi => HPo2.out.out i hi)
              have HPre4 := Lib.hid hpre3
              clear hpre3
              by_cases t4 : mid < e
              · by_cases t3 : e < b
                · have HC := Lib.hid (HIH.out d2 mid e b _ (by omega) SB.out HD2.out t4 t3 hb HPre4.out)
                  clear SB
                  go_wp2_with fail
                  refine HC.out.mono ?_
                  rintro ev w9 ⟨rfl, d3, hs3, hp3, S3⟩
                  have HS3 : Aside _ := S3
                  clear S3 HC
                  go_wp2
                  go_end0
                  exact ⟨rfl, d3, hs3, merge_all ⟨g1, g2, g5, g6⟩ ⟨g7, g8⟩ HMid.out HD1.out.2 HPo2.out hp3, HS3.out⟩
                · have hme : Hid (e = b) := (by show e = b; omega)
                  go_wp2
                  go_end0
                  exact ⟨rfl, d2, HD2.out, merge_all ⟨g1, g2, g5, g6⟩ ⟨g7, g8⟩ HMid.out HD1.out.2 HPo2.out (HPre4.out.done (.inr hme.out)), SB.out⟩
              · have hme : Hid (e = mid) := (by show e = mid; omega)
                go_wp2
                go_end0
                exact ⟨rfl, d2, HD2.out, merge_all ⟨g1, g2, g5, g6⟩ ⟨g7, g8⟩ HMid.out HD1.out.2 HPo2.out (HPre4.out.done (.inl hme.out)), SB.out⟩
        · have hme : Hid (s = a) := (by show s = a; omega)
          have HPo2 := Lib.hid (HPre2.out.done (.inl hme.out))
          obtain ⟨d2, hd2⟩ : ∃ d2, d1 = d2 := ⟨_, rfl⟩
          have SB : Aside (SwB cl w0 blk d2 _) := (by rw [← hd2]; exact SA.out)
          have HD2 : Hid (d2.size = D) := (by rw [← hd2]; exact HD1.out.1)
          have HPo3 : Hid (MPost f d1 d2 a mid) := (by rw [← hd2]; exact HPo2.out)
          clear SA HPo2 hd2
          have HPo2 := HPo3
          as_aux_lemma =>
            have hpre3 := HPre3.out.far (a := a) (mid := mid) (fun i hi => HPo2.out.out i hi)
            have HPre4 := Lib.hid hpre3
            clear hpre3
            by_cases t4 : mid < e
            · by_cases t3 : e < b
              · have HC := Lib.hid (HIH.out d2 mid e b _ (by omega) SB.out HD2.out t4 t3 hb HPre4.out)
                clear SB
                go_wp2_with fail
                refine HC.out.mono ?_
                rintro ev w9 ⟨rfl, d3, hs3, hp3, S3⟩
                have HS3 : Aside _ := S3
                clear S3 HC
                go_wp2
                go_end0
                exact ⟨rfl, d3, hs3, merge_all ⟨g1, g2, g5, g6⟩ ⟨g7, g8⟩ HMid.out HD1.out.2 HPo2.out hp3, HS3.out⟩
              · have hme : Hid (e = b) := (by show e = b; omega)
                go_wp2
                go_end0
                exact ⟨rfl, d2, HD2.out, merge_all ⟨g1, g2, g5, g6⟩ ⟨g7, g8⟩ HMid.out HD1.out.2 HPo2.out (HPre4.out.done (.inr hme.out)), SB.out⟩
            · have hme : Hid (e = mid) := (by show e = mid; omega)
              go_wp2
              go_end0
              exact ⟨rfl, d2, HD2.out, merge_all ⟨g1, g2, g5, g6⟩ ⟨g7, g8⟩ HMid.out HD1.out.2 HPo2.out (HPre4.out.done (.inl hme.out)), SB.out⟩
end
end Go.Proofs.YtgcpobondcnjcaaGreatDoor
