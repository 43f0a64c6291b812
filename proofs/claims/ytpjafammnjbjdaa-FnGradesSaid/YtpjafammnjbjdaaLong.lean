/-
  The rods from the longest to the shortest.
  No conditions.
-/
import Derived.Test.YtpjafammnjbjdaaSortW
namespace Go.Proofs.Ytpjafammnjbjdaa
open Go.ChangeShapes Go.WideShapes Go.ChangeAt Go.RowKit Go.Deep Go.Shelf Go.Sort
set_option linter.unusedVariables false

theorem rodAt_len {zs : List Int} {n : Nat} (hok : okAll (rodAt zs) n 20 = true) (j : Nat) (hj : j < n) : 100 ≤ gi zs (j * 3) ∧ gi zs (j * 3) ≤ 3000 := by
  have h := okAll_get hok hj
  simp only [rodAt, rodOk, Bool.and_eq_true] at h
  exact ⟨(inR_true h.1.1).1, (inR_true h.1.1).2⟩
/-- The length of rod x. -/
def lenK (zs : List Int) (n : Nat) (x : Int) : Int := gi zs ((clp n x).toNat * 3)
theorem lenK_clp (zs : List Int) (n : Nat) (k : Int) : lenK zs n (clp n k) = lenK zs n k := by
  unfold lenK
  congr 2
  rcases Nat.eq_zero_or_pos n with h | h
  · subst h; unfold clp; repeat' split
    all_goals first | rfl | omega
  · have := clp_bd h k; rw [clp_in this.1 this.2]
theorem lenK_in (zs : List Int) {n q : Nat} (h : q < n) : lenK zs n (q : Int) = gi zs (q * 3) := by unfold lenK; rw [clp_in (by omega) (by omega)]; simp
/-- LongestFirst. -/
def lgV (zs : List Int) (n : Nat) : List Int := if okAll (rodAt zs) n 20 then stTo (lenK zs n) n else []
def lgC (zs : List Int) (n : Nat) : Int := if okAll (rodAt zs) n 20 then 0 else 1
theorem lgV_bd (zs : List Int) (n : Nat) (hn : n ≤ 1048576) : (lgV zs n).length ≤ 1048576 ∧ ∀ z ∈ lgV zs n, -9223372036854775808 ≤ z ∧ z ≤ 9223372036854775807 := by
  unfold lgV; split
  · exact ⟨by rw [stTo_len]; omega, fun z hz => by have := stTo_mem _ _ _ hz; omega⟩
  · exact ⟨by simp, by simp⟩

theorem cmpL_c (A : Option Addr) (n c bx : Nat) (zs : List Int) (w : World) (h : Ints w w.heap.size 3 A n zs) (hb : Blk w bx 27 #[.slice A n c]) (hok : okAll (rodAt zs) n 20 = true) :
    CmpOk 31 #[.pointer (some ⟨bx, 0, none⟩)] n (lenK zs n) w := by
  intro w' hbel x y hx0 hx1 hy0 hy1
  obtain ⟨p, rfl⟩ : ∃ p : Nat, x = p := ⟨x.toNat, by omega⟩
  obtain ⟨q, rfl⟩ : ∃ q : Nat, y = q := ⟨y.toNat, by omega⟩
  have hn20 := okAll_le hok
  have hp := rodAt_len hok p (by omega)
  have hq := rodAt_len hok q (by omega)
  rw [lenK_in zs (by omega), lenK_in zs (by omega)]
  have hB := hb.below hbel hb.lt
  have c9 := hB.cell 0
  simp at c9
  obtain ⟨b, off, rfl, hlt, c0, -⟩ := (h.below hbel (Nat.le_refl _)).at3 (i := p) (by omega)
  obtain ⟨b', off', e', -, c1, -⟩ := (h.below hbel (Nat.le_refl _)).at3 (i := q) (by omega)
  obtain ⟨rfl, rfl⟩ : b = b' ∧ off = off' := by simpa using e'
  clear e' hb hB h hbel hok
  go_enter Try.func31, Try.ntmps31
  go_wp2_with fail
  go_region
  go_wp2
  go_ret
  exact ⟨rfl, 1, rfl⟩

set_option maxHeartbeats 3000000 in
theorem long_i (A : Option Addr) (n c : Nat) (zs : List Int) (w : World) (h : Ints w w.heap.size 3 A n zs) (hn : n ≤ 1048576) :
    Calls Try.prog 8 #[.slice A n c] w fun e w' => ∃ v, e = .returned (.tuple #[v, .int .i64 (lgC zs n)]) ∧ Own w' w.heap.size v (lgV zs n) ∧ Below w.heap.size w w' := by
  have b1 := balloc (Below.refl w.heap.size w) (.cells #[.slice A n c] 27)
  have B1 := Blk.new w 27 #[.slice A n c]
  have h1 := (h.below b1 (Nat.le_refl _)).more b1.size
  have HB1 := Lib.hid (And.intro b1 B1)
  clear b1 B1
  rcases hok : okAll (rodAt zs) n 20 with _ | _
  · have HV : Hid (lgV zs n = [] ∧ lgC zs n = 1) := by show _ ∧ _; simp [lgV, lgC, hok]
    go_enter Try.func8, Try.ntmps8
    go_wp2_with fail
    refine (ValidRods_c _ _ _ zs _ h1 hn).mono ?_
    rintro e w2 ⟨rfl, hb2⟩
    rw [hok]
    go_wp2
    go_ret2
    exact ⟨_, by rw [HV.out.2]; rfl, by rw [HV.out.1]; exact Own.nil _ _, btrans HB1.out.1 hb2⟩
  · have HV : Hid (lgV zs n = stTo (lenK zs n) n ∧ lgC zs n = 0) := by show _ ∧ _; simp [lgV, lgC, hok]
    have hn20 := okAll_le hok
    go_enter Try.func8, Try.ntmps8
    go_wp2_with fail
    refine (ValidRods_c _ _ _ zs _ h1 hn).mono ?_
    rintro e w2 ⟨rfl, hb2⟩
    rw [hok]
    have c2 := btrans HB1.out.1 hb2
    have B2 := HB1.out.2.on hb2
    have h2 := (h.below c2 (Nat.le_refl _)).more c2.size
    have HC := Lib.hid (cmpL_c A n c w.heap.size zs w2 h2 B2 hok)
    have X := B2
    have Xl := X.lt
    have Xc0 := X.cell 0
    have Xf0 := X.frozen 0
    simp at Xc0
    have XH := Lib.hid X
    clear X
    go_wp2_with fail
    refine (sortedIndices_c 31 #[.pointer (some ⟨w.heap.size, 0, none⟩)] n (lenK zs n) _ (enters_of Try.func31 (by decide) rfl) HC.out (lenK_clp zs n) hn20).mono ?_
    rintro e w3 ⟨v, rfl, hown, hb3⟩
    go_wp2
    go_ret2
    exact ⟨_, by rw [HV.out.2]; rfl, by rw [HV.out.1]; exact hown.base_le c2.size, btrans c2 hb3⟩

/-- append of a part of another's slice of numbers. -/
theorem append_ints {w : World} {ops : Array Oper} {rest : List Oper} {o : Oper} {a : Act} {Q : Exit → Act → World → Prop} (hgd : o.guard = none) (s x : Operand)
    (ho : o.op = .call { callee := .builtin .append, args := #[s, x], argTypes := #[24, 24] })
    (base : Nat) (v : Value) (zs : List Int) (hs : a.eval s = v) (hown : Own w base v zs) (us : List Int) (ad : Addr) (m c : Nat) (hx : a.eval x = .slice (some ad) m c) (hl : us.length = m)
    (hnews : ∀ j, j < m → w.cell? (ad.add j) = some (.int .i64 (gi us j)))
    (hn : zs.length ≤ 1048576) (hm : m ≤ 1048576) (hbase : base ≤ w.heap.size)
    (h : ∀ v' w', Own w' base v' (zs ++ us) → w.grownBy w' v.ownBlock → wpList Try.prog ops Q rest (a.put o.dst v') w') : wpList Try.prog ops Q (o :: rest) a w := by
  have hinfo : (Try.prog.info? 2).map (fun i => (i.zero, i.size, i.bytes)) = some (some (.int .i64 0), 1, 8) := by kernel_rfl
  obtain ⟨i0, hi, hz0, hz1, hz2⟩ := info_parts hinfo
  refine wpList_append_own w hgd s x 24 ho base 2 i0 _ 1 8 Try.underlying24 hi hz0 hz1 hz2 rfl (by decide) v zs.length (iv zs) hs hown ad m c (iv us) hx (by rw [iv_length, hl, Nat.mul_one]) ?_ ?_ ?_ ?_ hbase ?_
  · intro j y hy
    have hj : j < us.length := by
      have := (List.getElem?_eq_some_iff.1 hy).1
      rwa [iv_length] at this
    rw [iv_get us j hj] at hy
    injection hy with hy
    rw [hnews j (by omega), hy]
  · intro y hy
    simp only [iv, List.mem_map] at hy
    obtain ⟨z, _, rfl⟩ := hy
    rfl
  · simp only [maxLen]; omega
  · omega
  · intro v' w' hown' hgr _
    refine h v' w' ?_ hgr
    unfold Own
    rw [iv_append, List.length_append, hl]
    exact hown'

theorem own_at {w : World} {base g n cap j : Nat} {zs : List Int} (h : Own w base (.slice (some ⟨g, 0, none⟩) n cap) zs) (hj : j < zs.length) : w.cell? ⟨g, j, none⟩ = some (.int .i64 (gi zs j)) := by
  have hc := World.ownsRow.cells (g := g) h rfl j (.int .i64 (gi zs j)) (iv_get zs j hj)
  have e : (⟨g, 0, none⟩ : Addr).add j = ⟨g, j, none⟩ := by unfold Addr.add; split <;> simp_all
  rwa [e] at hc
theorem own_head {w : World} {base g n cap q : Nat} {zs : List Int} (h : Own w base (.slice (some ⟨g, 0, none⟩) n cap) zs) (hq : q ≤ zs.length) (hw : ∀ z ∈ zs, -9223372036854775808 ≤ z ∧ z ≤ 9223372036854775807) :
    Ints w w.heap.size 1 (some ⟨g, 0, none⟩) q (zs.take q) :=
  ⟨⟨by rw [iv_length, List.length_take]; omega, fun _ => ⟨g, 0, rfl, (h.lt g rfl).2, fun j u hu => by
    have hj : j < (zs.take q).length := by
      have := (List.getElem?_eq_some_iff.1 hu).1
      rwa [iv_length] at this
    rw [iv_get _ j hj] at hu
    injection hu with hu
    rw [List.length_take] at hj
    rw [Nat.zero_add, own_at h (by omega), ← hu]
    simp [gi, List.getD, List.getElem?_take_of_lt (show j < q by omega)]⟩⟩, fun z hz => hw z (List.mem_of_mem_take hz)⟩
theorem own_rest {w w' : World} {base g n cap q j : Nat} {zs : List Int} (h : Own w base (.slice (some ⟨g, 0, none⟩) n cap) zs) (hb : Below w.heap.size w w') (hj : j < zs.length - q) :
    w'.cell? ((⟨g, q, none⟩ : Addr).add j) = some (.int .i64 (gi (zs.drop q) j)) := by
  have e : (⟨g, q, none⟩ : Addr).add j = ⟨g, q + j, none⟩ := by unfold Addr.add; split <;> simp_all
  rw [e, hb.cell (h.lt g rfl).2, own_at h (by omega)]
  simp [gi, List.getD, List.getElem?_drop]
theorem own_cap {w : World} {base g n cap : Nat} {zs : List Int} (h : Own w base (.slice (some ⟨g, 0, none⟩) n cap) zs) : n ≤ cap := by
  rcases h.2 with ⟨e, _⟩ | ⟨g', cap', cur, e, _, _, hc, _⟩
  · cases e
  · injection e with _ e2 e3; omega
theorem own_form {w : World} {base : Nat} {v : Value} {zs : List Int} (h : Own w base v zs) (hl : 0 < zs.length) : ∃ g cap, v = .slice (some ⟨g, 0, none⟩) zs.length cap := by
  rcases h.2 with ⟨_, h0⟩ | ⟨g, cap, cur, e, _⟩
  · omega
  · exact ⟨g, cap, e⟩

theorem l00Own_c (ad : Addr) (n c : Nat) (zs : List Int) (w : World) (h : Ints w w.heap.size 1 (some ad) n zs) (hn : n ≤ 1048576) :
    Calls Try.prog 27 #[.slice (some ad) n c] w fun e w' => ∃ v, e = .returned v ∧ Own w' w.heap.size v zs ∧ Below w.heap.size w w' := by
  have hl := h.length
  have hnews : ∀ j, j < n → (w.alloc (.cells #[] 2)).cell? (ad.add j) = some (.int .i64 (gi zs j)) := by
    intro j hj
    obtain ⟨b, off, e, hb, hc⟩ := h.at1 hj
    injection e with e
    subst e
    have e2 : (⟨b, off, none⟩ : Addr).add j = ⟨b, off + j, none⟩ := by unfold Addr.add; split <;> simp_all
    rw [e2, World.cell?_alloc_lt w _ _ hb, hc]
  have HH := Lib.hid (And.intro hl hnews)
  clear hl hnews h
  go_enter Try.func27, Try.ntmps27
  go_wp2_with (at_builtin; refine append_ints rfl (.tmp 3) (.tmp 4) rfl w.heap.size _ [] rfl (Own.empty w (Nat.le_refl _)) zs ad n c rfl (by rw [HH.out.1, Nat.mul_one]) HH.out.2 (by simp) hn (by simp) ?_; intro v1 w2 hown1 hgr1)
  go_ret
  exact ⟨_, rfl, hown1, below_grown (balloc (Below.refl _ w) _) hgr1 (fun g hg => by have e : some w.heap.size = some g := hg; injection e with e; omega)⟩

theorem ins_zero {f : Int → Int} {xs : List Int} {x : Int} {k q : Nat} (h : insK f xs x q = insK f xs x k) (h0 : q ≤ 0) : insK f xs x k = q := by
  obtain rfl : q = 0 := by omega
  rw [← h]; rfl
theorem ins_stop {f : Int → Int} {xs : List Int} {x : Int} {k q : Nat} (h : insK f xs x q = insK f xs x k) (h0 : 0 < q) (hn : ¬ f (gi xs (q - 1)) < f x) : insK f xs x k = q := by
  obtain ⟨p, rfl⟩ : ∃ p, q = p + 1 := ⟨q - 1, by omega⟩
  rw [← h]
  simp only [Nat.add_sub_cancel] at hn
  unfold insK; rw [if_neg hn]
theorem ins_step {f : Int → Int} {xs : List Int} {x : Int} {k q : Nat} (h : insK f xs x q = insK f xs x k) (h0 : 0 < q) (hn : f (gi xs (q - 1)) < f x) : insK f xs x (q - 1) = insK f xs x k := by
  obtain ⟨p, rfl⟩ : ∃ p, q = p + 1 := ⟨q - 1, by omega⟩
  rw [← h]
  simp only [Nat.add_sub_cancel] at hn ⊢
  conv => rhs; unfold insK
  rw [if_pos hn]
theorem lg_end {f : Int → Int} {k q B : Nat} {v : Value} {w : World} (h : Own w B v ((stTo f k).take q ++ [(k : Int)] ++ (stTo f k).drop q)) (hp : insK f (stTo f k) k k = q) :
    ∃ g cap, v = .slice (some ⟨g, 0, none⟩) (k + 1) cap ∧ Own w B (.slice (some ⟨g, 0, none⟩) (k + 1) cap) (stTo f (k + 1)) := by
  have e : (stTo f k).take q ++ [(k : Int)] ++ (stTo f k).drop q = stTo f (k + 1) := by
    conv => rhs; unfold stTo insL
    rw [stTo_len, hp]; simp
  rw [e] at h
  obtain ⟨g, cap, rfl⟩ := own_form h (by rw [stTo_len]; omega)
  rw [stTo_len] at h ⊢
  exact ⟨g, cap, rfl, h⟩
set_option maxHeartbeats 6000000 in
set_option maxRecDepth 100000 in
theorem long_s (A : Option Addr) (n c : Nat) (zs : List Int) (w : World) (h : Ints w w.heap.size 3 A n zs) (hn : n ≤ 1048576) :
    Calls Try.prog 6 #[.slice A n c] w fun e w' => ∃ v, e = .returned (.tuple #[v, .int .i64 (lgC zs n)]) ∧ Own w' w.heap.size v (lgV zs n) ∧ Below w.heap.size w w' := by
  rcases hok : okAll (rodAt zs) n 20 with _ | _
  · have HV : Hid (lgV zs n = [] ∧ lgC zs n = 1) := by show _ ∧ _; simp [lgV, lgC, hok]
    go_enter Try.func6, Try.ntmps6
    go_wp2_with fail
    refine (l02Ok_c _ _ _ zs _ h hn).mono ?_
    rintro e w2 ⟨rfl, hb2⟩
    rw [hok]
    go_wp2
    go_ret2
    exact ⟨_, by rw [HV.out.2]; rfl, by rw [HV.out.1]; exact Own.nil _ _, hb2⟩
  · have HV : Hid (lgV zs n = stTo (lenK zs n) n ∧ lgC zs n = 0) := by show _ ∧ _; simp [lgV, lgC, hok]
    have hn20 := okAll_le hok
    go_enter Try.func6, Try.ntmps6
    go_wp2_with fail
    refine (l02Ok_c _ _ _ zs _ h hn).mono ?_
    rintro e w2 ⟨rfl, hb2⟩
    rw [hok]
    go_wp2_with fail
    go_loopw [4, 5] (fun s i wr => ∃ k g cap : Nat, k ≤ n ∧ i = .int .i64 k ∧ s = .slice (some ⟨g, 0, none⟩) k cap ∧ Own wr w.heap.size (.slice (some ⟨g, 0, none⟩) k cap) (stTo (lenK zs n) k) ∧ Below w.heap.size w wr) (fun _ i _ => n - (intOf i).toNat)
    case atStart => exact ⟨0, w2.heap.size, 0, Nat.zero_le _, rfl, rfl, Own.empty _ hb2.size, balloc hb2 _⟩
    case round =>
      obtain ⟨k, g, cap, hk, rfl, rfl, hown, hbel⟩ := hrel
      obtain ⟨wo, rfl⟩ : ∃ wo : World, wo = wr := ⟨_, rfl⟩
      have hbase := hbel.size
      by_cases hlt : k < n
      · have HOWN := Lib.hid hown
        clear hown
        go_wp2_with fail
        go_loopw [6] (fun v wr => ∃ q m : Nat, q ≤ k ∧ v = .int .i64 q ∧ wr = wo.drewN m ∧ Hid (insK (lenK zs n) (stTo (lenK zs n) k) k q = insK (lenK zs n) (stTo (lenK zs n) k) k k)) (fun v _ => (intOf v).toNat)
        case atStart => exact ⟨k, 0, Nat.le_refl _, rfl, rfl, rfl⟩
        case round =>
          obtain ⟨q, m, hq, rfl, rfl, HI⟩ := hrel
          have hqc : q ≤ cap := Nat.le_trans hq (own_cap HOWN.out)
          obtain ⟨b, off, rfl, hb, c1, -⟩ := (h.below hbel (Nat.le_refl _)).at3 hlt
          rcases Nat.eq_zero_or_pos q with h0 | h0
          · have hd : decide (0 < q) = false := by simpa using h0
            have hp : ¬ (0 : Int) < (q : Int) := by omega
            have H0 := Lib.hid h0
            clear h0
            go_wp2_with fail
            go_quiet (fail)
            have HPOS : Hid (insK (lenK zs n) (stTo (lenK zs n) k) k k = q) := by show _ = _; exact ins_zero HI.out (by have := H0.out; omega)
            have HH := fun r => Lib.hid (own_head (HOWN.out.drewN r) (q := q) (by rw [stTo_len]; omega) (fun z hz => by have := stTo_mem _ _ _ hz; omega))
            go_wp2_with fail
            refine (l00Own_c ⟨g, 0, none⟩ q cap _ _ (HH _).out (by omega)).mono ?_
            rintro e w4 ⟨v4, rfl, hown4, hb4⟩
            have HB4 := Lib.hid (btrans (bdrewN hbel _) hb4)
            have HQ4 := Lib.hid ((bdrewN (Below.refl wo.heap.size wo) _).trans hb4)
            have hs4 : wo.heap.size ≤ w4.heap.size := HQ4.out.size
            have hl4 : ((stTo (lenK zs n) k).take q).length ≤ 20 := by rw [List.length_take]; omega
            go_wp2_with (at_builtin; go_loud (refine append_int rfl (.tmp 44) (.tmp 46) rfl wo.heap.size v4 _ rfl (Own.alloc hown4 _) k _ rfl (Blk.new _ _ _) (by omega) (by simp; omega) ?_); intro v5 w5 hown5 hgr5; refine Hid.out ?_)
            have hs5 : wo.heap.size ≤ w5.heap.size := by have := hgr5.size; simp at this; omega
            refine Lib.hid ?_
            have HQ5 := Lib.hid (below_grown (HQ4.out.alloc hs4 _) hgr5 (fun g hg => (hown4.lt g hg).1))
            have hkc := own_cap HOWN.out
            by_cases hcq : cap = q
            · have hkq : k - q = 0 := by omega
              subst hcq
              go_wp2_with (at_builtin; go_loud (refine append_ints rfl (.tmp 48) (.tmp 51) rfl wo.heap.size v5 _ rfl hown5 ((stTo (lenK zs n) k).drop cap) ⟨g, 0, none⟩ _ _ rfl (by simp [stTo_len] <;> omega) (by intro j hj; omega) (by simp; omega) (by omega) hs5 ?_); intro v6 w6 hown6 hgr6; refine Hid.out ?_)
              have HQ6 := Lib.hid (below_grown HQ5.out hgr6 (fun g hg => (hown5.lt g hg).1))
              obtain ⟨g6, cap6, rfl, hown7⟩ := lg_end hown6 HPOS.out
              refine Lib.hid ?_
              go_wp2_with fail
              go_roundw
              case rel => exact ⟨k + 1, g6, cap6, by omega, by go_num, rfl, hown7.base_le hbase, hbel.trans (HQ6.out.mono hbase)⟩
              case measure => simp [intOf]; omega
            · go_wp2_with (at_builtin; go_loud (refine append_ints rfl (.tmp 48) (.tmp 51) rfl wo.heap.size v5 _ rfl hown5 ((stTo (lenK zs n) k).drop q) ⟨g, q, none⟩ _ _ rfl (by simp [stTo_len] <;> omega) (fun j hj => own_rest HOWN.out HQ5.out (by rw [stTo_len]; exact hj)) (by simp; omega) (by omega) hs5 ?_); intro v6 w6 hown6 hgr6; refine Hid.out ?_)
              have HQ6 := Lib.hid (below_grown HQ5.out hgr6 (fun g hg => (hown5.lt g hg).1))
              obtain ⟨g6, cap6, rfl, hown7⟩ := lg_end hown6 HPOS.out
              refine Lib.hid ?_
              go_wp2_with fail
              go_roundw
              case rel => exact ⟨k + 1, g6, cap6, by omega, by go_num, rfl, hown7.base_le hbase, hbel.trans (HQ6.out.mono hbase)⟩
              case measure => simp [intOf]; omega
          · have hql : q - 1 < (stTo (lenK zs n) k).length := by rw [stTo_len]; omega
            have c2 := own_at HOWN.out hql
            obtain ⟨p, hp0, hp1⟩ : ∃ p : Nat, gi (stTo (lenK zs n) k) (q - 1) = p ∧ p < n := by
              have hm : gi (stTo (lenK zs n) k) (q - 1) ∈ stTo (lenK zs n) k := by
                have : gi (stTo (lenK zs n) k) (q - 1) = (stTo (lenK zs n) k)[q - 1] := by simp [gi, List.getD, List.getElem?_eq_getElem hql]
                rw [this]; exact List.getElem_mem hql
              have := stTo_mem _ _ _ hm
              exact ⟨_, (Int.toNat_of_nonneg this.1).symm, by omega⟩
            obtain ⟨b', off', e', -, c3, -⟩ := (h.below hbel (Nat.le_refl _)).at3 hp1
            obtain ⟨rfl, rfl⟩ : b = b' ∧ off = off' := by simpa using e'
            clear e' hql
            rw [hp0] at c2
            have HP := Lib.hid hp0
            clear hp0
            have HW : IntKind.i64.wrap ((q : Int) - 1) = (q : Int) - 1 := IntWalk.i64_in _ (by omega)
            have hd : decide (0 < q) = true := by simpa using h0
            have hp : (0 : Int) < (q : Int) := by omega
            have hkk : ((q : Int) - 1).toNat = q - 1 := by omega
            have hk1 : (0 : Int) ≤ (q : Int) - 1 := by omega
            have hk2 : (q : Int) - 1 < (k : Int) := by omega
            have hp2 : (p : Int) < (n : Int) := by omega
            by_cases hlt2 : gi zs (p * 3) < gi zs (k * 3)
            · have hd2 : decide (gi zs (p * 3) < gi zs (k * 3)) = true := decide_eq_true hlt2
              go_wp2_with fail
              go_quiet (fail)
              go_wp2_with fail
              go_roundw
              case rel => exact ⟨q - 1, _, by omega, by go_num, rfl, ins_step HI.out h0 (by rw [HP.out, lenK_in zs hp1, lenK_in zs hlt]; exact hlt2)⟩
              case measure => simp [intOf]; omega
            · have hd2 : decide (gi zs (p * 3) < gi zs (k * 3)) = false := decide_eq_false hlt2
              go_wp2_with fail
              have HPOS : Hid (insK (lenK zs n) (stTo (lenK zs n) k) k k = q) := ins_stop HI.out h0 (by rw [HP.out, lenK_in zs hp1, lenK_in zs hlt]; omega)
              go_quiet (fail)
              have HH := fun r => Lib.hid (own_head (HOWN.out.drewN r) (q := q) (by rw [stTo_len]; omega) (fun z hz => by have := stTo_mem _ _ _ hz; omega))
              go_wp2_with fail
              refine (l00Own_c ⟨g, 0, none⟩ q cap _ _ (HH _).out (by omega)).mono ?_
              rintro e w4 ⟨v4, rfl, hown4, hb4⟩
              have HB4 := Lib.hid (btrans (bdrewN hbel _) hb4)
              have HQ4 := Lib.hid ((bdrewN (Below.refl wo.heap.size wo) _).trans hb4)
              have hs4 : wo.heap.size ≤ w4.heap.size := HQ4.out.size
              have hl4 : ((stTo (lenK zs n) k).take q).length ≤ 20 := by rw [List.length_take]; omega
              go_wp2_with (at_builtin; go_loud (refine append_int rfl (.tmp 44) (.tmp 46) rfl wo.heap.size v4 _ rfl (Own.alloc hown4 _) k _ rfl (Blk.new _ _ _) (by omega) (by simp; omega) ?_); intro v5 w5 hown5 hgr5; refine Hid.out ?_)
              have hs5 : wo.heap.size ≤ w5.heap.size := by have := hgr5.size; simp at this; omega
              refine Lib.hid ?_
              have HQ5 := Lib.hid (below_grown (HQ4.out.alloc hs4 _) hgr5 (fun g hg => (hown4.lt g hg).1))
              have hkc := own_cap HOWN.out
              by_cases hcq : cap = q
              · have hkq : k - q = 0 := by omega
                subst hcq
                go_wp2_with (at_builtin; go_loud (refine append_ints rfl (.tmp 48) (.tmp 51) rfl wo.heap.size v5 _ rfl hown5 ((stTo (lenK zs n) k).drop cap) ⟨g, 0, none⟩ _ _ rfl (by simp [stTo_len] <;> omega) (by intro j hj; omega) (by simp; omega) (by omega) hs5 ?_); intro v6 w6 hown6 hgr6; refine Hid.out ?_)
                have HQ6 := Lib.hid (below_grown HQ5.out hgr6 (fun g hg => (hown5.lt g hg).1))
                obtain ⟨g6, cap6, rfl, hown7⟩ := lg_end hown6 HPOS.out
                refine Lib.hid ?_
                go_wp2_with fail
                go_roundw
                case rel => exact ⟨k + 1, g6, cap6, by omega, by go_num, rfl, hown7.base_le hbase, hbel.trans (HQ6.out.mono hbase)⟩
                case measure => simp [intOf]; omega
              · go_wp2_with (at_builtin; go_loud (refine append_ints rfl (.tmp 48) (.tmp 51) rfl wo.heap.size v5 _ rfl hown5 ((stTo (lenK zs n) k).drop q) ⟨g, q, none⟩ _ _ rfl (by simp [stTo_len] <;> omega) (fun j hj => own_rest HOWN.out HQ5.out (by rw [stTo_len]; exact hj)) (by simp; omega) (by omega) hs5 ?_); intro v6 w6 hown6 hgr6; refine Hid.out ?_)
                have HQ6 := Lib.hid (below_grown HQ5.out hgr6 (fun g hg => (hown5.lt g hg).1))
                obtain ⟨g6, cap6, rfl, hown7⟩ := lg_end hown6 HPOS.out
                refine Lib.hid ?_
                go_wp2_with fail
                go_roundw
                case rel => exact ⟨k + 1, g6, cap6, by omega, by go_num, rfl, hown7.base_le hbase, hbel.trans (HQ6.out.mono hbase)⟩
                case measure => simp [intOf]; omega
      · obtain rfl : k = n := by omega
        go_wp2
        go_ret2
        exact ⟨_, by rw [HV.out.2]; rfl, by rw [HV.out.1]; exact hown, hbel⟩
end Go.Proofs.Ytpjafammnjbjdaa
