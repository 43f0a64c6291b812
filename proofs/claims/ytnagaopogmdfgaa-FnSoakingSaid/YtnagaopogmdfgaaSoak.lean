/-
  FnSoaking: drawn batches, planned.
  No conditions.
-/
import Derived.Test.YtnagaopogmdfgaaSoakP
import Derived.Test.YtnagaopogmdfgaaSupple
namespace Go.Proofs.Ytnagaopogmdfgaa
open Go.ChangeShapes Go.WideShapes Go.ChangeAt Go.RowKit Go.Deep

theorem plan_valid {zs ps : List Int} {m k : Nat} (h : Plan zs k ps) (hk : k ≤ 10) : okAll (batchAt ps) k 10 = true :=
  okAll_mk hk fun j hj => by
    have h1 := h.loose.2 j hj
    have h2 := h.late j hj
    simp [batchAt, batchOk, inR]
    omega
theorem soak_free {zs ps : List Int} {m : Nat} {room : Int} (h : SoakP zs room m ps) (hm : m ≤ 6) (h0 : 7 ≤ room) (h1 : room ≤ 100) : ftC ps m room = 3 := by
  have hok := plan_valid (m := m) h.plan (by omega)
  have e := ftTo_neg (v := tkF ps m) (st := sgF ps) (room := room) (k := m) fun j hj => h.room_ j hj
  simp [ftC, hok, inR, show (0 : Int) ≤ room by omega, h1, e]
/-- One hour earlier there is no room. -/
theorem soak_tight {zs ps : List Int} {m i : Nat} {room : Int} (h : SoakP zs room m ps) (hd : dB zs i) (hm : m ≤ 6) (hi : i < m) (h0 : 7 ≤ room) (h1 : room ≤ 100) (hlt : gi zs (i * 4) < gi ps (i * 4)) :
    ftC (ps.take (i * 4) ++ [gi ps (i * 4) - 1, gi zs (i * 4 + 1), gi zs (i * 4 + 2), gi zs (i * 4 + 3)]) (i + 1) room = 0 := by
  have hl := h.plan.len
  have hlt' : (ps.take (i * 4)).length = i * 4 := by rw [List.length_take]; omega
  have hgt : ∀ j, j < i * 4 → gi (ps.take (i * 4)) j = gi ps j := fun j hj => by
    simp [gi, List.getD, List.getElem?_take_of_lt hj]
  unfold dB at hd
  have hlate := h.plan.late i hi
  have hP : Plan zs i (ps.take (i * 4)) := ⟨hlt', ⟨by omega, fun j hj => by
    rw [hgt _ (by omega), hgt _ (by omega), hgt _ (by omega), hgt _ (by omega)]
    exact h.plan.loose.2 j (by omega)⟩, fun j hj => by rw [hgt _ (by omega)]; exact h.plan.late j (by omega)⟩
  have hQ := hP.snoc (t := gi ps (i * 4) - 1) (so := gi zs (i * 4 + 1)) (su := gi zs (i * 4 + 2)) (bu := gi zs (i * 4 + 3)) (by omega) (by omega) (by omega) (by omega) (by omega) (by omega) (by omega) (by omega) (by omega)
  have hok := plan_valid (m := m) hQ (by omega)
  have hsp := h.tight i hi hlt
  have hex : ∃ j, j < i + 1 ∧ room < tkF (ps.take (i * 4) ++ [gi ps (i * 4) - 1, gi zs (i * 4 + 1), gi zs (i * 4 + 2), gi zs (i * 4 + 3)]) (i + 1) (sgF (ps.take (i * 4) ++ [gi ps (i * 4) - 1, gi zs (i * 4 + 1), gi zs (i * 4 + 2), gi zs (i * 4 + 3)]) j) := by
    refine Classical.byContradiction fun hno => ?_
    have hall : ∀ j, j < i + 1 → tkF (ps.take (i * 4) ++ [gi ps (i * 4) - 1, gi zs (i * 4 + 1), gi zs (i * 4 + 2), gi zs (i * 4 + 3)]) (i + 1) (sgF (ps.take (i * 4) ++ [gi ps (i * 4) - 1, gi zs (i * 4 + 1), gi zs (i * 4 + 2), gi zs (i * 4 + 3)]) j) ≤ room := fun j hj => by
      refine Classical.byContradiction fun hh => hno ⟨j, hj, by omega⟩
    have : spB (ps.take (i * 4)) i (gi zs (i * 4 + 1)) (gi zs (i * 4 + 3)) room (gi ps (i * 4) - 1) = true := by
      rw [spB_true]
      refine ⟨?_, fun j hj ha hb => ?_⟩
      · have := hall i (by omega)
        unfold tkF sgF at this
        rw [tank_snoc hlt', gi_right (r := 0) (by omega), gi4_0, if_pos (by simp [inR]; omega)] at this
        exact this
      · have := hall j (by omega)
        unfold tkF sgF at this
        rw [tank_snoc hlt', gi_left (by omega), if_pos (by simp [inR]; omega)] at this
        exact this
    rw [hsp] at this; cases this
  have hpos := ftTo_pos (v := tkF (ps.take (i * 4) ++ [gi ps (i * 4) - 1, gi zs (i * 4 + 1), gi zs (i * 4 + 2), gi zs (i * 4 + 3)]) (i + 1)) (st := sgF (ps.take (i * 4) ++ [gi ps (i * 4) - 1, gi zs (i * 4 + 1), gi zs (i * 4 + 2), gi zs (i * 4 + 3)])) (room := room) (k := i + 1) (fun j hj => (hQ.loose.2 j hj).1) hex
  simp [ftC, hok, inR, show (0 : Int) ≤ room by omega, h1]
  omega
/-- The end of FnSoaking. -/
theorem soak_end {zs : List Int} {m : Nat} {h : Int} (hm : m ≤ 6) (hd : ∀ i, i < m → dB zs i) :
    (ftC zs m 7 = 3 ∧ sumTo (tankF zs h) m ≤ 7) ∨ (ftC zs m 7 = 0 ∧ 0 ≤ ftV zs m 7 ∧ ftV zs m 7 ≤ 100 ∧ 7 < sumTo (tankF zs (ftV zs m 7)) m ∧ (ftV zs m 7 ≤ h ∨ sumTo (tankF zs h) m ≤ 7)) := by
  have hok := drawn_ok hm hd
  have hs := ftTo_spec (v := tkF zs m) (st := sgF zs) (room := 7) (k := m) fun j hj => by have := hd j hj; unfold dB at this; unfold sgF; omega
  have hpk : 7 < sumTo (tankF zs h) m → ∃ i, i < m ∧ gi zs (i * 4) ≤ h ∧ 7 < tkF zs m (sgF zs i) := fun hh => by
    obtain ⟨i, hi, h1, h2⟩ := tank_peak (zs := zs) (m := m) (h := h) (fun j hj => by have := hd j hj; unfold dB at this; omega) (by omega)
    exact ⟨i, hi, h1, by unfold tkF sgF; omega⟩
  rcases hs with ⟨h1, h2⟩ | ⟨h1, h2, ⟨i, hi, h3⟩, h4⟩
  · refine .inl ⟨by simp [ftC, hok, inR, h1], ?_⟩
    refine Classical.byContradiction fun hh => ?_
    obtain ⟨i, hi, _, h5⟩ := hpk (by omega)
    have := h2 i hi; omega
  · have hv : ftV zs m 7 = ftTo (tkF zs m) (sgF zs) 7 m := by
      have : ¬ ftTo (tkF zs m) (sgF zs) 7 m < 0 := by omega
      simp [ftV, hok, inR, this]
    have hc : ftC zs m 7 = 0 := by
      have : ¬ ftTo (tkF zs m) (sgF zs) 7 m < 0 := by omega
      simp [ftC, hok, inR, this]
    rw [hv]
    refine .inr ⟨hc, h1, by rw [h3]; have := hd i hi; unfold dB at this; unfold sgF; omega, h2, ?_⟩
    by_cases hh : 7 < sumTo (tankF zs h) m
    · obtain ⟨q, hq, h5, h6⟩ := hpk hh
      have h7 : ftTo (tkF zs m) (sgF zs) 7 m ≤ gi zs (q * 4) := h4 q hq h6
      exact .inl (by omega)
    · exact .inr (by omega)
theorem append_batches {w : World} {ops : Array Oper} {rest : List Oper} {o : Oper} {a : Act} {Q : Exit → Act → World → Prop} (hgd : o.guard = none) (s x : Operand)
    (ho : o.op = .call { callee := .builtin .append, args := #[s, x], argTypes := #[24, 24] })
    (base : Nat) (v : Value) (n : Nat) (zs : List Int) (hs : a.eval s = v) (hown : w.ownsRow base 32 4 v n (iv zs)) (us : List Int) (ad : Addr) (m c : Nat) (hx : a.eval x = .slice (some ad) m c) (hl : us.length = m * 4)
    (hnews : ∀ j, j < m * 4 → w.cell? (ad.add j) = some (.int .i64 (gi us j)))
    (hn : n ≤ 1048576) (hm : m ≤ 1048576) (hbase : base ≤ w.heap.size)
    (h : ∀ v' w', w'.ownsRow base 32 4 v' (n + m) (iv (zs ++ us)) → w.grownBy w' v.ownBlock → wpList Try.prog ops Q rest (a.put o.dst v') w') : wpList Try.prog ops Q (o :: rest) a w := by
  have hinfo : (Try.prog.info? 32).map (fun i => (i.zero, i.size, i.bytes)) = some (some (.agg #[.int .i64 0, .int .i64 0, .int .i64 0, .int .i64 0]), 4, 32) := by kernel_rfl
  obtain ⟨i0, hi, hz0, hz1, hz2⟩ := info_parts hinfo
  refine wpList_append_own w hgd s x 24 ho base 32 i0 _ 4 32 Try.underlying24 hi hz0 hz1 hz2 rfl (by decide) v n (iv zs) hs hown ad m c (iv us) hx (by rw [iv_length, hl]) ?_ ?_ ?_ ?_ hbase ?_
  · intro j y hy
    have hj : j < us.length := by
      have := (List.getElem?_eq_some_iff.1 hy).1
      rwa [iv_length] at this
    rw [iv_get us j hj] at hy
    injection hy with hy
    rw [hnews j (by omega), hy]
  · intro y hy
    simp only [iv, List.mem_map] at hy
    obtain ⟨z, _, rfl⟩ := hy
    rfl
  · simp only [maxLen]; omega
  · omega
  · intro v' w' hown' hgr _
    refine h v' w' ?_ hgr
    rw [iv_append]
    exact hown'
theorem own4_set {w : World} {base n : Nat} {v : Value} {zs : List Int} (h : Own4 w base v n zs) (g i : Nat) (u : Value) (hg : g < base) : Own4 (w.setCell ⟨g, i, none⟩ u) base v n zs :=
  World.ownsRow.kept (row := some g) h ⟨rfl, rfl, rfl, by simp [World.setCell], fun k _ hk2 => Below.heap_setCell _ _ _ _ (fun e => hk2 (by rw [e]))⟩ (by
    rcases hv : v.ownBlock with _ | q
    · exact .inl rfl
    · refine .inr fun he => ?_
      have := (h.lt q hv).1
      injection he with he
      omega)
theorem own4_first {w wr : World} {o : Obj} {q : Nat} (hw : w = (wr.alloc o).drewN q) : Own4 (w.alloc (.cells #[] 32)) (wr.heap.size + 1) (.slice (some ⟨wr.heap.size + 1, 0, none⟩) 0 0) 0 [] := by
  have hz : w.heap.size = wr.heap.size + 1 := by rw [hw]; simp
  have := Own4.empty w (base := wr.heap.size + 1) (by omega)
  rwa [hz] at this
theorem take_cells {wr : World} {ps : List Int} {b off m k : Nat} (hb : b < wr.heap.size) (hl : ps.length = m * 4) (hk : k ≤ m) (hc : ∀ j, j < m * 4 → wr.cell? ⟨b, off + j, none⟩ = some (.int .i64 (gi ps j))) (o o' : Obj) (q j : Nat) (hj : j < k * 4) :
    (((wr.alloc o).drewN q).alloc o').cell? ((⟨b, off, none⟩ : Addr).add j) = some (.int .i64 (gi (ps.take (k * 4)) j)) := by
  have e : (⟨b, off, none⟩ : Addr).add j = ⟨b, off + j, none⟩ := by unfold Addr.add; split <;> simp_all
  rw [e, (balloc (bdrewN (balloc (Below.refl _ wr) o) q) o').cell hb, hc j (by omega)]
  simp [gi, List.getD, List.getElem?_take_of_lt hj]
theorem soak_ep {zs ps : List Int} {m : Nat} {room : Int} (hm : m ≤ 6) (hd : ∀ i, i < m → dB zs i) (h7 : 7 ≤ room) (h1 : room ≤ 100) (hp : plTo zs room m = some ps) : epL zs m room = ps ∧ epC zs m room = 0 := by
  have hok := drawn_ok hm hd
  have hb : epBig zs m room = true := big_end fun j hj => by have := hd j hj; unfold dB at this; omega
  simp [epL, epC, hok, hb, inR, show (0 : Int) ≤ room by omega, h1, hp]

set_option maxRecDepth 100000 in
set_option maxHeartbeats 8000000 in
theorem fnSoaking_c (A A' : Option Addr) (n c n' c' : Nat) (w : World) (h : Octets w w.heap.size A n) (h' : Octets w w.heap.size A' n') :
    Calls Try.prog 3 #[.slice A n c, .slice A' n' c'] w fun e w' => e = .returned (.bool true) ∧ Below w.heap.size w w' := by
  rcases hL : (decide (3000 < n) || decide (3000 < n')) with _ | _
  case true =>
    go_enter Try.func3, Try.ntmps3
    go_wp2_with fail
    refine (a2Long_c A A' n c n' c' w h.le h'.le).mono ?_
    rintro e w1 ⟨rfl, rfl⟩
    rw [hL]
    go_wp2
    go_ret
    exact ⟨rfl, Below.refl _ _⟩
  go_enter Try.func3, Try.ntmps3
  go_wp2_with fail
  refine (a2Long_c A A' n c n' c' w h.le h'.le).mono ?_
  rintro e w1 ⟨rfl, rfl⟩
  rw [hL]
  clear hL
  go_wp2_with fail
  refine (A2Batches_s A n c _ h).mono ?_
  rintro e w1 ⟨v, m, zs, rfl, hm, hd, hb1⟩
  obtain ⟨B, c3, rfl, hI⟩ := hd.ints
  have hdb := Lib.hid hd.bd
  go_wp2_with fail
  refine (a2At_c A' n' c' 0 6 _ ((h'.below hb1 (Nat.le_refl _)).more hb1.size) (by omega)).mono ?_
  rintro e w2 ⟨x, rfl, hx0, hx1, hb2⟩
  obtain ⟨ps, hps, hS⟩ := soak_plan (room := 7 + x) hm hdb.out (by omega) m (Nat.le_refl _)
  obtain ⟨e1, e2⟩ := soak_ep (room := 7 + x) hm hdb.out (by omega) (by omega) hps
  have HE1 := Lib.hid e1
  have HE2 := Lib.hid e2
  have HS := Lib.hid hS
  have hI2 := hI.on hb2
  clear hps e1 e2 hS hd
  go_wp2_with fail
  refine (early_i B m c3 zs (7 + x) _ hI2 (by omega)).mono ?_
  rintro e w3 ⟨vp, rfl, ho3, hb3⟩
  rw [HE2.out]
  have HO3 : Hid (Own4 w3 w2.heap.size vp m ps) := by
    have := ho3
    rw [HE1.out] at this
    unfold Own4L at this
    rw [show ps.length / 4 = m by have := HS.out.plan.len; omega] at this
    exact this
  clear ho3
  have HCP : Hid (∀ A n c, vp = .slice A n c → n ≤ c) := by
    intro A n c hv
    rcases HO3.out.2 with ⟨rfl, -⟩ | ⟨g, cap, cur, rfl, -, -, h3, -⟩
    · injection hv with _ h1 h2; omega
    · injection hv with _ h1 h2; omega
  obtain ⟨P, cP, rfl, hP3, hnil⟩ := HO3.out.ints HS.out.plan.wf
  have HFC : Hid (ftC ps m (7 + x) = 3) := soak_free HS.out hm (by omega) (by omega)
  go_wp2_with fail
  refine (first_i P m cP ps (7 + x) _ hP3 (by omega)).mono ?_
  rintro e w4 ⟨rfl, hb4⟩
  rw [HFC.out]
  have HP3 := Lib.hid (hP3.on hb4)
  have hcP : m ≤ cP := HCP.out _ _ _ rfl
  clear HCP
  have HZ4 := Lib.hid (hI.on (btrans hb2 (btrans hb3 hb4)))
  have HB4 := Lib.hid (btrans hb1 (btrans hb2 (btrans hb3 hb4)))
  clear hI hI2 hP3 HO3 HFC HE1 HE2 hnil
  go_wp2_with fail
  go_loopw [11] (fun i wr => ∃ k : Nat, k ≤ m ∧ i = .int .i64 k ∧ Below w4.heap.size w4 wr) (fun i _ => m - (intOf i).toNat)
  case atStart => exact ⟨0, Nat.zero_le _, rfl, Below.refl _ _⟩
  case round =>
    obtain ⟨k, hk, rfl, hbel⟩ := hrel
    by_cases hlt : k < m
    · obtain ⟨s1, s2, s3, s4⟩ := HS.out.same k hlt
      have hlate := HS.out.plan.late k hlt
      have hdk := hdb.out k hlt
      unfold dB at hdk
      have HK := Lib.hid (HP3.out.on hbel)
      obtain ⟨b, off, rfl, hb, c0, c1, c2, c4⟩ := HK.out.at4 hlt
      obtain ⟨b', off', rfl, hb', d0, d1, d2, d3⟩ := (HZ4.out.on hbel).at4 hlt
      rw [s2] at c1
      rw [s3] at c2
      rw [s4] at c4
      by_cases hgt : gi zs (k * 4) < gi ps (k * 4)
      · have HFT : Hid (ftC (ps.take (k * 4) ++ [gi ps (k * 4) - 1, gi zs (k * 4 + 1), gi zs (k * 4 + 2), gi zs (k * 4 + 3)]) (k + 1) (7 + x) = 0) := soak_tight HS.out (hdb.out k hlt) hm hlt (by omega) (by omega) hgt
        have HPL := Lib.hid HS.out.plan.len
        have HTL : Hid ((ps.take (k * 4)).length = k * 4) := by show _ = _; rw [List.length_take, HPL.out]; omega
        obtain ⟨b0, o0, e0, hb0, hc⟩ := HK.out.at_ (by omega)
        simp only [Option.some.injEq, Addr.mk.injEq, and_true] at e0
        obtain ⟨rfl, rfl⟩ := e0
        have HC := Lib.hid hc
        have HX := Lib.hid hbel
        have hsz := hbel.size
        clear hc hb0 hbel
        go_wp2_with fail
        go_quiet (fail)
        go_wp2_with fail
        go_quiet (fail)
        go_wp2_with (at_builtin; refine append_batches rfl (.tmp 119) (.tmp 122) rfl (wr.heap.size + 1) (.slice (some ⟨wr.heap.size + 1, 0, none⟩) 0 0) 0 [] rfl (own4_first rfl) (ps.take (k * 4)) ⟨b, off, none⟩ k cP rfl HTL.out (take_cells hb HPL.out (by omega) HC.out _ _ _) (by omega) (by omega) (by simp <;> omega) ?_)
        intro v1 w6 hown1 hgr1
        have HB6 := Lib.hid (below_grown (balloc (bdrewN (balloc HX.out _) _) _) hgr1 (fun g hg => by simp [Value.ownBlock] at hg; omega))
        have X := (show Blk w6 wr.heap.size 32 #[.int .i64 (gi ps (k * 4)), .int .i64 (gi zs (k * 4 + 1)), .int .i64 (gi zs (k * 4 + 2)), .int .i64 (gi zs (k * 4 + 3))] from (((Blk.new wr _ _).drewN _).alloc _).grown hgr1 (fun e => by simp [Value.ownBlock] at e))
        have Xl := X.lt
        have Xc0 := X.cell 0
        have Xf0 := X.frozen 0
        have Xc1 := X.cell 1
        have Xf1 := X.frozen 1
        have Xc2 := X.cell 2
        have Xf2 := X.frozen 2
        have Xc3 := X.cell 3
        have Xf3 := X.frozen 3
        simp at Xc0 Xc1 Xc2 Xc3
        have XH := Lib.hid X
        clear X
        have H7 : Hid (Own4 (w6.setCell ⟨wr.heap.size, 0, none⟩ (.int .i64 (gi ps (k * 4) - 1))) (wr.heap.size + 1) v1 k (ps.take (k * 4))) := own4_set (show Own4 w6 (wr.heap.size + 1) v1 k (ps.take (k * 4)) from hown1) _ _ _ (by omega)
        clear hown1 hgr1
        have HG : Hid (Blk ((w6.setCell ⟨wr.heap.size, 0, none⟩ (.int .i64 (gi ps (k * 4) - 1))).alloc (.cells #[.int .i64 (gi ps (k * 4) - 1), .int .i64 (gi zs (k * 4 + 1)), .int .i64 (gi zs (k * 4 + 2)), .int .i64 (gi zs (k * 4 + 3))] 32)) w6.heap.size 32 #[.int .i64 (gi ps (k * 4) - 1), .int .i64 (gi zs (k * 4 + 1)), .int .i64 (gi zs (k * 4 + 2)), .int .i64 (gi zs (k * 4 + 3))]) := by
          have := Blk.new (w6.setCell ⟨wr.heap.size, 0, none⟩ (.int .i64 (gi ps (k * 4) - 1))) 32 #[.int .i64 (gi ps (k * 4) - 1), .int .i64 (gi zs (k * 4 + 1)), .int .i64 (gi zs (k * 4 + 2)), .int .i64 (gi zs (k * 4 + 3))]
          rwa [size_setCell] at this
        go_wp2_with (at_builtin; go_loud (refine append_batch rfl (.tmp 128) (.tmp 130) rfl (wr.heap.size + 1) v1 k (ps.take (k * 4)) rfl (Own4.alloc H7.out _) [gi ps (k * 4) - 1, gi zs (k * 4 + 1), gi zs (k * 4 + 2), gi zs (k * 4 + 3)] rfl w6.heap.size rfl HG.out (by omega) (by simp <;> omega) ?_); intro v2 w8 hown2 hgr2)
        have HB8 := Lib.hid (below_grown (balloc (bset HB6.out hsz _) _) hgr2 (fun g hg => by have := (H7.out.lt g hg).1; omega))
        have HO8 : Hid (Own4 w8 (wr.heap.size + 1) v2 (k + 1) (ps.take (k * 4) ++ [gi ps (k * 4) - 1, gi zs (k * 4 + 1), gi zs (k * 4 + 2), gi zs (k * 4 + 3)])) := hown2
        have HWF := HS.out.plan.wf
        obtain ⟨A8, c8, rfl, i8, -⟩ := HO8.out.ints (fun z hz => by
          rcases List.mem_append.1 hz with h | h
          · exact HWF z (List.mem_of_mem_take h)
          · simp only [List.mem_cons, List.not_mem_nil, or_false] at h
            omega)
        clear hown2 hgr2 HWF
        go_wp2_with fail
        go_wp2_with fail
        (with_reducible refine (first_s A8 (k + 1) c8 _ (7 + x) _ i8 (by omega)).mono ?_)
        rintro e w9 ⟨rfl, hb9⟩
        rw [HFT.out]
        go_wp2_with fail
        go_roundw
        case rel => exact ⟨k + 1, by omega, by go_num, btrans HB8.out hb9⟩
        case measure => simp [intOf]; omega
      · go_wp2_with fail
        go_quiet (fail)
        go_wp2_with fail
        go_quiet (fail)
        go_wp2_with fail
        go_roundw
        case rel => exact ⟨k + 1, by omega, by go_num, bdrewN (balloc hbel _) _⟩
        case measure => simp [intOf]; omega
    · obtain rfl : k = m := by omega
      have HX := Lib.hid (btrans HB4.out hbel)
      have HZ := Lib.hid (HZ4.out.on hbel)
      clear hbel
      go_wp2_with fail
      refine (a2At_c A' n' c' 1 60 _ ((h'.below HX.out (Nat.le_refl _)).more HX.out.size) (by omega)).mono ?_
      rintro e w5 ⟨y, rfl, hy0, hy1, hb5⟩
      have HX5 := Lib.hid (btrans HX.out hb5)
      have HZ5 := Lib.hid (HZ.out.on hb5)
      have HAT : Hid (atV tankF zs k y = sumTo (tankF zs y) k ∧ atC zs k y = 0) := by
        show _ ∧ _
        have hok := drawn_ok hm hdb.out
        simp [atV, atC, hok, inR, hy0, show y ≤ 10000 by omega]
      go_wp2_with fail
      refine (intank_i B k c3 zs y _ HZ5.out (by omega)).mono ?_
      rintro e w6 ⟨rfl, hb6⟩
      rw [HAT.out.1, HAT.out.2]
      have HX6 := Lib.hid (btrans HX5.out hb6)
      have HZ6 := Lib.hid (HZ5.out.on hb6)
      have HL : Hid (Loose zs k) := loose_of (by omega) (drawn_ok hm hdb.out)
      have HEND := Lib.hid (soak_end (h := y) hm hdb.out)
      clear hb5 hb6 HS HP3 HB4 HZ4
      go_wp2_with fail
      go_loopw [19, 20] (fun q i wr5 => ∃ j : Nat, j ≤ k ∧ i = .int .i64 j ∧ q = .int .i64 (sumTo (tankF zs y) j) ∧ Below w6.heap.size w6 wr5) (fun _ i _ => k - (intOf i).toNat)
      case atStart => exact ⟨0, Nat.zero_le _, rfl, rfl, Below.refl _ _⟩
      case round =>
        obtain ⟨j, hj, rfl, rfl, hbel5⟩ := hrel
        have hbs := tank_bd (h := y) (HL.out) j hj
        by_cases hjm : j < k
        · have hdj := hdb.out j hjm
          unfold dB at hdj
          obtain ⟨b, off, rfl, hb, c0, c1, c2, c4⟩ := (HZ6.out.on hbel5).at4 hjm
          have HW1 : IntKind.i64.wrap (gi zs (j * 4) + gi zs (j * 4 + 1)) = gi zs (j * 4) + gi zs (j * 4 + 1) := IntWalk.i64_in _ (by omega)
          by_cases h1 : gi zs (j * 4) ≤ y
          · by_cases h2 : y < gi zs (j * 4) + gi zs (j * 4 + 1)
            · have HQ : Hid (sumTo (tankF zs y) (j + 1) = sumTo (tankF zs y) j + gi zs (j * 4 + 3)) := by show _ = _; rw [sumTo_succ, tankF, if_pos (by simp [inR]; omega)]
              go_wp2_with fail
              go_quiet (fail)
              go_wp2_with fail
              go_roundw
              case rel => exact ⟨j + 1, by omega, by go_num, by rw [HQ.out], bdrewN hbel5 _⟩
              case measure => simp [intOf]; omega
            · have HQ : Hid (sumTo (tankF zs y) (j + 1) = sumTo (tankF zs y) j) := by show _ = _; rw [sumTo_succ, tankF, if_neg (by simp [inR]; omega)]; omega
              go_wp2_with fail
              go_quiet (fail)
              go_wp2_with fail
              go_roundw
              case rel => exact ⟨j + 1, by omega, by go_num, by rw [HQ.out], bdrewN hbel5 _⟩
              case measure => simp [intOf]; omega
          · have HQ : Hid (sumTo (tankF zs y) (j + 1) = sumTo (tankF zs y) j) := by show _ = _; rw [sumTo_succ, tankF, if_neg (by simp [inR]; omega)]; omega
            have hT1 : decide (gi zs (j * 4) ≤ y) = false := decide_eq_false h1
            have hT2 : y < gi zs (j * 4) := by omega
            go_wp2_with fail
            go_quiet (fail)
            go_wp2_with fail
            go_roundw
            case rel => exact ⟨j + 1, by omega, by go_num, by rw [HQ.out], bdrewN hbel5 _⟩
            case measure => simp [intOf]; omega
        · obtain rfl : j = k := by omega
          have HX7 := Lib.hid (btrans HX6.out hbel5)
          have HZ7 := Lib.hid (HZ6.out.on hbel5)
          clear hbel5
          go_wp2_with fail
          refine (first_i B j c3 zs 7 _ HZ7.out (by omega)).mono ?_
          rintro e w8 ⟨rfl, hb8⟩
          have HX8 := Lib.hid (btrans HX7.out hb8)
          have HZ8 := Lib.hid (HZ7.out.on hb8)
          clear hb8
          rcases HEND.out with ⟨g1, g2⟩ | ⟨g1, g2, g3, g4, g5⟩
          · rw [g1]
            go_wp2_with fail
            go_ret
            exact ⟨rfl, HX8.out⟩
          · rw [g1]
            have HAT2 : Hid (atV tankF zs j (ftV zs j 7) = sumTo (tankF zs (ftV zs j 7)) j ∧ atC zs j (ftV zs j 7) = 0) := by
              show _ ∧ _
              have hok := drawn_ok hm hdb.out
              simp [atV, atC, hok, inR, g2, show ftV zs j 7 ≤ 10000 by omega]
            generalize hft : ftV zs j 7 = ft at *
            clear hft
            go_wp2_with fail
            refine (intank_s B j c3 zs ft _ HZ8.out (by omega)).mono ?_
            rintro e w9 ⟨rfl, hb9⟩
            rw [HAT2.out.1, HAT2.out.2]
            have HX9 := Lib.hid (btrans HX8.out hb9)
            generalize sumTo (tankF zs ft) j = sf at *
            generalize sumTo (tankF zs y) j = sy at *
            by_cases h1 : ft ≤ y
            · go_wp2_with fail
              go_ret
              exact ⟨rfl, HX9.out⟩
            · have h2 : sy ≤ 7 := by omega
              go_wp2_with fail
              go_ret
              exact ⟨rfl, HX9.out⟩

end Go.Proofs.Ytnagaopogmdfgaa
