/-
  Two lists of bundles drawn: the second is the first, copied, and mostly changed.
  No conditions.
-/
import Derived.Test.YtgcpobondcnjcaaGreatDoorDrawB
import Derived.Test.YtgcpobondcnjcaaGreatDoorOwn3
import Derived.Laws.AppendOwnNone
import Derived.Deep.RegionHeld3
namespace Go.Proofs.YtgcpobondcnjcaaGreatDoor
open Go.ChangeShapes Go.WideShapes Go.ChangeAt Go.RowKit Go.Deep
set_option linter.unusedVariables false

set_option maxRecDepth 100000 in
theorem DrawGirthFor_s (A : Option Addr) (n c : Nat) (w : World) (h : Octets w w.heap.size A n) :
    Calls Tryz.prog 5 #[.slice A n c] w fun e w' => ∃ x y : Int, e = .returned (.tuple #[.int .i64 x, .int .i64 y]) ∧ -1 ≤ x ∧ x ≤ 100001 ∧ -1 ≤ y ∧ y ≤ 301 ∧ Below w.heap.size w w' := by
  go_enter Tryz.func5, Tryz.ntmps5
  go_wp2_with fail
  refine (from_s A n c w h).mono ?_
  rintro e w1 ⟨g, rfl, hg, hs1, hb1⟩
  have hz := hb1.size
  go_wp2_with fail
  refine (pick_s g A n c 0 2000 _ hs1 (by omega)).mono ?_
  rintro e w2 ⟨x, rfl, hx0, hx1, hs2, hk2⟩
  have hx2 : x < 2000 := by omega
  clear hx1
  go_wp2_with fail
  refine (one_s g A n c _ 8 _ hs2 (by omega)).mono ?_
  rintro e w3 ⟨y, rfl, hs3, hk3⟩
  have hlt3 := hs3.lt
  rcases y with _ | _
  · go_wp2_with fail
    refine (draw_thick g A n c _ _ hs3 (by omega)).mono ?_
    rintro e w4 ⟨y, rfl, hy0, hy1, hs4, hk4⟩
    go_wp2
    go_ret2
    exact ⟨1 + x, y, rfl, by omega, by omega, hy0, hy1, hb1.trans (((hk2.trans hk3).trans hk4).below hg hz)⟩
  · go_wp2_with fail
    refine (among_s g A n c _ w3.heap.size 5 [-1, 0, 1, 100000, 100001] _ (hs3.on (balloc (Below.refl _ _) _) hlt3) (by omega) (Blk.new _ _ _) (by omega) rfl (by omega) (by omega)).mono ?_
    rintro e w4 ⟨z, rfl, hx, hs4, hk4⟩
    simp only [List.mem_cons, List.not_mem_nil, or_false] at hx
    have hz0 : -1 ≤ z := by omega
    have hz1 : z ≤ 100001 := by omega
    clear hx
    go_wp2_with fail
    refine (draw_thick g A n c _ _ hs4 (by omega)).mono ?_
    rintro e w5 ⟨y, rfl, hy0, hy1, hs5, hk5⟩
    go_wp2
    go_ret2
    exact ⟨z, y, rfl, hz0, hz1, hy0, hy1, hb1.trans (((((hk2.trans hk3).alloc _).trans hk4).trans hk5).below hg hz)⟩
set_option maxRecDepth 100000 in
theorem DrawSortBunches_s (A : Option Addr) (n c : Nat) (w : World) (h : Octets w w.heap.size A n) :
    Calls Tryz.prog 8 #[.slice A n c] w fun e w' => ∃ (v : Value) (m : Nat) (zs : List Int), e = .returned v ∧ m ≤ 31 ∧ DrawnB w' w.heap.size v m zs ∧ Below w.heap.size w w' := by
  go_enter Tryz.func8, Tryz.ntmps8
  go_wp2_with fail
  refine (from_s A n c w h).mono ?_
  rintro e w1 ⟨g, rfl, hg, hs1, hb1⟩
  have hz := hb1.size
  go_wp2_with fail
  refine (drawB_s g A n c 0 _ hs1 (by omega)).mono ?_
  rintro e w2 ⟨v, m, zs, rfl, hm, hd, hs2, hk⟩
  have HD := Lib.hid hd
  clear hd
  go_wp2
  go_ret
  exact ⟨v, m, zs, rfl, hm, HD.out.less hz, hb1.trans (hk.below hg hz)⟩
set_option maxRecDepth 100000 in
theorem need_s (A : Option Addr) (n c : Nat) (w : World) (h : Octets w w.heap.size A n) :
    Calls Tryz.prog 45 #[.slice A n c] w fun e w' => ∃ (v : Value) (m : Nat) (zs : List Int) (x : Int), e = .returned (.tuple #[v, .int .i64 x]) ∧ m ≤ 31 ∧ -9223372036854775808 ≤ x ∧ x ≤ 1000001 ∧ DrawnB w' w.heap.size v m zs ∧ Below w.heap.size w w' := by
  go_enter Tryz.func45, Tryz.ntmps45
  go_wp2_with fail
  refine (from_s A n c w h).mono ?_
  rintro e w1 ⟨g, rfl, hg, hs1, hb1⟩
  have hz := hb1.size
  go_wp2_with fail
  refine (drawB_s g A n c 0 _ hs1 (by omega)).mono ?_
  rintro e w2 ⟨v, m, zs, rfl, hm, hd, hs2, hk⟩
  have hlt1 := hs1.lt
  have HD := Lib.hid hd
  clear hd
  go_wp2_with fail
  refine (one_s g A n c _ 8 _ hs2 (by omega)).mono ?_
  rintro e w3 ⟨y, rfl, hs3, hk3⟩
  have hlt3 := hs3.lt
  rcases y with _ | _
  · go_wp2_with fail
    refine (pick_s g A n c _ 120 _ hs3 (by omega)).mono ?_
    rintro e w4 ⟨x, rfl, hx0, hx1, hs4, hk4⟩
    have hx2 : x < 120 := by omega
    clear hx1
    have HO := Lib.hid (own_but (own_but HD.out.own hk3 hlt1) hk4 hlt1)
    go_wp2
    go_ret2
    exact ⟨_, m, zs, 100 * x, rfl, hm, by omega, by omega, DrawnB.less ⟨HO.out, HD.out.wf⟩ hz, hb1.trans (((hk.trans hk3).trans hk4).below hg hz)⟩
  · go_wp2_with fail
    refine (among_s g A n c _ w3.heap.size 5 [-1, 0, 1000000, 1000001, -9223372036854775808] _ (hs3.on (balloc (Below.refl _ _) _) hlt3) (by omega) (Blk.new _ _ _) (by omega) rfl (by omega) (by omega)).mono ?_
    rintro e w4 ⟨x, rfl, hx, hs4, hk4⟩
    simp only [List.mem_cons, List.not_mem_nil, or_false] at hx
    have hx0 : -9223372036854775808 ≤ x := by omega
    have hx1 : x ≤ 1000001 := by omega
    clear hx
    have HO := Lib.hid (own_but (World.ownsRow.alloc (own_but HD.out.own hk3 hlt1) (.cells (iv [-1, 0, 1000000, 1000001, -9223372036854775808]).toArray 2)) hk4 hlt1)
    go_wp2
    go_ret2
    exact ⟨_, m, zs, x, rfl, hm, hx0, hx1, DrawnB.less ⟨HO.out, HD.out.wf⟩ hz, hb1.trans ((((hk.trans hk3).alloc _).trans hk4).below hg hz)⟩
theorem draw_cart (A : Option Addr) (n c : Nat) (w : World) (h : Octets w w.heap.size A n) :
    Calls Tryz.prog 11 #[.slice A n c] w fun e w' => ∃ (v : Value) (m : Nat) (zs : List Int) (x : Int), e = .returned (.tuple #[v, .int .i64 x]) ∧ m ≤ 31 ∧ -9223372036854775808 ≤ x ∧ x ≤ 1000001 ∧ DrawnB w' w.heap.size v m zs ∧ Below w.heap.size w w' := by
  go_enter Tryz.func11, Tryz.ntmps11
  go_wp2_with fail
  refine (need_s A n c w h).mono ?_
  rintro e w1 ⟨v, m, zs, x, rfl, hm, hx0, hx1, hd, hb1⟩
  have HD := Lib.hid hd
  clear hd
  go_wp2
  go_ret2
  exact ⟨v, m, zs, x, rfl, hm, hx0, hx1, HD.out, hb1⟩
theorem draw_few (A : Option Addr) (n c : Nat) (w : World) (h : Octets w w.heap.size A n) :
    Calls Tryz.prog 14 #[.slice A n c] w fun e w' => ∃ (v : Value) (m : Nat) (zs : List Int) (x : Int), e = .returned (.tuple #[v, .int .i64 x]) ∧ m ≤ 31 ∧ -9223372036854775808 ≤ x ∧ x ≤ 1000001 ∧ DrawnB w' w.heap.size v m zs ∧ Below w.heap.size w w' := by
  go_enter Tryz.func14, Tryz.ntmps14
  go_wp2_with fail
  refine (need_s A n c w h).mono ?_
  rintro e w1 ⟨v, m, zs, x, rfl, hm, hx0, hx1, hd, hb1⟩
  have HD := Lib.hid hd
  clear hd
  go_wp2
  go_ret2
  exact ⟨v, m, zs, x, rfl, hm, hx0, hx1, HD.out, hb1⟩
set_option maxRecDepth 100000 in
theorem DrawBunchText_s (A : Option Addr) (n c : Nat) (w : World) (h : Octets w w.heap.size A n) :
    Calls Tryz.prog 18 #[.slice A n c] w fun e w' => ∃ x y z : Int, e = .returned (.agg #[.int .i64 x, .int .i64 y, .int .i64 z]) ∧ Below w.heap.size w w' := by
  have hR := Blk.new w 40 #[.int .i64 0, .int .i64 0, .int .i64 0]
  have bR := balloc (Below.refl w.heap.size w) (.cells #[.int .i64 0, .int .i64 0, .int .i64 0] 40)
  have hoc := (h.below bR (Nat.le_refl _)).more bR.size
  go_enter Tryz.func18, Tryz.ntmps18
  go_wp2_with fail
  refine (from_s A n c _ hoc).mono ?_
  rintro e w1 ⟨g, rfl, hg, hs1, hb1⟩
  have hz := hb1.size
  simp only [World.size_alloc] at hg hz
  have hR1 := hR.on hb1
  have HB1 := Lib.hid (btrans bR hb1)
  go_wp2_with fail
  refine (newB_s g A n c _ _ hs1 (by omega)).mono ?_
  rintro e w2 ⟨x, y, z, rfl, hbd, hs2, hk2⟩
  have hlt2 := hs2.lt
  have hR2 := hR1.but hk2 (by omega)
  have hz2 := hk2.size
  have bX := balloc (Below.refl w2.heap.size w2) (.cells #[.int .i64 x, .int .i64 y, .int .i64 z] 40)
  have hX : Blk (w2.alloc (.cells #[.int .i64 x, .int .i64 y, .int .i64 z] 40)) w2.heap.size 40 (iv [x, y, z]).toArray := Blk.new w2 _ _
  have HX := Lib.hid hX
  clear hX hR hR1 hbd
  go_wp2_with fail
  refine (one_s g A n c _ 4 _ (hs2.on bX hlt2) (by omega)).mono ?_
  rintro e w3 ⟨q, rfl, hs3, hk3⟩
  have hlt3 := hs3.lt
  have hz3 := hk3.size
  simp only [World.size_alloc] at hz3
  have hX3 := HX.out.but hk3 (by omega)
  have hR3 := (hR2.alloc (.cells #[.int .i64 x, .int .i64 y, .int .i64 z] 40)).but hk3 (by omega)
  have HB3 : Hid (Below w.heap.size w w3) := HB1.out.trans (((hk2.alloc _).trans hk3).below (by omega) (by omega))
  have hnw : ¬ w.heap.size = w2.heap.size := by omega
  rcases q with _ | _
  · skip
    have X := (show Blk w3 w2.heap.size 40 #[.int .i64 x, .int .i64 y, .int .i64 z] from hX3)
    have Xl := X.lt
    have Xc0 := X.cell 0
    have Xf0 := X.frozen 0
    have Xc1 := X.cell 1
    have Xf1 := X.frozen 1
    have Xc2 := X.cell 2
    have Xf2 := X.frozen 2
    simp at Xc0 Xc1 Xc2
    have XH := Lib.hid X
    clear X
    have R := hR3
    have Rl := R.lt
    have Rc0 := R.cell 0
    have Rf0 := R.frozen 0
    have Rc1 := R.cell 1
    have Rf1 := R.frozen 1
    have Rc2 := R.cell 2
    have Rf2 := R.frozen 2
    simp at Rc0 Rc1 Rc2
    have RH := Lib.hid R
    clear R
    clear hR2 hR3 hX3
    go_wp2_with fail
    refine bodyPost_ret (v := .agg #[.int .i64 x, .int .i64 y, .int .i64 z]) (by simp [results, Tryz.results18, go_sem, Rc0, Rc1, Rc2]) rfl ⟨x, y, z, rfl, ?_⟩
    exact ((HB3.out.setCell (p := ⟨w.heap.size, 0, none⟩) (Nat.le_refl _) _).setCell (p := ⟨w.heap.size, 1, none⟩) (Nat.le_refl _) _).setCell (p := ⟨w.heap.size, 2, none⟩) (Nat.le_refl _) _
  · have hown := Blk.own (base := w2.heap.size) (n := 1) (size := 3) hX3 (Nat.le_refl _) (by simp [maxLen]) rfl
    go_wp2_with fail
    refine (spoil_s g A n c _ w2.heap.size 1 1 w2.heap.size [x, y, z] w3 hs3 (by omega) hlt2 hown (by omega)).mono ?_
    rintro e w4 ⟨i, u, w5, rfl, hi, hu0, hu1, hk5, hs5, rfl⟩
    have hX5 := (hX3.but hk5 (by omega)).set_ i (.int .i64 u)
    have hR5 := (hR3.but hk5 (by omega)).far (p := ⟨w2.heap.size, i, none⟩) (by show w.heap.size ≠ w2.heap.size; omega) (.int .i64 u)
    have hz5 := hk5.size
    have hlt5 := hs3.lt
    have HB5 : Hid (Below w.heap.size w (w5.setCell ⟨w2.heap.size, i, none⟩ (.int .i64 u))) := (HB3.out.trans (hk5.below (by omega) (by omega))).setCell (p := ⟨w2.heap.size, i, none⟩) (by show w.heap.size ≤ w2.heap.size; omega) _
    obtain ⟨x', y', z', hxyz⟩ : ∃ x' y' z', [x, y, z].set i u = [x', y', z'] := by
      rcases (by omega : i = 0 ∨ i = 1 ∨ i = 2) with rfl | rfl | rfl <;> exact ⟨_, _, _, rfl⟩
    have hX6 : Blk (w5.setCell ⟨w2.heap.size, i, none⟩ (.int .i64 u)) w2.heap.size 40 #[.int .i64 x', .int .i64 y', .int .i64 z'] := by
      have e : ((iv [x, y, z]).toArray.setIfInBounds i (.int .i64 u)) = (iv ([x, y, z].set i u)).toArray := by
        rw [List.setIfInBounds_toArray]; unfold iv; rw [List.map_set]
      rw [e, hxyz] at hX5
      exact hX5
    obtain ⟨W, hW⟩ : ∃ W, W = w5.setCell ⟨w2.heap.size, i, none⟩ (.int .i64 u) := ⟨_, rfl⟩
    rw [← hW] at hX6 hR5 HB5 ⊢
    have X := hX6
    have Xl := X.lt
    have Xc0 := X.cell 0
    have Xf0 := X.frozen 0
    have Xc1 := X.cell 1
    have Xf1 := X.frozen 1
    have Xc2 := X.cell 2
    have Xf2 := X.frozen 2
    simp at Xc0 Xc1 Xc2
    have XH := Lib.hid X
    clear X
    have R := hR5
    have Rl := R.lt
    have Rc0 := R.cell 0
    have Rf0 := R.frozen 0
    have Rc1 := R.cell 1
    have Rf1 := R.frozen 1
    have Rc2 := R.cell 2
    have Rf2 := R.frozen 2
    simp at Rc0 Rc1 Rc2
    have RH := Lib.hid R
    clear R
    clear hW hX5 hR2 hR3 hX3 hown hs5 hk5 hxyz hi
    go_wp2_with fail
    refine bodyPost_ret (v := .agg #[.int .i64 x', .int .i64 y', .int .i64 z']) (by simp [results, Tryz.results18, go_sem, Rc0, Rc1, Rc2]) rfl ⟨x', y', z', rfl, ?_⟩
    exact ((HB5.out.setCell (p := ⟨w.heap.size, 0, none⟩) (Nat.le_refl _) _).setCell (p := ⟨w.heap.size, 1, none⟩) (Nat.le_refl _) _).setCell (p := ⟨w.heap.size, 2, none⟩) (Nat.le_refl _) _
end Go.Proofs.YtgcpobondcnjcaaGreatDoor
namespace Go.Proofs.YtgcpobondcnjcaaGreatDoor
open Go.ChangeShapes Go.WideShapes Go.ChangeAt Go.RowKit Go.Deep
set_option linter.unusedVariables false

theorem but_cellB {g : Nat} {w w' : World} {p : Addr} {x : Value} (h0 : w.cell? p = some x) (hk : But g w w') (hp : p.block < w.heap.size) (hpg : p.block ≠ g) : w'.cell? p = some x := by
  have hb := hk.block p.block hp hpg
  rw [← h0]
  unfold World.cell?
  rw [hb]
theorem wrap_bdB (z : Int) : -9223372036854775808 ≤ IntKind.i64.wrap z ∧ IntKind.i64.wrap z ≤ 9223372036854775807 := by
  have := IntWalk.i64_left z
  have h2 : IntKind.i64.wrap z = wrap64 z := this
  rw [h2]; unfold wrap64; omega
set_option maxRecDepth 100000 in
theorem append_drawn {w : World} {ops : Array Oper} {rest : List Oper} {o : Oper} {a : Act} {Q : Exit → Act → World → Prop} (hgd : o.guard = none) (s x : Operand)
    (ho : o.op = .call { callee := .builtin .append, args := #[s, x], argTypes := #[27, 27] })
    (base : Nat) (v : Value) (n : Nat) (zs : List Int) (hs : a.eval s = v) (hown : w.ownsRow base 40 3 v n (iv zs)) (b' : Nat) (u : Value) (m : Nat) (us : List Int) (hx : a.eval x = u) (hu : w.ownsRow b' 40 3 u m (iv us))
    (hn : n ≤ 1048576) (hm : m ≤ 1048576) (hbase : base ≤ w.heap.size)
    (h : ∀ v' w', w'.ownsRow base 40 3 v' (n + m) (iv (zs ++ us)) → w.grownBy w' v.ownBlock → wpList Tryz.prog ops Q rest (a.put o.dst v') w') : wpList Tryz.prog ops Q (o :: rest) a w := by
  have hl : us.length = m * 3 := by have := hu.1; rwa [iv_length] at this
  rcases hu.2 with ⟨hv, h0⟩ | ⟨g, cap, cur, hv, _⟩
  · subst h0
    obtain rfl : us = [] := List.eq_nil_of_length_eq_zero (by omega)
    have hinfo : (Tryz.prog.info? 40).map (fun i => (i.zero, i.size, i.bytes)) = some (some (.agg #[.int .i64 0, .int .i64 0, .int .i64 0]), 3, 24) := by kernel_rfl
    obtain ⟨i0, hi, hz0, hz1, hz2⟩ := info_parts hinfo
    refine wpList_append_own_none hgd s x 27 ho base 40 i0 3 Tryz.underlying27 hi v n (iv zs) hs hown (hx.trans hv) ?_
    exact h v w (by rw [List.append_nil]; exact hown) (World.grownBy.refl _ _)
  · subst hv
    have HU : Own3 w b' (.slice (some ⟨g, 0, none⟩) m cap) m us := hu
    refine append_bns hgd s x ho base v n zs hs hown us ⟨g, 0, none⟩ m cap hx hl (fun j hj => ?_) hn hm hbase h
    rw [add_zero_addr]; exact own3_at HU hj

set_option maxRecDepth 100000 in
set_option maxHeartbeats 4000000 in
theorem DrawSameBunches_s (A : Option Addr) (n c : Nat) (w : World) (h : Octets w w.heap.size A n) :
    Calls Tryz.prog 17 #[.slice A n c] w fun e w' => ∃ (v : Value) (m : Nat) (zs : List Int) (v' : Value) (m' : Nat) (ys : List Int), e = .returned (.tuple #[v, v']) ∧ m ≤ 31 ∧ m' ≤ 32 ∧ DrawnB w' w.heap.size v m zs ∧ DrawnB w' w.heap.size v' m' ys ∧ Below w.heap.size w w' := by
  go_enter Tryz.func17, Tryz.ntmps17
  go_wp2_with fail
  refine (from_s A n c w h).mono ?_
  rintro e w1 ⟨g, rfl, hg, hs1, hb1⟩
  have hz := hb1.size
  have hlt1 := hs1.lt
  go_wp2_with fail
  refine (drawB_s g A n c 0 _ hs1 (by omega)).mono ?_
  rintro e w2 ⟨v, m, zs, rfl, hm, hd, hs2, hk2⟩
  have hlt2 := hs2.lt
  have hz2 := hk2.size
  have HWz := Lib.hid hd.wf
  have HOD := Lib.hid hd.own
  have hlen : zs.length = m * 3 := by have := hd.own.1; rwa [iv_length] at this
  have HLN := Lib.hid hlen
  have HB2 : Hid (Below w.heap.size w w2) := hb1.trans (hk2.below hg hz)
  have HS2 := Lib.hid hs2
  clear hd hlen hs2 hk2 hb1
  go_wp2_with (at_builtin; refine append_drawn rfl (.tmp 11) (.tmp 12) rfl w2.heap.size _ 0 [] rfl (Own3.empty w2 (Nat.le_refl _)) w1.heap.size v m zs rfl (World.ownsRow.alloc HOD.out _) (by omega) (by omega) (by simp) ?_; intro v6 w6 hown6 hgr6; refine Hid.out ?_)
  have hk6 : But g w2 w6 := ((But.refl g w2).alloc _).grown hgr6 (fun k hk => by have e : some w2.heap.size = some k := hk; injection e with e; omega)
  have hb6 : Below w2.heap.size w2 w6 := below_grown (balloc (Below.refl _ w2) _) hgr6 (fun k hk => by have e : some w2.heap.size = some k := hk; injection e with e; omega)
  have HOb : Hid (Own3 w6 w2.heap.size v6 m zs) := by have := hown6; rw [Nat.zero_add, List.nil_append] at this; exact this
  have HOa := Lib.hid (own_but HOD.out hk6 hlt1)
  have HK6 := Lib.hid hk6
  have hs6 := HS2.out.on hb6 hlt2
  have HB6 : Hid (Below w.heap.size w w6) := HB2.out.trans (hb6.mono (by omega))
  have hz6 := hk6.size
  have hlt6 := hs6.lt
  obtain ⟨A6, cap6, rfl, -, -⟩ := HOb.out.ints HWz.out
  clear hown6 hgr6 hk6 hb6
  refine Lib.hid ?_
  by_cases hm0 : m = 0
  · subst hm0
    go_wp2_with fail
    refine (one_s g A n c _ 5 _ hs6 (by omega)).mono ?_
    rintro e w9 ⟨r, rfl, hs9, hk9⟩
    have HA9 := Lib.hid (own_but HOa.out hk9 hlt1)
    have HB9 := Lib.hid (own_but HOb.out hk9 hlt2)
    have HX9 : Hid (Below w.heap.size w w9) := HB6.out.trans (hk9.below hg (by omega))
    have hz9 := hk9.size
    rcases r with _ | _
    · go_wp2
      go_ret2
      exact ⟨v, 0, zs, _, 0, zs, rfl, by omega, by omega, DrawnB.less ⟨HA9.out, HWz.out⟩ hz, DrawnB.less ⟨HB9.out, HWz.out⟩ (by omega), HX9.out⟩
    · go_wp2_with (at_builtin; go_loud (refine append_bunch rfl (.tmp 32) (.tmp 34) rfl w2.heap.size _ 0 zs rfl (World.ownsRow.alloc HB9.out _) [0, 0, 0] rfl _ rfl (Blk.new _ _ _) (by omega) (by simp; omega) ?_); intro v10 w10 hown10 hgr10)
      go_ret2
      have hne := own3_ne HOD.out (Nat.le_refl _) HB9.out
      have HA10 := World.ownsRow.kept (World.ownsRow.alloc HA9.out _) hgr10 hne
      refine ⟨v, 0, zs, v10, 0 + 1, zs ++ [0, 0, 0], rfl, by omega, by omega, DrawnB.less ⟨HA10, HWz.out⟩ hz, DrawnB.less ⟨hown10, fun z hz => ?_⟩ (by omega), ?_⟩
      · rcases List.mem_append.1 hz with h1 | h1
        · exact HWz.out z h1
        · simp at h1; omega
      · exact below_grown (HX9.out.alloc (by omega) _) hgr10 (fun k hk => by have := (World.ownsRow.lt HB9.out k hk).1; omega)
  · have hmp : (0 : Int) < (m : Int) := by omega
    have hmp2 : 0 < m := by omega
    have hdp : decide (0 < m) = true := by simpa using hmp2
    clear hm0
    obtain ⟨q, cq, e6⟩ := own3_form HOb.out hmp2
    simp only [Value.slice.injEq, true_and] at e6
    obtain ⟨rfl, rfl⟩ := e6
    have hq := HOb.out.lt q rfl
    go_wp2_with fail
    refine (one_s g A n c _ 2 w6 hs6 (by omega)).mono ?_
    rintro e w7 ⟨y, rfl, hs7, hk7⟩
    have hlt7 := hs7.lt
    have hz7 := hk7.size
    have HOa7 := Lib.hid (own_but HOa.out hk7 hlt1)
    have HOb7 : Hid (Own3 w7 w2.heap.size (.slice (some ⟨q, 0, none⟩) m cap6) m zs) := own_but HOb.out hk7 hlt2
    have HB7 : Hid (Below w.heap.size w w7) := HB6.out.trans (hk7.below hg (by omega))
    rcases y with _ | _
    · skip
      go_wp2_with fail
      refine (one_s g A n c _ 5 _ hs7 (by omega)).mono ?_
      rintro e w9 ⟨r, rfl, hs9, hk9⟩
      have HA9 := Lib.hid (own_but HOa7.out hk9 hlt1)
      have HB9 := Lib.hid (own_but HOb7.out hk9 hlt2)
      have HX9 : Hid (Below w.heap.size w w9) := HB7.out.trans (hk9.below hg (by omega))
      have hz9 := hk9.size
      rcases r with _ | _
      · go_wp2
        go_ret2
        exact ⟨v, m, zs, _, m, zs, rfl, by omega, by omega, DrawnB.less ⟨HA9.out, HWz.out⟩ hz, DrawnB.less ⟨HB9.out, HWz.out⟩ (by omega), HX9.out⟩
      · go_wp2_with (at_builtin; go_loud (refine append_bunch rfl (.tmp 32) (.tmp 34) rfl w2.heap.size _ m zs rfl (World.ownsRow.alloc HB9.out _) [0, 0, 0] rfl _ rfl (Blk.new _ _ _) (by omega) (by simp; omega) ?_); intro v10 w10 hown10 hgr10)
        go_ret2
        have hne := own3_ne HOD.out (Nat.le_refl _) HB9.out
        have HA10 := World.ownsRow.kept (World.ownsRow.alloc HA9.out _) hgr10 hne
        refine ⟨v, m, zs, v10, m + 1, zs ++ [0, 0, 0], rfl, by omega, by omega, DrawnB.less ⟨HA10, HWz.out⟩ hz, DrawnB.less ⟨hown10, fun z hz => ?_⟩ (by omega), ?_⟩
        · rcases List.mem_append.1 hz with h1 | h1
          · exact HWz.out z h1
          · simp at h1; omega
        · exact below_grown (HX9.out.alloc (by omega) _) hgr10 (fun k hk => by have := (World.ownsRow.lt HB9.out k hk).1; omega)
    · have d2 : w7.cell? ⟨q, 2, none⟩ = some (.int .i64 (gi zs 2)) := own3_at HOb7.out (by omega)
      have HF := Lib.hid (own_frozen HOb7.out 2)
      have HS7 := Lib.hid hs7
      have hqg : q ≠ g := by omega
      have hq7 : q < w7.heap.size := by omega
      clear hs7
      obtain ⟨u0, hu0⟩ : ∃ u, gi zs 2 = u := ⟨_, rfl⟩
      rw [hu0] at d2
      clear hu0
      go_wp2_with fail
      go_region_with ((go_at_call 29; refine (pick_s g A n c _ 2 _ (by first | exact HS7.out | exact HS7.out.on (B := w7.heap.size) (bdrewN (Below.refl _ _) 1) hlt7) (by omega)).mono ?_; rintro e w8 ⟨x, rfl, hx0, hx1, hs8, hk8⟩; have HK8 := Lib.hid (show But g w7 w8 by first | exact hk8 | exact ((But.refl g _).drewN 1).trans hk8); have f8 := own_frozen (own_but HOb7.out HK8.out hlt2) 2; have d8 := but_cellB d2 HK8.out hq7 hqg; have HS8 := Lib.hid hs8; clear hs8 hk8))
      all_goals
        have hz8 := HK8.out.size
        have hu1 := wrap_bdB (u0 + x)
        generalize IntKind.i64.wrap (u0 + x) = u1 at *
        have HWY := Lib.hid (setB_mem (i := 2) HWz.out hu1)
        have HOb8 : Hid (Own3 (w8.setCell ⟨q, 2, none⟩ (.int .i64 u1)) w2.heap.size (.slice (some ⟨q, 0, none⟩) m cap6) m (zs.set 2 u1)) := own_set (own_but HOb7.out HK8.out hlt2) 2 u1 (by have := HLN.out; omega)
        have HOa8 := Lib.hid (own_but HOD.out (((HK6.out.trans hk7).trans HK8.out).far (p := ⟨q, 2, none⟩) hq.1 (.int .i64 u1)) hlt1)
        have HB8 : Hid (Below w.heap.size w (w8.setCell ⟨q, 2, none⟩ (.int .i64 u1))) := (HB7.out.trans (HK8.out.below hg (by omega))).setCell (p := ⟨q, 2, none⟩) (by show w.heap.size ≤ q; omega) _
        have hs8 := HS8.out.on ((Below.refl w2.heap.size w8).setCell (p := ⟨q, 2, none⟩) hq.1 (.int .i64 u1)) hlt2
        have hzW : (w8.setCell ⟨q, 2, none⟩ (.int .i64 u1)).heap.size = w8.heap.size := size_setCell _ _ _
        generalize w8.setCell ⟨q, 2, none⟩ (.int .i64 u1) = W8 at *
        clear f8 d8 d2 hu1 HF
        go_wp2_with fail
        refine (one_s g A n c _ 5 _ hs8 (by omega)).mono ?_
        rintro e w9 ⟨r, rfl, hs9, hk9⟩
        have HA9 := Lib.hid (own_but HOa8.out hk9 hlt1)
        have HB9 := Lib.hid (own_but HOb8.out hk9 hlt2)
        have HX9 : Hid (Below w.heap.size w w9) := HB8.out.trans (hk9.below hg (by omega))
        have hz9 := hk9.size
        rcases r with _ | _
        · go_wp2
          go_ret2
          exact ⟨v, m, zs, _, m, (zs.set 2 u1), rfl, by omega, by omega, DrawnB.less ⟨HA9.out, HWz.out⟩ hz, DrawnB.less ⟨HB9.out, HWY.out⟩ (by omega), HX9.out⟩
        · go_wp2_with (at_builtin; go_loud (refine append_bunch rfl (.tmp 32) (.tmp 34) rfl w2.heap.size _ m (zs.set 2 u1) rfl (World.ownsRow.alloc HB9.out _) [0, 0, 0] rfl _ rfl (Blk.new _ _ _) (by omega) (by simp; omega) ?_); intro v10 w10 hown10 hgr10)
          go_ret2
          have hne := own3_ne HOD.out (Nat.le_refl _) HB9.out
          have HA10 := World.ownsRow.kept (World.ownsRow.alloc HA9.out _) hgr10 hne
          refine ⟨v, m, zs, v10, m + 1, (zs.set 2 u1) ++ [0, 0, 0], rfl, by omega, by omega, DrawnB.less ⟨HA10, HWz.out⟩ hz, DrawnB.less ⟨hown10, fun z hz => ?_⟩ (by omega), ?_⟩
          · rcases List.mem_append.1 hz with h1 | h1
            · exact HWY.out z h1
            · simp at h1; omega
          · exact below_grown (HX9.out.alloc (by omega) _) hgr10 (fun k hk => by have := (World.ownsRow.lt HB9.out k hk).1; omega)
end Go.Proofs.YtgcpobondcnjcaaGreatDoor
