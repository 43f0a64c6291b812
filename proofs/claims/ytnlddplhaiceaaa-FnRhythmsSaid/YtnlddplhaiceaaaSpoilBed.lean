/-
  Beds drawn: a bed that is changed so that it is mostly not valid; a drawn bed, drawn beds.
  No conditions.
-/
import Derived.Test.YtnlddplhaiceaaaDrawBed
namespace Go.Proofs.Ytnlddplhaiceaaa
open Go.ChangeShapes Go.WideShapes Go.ChangeAt Go.RowKit Go.Deep
set_option linter.unusedVariables false

theorem but_cell {g : Nat} {w w' : World} {p : Addr} {u : Value} (hc : w.cell? p = some u) (hk : But g w w') (hp : p.block < w.heap.size) (hne : p.block ≠ g) : w'.cell? p = some u := (World.cell?_of_block (hk.block p.block hp hne)).trans hc
theorem but_frozen {g : Nat} {w w' : World} {p : Addr} {b : Bool} (hc : w.frozen? p = b) (hk : But g w w') (hp : p.block < w.heap.size) (hne : p.block ≠ g) : w'.frozen? p = b := (World.frozen?_of_block (hk.block p.block hp hne)).trans hc
theorem keep3b {g : Nat} {w w' : World} {p q : Addr} {x y : Value} (h0 : w.cell? p = some x) (h1 : w.cell? q = some y) (h2 : w.frozen? q = false) (hp : p.block < w.heap.size) (hq : q.block < w.heap.size) (hpg : p.block ≠ g) (hqg : q.block ≠ g) (hk : But g w w') :
    w'.cell? p = some x ∧ w'.cell? q = some y ∧ w'.frozen? q = false := ⟨but_cell h0 hk hp hpg, but_cell h1 hk hq hqg, but_frozen h2 hk hq hqg⟩
theorem far_cell {W : World} {p r : Addr} {x : Value} (h : W.cell? p = some x) (hne : p.block ≠ r.block) (v : Value) : (W.setCell r v).cell? p = some x := (World.cell?_setCell_other _ _ _ _ (fun e => hne (by rw [e]))).trans h
theorem off_cell {W : World} {b o r : Nat} {x : Value} (h : W.cell? ⟨b, o, none⟩ = some x) (hne : o ≠ r) (v : Value) : (W.setCell ⟨b, r, none⟩ v).cell? ⟨b, o, none⟩ = some x := (World.cell?_setCell_other _ _ _ _ (fun e => by simp only [Addr.mk.injEq] at e; omega)).trans h
theorem mk_ints (n : Nat) (hn : n = 0 ∨ n = 5 ∨ n = 6) (w : World) : (Instr.makeSlice 30 (.int .i64 (n : Int)) (.int .i64 (n : Int))).run Try.prog w = .ok (.slice (some ⟨w.heap.size, 0, none⟩) n n) (w.alloc (.cells (iv (List.replicate n 0)).toArray 2)) := by
  have hinfo : (Try.prog.info? 2).map (fun i => (i.zero, i.size, i.bytes)) = some (some (.int .i64 0), 1, 8) := by kernel_rfl
  obtain ⟨i, hi, h0, h1, h2⟩ := info_parts hinfo
  have hr := run_make (P := Try.prog) w 30 2 i (.int .i64 0) Try.underlying30 hi h0 .i64 .i64 n n (by omega) (Int.le_refl _) (by rw [h2]; omega) (by omega)
  simp only [Int.toNat_natCast] at hr
  have e : madeCells (Value.int .i64 0).cells (n * 1) = (iv (List.replicate n 0)).toArray := by
    apply Array.ext'
    rw [Nat.mul_one]
    show (madeCells #[Value.int .i64 0] n).toList = _
    rw [toList_madeCells_one]
    simp [iv]
  rw [hr, h1, e]

/-- What spoiling does. -/
def Spoiled (g : Nat) (A : Option Addr) (n c K : Nat) (q o γ l : Nat) (w w' : World) : Prop := ∃ w1, But g w w1 ∧ Src w1 g A n c (K + 4) ∧
  ((∃ u : Int, -9223372036854775808 ≤ u ∧ u ≤ 9223372036854775807 ∧ w' = w1.setCell ⟨γ, 0, none⟩ (.int .i64 u)) ∨ (∃ u : Int, -1 ≤ u ∧ u ≤ l + 1 ∧ w' = w1.setCell ⟨q, o + 1, none⟩ (.int .i64 u)) ∨
   (∃ γ' m' : Nat, m' ≤ 6 ∧ w.heap.size ≤ γ' ∧ Own w1 w.heap.size (.slice (some ⟨γ', 0, none⟩) m' m') (List.replicate m' 0) ∧ w' = w1.setCell ⟨q, o, none⟩ (.slice (some ⟨γ', 0, none⟩) m' m')))
set_option maxRecDepth 100000 in
set_option maxHeartbeats 4000000 in
theorem spoil_s (g : Nat) (A : Option Addr) (n c K : Nat) (q o γ l cc : Nat) (a u0 : Int) (w : World) (h : Src w g A n c K) (hK : K ≤ 800000) (x0 : w.cell? ⟨q, o, none⟩ = some (.slice (some ⟨γ, 0, none⟩) l cc)) (x1 : w.cell? ⟨q, o + 1, none⟩ = some (.int .i64 a))
    (f0 : w.frozen? ⟨q, o, none⟩ = false) (f1 : w.frozen? ⟨q, o + 1, none⟩ = false) (y0 : w.cell? ⟨γ, 0, none⟩ = some (.int .i64 u0)) (fy : w.frozen? ⟨γ, 0, none⟩ = false) (hq : q < w.heap.size) (hγ : γ < w.heap.size) (hqg : q ≠ g) (hγg : γ ≠ g) (hγq : γ ≠ q) (hl : 1 ≤ l) (hl2 : l ≤ 1000) :
    Calls Try.prog 91 #[.pointer (some ⟨g, 0, none⟩), .pointer (some ⟨q, o, none⟩)] w fun e w' => e = .returned (.tuple #[]) ∧ Spoiled g A n c K q o γ l w w' := by
  have hl' : (1 : Int) ≤ l := by omega
  have hl0 : 0 < l := by omega
  have hl0' : (0 : Int) < (l : Int) := by omega
  go_enter Try.func91, Try.ntmps91
  go_wp2_with fail
  refine (pick_s g A n c K 3 w h (by omega)).mono ?_
  rintro e w1 ⟨x, rfl, hx0, hx1, hs1, hk1⟩
  have hlt := hs1.lt
  have z1 := hk1.size
  have a0 := but_cell x0 hk1 hq hqg
  have a1 := but_cell x1 hk1 hq hqg
  have b0 := but_cell y0 hk1 hγ hγg
  have fa0 := but_frozen f0 hk1 hq hqg
  have fa1 := but_frozen f1 hk1 hq hqg
  have fb0 := but_frozen fy hk1 hγ hγg
  have hq1 : q < w1.heap.size := by omega
  have hγ1 : γ < w1.heap.size := by omega
  have HS1 := Lib.hid hs1
  have HK1 := Lib.hid hk1
  clear x0 x1 y0 f0 f1 fy hs1 hk1
  have hx : x = 0 ∨ x = 1 ∨ x = 2 := by omega
  clear hx0 hx1
  rcases hx with rfl | rfl | rfl
  · go_wp2_with fail
    go_region_held3 (fun w' => w'.cell? ⟨q, o, none⟩ = some (.slice (some ⟨γ, 0, none⟩) l cc)) (first | exact a0 | exact but_cell a0 ((But.refl g _).alloc _) hq1 hqg | exact but_cell a0 (((But.refl g _).alloc _).drewN 1) hq1 hqg | exact but_cell a0 (((But.refl g _).drewN 1).alloc _) hq1 hqg | exact but_cell a0 ((((But.refl g _).alloc _).drewN 1).trans hk2) hq1 hqg | exact far_cell (but_cell a0 ((((But.refl g _).alloc _).drewN 1).trans hk2) hq1 hqg) (by show q ≠ γ; omega) _ | exact far_cell (but_cell a0 ((But.refl g _).alloc _ |>.trans hk2) hq1 hqg) (by show q ≠ γ; omega) _ | exact but_cell a0 ((But.refl g _).alloc _ |>.trans hk2) hq1 hqg | exact but_cell a0 (((But.refl g _).drewN 1).alloc _ |>.trans hk2) hq1 hqg | exact far_cell (but_cell a0 (((But.refl g _).drewN 1).alloc _ |>.trans hk2) hq1 hqg) (by show q ≠ γ; omega) _) ((go_at_call 75; refine (among_s g A n c _ w1.heap.size 5 [-1, 0, 10000, 10001, -9223372036854775808] _ (by first | exact HS1.out.on (balloc (Below.refl _ _) _) hlt | exact HS1.out.on (B := w1.heap.size) (bdrewN (balloc (Below.refl _ _) _) 1) hlt | exact HS1.out.on (B := w1.heap.size) (balloc (bdrewN (Below.refl _ _) 1) _) hlt) (by omega) (by first | exact Blk.new _ _ _ | exact (Blk.new _ _ _).drewN 1 | exact blk_at rfl) (by omega) rfl (by omega) (by omega)).mono ?_; rintro e w2 ⟨x, rfl, hx, hs2, hk2⟩; have b2 := but_cell b0 (But.trans (by first | exact (But.refl g w1).alloc _ | exact ((But.refl g w1).drewN 1).alloc _ | exact ((But.refl g w1).alloc _).drewN 1) hk2) hγ1 hγg; have fb2 := but_frozen fb0 (But.trans (by first | exact (But.refl g w1).alloc _ | exact ((But.refl g w1).drewN 1).alloc _ | exact ((But.refl g w1).alloc _).drewN 1) hk2) hγ1 hγg))
    simp only [List.mem_cons, List.not_mem_nil, or_false] at hx
    have hx2 : -9223372036854775808 ≤ x ∧ x ≤ 9223372036854775807 := by omega
    clear hx
    go_wp2
    go_end0
    exact ⟨rfl, w2, HK1.out.trans ((((But.refl g w1).alloc _).drewN 1).trans hk2), hs2.up (by omega), .inl ⟨x, hx2.1, hx2.2, rfl⟩⟩
  · have HWr : IntKind.i64.wrap ((l : Int) + 1) = (l : Int) + 1 := IntWalk.i64_in _ (by omega)
    go_wp2_with fail
    go_region_held3 (fun w' => w'.cell? ⟨q, o, none⟩ = some (.slice (some ⟨γ, 0, none⟩) l cc)) (first | exact a0 | exact but_cell a0 ((But.refl g _).alloc _) hq1 hqg | exact but_cell a0 (((But.refl g _).alloc _).drewN 1) hq1 hqg | exact but_cell a0 (((But.refl g _).drewN 1).alloc _) hq1 hqg | exact but_cell a0 ((((But.refl g _).alloc _).drewN 1).trans hk2) hq1 hqg | exact off_cell (but_cell a0 ((((But.refl g _).alloc _).drewN 1).trans hk2) hq1 hqg) (by omega) _ | exact but_cell a0 ((((But.refl g _).drewN 1).alloc _).trans hk2) hq1 hqg | exact off_cell (but_cell a0 ((((But.refl g _).drewN 1).alloc _).trans hk2) hq1 hqg) (by omega) _) ((go_at_call 75; refine (among_s g A n c _ w1.heap.size 4 [-1, 0, (l : Int), (l : Int) + 1] _ (by first | exact HS1.out.on (balloc (Below.refl _ _) _) hlt | exact HS1.out.on (B := w1.heap.size) (bdrewN (balloc (Below.refl _ _) _) 1) hlt | exact HS1.out.on (B := w1.heap.size) (balloc (bdrewN (Below.refl _ _) 1) _) hlt) (by omega) (by first | exact Blk.new _ _ _ | exact (Blk.new _ _ _).drewN 1 | exact blk_at rfl) (by omega) rfl (by omega) (by omega)).mono ?_; rintro e w2 ⟨x, rfl, hx, hs2, hk2⟩; have b2 := but_cell a1 (But.trans (by first | exact (But.refl g w1).alloc _ | exact ((But.refl g w1).drewN 1).alloc _ | exact ((But.refl g w1).alloc _).drewN 1) hk2) hq1 hqg; have fb2 := but_frozen fa1 (But.trans (by first | exact (But.refl g w1).alloc _ | exact ((But.refl g w1).drewN 1).alloc _ | exact ((But.refl g w1).alloc _).drewN 1) hk2) hq1 hqg))
    all_goals
      simp only [List.mem_cons, List.not_mem_nil, or_false] at hx
      have hx2 : -1 ≤ x ∧ x ≤ l + 1 := by omega
      clear hx HWr
      go_wp2
      go_end0
      first
      | exact ⟨rfl, w2, HK1.out.trans ((((But.refl g w1).alloc _).drewN 1).trans hk2), hs2.up (by omega), .inr (.inl ⟨x, hx2.1, hx2.2, rfl⟩)⟩
      | exact ⟨rfl, w2, HK1.out.trans ((((But.refl g w1).drewN 1).alloc _).trans hk2), hs2.up (by omega), .inr (.inl ⟨x, hx2.1, hx2.2, rfl⟩)⟩
  · go_wp2_with fail
    refine (among_s g A n c _ w1.heap.size 3 [0, 5, 6] _ (HS1.out.on (balloc (Below.refl _ _) _) hlt) (by omega) (Blk.new _ _ _) (by omega) rfl (by omega) (by omega)).mono ?_
    rintro e w2 ⟨x, rfl, hx, hs2, hk2⟩
    simp only [List.mem_cons, List.not_mem_nil, or_false] at hx
    have b2 := but_cell a0 (((But.refl g w1).alloc _).trans hk2) hq1 hqg
    have fb2 := but_frozen fa0 (((But.refl g w1).alloc _).trans hk2) hq1 hqg
    have hz2 := hk2.size
    simp only [World.size_alloc] at hz2
    have hq2 : q < w2.heap.size := by omega
    rcases hx with rfl | rfl | rfl
    · have hmk : ∀ w, (Instr.makeSlice 30 (.int .i64 0) (.int .i64 0)).run Try.prog w = .ok (.slice (some ⟨w.heap.size, 0, none⟩) 0 0) (w.alloc (.cells (iv (List.replicate 0 0)).toArray 2)) := fun w => mk_ints 0 (.inl rfl) w
      go_wp2
      go_end0
      exact ⟨rfl, w2.alloc (.cells (iv (List.replicate 0 0)).toArray 2), (HK1.out.trans (((But.refl g w1).alloc _).trans hk2)).alloc _, (hs2.on (balloc (Below.refl _ _) _) hs2.lt).up (by omega), .inr (.inr ⟨w2.heap.size, 0, by omega, by omega, (by have := Own.of_blk (base := w.heap.size) (zs := List.replicate 0 0) (Blk.new w2 2 (iv (List.replicate 0 0)).toArray) (by omega) (by simp [maxLen]); simpa using this), (by simp [go_sem, hq2, List.replicate])⟩)⟩
    · have hmk : ∀ w, (Instr.makeSlice 30 (.int .i64 5) (.int .i64 5)).run Try.prog w = .ok (.slice (some ⟨w.heap.size, 0, none⟩) 5 5) (w.alloc (.cells (iv (List.replicate 5 0)).toArray 2)) := fun w => mk_ints 5 (.inr (.inl rfl)) w
      go_wp2
      go_end0
      exact ⟨rfl, w2.alloc (.cells (iv (List.replicate 5 0)).toArray 2), (HK1.out.trans (((But.refl g w1).alloc _).trans hk2)).alloc _, (hs2.on (balloc (Below.refl _ _) _) hs2.lt).up (by omega), .inr (.inr ⟨w2.heap.size, 5, by omega, by omega, (by have := Own.of_blk (base := w.heap.size) (zs := List.replicate 5 0) (Blk.new w2 2 (iv (List.replicate 5 0)).toArray) (by omega) (by simp [maxLen]); simpa using this), (by simp [go_sem, hq2, List.replicate])⟩)⟩
    · have hmk : ∀ w, (Instr.makeSlice 30 (.int .i64 6) (.int .i64 6)).run Try.prog w = .ok (.slice (some ⟨w.heap.size, 0, none⟩) 6 6) (w.alloc (.cells (iv (List.replicate 6 0)).toArray 2)) := fun w => mk_ints 6 (.inr (.inr rfl)) w
      go_wp2
      go_end0
      exact ⟨rfl, w2.alloc (.cells (iv (List.replicate 6 0)).toArray 2), (HK1.out.trans (((But.refl g w1).alloc _).trans hk2)).alloc _, (hs2.on (balloc (Below.refl _ _) _) hs2.lt).up (by omega), .inr (.inr ⟨w2.heap.size, 6, by omega, by omega, (by have := Own.of_blk (base := w.heap.size) (zs := List.replicate 6 0) (Blk.new w2 2 (iv (List.replicate 6 0)).toArray) (by omega) (by simp [maxLen]); simpa using this), (by simp [go_sem, hq2, List.replicate])⟩)⟩
/-- Numbers within the bounds of a word. -/
def Wf (zs : List Int) : Prop := ∀ z ∈ zs, -9223372036854775808 ≤ z ∧ z ≤ 9223372036854775807
theorem wf_set {zs : List Int} {i : Nat} {u : Int} (hz : Wf zs) (hu : -9223372036854775808 ≤ u ∧ u ≤ 9223372036854775807) : Wf (zs.set i u) := by
  intro z h
  rcases List.mem_or_eq_of_mem_set h with h | h
  · exact hz z h
  · subst h; exact hu
theorem wf_rep (m : Nat) : Wf (List.replicate m 0) := by
  intro z h
  have := List.eq_of_mem_replicate h
  omega
theorem own_stored {w : World} {base γ m c : Nat} {zs : List Int} (h : Own w base (.slice (some ⟨γ, 0, none⟩) m c) zs) (hm : zs.length = m) (i : Nat) (u : Int) : Own (w.setCell ⟨γ, i, none⟩ (.int .i64 u)) base (.slice (some ⟨γ, 0, none⟩) m c) (zs.set i u) := by
  unfold Own at h ⊢
  rw [List.length_set]
  rw [hm] at h ⊢
  have := (h.stored i (.int .i64 u)).1
  unfold iv at this ⊢
  rwa [List.map_set]
theorem own_cell0 {w : World} {base γ m c : Nat} {zs : List Int} (h : Own w base (.slice (some ⟨γ, 0, none⟩) m c) zs) (hm : zs.length = m) (h0 : 1 ≤ m) : w.cell? ⟨γ, 0, none⟩ = some (.int .i64 (gi zs 0)) ∧ w.frozen? ⟨γ, 0, none⟩ = false := by
  unfold Own at h
  rw [hm] at h
  refine ⟨?_, World.ownsRow.frozenAt h 0⟩
  rw [World.ownsRow.cellAt h 0 (by omega), iv_get zs 0 (by omega)]
set_option maxRecDepth 100000 in
set_option maxHeartbeats 4000000 in
/-- A drawn bed, seldom not valid. -/
theorem any_s (g : Nat) (A : Option Addr) (n c K : Nat) (w : World) (h : Src w g A n c K) (hK : K ≤ 700000) :
    Calls Try.prog 59 #[.pointer (some ⟨g, 0, none⟩)] w fun e w' => ∃ (zs : List Int) (a : Int) (γ cc : Nat), e = .returned (.agg #[.slice (some ⟨γ, 0, none⟩) zs.length cc, .int .i64 a]) ∧ zs.length ≤ 6 ∧ Wf zs ∧ (-1 ≤ a ∧ a ≤ 7) ∧
      Own w' w.heap.size (.slice (some ⟨γ, 0, none⟩) zs.length cc) zs ∧ Src w' g A n c (K + 30) ∧ But g w w' := by
  have hlt := h.lt
  have b0 := balloc (Below.refl w.heap.size w) (.cells #[.slice none 0 0, .int .i64 0] 41)
  have hs0 := h.on b0 hlt
  have HR0 : Hid (Blk (w.alloc (.cells #[.slice none 0 0, .int .i64 0] 41)) w.heap.size 41 #[.slice none 0 0, .int .i64 0]) := Blk.new _ _ _
  have HK0 := Lib.hid (But.of_below (g := g) b0)
  have hz0 : (w.alloc (.cells #[.slice none 0 0, .int .i64 0] 41)).heap.size = w.heap.size + 1 := by simp
  clear b0
  go_enter Try.func59, Try.ntmps59
  go_wp2_with fail
  generalize w.alloc (.cells #[.slice none 0 0, .int .i64 0] 41) = w0 at *
  refine (newBed_s g A n c K w0 hs0 (by omega)).mono ?_
  rintro e w1 ⟨zs, a, γ, cc, rfl, hl1, hl4, hz, ha0, ha1, ho, hs1, hk1⟩
  obtain ⟨l, hl⟩ : ∃ l, zs.length = l := ⟨_, rfl⟩
  rw [hl] at ho hl1 hl4 ha1 ⊢
  have HL := Lib.hid hl
  have HZ : Hid (Wf zs) := fun z hh => by have := hz z hh; omega
  have HR1 := Lib.hid (HR0.out.but hk1 (by omega))
  have hzz := hk1.size
  clear hl hz hs0
  have HK1 := Lib.hid (HK0.out.trans hk1)
  have hγw := ho.lt γ rfl
  go_wp2_with fail
  have HX2 : Hid (Blk (w1.alloc (.cells #[.slice (some ⟨γ, 0, none⟩) l cc, .int .i64 a] 41)) w1.heap.size 41 #[.slice (some ⟨γ, 0, none⟩) l cc, .int .i64 a]) := Blk.new _ _ _
  have HO2 : Hid (Own (w1.alloc (.cells #[.slice (some ⟨γ, 0, none⟩) l cc, .int .i64 a] 41)) w0.heap.size (.slice (some ⟨γ, 0, none⟩) l cc) zs) := ho.alloc _
  have HR2 := Lib.hid (HR1.out.alloc (.cells #[.slice (some ⟨γ, 0, none⟩) l cc, .int .i64 a] 41))
  have HK2 := Lib.hid (HK1.out.alloc (.cells #[.slice (some ⟨γ, 0, none⟩) l cc, .int .i64 a] 41))
  have hs2 := hs1.on (balloc (Below.refl w1.heap.size w1) (.cells #[.slice (some ⟨γ, 0, none⟩) l cc, .int .i64 a] 41)) hs1.lt
  clear ho hs1 HR1 HK1 hk1 HR0 HK0
  obtain ⟨X, hX⟩ : ∃ X, w1.heap.size = X := ⟨_, rfl⟩
  rw [hX] at HX2 hzz hγw ⊢
  generalize w1.alloc (.cells #[.slice (some ⟨γ, 0, none⟩) l cc, .int .i64 a] 41) = w2 at *
  refine (one_s g A n c _ 10 w2 hs2 (by omega)).mono ?_
  rintro e w3 ⟨x, rfl, hs3, hk3⟩
  have hB3 := HX2.out.but hk3 (by omega)
  have hR3 := HR2.out.but hk3 (by omega)
  have HO3 := Lib.hid (own_but HO2.out hk3 (by omega))
  have HK3 := Lib.hid (HK2.out.trans hk3)
  clear hs2 hk3 HX2 HR2 HO2 HK2
  rcases x with _ | _
  · have hXw : X ≠ w.heap.size := by omega
    have X := hB3
    have Xl := X.lt
    have Xc0 := X.cell 0
    have Xf0 := X.frozen 0
    have Xc1 := X.cell 1
    have Xf1 := X.frozen 1
    simp at Xc0 Xc1
    have XH := Lib.hid X
    clear X
    have R := hR3
    have Rl := R.lt
    have Rc0 := R.cell 0
    have Rf0 := R.frozen 0
    have Rc1 := R.cell 1
    have Rf1 := R.frozen 1
    simp at Rc0 Rc1
    have RH := Lib.hid R
    clear R
    clear hB3 hR3
    go_wp2_with fail
    have hγ2 : γ ≠ w.heap.size := by omega
    refine bodyPost_ret (v := .agg #[.slice (some ⟨γ, 0, none⟩) l cc, .int .i64 a]) (by simp [results, Try.results59, go_sem, Rc0, Rc1]) rfl ⟨zs, a, γ, cc, by rw [HL.out], by rw [HL.out]; omega, HZ.out, by omega, ?_, ?_, ?_⟩
    · rw [HL.out]
      exact own_far (own_far (HO3.out.base_le (by omega)) hγ2 _) hγ2 _
    · exact src_far (src_far (hs3.up (by omega)) (by show g < w.heap.size; omega) _) (by show g < w.heap.size; omega) _
    · exact (HK3.out.far (p := ⟨w.heap.size, 0, none⟩) (Nat.le_refl _) _).far (p := ⟨w.heap.size, 1, none⟩) (Nat.le_refl _) _
  · have x0 := hB3.cell 0
    have x1 := hB3.cell 1
    have f0 := hB3.frozen 0
    have f1 := hB3.frozen 1
    simp only [List.getElem?_toArray, List.getElem?_cons_zero, List.getElem?_cons_succ] at x0 x1
    have hy := own_cell0 HO3.out HL.out hl1
    have hXl := hB3.lt
    have hγl := (HO3.out.lt γ rfl)
    have HX3 := Lib.hid hB3
    have HR3 := Lib.hid hR3
    clear hB3 hR3
    go_wp2_with fail
    refine (spoil_s g A n c _ X 0 γ l cc a (gi zs 0) w3 hs3 (by omega) x0 x1 f0 f1 hy.1 hy.2 hXl hγl.2 (by omega) (by omega) (by omega) hl1 (by omega)).mono ?_
    rintro e w4 ⟨rfl, w5, hk5, hs5, hsp⟩
    have hXb := HX3.out.but hk5 (by omega)
    have hRb := HR3.out.but hk5 (by omega)
    have HO5 := Lib.hid (own_but HO3.out hk5 (by omega))
    have HK5 := Lib.hid (HK3.out.trans hk5)
    have hz5 := hk5.size
    have hγ2 : γ ≠ w.heap.size := by omega
    clear x0 x1 f0 f1 hy hk5 HX3 HR3 HO3 HK3 hs3
    rcases hsp with ⟨u, hu0, hu1, rfl⟩ | ⟨u, hu0, hu1, rfl⟩ | ⟨γ', m', hm6, hγ', ho', rfl⟩
    · have HO6 := Lib.hid (own_stored HO5.out HL.out 0 u)
      have HK6 := Lib.hid (HK5.out.far (p := ⟨γ, 0, none⟩) (by show w.heap.size ≤ γ; omega) (.int .i64 u))
      have HS6 := Lib.hid (src_far hs5 (p := ⟨γ, 0, none⟩) (by show g < γ; omega) (.int .i64 u))
      have hX6 := hXb.far (p := ⟨γ, 0, none⟩) (by show X ≠ γ; omega) (.int .i64 u)
      have hR6 := hRb.far (p := ⟨γ, 0, none⟩) (by show w.heap.size ≠ γ; omega) (.int .i64 u)
      have X := hX6
      have Xl := X.lt
      have Xc0 := X.cell 0
      have Xf0 := X.frozen 0
      have Xc1 := X.cell 1
      have Xf1 := X.frozen 1
      simp at Xc0 Xc1
      have XH := Lib.hid X
      clear X
      have R := hR6
      have Rl := R.lt
      have Rc0 := R.cell 0
      have Rf0 := R.frozen 0
      have Rc1 := R.cell 1
      have Rf1 := R.frozen 1
      simp at Rc0 Rc1
      have RH := Lib.hid R
      clear R
      clear hX6 hR6 hXb hRb hs5 HO5 HK5
      go_wp2_with fail
      refine bodyPost_ret (v := .agg #[.slice (some ⟨γ, 0, none⟩) l cc, .int .i64 a]) (by simp [results, Try.results59, go_sem, Rc0, Rc1]) rfl ⟨zs.set 0 u, a, γ, cc, by rw [List.length_set, HL.out], by rw [List.length_set, HL.out]; omega, wf_set HZ.out ⟨hu0, hu1⟩, by omega, ?_, ?_, ?_⟩
      · rw [List.length_set, HL.out]
        exact own_far (own_far (HO6.out.base_le (by omega)) hγ2 _) hγ2 _
      · exact src_far (src_far (HS6.out.up (by omega)) (by show g < w.heap.size; omega) _) (by show g < w.heap.size; omega) _
      · exact (HK6.out.far (p := ⟨w.heap.size, 0, none⟩) (Nat.le_refl _) _).far (p := ⟨w.heap.size, 1, none⟩) (Nat.le_refl _) _
    · have hX6 := hXb.set_ 1 (.int .i64 u)
      have hR6 := hRb.far (p := ⟨X, 0 + 1, none⟩) (by show w.heap.size ≠ X; omega) (.int .i64 u)
      have HO6 := Lib.hid (own_far (i := 0 + 1) HO5.out (show γ ≠ X by omega) (.int .i64 u))
      have HK6 := Lib.hid (HK5.out.far (p := ⟨X, 0 + 1, none⟩) (by show w.heap.size ≤ X; omega) (.int .i64 u))
      have HS6 := Lib.hid (src_far hs5 (p := ⟨X, 0 + 1, none⟩) (by show g < X; omega) (.int .i64 u))
      rw [Nat.zero_add] at *
      have X := hX6
      have Xl := X.lt
      have Xc0 := X.cell 0
      have Xf0 := X.frozen 0
      have Xc1 := X.cell 1
      have Xf1 := X.frozen 1
      simp at Xc0 Xc1
      have XH := Lib.hid X
      clear X
      have R := hR6
      have Rl := R.lt
      have Rc0 := R.cell 0
      have Rf0 := R.frozen 0
      have Rc1 := R.cell 1
      have Rf1 := R.frozen 1
      simp at Rc0 Rc1
      have RH := Lib.hid R
      clear R
      clear hX6 hR6 hXb hRb hs5 HO5 HK5
      go_wp2_with fail
      refine bodyPost_ret (v := .agg #[.slice (some ⟨γ, 0, none⟩) l cc, .int .i64 u]) (by simp [results, Try.results59, go_sem, Rc0, Rc1]) rfl ⟨zs, u, γ, cc, by rw [HL.out], by rw [HL.out]; omega, HZ.out, by omega, ?_, ?_, ?_⟩
      · rw [HL.out]
        exact own_far (own_far (HO6.out.base_le (by omega)) hγ2 _) hγ2 _
      · exact src_far (src_far (HS6.out.up (by omega)) (by show g < w.heap.size; omega) _) (by show g < w.heap.size; omega) _
      · exact (HK6.out.far (p := ⟨w.heap.size, 0, none⟩) (Nat.le_refl _) _).far (p := ⟨w.heap.size, 1, none⟩) (Nat.le_refl _) _
    · have hX6 := hXb.set_ 0 (.slice (some ⟨γ', 0, none⟩) m' m')
      have hR6 := hRb.far (p := ⟨X, 0, none⟩) (by show w.heap.size ≠ X; omega) (.slice (some ⟨γ', 0, none⟩) m' m')
      have HO6 := Lib.hid (own_far (i := 0) ho' (show γ' ≠ X by omega) (.slice (some ⟨γ', 0, none⟩) m' m'))
      have HK6 := Lib.hid (HK5.out.far (p := ⟨X, 0, none⟩) (by show w.heap.size ≤ X; omega) (.slice (some ⟨γ', 0, none⟩) m' m'))
      have HS6 := Lib.hid (src_far hs5 (p := ⟨X, 0, none⟩) (by show g < X; omega) (.slice (some ⟨γ', 0, none⟩) m' m'))
      have hγ3 : γ' ≠ w.heap.size := by omega
      have X := hX6
      have Xl := X.lt
      have Xc0 := X.cell 0
      have Xf0 := X.frozen 0
      have Xc1 := X.cell 1
      have Xf1 := X.frozen 1
      simp at Xc0 Xc1
      have XH := Lib.hid X
      clear X
      have R := hR6
      have Rl := R.lt
      have Rc0 := R.cell 0
      have Rf0 := R.frozen 0
      have Rc1 := R.cell 1
      have Rf1 := R.frozen 1
      simp at Rc0 Rc1
      have RH := Lib.hid R
      clear R
      clear hX6 hR6 hXb hRb hs5 HO5 HK5 ho'
      go_wp2_with fail
      refine bodyPost_ret (v := .agg #[.slice (some ⟨γ', 0, none⟩) m' m', .int .i64 a]) (by simp [results, Try.results59, go_sem, Rc0, Rc1]) rfl ⟨List.replicate m' 0, a, γ', m', by rw [List.length_replicate], by rw [List.length_replicate]; exact hm6, wf_rep _, by omega, ?_, ?_, ?_⟩
      · rw [List.length_replicate]
        exact own_far (own_far (HO6.out.base_le (by omega)) hγ3 _) hγ3 _
      · exact src_far (src_far (HS6.out.up (by omega)) (by show g < w.heap.size; omega) _) (by show g < w.heap.size; omega) _
      · exact (HK6.out.far (p := ⟨w.heap.size, 0, none⟩) (Nat.le_refl _) _).far (p := ⟨w.heap.size, 1, none⟩) (Nat.le_refl _) _
end Go.Proofs.Ytnlddplhaiceaaa
