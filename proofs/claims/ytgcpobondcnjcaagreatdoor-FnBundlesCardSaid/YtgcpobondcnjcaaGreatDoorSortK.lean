/-
  The stable sort of bundles: elements of three cells; the library's walk of insertionSortCmpFunc at this program.
  No conditions.
-/
import Derived.Test.YtgcpobondcnjcaaGreatDoorSortW
import Derived.Test.YtgcpobondcnjcaaGreatDoorStabP
import Derived.Shelf.SlSortCmp.KitK
namespace Go.Proofs.YtgcpobondcnjcaaGreatDoor
open Go.ChangeShapes Go.WideShapes Go.ChangeAt Go.RowKit Go.Deep Go.Shelf Go.Lib Go.Sort
set_option linter.unusedVariables false

/-- The three cells of element x. -/
def enc3 (cl : Int → Nat → Int) (x : Int) : List Value := [.int .i64 (cl x 0), .int .i64 (cl x 1), .int .i64 (cl x 2)]
theorem enc3_k (cl : Int → Nat → Int) : ∀ x, (enc3 cl x).length = 3 := fun _ => rfl
theorem enc3_1 (cl : Int → Nat → Int) : ∀ x, ∀ v ∈ enc3 cl x, v.oneCell' = true := by
  intro x v hv
  simp only [enc3, List.mem_cons, List.not_mem_nil, or_false] at hv
  rcases hv with rfl | rfl | rfl <;> rfl
def SwB (cl : Int → Nat → Int) (w0 : World) (blk : Nat) (d : Array Int) (W : World) : Prop := SWK (enc3 cl) 3 w0 blk 0 d W
def RowB (cl : Int → Nat → Int) (w0 : World) (blk : Nat) (d : Array Int) : Prop := RowK (enc3 cl) 3 w0 blk 0 d
section
variable {cl : Int → Nat → Int} {w0 W : World} {blk : Nat} {d0 dk : Array Int}
theorem SwB.grown (h : SwB cl w0 blk dk W) (n : Nat) (os : Array Obj) : SwB cl w0 blk dk (grow (W.drewN n) os) := SWK.grown h n os
theorem SwB.start (h : RowB cl w0 blk d0) : SwB cl w0 blk d0 w0 := SWK.start (RowK.hH h)
theorem SwB.at_ (h : SwB cl w0 blk dk W) (R : RowB cl w0 blk d0) (hs : dk.size = d0.size) (i : Nat) (hi : i < dk.size) (c : Nat) (hc : c < 3) :
    W.cell? ⟨blk, i * 3 + c, none⟩ = some (enc3 cl dk[i]!)[c]! ∧ W.frozen? ⟨blk, i * 3 + c, none⟩ = false := by
  have := (SWK.holds h (RowK.hblk R) (RowK.hH R) hs).cell hi hc
  rwa [Nat.zero_add] at this
theorem SwB.c0 (h : SwB cl w0 blk dk W) (R : RowB cl w0 blk d0) (hs : dk.size = d0.size) (i : Nat) (hi : i < dk.size) : W.cell? ⟨blk, i * 3, none⟩ = some (.int .i64 (cl dk[i]! 0)) := (h.at_ R hs i hi 0 (by omega)).1
theorem SwB.c1 (h : SwB cl w0 blk dk W) (R : RowB cl w0 blk d0) (hs : dk.size = d0.size) (i : Nat) (hi : i < dk.size) : W.cell? ⟨blk, i * 3 + 1, none⟩ = some (.int .i64 (cl dk[i]! 1)) := (h.at_ R hs i hi 1 (by omega)).1
theorem SwB.c2 (h : SwB cl w0 blk dk W) (R : RowB cl w0 blk d0) (hs : dk.size = d0.size) (i : Nat) (hi : i < dk.size) : W.cell? ⟨blk, i * 3 + 2, none⟩ = some (.int .i64 (cl dk[i]! 2)) := (h.at_ R hs i hi 2 (by omega)).1
theorem SwB.f0 (h : SwB cl w0 blk dk W) (R : RowB cl w0 blk d0) (hs : dk.size = d0.size) (i : Nat) (hi : i < dk.size) : W.frozen? ⟨blk, i * 3, none⟩ = false := (h.at_ R hs i hi 0 (by omega)).2
theorem SwB.f1 (h : SwB cl w0 blk dk W) (R : RowB cl w0 blk d0) (hs : dk.size = d0.size) (i : Nat) (hi : i < dk.size) : W.frozen? ⟨blk, i * 3 + 1, none⟩ = false := (h.at_ R hs i hi 1 (by omega)).2
theorem SwB.f2 (h : SwB cl w0 blk dk W) (R : RowB cl w0 blk d0) (hs : dk.size = d0.size) (i : Nat) (hi : i < dk.size) : W.frozen? ⟨blk, i * 3 + 2, none⟩ = false := (h.at_ R hs i hi 2 (by omega)).2
theorem SwB.cmp {P : Program} {g : Nat} {cb : Array Value} {cf : Int → Int → Int} {size : Nat} (h : SwB cl w0 blk dk W) (hC : CmpLays P g cb (enc3 cl) 3 cf blk 0 size w0) (hs : dk.size = size) (x y : Int) (n : Nat) (os : Array Obj) :
    Calls P g (#[.agg #[.int .i64 (cl x 0), .int .i64 (cl x 1), .int .i64 (cl x 2)], .agg #[.int .i64 (cl y 0), .int .i64 (cl y 1), .int .i64 (cl y 2)]] ++ cb) (grow (W.drewN n) os) fun e w' => e = .returned (.int .i64 (cf x y)) ∧ ∃ q os', w' = grow ((grow (W.drewN n) os).drewN q) os' :=
  SWK.cmp h hC hs x y n os
/-- The world behind an exchange. -/
def ex3 (W : World) (blk i j : Nat) (a0 a1 a2 b0 b1 b2 : Value) : World :=
  ((((((W.setCell ⟨blk, i * 3, none⟩ a0).setCell ⟨blk, i * 3 + 1, none⟩ a1).setCell ⟨blk, i * 3 + 2, none⟩ a2).setCell ⟨blk, j * 3, none⟩ b0).setCell ⟨blk, j * 3 + 1, none⟩ b1).setCell ⟨blk, j * 3 + 2, none⟩ b2)
theorem drew_set3 (w : World) (a : Addr) (v : Value) : (w.setCell a v).drew = w.drew.setCell a v := rfl
theorem SwB.swapped (h : SwB cl w0 blk dk W) (R : RowB cl w0 blk d0) (i j : Nat) (hi : i < dk.size) (hj : j < dk.size) :
    SwB cl w0 blk (swp dk i j) (ex3 W blk i j (.int .i64 (cl dk[j]! 0)) (.int .i64 (cl dk[j]! 1)) (.int .i64 (cl dk[j]! 2)) (.int .i64 (cl dk[i]! 0)) (.int .i64 (cl dk[i]! 1)) (.int .i64 (cl dk[i]! 2))).drew := by
  have := SWK.swapped h R i j hi hj
  simp only [Nat.zero_add, enc3, World.setCells, Nat.add_assoc, Nat.reduceAdd] at this
  unfold ex3
  simp only [drew_set3]
  exact this
theorem cell_kept {w : World} {a b : Addr} {v : Value} (h : ∃ u, w.cell? b = some u) : ∃ u, (w.setCell a v).cell? b = some u := by
  by_cases e : a = b
  · subst e
    obtain ⟨u, hu⟩ := h
    exact ⟨v, World.cell?_setCell_same _ _ _ hu⟩
  · obtain ⟨u, hu⟩ := h
    exact ⟨u, (World.cell?_setCell_other _ _ _ _ e).trans hu⟩
theorem SwB.kept (h : SwB cl w0 blk dk W) (R : RowB cl w0 blk d0) (hs : dk.size = d0.size) (i j : Nat) (hj : j < dk.size) (a0 a1 a2 : Value) (c : Nat) (hc : c < 3) :
    ∃ u, (((W.setCell ⟨blk, i * 3, none⟩ a0).setCell ⟨blk, i * 3 + 1, none⟩ a1).setCell ⟨blk, i * 3 + 2, none⟩ a2).cell? ⟨blk, j * 3 + c, none⟩ = some u :=
  cell_kept (cell_kept (cell_kept ⟨_, (h.at_ R hs j hj c hc).1⟩))
end

/-- What a merge is told of its world. -/
structure MB (P : Program) (cl : Int → Nat → Int) (w0 : World) (blk : Nat) (d0 : Array Int) (g : Nat) (cb : Array Value) (cf : Int → Int → Int) (f : Int → Int) (D : Nat) : Prop where
  row : RowB cl w0 blk d0
  size : D = d0.size
  small : D ≤ 1000
  cmp : CmpLays P g cb (enc3 cl) 3 cf blk 0 D w0
  sgn : ∀ x y, cf x y < 0 ↔ f y < f x
  eg : ∀ args w, (callFunc g args).run P w = .ok (.enter g args) w
theorem lt_cf {cf : Int → Int → Int} {f : Int → Int} (h : ∀ x y, cf x y < 0 ↔ f y < f x) : ltOf cf = ltF f := by
  funext x y
  show decide (cf x y < 0) = decide (f y - f x < 0)
  have := h x y
  by_cases q : f y < f x
  · rw [decide_eq_true (this.2 q), decide_eq_true (by omega)]
  · rw [decide_eq_false (fun r => q (this.1 r)), decide_eq_false (by omega)]

/-! The library's walk at this program. -/
def insRenB : Go.Shelf.Ren := ⟨fun | 20 => 73 | n => n, fun | 0 => 0 | 3 => 3 | 4 => 4 | 22 => 27 | 24 => 40 | 25 => 58 | n => n, fun n => n⟩
theorem insLaysB : SlLaysF0.n20 Tryz.prog insRenB := {
  mixed := by kernel_rfl
  f20 := ⟨"slices.insertionSortCmpFunc[loop.example/g01064/impl.Bunch]", by decide, Tryz.func73.trans (congrArg some (by kernel_rfl))⟩
  t0 := Tryz.underlying0
  a0 := Tryz.isAgg0
  z0 := Tryz.sizeOf0
  v0 := Tryz.zeroValue0
  t3 := Tryz.underlying3
  a3 := Tryz.isAgg3
  z3 := Tryz.sizeOf3
  v3 := Tryz.zeroValue3
  t4 := Tryz.underlying4
  a4 := Tryz.isAgg4
  z4 := Tryz.sizeOf4
  v4 := Tryz.zeroValue4
  t22 := Tryz.underlying27
  a22 := Tryz.isAgg27
  z22 := Tryz.sizeOf27
  v22 := Tryz.zeroValue27
  t25 := Tryz.underlying58
  a25 := Tryz.isAgg58
  z25 := Tryz.sizeOf58
  v25 := Tryz.zeroValue58
}
theorem insB_c {cl : Int → Nat → Int} {w0 : World} {blk : Nat} {d0 : Array Int} {g D : Nat} {cb : Array Value} {cf : Int → Int → Int} {f : Int → Int} (M : MB Tryz.prog cl w0 blk d0 g cb cf f D) (d : Array Int) (cap a b : Nat) (W : World) (S : SwB cl w0 blk d W) (hD : d.size = D)
    (hab : a ≤ b) (hb : b ≤ D) (hs : (Sort.insertionSort (ltF f) d a b).size = D) :
    Calls Tryz.prog 73 #[.slice (some ⟨blk, 0, none⟩) D cap, .int .i64 (a : Int), .int .i64 (b : Int), .func (.func g) #[] cb] W fun e' w' => e' = .returned (.tuple #[]) ∧ SwB cl w0 blk (Sort.insertionSort (ltF f) d a b) w' := by
  have hsz0 : d.size = d0.size := by rw [hD]; exact M.size
  have hC : CmpLays Tryz.prog g cb (enc3 cl) 3 cf blk 0 d.size W := fun m os dk hdk x y => by
    obtain ⟨n0, os0, rfl⟩ := S
    rw [sortWorldK_on (enc3 cl) 3 w0 blk 0 n0 m d dk os0 os (RowK.hblk M.row) hdk]
    exact M.cmp _ _ dk (by omega) x y
  have hsm := M.small
  have I := AnyQ.insertionSortCmpFunc insLaysB 3 Tryz.isAgg40 Tryz.sizeOf40 (enc3 cl) (enc3_k cl) (enc3_1 cl) cf g cb blk 0 cap a b d W M.eg hC (SWK.holds S (RowK.hblk M.row) (RowK.hH M.row) hsz0) (SWK.lt S (RowK.hblk M.row)) hab (by omega) (by omega)
  rw [lt_cf M.sgn, hD] at I
  refine I.mono ?_
  rintro e' w' ⟨rfl, n, os, rfl⟩
  exact ⟨rfl, SWK.on S (RowK.hblk M.row) n _ os (by omega)⟩
end Go.Proofs.YtgcpobondcnjcaaGreatDoor
