/-
  Proved: the program's LooseStakes returns what the reference's returns, for all arguments, leaves its arguments as they were, and its result is memory of its own.
  No conditions of ours; the card's listed variables are tied to the program's text by the given tie.
-/
import Derived.Test.YtmooijlocjgoeaaDoorSound
import Derived.Test.YtmooijlocjgoeaaDoorCards
import Derived.Test.YtmooijlocjgoeaaDoorTie
import Derived.OpenShut
import Derived.ChangeOld
import Derived.Deep.DeepHandedRow
import Derived.Lib.LaidTab
namespace Go.Proofs.YtmooijlocjgoeaaDoor.fnExactLooseStakes
open Go.ChangeShapes Go.WideShapes Go.ChangeAt Go.RowKit
open Go.ChangeMaps (open_string shut_string)
set_option linter.unusedVariables false

set_option maxRecDepth 100000 in
set_option maxHeartbeats 4000000 in
theorem walk (s : ByteArray) (hs : s.size ≤ maxLen) (n : Int) (wn : (Lit.int .i64 n).wf = true) (w : World) :
    Calls Tryd.prog 8 #[.string s, .int .i64 n] w fun e w' => e = .returned (.bool true) ∧ Below w.heap.size w w' := by
  have hs' := hs
  unfold maxLen at hs'
  by_cases hbig : 1048576 < s.size
  · go_enter Tryd.func8, Tryd.ntmps8
    go_wp2
    go_ret
    exact ⟨rfl, Below.refl _ _⟩
  · obtain ⟨hbl, hbz⟩ := lsV_bd s n
    have HBZ := Lib.hid hbz
    clear hbz
    go_enter Tryd.func8, Tryd.ntmps8
    go_wp2_with fail
    refine (loose_s s n hs _).mono ?_
    rintro e w2 ⟨v2, rfl, o2, c2⟩
    obtain ⟨A2, cap2, rfl, i2, -⟩ := o2.ints HBZ.out
    go_wp2_with fail
    refine (loose_i s n hs _).mono ?_
    rintro e w4 ⟨v4, rfl, o4, b4⟩
    have c4 := btrans c2 b4
    obtain ⟨A4, cap4, rfl, i4, -⟩ := o4.ints HBZ.out
    have p4 := o2.on b4
    obtain ⟨A2', cap2', e2', j4, -⟩ := p4.ints HBZ.out
    simp only [Value.slice.injEq, true_and] at e2'
    obtain ⟨rfl, rfl⟩ := e2'
    go_wp2_with fail
    refine (eqInt64S_c _ _ _ _ _ (lsV s n) _ i4 j4 hbl).mono ?_
    rintro e w5 ⟨rfl, b5⟩
    have c5 := btrans c4 b5
    have hlen := hbl
    have s3 : w2.heap.size ≤ w4.heap.size := b4.size
    go_wp2_with fail
    refine (markInt64S_c _ (lsV s n).length (lsV s n) 1 _ w2.heap.size (o4.on b5) hbl (by omega) (by omega)).mono ?_
    rintro e w10 ⟨rfl, q10, g10⟩
    have c10 := below_grown c5 g10 (fun g hg => by have := (o4.lt g hg).1; have := c2.size; omega)
    have p10 := (p4.on b5).kept g10 (own_ne o2 (Nat.le_refl _) o4)
    have q10' : Own w10 w2.heap.size (.slice A4 (lsV s n).length cap4) (mkL 1 (lsV s n).length) := by unfold Own; rw [mkL_length]; exact q10
    obtain ⟨A4', cap4', e4', i10, -⟩ := q10'.ints (mkL_bd _ (by omega))
    rw [mkL_length] at e4' i10
    simp only [Value.slice.injEq, true_and] at e4'
    obtain ⟨rfl, rfl⟩ := e4'
    go_wp2_with fail
    refine (heldInt64S_c _ _ _ _ i10 (by omega)).mono ?_
    rintro e w11 ⟨rfl, b11⟩
    have c11 := btrans c10 b11
    have q11 := q10'.on b11
    have p11 := p10.on b11
    go_wp2_with fail
    refine (loose_i s n hs _).mono ?_
    rintro e w13 ⟨v13, rfl, o13, b13⟩
    have c13 := btrans c11 b13
    obtain ⟨A13, cap13, rfl, i13, -⟩ := o13.ints HBZ.out
    have p13 := p11.on b13
    have q13 := q11.on b13
    obtain ⟨A2', cap2', e2', j13, -⟩ := p13.ints HBZ.out
    simp only [Value.slice.injEq, true_and] at e2'
    obtain ⟨rfl, rfl⟩ := e2'
    go_wp2_with fail
    refine (eqInt64S_c _ _ _ _ _ (lsV s n) _ i13 j13 hbl).mono ?_
    rintro e w14 ⟨rfl, b14⟩
    have c14 := btrans c13 b14
    have q14 := q13.on b14
    obtain ⟨A4', cap4', e4', i14, -⟩ := q14.ints (mkL_bd _ (by omega))
    rw [mkL_length] at e4' i14
    simp only [Value.slice.injEq, true_and] at e4'
    obtain ⟨rfl, rfl⟩ := e4'
    go_wp2_with fail
    refine (heldInt64S_c _ _ _ _ i14 (by omega)).mono ?_
    rintro e w15 ⟨rfl, b15⟩
    go_wp2
    go_ret
    exact ⟨rfl, btrans c14 b15⟩

theorem own : ownKnob Tryd.prog.godebug = none := by kernel_rfl
theorem laidOut : laidOutB Tryd.prog = true := by kernel_rfl

/-- A block with other cells. -/
def layAt (cs : List Value) : Obj → Obj
  | .cells _ t frozen => .cells cs.toArray t frozen
  | o => o
/-- The listed variables hold what their initialisers lay. -/
noncomputable def laidHeap (h : Array Obj) : Array Obj :=
  ((h.modify 1 (layAt ((([128, 191, 160, 191, 128, 159, 144, 191, 128, 143] ++ List.replicate 22 0) : List Int).map (Value.int .u8)))).modify 0 (layAt (Go.Pinned.utf8FirstZ.map fun (z : Nat) => Value.int .u8 (z : Int))))
/-- A world for the witness. -/
noncomputable def laidWorld (os : Os) : World := { World.holding Tryd.prog os ⟨#[], #[], []⟩ with heap := laidHeap (World.holding Tryd.prog os ⟨#[], #[], []⟩).heap }
set_option maxRecDepth 100000 in
theorem laid_met (os : Os) : laidMet Tryd.prog Rows.fnExactLooseStakesRow.laid ((laidWorld os).forCall (fun _ _ => 0) ⟨#[], #[.string ByteArray.empty, .int .i64 0], []⟩).memory :=
  laidMet_of_run' 8 (by kernel_rfl) (by kernel_rfl)
set_option maxRecDepth 100000 in
theorem reads (os : Os) {H : Type} (enc : TypeId × Value → H) : ∃ places, DataW.whole enc Tryd.prog ((laidWorld os).forCall (fun _ _ => 0) ⟨#[], #[.string ByteArray.empty, .int .i64 0], []⟩).memory Tryd.f8.params.toList Rows.fnExactLooseStakesSpec.vars false (#[.string ByteArray.empty, .int .i64 0] : Array Value).toList 8 = some ([.lit (.string []), .lit (.int .i64 0)], [], places) :=
  ⟨[], by kernel_rfl⟩

set_option maxRecDepth 100000 in
/-- What the walk gives, for all arguments and every world. -/
theorem contract (H : Type) (enc : TypeId × Value → H) (W : World) (base : Nat) (args : Array Value) (ds gs : List (DataW H)) (before : List MemPlace)
    (hval : ∀ (j : Nat) t v, Tryd.f8.params[j]? = some t → args[j]? = some v → Value.okWide Tryd.prog W .any base t v)
    (hW : DataW.Whole enc Tryd.prog Tryd.f8.params.toList Rows.fnExactLooseStakesSpec.vars false W args.toList ds gs before) (hL : laidMetH Tryd.prog Rows.fnExactLooseStakesRow.laid W) (hS : W.ShapedOpen Tryd.prog) :
    Calls Tryd.prog 8 args W fun e W' => ∃ v, e = .returned v ∧ Rows.fnExactLooseStakesSpec.post enc Tryd.prog Tryd.f8 false true false false W args v W' := by
  have hW' := hW
  obtain ⟨p, q, hA0, hV, rfl, hfz, hnd⟩ := hW
  have hA : DataW.TrodAll enc Tryd.prog W 0 (fun _ => true) true Tryd.f8.params.toList args.toList ds p := hA0
  rw [Tryd.params8] at hA hval
  obtain ⟨v0, vs0, d0, ds0, p0, q0, hargs, rfl, rfl, h0, r0⟩ := trodAll_cons hA
  obtain ⟨v1, vs1, d1, ds1, p1, q1, rfl, rfl, rfl, h1, r1⟩ := trodAll_cons r0
  obtain ⟨rfl, rfl, rfl⟩ := trodAll_nil r1
  obtain rfl : args = #[v0, v1] := by cases args; simp_all
  obtain ⟨rfl, rfl⟩ := trodVars_none hV
  have k0 := h0
  have lt0 : ∀ x ∈ p0, x.block < W.heap.size := by obtain ⟨m, hm⟩ := k0; exact DataW.trod_lt m _ _ _ hm
  have k1 := h1
  have lt1 : ∀ x ∈ p1, x.block < W.heap.size := by obtain ⟨m, hm⟩ := k1; exact DataW.trod_lt m _ _ _ hm
  obtain ⟨a0, rfl, rfl, rfl, w0⟩ := open_string Tryd.underlying9 (hval 0 9 v0 rfl rfl) h0
  obtain ⟨a1, rfl, rfl, rfl, w1⟩ := open_int Tryd.underlying2 (hval 1 2 v1 rfl rfl) h1
  clear hA0
  refine (walk (w := W) a0 w0 a1 w1).mono fun e W' ⟨he, bel⟩ => ?_
  subst he
  exact ⟨_, rfl, _, _, _, [], _, [], hW', trodAll_mk1 (shut_bool Tryd.underlying4 _), (trodAll_cons_mk (Below.trod laidOut (by kernel_rfl) (of_decide_eq_true (by kernel_rfl)) k0 bel lt0) (trodAll_cons_mk (Below.trod laidOut (by kernel_rfl) (of_decide_eq_true (by kernel_rfl)) k1 bel lt1) trodAll_mk0)), rfl, bel.frame _, fun h => by cases h⟩

set_option maxRecDepth 100000 in
theorem lifted (os : Os) (started : os.Started) (H : Type) (enc : TypeId × Value → H) (F : Stop.Interp) :
    ReturnsInHanded {} Tryd.checked os 8 .any ((OpenSpec.ofChange Rows.fnExactLooseStakesSpec).preRow enc Tryd.prog Tryd.f8 Rows.fnExactLooseStakesRow.domain false Rows.fnExactLooseStakesRow.laid) (((OpenSpec.ofChange Rows.fnExactLooseStakesSpec).at F).post enc Tryd.prog Tryd.f8 false true false false) := by
  obtain ⟨places, hx⟩ := reads os enc
  refine returnsInHanded_of_row (C := Tryd.checked) (s := OpenSpec.ofChange Rows.fnExactLooseStakesSpec) own started (by kernel_rfl) Tryd.func8
    (witness_row_at (enc := enc) (C := Tryd.checked) false (laidWorld os) #[.string ByteArray.empty, .int .i64 0] rfl (by kernel_rfl) (by kernel_rfl) (by kernel_rfl)
      (OpenSpec.preRow_of_cond 8 hx (by kernel_rfl) (fun k hk => by cases hk) (by kernel_rfl) (laid_met os))) ?_
  intro W base args ds gs before hval hW _ _ _ hL hS _
  exact contract H enc W base args ds gs before hval hW hL hS

theorem said : Rows.FnExactLooseStakesSaid :=
  OpenClaim.holds_of_cond 8 Tryd.f8 rfl rfl rfl rfl rfl rfl rfl ⟨rfl, rfl, rfl, rfl, rfl⟩ rfl rfl rfl rfl rfl (by kernel_rfl) Tryd.func8 (by kernel_rfl)
    (of_decide_eq_true (by kernel_rfl)) (by unfold Func.isWrapper; first | (rw [if_pos (by decide +kernel)]; kernel_rfl) | (rw [if_neg (by decide +kernel)]; exact ⟨rfl, rfl⟩))
    (fun os started H enc _ F => by rw [OpenClaim.pre_eq_preRow]; exact lifted os started H enc F)

theorem plain (f : FuncId) (fn : Func) (hf : Tryd.pinned.checked.prog.funcNamed "loop.example/g01064/laws.FnExactLooseStakes" = some f) (hfn : Tryd.pinned.checked.prog.funcs[f]? = some fn) :
    false = Tryd.pinned.checked.prog.looks [] ∧ ∀ (j : Nat) t, fn.params[j]? = some t → Tryd.pinned.checked.prog.wantsStandIn t = false := by
  obtain rfl : f = 8 := Option.some.inj ((show Tryd.prog.funcNamed "loop.example/g01064/laws.FnExactLooseStakes" = some 8 by kernel_rfl).symm.trans hf) |>.symm
  obtain rfl : fn = Tryd.f8 := (Option.some.inj (Tryd.func8.symm.trans hfn)).symm
  refine ⟨by kernel_rfl, fun j t ht => ?_⟩
  rw [Tryd.params8] at ht
  have ht := Array.mem_of_getElem? ht
  simp only [Array.mem_def, List.mem_cons, List.not_mem_nil, or_false] at ht
  have hall : t = 9 ∨ t = 2 := by omega
  rcases hall with rfl | rfl
  · exact (show Tryd.prog.wantsStandIn 9 = false by kernel_rfl)
  · exact (show Tryd.prog.wantsStandIn 2 = false by kernel_rfl)

/-- The card. -/
theorem proved : Rows.FnExactLooseStakesCardSaid :=
  Claim7.holds_tied_plain_at .later [] _ _ _ _ said (fun _ h => by cases h) (by kernel_rfl) (fun _ h => by cases h) fnExactLooseStakes_row_tie rfl ⟨rfl, rfl⟩ (by kernel_rfl) rfl plain (by kernel_rfl)
#print axioms proved

end Go.Proofs.YtmooijlocjgoeaaDoor.fnExactLooseStakes
