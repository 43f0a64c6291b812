/-
  Proved: the program's SplitWords returns what the reference's returns, for all arguments, and its result is memory of its own.
  No conditions of ours; the card's listed variables are tied to the program's text by the given tie.
-/
import Derived.Test.YtlnlohopgnocaaaDoorWords
import Derived.Test.YtlnlohopgnocaaaDoorOpen
import Derived.Test.YtlnlohopgnocaaaDoorCards
import Derived.Test.YtlnlohopgnocaaaDoorTie
import Derived.Deep.DeepHandedRow
import Derived.Lib.LaidTab
import Derived.Stop.LaidErr
namespace Go.Proofs.YtlnlohopgnocaaaDoor.fnExactSplitWords
open Go.ChangeShapes Go.WideShapes Go.ChangeAt Go.RowKit Go.Deep
open Go.ChangeMaps (open_string shut_string)
set_option linter.unusedVariables false

theorem row_ne {w2 w4 : World} {b2 b4 : Nat} {v2 v4 : Value} {K n m : Nat} {e f : TypeId} {X Y : List Value} (h2 : w2.ownsRow b2 e K v2 n X) (hb : w2.heap.size ≤ b4) (h4 : w4.ownsRow b4 f K v4 m Y) : v2.ownBlock = none ∨ v2.ownBlock ≠ v4.ownBlock := by
  rcases hv : v2.ownBlock with _ | k
  · exact .inl rfl
  · refine .inr fun he => ?_
    have a1 := (World.ownsRow.lt h2 k hv).2
    have a2 := (World.ownsRow.lt h4 k he.symm).1
    omega
set_option maxRecDepth 100000 in
set_option maxHeartbeats 4000000 in
theorem walk {w : World} (hsh : w.ShapedOpen Tryd.prog) (s : ByteArray) (hs : s.size ≤ maxLen) :
    Calls Tryd.prog 6 #[.string s] w fun e w' => e = .returned (.bool true) ∧ Below w.heap.size w w' := by
  have hs' := hs
  unfold maxLen at hs'
  have HSH := Lib.hid hsh
  clear hsh
  by_cases hbig : 1048576 < s.size
  · go_enter Tryd.func6, Tryd.ntmps6
    go_wp2
    go_ret
    exact ⟨rfl, Below.refl _ _⟩
  · have hln := swL_len s
    have hlen : (swL s).length ≤ 4194304 := by omega
    go_enter Tryd.func6, Tryd.ntmps6
    go_wp2_with fail
    refine (words_s s _ HSH.out (by omega)).mono ?_
    rintro e w2 ⟨v2, rfl, o2, c2⟩
    go_wp2_with fail
    refine (words_i s _ (shaped_on HSH.out c2) (by omega)).mono ?_
    rintro e w4 ⟨v4, rfl, o4, b4⟩
    have c4 := btrans c2 b4
    obtain ⟨A2, cap2, rfl, -⟩ := o2.form
    obtain ⟨A4, cap4, rfl, -⟩ := o4.form
    have p4 := o2.on b4
    go_wp2_with fail
    refine (eqStringS_c _ _ _ _ (swL s) _ _ _ o4 p4 hlen).mono ?_
    rintro e w5 ⟨rfl, b5⟩
    have c5 := btrans c4 b5
    have s4 := b4.size
    go_wp2_with fail
    refine (markStringS_c _ _ (swL s) w2.heap.size _ (o4.on b5) (Nat.le_trans s4 b5.size) hlen).mono ?_
    rintro e w10 ⟨rfl, q10, g10⟩
    have c10 := below_grown c5 g10 (fun g hg => by have := (o4.lt g hg).1; have := c2.size; omega)
    have p10 := (p4.on b5).kept g10 (row_ne o2 (Nat.le_refl _) o4)
    go_wp2_with fail
    refine (heldStringS_c _ _ _ _ _ q10 hlen).mono ?_
    rintro e w11 ⟨rfl, b11⟩
    have c11 := btrans c10 b11
    have q11 : w11.ownsRow w2.heap.size 9 1 (.slice A4 (swL s).length cap4) (swL s).length (sv (mkS (swL s).length)) := World.ownsRow.kept (row := none) q10 ⟨b11.os, b11.tape, b11.output, b11.size, fun i hi _ => b11.block i hi⟩ (by cases A4 <;> simp [Value.ownBlock])
    have p11 := p10.on b11
    go_wp2_with fail
    refine (words_i s _ (shaped_on HSH.out c11) (by omega)).mono ?_
    rintro e w13 ⟨v13, rfl, o13, b13⟩
    have c13 := btrans c11 b13
    obtain ⟨A13, cap13, rfl, -⟩ := o13.form
    have p13 := p11.on b13
    go_wp2_with fail
    refine (eqStringS_c _ _ _ _ (swL s) _ _ _ o13 p13 hlen).mono ?_
    rintro e w14 ⟨rfl, b14⟩
    have c14 := btrans c13 b14
    have q14 : w14.ownsRow w2.heap.size 9 1 (.slice A4 (swL s).length cap4) (swL s).length (sv (mkS (swL s).length)) := World.ownsRow.kept (row := none) q11 ⟨(btrans b13 b14).os, (btrans b13 b14).tape, (btrans b13 b14).output, (btrans b13 b14).size, fun i hi _ => (btrans b13 b14).block i hi⟩ (by cases A4 <;> simp [Value.ownBlock])
    go_wp2_with fail
    refine (heldStringS_c _ _ _ _ _ q14 hlen).mono ?_
    rintro e w15 ⟨rfl, b15⟩
    go_wp2
    go_ret
    exact ⟨rfl, btrans c14 b15⟩

theorem own : ownKnob Tryd.prog.godebug = none := by kernel_rfl
theorem laidOut : laidOutB Tryd.prog = true := by kernel_rfl

/-- A block with other cells. -/
def layAt (cs : List Value) : Obj → Obj
  | .cells _ t frozen => .cells cs.toArray t frozen
  | o => o
/-- The listed variables hold what their initialisers lay. -/
noncomputable def laidHeap (h : Array Obj) : Array Obj :=
  ((h.modify 5 (layAt ((([128, 191, 160, 191, 128, 159, 144, 191, 128, 143] ++ List.replicate 22 0) : List Int).map (Value.int .u8)))).modify 4 (layAt (Go.Pinned.utf8FirstZ.map fun (z : Nat) => Value.int .u8 (z : Int))))
/-- A world for the witness. -/
noncomputable def laidWorld (os : Os) : World := { World.holding Tryd.prog os ⟨#[], #[], []⟩ with heap := laidHeap (World.holding Tryd.prog os ⟨#[], #[], []⟩).heap }
set_option maxRecDepth 100000 in
theorem laid_met (os : Os) : laidMet Tryd.prog Rows.fnExactSplitWordsRow.laid ((laidWorld os).forCall (fun _ _ => 0) ⟨#[], #[.string ByteArray.empty], []⟩).memory :=
  laidMet_of_run' 8 (by kernel_rfl) (by kernel_rfl)
set_option maxRecDepth 100000 in
theorem reads (os : Os) {H : Type} (enc : TypeId × Value → H) : ∃ places, DataW.whole enc Tryd.prog ((laidWorld os).forCall (fun _ _ => 0) ⟨#[], #[.string ByteArray.empty], []⟩).memory Tryd.f6.params.toList Rows.fnExactSplitWordsSpec.vars false (#[.string ByteArray.empty] : Array Value).toList 8 = some ([.lit (.string [])], [], places) :=
  ⟨[], by kernel_rfl⟩

set_option maxRecDepth 100000 in
/-- What the walk gives, for all arguments and every world. -/
theorem contract (H : Type) (enc : TypeId × Value → H) (W : World) (base : Nat) (args : Array Value) (ds gs : List (DataW H)) (before : List MemPlace)
    (hval : ∀ (j : Nat) t v, Tryd.f6.params[j]? = some t → args[j]? = some v → Value.okWide Tryd.prog W .any base t v)
    (hW : DataW.Whole enc Tryd.prog Tryd.f6.params.toList Rows.fnExactSplitWordsSpec.vars false W args.toList ds gs before) (hL : laidMetH Tryd.prog Rows.fnExactSplitWordsRow.laid W) (hS : W.ShapedOpen Tryd.prog) :
    Calls Tryd.prog 6 args W fun e W' => ∃ v, e = .returned v ∧ Rows.fnExactSplitWordsSpec.post enc Tryd.prog Tryd.f6 false true false false W args v W' := by
  have hW' := hW
  obtain ⟨p, q, hA0, hV, rfl, hfz, hnd⟩ := hW
  have hA : DataW.TrodAll enc Tryd.prog W 0 (fun _ => true) true Tryd.f6.params.toList args.toList ds p := hA0
  rw [Tryd.params6] at hA hval
  obtain ⟨v0, vs0, d0, ds0, p0, q0, hargs, rfl, rfl, h0, r0⟩ := trodAll_cons hA
  obtain ⟨rfl, rfl, rfl⟩ := trodAll_nil r0
  obtain rfl : args = #[v0] := by cases args; simp_all
  obtain ⟨rfl, rfl⟩ := trodVars_none hV
  have k0 := h0
  have lt0 : ∀ x ∈ p0, x.block < W.heap.size := by obtain ⟨m, hm⟩ := k0; exact DataW.trod_lt m _ _ _ hm
  obtain ⟨a0, rfl, rfl, rfl, w0⟩ := open_string Tryd.underlying9 (hval 0 9 v0 rfl rfl) h0
  clear hA0
  refine (walk (w := W) hS a0 w0).mono fun e W' ⟨he, bel⟩ => ?_
  subst he
  exact ⟨_, rfl, _, _, _, [], _, [], hW', trodAll_mk1 (shut_bool Tryd.underlying4 _), (trodAll_cons_mk (Below.trod laidOut (by kernel_rfl) (of_decide_eq_true (by kernel_rfl)) k0 bel lt0) trodAll_mk0), rfl, bel.frame _, fun h => by cases h⟩

set_option maxRecDepth 100000 in
theorem lifted (os : Os) (started : os.Started) (H : Type) (enc : TypeId × Value → H) (F : Stop.Interp) :
    ReturnsInHanded {} Tryd.checked os 6 .any ((OpenSpec.ofChange Rows.fnExactSplitWordsSpec).preRow enc Tryd.prog Tryd.f6 Rows.fnExactSplitWordsRow.domain false Rows.fnExactSplitWordsRow.laid) (((OpenSpec.ofChange Rows.fnExactSplitWordsSpec).at F).post enc Tryd.prog Tryd.f6 false true false false) := by
  obtain ⟨places, hx⟩ := reads os enc
  refine returnsInHanded_of_row (C := Tryd.checked) (s := OpenSpec.ofChange Rows.fnExactSplitWordsSpec) own started (by kernel_rfl) Tryd.func6
    (witness_row_at (enc := enc) (C := Tryd.checked) false (laidWorld os) #[.string ByteArray.empty] rfl (by kernel_rfl) (by kernel_rfl) (by kernel_rfl)
      (OpenSpec.preRow_of_cond 8 hx (by kernel_rfl) (fun k hk => by cases hk) (by kernel_rfl) (laid_met os))) ?_
  intro W base args ds gs before hval hW _ _ _ hL hS _
  exact contract H enc W base args ds gs before hval hW hL hS

theorem said : Rows.FnExactSplitWordsSaid :=
  OpenClaim.holds_of_cond 6 Tryd.f6 rfl rfl rfl rfl rfl rfl rfl ⟨rfl, rfl, rfl, rfl, rfl⟩ rfl rfl rfl rfl rfl (by kernel_rfl) Tryd.func6 (by kernel_rfl)
    (of_decide_eq_true (by kernel_rfl)) (by unfold Func.isWrapper; first | (rw [if_pos (by decide +kernel)]; kernel_rfl) | (rw [if_neg (by decide +kernel)]; exact ⟨rfl, rfl⟩))
    (fun os started H enc _ F => by rw [OpenClaim.pre_eq_preRow]; exact lifted os started H enc F)

theorem plain (f : FuncId) (fn : Func) (hf : Tryd.pinned.checked.prog.funcNamed "loop.example/g01064/laws.FnExactSplitWords" = some f) (hfn : Tryd.pinned.checked.prog.funcs[f]? = some fn) :
    false = Tryd.pinned.checked.prog.looks [] ∧ ∀ (j : Nat) t, fn.params[j]? = some t → Tryd.pinned.checked.prog.wantsStandIn t = false := by
  obtain rfl : f = 6 := Option.some.inj ((show Tryd.prog.funcNamed "loop.example/g01064/laws.FnExactSplitWords" = some 6 by kernel_rfl).symm.trans hf) |>.symm
  obtain rfl : fn = Tryd.f6 := (Option.some.inj (Tryd.func6.symm.trans hfn)).symm
  refine ⟨by kernel_rfl, fun j t ht => ?_⟩
  rw [Tryd.params6] at ht
  have ht := Array.mem_of_getElem? ht
  simp only [Array.mem_def, List.mem_cons, List.not_mem_nil, or_false] at ht
  have hall : t = 9 := by simpa using ht
  rcases hall with rfl
  · exact (show Tryd.prog.wantsStandIn 9 = false by kernel_rfl)

/-- The card. -/
theorem proved : Rows.FnExactSplitWordsCardSaid :=
  Claim7.holds_tied_plain_at .later [] _ _ _ _ said (fun _ h => by cases h) (by kernel_rfl) (fun _ h => by cases h) fnExactSplitWords_row_tie rfl ⟨rfl, rfl⟩ (by kernel_rfl) rfl plain (by kernel_rfl)
#print axioms proved

end Go.Proofs.YtlnlohopgnocaaaDoor.fnExactSplitWords
