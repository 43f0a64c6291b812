/-
  Slices of texts of the call's own: append of one text; the parts of a text.
  No conditions.
-/
import Derived.Test.YtlnlohopgnocaaaDoorBytes
import Derived.Test.YtlnlohopgnocaaaDoorSplitP
import Derived.Test.YtlnlohopgnocaaaDoorShelf
namespace Go.Proofs.YtlnlohopgnocaaaDoor
open Go.ChangeShapes Go.WideShapes Go.ChangeAt Go.RowKit Go.Deep
set_option linter.unusedVariables false

/-- Texts as values. -/
def sv (l : List ByteArray) : List Value := l.map Value.string
theorem sv_length (l : List ByteArray) : (sv l).length = l.length := by simp [sv]
theorem sv_append (a b : List ByteArray) : sv (a ++ b) = sv a ++ sv b := by simp [sv]
theorem sv_get (l : List ByteArray) (j : Nat) (h : j < l.length) : (sv l)[j]? = some (.string l[j]) := by
  simp [sv, List.getElem?_eq_getElem h]
/-- A slice of the call's own that holds the texts l. -/
def OwnS (w : World) (base : Nat) (v : Value) (l : List ByteArray) : Prop := w.ownsRow base 9 1 v l.length (sv l)
section
variable {w w' : World} {base : Nat} {v : Value} {l : List ByteArray}
theorem OwnS.alloc (h : OwnS w base v l) (o : Obj) : OwnS (w.alloc o) base v l := World.ownsRow.alloc h o
theorem OwnS.drewN (h : OwnS w base v l) (m : Nat) : OwnS (w.drewN m) base v l := h
theorem OwnS.lt (h : OwnS w base v l) : ∀ k, v.ownBlock = some k → base ≤ k ∧ k < w.heap.size := World.ownsRow.lt h
theorem OwnS.below (h : OwnS w base v l) {B : Nat} (hb : Below B w w') (hB : w.heap.size ≤ B) : OwnS w' base v l :=
  World.ownsRow.kept (row := none) h ⟨hb.os, hb.tape, hb.output, hb.size, fun k hk _ => hb.block k (by omega)⟩ (by cases v.ownBlock <;> simp)
theorem OwnS.on (h : OwnS w base v l) (hb : Below w.heap.size w w') : OwnS w' base v l := h.below hb (Nat.le_refl _)
theorem OwnS.kept {row : Option Nat} (h : OwnS w base v l) (hg : w.grownBy w' row) (hne : v.ownBlock = none ∨ v.ownBlock ≠ row) : OwnS w' base v l := World.ownsRow.kept h hg hne
theorem OwnS.base_le {b' : Nat} (h : OwnS w base v l) (hb : b' ≤ base) : OwnS w b' v l := by
  refine ⟨h.1, ?_⟩
  rcases h.2 with h1 | ⟨g, cap, cur, e1, e2, r⟩
  · exact .inl h1
  · exact .inr ⟨g, cap, cur, e1, by omega, r⟩
theorem OwnS.empty (w : World) (hb : base ≤ w.heap.size) : OwnS (w.alloc (.cells #[] 9)) base (.slice (some ⟨w.heap.size, 0, none⟩) 0 0) [] := by
  have := World.ownsRow_lit (base := base) (e := 9) (size := 1) (w := w) #[] 0 hb (by simp [maxLen]) rfl
  exact this
theorem OwnS.of_blk {g : Nat} (h : Blk w g 9 (sv l).toArray) (hb : base ≤ g) (hn : l.length ≤ maxLen) : OwnS w base (.slice (some ⟨g, 0, none⟩) l.length l.length) l :=
  h.own hb hn (by simp [sv_length])
/-- What such a slice is, and what its cells hold. -/
theorem OwnS.form (h : OwnS w base v l) : ∃ A c, v = .slice A l.length c ∧ ∀ j (hj : j < l.length), ∃ g, A = some ⟨g, 0, none⟩ ∧ g < w.heap.size ∧ w.cell? ⟨g, j, none⟩ = some (.string l[j]) := by
  rcases h.2 with ⟨rfl, h0⟩ | ⟨g, cap, cur, rfl, h1⟩
  · exact ⟨none, 0, by rw [h0], fun j hj => absurd hj (by omega)⟩
  · refine ⟨_, cap, rfl, fun j hj => ⟨g, rfl, (h.lt g rfl).2, ?_⟩⟩
    have := h.cells (g := g) rfl j _ (sv_get l j hj)
    have hadd : (⟨g, 0, none⟩ : Addr).add j = ⟨g, j, none⟩ := by unfold Addr.add; split <;> simp_all
    rwa [hadd] at this
end
theorem append_str {w : World} {ops : Array Oper} {rest : List Oper} {o : Oper} {a : Act} {Q : Exit → Act → World → Prop} (hgd : o.guard = none) (s x : Operand)
    (ho : o.op = .call { callee := .builtin .append, args := #[s, x], argTypes := #[33, 33] })
    (base : Nat) (v : Value) (l : List ByteArray) (hs : a.eval s = v) (hown : OwnS w base v l) (u : ByteArray) (g : Nat) (hx : a.eval x = .slice (some ⟨g, 0, none⟩) 1 1) (hg : Blk w g 9 #[.string u])
    (hn : l.length ≤ 4194304) (hbase : base ≤ w.heap.size)
    (h : ∀ v' w', OwnS w' base v' (l ++ [u]) → w.grownBy w' v.ownBlock → wpList Tryd.prog ops Q rest (a.put o.dst v') w') : wpList Tryd.prog ops Q (o :: rest) a w := by
  have hinfo : (Tryd.prog.info? 9).map (fun i => (i.zero, i.size, i.bytes)) = some (some (.string ByteArray.empty), 1, 16) := by kernel_rfl
  obtain ⟨i0, hi, hz0, hz1, hz2⟩ := info_parts hinfo
  refine wpList_append_own w hgd s x 33 ho base 9 i0 (.string ByteArray.empty) 1 16 Tryd.underlying33 hi hz0 hz1 hz2 rfl (by decide) v l.length (sv l) hs hown ⟨g, 0, none⟩ 1 1 [.string u] hx rfl ?_ ?_ ?_ ?_ hbase ?_
  · intro j y hy
    match j, hy with
    | 0, hy =>
      simp at hy; subst hy
      have := hg.cell 0
      simpa [Addr.add] using this
  · intro y hy; simp at hy; subst hy; rfl
  · simp only [maxLen]; omega
  · omega
  · intro v' w' hown' hgr _
    refine h v' w' ?_ hgr
    unfold OwnS
    rw [sv_append, List.length_append]
    exact hown'

/-- As append_str, and where the result lies. -/
theorem append_str2 {w : World} {ops : Array Oper} {rest : List Oper} {o : Oper} {a : Act} {Q : Exit → Act → World → Prop} (hgd : o.guard = none) (s x : Operand)
    (ho : o.op = .call { callee := .builtin .append, args := #[s, x], argTypes := #[33, 33] })
    (base : Nat) (v : Value) (l : List ByteArray) (hs : a.eval s = v) (hown : OwnS w base v l) (u : ByteArray) (g : Nat) (hx : a.eval x = .slice (some ⟨g, 0, none⟩) 1 1) (hg : Blk w g 9 #[.string u])
    (hn : l.length ≤ 4194304) (hbase : base ≤ w.heap.size)
    (h : ∀ v' w', OwnS w' base v' (l ++ [u]) → w.grownBy w' v.ownBlock → (∀ q, v'.ownBlock = some q → v.ownBlock = some q ∨ q = w.heap.size) → wpList Tryd.prog ops Q rest (a.put o.dst v') w') : wpList Tryd.prog ops Q (o :: rest) a w := by
  have hinfo : (Tryd.prog.info? 9).map (fun i => (i.zero, i.size, i.bytes)) = some (some (.string ByteArray.empty), 1, 16) := by kernel_rfl
  obtain ⟨i0, hi, hz0, hz1, hz2⟩ := info_parts hinfo
  refine wpList_append_lies w hgd s x 33 ho base 9 i0 (.string ByteArray.empty) 1 16 Tryd.underlying33 hi hz0 hz1 hz2 rfl (by decide) v l.length (sv l) hs hown ⟨g, 0, none⟩ 1 1 [.string u] hx rfl ?_ ?_ (by omega) ?_ ?_ hbase w.heap.size rfl ?_
  · intro j y hy
    match j, hy with
    | 0, hy =>
      simp at hy; subst hy
      have := hg.cell 0
      simpa [Addr.add] using this
  · intro y hy; simp at hy; subst hy; rfl
  · simp only [maxLen]; omega
  · omega
  · intro g' cap w' hown' hgr hl _
    refine h _ w' ?_ hgr (fun q hq => ?_)
    · unfold OwnS
      rw [sv_append, List.length_append]
      exact hown'
    · have e : g' = q := Option.some.inj hq
      subst e; exact hl

/-- The parts of a text, as texts. -/
def splB (c : UInt8) (s : ByteArray) : List ByteArray := (splF c s.data.toList).map fun l => ⟨l.toArray⟩
theorem splB_len (c : UInt8) (s : ByteArray) : (splB c s).length ≤ s.size + 1 := by
  have := splF_len c s.data.toList
  unfold splB
  rw [List.length_map]
  simpa using this
set_option maxRecDepth 100000 in
set_option maxHeartbeats 4000000 in
theorem l01Split_c (s : ByteArray) (by_ : UInt8) (w : World) (hs : s.size ≤ 2097152) :
    Calls Tryd.prog 38 #[.string s, .int .u8 (by_.toNat : Int)] w fun e w' => ∃ v, e = .returned v ∧ OwnS w' w.heap.size v (splB by_ s) ∧ Below w.heap.size w w' := by
  go_enter Tryd.func38, Tryd.ntmps38
  go_wp2_with fail
  go_loopw [5, 6, 7] (fun o f i wr => ∃ (k q : Nat) (l : List (List UInt8)), k ≤ s.size ∧ q ≤ k ∧ i = .int .i64 k ∧ f = .int .i64 q ∧ OwnS wr w.heap.size o (l.map fun x => ⟨x.toArray⟩) ∧ l.length ≤ k ∧ Hid (Parts by_ s.data.toList l q k) ∧ Below w.heap.size w wr) (fun _ _ i _ => s.size - (intOf i).toNat)
  case atStart => exact ⟨0, 0, [], Nat.zero_le _, Nat.le_refl _, rfl, rfl, OwnS.empty _ (Nat.le_refl _), Nat.le_refl _, Parts.start _ _, balloc (Below.refl _ _) _⟩
  case round =>
    obtain ⟨k, q, l, hk, hq, rfl, rfl, hown, hl, HP, hbel⟩ := hrel
    have hbase := hbel.size
    have hsl : s.data.toList.length = s.size := by simp
    have HSL := Lib.hid hsl
    clear hsl
    have hml : (l.map fun x => (⟨x.toArray⟩ : ByteArray)).length = l.length := List.length_map _
    have HML := Lib.hid hml
    clear hml
    by_cases hlt : k < s.size
    · have hkl : k < s.data.toList.length := by rw [HSL.out]; exact hlt
      have HKL := Lib.hid hkl
      clear hkl
      rcases he : ((s[k].toNat : Int) == (by_.toNat : Int)) with _ | _
      · have HN : Hid (Parts by_ s.data.toList l q (k + 1)) := by
          refine HP.out.miss HKL.out ?_
          intro e
          have h2 : s[k] = by_ := e
          rw [h2] at he; simp at he
        go_wp2_with fail
        go_roundw
        case rel => exact ⟨k + 1, q, l, by omega, by omega, by go_num, rfl, hown, by omega, HN, hbel⟩
        case measure => simp [intOf]; omega
      · have HN : Hid (Parts by_ s.data.toList (l ++ [(s.data.toList.drop q).take (k - q)]) (k + 1) (k + 1)) := by
          refine HP.out.hit HKL.out ?_
          have h2 : (s[k].toNat : Int) = (by_.toNat : Int) := by rw [beq_iff_eq] at he; exact he
          have : s[k].toNat = by_.toNat := by omega
          exact UInt8.toNat_inj.1 this
        have hx : s.extract q k = (⟨((s.data.toList.drop q).take (k - q)).toArray⟩ : ByteArray) := by
          rw [← Lib.mk_data (s.extract q k), Lib.extract_data]
        have HX := Lib.hid hx
        clear hx
        go_wp2_with (at_builtin; refine append_str rfl (.tmp 20) (.tmp 25) rfl w.heap.size _ _ rfl (OwnS.alloc hown _) (s.extract q k) _ rfl (Blk.new _ _ _) (by rw [HML.out]; omega) (by simp; omega) ?_; intro v1 w2 hown1 hgr1)
        go_roundw
        case rel =>
          refine ⟨k + 1, k + 1, l ++ [(s.data.toList.drop q).take (k - q)], by omega, by omega, by go_num, by go_num, ?_, by simp; omega, HN, below_grown (balloc hbel _) hgr1 (fun g hg => (hown.lt g hg).1)⟩
          rw [List.map_append]
          rw [HX.out] at hown1
          exact hown1
        case measure => simp [intOf]; omega
    · obtain rfl : k = s.size := by omega
      have hx : s.extract q s.size = (⟨(s.data.toList.drop q).toArray⟩ : ByteArray) := by
        rw [← Lib.mk_data (s.extract q s.size), Lib.extract_to_end]
      have HX := Lib.hid hx
      clear hx
      go_wp2_with (at_builtin; refine append_str rfl (.tmp 29) (.tmp 33) rfl w.heap.size _ _ rfl (OwnS.alloc hown _) (s.extract q s.size) _ rfl (Blk.new _ _ _) (by rw [HML.out]; omega) (by simp; omega) ?_; intro v1 w2 hown1 hgr1)
      go_ret
      refine ⟨_, rfl, ?_, below_grown (balloc hbel _) hgr1 (fun g hg => (hown.lt g hg).1)⟩
      have hp := HP.out
      rw [← HSL.out] at hp
      unfold splB
      rw [hp.done, List.map_append]
      rw [HX.out] at hown1
      exact hown1
/-- The library's parts. -/
theorem split_lib_c (s : ByteArray) (c : UInt8) (w : World) (h : w.ShapedOpen Tryd.prog) (hs : s.size ≤ 2097152) :
    Calls Tryd.prog 39 #[.string s, .string ⟨#[c]⟩] w fun e w' => ∃ v, e = .returned v ∧ OwnS w' w.heap.size v (splB c s) ∧ Below w.heap.size w w' := by
  refine (Tryd.strings_Split_shaped s ⟨#[c]⟩ w h (by omega) (by show 1 ≤ 1; omega)).mono fun e w' ⟨h1, h2⟩ => ?_
  subst h1 h2
  have e1 : splB c s = Lib.splitB ⟨#[c]⟩ 0 (Lib.countB s ⟨#[c]⟩) s := by
    unfold splB
    rw [← split_lib, List.map_map]
    conv => rhs; rw [← List.map_id (Lib.splitB ⟨#[c]⟩ 0 (Lib.countB s ⟨#[c]⟩) s)]
    apply List.map_congr_left
    intro x _
    exact Lib.mk_data x
  have e2 : (splB c s).length = Lib.countB s ⟨#[c]⟩ + 1 := by
    rw [e1]
    exact Lib.splitB_all ⟨#[c]⟩ (by show 1 ≤ 1; omega) 0 _ s rfl
  have hl := splB_len c s
  rw [← e1, ← e2]
  exact ⟨_, rfl, OwnS.of_blk (Blk.new _ _ _) (Nat.le_refl _) (by simp only [maxLen]; omega), balloc (Below.refl _ _) _⟩
end Go.Proofs.YtlnlohopgnocaaaDoor
