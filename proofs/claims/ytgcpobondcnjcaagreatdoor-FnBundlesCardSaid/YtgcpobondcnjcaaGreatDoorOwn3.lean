/-
  Lists of bundles in slices of the call's own; append.
  No conditions.
-/
import Derived.Test.YtgcpobondcnjcaaGreatDoorAppend
namespace Go.Proofs.YtgcpobondcnjcaaGreatDoor
open Go.ChangeShapes Go.WideShapes Go.ChangeAt Go.RowKit Go.Deep
set_option linter.unusedVariables false

/-- Bundles in a slice of the call's own. -/
def Own3 (w : World) (base : Nat) (v : Value) (n : Nat) (zs : List Int) : Prop := w.ownsRow base 40 3 v n (iv zs)
section
variable {w w' : World} {base n : Nat} {v : Value} {zs : List Int}
theorem Own3.on (h : Own3 w base v n zs) (hb : Below w.heap.size w w') : Own3 w' base v n zs :=
  World.ownsRow.kept (row := none) h ⟨hb.os, hb.tape, hb.output, hb.size, fun k hk _ => hb.block k hk⟩ (by cases v.ownBlock <;> simp)
theorem Own3.alloc (h : Own3 w base v n zs) (o : Obj) : Own3 (w.alloc o) base v n zs := World.ownsRow.alloc h o
theorem Own3.lt (h : Own3 w base v n zs) : ∀ k, v.ownBlock = some k → base ≤ k ∧ k < w.heap.size := World.ownsRow.lt h
theorem Own3.length (h : Own3 w base v n zs) : zs.length = n * 3 := by have := h.1; rwa [iv_length] at this
theorem Own3.ints (h : Own3 w base v n zs) (hw : ∀ z ∈ zs, -9223372036854775808 ≤ z ∧ z ≤ 9223372036854775807) : ∃ A c, v = .slice A n c ∧ Ints w w.heap.size 3 A n zs ∧ (A = none → n = 0) := by
  have hl := h.length
  rcases h.2 with ⟨rfl, h0⟩ | ⟨g, cap, cur, rfl, h1⟩
  · subst h0
    obtain rfl : zs = [] := List.eq_nil_of_length_eq_zero (by omega)
    exact ⟨none, 0, rfl, ⟨Reads.none_, by simp⟩, fun _ => rfl⟩
  · exact ⟨_, cap, rfl, ⟨Reads.of_own h, hw⟩, fun h => by cases h⟩
theorem Own3.base_le {b' : Nat} (h : Own3 w base v n zs) (hb : b' ≤ base) : Own3 w b' v n zs := by
  refine ⟨h.1, ?_⟩
  rcases h.2 with h1 | ⟨g, cap, cur, e1, e2, r⟩
  · exact .inl h1
  · exact .inr ⟨g, cap, cur, e1, by omega, r⟩
theorem Own3.empty (w : World) (hb : base ≤ w.heap.size) : Own3 (w.alloc (.cells #[] 40)) base (.slice (some ⟨w.heap.size, 0, none⟩) 0 0) 0 [] := by
  have := World.ownsRow_lit (base := base) (e := 40) (size := 3) (w := w) #[] 0 hb (by simp [maxLen]) rfl
  exact this
theorem Own3.nil (w : World) (base : Nat) : Own3 w base (.slice none 0 0) 0 [] := World.ownsRow_nil _ _ _ _
end
theorem Own3.kept {w w' : World} {base n : Nat} {v : Value} {zs : List Int} {row : Option Nat} (h : Own3 w base v n zs) (hg : w.grownBy w' row) (hne : v.ownBlock = none ∨ v.ownBlock ≠ row) : Own3 w' base v n zs := World.ownsRow.kept h hg hne
theorem Own3.row {w : World} {base n : Nat} {v : Value} {zs : List Int} (h : Own3 w base v n zs) : w.ownsRow base 40 3 v n (iv zs) := h
theorem own3_ne {w2 w4 : World} {b2 b4 n2 : Nat} {v2 v4 : Value} {L : List Int} {e : TypeId} {K n : Nat} {X : List Value} (h2 : Own3 w2 b2 v2 n2 L) (hb : w2.heap.size ≤ b4) (h4 : w4.ownsRow b4 e K v4 n X) : v2.ownBlock = none ∨ v2.ownBlock ≠ v4.ownBlock := by
  rcases hv : v2.ownBlock with _ | k
  · exact .inl rfl
  · refine .inr fun he => ?_
    have a1 := (h2.lt k hv).2
    have a2 := (World.ownsRow.lt h4 k he.symm).1
    omega
theorem own3_ne_blk {w4 : World} {b4 g n : Nat} {v4 : Value} {M : List Int} (h4 : Own3 w4 b4 v4 n M) (hg : g < b4) : v4.ownBlock = none ∨ v4.ownBlock ≠ some g := by
  rcases hv : v4.ownBlock with _ | k
  · exact .inl rfl
  · refine .inr fun he => ?_
    have a1 := (h4.lt k hv).1
    injection he with he
    omega
theorem own3_lt_blk {w2 : World} {b2 g n : Nat} {v2 : Value} {L : List Int} (h2 : Own3 w2 b2 v2 n L) (hg : w2.heap.size ≤ g) : v2.ownBlock = none ∨ v2.ownBlock ≠ some g := by
  rcases hv : v2.ownBlock with _ | k
  · exact .inl rfl
  · refine .inr fun he => ?_
    have a1 := (h2.lt k hv).2
    injection he with he
    omega

set_option maxRecDepth 100000 in
theorem append_bns {w : World} {ops : Array Oper} {rest : List Oper} {o : Oper} {a : Act} {Q : Exit → Act → World → Prop} (hgd : o.guard = none) (s x : Operand)
    (ho : o.op = .call { callee := .builtin .append, args := #[s, x], argTypes := #[27, 27] })
    (base : Nat) (v : Value) (n : Nat) (zs : List Int) (hs : a.eval s = v) (hown : w.ownsRow base 40 3 v n (iv zs)) (us : List Int) (ad : Addr) (m c : Nat) (hx : a.eval x = .slice (some ad) m c) (hl : us.length = m * 3)
    (hnews : ∀ j, j < m * 3 → w.cell? (ad.add j) = some (.int .i64 (gi us j)))
    (hn : n ≤ 1048576) (hm : m ≤ 1048576) (hbase : base ≤ w.heap.size)
    (h : ∀ v' w', w'.ownsRow base 40 3 v' (n + m) (iv (zs ++ us)) → w.grownBy w' v.ownBlock → wpList Tryz.prog ops Q rest (a.put o.dst v') w') : wpList Tryz.prog ops Q (o :: rest) a w := by
  have hinfo : (Tryz.prog.info? 40).map (fun i => (i.zero, i.size, i.bytes)) = some (some (.agg #[.int .i64 0, .int .i64 0, .int .i64 0]), 3, 24) := by kernel_rfl
  obtain ⟨i0, hi, hz0, hz1, hz2⟩ := info_parts hinfo
  refine wpList_append_own w hgd s x 27 ho base 40 i0 _ 3 24 Tryz.underlying27 hi hz0 hz1 hz2 rfl (by decide) v n (iv zs) hs hown ad m c (iv us) hx (by rw [iv_length, hl]) ?_ ?_ ?_ ?_ hbase ?_
  · intro j y hy
    have hj : j < us.length := by
      have := (List.getElem?_eq_some_iff.1 hy).1
      rwa [iv_length] at this
    rw [iv_get us j hj] at hy
    injection hy with hy
    rw [hnews j (by omega), hy]
  · intro y hy
    simp only [iv, List.mem_map] at hy
    obtain ⟨z, _, rfl⟩ := hy
    rfl
  · simp only [maxLen]; omega
  · omega
  · intro v' w' hown' hgr _
    refine h v' w' ?_ hgr
    rw [iv_append]
    exact hown'
theorem append_bn1 {w : World} {ops : Array Oper} {rest : List Oper} {o : Oper} {a : Act} {Q : Exit → Act → World → Prop} (hgd : o.guard = none) (s x : Operand)
    (ho : o.op = .call { callee := .builtin .append, args := #[s, x], argTypes := #[27, 27] })
    (base : Nat) (v : Value) (n : Nat) (zs : List Int) (hs : a.eval s = v) (hown : w.ownsRow base 40 3 v n (iv zs)) (us : List Int) (hu : us.length = 3) (g : Nat) (hx : a.eval x = .slice (some ⟨g, 0, none⟩) 1 1) (hg : Blk w g 40 (iv us).toArray)
    (hn : n ≤ 1048576) (hbase : base ≤ w.heap.size)
    (h : ∀ v' w', w'.ownsRow base 40 3 v' (n + 1) (iv (zs ++ us)) → w.grownBy w' v.ownBlock → wpList Tryz.prog ops Q rest (a.put o.dst v') w') : wpList Tryz.prog ops Q (o :: rest) a w := by
  refine append_bns hgd s x ho base v n zs hs hown us ⟨g, 0, none⟩ 1 1 hx (by omega) (fun j hj => ?_) hn (by omega) hbase h
  have e : (⟨g, 0, none⟩ : Addr).add j = ⟨g, j, none⟩ := by unfold Addr.add; split <;> simp_all
  rw [e, hg.cell j, List.getElem?_toArray, iv_get us j (by omega)]
theorem own3_at {w : World} {base g n cap j : Nat} {zs : List Int} (h : Own3 w base (.slice (some ⟨g, 0, none⟩) n cap) n zs) (hj : j < n * 3) : w.cell? ⟨g, j, none⟩ = some (.int .i64 (gi zs j)) := by
  have hc := World.ownsRow.cells (g := g) h rfl j (.int .i64 (gi zs j)) (iv_get zs j (by rw [h.length]; exact hj))
  have e : (⟨g, 0, none⟩ : Addr).add j = ⟨g, j, none⟩ := by unfold Addr.add; split <;> simp_all
  rwa [e] at hc
theorem own3_rest {w w' : World} {base g n cap q j : Nat} {zs : List Int} (h : Own3 w base (.slice (some ⟨g, 0, none⟩) n cap) n zs) (hb : Below w.heap.size w w') (hj : j < (n - q) * 3) :
    w'.cell? ((⟨g, q * 3, none⟩ : Addr).add j) = some (.int .i64 (gi (zs.drop (q * 3)) j)) := by
  have e : (⟨g, q * 3, none⟩ : Addr).add j = ⟨g, q * 3 + j, none⟩ := by unfold Addr.add; split <;> simp_all
  rw [e, hb.cell (h.lt g rfl).2, own3_at h (by omega)]
  simp [gi, List.getD, List.getElem?_drop]
theorem own3_front {w w' : World} {base g n cap q j : Nat} {zs : List Int} (h : Own3 w base (.slice (some ⟨g, 0, none⟩) n cap) n zs) (hb : Below w.heap.size w w') (hj : j < q * 3) (hq : q ≤ n) :
    w'.cell? ((⟨g, 0, none⟩ : Addr).add j) = some (.int .i64 (gi (zs.take (q * 3)) j)) := by
  have e : (⟨g, 0, none⟩ : Addr).add j = ⟨g, j, none⟩ := by unfold Addr.add; split <;> simp_all
  rw [e, hb.cell (h.lt g rfl).2, own3_at h (by omega)]
  simp [gi, List.getD, List.getElem?_take_of_lt hj]
theorem own3_cap {w : World} {base g n cap : Nat} {zs : List Int} (h : Own3 w base (.slice (some ⟨g, 0, none⟩) n cap) n zs) : n ≤ cap := by
  rcases h.2 with ⟨e, _⟩ | ⟨g', cap', cur, e, _, _, hc, _⟩
  · cases e
  · injection e with _ e2 e3; omega
theorem own3_form {w : World} {base n : Nat} {v : Value} {zs : List Int} (h : Own3 w base v n zs) (hl : 0 < n) : ∃ g cap, v = .slice (some ⟨g, 0, none⟩) n cap := by
  rcases h.2 with ⟨_, h0⟩ | ⟨g, cap, cur, e, _⟩
  · omega
  · exact ⟨g, cap, e⟩
end Go.Proofs.YtgcpobondcnjcaaGreatDoor
