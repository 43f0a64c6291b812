/-
  Parts of a list that a call has made: appended, read; the plain law of an insertion from the right.
  No conditions.
-/
import Derived.Test.YtgcpobondcnjcaaGreatDoorSortW
namespace Go.Proofs.YtgcpobondcnjcaaGreatDoor
open Go.ChangeShapes Go.WideShapes Go.ChangeAt Go.RowKit Go.Deep Go.Shelf Go.Sort
set_option linter.unusedVariables false

set_option maxRecDepth 100000 in
/-- append of a part of another's slice of numbers. -/
theorem append_ints {w : World} {ops : Array Oper} {rest : List Oper} {o : Oper} {a : Act} {Q : Exit → Act → World → Prop} (hgd : o.guard = none) (s x : Operand)
    (ho : o.op = .call { callee := .builtin .append, args := #[s, x], argTypes := #[32, 32] })
    (base : Nat) (v : Value) (zs : List Int) (hs : a.eval s = v) (hown : Own w base v zs) (us : List Int) (ad : Addr) (m c : Nat) (hx : a.eval x = .slice (some ad) m c) (hl : us.length = m)
    (hnews : ∀ j, j < m → w.cell? (ad.add j) = some (.int .i64 (gi us j)))
    (hn : zs.length ≤ 1048576) (hm : m ≤ 1048576) (hbase : base ≤ w.heap.size)
    (h : ∀ v' w', Own w' base v' (zs ++ us) → w.grownBy w' v.ownBlock → wpList Tryz.prog ops Q rest (a.put o.dst v') w') : wpList Tryz.prog ops Q (o :: rest) a w := by
  have hinfo : (Tryz.prog.info? 2).map (fun i => (i.zero, i.size, i.bytes)) = some (some (.int .i64 0), 1, 8) := by kernel_rfl
  obtain ⟨i0, hi, hz0, hz1, hz2⟩ := info_parts hinfo
  refine wpList_append_own w hgd s x 32 ho base 2 i0 _ 1 8 Tryz.underlying32 hi hz0 hz1 hz2 rfl (by decide) v zs.length (iv zs) hs hown ad m c (iv us) hx (by rw [iv_length, hl, Nat.mul_one]) ?_ ?_ ?_ ?_ hbase ?_
  · intro j y hy
    have hj : j < us.length := by
      have := (List.getElem?_eq_some_iff.1 hy).1
      rwa [iv_length] at this
    rw [iv_get us j hj] at hy
    injection hy with hy
    rw [hnews j (by omega), hy]
  · intro y hy
    simp only [iv, List.mem_map] at hy
    obtain ⟨z, _, rfl⟩ := hy
    rfl
  · simp only [maxLen]; omega
  · omega
  · intro v' w' hown' hgr _
    refine h v' w' ?_ hgr
    unfold Own
    rw [iv_append, List.length_append, hl]
    exact hown'

theorem own_at {w : World} {base g n cap j : Nat} {zs : List Int} (h : Own w base (.slice (some ⟨g, 0, none⟩) n cap) zs) (hj : j < zs.length) : w.cell? ⟨g, j, none⟩ = some (.int .i64 (gi zs j)) := by
  have hc := World.ownsRow.cells (g := g) h rfl j (.int .i64 (gi zs j)) (iv_get zs j hj)
  have e : (⟨g, 0, none⟩ : Addr).add j = ⟨g, j, none⟩ := by unfold Addr.add; split <;> simp_all
  rwa [e] at hc
theorem own_head {w : World} {base g n cap q : Nat} {zs : List Int} (h : Own w base (.slice (some ⟨g, 0, none⟩) n cap) zs) (hq : q ≤ zs.length) (hw : ∀ z ∈ zs, -9223372036854775808 ≤ z ∧ z ≤ 9223372036854775807) :
    Ints w w.heap.size 1 (some ⟨g, 0, none⟩) q (zs.take q) :=
  ⟨⟨by rw [iv_length, List.length_take]; omega, fun _ => ⟨g, 0, rfl, (h.lt g rfl).2, fun j u hu => by
    have hj : j < (zs.take q).length := by
      have := (List.getElem?_eq_some_iff.1 hu).1
      rwa [iv_length] at this
    rw [iv_get _ j hj] at hu
    injection hu with hu
    rw [List.length_take] at hj
    rw [Nat.zero_add, own_at h (by omega), ← hu]
    simp [gi, List.getD, List.getElem?_take_of_lt (show j < q by omega)]⟩⟩, fun z hz => hw z (List.mem_of_mem_take hz)⟩
theorem own_rest {w w' : World} {base g n cap q j : Nat} {zs : List Int} (h : Own w base (.slice (some ⟨g, 0, none⟩) n cap) zs) (hb : Below w.heap.size w w') (hj : j < zs.length - q) :
    w'.cell? ((⟨g, q, none⟩ : Addr).add j) = some (.int .i64 (gi (zs.drop q) j)) := by
  have e : (⟨g, q, none⟩ : Addr).add j = ⟨g, q + j, none⟩ := by unfold Addr.add; split <;> simp_all
  rw [e, hb.cell (h.lt g rfl).2, own_at h (by omega)]
  simp [gi, List.getD, List.getElem?_drop]
theorem own_cap {w : World} {base g n cap : Nat} {zs : List Int} (h : Own w base (.slice (some ⟨g, 0, none⟩) n cap) zs) : n ≤ cap := by
  rcases h.2 with ⟨e, _⟩ | ⟨g', cap', cur, e, _, _, hc, _⟩
  · cases e
  · injection e with _ e2 e3; omega
theorem own_form {w : World} {base : Nat} {v : Value} {zs : List Int} (h : Own w base v zs) (hl : 0 < zs.length) : ∃ g cap, v = .slice (some ⟨g, 0, none⟩) zs.length cap := by
  rcases h.2 with ⟨_, h0⟩ | ⟨g, cap, cur, e, _⟩
  · omega
  · exact ⟨g, cap, e⟩

theorem l00Own_c (ad : Addr) (n c : Nat) (zs : List Int) (w : World) (h : Ints w w.heap.size 1 (some ad) n zs) (hn : n ≤ 1048576) :
    Calls Tryz.prog 53 #[.slice (some ad) n c] w fun e w' => ∃ v, e = .returned v ∧ Own w' w.heap.size v zs ∧ Below w.heap.size w w' := by
  have hl := h.length
  have hnews : ∀ j, j < n → (w.alloc (.cells #[] 2)).cell? (ad.add j) = some (.int .i64 (gi zs j)) := by
    intro j hj
    obtain ⟨b, off, e, hb, hc⟩ := h.at1 hj
    injection e with e
    subst e
    have e2 : (⟨b, off, none⟩ : Addr).add j = ⟨b, off + j, none⟩ := by unfold Addr.add; split <;> simp_all
    rw [e2, World.cell?_alloc_lt w _ _ hb, hc]
  have HH := Lib.hid (And.intro hl hnews)
  clear hl hnews h
  go_enter Tryz.func53, Tryz.ntmps53
  go_wp2_with (at_builtin; refine append_ints rfl (.tmp 3) (.tmp 4) rfl w.heap.size _ [] rfl (Own.empty w (Nat.le_refl _)) zs ad n c rfl (by rw [HH.out.1, Nat.mul_one]) HH.out.2 (by simp) hn (by simp) ?_; intro v1 w2 hown1 hgr1)
  go_ret
  exact ⟨_, rfl, hown1, below_grown (balloc (Below.refl _ w) _) hgr1 (fun g hg => by have e : some w.heap.size = some g := hg; injection e with e; omega)⟩

theorem ins_zero {f : Int → Int} {xs : List Int} {x : Int} {k q : Nat} (h : insK f xs x q = insK f xs x k) (h0 : q ≤ 0) : insK f xs x k = q := by
  obtain rfl : q = 0 := by omega
  rw [← h]; rfl
theorem ins_stop {f : Int → Int} {xs : List Int} {x : Int} {k q : Nat} (h : insK f xs x q = insK f xs x k) (h0 : 0 < q) (hn : ¬ f (gi xs (q - 1)) < f x) : insK f xs x k = q := by
  obtain ⟨p, rfl⟩ : ∃ p, q = p + 1 := ⟨q - 1, by omega⟩
  rw [← h]
  simp only [Nat.add_sub_cancel] at hn
  unfold insK; rw [if_neg hn]
theorem ins_step {f : Int → Int} {xs : List Int} {x : Int} {k q : Nat} (h : insK f xs x q = insK f xs x k) (h0 : 0 < q) (hn : f (gi xs (q - 1)) < f x) : insK f xs x (q - 1) = insK f xs x k := by
  obtain ⟨p, rfl⟩ : ∃ p, q = p + 1 := ⟨q - 1, by omega⟩
  rw [← h]
  simp only [Nat.add_sub_cancel] at hn ⊢
  conv => rhs; unfold insK
  rw [if_pos hn]
theorem lg_end {f : Int → Int} {k q B : Nat} {v : Value} {w : World} (h : Own w B v ((stTo f k).take q ++ [(k : Int)] ++ (stTo f k).drop q)) (hp : insK f (stTo f k) k k = q) :
    ∃ g cap, v = .slice (some ⟨g, 0, none⟩) (k + 1) cap ∧ Own w B (.slice (some ⟨g, 0, none⟩) (k + 1) cap) (stTo f (k + 1)) := by
  have e : (stTo f k).take q ++ [(k : Int)] ++ (stTo f k).drop q = stTo f (k + 1) := by
    conv => rhs; unfold stTo insL
    rw [stTo_len, hp]; simp
  rw [e] at h
  obtain ⟨g, cap, rfl⟩ := own_form h (by rw [stTo_len]; omega)
  rw [stTo_len] at h ⊢
  exact ⟨g, cap, rfl, h⟩
end Go.Proofs.YtgcpobondcnjcaaGreatDoor
