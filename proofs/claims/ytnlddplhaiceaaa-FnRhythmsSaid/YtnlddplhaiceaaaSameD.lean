/-
  Two lists of beds drawn: the second is the first, copied, and mostly changed.
  No conditions.
-/
import Derived.Test.YtnlddplhaiceaaaRhyP
namespace Go.Proofs.Ytnlddplhaiceaaa
open Go.ChangeShapes Go.WideShapes Go.ChangeAt Go.RowKit Go.Deep
set_option linter.unusedVariables false

/-- Beds in a slice that are read. -/
def BedsV (w : World) (v : Value) (n : Nat) (bs : Nat → List Int × Int) : Prop := ∃ A c, v = .slice A n c ∧ Beds w w.heap.size A n bs ∧ Short bs n
theorem OwnB.get {w : World} {lo hi n : Nat} {v : Value} {bs : Nat → List Int × Int} (h : OwnB w lo hi v n bs) {j : Nat} (hj : j < n) (hw : Wf (yl bs j)) : ∃ q cap γ cc, v = .slice (some ⟨q, 0, none⟩) n cap ∧
    w.cell? ⟨q, j * 2, none⟩ = some (.slice (some ⟨γ, 0, none⟩) (yl bs j).length cc) ∧ w.cell? ⟨q, j * 2 + 1, none⟩ = some (.int .i64 (ag bs j)) ∧ q < hi ∧ Ints w w.heap.size 1 (some ⟨γ, 0, none⟩) (yl bs j).length (yl bs j) := by
  obtain ⟨L, γ, c, hr, h1, h2, h3, h4⟩ := h
  rcases hr.2 with ⟨_, h0⟩ | ⟨q, cap, cur, rfl, hb, hgg, rest⟩
  · omega
  obtain ⟨a1, a2, a3, a4⟩ := h3 j hj
  obtain ⟨A', c', e, hI, -⟩ := a4.ints hw
  simp only [Value.slice.injEq, true_and] at e
  obtain ⟨rfl, rfl⟩ := e
  exact ⟨q, cap, γ j, c j, rfl, by rw [hr.cellAt _ (by omega)]; exact a2, by rw [hr.cellAt _ (by omega)]; exact a3, h2 q rfl, hI⟩
theorem OwnB.bedsV {w : World} {lo hi n : Nat} {v : Value} {bs : Nat → List Int × Int} (h : OwnB w lo hi v n bs) (hs : Short bs n) (hw : ∀ i, i < n → Wf (yl bs i)) : BedsV w v n bs := by
  obtain ⟨A, c, e, hB⟩ := h.beds hs hw
  exact ⟨A, c, e, hB, hs⟩
/-- A first bed whose age, or whose list, is changed. -/
theorem OwnB.head {w : World} {lo hi q cap n : Nat} {bs : Nat → List Int × Int} (h : OwnB w lo hi (.slice (some ⟨q, 0, none⟩) n cap) n bs) (h0 : 0 < n) (hw : ∀ i, i < n → Wf (yl bs i)) : ∃ γ cc,
    w.cell? ⟨q, 0, none⟩ = some (.slice (some ⟨γ, 0, none⟩) (yl bs 0).length cc) ∧ w.cell? ⟨q, 1, none⟩ = some (.int .i64 (ag bs 0)) ∧ w.frozen? ⟨q, 0, none⟩ = false ∧ w.frozen? ⟨q, 1, none⟩ = false ∧ q < w.heap.size ∧ lo ≤ q ∧
    Own w lo (.slice (some ⟨γ, 0, none⟩) (yl bs 0).length cc) (yl bs 0) ∧
    (∀ u, OwnB (w.setCell ⟨q, 1, none⟩ (.int .i64 u)) lo hi (.slice (some ⟨q, 0, none⟩) n cap) n (putB bs (yl bs 0, u))) ∧
    (∀ o w6 γ1 cc1 u, Own w6 lo (.slice (some ⟨γ1, 0, none⟩) ((yl bs 0).length + 1) cc1) (yl bs 0 ++ [u]) → (w.alloc o).grownBy w6 (some γ) → (-9223372036854775808 ≤ u ∧ u ≤ 9223372036854775807) → (∀ i, i < n → (yl bs i).length ≤ 1000) →
      w6.cell? ⟨q, 0, none⟩ = some (.slice (some ⟨γ, 0, none⟩) (yl bs 0).length cc) ∧ w6.frozen? ⟨q, 0, none⟩ = false ∧
      Beds (w6.setCell ⟨q, 0, none⟩ (.slice (some ⟨γ1, 0, none⟩) ((yl bs 0).length + 1) cc1)) (w6.setCell ⟨q, 0, none⟩ (.slice (some ⟨γ1, 0, none⟩) ((yl bs 0).length + 1) cc1)).heap.size (some ⟨q, 0, none⟩) n (putB bs (yl bs 0 ++ [u], ag bs 0))) := by
  obtain ⟨L, γ, c, hr, h1, h2, h3, h4⟩ := h
  obtain ⟨a1, a2, a3, a4⟩ := h3 0 h0
  have hL : L.length = n * 2 := hr.1
  have hq := World.ownsRow.lt hr q rfl
  have hne : γ 0 ≠ q := fun e => row_ne hr a4 (by rw [← e]; rfl)
  refine ⟨γ 0, c 0, by rw [hr.cellAt 0 (by omega)]; exact a2, by rw [hr.cellAt 1 (by omega)]; exact a3, hr.frozenAt 0, hr.frozenAt 1, hq.2, hq.1, a4, fun u => ?_, fun o w6 γ1 cc1 u ho hgr hu hlen => ?_⟩
  · have hst := hr.stored 1 (.int .i64 u)
    refine ⟨_, γ, c, hst.1, by simp only [World.setCell, Array.size_modify]; omega, h2, fun j hj => ?_, h4⟩
    obtain ⟨b1, b2, b3, b4⟩ := h3 j hj
    have hjq : γ j ≠ q := fun e => row_ne hr b4 (by rw [← e]; rfl)
    by_cases e : j = 0
    · subst e
      refine ⟨b1, ?_, ?_, own_far b4 hjq _⟩
      · rw [List.getElem?_set_ne (by omega)]; exact b2
      · show (L.set 1 _)[1]? = _
        rw [List.getElem?_set_self (by omega)]; rfl
    · rw [(putB_else bs _ e).1, (putB_else bs _ e).2]
      refine ⟨b1, ?_, ?_, own_far b4 hjq _⟩
      · rw [List.getElem?_set_ne (by omega)]; exact b2
      · rw [List.getElem?_set_ne (by omega)]; exact b3
  · have hr6 := World.ownsRow.kept (World.ownsRow.alloc hr o) hgr (.inr (by show some q ≠ some (γ 0); intro e; injection e with e; exact hne e.symm))
    have hq6 := World.ownsRow.lt hr6 q rfl
    have hst := hr6.stored 0 (.slice (some ⟨γ1, 0, none⟩) ((yl bs 0).length + 1) cc1)
    have hγ1q : γ1 ≠ q := fun e => row_ne hr6 ho (by rw [← e]; rfl)
    refine ⟨by rw [hr6.cellAt 0 (by omega)]; exact a2, hr6.frozenAt 0, ⟨fun i hi => ?_⟩⟩
    obtain ⟨b1, b2, b3, b4⟩ := h3 i hi
    have hiq : γ i ≠ q := fun e => row_ne hr b4 (by rw [← e]; rfl)
    by_cases e : i = 0
    · subst e
      have ho7 := own_far ho hγ1q (i := 0) (.slice (some ⟨γ1, 0, none⟩) ((yl bs 0).length + 1) cc1)
      have hwf : Wf (yl bs 0 ++ [u]) := fun z hz => by
        rcases List.mem_append.1 hz with h1 | h1
        · exact hw 0 h0 z h1
        · simp only [List.mem_singleton] at h1; subst h1; exact hu
      obtain ⟨A', c', e', hI, -⟩ := ho7.ints hwf
      have hl : (yl bs 0 ++ [u]).length = (yl bs 0).length + 1 := by simp
      rw [hl] at e' hI
      simp only [Value.slice.injEq, true_and] at e'
      obtain ⟨rfl, rfl⟩ := e'
      refine ⟨q, 0, _, _, _, rfl, by rw [size_setCell]; exact hq6.2, by rw [Nat.zero_add, hst.1.cellAt _ (by omega)]; exact List.getElem?_set_self (by omega), by rw [Nat.zero_add, hst.1.cellAt _ (by omega), List.getElem?_set_ne (by omega)]; exact a3, by have := hlen 0 h0; simp [maxLen]; omega, hI⟩
    · have h6 : Own w6 lo (.slice (some ⟨γ i, 0, none⟩) (yl bs i).length (c i)) (yl bs i) := (b4.alloc o).kept hgr (.inr (by show some (γ i) ≠ some (γ 0); intro e2; injection e2 with e2; exact e (h4 i 0 hi h0 e2)))
      have h7 := own_far h6 hiq (i := 0) (.slice (some ⟨γ1, 0, none⟩) ((yl bs 0).length + 1) cc1)
      obtain ⟨A', c', e', hI, -⟩ := h7.ints (hw i hi)
      simp only [Value.slice.injEq, true_and] at e'
      obtain ⟨rfl, rfl⟩ := e'
      rw [(putB_else bs _ e).1, (putB_else bs _ e).2]
      refine ⟨q, 0, _, _, _, rfl, by rw [size_setCell]; exact hq6.2, by rw [Nat.zero_add, hst.1.cellAt _ (by omega), List.getElem?_set_ne (by omega)]; exact b2, by rw [Nat.zero_add, hst.1.cellAt _ (by omega), List.getElem?_set_ne (by omega)]; exact b3, by have := hlen i hi; simp [maxLen]; omega, hI⟩
/-- append of a bed of nothing. -/
theorem append_zbed {w : World} {ops : Array Oper} {rest : List Oper} {o : Oper} {a : Act} {Q : Exit → Act → World → Prop} (hgd : o.guard = none) (s x : Operand)
    (ho : o.op = .call { callee := .builtin .append, args := #[s, x], argTypes := #[26, 26] })
    (lo hi : Nat) (v : Value) (n : Nat) (bs : Nat → List Int × Int) (hs : a.eval s = v) (hown : OwnB w lo hi v n bs) (hw : ∀ i, i < n → Wf (yl bs i)) (hlen : ∀ i, i < n → (yl bs i).length ≤ 1000)
    (g : Nat) (hx : a.eval x = .slice (some ⟨g, 0, none⟩) 1 1) (hg : Blk w g 41 #[.slice none 0 0, .int .i64 0])
    (hn : n ≤ 1048576) (hbase : lo ≤ w.heap.size)
    (h : ∀ v' w', (∃ A c, v' = .slice A (n + 1) c ∧ Beds w' w'.heap.size A (n + 1) (addB bs n ([], 0))) → w.grownBy w' v.ownBlock → wpList Try.prog ops Q rest (a.put o.dst v') w') : wpList Try.prog ops Q (o :: rest) a w := by
  have hinfo : (Try.prog.info? 41).map (fun i => (i.zero, i.size, i.bytes)) = some (some (.agg #[.slice none 0 0, .int .i64 0]), 2, 32) := by kernel_rfl
  obtain ⟨i0, hi0, hz0, hz1, hz2⟩ := info_parts hinfo
  obtain ⟨L, γ, c, hr, h1, h2, h3, h4⟩ := hown
  have hL := hr.1
  refine wpList_append_own w hgd s x 26 ho lo 41 i0 _ 2 32 Try.underlying26 hi0 hz0 hz1 hz2 rfl (by decide) v n L hs hr ⟨g, 0, none⟩ 1 1 [.slice none 0 0, .int .i64 0] hx rfl ?_ ?_ ?_ ?_ hbase ?_
  · intro j y hy
    have e : (⟨g, 0, none⟩ : Addr).add j = ⟨g, j, none⟩ := by unfold Addr.add; split <;> simp_all
    rw [e, hg.cell j]
    match j, hy with
    | 0, hy => simpa using hy
    | 1, hy => simpa using hy
  · intro y hy
    simp only [List.mem_cons, List.not_mem_nil, or_false] at hy
    rcases hy with rfl | rfl <;> rfl
  · simp only [maxLen]; omega
  · omega
  · intro v' w' hown' hgr _
    refine h v' w' ?_ hgr
    rcases hown'.2 with ⟨_, h0⟩ | ⟨q, cap, cur, rfl, hb, hgg, rest⟩
    · omega
    have hq := (World.ownsRow.lt hown' q rfl).2
    refine ⟨_, cap, rfl, ⟨fun i hi => ?_⟩⟩
    by_cases e : i = n
    · subst e
      rw [(addB_at bs i ([], 0)).1, (addB_at bs i ([], 0)).2]
      refine ⟨q, 0, none, 0, 0, rfl, hq, ?_, ?_, by simp [maxLen], ⟨Reads.none_, by simp⟩⟩
      · rw [Nat.zero_add, hown'.cellAt _ (by omega), List.getElem?_append_right (by omega)]; simp [hL]
      · rw [Nat.zero_add, hown'.cellAt _ (by omega), List.getElem?_append_right (by omega)]; simp [hL]
    · obtain ⟨b1, b2, b3, b4⟩ := h3 i (by omega)
      have h6 := b4.kept hgr (.inr fun e => row_ne hr b4 e.symm)
      obtain ⟨A', c', e', hI, -⟩ := h6.ints (hw i (by omega))
      simp only [Value.slice.injEq, true_and] at e'
      obtain ⟨rfl, rfl⟩ := e'
      have ea : addB bs n ([], 0) i = bs i := addB_else bs n _ e
      have e1 : yl (addB bs n ([], 0)) i = yl bs i := by unfold yl; rw [ea]
      have e2 : ag (addB bs n ([], 0)) i = ag bs i := by unfold ag; rw [ea]
      rw [e1, e2]
      refine ⟨q, 0, _, _, _, rfl, hq, by rw [Nat.zero_add, hown'.cellAt _ (by omega), List.getElem?_append_left (by omega)]; exact b2, by rw [Nat.zero_add, hown'.cellAt _ (by omega), List.getElem?_append_left (by omega)]; exact b3, by have := hlen i (by omega); simp [maxLen]; omega, hI⟩
theorem own_some {w : World} {base : Nat} {v : Value} {zs : List Int} (h : Own w base v zs) (hn : v ≠ .slice none 0 0) : ∃ g cap, v = .slice (some ⟨g, 0, none⟩) zs.length cap := by
  rcases h.2 with ⟨e, _⟩ | ⟨g, cap, cur, e, _⟩
  · exact absurd e hn
  · exact ⟨g, cap, e⟩
set_option maxRecDepth 100000 in
theorem append_ints2 {w : World} {ops : Array Oper} {rest : List Oper} {o : Oper} {a : Act} {Q : Exit → Act → World → Prop} (hgd : o.guard = none) (s x : Operand)
    (ho : o.op = .call { callee := .builtin .append, args := #[s, x], argTypes := #[30, 30] })
    (base : Nat) (v : Value) (zs : List Int) (hs : a.eval s = v) (hv : v ≠ .slice none 0 0) (hown : Own w base v zs) (us : List Int) (ad : Addr) (m c : Nat) (hx : a.eval x = .slice (some ad) m c) (hl : us.length = m)
    (hnews : ∀ j, j < m → w.cell? (ad.add j) = some (.int .i64 (gi us j)))
    (hn : zs.length ≤ 1048576) (hm : m ≤ 1048576) (hbase : base ≤ w.heap.size)
    (h : ∀ v' w', Own w' base v' (zs ++ us) → v' ≠ .slice none 0 0 → w.grownBy w' v.ownBlock → wpList Try.prog ops Q rest (a.put o.dst v') w') : wpList Try.prog ops Q (o :: rest) a w := by
  have hinfo : (Try.prog.info? 2).map (fun i => (i.zero, i.size, i.bytes)) = some (some (.int .i64 0), 1, 8) := by kernel_rfl
  obtain ⟨i0, hi, hz0, hz1, hz2⟩ := info_parts hinfo
  refine wpList_append_own w hgd s x 30 ho base 2 i0 _ 1 8 Try.underlying30 hi hz0 hz1 hz2 rfl (by decide) v zs.length (iv zs) hs hown ad m c (iv us) hx (by rw [iv_length, hl, Nat.mul_one]) ?_ ?_ ?_ ?_ hbase ?_
  · intro j y hy
    have hj : j < us.length := by
      have := (List.getElem?_eq_some_iff.1 hy).1
      rwa [iv_length] at this
    rw [iv_get us j hj] at hy
    injection hy with hy
    rw [hnews j (by omega), hy]
  · intro y hy
    simp only [iv, List.mem_map] at hy
    obtain ⟨z, _, rfl⟩ := hy
    rfl
  · simp only [maxLen]; omega
  · omega
  · intro v' w' hown' hgr hnil
    refine h v' w' ?_ (fun e => hv (hnil.1 e).1) hgr
    unfold Own
    rw [iv_append, List.length_append, hl]
    exact hown'
theorem l00OwnS_c (γ n c : Nat) (zs : List Int) (w : World) (h : Ints w w.heap.size 1 (some ⟨γ, 0, none⟩) n zs) (hn : n ≤ 1048576) :
    Calls Try.prog 82 #[.slice (some ⟨γ, 0, none⟩) n c] w fun e w' => ∃ γ' c', e = .returned (.slice (some ⟨γ', 0, none⟩) n c') ∧ Own w' w.heap.size (.slice (some ⟨γ', 0, none⟩) n c') zs ∧ Below w.heap.size w w' := by
  have hl := h.length
  rw [Nat.mul_one] at hl
  have hnews : ∀ j, j < n → (w.alloc (.cells #[] 2)).cell? ((⟨γ, 0, none⟩ : Addr).add j) = some (.int .i64 (gi zs j)) := by
    intro j hj
    obtain ⟨ad, e, hh⟩ := news_of h (by omega) (.cells #[] 2)
    simp only [Option.some.injEq] at e
    subst e
    exact hh j hj
  have HH := Lib.hid (And.intro hl hnews)
  clear hl hnews h
  go_enter Try.func82, Try.ntmps82
  go_wp2_with (at_builtin; refine append_ints2 rfl (.tmp 3) (.tmp 4) rfl w.heap.size _ [] rfl (by intro e; cases e) (Own.empty w (Nat.le_refl _)) zs ⟨γ, 0, none⟩ n c rfl HH.out.1 HH.out.2 (by simp) hn (by simp) ?_; intro v1 w2 hown1 hnn1 hgr1)
  obtain ⟨γ', c', rfl⟩ := own_some hown1 hnn1
  have hown2 : Own w2 w.heap.size (.slice (some ⟨γ', 0, none⟩) ([] ++ zs).length c') zs := hown1
  have e : ([] ++ zs).length = n := HH.out.1
  rw [e] at hown2 ⊢
  go_ret
  exact ⟨γ', c', rfl, hown2, below_grown (balloc (Below.refl _ w) _) hgr1 (fun g hg => by have e : some w.heap.size = some g := hg; injection e with e; omega)⟩
end Go.Proofs.Ytnlddplhaiceaaa
