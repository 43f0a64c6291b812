/-
  Beds of the call's own: a list of beds whose lists of yields lie in blocks of their own; what is appended, read, marked.
  No conditions.
-/
import Derived.Test.YtnlddplhaiceaaaBedMarks
namespace Go.Proofs.Ytnlddplhaiceaaa
open Go.ChangeShapes Go.WideShapes Go.ChangeAt Go.RowKit Go.Deep
set_option linter.unusedVariables false

/-- Beds of the call's own: every list in a block of its own, all of them from lo to less than hi. -/
def OwnB (w : World) (lo hi : Nat) (v : Value) (n : Nat) (bs : Nat → List Int × Int) : Prop := ∃ (L : List Value) (γ c : Nat → Nat),
  w.ownsRow lo 41 2 v n L ∧ hi ≤ w.heap.size ∧ (∀ q, v.ownBlock = some q → q < hi) ∧
  (∀ j, j < n → γ j < hi ∧ L[j * 2]? = some (.slice (some ⟨γ j, 0, none⟩) (yl bs j).length (c j)) ∧ L[j * 2 + 1]? = some (.int .i64 (ag bs j)) ∧ Own w lo (.slice (some ⟨γ j, 0, none⟩) (yl bs j).length (c j)) (yl bs j)) ∧
  ∀ i j, i < n → j < n → γ i = γ j → i = j
theorem row_keep {w w' : World} {base k n : Nat} {e : TypeId} {v : Value} {xs : List Value} (ho : w.ownsRow base e k v n xs) (hk : ∀ q, v.ownBlock = some q → w'.heap[q]? = w.heap[q]?) : w'.ownsRow base e k v n xs := by
  refine ⟨ho.1, ?_⟩
  rcases ho.2 with hn | ⟨g, cap, cur, rfl, hb, hgg, rest⟩
  · exact .inl hn
  · exact .inr ⟨g, cap, cur, rfl, hb, (hk g rfl).trans hgg, rest⟩
theorem own_keep {w w' : World} {base : Nat} {v : Value} {zs : List Int} (ho : Own w base v zs) (hk : ∀ q, v.ownBlock = some q → w'.heap[q]? = w.heap[q]?) : Own w' base v zs := row_keep ho hk
theorem own_heap {w : World} {base k n g m cap : Nat} {e : TypeId} {xs : List Value} (h : w.ownsRow base e k (.slice (some ⟨g, 0, none⟩) m cap) n xs) : ∃ cur, w.heap[g]? = some (.cells cur e (0, 0)) := by
  rcases h.2 with ⟨h1, _⟩ | ⟨g', cap', cur, h1, hb, hg, _⟩
  · cases h1
  simp only [Value.slice.injEq, Option.some.injEq, Addr.mk.injEq, and_true, true_and] at h1
  obtain ⟨rfl, rfl, rfl⟩ := h1
  exact ⟨cur, hg⟩
theorem row_ne {w : World} {lo lo' n g m c : Nat} {v : Value} {L : List Value} {zs : List Int} (h : w.ownsRow lo 41 2 v n L) (ho : Own w lo' (.slice (some ⟨g, 0, none⟩) m c) zs) : v.ownBlock ≠ some g := by
  intro he
  rcases h.2 with ⟨rfl, _⟩ | ⟨q, cap, cur, rfl, _, hq, _⟩
  · cases he
  · have he' : q = g := by simpa [Value.ownBlock] using he
    subst he'
    obtain ⟨cur', hc⟩ := own_heap ho
    have := hq.symm.trans hc
    simp at this
section
variable {w w' : World} {lo hi n : Nat} {v : Value} {bs : Nat → List Int × Int}
theorem OwnB.keep (h : OwnB w lo hi v n bs) (hs : hi ≤ w'.heap.size) (hk : ∀ q, lo ≤ q → q < hi → w'.heap[q]? = w.heap[q]?) : OwnB w' lo hi v n bs := by
  obtain ⟨L, γ, c, hr, h1, h2, h3, h4⟩ := h
  refine ⟨L, γ, c, row_keep hr (fun q hq => hk q (World.ownsRow.lt hr q hq).1 (h2 q hq)), hs, h2, fun j hj => ?_, h4⟩
  obtain ⟨a1, a2, a3, a4⟩ := h3 j hj
  refine ⟨a1, a2, a3, own_keep a4 (fun q hq => ?_)⟩
  have := (a4.lt q hq).1
  have e : γ j = q := by simpa [Value.ownBlock] using hq
  exact hk q this (by omega)
theorem OwnB.size (h : OwnB w lo hi v n bs) : hi ≤ w.heap.size := by obtain ⟨L, γ, c, hr, h1, -⟩ := h; exact h1
theorem OwnB.lt (h : OwnB w lo hi v n bs) : ∀ q, v.ownBlock = some q → lo ≤ q ∧ q < hi := by obtain ⟨L, γ, c, hr, h1, h2, -⟩ := h; exact fun q hq => ⟨(World.ownsRow.lt hr q hq).1, h2 q hq⟩
theorem OwnB.below {B : Nat} (h : OwnB w lo hi v n bs) (hb : Below B w w') (hB : hi ≤ B) : OwnB w' lo hi v n bs :=
  h.keep (Nat.le_trans h.size hb.size) (fun q _ hq => hb.block q (by omega))
theorem OwnB.on (h : OwnB w lo hi v n bs) (hb : Below w.heap.size w w') : OwnB w' lo hi v n bs := h.below hb h.size
theorem OwnB.mid {a b : Nat} (h : OwnB w lo hi v n bs) (hm : Mid a b w w') (hd : hi ≤ a ∨ b ≤ lo) : OwnB w' lo hi v n bs :=
  h.keep (Nat.le_trans h.size hm.2.2.2.1) (fun q h1 h2 => hm.2.2.2.2 q (by have := h.size; omega) (by omega))
theorem OwnB.congr {bs' : Nat → List Int × Int} (h : OwnB w lo hi v n bs) (he : ∀ j, j < n → bs' j = bs j) : OwnB w lo hi v n bs' := by
  obtain ⟨L, γ, c, hr, h1, h2, h3, h4⟩ := h
  refine ⟨L, γ, c, hr, h1, h2, fun j hj => ?_, h4⟩
  have := h3 j hj
  simp only [yl, ag] at this ⊢
  rw [he j hj]; exact this
theorem OwnB.lower {lo' : Nat} (h : OwnB w lo hi v n bs) (hl : lo' ≤ lo) : OwnB w lo' hi v n bs := by
  obtain ⟨L, γ, c, hr, h1, h2, h3, h4⟩ := h
  refine ⟨L, γ, c, ⟨hr.1, ?_⟩, h1, h2, fun j hj => ?_, h4⟩
  · rcases hr.2 with hn | ⟨g, cap, cur, rfl, hb, rest⟩
    · exact .inl hn
    · exact .inr ⟨g, cap, cur, rfl, by omega, rest⟩
  · obtain ⟨a1, a2, a3, a4⟩ := h3 j hj
    exact ⟨a1, a2, a3, a4.base_le hl⟩
theorem OwnB.upper {hi' : Nat} (h : OwnB w lo hi v n bs) (hl : hi ≤ hi') (hs : hi' ≤ w.heap.size) : OwnB w lo hi' v n bs := by
  obtain ⟨L, γ, c, hr, h1, h2, h3, h4⟩ := h
  exact ⟨L, γ, c, hr, hs, fun q hq => Nat.lt_of_lt_of_le (h2 q hq) hl, fun j hj => ⟨Nat.lt_of_lt_of_le (h3 j hj).1 hl, (h3 j hj).2⟩, h4⟩
theorem OwnB.form (h : OwnB w lo hi v n bs) : (v = .slice none 0 0 ∧ n = 0) ∨ ∃ g c, v = .slice (some ⟨g, 0, none⟩) n c := by
  obtain ⟨L, γ, c, hr, h1, h2, h3, h4⟩ := h
  rcases hr.2 with hn | ⟨g, cap, cur, rfl, hb, rest⟩
  · exact .inl hn
  · exact .inr ⟨g, cap, rfl⟩
theorem OwnB.beds (h : OwnB w lo hi v n bs) (hs : Short bs n) (hw : ∀ i, i < n → ∀ z ∈ yl bs i, -9223372036854775808 ≤ z ∧ z ≤ 9223372036854775807) : ∃ A c, v = .slice A n c ∧ Beds w w.heap.size A n bs := by
  obtain ⟨L, γ, c, hr, h1, h2, h3, h4⟩ := h
  rcases hr.2 with ⟨rfl, rfl⟩ | ⟨g, cap, cur, rfl, hb, hgg, rest⟩
  · exact ⟨none, 0, rfl, ⟨fun i hi => absurd hi (by omega)⟩⟩
  · refine ⟨_, cap, rfl, ⟨fun i hi => ?_⟩⟩
    obtain ⟨a1, a2, a3, a4⟩ := h3 i hi
    have hg := (World.ownsRow.lt hr g rfl).2
    obtain ⟨A', c', e, hI, -⟩ := a4.ints (hw i hi)
    simp only [Value.slice.injEq, true_and] at e
    obtain ⟨e1, e2⟩ := e
    subst e1 e2
    refine ⟨g, 0, _, _, _, rfl, hg, by rw [Nat.zero_add, hr.cellAt _ (by omega)]; exact a2, by rw [Nat.zero_add, hr.cellAt _ (by omega)]; exact a3, by have := hs.2 i hi; simp [maxLen]; omega, hI⟩
theorem OwnB.nil (w : World) (lo hi : Nat) (h : hi ≤ w.heap.size) (bs : Nat → List Int × Int) : OwnB w lo hi (.slice none 0 0) 0 bs :=
  ⟨[], fun _ => 0, fun _ => 0, World.ownsRow_nil _ _ _ _, h, (fun q hq => by simp [Value.ownBlock] at hq), fun j hj => absurd hj (by omega), fun i j hi => absurd hi (by omega)⟩
theorem OwnB.empty (w : World) (hb : lo ≤ w.heap.size) (bs : Nat → List Int × Int) : OwnB (w.alloc (.cells #[] 41)) lo (w.alloc (.cells #[] 41)).heap.size (.slice (some ⟨w.heap.size, 0, none⟩) 0 0) 0 bs := by
  have := World.ownsRow_lit (base := lo) (e := 41) (size := 2) (w := w) #[] 0 hb (by simp [maxLen]) rfl
  refine ⟨[], fun _ => 0, fun _ => 0, this, Nat.le_refl _, ?_, fun j hj => absurd hj (by omega), fun i j hi => absurd hi (by omega)⟩
  intro q hq
  have e : w.heap.size = q := by simpa [Value.ownBlock] using hq
  simp; omega
theorem OwnB.alloc (h : OwnB w lo w.heap.size v n bs) (o : Obj) : OwnB (w.alloc o) lo (w.alloc o).heap.size v n bs :=
  (h.on (balloc (Below.refl _ _) o)).upper (by simp) (Nat.le_refl _)
theorem OwnB.of_made {g : Nat} (h : Made w g hi bs n n) (hn : Short bs n) : OwnB w g hi (.slice (some ⟨g, 0, none⟩) n n) n bs := by
  obtain ⟨L, γ, hL, hblk, h0, h1, hall, hinj⟩ := h
  have hq : ∀ q, (Value.slice (some ⟨g, 0, none⟩) n n).ownBlock = some q → q < hi := by
    intro q hq
    have e : g = q := by simpa [Value.ownBlock] using hq
    omega
  refine ⟨L, γ, fun j => (yl bs j).length, hblk.own (Nat.le_refl _) (by have := hn.1; simp [maxLen]; omega) hL, h1, hq, fun j hj => ?_, hinj⟩
  obtain ⟨a1, a2, a3, a4, a5⟩ := hall j hj
  exact ⟨a2, a3, a4, Own.of_blk a5 (by omega) (by have := hn.2 j hj; simp [maxLen]; omega)⟩
end
/-- One bed more behind the row. -/
theorem OwnB.snoc {w w' : World} {lo hi n γ0 c0 : Nat} {v v' : Value} {bs : Nat → List Int × Int} {L : List Value} (h : OwnB w lo hi v n bs) (hL : w.ownsRow lo 41 2 v n L)
    (hO : Own w lo (.slice (some ⟨γ0, 0, none⟩) (yl bs n).length c0) (yl bs n)) (hγ : hi ≤ γ0)
    (hown' : w'.ownsRow lo 41 2 v' (n + 1) (L ++ [.slice (some ⟨γ0, 0, none⟩) (yl bs n).length c0, .int .i64 (ag bs n)])) (hgr : w.grownBy w' v.ownBlock) : OwnB w' lo w'.heap.size v' (n + 1) bs := by
  obtain ⟨L2, γ, c, hr, h1, h2, h3, h4⟩ := h
  obtain rfl : L2 = L := by
    rcases hr.2 with ⟨rfl, h0⟩ | ⟨g, cap, cur, rfl, hb, hg, q1, q2, q3, q4⟩
    · subst h0
      have e1 : L2 = [] := List.eq_nil_of_length_eq_zero (by have := hr.1; omega)
      have e2 : L = [] := List.eq_nil_of_length_eq_zero (by have := hL.1; omega)
      rw [e1, e2]
    · rcases hL.2 with ⟨hh, h0⟩ | ⟨g', cap', cur', e, hb', hg', q1', q2', q3', q4'⟩
      · cases hh
      · simp only [Value.slice.injEq, Option.some.injEq, Addr.mk.injEq, and_true, true_and] at e
        obtain ⟨rfl, rfl⟩ := e
        have := hg.symm.trans hg'
        simp only [Option.some.injEq, Obj.cells.injEq, and_true] at this
        rw [← q4, ← q4', this]
  have hL := hr.1
  have hsz := hgr.size
  refine ⟨_, fun j => if j = n then γ0 else γ j, fun j => if j = n then c0 else c j, hown', Nat.le_refl _, fun q hq => (World.ownsRow.lt hown' q hq).2, fun j hj => ?_, fun i j hi hj he => ?_⟩
  · by_cases e : j = n
    · subst e
      simp only [if_true]
      refine ⟨?_, ?_, ?_, hO.kept hgr (.inr fun e => row_ne hr hO e.symm)⟩
      · have := (hO.lt γ0 rfl).2; omega
      · rw [List.getElem?_append_right (by omega)]; simp [hL]
      · rw [List.getElem?_append_right (by omega)]; simp [hL]
    · simp only [if_neg e]
      obtain ⟨a1, a2, a3, a4⟩ := h3 j (by omega)
      refine ⟨by omega, ?_, ?_, a4.kept hgr (.inr fun e => row_ne hr a4 e.symm)⟩
      · rw [List.getElem?_append_left (by omega)]; exact a2
      · rw [List.getElem?_append_left (by omega)]; exact a3
  · by_cases e1 : i = n <;> by_cases e2 : j = n <;> simp only [e1, e2, if_true, if_false] at he
    · omega
    · have := (h3 j (by omega)).1; omega
    · have := (h3 i (by omega)).1; omega
    · exact h4 i j (by omega) (by omega) he
/-- append of one bed whose list of yields is new. -/
theorem append_bed {w : World} {ops : Array Oper} {rest : List Oper} {o : Oper} {a : Act} {Q : Exit → Act → World → Prop} (hgd : o.guard = none) (s x : Operand)
    (ho : o.op = .call { callee := .builtin .append, args := #[s, x], argTypes := #[26, 26] })
    (lo hi : Nat) (v : Value) (n : Nat) (bs : Nat → List Int × Int) (hs : a.eval s = v) (hown : OwnB w lo hi v n bs) (γ0 c0 : Nat) (hγ : hi ≤ γ0) (hO : Own w lo (.slice (some ⟨γ0, 0, none⟩) (yl bs n).length c0) (yl bs n))
    (g : Nat) (hx : a.eval x = .slice (some ⟨g, 0, none⟩) 1 1) (hg : Blk w g 41 #[.slice (some ⟨γ0, 0, none⟩) (yl bs n).length c0, .int .i64 (ag bs n)])
    (hn : n ≤ 1048576) (hbase : lo ≤ w.heap.size)
    (h : ∀ v' w', OwnB w' lo w'.heap.size v' (n + 1) bs → w.grownBy w' v.ownBlock → wpList Try.prog ops Q rest (a.put o.dst v') w') : wpList Try.prog ops Q (o :: rest) a w := by
  have hinfo : (Try.prog.info? 41).map (fun i => (i.zero, i.size, i.bytes)) = some (some (.agg #[.slice none 0 0, .int .i64 0]), 2, 32) := by kernel_rfl
  obtain ⟨i0, hi0, hz0, hz1, hz2⟩ := info_parts hinfo
  obtain ⟨L, γ, c, hr, h1, h2, h3, h4⟩ := hown
  have hL := hr.1
  refine wpList_append_own w hgd s x 26 ho lo 41 i0 _ 2 32 Try.underlying26 hi0 hz0 hz1 hz2 rfl (by decide) v n L hs hr ⟨g, 0, none⟩ 1 1 [.slice (some ⟨γ0, 0, none⟩) (yl bs n).length c0, .int .i64 (ag bs n)] hx rfl ?_ ?_ ?_ ?_ hbase ?_
  · intro j y hy
    have e : (⟨g, 0, none⟩ : Addr).add j = ⟨g, j, none⟩ := by unfold Addr.add; split <;> simp_all
    rw [e, hg.cell j]
    match j, hy with
    | 0, hy => simpa using hy
    | 1, hy => simpa using hy
  · intro y hy
    simp only [List.mem_cons, List.not_mem_nil, or_false] at hy
    rcases hy with rfl | rfl <;> rfl
  · simp only [maxLen]; omega
  · omega
  · intro v' w' hown' hgr _
    exact h v' w' (OwnB.snoc ⟨L, γ, c, hr, h1, h2, h3, h4⟩ hr hO hγ hown' hgr) hgr

/-- Where the mark of bed k begins. -/
def posB (bs : Nat → List Int × Int) : Nat → Int
  | 0 => 1
  | k + 1 => posB bs k + (yl bs k).length + 1
theorem posB_bd {bs : Nat → List Int × Int} {n : Nat} (hs : Short bs n) : ∀ k : Nat, k ≤ n → 1 ≤ posB bs k ∧ posB bs k ≤ 1 + 1048577 * (k : Int)
  | 0, _ => by simp [posB]
  | k + 1, h => by
    have ih := posB_bd hs k (by omega)
    have := hs.2 k (by omega)
    simp only [posB]
    omega
/-- The first k beds marked. -/
def mkB (bs : Nat → List Int × Int) (k : Nat) (j : Nat) : List Int × Int := if j < k then (mkL (posB bs j) (yl bs j).length, posB bs j + (yl bs j).length) else bs j
theorem mkB_len (bs : Nat → List Int × Int) (k j : Nat) : (yl (mkB bs k) j).length = (yl bs j).length := by
  by_cases h : j < k <;> simp [yl, mkB, h, mkL_length]
theorem mkB_short {bs : Nat → List Int × Int} {n : Nat} (hs : Short bs n) (k : Nat) : Short (mkB bs k) n := ⟨hs.1, fun j hj => by rw [mkB_len]; exact hs.2 j hj⟩
theorem mkB_wf {bs : Nat → List Int × Int} {n : Nat} (hs : Short bs n) : ∀ i, i < n → ∀ z ∈ yl (mkB bs n) i, -9223372036854775808 ≤ z ∧ z ≤ 9223372036854775807 := by
  intro i hi z hz
  have h1 := posB_bd hs i (by omega)
  have h2 := hs.2 i hi
  have h3 := hs.1
  simp only [yl, mkB, hi, if_true, mkL, List.mem_map, List.mem_range] at hz
  obtain ⟨j, hj, rfl⟩ := hz
  simp only [yl] at h2
  omega
set_option maxRecDepth 100000 in
set_option maxHeartbeats 2000000 in
theorem markOwn_c (lo hi n : Nat) (v : Value) (bs : Nat → List Int × Int) (w : World) (h : OwnB w lo hi v n bs) (hs : Short bs n) :
    Calls Try.prog 16 #[v, .int .i64 1] w fun e w' => e = .returned (.int .i64 (posB bs n)) ∧ OwnB w' lo hi v n (mkB bs n) ∧ Mid lo hi w w' := by
  have hn := hs.1
  have HSh := Lib.hid hs
  clear hs
  rcases h.form with ⟨rfl, rfl⟩ | ⟨g, c0, rfl⟩
  · have HM := Lib.hid h
    clear h
    go_enter Try.func16, Try.ntmps16
    go_wp2_with fail
    refine wp_loop_rounds 1 ?_
    rw [rounds_succ]
    go_wp2
    go_ret
    exact ⟨rfl, HM.out.congr (fun j hj => absurd hj (by omega)), Mid.refl _ _ _⟩
  · have HM := Lib.hid h
    clear h
    go_enter Try.func16, Try.ntmps16
    go_wp2_with fail
    go_loopw [1, 5] (fun q i wr => ∃ k : Nat, k ≤ n ∧ i = .int .i64 k ∧ q = .int .i64 (posB bs k) ∧ Hid (OwnB wr lo hi (.slice (some ⟨g, 0, none⟩) n c0) n (mkB bs k)) ∧ Mid lo hi w wr) (fun _ i _ => n - (intOf i).toNat)
    case atStart => exact ⟨0, Nat.zero_le _, rfl, rfl, HM.out.congr (fun j _ => rfl), Mid.refl _ _ _⟩
    case round =>
      obtain ⟨k, hk, rfl, rfl, HB, hmid⟩ := hrel
      have hpb := posB_bd HSh.out k hk
      by_cases hlt : k < n
      · obtain ⟨L, γ, c, hr, h1, h2, h3, h4⟩ := HB.out
        obtain ⟨a1, a2, a3, a4⟩ := h3 k hlt
        have hml := mkB_len bs k k
        have hms : (yl bs k).length ≤ 1048576 := HSh.out.2 k hlt
        have HPos : Hid (posB bs (k + 1) = posB bs k + (yl bs k).length + 1) := rfl
        rw [hml] at a2 a4
        have c0' := hr.cellAt (k * 2) (by omega)
        rw [a2] at c0'
        have HA4 : Hid (wr.ownsRow lo 2 1 (.slice (some ⟨γ k, 0, none⟩) (yl bs k).length (c k)) (yl bs k).length (iv (yl (mkB bs k) k))) := by
          have := a4
          unfold Own at this
          rw [hml] at this
          exact this
        have hlo := World.ownsRow.lt hr g rfl
        have hgh := h2 g rfl
        have HR := Lib.hid hr
        have H3 := Lib.hid h3
        have H4 := Lib.hid h4
        have hγg : γ k ≠ g := fun e => row_ne hr a4 (by rw [e]; rfl)
        have hγl := (a4.lt (γ k) rfl).1
        have H1 := Lib.hid (And.intro h1 h2)
        clear a2 a3 a4 hr h3 h4 hml h1 h2
        generalize hpk : posB bs k = r at *
        have HPk := Lib.hid hpk
        clear hpk
        generalize hmk : (yl bs k).length = m at *
        have HMk := Lib.hid hmk
        clear hmk
        go_wp2_with fail
        (with_reducible refine (markInt64S_c _ m (yl (mkB bs k) k) r _ lo HA4.out hms (by omega) (by omega)).mono ?_)
        rintro e w1 ⟨rfl, ho, hgr⟩
        have hgr' : wr.grownBy w1 (some (γ k)) := hgr
        have HO := Lib.hid ho
        have hR1 := World.ownsRow.kept HR.out hgr' (.inr (by show some g ≠ some (γ k); intro e; injection e with e; exact hγg e.symm))
        have d1 := hR1.cellAt (k * 2 + 1) (by omega)
        obtain ⟨x1, hx1⟩ : ∃ x1, L[k * 2 + 1]? = some x1 := ⟨_, (H3.out k hlt).2.2.1⟩
        rw [hx1] at d1
        have f1 := hR1.frozenAt (k * 2 + 1)
        have HR1 := Lib.hid hR1
        have HGR := Lib.hid hgr'
        clear ho hgr hgr' hR1 hx1
        go_wp2_with fail
        go_roundw
        case rel =>
          have hst := HR1.out.stored (k * 2 + 1) (.int .i64 (r + (m : Int)))
          refine ⟨k + 1, by omega, by go_num, by rw [HPos.out], ?_, (hmid.trans (Mid.of_grown HGR.out hγl a1)).set_ hlo.1 hgh _ _⟩
          refine ⟨_, γ, c, hst.1, ?_, H1.out.2, fun j hj => ?_, H4.out⟩
          · have := HGR.out.size
            have := H1.out.1
            simp only [World.setCell, Array.size_modify]; omega
          · obtain ⟨b1, b2, b3, b4⟩ := H3.out j hj
            have hl2 : L.length = n * 2 := HR1.out.1
            by_cases e : j = k
            · subst e
              have e1 : yl (mkB bs (j + 1)) j = mkL r m := by simp [yl, mkB, HPk.out, ← HMk.out]
              have e2 : ag (mkB bs (j + 1)) j = r + m := by simp [ag, mkB, HPk.out, ← HMk.out]
              rw [e1, e2, mkL_length]
              refine ⟨b1, ?_, ?_, ?_⟩
              · rw [List.getElem?_set_ne (by omega), b2, mkB_len, HMk.out]
              · rw [List.getElem?_set_self (by omega)]
              · have ho := own_keep (w' := w1.setCell ⟨g, j * 2 + 1, none⟩ (.int .i64 (r + (m : Int)))) (base := lo) (zs := mkL r m) (v := .slice (some ⟨γ j, 0, none⟩) m (c j)) (by unfold Own; rw [mkL_length]; exact HO.out) (fun q hq => by
                  have e : γ j = q := by simpa [Value.ownBlock] using hq
                  exact Below.heap_setCell _ _ _ _ (by show q ≠ g; omega))
                exact ho
            · have e1 : mkB bs (k + 1) j = mkB bs k j := by
                unfold mkB
                by_cases hh : j < k
                · rw [if_pos hh, if_pos (by omega)]
                · rw [if_neg hh, if_neg (by omega)]
              have e2 : yl (mkB bs (k + 1)) j = yl (mkB bs k) j := by unfold yl; rw [e1]
              have e3 : ag (mkB bs (k + 1)) j = ag (mkB bs k) j := by unfold ag; rw [e1]
              rw [e2, e3]
              refine ⟨b1, ?_, ?_, ?_⟩
              · rw [List.getElem?_set_ne (by omega), b2]
              · rw [List.getElem?_set_ne (by omega), b3]
              · have hne : γ j ≠ γ k := fun e2 => e (H4.out j k hj hlt e2)
                have hjg : γ j ≠ g := fun e => row_ne HR.out b4 (by rw [e]; rfl)
                have b5 := b4.kept HGR.out (.inr (by show some (γ j) ≠ some (γ k); intro e; injection e with e; exact hne e))
                exact own_keep b5 (fun q hq => by
                  have e : γ j = q := by simpa [Value.ownBlock] using hq
                  exact Below.heap_setCell _ _ _ _ (by show q ≠ g; omega))
        case measure => simp [intOf]; omega
      · obtain rfl : k = n := by omega
        go_wp2
        go_ret
        exact ⟨rfl, HB.out, hmid⟩
set_option maxRecDepth 100000 in
/-- Marks that are still there, from any number on. -/
theorem heldFrom_c (A : Option Addr) (n c : Nat) (r : Int) (w : World) (h : Ints w w.heap.size 1 A n (mkL r n)) (hn : n ≤ 1048576) (h0 : 1 ≤ r) (h1 : r ≤ 4503599627370496) :
    Calls Try.prog 57 #[.slice A n c, .int .i64 r] w fun e w' => e = .returned (.int .i64 (r + n)) ∧ Below w.heap.size w w' := by
  have hn' : (n : Int) ≤ 4194304 := by omega
  go_enter Try.func57, Try.ntmps57
  go_wp2_with fail
  go_loopw [1, 5] (fun q i wr => ∃ k : Nat, k ≤ n ∧ i = .int .i64 k ∧ q = .int .i64 (r + k) ∧ Below w.heap.size w wr) (fun _ i _ => n - (intOf i).toNat)
  case atStart => exact ⟨0, Nat.zero_le _, rfl, by simp, Below.refl _ _⟩
  case round =>
    obtain ⟨k, hk, rfl, rfl, hbel⟩ := hrel
    by_cases hlt : k < n
    · obtain ⟨b, off, rfl, hb, c0⟩ := (h.below hbel (Nat.le_refl _)).at1 hlt
      rw [mkL_gi _ _ _ hlt] at c0
      go_wp2_with fail
      try (go_quiet (fail); go_wp2_with fail)
      go_roundw
      case rel => exact ⟨k + 1, by omega, by go_num, by first | go_num | (congr 1; omega), by repeat (first | exact hbel | apply bdrewN)⟩
      case measure => simp [intOf]; omega
    · obtain rfl : k = n := by omega
      go_wp2
      go_ret
      exact ⟨rfl, hbel⟩
set_option maxRecDepth 100000 in
theorem heldOwn_c (A : Option Addr) (n c : Nat) (bs : Nat → List Int × Int) (w : World) (h : Beds w w.heap.size A n (mkB bs n)) (hs : Short bs n) :
    Calls Try.prog 18 #[.slice A n c, .int .i64 1] w fun e w' => e = .returned (.int .i64 (posB bs n)) ∧ Below w.heap.size w w' := by
  have hn := hs.1
  have HSh := Lib.hid hs
  clear hs
  go_enter Try.func18, Try.ntmps18
  go_wp2_with fail
  go_loopw [1, 5] (fun q i wr => ∃ k : Nat, k ≤ n ∧ i = .int .i64 k ∧ q = .int .i64 (posB bs k) ∧ Below w.heap.size w wr) (fun _ i _ => n - (intOf i).toNat)
  case atStart => exact ⟨0, Nat.zero_le _, rfl, rfl, Below.refl _ _⟩
  case round =>
    obtain ⟨k, hk, rfl, rfl, hbel⟩ := hrel
    have hpb := posB_bd HSh.out k hk
    by_cases hlt : k < n
    · obtain ⟨b, off, A', m, c', rfl, hb, x0, x1, hm, hI⟩ := (h.on hbel).at_ k hlt
      have hms : (yl bs k).length ≤ 1048576 := HSh.out.2 k hlt
      have HPos : Hid (posB bs (k + 1) = posB bs k + (yl bs k).length + 1) := rfl
      have e1 : yl (mkB bs n) k = mkL (posB bs k) (yl bs k).length := by simp [yl, mkB, hlt]
      have e2 : ag (mkB bs n) k = posB bs k + (yl bs k).length := by simp [ag, mkB, hlt]
      rw [e1] at hI
      rw [e2] at x1
      have hl := hI.length
      rw [mkL_length, Nat.mul_one] at hl
      subst hl
      generalize hpk : posB bs k = r at *
      have HPk := Lib.hid hpk
      clear hpk e1 e2
      generalize hmk : (yl bs k).length = m at *
      have HMk := Lib.hid hmk
      clear hmk
      have hr0 : ¬ r + (m : Int) < 0 := by omega
      go_wp2_with fail
      (with_reducible refine (heldFrom_c A' m c' r _ hI hms (by omega) (by omega)).mono ?_)
      rintro e w1 ⟨rfl, b1⟩
      have y1 := (b1.cell (p := ⟨b, off + k * 2 + 1, none⟩) (by show b < wr.heap.size; omega)).trans x1
      have HB1 := Lib.hid b1
      clear x0 x1 b1
      go_wp2_with fail
      go_roundw
      case rel => exact ⟨k + 1, by omega, by go_num, by rw [HPos.out], hbel.trans (HB1.out.mono hbel.size)⟩
      case measure => simp [intOf]; omega
    · obtain rfl : k = n := by omega
      go_wp2
      go_ret
      exact ⟨rfl, hbel⟩
end Go.Proofs.Ytnlddplhaiceaaa
