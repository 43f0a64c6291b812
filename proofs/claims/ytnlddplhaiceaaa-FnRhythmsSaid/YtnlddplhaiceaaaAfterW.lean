/-
  Beds a year later: the walks.
  No conditions.
-/
import Derived.Test.YtnlddplhaiceaaaAfter
import Derived.Test.YtnlddplhaiceaaaCut
namespace Go.Proofs.Ytnlddplhaiceaaa
open Go.ChangeShapes Go.WideShapes Go.ChangeAt Go.RowKit Go.Deep
set_option linter.unusedVariables false

/-- The age of bed i where some have been cut. -/
def cutA (bs : Nat → List Int × Int) (cs : List Int) (m : Nat) (i : Nat) : Int := if hasZ cs (i : Int) m then 0 else ag bs i
/-- The beds a year later. -/
def aftB (bs : Nat → List Int × Int) (cs : List Int) (m : Nat) (i : Nat) : List Int × Int := (yl bs i, if cutA bs cs m i + 1 < (yl bs i).length then cutA bs cs m i + 1 else (yl bs i).length)
theorem aft_yl (bs : Nat → List Int × Int) (cs : List Int) (m : Nat) (i : Nat) : yl (aftB bs cs m) i = yl bs i := rfl
theorem cutA_bd {bs : Nat → List Int × Int} {n : Nat} (hok : okAll (bedAt bs) n 8 = true) (cs : List Int) (m : Nat) {i : Nat} (hi : i < n) : 0 ≤ cutA bs cs m i ∧ cutA bs cs m i ≤ 5 := by
  have h := bedOk_bd (okAll_get hok hi)
  unfold cutA
  split <;> omega
theorem bset' {a w : World} {B : Nat} (h : Below B a w) {p : Addr} (hg : B ≤ p.block) (u : Value) : Below B a (w.setCell p u) := h.setCell hg u

theorem undrew {a w : World} (h : Below a.drew.heap.size a.drew w) : Below a.heap.size a w := ⟨h.os, h.tape, h.output, h.size, h.block⟩
theorem undrewA {a w : World} {o : Obj} (h : Below (a.alloc o).drew.heap.size (a.alloc o).drew w) : Below a.heap.size a w := btrans (balloc (Below.refl _ a) o) (undrew h)
theorem newBed {a w : World} {x y : Value} (h : Below (a.alloc (.cells #[x, y] 41)).drew.heap.size (a.alloc (.cells #[x, y] 41)).drew w) :
    Hid (Blk w a.heap.size 41 #[x, y]) ∧ w.cell? ⟨a.heap.size, 0, none⟩ = some x ∧ w.cell? ⟨a.heap.size, 1, none⟩ = some y ∧ w.frozen? ⟨a.heap.size, 0, none⟩ = false ∧ w.frozen? ⟨a.heap.size, 1, none⟩ = false ∧ a.heap.size < w.heap.size := by
  have hB : Blk w a.heap.size 41 #[x, y] := (show Blk (a.alloc (.cells #[x, y] 41)).drew a.heap.size 41 #[x, y] from Blk.new a _ _).on h
  exact ⟨hB, hB.cell 0, hB.cell 1, hB.frozen 0, hB.frozen 1, hB.lt⟩
theorem blk_at {W : World} {n : Nat} {t : TypeId} {cs : Array Value} (h : W.heap.size = n) : Blk (W.alloc (.cells cs t)) n t cs := by subst h; exact Blk.new _ _ _
theorem ne_bed {w : World} {base γ m c g : Nat} {zs : List Int} {cs : Array Value} (ho : Own w base (.slice (some ⟨γ, 0, none⟩) m c) zs) (hb : Blk w g 41 cs) : γ ≠ g := by
  rintro rfl
  obtain ⟨cur, hc⟩ := own_heap ho
  have hb' : w.heap[γ]? = some (.cells cs 41 (0, 0)) := hb
  rw [hc] at hb'
  simp at hb'
theorem own_far {w : World} {base γ m c : Nat} {zs : List Int} (h : Own w base (.slice (some ⟨γ, 0, none⟩) m c) zs) {g : Nat} (hne : γ ≠ g) {i : Nat} (u : Value) : Own (w.setCell ⟨g, i, none⟩ u) base (.slice (some ⟨γ, 0, none⟩) m c) zs :=
  own_keep h (fun q hq => by
    have e : γ = q := by simpa [Value.ownBlock] using hq
    exact Below.heap_setCell _ _ _ _ (by show q ≠ g; omega))
theorem size_setCell (w : World) (p : Addr) (u : Value) : (w.setCell p u).heap.size = w.heap.size := by simp [World.setCell]
set_option maxRecDepth 100000 in
set_option maxHeartbeats 4000000 in
theorem after_s (A A2 : Option Addr) (n c m c2 : Nat) (bs : Nat → List Int × Int) (cs : List Int) (w : World) (h : Beds w w.heap.size A n bs) (hok : okAll (bedAt bs) n 8 = true) (h2 : Ints w w.heap.size 1 A2 m cs) (hm : m ≤ 1048576) :
    Calls Try.prog 53 #[.slice A n c, .slice A2 m c2] w fun e w' => ∃ v, e = .returned v ∧ OwnB w' w.heap.size w'.heap.size v n (aftB bs cs m) ∧ Below w.heap.size w w' := by
  have hn := okAll_le hok
  go_enter Try.func53, Try.ntmps53
  go_wp2_with fail
  go_loopw [5, 6] (fun o i wr => ∃ k : Nat, k ≤ n ∧ i = .int .i64 k ∧ Hid (OwnB wr w.heap.size wr.heap.size o k (aftB bs cs m)) ∧ Below w.heap.size w wr) (fun _ i _ => n - (intOf i).toNat)
  case atStart => exact ⟨0, Nat.zero_le _, rfl, OwnB.empty w (Nat.le_refl _) _, balloc (Below.refl _ _) _⟩
  case round =>
    obtain ⟨k, hk, rfl, HO, hbel⟩ := hrel
    by_cases hlt : k < n
    · have hB := h.on hbel
      have h2' := h2.on hbel
      obtain ⟨b, off, A', m', c', rfl, hb, c0, c1, hm', hI⟩ := hB.at_ k hlt
      obtain rfl : m' = (yl bs k).length := by have := hI.length; omega
      have hbo := bedOk_bd (okAll_get hok hlt)
      have g1 := hbo.1
      have g2 := hbo.2.1
      have g3 := hbo.2.2.1
      have g4 := hbo.2.2.2.1
      have hcb := cutA_bd hok cs m hlt
      have HI := Lib.hid hI
      have H2 := Lib.hid h2'
      have HAft : Hid (yl (aftB bs cs m) k = yl bs k ∧ ag (aftB bs cs m) k = if cutA bs cs m k + 1 < (yl bs k).length then cutA bs cs m k + 1 else (yl bs k).length) := ⟨rfl, rfl⟩
      have HCut : Hid (cutA bs cs m k = if hasZ cs (k : Int) m then 0 else ag bs k) := rfl
      have hws := hbel.size
      clear hbo hB hI h2'
      generalize hyl : yl bs k = ys at *
      have HYL := Lib.hid hyl
      clear hyl
      generalize hag : ag bs k = a at *
      clear hag
      generalize hct : cutA bs cs m k = x at *
      clear hct
      generalize hlen : ys.length = l at *
      have HLen := Lib.hid hlen
      clear hlen
      go_wp2_with fail
      go_region_held3 (fun w' => w'.cell? ⟨b, off + k * 2, none⟩ = some (.slice A' l c') ∧ w'.cell? ⟨b, off + k * 2 + 1, none⟩ = some (.int .i64 a) ∧ Below wr.heap.size wr w') (first | exact keepB c0 c1 hb hb (Below.refl _ _) | exact keepB c0 c1 hb hb (Below.refl _ _).drew | exact keepB c0 c1 hb hb (undrew hby) | exact keepB c0 c1 hb hb (balloc (undrew hby) _) | exact keepB c0 c1 hb hb (balloc (Below.refl _ _) _) | exact keepB c0 c1 hb hb (balloc (Below.refl _ _) _).drew | exact keepB c0 c1 hb hb (undrewA hby) | exact keepB c0 c1 hb hb (bset (bset (undrewA hby) (Nat.le_refl _) _) (Nat.le_refl _) _)) ((go_at_call 82; refine (l00Own_c A' l c' ys _ (HI.out.on (‹_ ∧ _ ∧ Below wr.heap.size wr _›.2.2)) (by omega) (by omega)).mono ?_; rintro e wy ⟨γ0, cc, rfl, hO, hby⟩; (first | (have hbz := undrewA hby; obtain ⟨XB, X0, X1, F0, F1, XL⟩ := newBed hby) | have hbz := undrew hby)))
      all_goals
        have HW := Lib.hid (‹_ ∧ _ ∧ Below wr.heap.size wr _›.2.2)
        have HOy := Lib.hid (hO.base_le (b' := wr.heap.size) (by first | exact Nat.le_refl _ | simp [World.drew]))
        have HHas : Hid (x = if hasZ cs (k : Int) m then 0 else a) := HCut.out
        have hγ0 := (HOy.out.lt γ0 rfl).1
        have hwy := hbz.size
        clear hO
        first
        | (have HB2 : Hid (Blk ((wy.setCell ⟨wr.heap.size, 0, none⟩ (.slice (some ⟨γ0, 0, none⟩) l cc)).setCell ⟨wr.heap.size, 1, none⟩ (.int .i64 a)) wr.heap.size 41 #[.slice (some ⟨γ0, 0, none⟩) l cc, .int .i64 a]) := (XB.out.set_ 0 _).set_ 1 _
           have HO2 : Hid (Own ((wy.setCell ⟨wr.heap.size, 0, none⟩ (.slice (some ⟨γ0, 0, none⟩) l cc)).setCell ⟨wr.heap.size, 1, none⟩ (.int .i64 a)) wr.heap.size (.slice (some ⟨γ0, 0, none⟩) l cc) ys) := own_keep HOy.out (fun q hq => by
             have e : γ0 = q := by simpa [Value.ownBlock] using hq
             have hne : q ≠ wr.heap.size := by rw [← e]; exact ne_bed HOy.out XB.out
             exact (Below.heap_setCell _ _ _ _ hne).trans (Below.heap_setCell _ _ _ _ hne))
           have x0 := HB2.out.cell 0
           have x1 := HB2.out.cell 1
           have f0 := HB2.out.frozen 0
           have f1 := HB2.out.frozen 1
           have hgl := HB2.out.lt
           simp only [List.getElem?_toArray, List.getElem?_cons_zero, List.getElem?_cons_succ] at x0 x1
           have hγX : γ0 ≠ wr.heap.size := ne_bed HOy.out XB.out
           generalize hW2 : (wy.setCell ⟨wr.heap.size, 0, none⟩ (.slice (some ⟨γ0, 0, none⟩) l cc)).setCell ⟨wr.heap.size, 1, none⟩ (.int .i64 a) = W2 at *
           have hXw : wr.heap.size ≤ wr.heap.size := Nat.le_refl _
           clear hW2 hwy hby HOy hbz HCut X0 X1 F0 F1 XL XB)
        | (have HB2 : Hid (Blk (wy.alloc (.cells #[.slice (some ⟨γ0, 0, none⟩) l cc, .int .i64 a] 41)) wy.heap.size 41 #[.slice (some ⟨γ0, 0, none⟩) l cc, .int .i64 a]) := Blk.new _ _ _
           have HO2 : Hid (Own (wy.alloc (.cells #[.slice (some ⟨γ0, 0, none⟩) l cc, .int .i64 a] 41)) wr.heap.size (.slice (some ⟨γ0, 0, none⟩) l cc) ys) := HOy.out.alloc _
           have x0 := HB2.out.cell 0
           have x1 := HB2.out.cell 1
           have f0 := HB2.out.frozen 0
           have f1 := HB2.out.frozen 1
           have hgl := HB2.out.lt
           simp only [List.getElem?_toArray, List.getElem?_cons_zero, List.getElem?_cons_succ] at x0 x1
           generalize hW2 : wy.alloc (.cells #[.slice (some ⟨γ0, 0, none⟩) l cc, .int .i64 a] 41) = W2 at *
           have hXw : wr.heap.size ≤ wy.heap.size := hwy
           have hγX : γ0 ≠ wy.heap.size := by have := (HOy.out.lt γ0 rfl).2; omega
           generalize wy.heap.size = X at *
           clear hW2 hwy hby HOy hbz HCut)
        have hW2s := HW.out.size
        rcases hh : hasZ cs (k : Int) m with _ | _
        · have hxx := HHas.out
          rw [hh] at hxx
          simp only [Bool.false_eq_true, if_false] at hxx
          subst hxx
          clear HHas
          go_wp2_with fail
          refine (has_s A2 m c2 cs (k : Int) _ (H2.out.on HW.out) hm).mono ?_
          rintro e w1 ⟨rfl, rfl⟩
          rw [hh]
          by_cases hmin : x + 1 < (l : Int)
          · have HV : Hid (ag (aftB bs cs m) k = x + 1) := by show _ = _; rw [HAft.out.2]; simp <;> omega
            go_wp2_with fail
            refine (l00Min_lt (x + 1) l _ hmin).mono ?_
            rintro e w2 ⟨rfl, rfl⟩
            go_wp2_with (at_builtin; go_loud (refine append_bed rfl (.tmp 39) (.tmp 41) rfl w.heap.size wr.heap.size _ k (aftB bs cs m) rfl (HO.out.below (by first | exact balloc (bset HW.out hXw _) _ | exact balloc (bset (bset HW.out hXw _) hXw _) _) (Nat.le_refl _)) γ0 cc hγ0 (by rw [HAft.out.1, HLen.out]; first | exact (own_far (HO2.out.base_le hws) hγX _).alloc _ | exact (own_far (own_far (HO2.out.base_le hws) hγX _) hγX _).alloc _) _ rfl (by rw [HAft.out.1, HLen.out, HV.out]; exact blk_at (by simp [size_setCell])) (by omega) (by simp [size_setCell]; omega) ?_); intro v1 w3 hown1 hgr1)
            go_roundw
            case rel => exact ⟨k + 1, by omega, by go_num, hown1, below_grown (btrans hbel (by first | exact balloc (bset HW.out hXw _) _ | exact balloc (bset (bset HW.out hXw _) hXw _) _)) hgr1 (fun g hg => (HO.out.lt g hg).1)⟩
            case measure => simp [intOf]; omega
          · have HV : Hid (ag (aftB bs cs m) k = l) := by show _ = _; rw [HAft.out.2]; simp <;> omega
            go_wp2_with fail
            refine (l00Min_ge (x + 1) l _ (by omega)).mono ?_
            rintro e w2 ⟨rfl, rfl⟩
            go_wp2_with (at_builtin; go_loud (refine append_bed rfl (.tmp 39) (.tmp 41) rfl w.heap.size wr.heap.size _ k (aftB bs cs m) rfl (HO.out.below (by first | exact balloc (bset HW.out hXw _) _ | exact balloc (bset (bset HW.out hXw _) hXw _) _) (Nat.le_refl _)) γ0 cc hγ0 (by rw [HAft.out.1, HLen.out]; first | exact (own_far (HO2.out.base_le hws) hγX _).alloc _ | exact (own_far (own_far (HO2.out.base_le hws) hγX _) hγX _).alloc _) _ rfl (by rw [HAft.out.1, HLen.out, HV.out]; exact blk_at (by simp [size_setCell])) (by omega) (by simp [size_setCell]; omega) ?_); intro v1 w3 hown1 hgr1)
            go_roundw
            case rel => exact ⟨k + 1, by omega, by go_num, hown1, below_grown (btrans hbel (by first | exact balloc (bset HW.out hXw _) _ | exact balloc (bset (bset HW.out hXw _) hXw _) _)) hgr1 (fun g hg => (HO.out.lt g hg).1)⟩
            case measure => simp [intOf]; omega
        · have hxx := HHas.out
          rw [hh] at hxx
          simp only [if_true] at hxx
          subst hxx
          clear HHas
          go_wp2_with fail
          refine (has_s A2 m c2 cs (k : Int) _ (H2.out.on HW.out) hm).mono ?_
          rintro e w1 ⟨rfl, rfl⟩
          rw [hh]
          by_cases hmin : (1 : Int) < (l : Int)
          · have HV : Hid (ag (aftB bs cs m) k = 1) := by show _ = _; rw [HAft.out.2]; simp <;> omega
            go_wp2_with fail
            refine (l00Min_lt 1 l _ hmin).mono ?_
            rintro e w2 ⟨rfl, rfl⟩
            go_wp2_with (at_builtin; go_loud (refine append_bed rfl (.tmp 39) (.tmp 41) rfl w.heap.size wr.heap.size _ k (aftB bs cs m) rfl (HO.out.below (by first | exact balloc (bset HW.out hXw _) _ | exact balloc (bset (bset HW.out hXw _) hXw _) _) (Nat.le_refl _)) γ0 cc hγ0 (by rw [HAft.out.1, HLen.out]; first | exact (own_far (HO2.out.base_le hws) hγX _).alloc _ | exact (own_far (own_far (HO2.out.base_le hws) hγX _) hγX _).alloc _) _ rfl (by rw [HAft.out.1, HLen.out, HV.out]; exact blk_at (by simp [size_setCell])) (by omega) (by simp [size_setCell]; omega) ?_); intro v1 w3 hown1 hgr1)
            go_roundw
            case rel => exact ⟨k + 1, by omega, by go_num, hown1, below_grown (btrans hbel (by first | exact balloc (bset HW.out hXw _) _ | exact balloc (bset (bset HW.out hXw _) hXw _) _)) hgr1 (fun g hg => (HO.out.lt g hg).1)⟩
            case measure => simp [intOf]; omega
          · have HV : Hid (ag (aftB bs cs m) k = l) := by show _ = _; rw [HAft.out.2]; simp <;> omega
            go_wp2_with fail
            refine (l00Min_ge 1 l _ (by omega)).mono ?_
            rintro e w2 ⟨rfl, rfl⟩
            go_wp2_with (at_builtin; go_loud (refine append_bed rfl (.tmp 39) (.tmp 41) rfl w.heap.size wr.heap.size _ k (aftB bs cs m) rfl (HO.out.below (by first | exact balloc (bset HW.out hXw _) _ | exact balloc (bset (bset HW.out hXw _) hXw _) _) (Nat.le_refl _)) γ0 cc hγ0 (by rw [HAft.out.1, HLen.out]; first | exact (own_far (HO2.out.base_le hws) hγX _).alloc _ | exact (own_far (own_far (HO2.out.base_le hws) hγX _) hγX _).alloc _) _ rfl (by rw [HAft.out.1, HLen.out, HV.out]; exact blk_at (by simp [size_setCell])) (by omega) (by simp [size_setCell]; omega) ?_); intro v1 w3 hown1 hgr1)
            go_roundw
            case rel => exact ⟨k + 1, by omega, by go_num, hown1, below_grown (btrans hbel (by first | exact balloc (bset HW.out hXw _) _ | exact balloc (bset (bset HW.out hXw _) hXw _) _)) hgr1 (fun g hg => (HO.out.lt g hg).1)⟩
            case measure => simp [intOf]; omega
    · obtain rfl : k = n := by omega
      go_wp2
      go_ret
      exact ⟨_, rfl, HO.out, hbel⟩
end Go.Proofs.Ytnlddplhaiceaaa
