/-
  The verifier's marks of a list of beds.
  No conditions.
-/
import Derived.Test.YtnlddplhaiceaaaBedMark
namespace Go.Proofs.Ytnlddplhaiceaaa
open Go.ChangeShapes Go.WideShapes Go.ChangeAt Go.RowKit Go.Deep

/-- All that was there is as it was, but for the blocks from lo to less than hi. -/
def Mid (lo hi : Nat) (w w' : World) : Prop := w'.os = w.os ∧ w'.tape = w.tape ∧ w'.output = w.output ∧ w.heap.size ≤ w'.heap.size ∧ ∀ k, k < w.heap.size → (k < lo ∨ hi ≤ k) → w'.heap[k]? = w.heap[k]?
section
variable {lo hi : Nat} {w w' w2 : World}
theorem Mid.refl (lo hi : Nat) (w : World) : Mid lo hi w w := ⟨rfl, rfl, rfl, Nat.le_refl _, fun _ _ _ => rfl⟩
theorem Mid.trans (h : Mid lo hi w w') (k : Mid lo hi w' w2) : Mid lo hi w w2 :=
  ⟨k.1.trans h.1, k.2.1.trans h.2.1, k.2.2.1.trans h.2.2.1, Nat.le_trans h.2.2.2.1 k.2.2.2.1, fun i hi hh => (k.2.2.2.2 i (Nat.lt_of_lt_of_le hi h.2.2.2.1) hh).trans (h.2.2.2.2 i hi hh)⟩
theorem Mid.of_grown {g : Nat} (h : w.grownBy w' (some g)) (h1 : lo ≤ g) (h2 : g < hi) : Mid lo hi w w' :=
  ⟨h.os, h.tape, h.output, h.size, fun k hk hne => h.block k hk (fun e => by injection e; omega)⟩
theorem Mid.set_ {g : Nat} (h : Mid lo hi w w') (h1 : lo ≤ g) (h2 : g < hi) (i : Nat) (u : Value) : Mid lo hi w (w'.setCell ⟨g, i, none⟩ u) :=
  ⟨h.1, h.2.1, h.2.2.1, by simpa [World.setCell] using h.2.2.2.1, fun k hk hne => (Below.heap_setCell _ _ _ _ (by show k ≠ g; omega)).trans (h.2.2.2.2 k hk hne)⟩
theorem Mid.below (h : Mid lo hi w w') {B : Nat} (hB : B ≤ lo) (hs : B ≤ w.heap.size) : Below B w w' := ⟨h.1, h.2.1, h.2.2.1, h.2.2.2.1, fun k hk => h.2.2.2.2 k (by omega) (.inl (by omega))⟩
theorem Mid.row {base k n : Nat} {e : TypeId} {v : Value} {xs : List Value} (h : Mid lo hi w w') (ho : w.ownsRow base e k v n xs) (hne : ∀ q, v.ownBlock = some q → q < lo ∨ hi ≤ q) : w'.ownsRow base e k v n xs := by
  refine ⟨ho.1, ?_⟩
  rcases ho.2 with hn | ⟨g, cap, cur, rfl, hb, hgg, rest⟩
  · exact .inl hn
  · refine .inr ⟨g, cap, cur, rfl, hb, ?_, rest⟩
    rw [h.2.2.2.2 g (Array.getElem?_eq_some_iff.1 hgg).1 (hne g rfl)]
    exact hgg
theorem Mid.own {base : Nat} {v : Value} {zs : List Int} (h : Mid lo hi w w') (ho : Own w base v zs) (hne : ∀ q, v.ownBlock = some q → q < lo ∨ hi ≤ q) : Own w' base v zs := h.row ho hne
end
theorem blk_of_own {w : World} {base : Nat} {e : TypeId} {g n : Nat} {L : List Value} (h : w.ownsRow base e 1 (.slice (some ⟨g, 0, none⟩) n n) n L) : Blk w g e L.toArray := by
  rcases h.2 with ⟨h1, _⟩ | ⟨g', cap, cur, h1, _, h2, _, _, h3, h4⟩
  · cases h1
  · simp only [Value.slice.injEq, Option.some.injEq, Addr.mk.injEq, and_true, true_and] at h1
    obtain ⟨rfl, rfl⟩ := h1
    have e1 : cur.toList = L := by rw [← h4, List.take_of_length_le (by simp [h3])]
    rw [← e1]
    exact h2
set_option maxRecDepth 100000 in
set_option maxHeartbeats 1000000 in
theorem markBedS_c (g hi n : Nat) (bs : Nat → List Int × Int) (w : World) (h : Made w g hi bs n n) (hs : Short bs n) :
    Calls Try.prog 16 #[.slice (some ⟨g, 0, none⟩) n n, .int .i64 1] w fun e w' => ∃ r : Int, e = .returned (.int .i64 r) ∧ 1 ≤ r ∧ Mid g hi w w' := by
  have hn := hs.1
  have HM := Lib.hid h
  have HSh := Lib.hid hs
  clear h hs
  go_enter Try.func16, Try.ntmps16
  go_wp2_with fail
  go_loopw [1, 5] (fun q i wr => ∃ (k : Nat) (r : Int), k ≤ n ∧ i = .int .i64 k ∧ q = .int .i64 r ∧ 1 ≤ r ∧ r ≤ 1 + 1048577 * (k : Int) ∧ Hid (∃ bs', (∀ j, j < n → (yl bs' j).length = (yl bs j).length) ∧ Made wr g hi bs' n n) ∧ Mid g hi w wr) (fun _ i _ => n - (intOf i).toNat)
  case atStart => exact ⟨0, 1, Nat.zero_le _, rfl, rfl, by omega, by omega, ⟨bs, fun _ _ => rfl, HM.out⟩, Mid.refl _ _ _⟩
  case round =>
    obtain ⟨k, r, hk, rfl, rfl, hr0, hr1, HB, hmid⟩ := hrel
    by_cases hlt : k < n
    · obtain ⟨bs', hlen, L, γ, hL, hblk, h0, h1, hall, hinj⟩ := HB.out
      obtain ⟨a1, a2, a3, a4, a5⟩ := hall k hlt
      have hms : (yl bs' k).length ≤ 1048576 := by rw [hlen k hlt]; exact HSh.out.2 k hlt
      have c0 := hblk.cell (k * 2)
      rw [List.getElem?_toArray, a3] at c0
      have HA5 := Lib.hid (a5.own (base := 0) (n := (yl bs' k).length) (size := 1) (Nat.zero_le _) (by simp [maxLen]; omega) (by rw [iv_length]; omega))
      have HBk := Lib.hid hblk
      have HAll := Lib.hid hall
      have HL := Lib.hid hL
      have HInj := Lib.hid hinj
      have hgk := a5.lt
      have HLn := Lib.hid hlen
      clear hlen
      clear a3 a4 a5 hblk hall hL hinj
      go_wp2_with fail
      (with_reducible refine (markInt64S_c _ (yl bs' k).length (yl bs' k) r _ 0 HA5.out hms (by omega) (by omega)).mono ?_)
      rintro e w1 ⟨rfl, ho, hgr⟩
      have hgr' : wr.grownBy w1 (some (γ k)) := hgr
      have HO := Lib.hid (blk_of_own ho)
      have HG : Hid (Blk w1 g 41 L.toArray) := HBk.out.grown hgr' (fun e => by injection e; omega)
      obtain ⟨x1, d1⟩ := HG.out.has (k * 2 + 1) (by rw [HL.out]; omega)
      have f1 := HG.out.frozen (k * 2 + 1)
      have HGR := Lib.hid hgr'
      have hgl := HG.out.lt
      clear ho hgr hgr'
      go_wp2_with fail
      go_roundw
      case rel =>
        refine ⟨k + 1, _, by omega, by go_num, rfl, by omega, by omega, ⟨fun j => if j = k then (mkL r (yl bs' k).length, r + ((yl bs' k).length : Int)) else bs' j, fun j hj => ?_, ?_⟩, (hmid.trans (Mid.of_grown HGR.out (by omega) a2)).set_ (Nat.le_refl _) h0 _ _⟩
        · by_cases e : j = k
          · subst e; simp only [yl, if_true, mkL_length]; exact HLn.out j hj
          · simp only [yl, if_neg e]; exact HLn.out j hj
        · refine ⟨L.set (k * 2 + 1) (.int .i64 (r + ((yl bs' k).length : Int))), γ, by simp [HL.out], ?_, h0, ?_, fun j hj => ?_, HInj.out⟩
          · have := HG.out.set_ (k * 2 + 1) (.int .i64 (r + ((yl bs' k).length : Int)))
            rwa [List.setIfInBounds_toArray] at this
          · have := HGR.out.size
            simp only [World.setCell, Array.size_modify]; omega
          · obtain ⟨b1, b2, b3, b4, b5⟩ := HAll.out j hj
            by_cases e : j = k
            · subst e
              refine ⟨b1, b2, ?_, ?_, ?_⟩
              · rw [List.getElem?_set_ne (by omega), b3]; simp [yl, mkL_length]
              · rw [List.getElem?_set_self (by rw [HL.out]; omega)]; simp [ag]
              · have := HO.out.far (p := ⟨g, j * 2 + 1, none⟩) (by show γ j ≠ g; omega) (.int .i64 (r + ((yl bs' j).length : Int)))
                simpa [yl] using this
            · refine ⟨b1, b2, ?_, ?_, ?_⟩
              · rw [List.getElem?_set_ne (by omega), b3]; simp [yl, e]
              · rw [List.getElem?_set_ne (by omega), b4]; simp [ag, e]
              · have h5 := b5.grown HGR.out (fun h => by injection h with h; exact e (HInj.out j k hj hlt h))
                have := h5.far (p := ⟨g, k * 2 + 1, none⟩) (by show γ j ≠ g; omega) (.int .i64 (r + ((yl bs' k).length : Int)))
                simpa [yl, e] using this
      case measure => simp [intOf]; omega
    · obtain rfl : k = n := by omega
      go_wp2
      go_ret
      exact ⟨r, rfl, hr0, hmid⟩

end Go.Proofs.Ytnlddplhaiceaaa
