/-
  EarliestPlan: what it answers.
  No conditions.
-/
import Derived.Test.YtnagaopogmdfgaaEarlyQ
import Derived.Test.YtnagaopogmdfgaaEarly
namespace Go.Proofs.Ytnagaopogmdfgaa
open Go.ChangeShapes Go.WideShapes Go.ChangeAt Go.RowKit Go.Deep

/-- Batches in a slice of the call's own. -/
def Own4 (w : World) (base : Nat) (v : Value) (n : Nat) (zs : List Int) : Prop := w.ownsRow base 32 4 v n (iv zs)
section
variable {w w' : World} {base n : Nat} {v : Value} {zs : List Int}
theorem Own4.on (h : Own4 w base v n zs) (hb : Below w.heap.size w w') : Own4 w' base v n zs :=
  World.ownsRow.kept (row := none) h ⟨hb.os, hb.tape, hb.output, hb.size, fun k hk _ => hb.block k hk⟩ (by cases v.ownBlock <;> simp)
theorem Own4.alloc (h : Own4 w base v n zs) (o : Obj) : Own4 (w.alloc o) base v n zs := World.ownsRow.alloc h o
theorem Own4.lt (h : Own4 w base v n zs) : ∀ k, v.ownBlock = some k → base ≤ k ∧ k < w.heap.size := World.ownsRow.lt h
theorem Own4.length (h : Own4 w base v n zs) : zs.length = n * 4 := by have := h.1; rwa [iv_length] at this
theorem Own4.ints (h : Own4 w base v n zs) (hw : ∀ z ∈ zs, -9223372036854775808 ≤ z ∧ z ≤ 9223372036854775807) : ∃ A c, v = .slice A n c ∧ Ints w w.heap.size 4 A n zs ∧ (A = none → n = 0) := by
  have hl := h.length
  rcases h.2 with ⟨rfl, h0⟩ | ⟨g, cap, cur, rfl, h1⟩
  · subst h0
    obtain rfl : zs = [] := List.eq_nil_of_length_eq_zero (by omega)
    exact ⟨none, 0, rfl, ⟨Reads.none_, by simp⟩, fun _ => rfl⟩
  · exact ⟨_, cap, rfl, ⟨Reads.of_own h, hw⟩, fun h => by cases h⟩
theorem Own4.base_le {b' : Nat} (h : Own4 w base v n zs) (hb : b' ≤ base) : Own4 w b' v n zs := by
  refine ⟨h.1, ?_⟩
  rcases h.2 with h1 | ⟨g, cap, cur, e1, e2, r⟩
  · exact .inl h1
  · exact .inr ⟨g, cap, cur, e1, by omega, r⟩
theorem Own4.empty (w : World) (hb : base ≤ w.heap.size) : Own4 (w.alloc (.cells #[] 32)) base (.slice (some ⟨w.heap.size, 0, none⟩) 0 0) 0 [] := by
  have := World.ownsRow_lit (base := base) (e := 32) (size := 4) (w := w) #[] 0 hb (by simp [maxLen]) rfl
  exact this
theorem Own4.nil (w : World) (base : Nat) : Own4 w base (.slice none 0 0) 0 [] := World.ownsRow_nil _ _ _ _
end
/-- The same, the number of batches told by the list. -/
def Own4L (w : World) (base : Nat) (v : Value) (zs : List Int) : Prop := Own4 w base v (zs.length / 4) zs
theorem Own4.l {w : World} {base n : Nat} {v : Value} {zs : List Int} (h : Own4 w base v n zs) : Own4L w base v zs := by
  have hl := h.length
  unfold Own4L
  rw [show zs.length / 4 = n by omega]
  exact h
theorem numAt_blk {w : World} {g : Nat} {t : TypeId} {x : Int} {cs : Array Value} (h : Blk w g t cs) (hc : cs[0]? = some (.int .i64 x)) : numAt w ⟨g, 0, none⟩ = x := by
  simp only [numAt, h.cell, hc, Option.getD_some]; rfl
theorem Own.one (w : World) (x : Int) : Own (w.alloc (.cells #[.int .i64 x] 2)) w.heap.size (.slice (some ⟨w.heap.size, 0, none⟩) 1 1) [x] :=
  Own.of_blk (zs := [x]) (Blk.new w _ _) (Nat.le_refl _) (by simp [maxLen])
theorem own_set {w : World} {base : Nat} {v : Value} {zs : List Int} (h : Own w base v zs) (g i : Nat) (u : Value) (hne : ∀ q, v.ownBlock = some q → q ≠ g) : Own (w.setCell ⟨g, i, none⟩ u) base v zs :=
  World.ownsRow.kept (row := some g) h ⟨rfl, rfl, rfl, by simp [World.setCell], fun k _ hk2 => Below.heap_setCell _ _ _ _ (fun e => hk2 (by rw [e]))⟩ (by
    rcases hv : v.ownBlock with _ | q
    · exact .inl rfl
    · refine .inr fun he => hne q hv (by injection he))
theorem plTo_succ (zs : List Int) (room : Int) (k : Nat) (ps : List Int) (h : plTo zs room k = some ps) :
    plTo zs room (k + 1) = if 5000 < nextT zs ps k room then none else some (ps ++ [nextT zs ps k room, gi zs (k * 4 + 1), gi zs (k * 4 + 2), gi zs (k * 4 + 3)]) := by
  simp only [plTo, h]
theorem plTo_none {zs : List Int} {room : Int} {k : Nat} (h : plTo zs room k = none) : ∀ m : Nat, plTo zs room (k + m) = none
  | 0 => h
  | m + 1 => by
    have := plTo_none h m
    rw [← Nat.add_assoc]
    simp only [plTo, this]
theorem big_bad {zs : List Int} {n k : Nat} {room : Int} (hk : k < n) (h : room < gi zs (k * 4 + 3)) : epBig zs n room = false := all_bad hk (decide_eq_false (by omega))
theorem big_end {zs : List Int} {n : Nat} {room : Int} (h : ∀ j, j < n → gi zs (j * 4 + 3) ≤ room) : epBig zs n room = true := all_end fun j hj => decide_eq_true (h j hj)

set_option maxRecDepth 100000 in
set_option maxHeartbeats 4000000 in
theorem early_s (A : Option Addr) (n c : Nat) (zs : List Int) (room : Int) (w : World) (h : Ints w w.heap.size 4 A n zs) (hn : n ≤ 1048576) :
    Calls Try.prog 35 #[.slice A n c, .int .i64 room] w fun e w' => ∃ v, e = .returned (.tuple #[v, .int .i64 (epC zs n room)]) ∧ Own4L w' w.heap.size v (epL zs n room) ∧ Below w.heap.size w w' := by
  rcases hok : okAll (batchAt zs) n 10 with _ | _
  · have HR : Hid (roomC zs n room = 1) := by show _ = _; simp [roomC, hok]
    have HV : Hid (epL zs n room = [] ∧ epC zs n room = 1) := by show _ ∧ _; simp [epL, epC, hok]
    go_enter Try.func35, Try.ntmps35
    go_wp2_with fail
    refine (room_s _ _ _ zs _ _ h hn).mono ?_
    rintro e w1 ⟨rfl, hb1⟩
    rw [HR.out]
    go_wp2
    go_ret2
    exact ⟨_, by rw [HV.out.2]; rfl, by rw [HV.out.1]; exact Own4.nil _ _, hb1⟩
  · refine inR_split room 0 100 (fun hr r0 r1 => ?_) (fun hr => ?_)
    · have HR : Hid (roomC zs n room = 0) := by show _ = _; simp [roomC, hok, hr]
      have hn10 := okAll_le hok
      go_enter Try.func35, Try.ntmps35
      go_wp2_with fail
      refine (room_s _ _ _ zs _ _ h hn).mono ?_
      rintro e w1 ⟨rfl, hb1⟩
      rw [HR.out]
      go_wp2_with fail
      go_loopw [7] (fun i wr => ∃ k : Nat, k ≤ n ∧ i = .int .i64 k ∧ Hid (∀ j, j < k → gi zs (j * 4 + 3) ≤ room) ∧ Below w.heap.size w wr) (fun i _ => n - (intOf i).toNat)
      case atStart => exact ⟨0, Nat.zero_le _, rfl, fun j h => absurd h (by omega), hb1⟩
      case round =>
        obtain ⟨k, hk, rfl, HK, hbel⟩ := hrel
        by_cases hlt : k < n
        · obtain ⟨b, off, rfl, hb, c0, c1, c2, c3⟩ := (h.on hbel).at4 hlt
          by_cases q1 : gi zs (k * 4 + 3) ≤ room
          · go_wp2_with fail
            go_roundw
            case rel =>
              refine ⟨k + 1, by omega, by go_num, fun j hj => ?_, hbel⟩
              rcases Nat.lt_or_ge j k with hh | hh
              · exact HK.out j hh
              · obtain rfl : j = k := by omega
                exact q1
            case measure => simp [intOf]; omega
          · have HV : Hid (epL zs n room = [] ∧ epC zs n room = 5) := by show _ ∧ _; simp [epL, epC, hok, hr, big_bad hlt (by omega : room < gi zs (k * 4 + 3))]
            go_wp2_with fail
            go_ret2
            exact ⟨_, by rw [HV.out.2]; rfl, by rw [HV.out.1]; exact Own4.nil _ _, hbel⟩
        · obtain rfl : k = n := by omega
          have hbig := big_end HK.out
          have HV : Hid (epL zs k room = (plTo zs room k).getD [] ∧ epC zs k room = if plTo zs room k = none then 6 else 0) := by show _ ∧ _; simp [epL, epC, hok, hr, hbig]
          have HPL := Lib.hid (plTo_plan (room := room) hok hbig)
          have HBT := Lib.hid (fun j (hj : j < k) => batchOk_bd (okAll_get hok hj))
          have HBU := Lib.hid HK.out
          clear hbig HK
          go_wp2_with fail
          go_loopw [8, 9] (fun o i wr => ∃ (q : Nat) (ps : List Int), q ≤ k ∧ i = .int .i64 q ∧ Hid (plTo zs room q = some ps) ∧ Own4 wr w.heap.size o q ps ∧ Below w.heap.size w wr) (fun _ i _ => k - (intOf i).toNat)
          case atStart => exact ⟨0, [], Nat.zero_le _, rfl, rfl, Own4.empty _ hbel.size, balloc hbel _⟩
          case round =>
            obtain ⟨q, ps, hq, rfl, HP, hown, hbw⟩ := hrel
            have hbase := hbw.size
            by_cases hlt2 : q < k
            · have hplan := HPL.out q ps hq HP.out
              have hbt := HBT.out q hlt2
              have hbu := HBU.out q hlt2
              obtain ⟨j0, hj0, e1, e2, e3⟩ := early_ex (so := gi zs (q * 4 + 1)) (hplan.placed (by omega)) hbu hbt.1 hbt.2.1
              have HN := Lib.hid (plTo_succ zs room q ps HP.out)
              have HT : Hid (nextT zs ps q room = gi zs (q * 4) + j0) := e3
              have HE1 := Lib.hid e1
              have HE2 := Lib.hid e2
              clear e1 e2 e3
              obtain ⟨b, off, rfl, hb, c0, c1, c2, c3⟩ := (h.on hbw).at4 hlt2
              generalize gi zs (q * 4) = st at *
              generalize gi zs (q * 4 + 1) = so at *
              generalize gi zs (q * 4 + 2) = su at *
              generalize gi zs (q * 4 + 3) = bu at *
              obtain ⟨t0, t1, t2, t3, t4, t5, t6, t7⟩ := hbt
              have HO := Lib.hid hown
              have HX := Lib.hid hbw
              clear hown hbw
              go_wp2_with fail
              go_loopw [41] (fun _u wq => ∃ j : Nat, j ≤ j0 ∧ Hid (∀ i : Nat, i < j → spB ps q so bu room (st + i) = false) ∧ Blk wq wr.heap.size 32 #[.int .i64 (st + j), .int .i64 so, .int .i64 su, .int .i64 bu] ∧ Below wr.heap.size wr wq) (fun _ wq => (20000 - numAt wq ⟨wr.heap.size, 0, none⟩).toNat)
              case atStart => exact ⟨0, by omega, fun i hi => absurd hi (by omega), by simpa using Blk.new wr _ _, balloc (Below.refl _ _) _⟩
              case round =>
                obtain ⟨j, hj, HJ, hblk, hbq⟩ := hrel
                have HB := Lib.hid hblk
                have X := hblk
                have Xl := X.lt
                have Xc0 := X.cell 0
                have Xf0 := X.frozen 0
                have Xc1 := X.cell 1
                have Xf1 := X.frozen 1
                have Xc2 := X.cell 2
                have Xf2 := X.frozen 2
                have Xc3 := X.cell 3
                have Xf3 := X.frozen 3
                simp at Xc0 Xc1 Xc2 Xc3
                have XH := Lib.hid X
                clear X
                have hO2 := HO.out.on hbq
                have hsz := hbq.size
                obtain ⟨A2, c4, rfl, i2, -⟩ := hO2.ints hplan.wf
                have HO2 := Lib.hid hO2
                have HQ := Lib.hid hbq
                clear hO2 hblk hbq
                rcases hsp : spB ps q so bu room (st + j) with _ | _
                · have hjj : j < j0 := by
                    rcases Nat.lt_or_ge j j0 with hh | hh
                    · exact hh
                    · obtain rfl : j = j0 := by omega
                      rw [HE1.out] at hsp; cases hsp
                  go_wp2_with fail
                  (with_reducible refine (fits_s A2 q c4 ps (st + j) so su bu room _ i2 hplan.loose (by omega) (by omega) t2 t3 t6 hbu r1).mono ?_)
                  rintro e w4 ⟨rfl, hb4⟩
                  rw [hsp]
                  have Y := HB.out.on hb4
                  have Yl := Y.lt
                  have Yc0 := Y.cell 0
                  have Yf0 := Y.frozen 0
                  have Yc1 := Y.cell 1
                  have Yf1 := Y.frozen 1
                  have Yc2 := Y.cell 2
                  have Yf2 := Y.frozen 2
                  have Yc3 := Y.cell 3
                  have Yf3 := Y.frozen 3
                  simp at Yc0 Yc1 Yc2 Yc3
                  have YH := Lib.hid Y
                  clear Y
                  have HZ := Lib.hid (btrans HQ.out hb4)
                  clear hb4 Xc0 Xc1 Xc2 Xc3 Xf0 Xf1 Xf2 Xf3 Xl
                  go_wp2_with fail
                  go_roundw
                  case rel =>
                    refine ⟨j + 1, by omega, fun i hi => ?_, ?_, bset HZ.out (Nat.le_refl _) _⟩
                    · rcases Nat.lt_or_ge i j with hh | hh
                      · exact HJ.out i hh
                      · obtain rfl : i = j := by omega
                        exact hsp
                    · have := YH.out.set_ 0 (.int .i64 (st + j + 1))
                      have e : ((j + 1 : Nat) : Int) = (j : Int) + 1 := by omega
                      rw [e, ← Int.add_assoc]
                      simpa using this
                  case measure =>
                    have e1 := numAt_blk HB.out (x := st + j) rfl
                    have e2 := numAt_blk (YH.out.set_ 0 (.int .i64 (st + j + 1))) (x := st + j + 1) rfl
                    rw [e1, e2]; omega
                · obtain rfl : j = j0 := by
                    rcases Nat.lt_or_ge j j0 with hh | hh
                    · rw [HE2.out j hh] at hsp; cases hsp
                    · omega
                  go_wp2_with fail
                  (with_reducible refine (fits_s A2 q c4 ps (st + j) so su bu room _ i2 hplan.loose (by omega) (by omega) t2 t3 t6 hbu r1).mono ?_)
                  rintro e w4 ⟨rfl, hb4⟩
                  rw [hsp]
                  have Y := HB.out.on hb4
                  have Yl := Y.lt
                  have Yc0 := Y.cell 0
                  have Yf0 := Y.frozen 0
                  have Yc1 := Y.cell 1
                  have Yf1 := Y.frozen 1
                  have Yc2 := Y.cell 2
                  have Yf2 := Y.frozen 2
                  have Yc3 := Y.cell 3
                  have Yf3 := Y.frozen 3
                  simp at Yc0 Yc1 Yc2 Yc3
                  have YH := Lib.hid Y
                  clear Y
                  have HZ := Lib.hid (btrans HQ.out hb4)
                  have HO4 := Lib.hid (HO2.out.on hb4)
                  clear hb4 Xc0 Xc1 Xc2 Xc3 Xf0 Xf1 Xf2 Xf3 Xl i2
                  by_cases hbig : 5000 < st + (j : Int)
                  · have HPN : Hid (plTo zs room k = none) := by
                      have e := HN.out
                      rw [HT.out, if_pos hbig] at e
                      obtain ⟨m, rfl⟩ : ∃ m, k = q + 1 + m := ⟨k - (q + 1), by omega⟩
                      exact plTo_none e m
                    have HE : Hid (epL zs k room = [] ∧ epC zs k room = 6) := by
                      have e := HV.out
                      rw [HPN.out] at e
                      exact e
                    go_wp2_with fail
                    go_ret2
                    exact ⟨_, by rw [HE.out.2]; rfl, by rw [HE.out.1]; exact Own4.nil _ _, btrans HX.out HZ.out⟩
                  · have HP2 : Hid (plTo zs room (q + 1) = some (ps ++ [st + (j : Int), so, su, bu])) := by
                      have e := HN.out
                      rw [HT.out, if_neg hbig] at e
                      exact e
                    have HG := Lib.hid (Blk.new w4 32 #[.int .i64 (st + (j : Int)), .int .i64 so, .int .i64 su, .int .i64 bu])
                    have hzs := (btrans HX.out HZ.out).size
                    go_wp2_with (at_builtin; refine append_batch rfl (.tmp 53) (.tmp 55) rfl w.heap.size _ q ps rfl (Own4.alloc HO4.out _) [st + (j : Int), so, su, bu] rfl _ rfl HG.out (by omega) (by simp; omega) ?_; intro v1 w6 hown1 hgr1)
                    go_roundw
                    case rel => exact ⟨q + 1, _, by omega, by go_num, HP2, hown1, (balloc (btrans HX.out HZ.out) _).grown hgr1 (by simp; omega) (fun g hg => (HO4.out.lt g hg).1)⟩
                    case measure => simp [intOf]; omega
            · obtain rfl : q = k := by omega
              have HE : Hid (epL zs q room = ps ∧ epC zs q room = 0) := by
                have e := HV.out
                rw [HP.out] at e
                exact e
              go_wp2
              go_ret2
              exact ⟨_, by rw [HE.out.2]; rfl, by rw [HE.out.1]; exact hown.l, hbw⟩
    · have HR : Hid (roomC zs n room = 2) := by show _ = _; simp [roomC, hok, hr]
      have HV : Hid (epL zs n room = [] ∧ epC zs n room = 2) := by show _ ∧ _; simp [epL, epC, hok, hr]
      go_enter Try.func35, Try.ntmps35
      go_wp2_with fail
      refine (room_s _ _ _ zs _ _ h hn).mono ?_
      rintro e w1 ⟨rfl, hb1⟩
      rw [HR.out]
      go_wp2
      go_ret2
      exact ⟨_, by rw [HV.out.2]; rfl, by rw [HV.out.1]; exact Own4.nil _ _, hb1⟩
set_option maxRecDepth 100000 in
set_option maxHeartbeats 4000000 in
theorem early_i (A : Option Addr) (n c : Nat) (zs : List Int) (room : Int) (w : World) (h : Ints w w.heap.size 4 A n zs) (hn : n ≤ 1048576) :
    Calls Try.prog 16 #[.slice A n c, .int .i64 room] w fun e w' => ∃ v, e = .returned (.tuple #[v, .int .i64 (epC zs n room)]) ∧ Own4L w' w.heap.size v (epL zs n room) ∧ Below w.heap.size w w' := by
  rcases hok : okAll (batchAt zs) n 10 with _ | _
  · skip
    have HV : Hid (epL zs n room = [] ∧ epC zs n room = 1) := by show _ ∧ _; simp [epL, epC, hok]
    go_enter Try.func16, Try.ntmps16
    go_wp2_with fail
    refine (ValidBatches_c _ _ _ zs _ h hn).mono ?_
    rintro e w1 ⟨rfl, hb1⟩
    rw [hok]
    go_wp2
    go_ret2
    exact ⟨_, by rw [HV.out.2]; rfl, by rw [HV.out.1]; exact Own4.nil _ _, hb1⟩
  · refine inR_split room 0 100 (fun hr r0 r1 => ?_) (fun hr => ?_)
    · have hn10 := okAll_le hok
      go_enter Try.func16, Try.ntmps16
      go_wp2_with fail
      refine (ValidBatches_c _ _ _ zs _ h hn).mono ?_
      rintro e w1 ⟨rfl, hb1⟩
      rw [hok]
      go_wp2_with (first | (go_at_call 40; refine (within_c _ _ _ _).mono ?_; rintro e w' ⟨rfl, rfl⟩))
      go_loopw [24] (fun i wr => ∃ k : Nat, k ≤ n ∧ i = .int .i64 k ∧ Hid (∀ j, j < k → gi zs (j * 4 + 3) ≤ room) ∧ Below w.heap.size w wr) (fun i _ => n - (intOf i).toNat)
      case atStart => exact ⟨0, Nat.zero_le _, rfl, fun j h => absurd h (by omega), hb1⟩
      case round =>
        obtain ⟨k, hk, rfl, HK, hbel⟩ := hrel
        by_cases hlt : k < n
        · obtain ⟨b, off, rfl, hb, c0, c1, c2, c3⟩ := (h.on hbel).at4 hlt
          by_cases q1 : gi zs (k * 4 + 3) ≤ room
          · go_wp2_with fail
            go_roundw
            case rel =>
              refine ⟨k + 1, by omega, by go_num, fun j hj => ?_, balloc hbel _⟩
              rcases Nat.lt_or_ge j k with hh | hh
              · exact HK.out j hh
              · obtain rfl : j = k := by omega
                exact q1
            case measure => simp [intOf]; omega
          · have HV : Hid (epL zs n room = [] ∧ epC zs n room = 5) := by show _ ∧ _; simp [epL, epC, hok, hr, big_bad hlt (by omega : room < gi zs (k * 4 + 3))]
            go_wp2_with fail
            go_ret2
            exact ⟨_, by rw [HV.out.2]; rfl, by rw [HV.out.1]; exact Own4.nil _ _, balloc hbel _⟩
        · obtain rfl : k = n := by omega
          have hbig := big_end HK.out
          have HV : Hid (epL zs k room = (plTo zs room k).getD [] ∧ epC zs k room = if plTo zs room k = none then 6 else 0) := by show _ ∧ _; simp [epL, epC, hok, hr, hbig]
          have HPL := Lib.hid (plTo_plan (room := room) hok hbig)
          have HBT := Lib.hid (fun j (hj : j < k) => batchOk_bd (okAll_get hok hj))
          have HBU := Lib.hid HK.out
          clear hbig HK
          go_wp2_with fail
          go_loopw [8, 36] (fun o i wr => ∃ (q : Nat) (ps : List Int), q ≤ k ∧ i = .int .i64 q ∧ Hid (plTo zs room q = some ps) ∧ Own4 wr w.heap.size o q ps ∧ Below w.heap.size w wr) (fun _ i _ => k - (intOf i).toNat)
          case atStart => exact ⟨0, [], Nat.zero_le _, rfl, rfl, Own4.empty _ hbel.size, balloc hbel _⟩
          case round =>
            obtain ⟨q, ps, hq, rfl, HP, hown, hbw⟩ := hrel
            obtain ⟨wo, rfl⟩ : ∃ wo : World, wo = wr := ⟨_, rfl⟩
            have hbase := hbw.size
            by_cases hlt2 : q < k
            · have hplan := HPL.out q ps hq HP.out
              have hbt := HBT.out q hlt2
              have hbu := HBU.out q hlt2
              have HN := Lib.hid (plTo_succ zs room q ps HP.out)
              obtain ⟨f1, f2, f3⟩ := first_cand (so := gi zs (q * 4 + 1)) (hplan.placed (by omega)) (by omega) hbu hbt.1 hbt.2.1
              have HF1 := Lib.hid f1
              have HF2 := Lib.hid f2
              have HF3 := Lib.hid f3
              clear f1 f2 f3
              have HT : Hid (nextT zs ps q room = leastFrom (spB ps q (gi zs (q * 4 + 1)) (gi zs (q * 4 + 3)) room) 6000 (gi zs (q * 4))) := rfl
              have HCL := Lib.hid (candTo_len ps (gi zs (q * 4)) q)
              have HSL := Lib.hid (srt_len (candTo ps (gi zs (q * 4)) q))
              obtain ⟨b, off, rfl, hb, c0, c1, c2, c3⟩ := (h.on hbw).at4 hlt2
              generalize gi zs (q * 4) = st at *
              generalize gi zs (q * 4 + 1) = so at *
              generalize gi zs (q * 4 + 2) = su at *
              generalize gi zs (q * 4 + 3) = bu at *
              obtain ⟨t0, t1, t2, t3, t4, t5, t6, t7⟩ := hbt
              obtain ⟨A2, c4, rfl, i2, -⟩ := hown.ints hplan.wf
              have HO := Lib.hid hown
              have HX := Lib.hid hbw
              clear hown hbw
              go_wp2_with fail
              go_loopw [11, 45] (fun v i wq => ∃ j : Nat, j ≤ q ∧ i = .int .i64 j ∧ Own wq (wo.heap.size + 1) v (candTo ps st j) ∧ Blk wq wo.heap.size 32 #[.int .i64 st, .int .i64 so, .int .i64 su, .int .i64 bu] ∧ Below wo.heap.size wo wq) (fun _ i _ => q - (intOf i).toNat)
              case atStart => exact ⟨0, Nat.zero_le _, rfl, by have := Own.one (wo.alloc (.cells #[.int .i64 st, .int .i64 so, .int .i64 su, .int .i64 bu] 32)) st; rw [show candTo ps st 0 = [st] from rfl]; simpa using this, (Blk.new wo _ _).alloc _, balloc (balloc (Below.refl _ _) _) _⟩
              case round =>
                obtain ⟨j, hj, rfl, hst, hblk, hbq⟩ := hrel
                have hsz := hbq.size
                have HQ := Lib.hid hbq
                have HI2 := Lib.hid (i2.on hbq)
                have hcl := candTo_len ps st j
                clear hbq
                by_cases hjq : j < q
                · have hlo := hplan.loose.2 j hjq
                  obtain ⟨b5, o5, rfl, hb5, e0, e1, e2, e3⟩ := HI2.out.at4 hjq
                  have HC : Hid (candTo ps st (j + 1) = candTo ps st j ++ [max st (gi ps (j * 4) + gi ps (j * 4 + 1))]) := rfl
                  have HS := Lib.hid hst
                  have X := hblk
                  have Xl := X.lt
                  have Xc0 := X.cell 0
                  have Xf0 := X.frozen 0
                  have Xc1 := X.cell 1
                  have Xf1 := X.frozen 1
                  have Xc2 := X.cell 2
                  have Xf2 := X.frozen 2
                  have Xc3 := X.cell 3
                  have Xf3 := X.frozen 3
                  simp at Xc0 Xc1 Xc2 Xc3
                  have XH := Lib.hid X
                  clear X
                  have hxl := Xl
                  clear hst
                  go_wp2_with (at_builtin; refine append_int rfl (.tmp 49) (.tmp 58) rfl _ _ _ rfl (Own.alloc (Own.alloc HS.out _) _) (max st (gi ps (j * 4) + gi ps (j * 4 + 1))) _ rfl (Blk.new1 _ _ _ _) (by omega) (by simp; omega) ?_; intro v1 w5 hown1 hgr1)
                  go_roundw
                  case rel => exact ⟨j + 1, by omega, by go_num, by rw [HC.out]; exact hown1, ((XH.out.alloc _).alloc _).grown hgr1 (fun e => by have := (HS.out.lt _ e.symm).1; omega), below_grown (balloc (balloc HQ.out _) _) hgr1 (fun g hg => by have := (HS.out.lt g hg).1; omega)⟩
                  case measure => simp [intOf]; omega
                · obtain rfl : j = q := by omega
                  have hlq : (candTo ps st j).length = j + 1 := HCL.out
                  have HST := Lib.hid hst
                  rcases hst.2 with ⟨_, h0⟩ | ⟨g, cap, cur, rfl, hgb, _⟩
                  · omega
                  have HXB := Lib.hid hblk
                  have hl16 : (candTo ps st j).length ≤ 1048576 := by omega
                  have HLQ := Lib.hid hlq
                  clear hblk hst hcl hlq
                  go_wp2_with fail
                  (with_reducible refine (sort_own _ g _ cap (candTo ps st j) _ HST.out hl16).mono ?_)
                  rintro e w5 ⟨rfl, ho5, hgr5⟩
                  have HO5 := Lib.hid ho5
                  have HX5 : Hid (Blk w5 _ 32 #[.int .i64 st, .int .i64 so, .int .i64 su, .int .i64 bu]) := HXB.out.grown hgr5 (fun e => by injection e; omega)
                  have HQ5 := Lib.hid (below_grown HQ.out hgr5 (fun q hq => by injection hq; omega))
                  obtain ⟨As, cs, es, is, -⟩ := ho5.ints (fun z hz => by
                    have hm := srt_mem.1 hz
                    rcases (candTo_mem ps st z j).1 hm with h | ⟨q, hq, h⟩
                    · omega
                    · have := hplan.loose.2 q hq
                      unfold endF at h; omega)
                  simp only [Value.slice.injEq] at es
                  obtain ⟨rfl, hls, rfl⟩ := es
                  have HLS := Lib.hid hls
                  clear ho5 hgr5 hls HXB HQ HST hl16
                  have hS16 : (srt (candTo ps st j)).length ≤ 11 := by have := HSL.out; have := HLQ.out; omega
                  generalize hsv : srt (candTo ps st j) = sv at *
                  clear hsv
                  have hlp := hplan.loose
                  rw [HLS.out]
                  rw [HLS.out] at HO5
                  go_wp2_with fail
                  go_loopw [65] (fun i wq => ∃ (m : Nat) (x : Int), m ≤ sv.length ∧ i = .int .i64 m ∧ Hid (∀ i, i < m → spB ps j so bu room (gi sv i) = false) ∧ Own wq (wo.heap.size + 1) (.slice (some ⟨g, 0, none⟩) sv.length cap) sv ∧ Blk wq wo.heap.size 32 #[.int .i64 x, .int .i64 so, .int .i64 su, .int .i64 bu] ∧ Below wo.heap.size wo wq) (fun i _ => sv.length - (intOf i).toNat)
                  case atStart => exact ⟨0, st, Nat.zero_le _, rfl, fun i hi => absurd hi (by omega), HO5.out, HX5.out, HQ5.out⟩
                  case round =>
                    obtain ⟨m, x, hm, rfl, HNo, hso, hblk, hbq⟩ := hrel
                    by_cases hml : m < sv.length
                    · have hsb := HF1.out m hml
                      have HOs := Lib.hid hso
                      have HQs := Lib.hid hbq
                      obtain ⟨A7, c7, e7, i7, -⟩ := hso.ints (fun z hz => by
                        obtain ⟨r, hr, rfl⟩ := List.mem_iff_getElem.1 hz
                        have := HF1.out r hr
                        rw [gi_at hr] at this; omega)
                      simp only [Value.slice.injEq] at e7
                      obtain ⟨rfl, -, rfl⟩ := e7
                      obtain ⟨b8, o8, e8, hb8, d0⟩ := i7.at1 hml
                      simp only [Option.some.injEq, Addr.mk.injEq, and_true] at e8
                      obtain ⟨rfl, rfl⟩ := e8
                      simp only [Nat.zero_add] at d0
                      have HX7 := Lib.hid (hblk.set_ 0 (.int .i64 (gi sv m)))
                      have HO7 := Lib.hid (own_set HOs.out wo.heap.size 0 (.int .i64 (gi sv m)) (fun q hq => by simp [Value.ownBlock] at hq; omega))
                      have HQ7 := Lib.hid (bset hbq (Nat.le_refl _) (g := wo.heap.size) (i := 0) (.int .i64 (gi sv m)))
                      have X := hblk
                      have Xl := X.lt
                      have Xc0 := X.cell 0
                      have Xf0 := X.frozen 0
                      have Xc1 := X.cell 1
                      have Xf1 := X.frozen 1
                      have Xc2 := X.cell 2
                      have Xf2 := X.frozen 2
                      have Xc3 := X.cell 3
                      have Xf3 := X.frozen 3
                      simp at Xc0 Xc1 Xc2 Xc3
                      have XH := Lib.hid X
                      clear X
                      clear hso hbq hblk i7
                      rcases hsp : spB ps j so bu room (gi sv m) with _ | _
                      · skip
                        go_wp2_with fail
                        (with_reducible refine (fits_i A2 j c4 ps (gi sv m) so su bu room _ (i2.on HQ7.out) hlp (by omega) (by omega) t2 t3 t6 hbu r1).mono ?_)
                        rintro e w8 ⟨rfl, hb8⟩
                        rw [hsp]
                        have HB8 := Lib.hid hb8
                        clear hb8
                        go_wp2_with fail
                        go_roundw
                        case rel =>
                          refine ⟨m + 1, gi sv m, by omega, by go_num, fun i hi => ?_, HO7.out.on HB8.out, HX7.out.on HB8.out, btrans HQ7.out HB8.out⟩
                          rcases Nat.lt_or_ge i m with hh | hh
                          · exact HNo.out i hh
                          · obtain rfl : i = m := by omega
                            exact hsp
                        case measure => simp [intOf]; omega
                      · have HT2 : Hid (nextT zs ps j room = gi sv m) := by show _ = _; rw [HT.out]; exact (HF3.out m hml hsp HNo.out).symm
                        go_wp2_with fail
                        (with_reducible refine (fits_i A2 j c4 ps (gi sv m) so su bu room _ (i2.on HQ7.out) hlp (by omega) (by omega) t2 t3 t6 hbu r1).mono ?_)
                        rintro e w8 ⟨rfl, hb8⟩
                        rw [hsp]
                        have Y := HX7.out.on hb8
                        have Yl := Y.lt
                        have Yc0 := Y.cell 0
                        have Yf0 := Y.frozen 0
                        have Yc1 := Y.cell 1
                        have Yf1 := Y.frozen 1
                        have Yc2 := Y.cell 2
                        have Yf2 := Y.frozen 2
                        have Yc3 := Y.cell 3
                        have Yf3 := Y.frozen 3
                        simp at Yc0 Yc1 Yc2 Yc3
                        have YH := Lib.hid Y
                        clear Y
                        have HB8 := Lib.hid (btrans HQ7.out hb8)
                        have HZ8 := Lib.hid (HO.out.on (btrans HQ7.out hb8))
                        clear hb8 Xc0 Xc1 Xc2 Xc3 Xf0 Xf1 Xf2 Xf3 Xl
                        by_cases hbig : 5000 < gi sv m
                        · have HPN : Hid (plTo zs room k = none) := by
                            have e := HN.out
                            rw [HT2.out, if_pos hbig] at e
                            obtain ⟨r, rfl⟩ : ∃ r, k = j + 1 + r := ⟨k - (j + 1), by omega⟩
                            exact plTo_none e r
                          have HE : Hid (epL zs k room = [] ∧ epC zs k room = 6) := by
                            have e := HV.out
                            rw [HPN.out] at e
                            exact e
                          go_wp2_with fail
                          go_ret2
                          exact ⟨_, by rw [HE.out.2]; rfl, by rw [HE.out.1]; exact Own4.nil _ _, btrans HX.out HB8.out⟩
                        · have HP2 : Hid (plTo zs room (j + 1) = some (ps ++ [gi sv m, so, su, bu])) := by
                            have e := HN.out
                            rw [HT2.out, if_neg hbig] at e
                            exact e
                          have hzs := (btrans HX.out HB8.out).size
                          go_wp2_with (at_builtin; refine append_batch rfl (.tmp 79) (.tmp 81) rfl w.heap.size _ j ps rfl (Own4.alloc HZ8.out _) [gi sv m, so, su, bu] rfl _ rfl (Blk.new _ _ _) (by omega) (by simp; omega) ?_; intro v1 w6 hown1 hgr1)
                          go_roundw
                          case rel => exact ⟨j + 1, _, by omega, by go_num, HP2, hown1, (balloc (btrans HX.out HB8.out) _).grown hgr1 (by simp; omega) (fun g hg => (HZ8.out.lt g hg).1)⟩
                          case measure => simp [intOf]; omega
                    · exfalso
                      obtain ⟨i, hi, he⟩ := HF2.out
                      have := HNo.out i (by omega)
                      rw [he] at this; cases this
            · obtain rfl : q = k := by omega
              have HE : Hid (epL zs q room = ps ∧ epC zs q room = 0) := by
                have e := HV.out
                rw [HP.out] at e
                exact e
              go_wp2
              go_ret2
              exact ⟨_, by rw [HE.out.2]; rfl, by rw [HE.out.1]; exact hown.l, hbw⟩
    · skip
      have HV : Hid (epL zs n room = [] ∧ epC zs n room = 2) := by show _ ∧ _; simp [epL, epC, hok, hr]
      go_enter Try.func16, Try.ntmps16
      go_wp2_with fail
      refine (ValidBatches_c _ _ _ zs _ h hn).mono ?_
      rintro e w1 ⟨rfl, hb1⟩
      rw [hok]
      go_wp2_with (first | (go_at_call 40; refine (within_c _ _ _ _).mono ?_; rintro e w' ⟨rfl, rfl⟩))
      go_ret2
      exact ⟨_, by rw [HV.out.2]; rfl, by rw [HV.out.1]; exact Own4.nil _ _, hb1⟩

end Go.Proofs.Ytnagaopogmdfgaa
