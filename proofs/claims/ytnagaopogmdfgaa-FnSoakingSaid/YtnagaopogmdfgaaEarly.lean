/-
  EarliestPlan: whether there is room, and the plan.
  No conditions.
-/
import Derived.Test.YtnagaopogmdfgaaEarlyP
import Derived.Test.YtnagaopogmdfgaaHours
import Derived.Deep.RegionHeld3
namespace Go.Proofs.Ytnagaopogmdfgaa
open Go.ChangeShapes Go.WideShapes Go.ChangeAt Go.RowKit Go.Deep

theorem Ints.on {w w' : World} {k n : Nat} {A : Option Addr} {zs : List Int} (h : Ints w w.heap.size k A n zs) (hb : Below w.heap.size w w') : Ints w' w'.heap.size k A n zs := (h.below hb (Nat.le_refl _)).more hb.size
theorem keep4 {wq w' : World} {g : Nat} {t : TypeId} {x0 x1 x2 x3 : Value} (hX : Blk wq g t #[x0, x1, x2, x3]) (hb : Below wq.heap.size wq w') :
    w'.cell? ⟨g, 0, none⟩ = some x0 ∧ w'.cell? ⟨g, 1, none⟩ = some x1 ∧ w'.cell? ⟨g, 3, none⟩ = some x3 ∧ Below wq.heap.size wq w' := by
  have a0 := (hX.on hb).cell 0
  have a1 := (hX.on hb).cell 1
  have a3 := (hX.on hb).cell 3
  simp at a0 a1 a3
  exact ⟨a0, a1, a3, hb⟩
theorem all_bad {p : Nat → Bool} {m k : Nat} (hk : k < m) (h : p k = false) : (List.range m).all p = false := by
  rw [Bool.eq_false_iff]; intro hh; rw [List.all_eq_true] at hh
  have := hh k (List.mem_range.2 hk); rw [h] at this; cases this
theorem all_end {p : Nat → Bool} {m : Nat} (h : ∀ j, j < m → p j = true) : (List.range m).all p = true := by
  rw [List.all_eq_true]; intro x hx; exact h x (List.mem_range.1 hx)

set_option maxHeartbeats 2000000 in
theorem fits_i (A : Option Addr) (m c : Nat) (ps : List Int) (st so su bu room : Int) (w : World) (h : Ints w w.heap.size 4 A m ps) (hl : Loose ps m) (h0 : 0 ≤ st) (h1 : st ≤ 100000) (h2 : 1 ≤ so) (h3 : so ≤ 500) (h4 : 1 ≤ bu) (h5 : bu ≤ room) (h6 : room ≤ 100) :
    Calls Try.prog 42 #[.slice A m c, .agg #[.int .i64 st, .int .i64 so, .int .i64 su, .int .i64 bu], .int .i64 room] w fun e w' => e = .returned (.bool (spB ps m so bu room st)) ∧ Below w.heap.size w w' := by
  have hm := hl.1
  have HSP : Hid (spB ps m so bu room st = (List.range m).all (imB ps m so bu room st)) := im_sp h2 h5
  go_enter Try.func42, Try.ntmps42
  go_wp2_with fail
  go_loopw [12] (fun i wr => ∃ k : Nat, k ≤ m ∧ i = .int .i64 k ∧ Hid (∀ j, j < k → imB ps m so bu room st j = true) ∧ Blk wr w.heap.size 32 #[.int .i64 st, .int .i64 so, .int .i64 su, .int .i64 bu] ∧ Below w.heap.size w wr) (fun i _ => m - (intOf i).toNat)
  case atStart => exact ⟨0, Nat.zero_le _, rfl, fun j h => absurd h (by omega), Blk.new w _ _, balloc (Below.refl _ _) _⟩
  case round =>
    obtain ⟨k, hk, rfl, HK, hblk, hbel⟩ := hrel
    by_cases hlt : k < m
    · have hwb := hl.2 k hlt
      obtain ⟨b, off, rfl, hb, c0, c1, c2, c3⟩ := (h.below hbel (Nat.le_refl _)).at4 hlt
      by_cases hc : st ≤ gi ps (k * 4)
      · have HI : Hid (imB ps m so bu room st k = (!(decide (gi ps (k * 4) < st + so)) || decide (sumTo (tankF ps (gi ps (k * 4))) m + bu ≤ room))) := by show _ = _; rw [imB, Int.max_eq_left hc]
        have htk := tank_bd (h := gi ps (k * 4)) hl m (Nat.le_refl _)
        have X := hblk
        have Xl := X.lt
        have Xc0 := X.cell 0
        have Xf0 := X.frozen 0
        have Xc1 := X.cell 1
        have Xf1 := X.frozen 1
        have Xc2 := X.cell 2
        have Xf2 := X.frozen 2
        have Xc3 := X.cell 3
        have Xf3 := X.frozen 3
        simp at Xc0 Xc1 Xc2 Xc3
        have XH := Lib.hid X
        clear X
        have hxl : w.heap.size < wr.heap.size := Xl
        have HX2 := Lib.hid hbel
        clear hbel
        have HW1 : IntKind.i64.wrap (st + so) = st + so := IntWalk.i64_in _ (by omega)
        by_cases q1 : gi ps (k * 4) < st + so
        · generalize hT : sumTo (tankF ps (gi ps (k * 4))) m = T at *
          have HT := Lib.hid hT
          clear hT
          have HW2 : IntKind.i64.wrap (T + bu) = T + bu := IntWalk.i64_in _ (by omega)
          have hd1 : decide (gi ps (k * 4) < st + so) = true := by simpa using q1
          have HI2 : Hid (imB ps m so bu room st k = decide (T + bu ≤ room)) := by show _ = _; rw [HI.out, hd1]; rfl
          by_cases q2 : T + bu ≤ room
          · skip
            go_wp2_with fail
            go_region_held3 (fun w' => w'.cell? ⟨w.heap.size, 0, none⟩ = some (.int .i64 st) ∧ w'.cell? ⟨w.heap.size, 1, none⟩ = some (.int .i64 so) ∧ w'.cell? ⟨w.heap.size, 3, none⟩ = some (.int .i64 bu) ∧ Below (wr.alloc (.cells #[.int .i64 (gi ps (k * 4)), .int .i64 (gi ps (k * 4 + 1)), .int .i64 (gi ps (k * 4 + 2)), .int .i64 (gi ps (k * 4 + 3))] 32)).heap.size (wr.alloc (.cells #[.int .i64 (gi ps (k * 4)), .int .i64 (gi ps (k * 4 + 1)), .int .i64 (gi ps (k * 4 + 2)), .int .i64 (gi ps (k * 4 + 3))] 32)) w') (first | exact keep4 (XH.out.alloc _) (Below.refl _ _) | exact keep4 (XH.out.alloc _) (Below.refl _ _).drew | exact keep4 (XH.out.alloc _) (btrans (‹_ ∧ _ ∧ _ ∧ Below _ _ _›.2.2.2) ‹Below _ _ _›)) ((go_at_call 43; refine (tankF_i _ m c ps _ _ (h.on (btrans (balloc HX2.out _) (‹_ ∧ _ ∧ _ ∧ Below _ _ _›.2.2.2))) hl).mono ?_; rintro e wy ⟨rfl, by_⟩; rw [HT.out]))
            have HS := Lib.hid (‹_ ∧ _ ∧ _ ∧ Below _ _ wy›.2.2.2)
            clear by_ HW1 HW2
            go_wp2_with fail
            go_roundw
            case rel =>
              refine ⟨k + 1, by omega, by go_num, fun j hj => ?_, (XH.out.alloc _).on HS.out, btrans (balloc HX2.out _) HS.out⟩
              rcases Nat.lt_or_ge j k with hh | hh
              · exact HK.out j hh
              · obtain rfl : j = k := by omega
                rw [HI2.out]; exact decide_eq_true q2
            case measure => simp [intOf]; omega
          · skip
            go_wp2_with fail
            go_region_held3 (fun w' => w'.cell? ⟨w.heap.size, 0, none⟩ = some (.int .i64 st) ∧ w'.cell? ⟨w.heap.size, 1, none⟩ = some (.int .i64 so) ∧ w'.cell? ⟨w.heap.size, 3, none⟩ = some (.int .i64 bu) ∧ Below (wr.alloc (.cells #[.int .i64 (gi ps (k * 4)), .int .i64 (gi ps (k * 4 + 1)), .int .i64 (gi ps (k * 4 + 2)), .int .i64 (gi ps (k * 4 + 3))] 32)).heap.size (wr.alloc (.cells #[.int .i64 (gi ps (k * 4)), .int .i64 (gi ps (k * 4 + 1)), .int .i64 (gi ps (k * 4 + 2)), .int .i64 (gi ps (k * 4 + 3))] 32)) w') (first | exact keep4 (XH.out.alloc _) (Below.refl _ _) | exact keep4 (XH.out.alloc _) (Below.refl _ _).drew | exact keep4 (XH.out.alloc _) (btrans (‹_ ∧ _ ∧ _ ∧ Below _ _ _›.2.2.2) ‹Below _ _ _›)) ((go_at_call 43; refine (tankF_i _ m c ps _ _ (h.on (btrans (balloc HX2.out _) (‹_ ∧ _ ∧ _ ∧ Below _ _ _›.2.2.2))) hl).mono ?_; rintro e wy ⟨rfl, by_⟩; rw [HT.out]))
            have HS := Lib.hid (‹_ ∧ _ ∧ _ ∧ Below _ _ wy›.2.2.2)
            clear by_ HW1 HW2
            have HV : Hid (spB ps m so bu room st = false) := by show _ = _; rw [HSP.out]; exact all_bad hlt (by rw [HI2.out]; exact decide_eq_false (by omega))
            go_wp2_with fail
            go_ret
            exact ⟨ret_bool HV.out.symm, btrans (balloc HX2.out _) HS.out⟩
        · have hd1 : decide (gi ps (k * 4) < st + so) = false := by simpa using q1
          have HI1 : Hid (imB ps m so bu room st k = true) := by show _ = _; rw [HI.out, hd1]; rfl
          go_wp2_with fail
          go_quiet (fail)
          clear HW1
          go_wp2_with fail
          go_roundw
          case rel =>
            refine ⟨k + 1, by omega, by go_num, fun j hj => ?_, (XH.out.alloc _).drewN _, bdrewN (balloc HX2.out _) _⟩
            rcases Nat.lt_or_ge j k with hh | hh
            · exact HK.out j hh
            · obtain rfl : j = k := by omega
              exact HI1.out
          case measure => simp [intOf]; omega
      · have HI : Hid (imB ps m so bu room st k = (!(decide (st < st + so)) || decide (sumTo (tankF ps (st)) m + bu ≤ room))) := by show _ = _; rw [imB, Int.max_eq_right (by omega)]
        have htk := tank_bd (h := st) hl m (Nat.le_refl _)
        have X := hblk
        have Xl := X.lt
        have Xc0 := X.cell 0
        have Xf0 := X.frozen 0
        have Xc1 := X.cell 1
        have Xf1 := X.frozen 1
        have Xc2 := X.cell 2
        have Xf2 := X.frozen 2
        have Xc3 := X.cell 3
        have Xf3 := X.frozen 3
        simp at Xc0 Xc1 Xc2 Xc3
        have XH := Lib.hid X
        clear X
        have hxl : w.heap.size < wr.heap.size := Xl
        have HX2 := Lib.hid hbel
        clear hbel
        have HW1 : IntKind.i64.wrap (st + so) = st + so := IntWalk.i64_in _ (by omega)
        by_cases q1 : st < st + so
        · generalize hT : sumTo (tankF ps (st)) m = T at *
          have HT := Lib.hid hT
          clear hT
          have HW2 : IntKind.i64.wrap (T + bu) = T + bu := IntWalk.i64_in _ (by omega)
          have hd1 : decide (st < st + so) = true := by simpa using q1
          have HI2 : Hid (imB ps m so bu room st k = decide (T + bu ≤ room)) := by show _ = _; rw [HI.out, hd1]; rfl
          by_cases q2 : T + bu ≤ room
          · skip
            go_wp2_with fail
            go_region_held3 (fun w' => w'.cell? ⟨w.heap.size, 0, none⟩ = some (.int .i64 st) ∧ w'.cell? ⟨w.heap.size, 1, none⟩ = some (.int .i64 so) ∧ w'.cell? ⟨w.heap.size, 3, none⟩ = some (.int .i64 bu) ∧ Below (wr.alloc (.cells #[.int .i64 (gi ps (k * 4)), .int .i64 (gi ps (k * 4 + 1)), .int .i64 (gi ps (k * 4 + 2)), .int .i64 (gi ps (k * 4 + 3))] 32)).heap.size (wr.alloc (.cells #[.int .i64 (gi ps (k * 4)), .int .i64 (gi ps (k * 4 + 1)), .int .i64 (gi ps (k * 4 + 2)), .int .i64 (gi ps (k * 4 + 3))] 32)) w') (first | exact keep4 (XH.out.alloc _) (Below.refl _ _) | exact keep4 (XH.out.alloc _) (Below.refl _ _).drew | exact keep4 (XH.out.alloc _) (btrans (‹_ ∧ _ ∧ _ ∧ Below _ _ _›.2.2.2) ‹Below _ _ _›)) ((go_at_call 43; refine (tankF_i _ m c ps _ _ (h.on (btrans (balloc HX2.out _) (‹_ ∧ _ ∧ _ ∧ Below _ _ _›.2.2.2))) hl).mono ?_; rintro e wy ⟨rfl, by_⟩; rw [HT.out]))
            have HS := Lib.hid (‹_ ∧ _ ∧ _ ∧ Below _ _ wy›.2.2.2)
            clear by_ HW1 HW2
            go_wp2_with fail
            go_roundw
            case rel =>
              refine ⟨k + 1, by omega, by go_num, fun j hj => ?_, (XH.out.alloc _).on HS.out, btrans (balloc HX2.out _) HS.out⟩
              rcases Nat.lt_or_ge j k with hh | hh
              · exact HK.out j hh
              · obtain rfl : j = k := by omega
                rw [HI2.out]; exact decide_eq_true q2
            case measure => simp [intOf]; omega
          · skip
            go_wp2_with fail
            go_region_held3 (fun w' => w'.cell? ⟨w.heap.size, 0, none⟩ = some (.int .i64 st) ∧ w'.cell? ⟨w.heap.size, 1, none⟩ = some (.int .i64 so) ∧ w'.cell? ⟨w.heap.size, 3, none⟩ = some (.int .i64 bu) ∧ Below (wr.alloc (.cells #[.int .i64 (gi ps (k * 4)), .int .i64 (gi ps (k * 4 + 1)), .int .i64 (gi ps (k * 4 + 2)), .int .i64 (gi ps (k * 4 + 3))] 32)).heap.size (wr.alloc (.cells #[.int .i64 (gi ps (k * 4)), .int .i64 (gi ps (k * 4 + 1)), .int .i64 (gi ps (k * 4 + 2)), .int .i64 (gi ps (k * 4 + 3))] 32)) w') (first | exact keep4 (XH.out.alloc _) (Below.refl _ _) | exact keep4 (XH.out.alloc _) (Below.refl _ _).drew | exact keep4 (XH.out.alloc _) (btrans (‹_ ∧ _ ∧ _ ∧ Below _ _ _›.2.2.2) ‹Below _ _ _›)) ((go_at_call 43; refine (tankF_i _ m c ps _ _ (h.on (btrans (balloc HX2.out _) (‹_ ∧ _ ∧ _ ∧ Below _ _ _›.2.2.2))) hl).mono ?_; rintro e wy ⟨rfl, by_⟩; rw [HT.out]))
            have HS := Lib.hid (‹_ ∧ _ ∧ _ ∧ Below _ _ wy›.2.2.2)
            clear by_ HW1 HW2
            have HV : Hid (spB ps m so bu room st = false) := by show _ = _; rw [HSP.out]; exact all_bad hlt (by rw [HI2.out]; exact decide_eq_false (by omega))
            go_wp2_with fail
            go_ret
            exact ⟨ret_bool HV.out.symm, btrans (balloc HX2.out _) HS.out⟩
        · exact absurd (by omega) q1
    · obtain rfl : k = m := by omega
      have HE : Hid (spB ps k so bu room st = true) := by show _ = _; rw [HSP.out]; exact all_end HK.out
      have X := hblk
      have Xl := X.lt
      have Xc0 := X.cell 0
      have Xf0 := X.frozen 0
      have Xc1 := X.cell 1
      have Xf1 := X.frozen 1
      have Xc2 := X.cell 2
      have Xf2 := X.frozen 2
      have Xc3 := X.cell 3
      have Xf3 := X.frozen 3
      simp at Xc0 Xc1 Xc2 Xc3
      have XH := Lib.hid X
      clear X
      go_wp2
      go_ret
      exact ⟨ret_bool HE.out.symm, hbel⟩
theorem keep4s {wq w' : World} {g : Nat} {t : TypeId} {x0 x1 x2 x3 : Value} (hX : Blk wq g t #[x0, x1, x2, x3]) (hb : Below wq.heap.size wq w') :
    w'.cell? ⟨g, 0, none⟩ = some x0 ∧ w'.cell? ⟨g, 1, none⟩ = some x1 ∧ w'.cell? ⟨g, 3, none⟩ = some x3 ∧ Below wq.heap.size wq w' := keep4 hX hb
set_option maxHeartbeats 2000000 in
theorem fits_s (A : Option Addr) (m c : Nat) (ps : List Int) (st so su bu room : Int) (w : World) (h : Ints w w.heap.size 4 A m ps) (hl : Loose ps m) (h0 : 0 ≤ st) (h1 : st ≤ 100000) (h2 : 1 ≤ so) (h3 : so ≤ 500) (h4 : 1 ≤ bu) (h5 : bu ≤ room) (h6 : room ≤ 100) :
    Calls Try.prog 55 #[.slice A m c, .agg #[.int .i64 st, .int .i64 so, .int .i64 su, .int .i64 bu], .int .i64 room] w fun e w' => e = .returned (.bool (spB ps m so bu room st)) ∧ Below w.heap.size w w' := by
  have hm := hl.1
  have hSP : spB ps m so bu room st = (decide (sumTo (tankF ps st) m + bu ≤ room) && (List.range m).all fun i => !(inR (gi ps (i * 4)) st (st + so - 1)) || decide (sumTo (tankF ps (gi ps (i * 4))) m + bu ≤ room)) := rfl
  have HSP := Lib.hid hSP
  clear hSP
  have htk0 := tank_bd (h := st) hl m (Nat.le_refl _)
  generalize hT0 : sumTo (tankF ps st) m = T0 at *
  have HT0 := Lib.hid hT0
  clear hT0
  have HW0 : IntKind.i64.wrap (T0 + bu) = T0 + bu := IntWalk.i64_in _ (by omega)
  have X := Blk.new w 32 #[.int .i64 st, .int .i64 so, .int .i64 su, .int .i64 bu]
  have Xl := X.lt
  have Xc0 := X.cell 0
  have Xf0 := X.frozen 0
  have Xc1 := X.cell 1
  have Xf1 := X.frozen 1
  have Xc2 := X.cell 2
  have Xf2 := X.frozen 2
  have Xc3 := X.cell 3
  have Xf3 := X.frozen 3
  simp at Xc0 Xc1 Xc2 Xc3
  have XH := Lib.hid X
  clear X
  have HX0 := Lib.hid (balloc (Below.refl _ w) (.cells #[.int .i64 st, .int .i64 so, .int .i64 su, .int .i64 bu] 32))
  by_cases q0 : T0 + bu ≤ room
  · skip
    go_enter Try.func55, Try.ntmps55
    go_wp2_with fail
    go_region_held3 (fun w' => w'.cell? ⟨w.heap.size, 0, none⟩ = some (.int .i64 st) ∧ w'.cell? ⟨w.heap.size, 1, none⟩ = some (.int .i64 so) ∧ w'.cell? ⟨w.heap.size, 3, none⟩ = some (.int .i64 bu) ∧ Below (w.alloc (.cells #[.int .i64 st, .int .i64 so, .int .i64 su, .int .i64 bu] 32)).heap.size (w.alloc (.cells #[.int .i64 st, .int .i64 so, .int .i64 su, .int .i64 bu] 32)) w') (first | exact keep4 XH.out (Below.refl _ _) | exact keep4 XH.out (Below.refl _ _).drew | exact keep4 XH.out (btrans (‹_ ∧ _ ∧ _ ∧ Below _ _ _›.2.2.2) ‹Below _ _ _›)) ((go_at_call 45; refine (tankF_s _ m c ps _ _ (h.on (btrans HX0.out (‹_ ∧ _ ∧ _ ∧ Below _ _ _›.2.2.2))) hl).mono ?_; rintro e wy ⟨rfl, by_⟩; rw [HT0.out]))
    have HS := Lib.hid (‹_ ∧ _ ∧ _ ∧ Below _ _ wy›.2.2.2)
    clear by_ HW0
    go_wp2_with fail
    go_loopw [7, 8] (fun i _a wr => ∃ k : Nat, k ≤ m ∧ i = .int .i64 k ∧ Hid (∀ j, j < k → (!(inR (gi ps (j * 4)) st (st + so - 1)) || decide (sumTo (tankF ps (gi ps (j * 4))) m + bu ≤ room)) = true) ∧ Blk wr w.heap.size 32 #[.int .i64 st, .int .i64 so, .int .i64 su, .int .i64 bu] ∧ Below w.heap.size w wr) (fun i _ _ => m - (intOf i).toNat)
    case atStart => exact ⟨0, Nat.zero_le _, rfl, fun j h => absurd h (by omega), XH.out.on HS.out, btrans HX0.out HS.out⟩
    case round =>
      obtain ⟨k, hk, rfl, HK, hblk, hbel⟩ := hrel
      clear Xc0 Xc1 Xc2 Xc3 Xf0 Xf1 Xf2 Xf3 Xl
      by_cases hlt : k < m
      · have hwb := hl.2 k hlt
        obtain ⟨b, off, rfl, hb, c0, c1, c2, c3⟩ := (h.below hbel (Nat.le_refl _)).at4 hlt
        have htk := tank_bd (h := gi ps (k * 4)) hl m (Nat.le_refl _)
        have HW1 : IntKind.i64.wrap (st + so) = st + so := IntWalk.i64_in _ (by omega)
        have HW2 : IntKind.i64.wrap (st + so - 1) = st + so - 1 := IntWalk.i64_in _ (by omega)
        have XR := Lib.hid hblk
        have HR := Lib.hid hbel
        have Y := hblk
        have Yl := Y.lt
        have Yc0 := Y.cell 0
        have Yf0 := Y.frozen 0
        have Yc1 := Y.cell 1
        have Yf1 := Y.frozen 1
        have Yc2 := Y.cell 2
        have Yf2 := Y.frozen 2
        have Yc3 := Y.cell 3
        have Yf3 := Y.frozen 3
        simp at Yc0 Yc1 Yc2 Yc3
        have YH := Lib.hid Y
        clear Y
        clear hbel
        refine inR_split (gi ps (k * 4)) st (st + so - 1) (fun g1 _ _ => ?_) (fun g1 => ?_)
        · generalize hT : sumTo (tankF ps (gi ps (k * 4))) m = T at *
          have HT := Lib.hid hT
          clear hT
          have HW3 : IntKind.i64.wrap (T + bu) = T + bu := IntWalk.i64_in _ (by omega)
          by_cases q2 : T + bu ≤ room
          · skip
            go_wp2_with fail
            go_region_held3 (fun w' => w'.cell? ⟨w.heap.size, 0, none⟩ = some (.int .i64 st) ∧ w'.cell? ⟨w.heap.size, 1, none⟩ = some (.int .i64 so) ∧ w'.cell? ⟨w.heap.size, 3, none⟩ = some (.int .i64 bu) ∧ Below wr.heap.size wr w') (first | exact keep4 XR.out (Below.refl _ _) | exact keep4 XR.out (Below.refl _ _).drew | exact keep4 XR.out (btrans (‹_ ∧ _ ∧ _ ∧ Below _ _ _›.2.2.2) ‹Below _ _ _›)) ((first | (go_at_call 45; refine (tankF_s _ m c ps _ _ (h.on (btrans HR.out (‹_ ∧ _ ∧ _ ∧ Below _ _ _›.2.2.2))) hl).mono ?_; rintro e wy ⟨rfl, by_⟩; rw [HT.out]) | (go_at_call 54; refine (asV (l00In_c _ _ _ _) (by assumption)).mono ?_; rintro e wx ⟨rfl, rfl⟩)))
            have HZ := Lib.hid (‹_ ∧ _ ∧ _ ∧ Below _ _ wy›.2.2.2)
            clear by_ HW1 HW2 HW3
            go_wp2_with fail
            go_roundw
            case rel =>
              refine ⟨k + 1, by omega, by go_num, fun j hj => ?_, XR.out.on HZ.out, btrans HR.out HZ.out⟩
              rcases Nat.lt_or_ge j k with hh | hh
              · exact HK.out j hh
              · obtain rfl : j = k := by omega
                rw [HT.out, decide_eq_true q2]; simp
            case measure => simp [intOf]; omega
          · have HV : Hid (spB ps m so bu room st = false) := by
              show _ = _
              rw [HSP.out, all_bad hlt (by rw [HT.out, g1, decide_eq_false (by omega)]; rfl)]
              simp
            go_wp2_with fail
            go_region_held3 (fun w' => w'.cell? ⟨w.heap.size, 0, none⟩ = some (.int .i64 st) ∧ w'.cell? ⟨w.heap.size, 1, none⟩ = some (.int .i64 so) ∧ w'.cell? ⟨w.heap.size, 3, none⟩ = some (.int .i64 bu) ∧ Below wr.heap.size wr w') (first | exact keep4 XR.out (Below.refl _ _) | exact keep4 XR.out (Below.refl _ _).drew | exact keep4 XR.out (btrans (‹_ ∧ _ ∧ _ ∧ Below _ _ _›.2.2.2) ‹Below _ _ _›)) ((first | (go_at_call 45; refine (tankF_s _ m c ps _ _ (h.on (btrans HR.out (‹_ ∧ _ ∧ _ ∧ Below _ _ _›.2.2.2))) hl).mono ?_; rintro e wy ⟨rfl, by_⟩; rw [HT.out]) | (go_at_call 54; refine (asV (l00In_c _ _ _ _) (by assumption)).mono ?_; rintro e wx ⟨rfl, rfl⟩)))
            have HZ := Lib.hid (‹_ ∧ _ ∧ _ ∧ Below _ _ wy›.2.2.2)
            clear by_ HW1 HW2 HW3
            go_wp2_with fail
            go_ret
            exact ⟨ret_bool HV.out.symm, btrans HR.out HZ.out⟩
        · have HT1 : Hid ((!(inR (gi ps (k * 4)) st (st + so - 1)) || decide (sumTo (tankF ps (gi ps (k * 4))) m + bu ≤ room)) = true) := by show _ = _; rw [g1]; rfl
          go_wp2_with fail
          go_quiet ((first | (go_at_call 54; first | exact quiet_left (asV (l00In_c _ _ _ _) (by assumption)) | exact quiet_add_left (asV (l00In_c _ _ _ _) (by assumption)) | exact quiet_left (l00In_c _ _ _ _) | exact quiet_add_left (l00In_c _ _ _ _))))
          clear HW1 HW2
          go_wp2_with fail
          go_roundw
          case rel =>
            refine ⟨k + 1, by omega, by go_num, fun j hj => ?_, XR.out.drewN _, bdrewN HR.out _⟩
            rcases Nat.lt_or_ge j k with hh | hh
            · exact HK.out j hh
            · obtain rfl : j = k := by omega
              exact HT1.out
          case measure => simp [intOf]; omega
      · obtain rfl : k = m := by omega
        have HV : Hid (spB ps k so bu room st = true) := by
          show _ = _
          rw [HSP.out, decide_eq_true q0, all_end HK.out]; rfl
        go_wp2
        go_ret
        exact ⟨ret_bool HV.out.symm, hbel⟩
  · have HV : Hid (spB ps m so bu room st = false) := by show _ = _; rw [HSP.out, decide_eq_false (by omega)]; rfl
    go_enter Try.func55, Try.ntmps55
    go_wp2_with fail
    go_region_held3 (fun w' => w'.cell? ⟨w.heap.size, 0, none⟩ = some (.int .i64 st) ∧ w'.cell? ⟨w.heap.size, 1, none⟩ = some (.int .i64 so) ∧ w'.cell? ⟨w.heap.size, 3, none⟩ = some (.int .i64 bu) ∧ Below (w.alloc (.cells #[.int .i64 st, .int .i64 so, .int .i64 su, .int .i64 bu] 32)).heap.size (w.alloc (.cells #[.int .i64 st, .int .i64 so, .int .i64 su, .int .i64 bu] 32)) w') (first | exact keep4 XH.out (Below.refl _ _) | exact keep4 XH.out (Below.refl _ _).drew | exact keep4 XH.out (btrans (‹_ ∧ _ ∧ _ ∧ Below _ _ _›.2.2.2) ‹Below _ _ _›)) ((go_at_call 45; refine (tankF_s _ m c ps _ _ (h.on (btrans HX0.out (‹_ ∧ _ ∧ _ ∧ Below _ _ _›.2.2.2))) hl).mono ?_; rintro e wy ⟨rfl, by_⟩; rw [HT0.out]))
    have HS := Lib.hid (‹_ ∧ _ ∧ _ ∧ Below _ _ wy›.2.2.2)
    clear by_ HW0
    go_wp2_with fail
    go_ret
    exact ⟨ret_bool HV.out.symm, btrans HX0.out HS.out⟩

end Go.Proofs.Ytnagaopogmdfgaa
