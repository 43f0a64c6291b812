/-
  Decimal numerals, by the program (strconv.FormatInt) and by the reference.
  No conditions.
-/
import Derived.Test.YtgcpobondcnjcaaGreatDoorDecP
import Derived.Test.YtgcpobondcnjcaaGreatDoorShelf
import Derived.Lib.AppendIntMem
import Derived.IntWalk
namespace Go.Proofs.YtgcpobondcnjcaaGreatDoor
open Go.ChangeShapes Go.WideShapes Go.ChangeAt Go.RowKit Go.Deep
set_option linter.unusedVariables false

/-- A listed table stays. -/
theorem tab_below {P : Program} {w w' : World} {name : String} {k : IntKind} {zs : List Int} (h : Lib.TabIs P w name k zs) {B : Nat} (hb : Below B w w') (hB : w.heap.size ≤ B) : Lib.TabIs P w' name k zs := by
  unfold Lib.TabIs World.var? at *
  cases hg : P.globalNamed name with
  | none => simp [hg] at h
  | some g =>
    simp only [hg, Option.bind_some] at h ⊢
    have hlt : g < w.heap.size := by
      rcases Nat.lt_or_ge g w.heap.size with h' | h'
      · exact h'
      · rw [Array.getElem?_eq_none h'] at h; simp at h
    rw [hb.block g (by omega)]
    exact h
/-- The table of powers of ten is as the library lays it. -/
def Tens (w : World) : Prop := Lib.TabIs Tryz.prog w "internal/strconv.uint64pow10" .u64 Lib.pow10Tab
theorem Tens.on {w w' : World} (h : Tens w) (hb : Below w.heap.size w w') : Tens w' := tab_below h hb (Nat.le_refl _)

theorem OwnB.form {w : World} {base : Nat} {v : Value} {l : List UInt8} (h : OwnB w base v l) (hl : l ≠ []) : ∃ g c, v = .slice (some ⟨g, 0, none⟩) l.length c := by
  rcases h.2 with ⟨rfl, h0⟩ | ⟨g, cap, cur, rfl, h1⟩
  · exact absurd (List.eq_nil_of_length_eq_zero h0) hl
  · exact ⟨g, cap, rfl⟩
theorem append_bytes {w : World} {ops : Array Oper} {rest : List Oper} {o : Oper} {a : Act} {Q : Exit → Act → World → Prop} (hgd : o.guard = none) (s x : Operand)
    (ho : o.op = .call { callee := .builtin .append, args := #[s, x], argTypes := #[22, 22] })
    (base : Nat) (v : Value) (l : List UInt8) (hs : a.eval s = v) (hown : OwnB w base v l) (m : List UInt8) (g c b2 : Nat) (hx : a.eval x = .slice (some ⟨g, 0, none⟩) m.length c) (hg : OwnB w b2 (.slice (some ⟨g, 0, none⟩) m.length c) m)
    (hn : l.length + m.length ≤ 1048576) (hbase : base ≤ w.heap.size)
    (h : ∀ v' w', OwnB w' base v' (l ++ m) → w.grownBy w' v.ownBlock → wpList Tryz.prog ops Q rest (a.put o.dst v') w') : wpList Tryz.prog ops Q (o :: rest) a w := by
  have hinfo : (Tryz.prog.info? 5).map (fun i => (i.zero, i.size, i.bytes)) = some (some (.int .u8 0), 1, 1) := by kernel_rfl
  obtain ⟨i0, hi, hz0, hz1, hz2⟩ := info_parts hinfo
  refine wpList_append_own w hgd s x 22 ho base 5 i0 (.int .u8 0) 1 1 Tryz.underlying22 hi hz0 hz1 hz2 rfl (by decide) v l.length (bv l) hs hown ⟨g, 0, none⟩ m.length c (bv m) hx (by rw [bv_length, Nat.mul_one]) ?_ ?_ ?_ ?_ hbase ?_
  · intro j y hy
    exact hg.cells (g := g) rfl j y hy
  · intro y hy
    simp only [bv, List.mem_map] at hy
    obtain ⟨z, _, rfl⟩ := hy
    rfl
  · simp only [maxLen]; omega
  · omega
  · intro v' w' hown' hgr _
    refine h v' w' ?_ hgr
    unfold OwnB
    rw [bv_append, List.length_append]
    exact hown'
theorem cat_bytes (l m : List UInt8) : (⟨l.toArray⟩ : ByteArray) ++ ⟨m.toArray⟩ = ⟨(l ++ m).toArray⟩ := by
  apply ByteArray.ext
  rw [ByteArray.data_append]
  simp

theorem dec_i (n : Int) (w : World) (h0 : -9223372036854775808 ≤ n) (h1 : n ≤ 9223372036854775807) (ht : Tens w) :
    Calls Tryz.prog 59 #[.int .i64 n] w fun e w' => e = .returned (.string ⟨(Lib.itoa n).toArray⟩) ∧ Below w.heap.size w w' := by
  have hc := Tryz.strconv_FormatInt_10 n h0 h1 w ht
  go_enter Tryz.func59, Tryz.ntmps59
  go_wp2_with fail
  refine hc.mono ?_
  rintro e w1 ⟨rfl, k, os, rfl⟩
  clear hc
  go_wp2
  go_ret
  exact ⟨rfl, Lib.below_grow _ _ (Nat.le_refl _) _ _⟩
set_option maxRecDepth 100000 in
set_option maxHeartbeats 2000000 in
theorem l01Dec_c (n : Int) (w : World) (h0 : -9223372036854775808 ≤ n) (h1 : n ≤ 9223372036854775807) :
    Calls Tryz.prog 61 #[.int .i64 n] w fun e w' => e = .returned (.string ⟨(Lib.itoa n).toArray⟩) ∧ Below w.heap.size w w' := by
  rcases Int.lt_trichotomy n 0 with hn | hn | hn
  · obtain ⟨u, rfl⟩ : ∃ u : Nat, n = -(u : Int) := ⟨n.natAbs, by omega⟩
    have hu : 0 < u := by omega
    have HLN := dgs_len 20 u (by omega)
    have HV := Lib.hid (itoa_neg' u hu)
    have HNE : Hid (dgs u ≠ []) := by
      show _ ≠ _
      rw [dgs_step u hu]; simp
    go_enter Tryz.func61, Tryz.ntmps61
    go_wp2_with fail
    go_loopw [3, 4] (fun o k wr => ∃ (m : Nat) (l : List UInt8) (g c : Nat), m ≤ u ∧ k = .int .i64 (-(m : Int)) ∧ o = .slice (some ⟨g, 0, none⟩) l.length c ∧ OwnB wr w.heap.size o l ∧ Hid (dgs m ++ l = dgs u) ∧ Below w.heap.size w wr) (fun _ k _ => (-(intOf k)).toNat)
    case atStart => exact ⟨u, [], _, _, Nat.le_refl _, rfl, rfl, OwnB.empty _ (Nat.le_refl _), (by show _ = _; simp), balloc (Below.refl _ _) _⟩
    case round =>
      obtain ⟨m, l, g, c, hm, rfl, rfl, hown, HM, hbel⟩ := hrel
      have hbase := hbel.size
      have hll : l.length ≤ 20 := by
        have := congrArg List.length HM.out
        rw [List.length_append] at this; omega
      by_cases hpos : 0 < m
      · have hz : ((-(m : Int)) == 0) = false := by rw [beq_eq_false_iff_ne]; omega
        have hz2 : ((-(m : Int)) != 0) = true := by rw [bne_iff_ne]; omega
        have HN := Lib.hid (dgs_next m hpos l _ HM.out)
        have e1 := tmod_neg m
        have e2 := tdiv_neg m
        by_cases h9 : (0 : Int) < (m : Int) % 10
        · have hd1 : (m : Int) % 10 ≤ 9 := by omega
          have hd0 : (0 : Int) ≤ (m : Int) % 10 := by omega
          have HK : Hid (Blk (wr.alloc (.cells #[.int .u8 (48 + (m : Int) % 10)] 5)) wr.heap.size 5 (bv [UInt8.ofNat (48 + m % 10)]).toArray) := by
            have h := Blk.new wr 5 #[.int .u8 (48 + (m : Int) % 10)]
            have e : (48 + (m : Int) % 10) = ((UInt8.ofNat (48 + m % 10)).toNat : Int) := by rw [dig_byte]; omega
            rw [e] at h ⊢
            exact h
          go_wp2_with (at_builtin; refine append_bytes rfl (.tmp 21) (.tmp 22) rfl w.heap.size _ [UInt8.ofNat (48 + m % 10)] rfl (OwnB.of_blk HK.out (by omega) (by simp [maxLen])) l g c w.heap.size rfl (OwnB.alloc hown _) (by simp; omega) (by simp; omega) ?_; intro v1 w2 hown1 hgr1)
          go_roundw
          case rel =>
            obtain ⟨g1, c1, rfl⟩ := hown1.form (by simp)
            exact ⟨m / 10, _, g1, c1, by omega, by rfl, rfl, hown1, HN.out, below_grown (balloc hbel _) hgr1 (fun q hq => by have e : wr.heap.size = q := Option.some.inj hq; omega)⟩
          case measure => simp [intOf]; omega
        · have hd1 : (m : Int) % 10 ≤ 9 := by omega
          have hd0 : (0 : Int) ≤ (m : Int) % 10 := by omega
          have HK : Hid (Blk (wr.alloc (.cells #[.int .u8 (48 + -((m : Int) % 10))] 5)) wr.heap.size 5 (bv [UInt8.ofNat (48 + m % 10)]).toArray) := by
            have h := Blk.new wr 5 #[.int .u8 (48 + -((m : Int) % 10))]
            have e : (48 + -((m : Int) % 10)) = ((UInt8.ofNat (48 + m % 10)).toNat : Int) := by rw [dig_byte]; omega
            rw [e] at h ⊢
            exact h
          go_wp2_with (at_builtin; refine append_bytes rfl (.tmp 21) (.tmp 22) rfl w.heap.size _ [UInt8.ofNat (48 + m % 10)] rfl (OwnB.of_blk HK.out (by omega) (by simp [maxLen])) l g c w.heap.size rfl (OwnB.alloc hown _) (by simp; omega) (by simp; omega) ?_; intro v1 w2 hown1 hgr1)
          go_roundw
          case rel =>
            obtain ⟨g1, c1, rfl⟩ := hown1.form (by simp)
            exact ⟨m / 10, _, g1, c1, by omega, by rfl, rfl, hown1, HN.out, below_grown (balloc hbel _) hgr1 (fun q hq => by have e : wr.heap.size = q := Option.some.inj hq; omega)⟩
          case measure => simp [intOf]; omega
      · obtain rfl : m = 0 := by omega
        have hl : l = dgs u := HM.out
        clear HM
        have hl0 : l ≠ [] := by rw [hl]; exact HNE.out
        have hl1 : 0 < l.length := List.length_pos_iff.2 hl0
        have HLL := Lib.hid hl
        have hs := hown.str
        have hz3 : ((l.length : Int) == 0) = false := by rw [beq_eq_false_iff_ne]; omega
        clear hl hl0
        go_wp2
        go_ret
        refine ⟨?_, hbel⟩
        rw [HV.out, ← HLL.out]
        exact congrArg Ending.returned (congrArg Value.string (cat_bytes [45] l))
  · subst hn
    have HV := Lib.hid itoa_zero
    go_enter Tryz.func61, Tryz.ntmps61
    go_wp2_with fail
    go_loopw [3, 4] (fun o k wr => o = .slice (some ⟨w.heap.size, 0, none⟩) 0 0 ∧ k = .int .i64 0 ∧ Below w.heap.size w wr) (fun _ k _ => (intOf k).toNat)
    case atStart => exact ⟨rfl, rfl, balloc (Below.refl _ _) _⟩
    case round =>
      obtain ⟨rfl, rfl, hbel⟩ := hrel
      go_wp2
      go_ret
      exact ⟨by rw [HV.out]; rfl, hbel⟩
  · obtain ⟨u, rfl⟩ : ∃ u : Nat, n = (u : Int) := ⟨n.natAbs, by omega⟩
    have hu : 0 < u := by omega
    have HLN := dgs_len 20 u (by omega)
    have HV := Lib.hid (itoa_pos u hu)
    have HNE : Hid (dgs u ≠ []) := by
      show _ ≠ _
      rw [dgs_step u hu]; simp
    go_enter Tryz.func61, Tryz.ntmps61
    go_wp2_with fail
    go_loopw [3, 4] (fun o k wr => ∃ (m : Nat) (l : List UInt8) (g c : Nat), m ≤ u ∧ k = .int .i64 (m : Int) ∧ o = .slice (some ⟨g, 0, none⟩) l.length c ∧ OwnB wr w.heap.size o l ∧ Hid (dgs m ++ l = dgs u) ∧ Below w.heap.size w wr) (fun _ k _ => (intOf k).toNat)
    case atStart => exact ⟨u, [], _, _, Nat.le_refl _, rfl, rfl, OwnB.empty _ (Nat.le_refl _), (by show _ = _; simp), balloc (Below.refl _ _) _⟩
    case round =>
      obtain ⟨m, l, g, c, hm, rfl, rfl, hown, HM, hbel⟩ := hrel
      have hbase := hbel.size
      have hll : l.length ≤ 20 := by
        have := congrArg List.length HM.out
        rw [List.length_append] at this; omega
      by_cases hpos : 0 < m
      · have hz : ((m : Int) == 0) = false := by rw [beq_eq_false_iff_ne]; omega
        have hz2 : ((m : Int) != 0) = true := by rw [bne_iff_ne]; omega
        have HN := Lib.hid (dgs_next m hpos l _ HM.out)
        have h9 : ¬ (m : Int) % 10 < 0 := by omega
        have hd1 : (m : Int) % 10 ≤ 9 := by omega
        have hd0 : (0 : Int) ≤ (m : Int) % 10 := by omega
        have HK : Hid (Blk (wr.alloc (.cells #[.int .u8 (48 + (m : Int) % 10)] 5)) wr.heap.size 5 (bv [UInt8.ofNat (48 + m % 10)]).toArray) := by
          have h := Blk.new wr 5 #[.int .u8 (48 + (m : Int) % 10)]
          have e : (48 + (m : Int) % 10) = ((UInt8.ofNat (48 + m % 10)).toNat : Int) := by rw [dig_byte]; omega
          rw [e] at h ⊢
          exact h
        go_wp2_with (at_builtin; refine append_bytes rfl (.tmp 21) (.tmp 22) rfl w.heap.size _ [UInt8.ofNat (48 + m % 10)] rfl (OwnB.of_blk HK.out (by omega) (by simp [maxLen])) l g c w.heap.size rfl (OwnB.alloc hown _) (by simp; omega) (by simp; omega) ?_; intro v1 w2 hown1 hgr1)
        go_roundw
        case rel =>
          obtain ⟨g1, c1, rfl⟩ := hown1.form (by simp)
          exact ⟨m / 10, _, g1, c1, by omega, by go_num, rfl, hown1, HN.out, below_grown (balloc hbel _) hgr1 (fun q hq => by have e : wr.heap.size = q := Option.some.inj hq; omega)⟩
        case measure => simp [intOf]; omega
      · obtain rfl : m = 0 := by omega
        have hl : l = dgs u := HM.out
        clear HM
        have hl0 : l ≠ [] := by rw [hl]; exact HNE.out
        have hl1 : 0 < l.length := List.length_pos_iff.2 hl0
        have HLL := Lib.hid hl
        have hs := hown.str
        have hz3 : ((l.length : Int) == 0) = false := by rw [beq_eq_false_iff_ne]; omega
        clear hl hl0
        go_wp2
        go_ret
        refine ⟨?_, hbel⟩
        rw [HV.out, ← HLL.out]
        rfl
end Go.Proofs.YtgcpobondcnjcaaGreatDoor
