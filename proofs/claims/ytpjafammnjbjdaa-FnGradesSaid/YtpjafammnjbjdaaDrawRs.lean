/-
  Rods drawn; the verifier's helpers over lists of numbers.
  No conditions.
-/
import Derived.Test.YtpjafammnjbjdaaDrawR
import Derived.Test.YtpjafammnjbjdaaAppend
namespace Go.Proofs.Ytpjafammnjbjdaa
open Go.ChangeShapes Go.WideShapes Go.ChangeAt Go.RowKit Go.Deep
set_option linter.unusedVariables false

theorem add_zero_addr (g j : Nat) : (⟨g, 0, none⟩ : Addr).add j = ⟨g, j, none⟩ := by unfold Addr.add; split <;> simp_all
theorem But.grown {g : Nat} {a b b' : World} {row : Option Nat} (h : But g a b) (hg : b.grownBy b' row) (hr : ∀ k, row = some k → a.heap.size ≤ k) : But g a b' :=
  ⟨hg.os.trans h.os, hg.tape.trans h.tape, hg.output.trans h.output, Nat.le_trans h.size hg.size, fun k hk hne => (hg.block k (Nat.lt_of_lt_of_le hk h.size) (fun e => by have := hr k e.symm; omega)).trans (h.block k hk hne)⟩
/-- Rod i is one that is drawn. -/
def dR (zs : List Int) (i : Nat) : Prop := 100 ≤ gi zs (i * 3) ∧ gi zs (i * 3) ≤ 2050 ∧ 20 ≤ gi zs (i * 3 + 1) ∧ gi zs (i * 3 + 1) ≤ 115 ∧ 1 ≤ gi zs (i * 3 + 2) ∧ gi zs (i * 3 + 2) ≤ gi zs (i * 3 + 1)
structure DrawnR (w : World) (base : Nat) (v : Value) (m : Nat) (zs : List Int) : Prop where
  own : w.ownsRow base 45 3 v m (iv zs)
  bd : ∀ i, i < m → dR zs i
theorem gi_left {zs us : List Int} {j : Nat} (h : j < zs.length) : gi (zs ++ us) j = gi zs j := by
  simp [gi, List.getD, List.getElem?_append_left h]
theorem gi_right {zs us : List Int} {j r : Nat} (h : j = zs.length + r) : gi (zs ++ us) j = gi us r := by
  subst h; simp [gi, List.getD, List.getElem?_append_right (show zs.length ≤ zs.length + r by omega)]
theorem dR_snoc {zs : List Int} {m : Nat} {a b c : Int} (hl : zs.length = m * 3) (h : ∀ i, i < m → dR zs i) (h0 : dR [a, b, c] 0) : ∀ i, i < m + 1 → dR (zs ++ [a, b, c]) i := by
  intro i hi
  rcases Nat.lt_or_ge i m with h1 | h1
  · have := h i h1
    unfold dR at this ⊢
    rw [gi_left (by omega), gi_left (by omega), gi_left (by omega)]
    exact this
  · obtain rfl : i = m := by omega
    unfold dR at h0 ⊢
    rw [gi_right (r := 0) (by omega), gi_right (r := 1) (by omega), gi_right (r := 2) (by omega)]
    exact h0
theorem append_rod {w : World} {ops : Array Oper} {rest : List Oper} {o : Oper} {a : Act} {Q : Exit → Act → World → Prop} (hgd : o.guard = none) (s x : Operand)
    (ho : o.op = .call { callee := .builtin .append, args := #[s, x], argTypes := #[27, 27] })
    (base : Nat) (v : Value) (n : Nat) (zs : List Int) (hs : a.eval s = v) (hown : w.ownsRow base 45 3 v n (iv zs)) (us : List Int) (hu : us.length = 3) (g : Nat) (hx : a.eval x = .slice (some ⟨g, 0, none⟩) 1 1) (hg : Blk w g 45 (iv us).toArray)
    (hn : n ≤ 1048576) (hbase : base ≤ w.heap.size)
    (h : ∀ v' w', w'.ownsRow base 45 3 v' (n + 1) (iv (zs ++ us)) → w.grownBy w' v.ownBlock → wpList Try.prog ops Q rest (a.put o.dst v') w') : wpList Try.prog ops Q (o :: rest) a w := by
  have hinfo : (Try.prog.info? 45).map (fun i => (i.zero, i.size, i.bytes)) = some (some (.agg #[.int .i64 0, .int .i64 0, .int .i64 0]), 3, 24) := by kernel_rfl
  obtain ⟨i0, hi, hz0, hz1, hz2⟩ := info_parts hinfo
  refine wpList_append_own w hgd s x 27 ho base 45 i0 _ 3 24 Try.underlying27 hi hz0 hz1 hz2 rfl (by decide) v n (iv zs) hs hown ⟨g, 0, none⟩ 1 1 (iv us) hx (by rw [iv_length, hu]) ?_ ?_ ?_ ?_ hbase ?_
  · intro j y hy
    have := hg.cell j
    rw [add_zero_addr, this]
    simpa using hy
  · intro y hy
    simp only [iv, List.mem_map] at hy
    obtain ⟨z, _, rfl⟩ := hy
    rfl
  · simp only [maxLen]; omega
  · omega
  · intro v' w' hown' hgr _
    refine h v' w' ?_ hgr
    rw [iv_append]
    exact hown'
theorem own_but {w w' : World} {g base k n : Nat} {e : TypeId} {v : Value} {xs : List Value} (h : w.ownsRow base e k v n xs) (hb : But g w w') (hg : g < base) : w'.ownsRow base e k v n xs :=
  World.ownsRow.kept (row := some g) h ⟨hb.os, hb.tape, hb.output, hb.size, fun i hi hne => hb.block i hi (fun e => hne (by rw [e]))⟩ (by
    rcases hv : v.ownBlock with _ | q
    · exact .inl rfl
    · refine .inr fun he => ?_
      have := (World.ownsRow.lt h q hv).1
      injection he with he
      omega)
set_option maxRecDepth 100000 in
theorem drawR_s (g : Nat) (A : Option Addr) (n c K : Nat) (w : World) (h : Src w g A n c K) (hK : K ≤ 10) :
    Calls Try.prog 33 #[.pointer (some ⟨g, 0, none⟩)] w fun e w' => ∃ (v : Value) (m : Nat) (zs : List Int), e = .returned v ∧ m ≤ 7 ∧ DrawnR w' w.heap.size v m zs ∧ But g w w' := by
  go_enter Try.func33, Try.ntmps33
  go_wp2_with fail
  refine (pick_s g A n c K 8 _ (h.on (balloc (Below.refl _ _) _) h.lt) (by omega)).mono ?_
  rintro e w1 ⟨x, rfl, hx0, hx1, hs1, hk1⟩
  go_wp2_with fail
  go_loopw [3, 4] (fun s i wr => ∃ (k m : Nat) (zs : List Int), m + k ≤ 7 ∧ i = .int .i64 k ∧ DrawnR wr w.heap.size s m zs ∧ Src wr g A n c (K + 2 + 6 * m) ∧ But g w wr) (fun _ i _ => (intOf i).toNat)
  case atStart =>
    refine ⟨x.toNat, 0, [], by omega, by rw [show ((x.toNat : Nat) : Int) = x by omega], ⟨?_, fun i hi => absurd hi (by omega)⟩, hs1, ((But.refl g w).alloc _).trans hk1⟩
    exact own_but (World.ownsRow_lit (base := w.heap.size) (e := 45) (size := 3) (w := w) #[] 0 (Nat.le_refl _) (by simp [maxLen]) rfl) hk1 h.lt
  case round =>
    obtain ⟨k, m, zs, hm, rfl, hd, hs, hb⟩ := hrel
    by_cases hlt : 0 < k
    · skip
      go_wp2_with fail
      refine (newR_s g A n c _ _ hs (by omega)).mono ?_
      rintro e w2 ⟨a1, a2, a3, rfl, hbd, hs2, hk2⟩
      have hg2 := hs2.lt
      have hz2 := hk2.size
      have hbz := hb.size
      have HO := own_but hd.own hk2 h.lt
      go_wp2_with (at_builtin; refine append_rod rfl (.tmp 12) (.tmp 15) rfl w.heap.size _ m zs rfl (World.ownsRow.alloc HO _) [a1, a2, a3] rfl _ rfl (Blk.new _ _ _) (by omega) (by simp; omega) ?_; intro v1 w6 hown1 hgr1)
      have hzl : zs.length = m * 3 := by have := hd.own.1; rwa [iv_length] at this
      have hrow : ∀ q, Value.ownBlock _ = some q → w.heap.size ≤ q := fun q hq => (World.ownsRow.lt hd.own q hq).1
      go_roundw
      case rel =>
        refine ⟨k - 1, m + 1, zs ++ [a1, a2, a3], by omega, by go_num, ⟨hown1, dR_snoc hzl hd.bd (by simp [dR, gi]; omega)⟩, ?_, ((hb.trans hk2).alloc _).grown hgr1 hrow⟩
        have hlt := h.lt
        exact (hs2.on (B := w.heap.size) ((((Below.refl w.heap.size w2)).alloc (by omega) _).grown hgr1 (by simp; omega) hrow) hlt).up (by omega)
      case measure => simp [intOf]; omega
    · obtain rfl : k = 0 := by omega
      go_wp2
      go_ret
      exact ⟨_, m, zs, rfl, by omega, hd, hb⟩
set_option maxRecDepth 100000 in
theorem A2Rods_s (A : Option Addr) (n c : Nat) (w : World) (h : Octets w w.heap.size A n) :
    Calls Try.prog 15 #[.slice A n c] w fun e w' => ∃ (v : Value) (m : Nat) (zs : List Int), e = .returned v ∧ m ≤ 7 ∧ DrawnR w' w.heap.size v m zs ∧ Below w.heap.size w w' := by
  go_enter Try.func15, Try.ntmps15
  go_wp2_with fail
  refine (from_s A n c w h).mono ?_
  rintro e w1 ⟨g, rfl, hg, hs1, hb1⟩
  have hz := hb1.size
  go_wp2_with fail
  refine (drawR_s g A n c 0 _ hs1 (by omega)).mono ?_
  rintro e w2 ⟨v, m, zs, rfl, hm, hd, hk⟩
  go_wp2_with fail
  go_ret
  refine ⟨_, m, zs, rfl, hm, ⟨?_, hd.bd⟩, hb1.trans (hk.below hg hz)⟩
  refine ⟨hd.own.1, ?_⟩
  rcases hd.own.2 with h1 | ⟨q, cap, cur, e1, e2, r⟩
  · exact .inl h1
  · exact .inr ⟨q, cap, cur, e1, Nat.le_trans hz e2, r⟩
theorem DrawnR.ints {w : World} {base m : Nat} {v : Value} {zs : List Int} (h : DrawnR w base v m zs) : ∃ A c, v = .slice A m c ∧ Ints w w.heap.size 3 A m zs := by
  have hl : zs.length = m * 3 := by have := h.own.1; rwa [iv_length] at this
  have hw : ∀ z ∈ zs, -9223372036854775808 ≤ z ∧ z ≤ 9223372036854775807 := by
    intro z hz
    obtain ⟨j, hj, rfl⟩ := List.mem_iff_getElem.1 hz
    have hb := h.bd (j / 3) (by omega)
    have e : zs[j] = gi zs j := by simp [gi, List.getD, List.getElem?_eq_getElem hj]
    rw [e]
    unfold dR at hb
    rcases (by omega : j = j / 3 * 3 ∨ j = j / 3 * 3 + 1 ∨ j = j / 3 * 3 + 2) with h1 | h1 | h1 <;> rw [h1] <;> omega
  rcases h.own.2 with ⟨rfl, h0⟩ | ⟨g, cap, cur, rfl, h1⟩
  · subst h0
    obtain rfl : zs = [] := List.eq_nil_of_length_eq_zero (by omega)
    exact ⟨none, 0, rfl, ⟨Reads.none_, by simp⟩⟩
  · exact ⟨_, cap, rfl, ⟨Reads.of_own h.own, hw⟩⟩
theorem dR_ok {zs : List Int} {m : Nat} (h : ∀ i, i < m → dR zs i) (hm : m ≤ 20) : okAll (rodAt zs) m 20 = true := by
  simp only [okAll, Bool.and_eq_true, List.all_eq_true, decide_eq_true_eq]
  refine ⟨fun i hi => ?_, hm⟩
  have := h i (List.mem_range.1 hi)
  unfold dR at this
  simp only [rodAt, rodOk, inR, Bool.and_eq_true, decide_eq_true_eq]
  omega

theorem a2Sum_c (A : Option Addr) (n c : Nat) (zs : List Int) (w : World) (h : Ints w w.heap.size 1 A n zs) (hn : n ≤ 1000) (hb : ∀ j, 0 ≤ gi zs j ∧ gi zs j ≤ 1000) :
    Calls Try.prog 19 #[.slice A n c] w fun e w' => e = .returned (.int .i64 (sumTo (gi zs) n)) ∧ w = w' := by
  have hsb : ∀ k, 0 ≤ sumTo (gi zs) k ∧ sumTo (gi zs) k ≤ 1000 * k := by
    intro k
    induction k with
    | zero => simp [sumTo]
    | succ k ih => have := hb k; simp only [sumTo]; omega
  have HS := Lib.hid hsb
  clear hsb
  go_enter Try.func19, Try.ntmps19
  go_wp2_with fail
  go_loopw [3, 4] (fun s i wr => ∃ k : Nat, k ≤ n ∧ i = .int .i64 k ∧ s = .int .i64 (sumTo (gi zs) k) ∧ wr = w) (fun _ i _ => n - (intOf i).toNat)
  case atStart => exact ⟨0, Nat.zero_le _, rfl, rfl, rfl⟩
  case round =>
    obtain ⟨k, hk, rfl, rfl, hw⟩ := hrel
    subst wr
    by_cases hlt : k < n
    · obtain ⟨b, off, rfl, hb', c0⟩ := h.at1 hlt
      have h1 := HS.out k
      have h2 := hb k
      have hz : Hid (sumTo (gi zs) (k + 1) = sumTo (gi zs) k + gi zs k) := rfl
      clear hb
      go_wp2_with fail
      go_roundw
      case rel => exact ⟨k + 1, by omega, by go_num, by rw [hz.out], by simp⟩
      case measure => simp [intOf]; omega
    · obtain rfl : k = n := by omega
      go_wp2
      go_ret
      exact ⟨rfl, rfl⟩

/-- Is u among the first n numbers? -/
def hasB (zs : List Int) (u : Int) : Nat → Bool
  | 0 => false
  | k + 1 => hasB zs u k || decide (gi zs k = u)
theorem hasB_at {zs : List Int} {u : Int} {k : Nat} (e : gi zs k = u) : ∀ n, k < n → hasB zs u n = true
  | 0, h => absurd h (by omega)
  | n + 1, h => by
    rcases Nat.lt_or_ge k n with h1 | h1
    · simp [hasB, hasB_at e n h1]
    · obtain rfl : k = n := by omega
      simp [hasB, e]
theorem hasB_ex {zs : List Int} {u : Int} : ∀ {n : Nat}, hasB zs u n = true → ∃ k, k < n ∧ gi zs k = u
  | 0, h => by simp [hasB] at h
  | n + 1, h => by
    simp only [hasB, Bool.or_eq_true, decide_eq_true_eq] at h
    rcases h with h | h
    · obtain ⟨k, h1, h2⟩ := hasB_ex h
      exact ⟨k, by omega, h2⟩
    · exact ⟨n, by omega, h⟩
theorem a2Has_c (A : Option Addr) (n c : Nat) (zs : List Int) (u : Int) (w : World) (h : Ints w w.heap.size 1 A n zs) (hn : n ≤ 1000) :
    Calls Try.prog 22 #[.slice A n c, .int .i64 u] w fun e w' => e = .returned (.bool (hasB zs u n)) ∧ w = w' := by
  go_enter Try.func22, Try.ntmps22
  go_wp2_with fail
  go_loopw [5] (fun i wr => ∃ k : Nat, k ≤ n ∧ i = .int .i64 k ∧ Hid (hasB zs u k = false) ∧ wr = w) (fun i _ => n - (intOf i).toNat)
  case atStart => exact ⟨0, Nat.zero_le _, rfl, rfl, rfl⟩
  case round =>
    obtain ⟨k, hk, rfl, HK, hw⟩ := hrel
    subst wr
    by_cases hlt : k < n
    · obtain ⟨b, off, rfl, hb', c0⟩ := h.at1 hlt
      by_cases he : gi zs k = u
      · have HT : Hid (hasB zs u n = true) := hasB_at he n hlt
        go_wp2_with fail
        go_ret
        exact ⟨by rw [HT.out]; rfl, rfl⟩
      · have HT : Hid (hasB zs u (k + 1) = false) := by show _ = _; simp [hasB, HK.out, he]
        go_wp2_with fail
        go_roundw
        case rel => exact ⟨k + 1, by omega, by go_num, HT, by simp⟩
        case measure => simp [intOf]; omega
    · obtain rfl : k = n := by omega
      go_wp2
      go_ret
      exact ⟨by rw [HK.out]; rfl, rfl⟩
theorem a2Same_c (A A' : Option Addr) (n c c' : Nat) (zs : List Int) (w : World) (h : Ints w w.heap.size 1 A n zs) (h' : Ints w w.heap.size 1 A' n zs) (hn : n ≤ 1000) :
    Calls Try.prog 23 #[.slice A n c, .slice A' n c'] w fun e w' => e = .returned (.bool true) ∧ Below w.heap.size w w' := by
  go_enter Try.func23, Try.ntmps23
  go_wp2_with fail
  go_loopw [5] (fun i wr => ∃ k : Nat, k ≤ n ∧ i = .int .i64 k ∧ Below w.heap.size w wr) (fun i _ => n - (intOf i).toNat)
  case atStart => exact ⟨0, Nat.zero_le _, rfl, Below.refl _ _⟩
  case round =>
    obtain ⟨k, hk, rfl, hbel⟩ := hrel
    by_cases hlt : k < n
    · obtain ⟨b, off, rfl, hb, c0⟩ := (h.below hbel (Nat.le_refl _)).at1 hlt
      obtain ⟨b', off', rfl, hb', c0'⟩ := (h'.below hbel (Nat.le_refl _)).at1 hlt
      go_wp2_with fail
      go_quiet (fail)
      go_wp2_with fail
      go_roundw
      case rel => exact ⟨k + 1, by omega, by go_num, bdrewN hbel _⟩
      case measure => simp [intOf]; omega
    · obtain rfl : k = n := by omega
      go_wp2
      go_ret
      exact ⟨rfl, hbel⟩

theorem a2Rises_c (A : Option Addr) (n c : Nat) (zs : List Int) (u : Int) (w : World) (h : Ints w w.heap.size 1 A n zs) (hn : n ≤ 1000)
    (hr : ∀ j, j < n → 0 ≤ gi zs j ∧ gi zs j < u ∧ (0 < j → gi zs (j - 1) < gi zs j)) :
    Calls Try.prog 20 #[.slice A n c, .int .i64 u] w fun e w' => e = .returned (.bool true) ∧ Below w.heap.size w w' := by
  have HR := Lib.hid hr
  clear hr
  go_enter Try.func20, Try.ntmps20
  go_wp2_with fail
  go_loopw [5] (fun i wr => ∃ k : Nat, k ≤ n ∧ i = .int .i64 k ∧ Below w.heap.size w wr) (fun i _ => n - (intOf i).toNat)
  case atStart => exact ⟨0, Nat.zero_le _, rfl, Below.refl _ _⟩
  case round =>
    obtain ⟨k, hk, rfl, hbel⟩ := hrel
    by_cases hlt : k < n
    · obtain ⟨b, off, rfl, hb, c0⟩ := (h.below hbel (Nat.le_refl _)).at1 hlt
      obtain ⟨r0, r1, r2⟩ := HR.out k hlt
      have d0 : decide (gi zs k < 0) = false := by simpa using r0
      have e0 : ¬ gi zs k < 0 := by omega
      have d1 : decide (u ≤ gi zs k) = false := by simpa using r1
      have e1 : ¬ u ≤ gi zs k := by omega
      rcases Nat.lt_or_ge 0 k with h0 | h0
      · have r2 := r2 h0
        have hd : decide (0 < k) = true := by simpa using h0
        have hp : (0 : Int) < (k : Int) := by omega
        have hkk : ((k : Int) - 1).toNat = k - 1 := by omega
        have hk1 : (0 : Int) ≤ (k : Int) - 1 := by omega
        have hk2 : (k : Int) - 1 < (n : Int) := by omega
        have HW : IntKind.i64.wrap ((k : Int) - 1) = (k : Int) - 1 := IntWalk.i64_in _ (by omega)
        obtain ⟨b', off', e', _, c1⟩ := (h.below hbel (Nat.le_refl _)).at1 (i := k - 1) (by omega)
        obtain ⟨rfl, rfl⟩ : b = b' ∧ off = off' := by simpa using e'
        clear e'
        have d2 : decide (gi zs k ≤ gi zs (k - 1)) = false := by simpa using r2
        have e2 : ¬ gi zs k ≤ gi zs (k - 1) := by omega
        go_wp2_with fail
        go_quiet (fail)
        go_wp2_with fail
        go_roundw
        case rel => exact ⟨k + 1, by omega, by go_num, bdrewN hbel _⟩
        case measure => simp [intOf]; omega
      · have hd : decide (0 < k) = false := by simpa using h0
        have hp : ¬ (0 : Int) < (k : Int) := by omega
        clear h0
        go_wp2_with fail
        go_quiet (fail)
        go_wp2_with fail
        go_roundw
        case rel => exact ⟨k + 1, by omega, by go_num, bdrewN hbel _⟩
        case measure => simp [intOf]; omega
    · obtain rfl : k = n := by omega
      go_wp2
      go_ret
      exact ⟨rfl, hbel⟩

def apI (a : Int) : Int := if a < 0 then -a else a
theorem max_apI (a b : Int) : max (a - b) (b - a) = apI (a - b) := by unfold apI; split <;> omega
theorem a2Apart_c (x0 x1 x2 y0 y1 y2 : Int) (w : World) (hx : -10000 ≤ x0 ∧ x0 ≤ 10000 ∧ -10000 ≤ x1 ∧ x1 ≤ 10000 ∧ -10000 ≤ x2 ∧ x2 ≤ 10000) (hy : -10000 ≤ y0 ∧ y0 ≤ 10000 ∧ -10000 ≤ y1 ∧ y1 ≤ 10000 ∧ -10000 ≤ y2 ∧ y2 ≤ 10000) :
    Calls Try.prog 25 #[.agg #[.int .i64 x0, .int .i64 x1, .int .i64 x2], .agg #[.int .i64 y0, .int .i64 y1, .int .i64 y2]] w fun e w' => e = .returned (.int .i64 (apI (x0 - y0) + apI (x1 - y1) + apI (x2 - y2))) ∧ Below w.heap.size w w' := by
  go_enter Try.func25, Try.ntmps25
  go_wp2_with fail
  all_goals
    go_ret
    refine ⟨congrArg (fun z => Ending.returned (Value.int .i64 z)) ?_, balloc (balloc (Below.refl _ _) _) _⟩
    unfold apI
    repeat' split
    all_goals omega
end Go.Proofs.Ytpjafammnjbjdaa
