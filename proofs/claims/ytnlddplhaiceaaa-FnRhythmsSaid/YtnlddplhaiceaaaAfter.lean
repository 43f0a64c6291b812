/-
  Beds a year later: the reference and the program.
  No conditions.
-/
import Derived.Test.YtnlddplhaiceaaaOwnBeds
import Derived.Deep.AppendLies
import Derived.Deep.RegionHeld3
namespace Go.Proofs.Ytnlddplhaiceaaa
open Go.ChangeShapes Go.WideShapes Go.ChangeAt Go.RowKit Go.Deep
set_option linter.unusedVariables false

set_option maxRecDepth 100000 in
/-- append of a part of another's slice of numbers. -/
theorem append_ints {w : World} {ops : Array Oper} {rest : List Oper} {o : Oper} {a : Act} {Q : Exit → Act → World → Prop} (hgd : o.guard = none) (s x : Operand)
    (ho : o.op = .call { callee := .builtin .append, args := #[s, x], argTypes := #[30, 30] })
    (base : Nat) (v : Value) (zs : List Int) (hs : a.eval s = v) (hown : Own w base v zs) (us : List Int) (ad : Addr) (m c : Nat) (hx : a.eval x = .slice (some ad) m c) (hl : us.length = m)
    (hnews : ∀ j, j < m → w.cell? (ad.add j) = some (.int .i64 (gi us j)))
    (hn : zs.length ≤ 1048576) (hm : m ≤ 1048576) (hbase : base ≤ w.heap.size)
    (h : ∀ v' w', Own w' base v' (zs ++ us) → w.grownBy w' v.ownBlock → wpList Try.prog ops Q rest (a.put o.dst v') w') : wpList Try.prog ops Q (o :: rest) a w := by
  have hinfo : (Try.prog.info? 2).map (fun i => (i.zero, i.size, i.bytes)) = some (some (.int .i64 0), 1, 8) := by kernel_rfl
  obtain ⟨i0, hi, hz0, hz1, hz2⟩ := info_parts hinfo
  refine wpList_append_own w hgd s x 30 ho base 2 i0 _ 1 8 Try.underlying30 hi hz0 hz1 hz2 rfl (by decide) v zs.length (iv zs) hs hown ad m c (iv us) hx (by rw [iv_length, hl, Nat.mul_one]) ?_ ?_ ?_ ?_ hbase ?_
  · intro j y hy
    have hj : j < us.length := by
      have := (List.getElem?_eq_some_iff.1 hy).1
      rwa [iv_length] at this
    rw [iv_get us j hj] at hy
    injection hy with hy
    rw [hnews j (by omega), hy]
  · intro y hy
    simp only [iv, List.mem_map] at hy
    obtain ⟨z, _, rfl⟩ := hy
    rfl
  · simp only [maxLen]; omega
  · omega
  · intro v' w' hown' hgr _
    refine h v' w' ?_ hgr
    unfold Own
    rw [iv_append, List.length_append, hl]
    exact hown'
theorem own_form {w : World} {base : Nat} {v : Value} {zs : List Int} (h : Own w base v zs) (hl : 0 < zs.length) : ∃ g cap, v = .slice (some ⟨g, 0, none⟩) zs.length cap := by
  rcases h.2 with ⟨_, h0⟩ | ⟨g, cap, cur, e, _⟩
  · omega
  · exact ⟨g, cap, e⟩
theorem news_of {w : World} {A : Option Addr} {n : Nat} {zs : List Int} (h : Ints w w.heap.size 1 A n zs) (h0 : 0 < n) (o : Obj) : ∃ ad, A = some ad ∧ ∀ j, j < n → (w.alloc o).cell? (ad.add j) = some (.int .i64 (gi zs j)) := by
  obtain ⟨b, off, rfl, hb, -⟩ := h.at1 h0
  refine ⟨_, rfl, fun j hj => ?_⟩
  obtain ⟨b', off', e, hb', hc⟩ := h.at1 hj
  obtain ⟨rfl, rfl⟩ : b = b' ∧ off = off' := by simpa using e
  have e2 : (⟨b, off, none⟩ : Addr).add j = ⟨b, off + j, none⟩ := by unfold Addr.add; split <;> simp_all
  rw [e2, World.cell?_alloc_lt w _ _ hb, hc]
theorem l00Own_c (A : Option Addr) (n c : Nat) (zs : List Int) (w : World) (h : Ints w w.heap.size 1 A n zs) (h0 : 0 < n) (hn : n ≤ 1048576) :
    Calls Try.prog 82 #[.slice A n c] w fun e w' => ∃ γ c', e = .returned (.slice (some ⟨γ, 0, none⟩) n c') ∧ Own w' w.heap.size (.slice (some ⟨γ, 0, none⟩) n c') zs ∧ Below w.heap.size w w' := by
  have hl := h.length
  rw [Nat.mul_one] at hl
  obtain ⟨ad, rfl, hnews⟩ := news_of h h0 (.cells #[] 2)
  have HH := Lib.hid (And.intro hl hnews)
  clear hl hnews h
  go_enter Try.func82, Try.ntmps82
  go_wp2_with (at_builtin; refine append_ints rfl (.tmp 3) (.tmp 4) rfl w.heap.size _ [] rfl (Own.empty w (Nat.le_refl _)) zs ad n c rfl HH.out.1 HH.out.2 (by simp) hn (by simp) ?_; intro v1 w2 hown1 hgr1)
  obtain ⟨γ, c', rfl⟩ := own_form hown1 (by show 0 < zs.length; rw [HH.out.1]; exact h0)
  have hown2 : Own w2 w.heap.size (.slice (some ⟨γ, 0, none⟩) ([] ++ zs).length c') zs := hown1
  have e : ([] ++ zs).length = n := HH.out.1
  rw [e] at hown2 ⊢
  go_ret
  exact ⟨γ, c', rfl, hown2, below_grown (balloc (Below.refl _ w) _) hgr1 (fun g hg => by have e : some w.heap.size = some g := hg; injection e with e; omega)⟩
theorem clone_c (A : Option Addr) (n c : Nat) (zs : List Int) (w : World) (h : Ints w w.heap.size 1 A n zs) (h0 : 0 < n) (hn : n ≤ 1048576) :
    Calls Try.prog 56 #[.slice A n c] w fun e w' => ∃ γ c', e = .returned (.slice (some ⟨γ, 0, none⟩) n c') ∧ Own w' w.heap.size (.slice (some ⟨γ, 0, none⟩) n c') zs ∧ Below w.heap.size w w' := by
  have hl := h.length
  rw [Nat.mul_one] at hl
  obtain ⟨ad, rfl, hnews⟩ := news_of h h0 (.cells #[] 2)
  have HH := Lib.hid (And.intro hl hnews)
  clear hl hnews h
  have hnl := fun (x : World) (a : Option Addr) (p q : Nat) => Lib.run_eql_slice_nil (P := Try.prog) x 30 2 a p q 0 0 Try.underlying30
  go_enter Try.func56, Try.ntmps56
  go_wp2_with (at_builtin; refine append_ints rfl (.tmp 5) (.tmp 6) rfl w.heap.size _ [] rfl (Own.empty w (Nat.le_refl _)) zs ad n c rfl HH.out.1 HH.out.2 (by simp) hn (by simp) ?_; intro v1 w2 hown1 hgr1)
  obtain ⟨γ, c', rfl⟩ := own_form hown1 (by show 0 < zs.length; rw [HH.out.1]; exact h0)
  have hown2 : Own w2 w.heap.size (.slice (some ⟨γ, 0, none⟩) ([] ++ zs).length c') zs := hown1
  have e : ([] ++ zs).length = n := HH.out.1
  rw [e] at hown2 ⊢
  go_ret
  exact ⟨γ, c', rfl, hown2, below_grown (balloc (Below.refl _ w) _) hgr1 (fun g hg => by have e : some w.heap.size = some g := hg; injection e with e; omega)⟩
/-- Whether z is among the first n. -/
def hasZ (zs : List Int) (z : Int) : Nat → Bool
  | 0 => false
  | k + 1 => hasZ zs z k || decide (gi zs k = z)
theorem hasZ_at {zs : List Int} {z : Int} {k : Nat} (e : gi zs k = z) : ∀ n, k < n → hasZ zs z n = true
  | 0, h => absurd h (by omega)
  | n + 1, h => by
    rcases Nat.lt_or_ge k n with h1 | h1
    · simp [hasZ, hasZ_at e n h1]
    · obtain rfl : k = n := by omega
      simp [hasZ, e]
theorem hasZ_no {zs : List Int} {z : Int} : ∀ n, (∀ k, k < n → gi zs k ≠ z) → hasZ zs z n = false
  | 0, _ => rfl
  | n + 1, h => by simp [hasZ, hasZ_no n (fun k hk => h k (by omega)), h n (by omega)]
theorem has_s (A : Option Addr) (n c : Nat) (zs : List Int) (z : Int) (w : World) (h : Ints w w.heap.size 1 A n zs) (hn : n ≤ 1048576) :
    Calls Try.prog 88 #[.slice A n c, .int .i64 z] w fun e w' => e = .returned (.bool (hasZ zs z n)) ∧ w = w' := by
  go_enter Try.func88, Try.ntmps88
  go_wp2_with fail
  go_loop [5] (fun i => ∃ k : Nat, k ≤ n ∧ i = .int .i64 k ∧ Hid (∀ j, j < k → gi zs j ≠ z)) (fun i => n - (intOf i).toNat)
  case atStart => exact ⟨0, Nat.zero_le _, rfl, fun j h => absurd h (by omega)⟩
  case round =>
    obtain ⟨k, hk, rfl, HK⟩ := hrel
    by_cases hlt : k < n
    · obtain ⟨b, off, rfl, hb, d0⟩ := h.at1 hlt
      by_cases e : gi zs k = z
      · have HV : Hid (hasZ zs z n = true) := hasZ_at e n hlt
        have hbb : (gi zs k == z) = true := by simpa using e
        go_wp2_with fail
        go_ret
        exact ⟨ret_bool HV.out.symm, rfl⟩
      · have hbb : (gi zs k == z) = false := by simpa using e
        have HE := Lib.hid e
        clear e
        go_wp2_with fail
        go_round
        case rel =>
          refine ⟨k + 1, by omega, by go_num, fun j hj => ?_⟩
          rcases Nat.lt_or_ge j k with hh | hh
          · exact HK.out j hh
          · obtain rfl : j = k := by omega
            exact HE.out
        case measure => simp [intOf]; omega
    · obtain rfl : k = n := by omega
      have HV : Hid (hasZ zs z k = false) := hasZ_no k HK.out
      go_wp2
      go_ret
      exact ⟨ret_bool HV.out.symm, rfl⟩
theorem index_c (A : Option Addr) (n c : Nat) (zs : List Int) (z : Int) (w : World) (h : Ints w w.heap.size 1 A n zs) (hn : n ≤ 1048576) :
    Calls Try.prog 89 #[.slice A n c, .int .i64 z] w fun e w' => ∃ x : Int, e = .returned (.int .i64 x) ∧ decide (0 ≤ x) = hasZ zs z n ∧ w = w' := by
  go_enter Try.func89, Try.ntmps89
  go_wp2_with fail
  go_loop [8] (fun i => ∃ k : Nat, k ≤ n ∧ i = .int .i64 k ∧ Hid (∀ j, j < k → gi zs j ≠ z)) (fun i => n - (intOf i).toNat)
  case atStart => exact ⟨0, Nat.zero_le _, rfl, fun j h => absurd h (by omega)⟩
  case round =>
    obtain ⟨k, hk, rfl, HK⟩ := hrel
    by_cases hlt : k < n
    · obtain ⟨b, off, rfl, hb, d0⟩ := h.at1 hlt
      by_cases e : gi zs k = z
      · have HV : Hid (hasZ zs z n = true) := hasZ_at e n hlt
        have hbb : (z == gi zs k) = true := by simpa using e.symm
        go_wp2_with fail
        go_ret
        exact ⟨_, rfl, by rw [HV.out]; simp, rfl⟩
      · have hbb : (z == gi zs k) = false := by simp; exact fun h => e h.symm
        have HE := Lib.hid e
        clear e
        go_wp2_with fail
        go_round
        case rel =>
          refine ⟨k + 1, by omega, by go_num, fun j hj => ?_⟩
          rcases Nat.lt_or_ge j k with hh | hh
          · exact HK.out j hh
          · obtain rfl : j = k := by omega
            exact HE.out
        case measure => simp [intOf]; omega
    · obtain rfl : k = n := by omega
      have HV : Hid (hasZ zs z k = false) := hasZ_no k HK.out
      go_wp2
      go_ret
      exact ⟨-1, rfl, by rw [HV.out]; rfl, rfl⟩
theorem contains_c (A : Option Addr) (n c : Nat) (zs : List Int) (z : Int) (w : World) (h : Ints w w.heap.size 1 A n zs) (hn : n ≤ 1048576) :
    Calls Try.prog 55 #[.slice A n c, .int .i64 z] w fun e w' => e = .returned (.bool (hasZ zs z n)) ∧ w = w' := by
  go_enter Try.func55, Try.ntmps55
  go_wp2_with fail
  refine (index_c A n c zs z _ h hn).mono ?_
  rintro e w1 ⟨x, rfl, hx, rfl⟩
  have HX := Lib.hid hx
  clear hx
  go_wp2
  go_ret
  exact ⟨ret_bool HX.out, rfl⟩
/-- append of one bed at a step of a region that draws its order. -/
theorem step_append_bed {w : World} {ops : Array Oper} {o : Oper} {a : Act} {K : Act → World → Prop} {Q : Exit → Act → World → Prop} {E : Prop} (hgd : o.guard = none) (s x : Operand)
    (ho : o.op = .call { callee := .builtin .append, args := #[s, x], argTypes := #[26, 26] })
    (lo hi : Nat) (v : Value) (n : Nat) (bs : Nat → List Int × Int) (hs : a.eval s = v) (hown : OwnB w lo hi v n bs) (γ0 c0 : Nat) (hγ : hi ≤ γ0) (hO : Own w lo (.slice (some ⟨γ0, 0, none⟩) (yl bs n).length c0) (yl bs n))
    (g : Nat) (hx : a.eval x = .slice (some ⟨g, 0, none⟩) 1 1) (hg : Blk w g 41 #[.slice (some ⟨γ0, 0, none⟩) (yl bs n).length c0, .int .i64 (ag bs n)])
    (hn : n ≤ 1048576) (hbase : lo ≤ w.heap.size)
    (h : ∀ v' w', OwnB w' lo w'.heap.size v' (n + 1) bs → w.grownBy w' v.ownBlock → K (a.put o.dst v') w') : if Region.wanted o (yielded ops a.tmps) = true then Oper.wp Try.prog o a w K Q else E := by
  have hinfo : (Try.prog.info? 41).map (fun i => (i.zero, i.size, i.bytes)) = some (some (.agg #[.slice none 0 0, .int .i64 0]), 2, 32) := by kernel_rfl
  obtain ⟨i0, hi0, hz0, hz1, hz2⟩ := info_parts hinfo
  have hr := hown
  obtain ⟨L, γ, c, hr, -⟩ := hr
  refine step_append_lies w hgd s x 26 ho lo 41 i0 _ 2 32 Try.underlying26 hi0 hz0 hz1 hz2 rfl (by decide) v n L hs hr ⟨g, 0, none⟩ 1 1 [.slice (some ⟨γ0, 0, none⟩) (yl bs n).length c0, .int .i64 (ag bs n)] hx rfl ?_ ?_ (by omega) ?_ ?_ hbase _ rfl ?_
  · intro j y hy
    have e : (⟨g, 0, none⟩ : Addr).add j = ⟨g, j, none⟩ := by unfold Addr.add; split <;> simp_all
    rw [e, hg.cell j]
    match j, hy with
    | 0, hy => simpa using hy
    | 1, hy => simpa using hy
  · intro y hy
    simp only [List.mem_cons, List.not_mem_nil, or_false] at hy
    rcases hy with rfl | rfl <;> rfl
  · simp only [maxLen]; omega
  · omega
  · intro g' cap w' hown' hgr _ _
    exact h _ w' (hown.snoc hr hO hγ hown' hgr) hgr
end Go.Proofs.Ytnlddplhaiceaaa
