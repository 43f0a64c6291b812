/-
  FewestBunches: the plain law: the first of the order that weigh enough, in rising order.
  No conditions.
-/
import Derived.Test.YtgcpobondcnjcaaGreatDoorSortW
import Derived.Test.YtgcpobondcnjcaaGreatDoorStabP
import Derived.Test.YtgcpobondcnjcaaGreatDoorSortI
import Derived.Test.YtgcpobondcnjcaaGreatDoorWeight
namespace Go.Proofs.YtgcpobondcnjcaaGreatDoor
open Go.ChangeShapes Go.WideShapes Go.ChangeAt Go.RowKit Go.Deep Go.Sort
set_option linter.unusedVariables false

/-- The weight of bundle x. -/
def wtK (zs : List Int) (n : Nat) (x : Int) : Int := gi zs ((clp n x).toNat * 3 + 2)
theorem clp_clp (n : Nat) (k : Int) : clp n (clp n k) = clp n k := by
  rcases Nat.eq_zero_or_pos n with h | h
  · subst h; unfold clp; repeat' split
    all_goals first | rfl | omega
  · have := clp_bd h k; rw [clp_in this.1 this.2]
theorem wtK_clp (zs : List Int) (n : Nat) (k : Int) : wtK zs n (clp n k) = wtK zs n k := by unfold wtK; rw [clp_clp]
theorem wtK_in (zs : List Int) {n q : Nat} (h : q < n) : wtK zs n (q : Int) = gi zs (q * 3 + 2) := by unfold wtK; rw [clp_in (by omega) (by omega)]; simp
theorem wt_bd {zs : List Int} {n : Nat} (hok : okAll (bunchAt zs) n 30 = true) (j : Nat) (hj : j < n) : 1 ≤ gi zs (j * 3 + 2) ∧ gi zs (j * 3 + 2) ≤ 50000 := by
  have := bunchOk_bd (okAll_get hok hj); omega

/-- The order: the heaviest first. -/
def fwO (zs : List Int) (n : Nat) : List Int := stTo (wtK zs n) n
theorem gi_memF {L : List Int} {i : Nat} (h : i < L.length) : gi L i ∈ L := by
  have : gi L i = L[i] := by simp [gi, List.getD, List.getElem?_eq_getElem h]
  rw [this]; exact List.getElem_mem h
theorem fwO_at (zs : List Int) {n j : Nat} (h : j < n) : ∃ p : Nat, gi (fwO zs n) j = p ∧ p < n := by
  have := stTo_mem (wtK zs n) n _ (gi_memF (L := fwO zs n) (i := j) (by unfold fwO; rw [stTo_len]; exact h))
  exact ⟨(gi (fwO zs n) j).toNat, by omega, by omega⟩
/-- The weight of the first j of the order. -/
def fwS (zs : List Int) (n : Nat) (j : Nat) : Int := sumTo (fun i => wtK zs n (gi (fwO zs n) i)) j
theorem fwS_succ (zs : List Int) (n j : Nat) : fwS zs n (j + 1) = fwS zs n j + wtK zs n (gi (fwO zs n) j) := sumTo_succ _ _
theorem fwS_bd {zs : List Int} {n : Nat} (hok : okAll (bunchAt zs) n 30 = true) (k : Nat) (hk : k ≤ n) : 0 ≤ fwS zs n k ∧ fwS zs n k ≤ 1500000 := by
  have := sumTo_bd (fun i => wtK zs n (gi (fwO zs n) i)) 50000 k fun j hj => by
    obtain ⟨p, h1, h2⟩ := fwO_at zs (n := n) (j := j) (by omega)
    have hb := wt_bd hok p h2
    show 0 ≤ wtK zs n (gi (fwO zs n) j) ∧ wtK zs n (gi (fwO zs n) j) ≤ 50000
    rw [h1, wtK_in zs h2]; omega
  have := okAll_le hok
  unfold fwS
  omega
/-- The first place below n where p holds, or else n. -/
def stopAt (p : Nat → Bool) : Nat → Nat
  | 0 => 0
  | n + 1 => if stopAt p n = n then (if p n then n else n + 1) else stopAt p n
theorem stopAt_eq {p : Nat → Bool} {j : Nat} (h1 : ∀ i, i < j → p i = false) (h2 : ∀ n, n = j → True) : ∀ n, j ≤ n → (j = n ∨ p j = true) → stopAt p n = j
  | 0, h, _ => by unfold stopAt; omega
  | n + 1, h, hp => by
    unfold stopAt
    rcases Nat.lt_or_ge j n with q | q
    · have hpj : p j = true := by rcases hp with e | e; omega; exact e
      rw [stopAt_eq h1 h2 n (by omega) (.inr hpj), if_neg (by omega)]
    · by_cases e : j = n
      · subst e
        have hpj : p j = true := by rcases hp with e | e; omega; exact e
        rw [stopAt_eq h1 h2 j (Nat.le_refl _) (.inl rfl), if_pos rfl, if_pos hpj]
      · obtain rfl : j = n + 1 := by omega
        have hn : stopAt p n = n := by
          have : ∀ m, m ≤ n → stopAt p m = m := by
            intro m
            induction m with
            | zero => intro _; rfl
            | succ m ih =>
              intro hm
              unfold stopAt
              rw [ih (by omega), if_pos rfl, if_neg (by rw [h1 m (by omega)]; simp)]
          exact this n (Nat.le_refl _)
        rw [hn, if_pos rfl, if_neg (by rw [h1 n (by omega)]; simp)]
/-- How many are taken. -/
def fwQ (zs : List Int) (n : Nat) (need : Int) : Nat := stopAt (fun j => decide (need ≤ fwS zs n j)) n
theorem fwQ_eq {zs : List Int} {n : Nat} {need : Int} {j : Nat} (h1 : ∀ i, i < j → fwS zs n i < need) (h : j ≤ n) (h2 : j = n ∨ need ≤ fwS zs n j) : fwQ zs n need = j :=
  stopAt_eq (fun i hi => by have := h1 i hi; simp; omega) (fun _ _ => trivial) n h (h2.imp id fun q => by simpa using q)
theorem stopAt_le (p : Nat → Bool) : ∀ n, stopAt p n ≤ n
  | 0 => Nat.le_refl _
  | n + 1 => by
    have := stopAt_le p n
    unfold stopAt
    repeat' split
    all_goals omega

/-! A number put to its place among rising ones. -/
def putTo (zs : List Int) (x : Int) : Nat → List Int × Bool
  | 0 => ([], false)
  | k + 1 => if (putTo zs x k).2 = false ∧ x ≤ gi zs k then ((if x < gi zs k then (putTo zs x k).1 ++ [x] else (putTo zs x k).1) ++ [gi zs k], true) else ((putTo zs x k).1 ++ [gi zs k], (putTo zs x k).2)
def putL (zs : List Int) (x : Int) : List Int := if (putTo zs x zs.length).2 then (putTo zs x zs.length).1 else (putTo zs x zs.length).1 ++ [x]
theorem putTo_succ (zs : List Int) (x : Int) (k : Nat) : putTo zs x (k + 1) = if (putTo zs x k).2 = false ∧ x ≤ gi zs k then ((if x < gi zs k then (putTo zs x k).1 ++ [x] else (putTo zs x k).1) ++ [gi zs k], true) else ((putTo zs x k).1 ++ [gi zs k], (putTo zs x k).2) := rfl
theorem putTo_len (zs : List Int) (x : Int) : ∀ k, (putTo zs x k).1.length ≤ k + 1
  | 0 => by simp [putTo]
  | k + 1 => by
    have h := putTo_len zs x k
    have h0 : (putTo zs x k).2 = false → (putTo zs x k).1.length ≤ k := by
      intro hf
      have : ∀ m, (putTo zs x m).2 = false → (putTo zs x m).1.length ≤ m := by
        intro m
        induction m with
        | zero => intro _; simp [putTo]
        | succ m ih =>
          intro hm
          rw [putTo_succ] at hm ⊢
          split at hm
          · cases hm
          · next hc => rw [if_neg hc]; simp only [List.length_append, List.length_singleton]; have := ih hm; omega
      exact this k hf
    rw [putTo_succ]
    split
    · next hc =>
      have := h0 hc.1
      split <;> simp only [List.length_append, List.length_singleton] <;> omega
    · simp only [List.length_append, List.length_singleton]; omega
theorem putL_len (zs : List Int) (x : Int) : (putL zs x).length ≤ zs.length + 2 := by
  have := putTo_len zs x zs.length
  unfold putL
  split
  · omega
  · simp only [List.length_append, List.length_singleton]; omega
/-- What is put stands among rising ones, all of them rise. -/
theorem putTo_law {zs : List Int} {x : Int} (hp : zs.Pairwise (· < ·)) : ∀ k, k ≤ zs.length →
    ((putTo zs x k).2 = false → (putTo zs x k).1 = zs.take k ∧ ∀ i, i < k → gi zs i < x) ∧
    ((putTo zs x k).2 = true → ((putTo zs x k).1.Pairwise (· < ·) ∧ (∀ y, y ∈ (putTo zs x k).1 ↔ (y = x ∨ y ∈ zs.take k)) ∧ (∃ i, i < k ∧ x ≤ gi zs i)))
  | 0, _ => ⟨fun _ => ⟨rfl, fun i h => absurd h (by omega)⟩, fun h => absurd h (by simp [putTo])⟩
  | k + 1, hk => by
    obtain ⟨h1, h2⟩ := putTo_law hp k (by omega)
    have hgk : gi zs k = zs[k] := by simp [gi, List.getD, List.getElem?_eq_getElem (show k < zs.length by omega)]
    have htk : zs.take (k + 1) = zs.take k ++ [gi zs k] := by rw [hgk, List.take_succ_eq_append_getElem]
    have hlt : ∀ i, i < k → gi zs i < gi zs k := fun i hi => by
      have hgi : gi zs i = zs[i] := by simp [gi, List.getD, List.getElem?_eq_getElem (show i < zs.length by omega)]
      rw [hgi, hgk]
      exact (List.pairwise_iff_getElem.1 hp) i k (by omega) (by omega) hi
    have hmt : ∀ y, y ∈ zs.take k → ∃ i, i < k ∧ y = gi zs i := fun y hy => by
      obtain ⟨i, hi, rfl⟩ := List.mem_iff_getElem.1 hy
      rw [List.length_take] at hi
      refine ⟨i, by omega, ?_⟩
      rw [List.getElem_take]
      simp [gi, List.getD, List.getElem?_eq_getElem (show i < zs.length by omega)]
    rw [putTo_succ]
    split
    · next hc =>
      obtain ⟨e1, e2⟩ := h1 hc.1
      refine ⟨fun h => (by cases h), fun _ => ?_⟩
      rw [e1, htk]
      by_cases hx : x < gi zs k
      · rw [if_pos hx]
        refine ⟨?_, fun y => ?_, k, by omega, hc.2⟩
        · rw [List.pairwise_append, List.pairwise_append]
          refine ⟨⟨hp.sublist (List.take_sublist _ _), by simp, fun a ha b hb => ?_⟩, by simp, fun a ha b hb => ?_⟩
          · obtain ⟨i, hi, rfl⟩ := hmt a ha
            rw [List.mem_singleton.1 hb]; exact e2 i hi
          · rw [List.mem_singleton.1 hb]
            rcases List.mem_append.1 ha with ha | ha
            · obtain ⟨i, hi, rfl⟩ := hmt a ha
              exact hlt i hi
            · rw [List.mem_singleton.1 ha]; exact hx
        · simp only [List.mem_append, List.mem_singleton]
          constructor
          · rintro ((h | h) | h)
            · exact .inr (.inl h)
            · exact .inl h
            · exact .inr (.inr h)
          · rintro (h | h | h)
            · exact .inl (.inr h)
            · exact .inl (.inl h)
            · exact .inr h
      · rw [if_neg hx]
        have hxe : x = gi zs k := by have := hc.2; omega
        refine ⟨?_, fun y => ?_, k, by omega, hc.2⟩
        · rw [← htk]; exact hp.sublist (List.take_sublist _ _)
        · simp only [List.mem_append, List.mem_singleton]
          constructor
          · exact .inr
          · rintro (h | h)
            · exact .inr (h.trans hxe)
            · exact h
    · next hc =>
      refine ⟨fun h => ?_, fun h => ?_⟩
      · obtain ⟨e1, e2⟩ := h1 h
        refine ⟨by rw [e1, htk], fun i hi => ?_⟩
        rcases Nat.lt_or_ge i k with q | q
        · exact e2 i q
        · obtain rfl : i = k := by omega
          rcases Int.lt_or_le (gi zs i) x with q | q
          · exact q
          · exact absurd ⟨h, q⟩ hc
      · obtain ⟨e1, e2, i0, e3, e4⟩ := h2 h
        have hxk : x < gi zs k := by have := hlt i0 e3; omega
        refine ⟨?_, fun y => ?_, i0, by omega, e4⟩
        · rw [List.pairwise_append]
          refine ⟨e1, by simp, fun a ha b hb => ?_⟩
          rw [List.mem_singleton.1 hb]
          rcases (e2 a).1 ha with rfl | ha
          · exact hxk
          · obtain ⟨i, hi, rfl⟩ := hmt a ha
            exact hlt i hi
        · rw [htk]
          simp only [List.mem_append, List.mem_singleton, e2 y]
          constructor
          · rintro ((h | h) | h)
            · exact .inl h
            · exact .inr (.inl h)
            · exact .inr (.inr h)
          · rintro (h | h | h)
            · exact .inl (.inl h)
            · exact .inl (.inr h)
            · exact .inr h
theorem putL_law {zs : List Int} (hp : zs.Pairwise (· < ·)) (x : Int) : (putL zs x).Pairwise (· < ·) ∧ ∀ y, y ∈ putL zs x ↔ (y = x ∨ y ∈ zs) := by
  obtain ⟨h1, h2⟩ := putTo_law (x := x) hp zs.length (Nat.le_refl _)
  rw [List.take_length] at h1 h2
  unfold putL
  cases hb : (putTo zs x zs.length).2 with
  | true => rw [if_pos rfl]; exact ⟨(h2 hb).1, (h2 hb).2.1⟩
  | false =>
    rw [if_neg (by simp)]
    obtain ⟨e1, e2⟩ := h1 hb
    rw [e1]
    refine ⟨?_, fun y => ?_⟩
    · rw [List.pairwise_append]
      refine ⟨hp, by simp, fun a ha b hb => ?_⟩
      rw [List.mem_singleton.1 hb]
      obtain ⟨i, hi, rfl⟩ := List.mem_iff_getElem.1 ha
      have := e2 i hi
      simpa [gi, List.getD, List.getElem?_eq_getElem hi] using this
    · simp only [List.mem_append, List.mem_singleton]
      exact ⟨fun h => h.symm, fun h => h.symm⟩
/-- The first k of a list, put one by one. -/
def putAll (L : List Int) : Nat → List Int
  | 0 => []
  | k + 1 => putL (putAll L k) (gi L k)
theorem take_next {L : List Int} {k : Nat} (h : k < L.length) : L.take (k + 1) = L.take k ++ [gi L k] := by
  have : gi L k = L[k] := by simp [gi, List.getD, List.getElem?_eq_getElem h]
  rw [this, List.take_succ_eq_append_getElem]
theorem putAll_law (L : List Int) : ∀ k, k ≤ L.length → (putAll L k).Pairwise (· < ·) ∧ ∀ y, y ∈ putAll L k ↔ y ∈ L.take k
  | 0, _ => ⟨List.Pairwise.nil, fun y => by simp [putAll]⟩
  | k + 1, h => by
    obtain ⟨h1, h2⟩ := putAll_law L k (by omega)
    obtain ⟨h3, h4⟩ := putL_law h1 (gi L k)
    refine ⟨h3, fun y => ?_⟩
    rw [take_next (by omega)]
    show y ∈ putL (putAll L k) (gi L k) ↔ _
    rw [h4 y, h2 y, List.mem_append, List.mem_singleton]
    exact or_comm
theorem putAll_len (L : List Int) : ∀ k, k ≤ L.length → (putAll L k).length ≤ 2 * k
  | 0, _ => by simp [putAll]
  | k + 1, h => by
    have h1 := putAll_len L k (by omega)
    have := putL_len (putAll L k) (gi L k)
    show (putL (putAll L k) (gi L k)).length ≤ _
    omega
theorem lt_one {l1 l2 : List Int} (h1 : l1.Pairwise (· < ·)) (h2 : l2.Pairwise (· < ·)) (h : ∀ x, x ∈ l1 ↔ x ∈ l2) : l1 = l2 :=
  srt_one (f := fun _ => 0) l1 l2 (h1.imp fun q => .inr ⟨rfl, q⟩) (h2.imp fun q => .inr ⟨rfl, q⟩) h
theorem fwO_nd (zs : List Int) (n : Nat) : (fwO zs n).Pairwise (· ≠ ·) := (stTo_pw (wtK zs n) n).imp fun {a b} q => by rintro rfl; exact q.irr.elim
/-- Sorted or put one by one: the same list. -/
theorem putAll_srt {L : List Int} (hnd : L.Pairwise (· ≠ ·)) {k : Nat} (hk : k ≤ L.length) : putAll L k = srt (L.take k) := by
  obtain ⟨h1, h2⟩ := putAll_law L k hk
  refine lt_one h1 ?_ fun y => by rw [h2, srt_mem]
  have e1 : (srt (L.take k)).Pairwise (· ≠ ·) := (List.mergeSort_perm (L.take k) _).nodup_iff.2 (hnd.sublist (List.take_sublist _ _))
  have e2 := srt_pair (L.take k)
  exact (e1.and e2).imp fun {a b} q => by obtain ⟨q1, q2⟩ := q; omega
/-- FewestBunches. -/
def fwL (zs : List Int) (n : Nat) (need : Int) : List Int := if okAll (bunchAt zs) n 30 && inR need 0 1000000 && decide (need ≤ fwS zs n (fwQ zs n need)) then srt ((fwO zs n).take (fwQ zs n need)) else []
def fwC (zs : List Int) (n : Nat) (need : Int) : Int := if okAll (bunchAt zs) n 30 then (if inR need 0 1000000 then (if need ≤ fwS zs n (fwQ zs n need) then 0 else 3) else 2) else 1
theorem fwL_bd (zs : List Int) (n : Nat) (need : Int) (hn : n ≤ 1048576) : (fwL zs n need).length ≤ 1048576 ∧ ∀ z ∈ fwL zs n need, -9223372036854775808 ≤ z ∧ z ≤ 9223372036854775807 := by
  unfold fwL; split
  · refine ⟨?_, fun z hz => ?_⟩
    · rw [srt_len, List.length_take]
      have : (fwO zs n).length = n := stTo_len _ _
      omega
    · have := stTo_mem _ _ _ (List.mem_of_mem_take (srt_mem.1 hz))
      omega
  · exact ⟨by simp, by simp⟩
end Go.Proofs.YtgcpobondcnjcaaGreatDoor
