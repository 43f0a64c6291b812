/-
  EarliestPlan: the plan, batch by batch: plain lemmas.
  No conditions.
-/
import Derived.Test.YtnagaopogmdfgaaEarlyP
import Derived.Test.YtnagaopogmdfgaaSortI
import Derived.Test.YtnagaopogmdfgaaDraw4
namespace Go.Proofs.Ytnagaopogmdfgaa

theorem Placed.of_loose {ps : List Int} {m : Nat} (h : Loose ps m) (hm : m ≤ 10) (hs : ∀ j, j < m → gi ps (j * 4) ≤ 5000) : Placed ps m :=
  ⟨hm, fun j hj => by have := h.2 j hj; have := hs j hj; omega⟩
/-- At what hour the batch k is put in, with the placed ones in front of it. -/
def nextT (zs ps : List Int) (k : Nat) (room : Int) : Int := leastFrom (spB ps k (gi zs (k * 4 + 1)) (gi zs (k * 4 + 3)) room) 6000 (gi zs (k * 4))
/-- The plan of the first k batches; none where one would be put in too late. -/
def plTo (zs : List Int) (room : Int) : Nat → Option (List Int)
  | 0 => some []
  | k + 1 => match plTo zs room k with
    | none => none
    | some ps => if 5000 < nextT zs ps k room then none else some (ps ++ [nextT zs ps k room, gi zs (k * 4 + 1), gi zs (k * 4 + 2), gi zs (k * 4 + 3)])
/-- What a plan of k batches is. -/
structure Plan (zs : List Int) (k : Nat) (ps : List Int) : Prop where
  len : ps.length = k * 4
  loose : Loose ps k
  late : ∀ j, j < k → gi ps (j * 4) ≤ 5000
theorem Plan.placed {zs ps : List Int} {k : Nat} (h : Plan zs k ps) (hk : k ≤ 10) : Placed ps k := .of_loose h.loose hk h.late
theorem Plan.snoc {zs ps : List Int} {k : Nat} {t so su bu : Int} (h : Plan zs k ps) (hk : k < 10) (h0 : 0 ≤ t) (h1 : t ≤ 5000) (h2 : 1 ≤ so) (h3 : so ≤ 500) (h4 : 1 ≤ su) (h5 : su ≤ 500) (h6 : 1 ≤ bu) (h7 : bu ≤ 100) :
    Plan zs (k + 1) (ps ++ [t, so, su, bu]) := by
  have hl := h.len
  refine ⟨by simp; omega, ⟨by omega, fun j hj => ?_⟩, fun j hj => ?_⟩
  · by_cases hlt : j < k
    · have := h.loose.2 j hlt
      rw [gi_left (by omega), gi_left (by omega), gi_left (by omega), gi_left (by omega)]
      exact this
    · obtain rfl : j = k := by omega
      rw [gi_right (r := 0) (by omega), gi_right (r := 1) (by omega), gi_right (r := 2) (by omega), gi_right (r := 3) (by omega)]
      simp [gi]; omega
  · by_cases hlt : j < k
    · rw [gi_left (by omega)]; exact h.late j hlt
    · obtain rfl : j = k := by omega
      rw [gi_right (r := 0) (by omega)]; simpa [gi] using h1
theorem Plan.nil (zs : List Int) : Plan zs 0 [] := ⟨rfl, ⟨by omega, fun j hj => absurd hj (by omega)⟩, fun j hj => absurd hj (by omega)⟩
theorem Plan.wf {zs ps : List Int} {k : Nat} (h : Plan zs k ps) : ∀ z ∈ ps, -9223372036854775808 ≤ z ∧ z ≤ 9223372036854775807 := by
  intro z hz
  obtain ⟨j, hj, rfl⟩ := List.mem_iff_getElem.1 hz
  have hl := h.len
  have hb := h.loose.2 (j / 4) (by omega)
  have e : ps[j] = gi ps j := by simp [gi, List.getD, List.getElem?_eq_getElem hj]
  rw [e]
  rcases (by omega : j = j / 4 * 4 ∨ j = j / 4 * 4 + 1 ∨ j = j / 4 * 4 + 2 ∨ j = j / 4 * 4 + 3) with h1 | h1 | h1 | h1 <;> rw [h1] <;> omega
/-- The hours that the program asks: the batch's own, and those at which another leaves. -/
def candTo (ps : List Int) (st : Int) : Nat → List Int
  | 0 => [st]
  | k + 1 => candTo ps st k ++ [max st (endF ps k)]
theorem candTo_len (ps : List Int) (st : Int) : ∀ k : Nat, (candTo ps st k).length = k + 1
  | 0 => rfl
  | k + 1 => by simp [candTo, candTo_len ps st k]
theorem candTo_mem (ps : List Int) (st x : Int) : ∀ k : Nat, x ∈ candTo ps st k ↔ x = st ∨ ∃ j, j < k ∧ x = max st (endF ps j)
  | 0 => by simp [candTo]
  | k + 1 => by
    simp only [candTo, List.mem_append, List.mem_singleton, candTo_mem ps st x k]
    constructor
    · rintro ((h | ⟨j, hj, h⟩) | h)
      · exact .inl h
      · exact .inr ⟨j, by omega, h⟩
      · exact .inr ⟨k, by omega, h⟩
    · rintro (h | ⟨j, hj, h⟩)
      · exact .inl (.inl h)
      · rcases Nat.lt_or_ge j k with h1 | h1
        · exact .inl (.inr ⟨j, h1, h⟩)
        · obtain rfl : j = k := by omega
          exact .inr h
theorem gi_at {L : List Int} {i : Nat} (h : i < L.length) : gi L i = L[i] := by simp [gi, List.getD, List.getElem?_eq_getElem h]
/-- The first of the asked hours, rising, at which there is room is the least of all. -/
theorem first_cand {ps : List Int} {m : Nat} {so bu room st : Int} (hp : Placed ps m) (hso : 1 ≤ so) (hbu : bu ≤ room) (h0 : 0 ≤ st) (h1 : st ≤ 5000) :
    (∀ i, i < (srt (candTo ps st m)).length → st ≤ gi (srt (candTo ps st m)) i ∧ gi (srt (candTo ps st m)) i ≤ 5500) ∧
    (∃ i, i < (srt (candTo ps st m)).length ∧ spB ps m so bu room (gi (srt (candTo ps st m)) i) = true) ∧
    ∀ k, k < (srt (candTo ps st m)).length → spB ps m so bu room (gi (srt (candTo ps st m)) k) = true → (∀ i, i < k → spB ps m so bu room (gi (srt (candTo ps st m)) i) = false) →
      gi (srt (candTo ps st m)) k = leastFrom (spB ps m so bu room) 6000 st := by
  obtain ⟨j, hj, e1, e2, e3⟩ := early_ex (so := so) hp hbu h0 h1
  have hT := early_at (so := so) (bu := bu) (room := room) (st := st) (T := st + j) hp hso e1 (by omega) (fun hlt => by
    have := e2 (j - 1) (by omega)
    rw [← this]; congr 1; omega)
  have hTm : st + (j : Int) ∈ candTo ps st m := (candTo_mem ps st _ m).2 hT
  have hall : ∀ i, i < (srt (candTo ps st m)).length → st ≤ gi (srt (candTo ps st m)) i ∧ gi (srt (candTo ps st m)) i ≤ 5500 := fun i hi => by
    have hm : gi (srt (candTo ps st m)) i ∈ candTo ps st m := by rw [gi_at hi]; exact srt_mem.1 (List.getElem_mem hi)
    rcases (candTo_mem ps st _ m).1 hm with h | ⟨q, hq, h⟩
    · omega
    · have := hp.2 q hq
      unfold endF at h; omega
  have hTs : ∃ i, i < (srt (candTo ps st m)).length ∧ gi (srt (candTo ps st m)) i = st + j := by
    obtain ⟨i, hi, he⟩ := List.mem_iff_getElem.1 (srt_mem.2 hTm)
    exact ⟨i, hi, by rw [gi_at hi]; exact he⟩
  refine ⟨hall, ?_, fun k hk hp2 hno => ?_⟩
  · obtain ⟨i, hi, he⟩ := hTs
    exact ⟨i, hi, by rw [he]; exact e1⟩
  · rw [e3]
    obtain ⟨i, hi, he⟩ := hTs
    have hik : k ≤ i := by
      refine Classical.byContradiction fun hh => ?_
      have := hno i (by omega)
      rw [he, e1] at this; cases this
    have hle : gi (srt (candTo ps st m)) k ≤ gi (srt (candTo ps st m)) i := by
      rcases Nat.eq_or_lt_of_le hik with h | h
      · rw [h]; exact Int.le_refl _
      · rw [gi_at hk, gi_at hi]
        exact List.pairwise_iff_getElem.1 (srt_pair _) k i hk hi h
    have hge : st + (j : Int) ≤ gi (srt (candTo ps st m)) k := by
      have h3 := (hall k hk).1
      refine Classical.byContradiction fun hh => ?_
      have := e2 (gi (srt (candTo ps st m)) k - st).toNat (by omega)
      rw [show st + ((gi (srt (candTo ps st m)) k - st).toNat : Int) = gi (srt (candTo ps st m)) k by omega, hp2] at this
      cases this
    omega
/-- EarliestPlan. -/
def epBig (zs : List Int) (n : Nat) (room : Int) : Bool := (List.range n).all fun i => decide (gi zs (i * 4 + 3) ≤ room)
def epL (zs : List Int) (n : Nat) (room : Int) : List Int := if okAll (batchAt zs) n 10 && inR room 0 100 && epBig zs n room then (plTo zs room n).getD [] else []
def epC (zs : List Int) (n : Nat) (room : Int) : Int := if okAll (batchAt zs) n 10 then (if inR room 0 100 then (if epBig zs n room then (if plTo zs room n = none then 6 else 0) else 5) else 2) else 1
theorem plTo_plan {zs : List Int} {room : Int} {n : Nat} (hok : okAll (batchAt zs) n 10 = true) (hb : epBig zs n room = true) : ∀ (k : Nat) (ps : List Int), k ≤ n → plTo zs room k = some ps → Plan zs k ps
  | 0, ps, _, h => by injection h with h; subst h; exact Plan.nil zs
  | k + 1, ps, hk, h => by
    simp only [plTo] at h
    rcases hp : plTo zs room k with _ | qs
    · rw [hp] at h; cases h
    · rw [hp] at h
      simp only at h
      split at h
      · cases h
      · next hT =>
        injection h with h; subst h
        have ih := plTo_plan hok hb k qs (by omega) hp
        have hbt := batchOk_bd (okAll_get hok (by omega : k < n))
        have hn := okAll_le hok
        have hbu : gi zs (k * 4 + 3) ≤ room := by
          simp only [epBig, List.all_eq_true, List.mem_range, decide_eq_true_eq] at hb
          exact hb k (by omega)
        obtain ⟨j, hj, e1, e2, e3⟩ := early_ex (so := gi zs (k * 4 + 1)) (ih.placed (by omega)) hbu hbt.1 hbt.2.1
        have e4 : nextT zs qs k room = gi zs (k * 4) + j := e3
        exact ih.snoc (by omega) (by omega) (by omega) (by omega) (by omega) (by omega) (by omega) (by omega) (by omega)

end Go.Proofs.Ytnagaopogmdfgaa
