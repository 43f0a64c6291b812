/-
  Insertion sort on a part, and the stable sort of up to 40: the plain law.
  No conditions.
-/
import Derived.Test.YtgcpobondcnjcaaGreatDoorMergeP
namespace Go.Proofs.YtgcpobondcnjcaaGreatDoor
open Go.Sort
set_option linter.unusedVariables false

def ltF (f : Int → Int) : Int → Int → Bool := ltOf fun a b => f b - f a
theorem ltF_iff {f : Int → Int} {x y : Int} : ltF f x y = true ↔ f y < f x := by unfold ltF ltOf; simp; omega
theorem MPost.refl {f : Int → Int} {d : Array Int} {a b : Nat} (h : SrtOn f d a b) : MPost f d d a b :=
  ⟨fun _ _ => rfl, fun i h1 h2 => ⟨i, h1, h2, rfl⟩, fun i h1 h2 => ⟨i, h1, h2, rfl⟩, h⟩
/-- The same members at other places, then sorted. -/
theorem MPost.after {f : Int → Int} {d d1 d2 : Array Int} {a e b : Nat} (he : e ≤ b) (h : MPost f d1 d2 a b) (ho : ∀ i, (i < a ∨ e ≤ i) → d1[i]! = d[i]!) (h1 : ∀ i, a ≤ i → i < e → ∃ j, a ≤ j ∧ j < e ∧ d1[i]! = d[j]!) (h2 : ∀ i, a ≤ i → i < e → ∃ j, a ≤ j ∧ j < e ∧ d[i]! = d1[j]!) : MPost f d d2 a b := by
  refine ⟨fun i hi => ?_, fun i hi hj => ?_, fun i hi hj => ?_, h.srt⟩
  · rw [h.out i hi, ho i (by omega)]
  · obtain ⟨j, q1, q2, q3⟩ := h.mem i hi hj
    rcases Nat.lt_or_ge j e with q | q
    · obtain ⟨k, p1, p2, p3⟩ := h1 j q1 q
      exact ⟨k, p1, by omega, q3.trans p3⟩
    · exact ⟨j, q1, q2, q3.trans (ho j (.inr q))⟩
  · rcases Nat.lt_or_ge i e with q | q
    · obtain ⟨k, p1, p2, p3⟩ := h2 i hi q
      obtain ⟨j, q1, q2, q3⟩ := h.mem2 k p1 (by omega)
      exact ⟨j, q1, q2, p3.trans q3⟩
    · obtain ⟨j, q1, q2, q3⟩ := h.mem2 i hi hj
      exact ⟨j, q1, q2, by rw [← q3, ho i (.inr q)]⟩
theorem ins_inner {f : Int → Int} {a e : Nat} : ∀ (p : Nat) (d : Array Int), a ≤ p → p < e → e ≤ d.size → SrtOn f d a p → SrtOn f d p e →
    (∀ i k, a ≤ i → i < p → p < k → k < e → Rk f d[i]! d[k]!) → (∀ i, a ≤ i → i < p → d[i]! < d[p]!) →
    MPost f d (insInner (ltF f) a p d) a e ∧ (insInner (ltF f) a p d).size = d.size
  | 0, d, ha, hp, he, h1, h2, h3, h4 => by
    obtain rfl : a = 0 := by omega
    exact ⟨MPost.refl h2, rfl⟩
  | p + 1, d, ha, hp, he, h1, h2, h3, h4 => by
    unfold insInner
    by_cases hc : a ≤ p ∧ f d[p]! < f d[p + 1]!
    · rw [if_pos (by simp only [Bool.and_eq_true, decide_eq_true_eq]; exact ⟨by omega, ltF_iff.2 hc.2⟩)]
      obtain ⟨hap, hlt⟩ := hc
      obtain ⟨d1, hd1⟩ : ∃ d1, d1 = swp d (p + 1) p := ⟨_, rfl⟩
      have hg : ∀ t, d1[t]! = if t = p then d[p + 1]! else if t = p + 1 then d[p]! else d[t]! := fun t => by rw [hd1, swp_get _ _ _ _ (by omega) (by omega)]
      have hs1 : d1.size = d.size := by rw [hd1, size_swp]
      have ga : d1[p]! = d[p + 1]! := by rw [hg, if_pos rfl]
      have gb : d1[p + 1]! = d[p]! := by rw [hg, if_neg (by omega), if_pos rfl]
      have go : ∀ t, t ≠ p → t ≠ p + 1 → d1[t]! = d[t]! := fun t q1 q2 => by rw [hg, if_neg q1, if_neg q2]
      rw [← hd1]
      have ih := ins_inner (f := f) (a := a) (e := e) p d1 hap (by omega) (by omega)
        (fun i j q1 q2 q3 => by rw [go i (by omega) (by omega), go j (by omega) (by omega)]; exact h1 i j q1 q2 (by omega))
        (fun i j q1 q2 q3 => by
          by_cases e1 : i = p
          · subst e1
            rw [ga]
            by_cases e2 : j = i + 1
            · subst e2; rw [gb]; exact rk_lt hlt
            · rw [go j (by omega) e2]; exact h2 (i + 1) j (by omega) (by omega) q3
          · by_cases e2 : i = p + 1
            · subst e2; rw [gb, go j (by omega) (by omega)]; exact h3 p j hap (by omega) (by omega) q3
            · rw [go i e1 e2, go j (by omega) (by omega)]; exact h2 i j (by omega) q2 q3)
        (fun i k q1 q2 q3 q4 => by
          rw [go i (by omega) (by omega)]
          by_cases e2 : k = p + 1
          · subst e2; rw [gb]; exact h1 i p q1 q2 (by omega)
          · rw [go k (by omega) e2]; exact h3 i k q1 (by omega) (by omega) q4)
        (fun i q1 q2 => by rw [go i (by omega) (by omega), ga]; exact h4 i q1 (by omega))
      refine ⟨MPost.after (Nat.le_refl e) ih.1 (fun i hi => go i (by omega) (by omega)) (fun i q1 q2 => ?_) (fun i q1 q2 => ?_), by rw [ih.2, hs1]⟩
      · by_cases e1 : i = p
        · exact ⟨p + 1, by omega, by omega, by rw [e1, ga]⟩
        · by_cases e2 : i = p + 1
          · exact ⟨p, by omega, by omega, by rw [e2, gb]⟩
          · exact ⟨i, q1, q2, go i e1 e2⟩
      · by_cases e1 : i = p
        · exact ⟨p + 1, by omega, by omega, by rw [e1, gb]⟩
        · by_cases e2 : i = p + 1
          · exact ⟨p, by omega, by omega, by rw [e2, ga]⟩
          · exact ⟨i, q1, q2, (go i e1 e2).symm⟩
    · rw [if_neg (by simp only [Bool.and_eq_true, decide_eq_true_eq]; intro q; exact hc ⟨by omega, ltF_iff.1 q.2⟩)]
      refine ⟨MPost.refl (fun i j q1 q2 q3 => ?_), rfl⟩
      rcases Nat.lt_or_ge i (p + 1) with q | q
      · rcases Nat.lt_or_ge j (p + 1) with r | r
        · exact h1 i j q1 q2 r
        · by_cases e2 : j = p + 1
          · subst e2
            have hk := h1.key (i := i) (j := p) q1 (by omega) (by omega)
            exact rk_of (by intro hh; exact hc ⟨by omega, by omega⟩) (h4 i q1 q)
          · exact h3 i j q1 q (by omega) q3
      · exact h2 i j q q2 q3
theorem ins_outer {f : Int → Int} {a b : Nat} : ∀ (q i : Nat) (d : Array Int), b - i = q → a ≤ i → b ≤ d.size → SrtOn f d a i →
    (∀ s t, a ≤ s → s < i → i ≤ t → t < b → d[s]! < d[t]!) → (∀ s t, i ≤ s → s < t → t < b → d[s]! < d[t]!) → i ≤ b →
    MPost f d (insOuter (ltF f) a b i d) a b ∧ (insOuter (ltF f) a b i d).size = d.size
  | 0, i, d, hq, ha, hb, h1, h2, h3, hi => by
    unfold insOuter
    rw [if_neg (by omega)]
    obtain rfl : i = b := by omega
    exact ⟨MPost.refl h1, rfl⟩
  | q + 1, i, d, hq, ha, hb, h1, h2, h3, hi => by
    unfold insOuter
    rw [if_pos (by omega)]
    have I := ins_inner (f := f) (a := a) (e := i + 1) i d ha (by omega) (by omega) h1 (fun s t q1 q2 q3 => absurd q3 (by omega)) (fun s t q1 q2 q3 q4 => absurd q4 (by omega)) (fun s q1 q2 => h2 s i q1 q2 (Nat.le_refl _) (by omega))
    obtain ⟨d1, hd1⟩ : ∃ d1, d1 = insInner (ltF f) a i d := ⟨_, rfl⟩
    rw [← hd1] at I ⊢
    have O := ins_outer (f := f) (a := a) (b := b) q (i + 1) d1 (by omega) (by omega) (by omega) I.1.srt
      (fun s t q1 q2 q3 q4 => by
        obtain ⟨j, p1, p2, p3⟩ := I.1.mem s q1 q2
        rw [p3, I.1.out t (.inr q3)]
        rcases Nat.lt_or_ge j i with r | r
        · exact h2 j t p1 r (by omega) q4
        · exact h3 j t r (by omega) q4)
      (fun s t q1 q2 q3 => by rw [I.1.out s (.inr q1), I.1.out t (.inr (by omega))]; exact h3 s t (by omega) q2 q3) (by omega)
    exact ⟨MPost.after (show i + 1 ≤ b by omega) O.1 I.1.out I.1.mem I.1.mem2, by rw [O.2, I.2]⟩
/-- Insertion sort of a part whose members rise. -/
theorem ins_sorted {f : Int → Int} {a b : Nat} (d : Array Int) (hab : a < b) (hb : b ≤ d.size) (h : ∀ s t, a ≤ s → s < t → t < b → d[s]! < d[t]!) :
    MPost f d (Sort.insertionSort (ltF f) d a b) a b ∧ (Sort.insertionSort (ltF f) d a b).size = d.size := by
  unfold Sort.insertionSort
  exact ins_outer (b - (a + 1)) (a + 1) d rfl (by omega) hb (fun i j q1 q2 q3 => absurd q3 (by omega)) (fun s t q1 q2 q3 q4 => h s t q1 (by omega) q4) (fun s t q1 q2 q3 => h s t (by omega) q2 q3) (by omega)

/-! One sorted list has these members. -/
theorem Rk.trans {f : Int → Int} {x y z : Int} (h1 : Rk f x y) (h2 : Rk f y z) : Rk f x z := by unfold Rk at *; omega
theorem Rk.anti {f : Int → Int} {x y : Int} (h1 : Rk f x y) (h2 : Rk f y x) : False := by unfold Rk at *; omega
theorem Rk.irr {f : Int → Int} {x : Int} (h1 : Rk f x x) : False := by unfold Rk at *; omega
theorem srt_one {f : Int → Int} : ∀ (l1 l2 : List Int), l1.Pairwise (Rk f) → l2.Pairwise (Rk f) → (∀ x, x ∈ l1 ↔ x ∈ l2) → l1 = l2
  | [], [], _, _, _ => rfl
  | [], y :: l2, _, _, h => absurd ((h y).2 (by simp)) (by simp)
  | x :: l1, [], _, _, h => absurd ((h x).1 (by simp)) (by simp)
  | x :: l1, y :: l2, h1, h2, h => by
    rw [List.pairwise_cons] at h1 h2
    have e : x = y := by
      have hx := (h x).1 (by simp)
      have hy := (h y).2 (by simp)
      rcases List.mem_cons.1 hx with e | hx
      · exact e
      · rcases List.mem_cons.1 hy with e | hy
        · exact e.symm
        · exact absurd (h1.1 y hy) (fun q => (q.anti (h2.1 x hx)).elim)
    subst e
    rw [srt_one l1 l2 h1.2 h2.2 (fun z => ?_)]
    have hz := h z
    simp only [List.mem_cons] at hz
    constructor
    · intro q
      rcases hz.1 (.inr q) with e | q2
      · subst e; exact absurd (h1.1 _ q) (fun q => q.irr.elim)
      · exact q2
    · intro q
      rcases hz.2 (.inr q) with e | q2
      · subst e; exact absurd (h2.1 _ q) (fun q => q.irr.elim)
      · exact q2
theorem insL_pw {f : Int → Int} {xs : List Int} {x : Int} (h : xs.Pairwise (Rk f)) (hx : ∀ z ∈ xs, z < x) : (insL f xs x).Pairwise (Rk f) := by
  have kf : ∀ (k j : Nat), k ≤ xs.length → insK f xs x k ≤ j → j < k → f (gi xs j) < f x := by
    intro k
    induction k with
    | zero => intro j _ _ h; exact absurd h (by omega)
    | succ k ih =>
      intro j hk h1 h2
      unfold insK at h1
      split at h1
      · next hlt =>
        rcases Nat.lt_or_ge j k with h3 | h3
        · exact ih j (by omega) h1 h3
        · obtain rfl : j = k := by omega
          exact hlt
      · omega
  have kl : ∀ (k : Nat), 0 < insK f xs x k → f x ≤ f (gi xs (insK f xs x k - 1)) := by
    intro k
    induction k with
    | zero => intro h; exact absurd h (by simp [insK])
    | succ k ih =>
      intro h
      unfold insK at h ⊢
      split
      · next hlt => rw [if_pos hlt] at h; exact ih h
      · next hlt => simp only [Nat.add_sub_cancel]; omega
  have hle := insK_le f xs x xs.length
  have gin : ∀ j (hj : j < xs.length), gi xs j = xs[j] := fun j hj => by simp [gi, List.getD, List.getElem?_eq_getElem hj]
  unfold insL
  rw [List.pairwise_append, List.pairwise_cons]
  have hsub := h
  rw [← List.take_append_drop (insK f xs x xs.length) xs, List.pairwise_append] at hsub
  refine ⟨hsub.1, ⟨fun b hb => ?_, hsub.2.1⟩, fun a ha b hb => ?_⟩
  · obtain ⟨j, hj, rfl⟩ := List.mem_iff_getElem.1 hb
    rw [List.length_drop] at hj
    have := kf xs.length (insK f xs x xs.length + j) (Nat.le_refl _) (by omega) (by omega)
    rw [gin _ (by omega)] at this
    rw [List.getElem_drop]
    exact .inl this
  · rcases List.mem_cons.1 hb with rfl | hb
    · have hm := hx a (List.mem_of_mem_take ha)
      obtain ⟨j, hj, rfl⟩ := List.mem_iff_getElem.1 ha
      rw [List.length_take] at hj
      have hlast := kl xs.length (by omega)
      rw [gin _ (by omega)] at hlast
      rw [List.getElem_take] at hm ⊢
      refine rk_of ?_ hm
      rcases Nat.lt_or_ge j (insK f xs b xs.length - 1) with q | q
      · have := (List.pairwise_iff_getElem.1 h) j (insK f xs b xs.length - 1) (by omega) (by omega) q
        have := this.key
        omega
      · have e : j = insK f xs b xs.length - 1 := by omega
        subst e; omega
    · exact hsub.2.2 a ha b hb
theorem stTo_pw (f : Int → Int) : ∀ k, (stTo f k).Pairwise (Rk f)
  | 0 => List.Pairwise.nil
  | k + 1 => insL_pw (stTo_pw f k) (fun z hz => (stTo_mem f k z hz).2)
theorem insL_has {f : Int → Int} {xs : List Int} {x z : Int} (h : z ∈ xs ∨ z = x) : z ∈ insL f xs x := by
  unfold insL
  rcases h with h | rfl
  · rw [← List.take_append_drop (insK f xs x xs.length) xs] at h
    rcases List.mem_append.1 h with h | h
    · exact List.mem_append.2 (.inl h)
    · exact List.mem_append.2 (.inr (List.mem_cons.2 (.inr h)))
  · simp
theorem stTo_has (f : Int → Int) : ∀ (k : Nat) (z : Int), 0 ≤ z → z < k → z ∈ stTo f k
  | 0, z, h0, h1 => absurd h1 (by omega)
  | k + 1, z, h0, h1 => by
    unfold stTo
    by_cases e : z = k
    · exact insL_has (.inr e)
    · exact insL_has (.inl (stTo_has f k z h0 (by omega)))
theorem st_unique {f : Int → Int} {d : Array Int} {n : Nat} (hn : d.size = n) (hs : SrtOn f d 0 n) (h1 : ∀ i, i < n → 0 ≤ d[i]! ∧ d[i]! < n) (h2 : ∀ k : Nat, k < n → ∃ j, j < n ∧ d[j]! = k) : d = (stTo f n).toArray := by
  have hg : ∀ i (hi : i < d.toList.length), d.toList[i] = d[i]! := fun i hi => by
    simp only [Array.getElem_toList]
    rw [getElem!_pos d i (by simpa using hi)]
  have e : d.toList = stTo f n := by
    refine srt_one _ _ ?_ (stTo_pw f n) (fun x => ⟨fun hx => ?_, fun hx => ?_⟩)
    · rw [List.pairwise_iff_getElem]
      intro i j hi hj hij
      rw [hg i hi, hg j hj]
      exact hs i j (Nat.zero_le _) hij (by simp only [Array.length_toList] at hj; omega)
    · obtain ⟨i, hi, rfl⟩ := List.mem_iff_getElem.1 hx
      rw [hg i hi]
      have := h1 i (by simp only [Array.length_toList] at hi; omega)
      exact stTo_has f n _ this.1 this.2
    · have hb := stTo_mem f n x hx
      obtain ⟨j, hj, e⟩ := h2 x.toNat (by omega)
      rw [List.mem_iff_getElem]
      refine ⟨j, by simp only [Array.length_toList]; omega, ?_⟩
      rw [hg, e]; omega
  rw [← e]
/-- The parts sorted and merged. -/
theorem upTo_at {n i : Nat} (h : i < n) : (upTo n).toArray[i]! = i := by
  have : i < (upTo n).toArray.size := by simp [upTo_len]; exact h
  rw [getElem!_pos _ i this]
  simp [upTo]
theorem stab_mid {f : Int → Int} {d1 d2 : Array Int} {c n : Nat} (hc : c < n) (h1 : MPost f (upTo n).toArray d1 0 c) (h2 : MPost f d1 d2 c n) : MPre f d2 0 c n := by
  refine ⟨⟨Nat.zero_le _, by omega⟩, fun i j q1 q2 q3 => ?_, h2.srt, fun i j q1 q2 q3 q4 => ?_⟩
  · rw [h2.out i (.inl (by omega)), h2.out j (.inl q3)]; exact h1.srt i j q1 q2 q3
  · rw [h2.out i (.inl q2)]
    obtain ⟨k, p1, p2, p3⟩ := h1.mem i q1 q2
    obtain ⟨l, r1, r2, r3⟩ := h2.mem j q3 q4
    rw [p3, r3, h1.out l (.inr r1), upTo_at (by omega), upTo_at (by omega)]
    omega
theorem stab_all {f : Int → Int} {d1 d2 d3 : Array Int} {c n : Nat} (hc : c < n) (h1 : MPost f (upTo n).toArray d1 0 c) (h2 : MPost f d1 d2 c n) (h3 : MPost f d2 d3 0 n) (hs : d3.size = n) : d3 = (stTo f n).toArray := by
  refine st_unique hs h3.srt (fun i hi => ?_) (fun k hk => ?_)
  · obtain ⟨j, p1, p2, p3⟩ := h3.mem i (Nat.zero_le _) hi
    rw [p3]
    rcases Nat.lt_or_ge j c with q | q
    · obtain ⟨l, r1, r2, r3⟩ := h1.mem j p1 q
      rw [h2.out j (.inl q), r3, upTo_at (by omega)]; omega
    · obtain ⟨l, r1, r2, r3⟩ := h2.mem j q p2
      rw [r3, h1.out l (.inr r1), upTo_at (by omega)]; omega
  · rcases Nat.lt_or_ge k c with q | q
    · obtain ⟨l, r1, r2, r3⟩ := h1.mem2 k (Nat.zero_le _) q
      obtain ⟨m, s1, s2, s3⟩ := h3.mem2 l r1 (by omega)
      exact ⟨m, s2, by rw [← s3, h2.out l (.inl r2), ← r3, upTo_at hk]⟩
    · obtain ⟨l, r1, r2, r3⟩ := h2.mem2 k q hk
      obtain ⟨m, s1, s2, s3⟩ := h3.mem2 l (Nat.zero_le _) r2
      exact ⟨m, s2, by rw [← s3, ← r3, h1.out k (.inr q), upTo_at hk]⟩
end Go.Proofs.YtgcpobondcnjcaaGreatDoor
