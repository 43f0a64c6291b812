/-
  Merging in place: the plain law of symMerge, rotate, swapRange.
  No conditions.
-/
import Derived.Test.YtgcpobondcnjcaaGreatDoorSortC
namespace Go.Proofs.YtgcpobondcnjcaaGreatDoor
open Go.Sort
set_option linter.unusedVariables false

/-- The order: the greater key first, of one key the lesser place. -/
def Rk (f : Int → Int) (x y : Int) : Prop := f y < f x ∨ (f x = f y ∧ x < y)
def SrtOn (f : Int → Int) (d : Array Int) (a b : Nat) : Prop := ∀ i j, a ≤ i → i < j → j < b → Rk f d[i]! d[j]!
def TagLt (d : Array Int) (a m b : Nat) : Prop := ∀ i j, a ≤ i → i < m → m ≤ j → j < b → d[i]! < d[j]!
structure MPre (f : Int → Int) (d : Array Int) (a m b : Nat) : Prop where
  le : a ≤ m ∧ m ≤ b
  left : SrtOn f d a m
  right : SrtOn f d m b
  tag : TagLt d a m b
structure MPost (f : Int → Int) (d d' : Array Int) (a b : Nat) : Prop where
  out : ∀ i, (i < a ∨ b ≤ i) → d'[i]! = d[i]!
  mem : ∀ i, a ≤ i → i < b → ∃ j, a ≤ j ∧ j < b ∧ d'[i]! = d[j]!
  mem2 : ∀ i, a ≤ i → i < b → ∃ j, a ≤ j ∧ j < b ∧ d[i]! = d'[j]!
  srt : SrtOn f d' a b
theorem Rk.key {f : Int → Int} {x y : Int} (h : Rk f x y) : f y ≤ f x := by unfold Rk at h; omega
theorem SrtOn.key {f : Int → Int} {d : Array Int} {a b i j : Nat} (h : SrtOn f d a b) (h1 : a ≤ i) (h2 : i ≤ j) (h3 : j < b) : f d[j]! ≤ f d[i]! := by
  rcases Nat.lt_or_ge i j with hh | hh
  · exact (h i j h1 hh h3).key
  · obtain rfl : i = j := by omega
    exact Int.le_refl _
theorem SrtOn.sub {f : Int → Int} {d : Array Int} {a b a' b' : Nat} (h : SrtOn f d a b) (h1 : a ≤ a') (h2 : b' ≤ b) : SrtOn f d a' b' := fun i j hi hij hj => h i j (by omega) hij (by omega)
theorem rk_of {f : Int → Int} {x y : Int} (h : ¬ f x < f y) (ht : x < y) : Rk f x y := by unfold Rk; omega
theorem rk_lt {f : Int → Int} {x y : Int} (h : f y < f x) : Rk f x y := .inl h

/-- One left: it goes behind those of a greater key. -/
theorem merge_one {f : Int → Int} {d d' : Array Int} {a b i : Nat} (h : MPre f d a (a + 1) b) (hi0 : a + 1 ≤ i) (hi1 : i ≤ b) (hlo : ∀ t, a + 1 ≤ t → t < i → f d[a]! < f d[t]!) (hhi : ∀ t, i ≤ t → t < b → ¬ f d[a]! < f d[t]!)
    (hd : ∀ t, d'[t]! = if a ≤ t ∧ t + 1 < i then d[t + 1]! else if t + 1 = i then d[a]! else d[t]!) : MPost f d d' a b := by
  have htag := fun t (h1 : a + 1 ≤ t) (h2 : t < b) => h.tag a t (Nat.le_refl _) (by omega) h1 h2
  refine ⟨fun t ht => ?_, fun t h1 h2 => ?_, fun t h1 h2 => ?_, fun s t h1 h2 h3 => ?_⟩
  · rw [hd, if_neg (by omega), if_neg (by omega)]
  · rw [hd]
    by_cases q1 : a ≤ t ∧ t + 1 < i
    · rw [if_pos q1]; exact ⟨t + 1, by omega, by omega, rfl⟩
    · rw [if_neg q1]
      by_cases q2 : t + 1 = i
      · rw [if_pos q2]; exact ⟨a, Nat.le_refl _, by omega, rfl⟩
      · rw [if_neg q2]; exact ⟨t, h1, h2, rfl⟩
  · by_cases q0 : t = a
    · subst q0
      exact ⟨i - 1, by omega, by omega, by rw [hd, if_neg (by omega), if_pos (by omega)]⟩
    · by_cases q1 : t < i
      · exact ⟨t - 1, by omega, by omega, by rw [hd, if_pos (by omega)]; congr 1; omega⟩
      · exact ⟨t, h1, h2, by rw [hd, if_neg (by omega), if_neg (by omega)]⟩
  · rw [hd s, hd t]
    by_cases q1 : t + 1 < i
    · rw [if_pos (by omega), if_pos (by omega)]
      exact h.right (s + 1) (t + 1) (by omega) (by omega) (by omega)
    · by_cases q2 : t + 1 = i
      · rw [if_pos (by omega), if_neg (by omega), if_pos q2]
        exact rk_lt (hlo (s + 1) (by omega) (by omega))
      · rw [if_neg (show ¬ (a ≤ t ∧ t + 1 < i) by omega), if_neg q2]
        by_cases q3 : s + 1 < i
        · rw [if_pos (by omega)]
          exact h.right (s + 1) t (by omega) (by omega) (by omega)
        · rw [if_neg (by omega)]
          by_cases q4 : s + 1 = i
          · rw [if_pos q4]
            exact rk_of (hhi t (by omega) h3) (htag t (by omega) h3)
          · rw [if_neg q4]
            exact h.right s t (by omega) (by omega) h3
/-- One right: it goes ahead of those of a lesser key. -/
theorem merge_last {f : Int → Int} {d d' : Array Int} {a m i : Nat} (h : MPre f d a m (m + 1)) (hi0 : a ≤ i) (hi1 : i ≤ m) (hlo : ∀ t, a ≤ t → t < i → ¬ f d[t]! < f d[m]!) (hhi : ∀ t, i ≤ t → t < m → f d[t]! < f d[m]!)
    (hd : ∀ t, d'[t]! = if i < t ∧ t ≤ m then d[t - 1]! else if t = i then d[m]! else d[t]!) : MPost f d d' a (m + 1) := by
  have htag := fun t (h1 : a ≤ t) (h2 : t < m) => h.tag t m h1 h2 (Nat.le_refl _) (by omega)
  refine ⟨fun t ht => ?_, fun t h1 h2 => ?_, fun t h1 h2 => ?_, fun s t h1 h2 h3 => ?_⟩
  · rw [hd, if_neg (by omega), if_neg (by omega)]
  · rw [hd]
    by_cases q1 : i < t ∧ t ≤ m
    · rw [if_pos q1]; exact ⟨t - 1, by omega, by omega, rfl⟩
    · rw [if_neg q1]
      by_cases q2 : t = i
      · rw [if_pos q2]; exact ⟨m, by omega, by omega, rfl⟩
      · rw [if_neg q2]; exact ⟨t, h1, h2, rfl⟩
  · by_cases q0 : t = m
    · subst q0
      exact ⟨i, by omega, by omega, by rw [hd, if_neg (by omega), if_pos rfl]⟩
    · by_cases q1 : i ≤ t
      · exact ⟨t + 1, by omega, by omega, by rw [hd, if_pos (by omega)]; congr 1⟩
      · exact ⟨t, h1, h2, by rw [hd, if_neg (by omega), if_neg (by omega)]⟩
  · rw [hd s, hd t]
    by_cases q1 : i < s
    · rw [if_pos (by omega), if_pos (by omega)]
      exact h.left (s - 1) (t - 1) (by omega) (by omega) (by omega)
    · by_cases q2 : s = i
      · rw [if_neg (by omega), if_pos q2, if_pos (by omega)]
        exact rk_lt (hhi (t - 1) (by omega) (by omega))
      · rw [if_neg (show ¬ (i < s ∧ s ≤ m) by omega), if_neg q2]
        by_cases q3 : i < t
        · rw [if_pos (by omega)]
          exact h.left s (t - 1) (by omega) (by omega) (by omega)
        · rw [if_neg (by omega)]
          by_cases q4 : t = i
          · rw [if_pos q4]
            exact rk_of (hlo s h1 (by omega)) (htag s h1 (by omega))
          · rw [if_neg q4]
            exact h.left s t h1 h2 (by omega)

/-! Where the parts come from. -/
def swIx (p x n t : Nat) : Nat := if p ≤ t ∧ t < p + n then x + (t - p) else if x ≤ t ∧ t < x + n then p + (t - x) else t
def rtIx (p m q t : Nat) : Nat := if p ≤ t ∧ t < p + (q - m) then m + (t - p) else if p + (q - m) ≤ t ∧ t < q then t - (q - m) else t
theorem rt_left {p m q t : Nat} (h1 : p ≤ m) (h2 : m ≤ q) (hj : q - m < m - p) : swIx p m (q - m) (rtIx (p + (q - m)) m q t) = rtIx p m q t := by
  unfold swIx rtIx
  repeat' split
  all_goals omega
theorem rt_right {p m q t : Nat} (h1 : p ≤ m) (h2 : m ≤ q) (hj : m - p < q - m) : swIx p (q - (m - p)) (m - p) (rtIx p m (q - (m - p)) t) = rtIx p m q t := by
  unfold swIx rtIx
  repeat' split
  all_goals omega
theorem rt_same {p m q t : Nat} (h1 : p ≤ m) (h2 : m ≤ q) (hj : m - p = q - m) : swIx p m (m - p) t = rtIx p m q t := by
  unfold swIx rtIx
  repeat' split
  all_goals omega
theorem rt_id {p m q t : Nat} (h : p = m ∨ q = m) (h1 : p ≤ m) (h2 : m ≤ q) : rtIx p m q t = t := by
  unfold rtIx
  repeat' split
  all_goals omega
theorem swp_get (d : Array Int) (i j t : Nat) (hi : i < d.size) (hj : j < d.size) : (swp d i j)[t]! = if t = j then d[i]! else if t = i then d[j]! else d[t]! := by
  unfold swp
  by_cases h1 : t = j
  · subst h1
    rw [if_pos rfl, getElem!_set_same _ _ _ (by simpa using hj)]
  · rw [if_neg h1, getElem!_set_other _ _ _ _ h1]
    by_cases h2 : t = i
    · subst h2
      rw [if_pos rfl, getElem!_set_same _ _ _ hi]
    · rw [if_neg h2, getElem!_set_other _ _ _ _ h2]

/-- The general merge: behind the rotation the two halves are merged by themselves. -/
structure MMid (f : Int → Int) (d1 : Array Int) (a mid b : Nat) : Prop where
  split : ∀ x y, a ≤ x → x < mid → mid ≤ y → y < b → Rk f d1[x]! d1[y]!
theorem merge_mid {f : Int → Int} {d d1 : Array Int} {a m b mid s : Nat} (h : MPre f d a m b) (ham : a < m) (hmb : m < b) (hmid : mid = (a + b) / 2)
    (hs0 : (if mid < m then mid + m - b else a) ≤ s) (hs1 : s ≤ (if mid < m then mid else m))
    (hlo : ∀ c, (if mid < m then mid + m - b else a) ≤ c → c < s → ¬ f d[c]! < f d[mid + m - 1 - c]!) (hhi : ∀ c, s ≤ c → c < (if mid < m then mid else m) → f d[c]! < f d[mid + m - 1 - c]!)
    (hd : ∀ t, d1[t]! = d[rtIx s m (mid + m - s) t]!) :
    a ≤ s ∧ s ≤ m ∧ s ≤ mid ∧ mid ≤ mid + m - s ∧ m ≤ mid + m - s ∧ mid + m - s ≤ b ∧ a < mid ∧ mid < b ∧ MMid f d1 a mid b ∧ MPre f d1 a s mid ∧ MPre f d1 mid (mid + m - s) b := by
  obtain ⟨e, he⟩ : ∃ e, e = mid + m - s := ⟨_, rfl⟩
  rw [← he] at hd ⊢
  have g1 : a ≤ s ∧ s ≤ m ∧ s ≤ mid ∧ mid ≤ e ∧ m ≤ e ∧ e ≤ b ∧ a < mid ∧ mid < b := by
    by_cases hmm : mid < m
    · rw [if_pos hmm] at hs0 hs1; omega
    · rw [if_neg hmm] at hs0 hs1; omega
  obtain ⟨g1, g2, g3, g4, g5, g6, g7, g8⟩ := g1
  have hx1 : ∀ x, a ≤ x → x < s → d1[x]! = d[x]! := fun x h1 h2 => by rw [hd]; unfold rtIx; rw [if_neg (by omega), if_neg (by omega)]
  have hx2 : ∀ x, s ≤ x → x < mid → d1[x]! = d[m + (x - s)]! := fun x h1 h2 => by rw [hd]; unfold rtIx; rw [if_pos (by omega)]
  have hy1 : ∀ y, mid ≤ y → y < e → d1[y]! = d[s + (y - mid)]! := fun y h1 h2 => by
    rw [hd]; unfold rtIx; rw [if_neg (by omega), if_pos (by omega)]
    congr 1; omega
  have hy2 : ∀ y, e ≤ y → y < b → d1[y]! = d[y]! := fun y h1 h2 => by rw [hd]; unfold rtIx; rw [if_neg (by omega), if_neg (by omega)]
  have k2 : ∀ x y, a ≤ x → x < s → e ≤ y → y < b → Rk f d[x]! d[y]! := fun x y h1 h2 h3 h4 => by
    refine rk_of ?_ (h.tag x y h1 (by omega) (by omega) h4)
    have hc := hlo (s - 1) (by
      by_cases hmm : mid < m
      · rw [if_pos hmm] at hs0 hs1 ⊢; omega
      · rw [if_neg hmm] at hs0 hs1 ⊢; omega) (by omega)
    have e1 : mid + m - 1 - (s - 1) = e := by omega
    rw [e1] at hc
    have k1 := h.left.key (i := x) (j := s - 1) h1 (by omega) (by omega)
    have k2 := h.right.key (i := e) (j := y) (by omega) h3 h4
    omega
  have k3 : ∀ x y, m ≤ x → x < e → s ≤ y → y < m → Rk f d[x]! d[y]! := fun x y h1 h2 h3 h4 => by
    have hc := hhi s (Nat.le_refl _) (by
      by_cases hmm : mid < m
      · rw [if_pos hmm] at hs0 hs1 ⊢; omega
      · rw [if_neg hmm] at hs0 hs1 ⊢; omega)
    have e1 : mid + m - 1 - s = e - 1 := by omega
    rw [e1] at hc
    have k1 := h.left.key (i := s) (j := y) (by omega) h3 h4
    have k2 := h.right.key (i := x) (j := e - 1) h1 (by omega) (by omega)
    exact rk_lt (by omega)
  refine ⟨g1, g2, g3, g4, g5, g6, g7, g8, ⟨fun x y h1 h2 h3 h4 => ?_⟩, ⟨⟨g1, g3⟩, fun i j h1 h2 h3 => ?_, fun i j h1 h2 h3 => ?_, fun i j h1 h2 h3 h4 => ?_⟩, ⟨⟨g4, g6⟩, fun i j h1 h2 h3 => ?_, fun i j h1 h2 h3 => ?_, fun i j h1 h2 h3 h4 => ?_⟩⟩
  · rcases Nat.lt_or_ge x s with q1 | q1
    · rw [hx1 x h1 q1]
      rcases Nat.lt_or_ge y e with q2 | q2
      · rw [hy1 y h3 q2]; exact h.left x _ h1 (by omega) (by omega)
      · rw [hy2 y q2 h4]; exact k2 x y h1 q1 q2 h4
    · rw [hx2 x q1 h2]
      rcases Nat.lt_or_ge y e with q2 | q2
      · rw [hy1 y h3 q2]; exact k3 _ _ (by omega) (by omega) (by omega) (by omega)
      · rw [hy2 y q2 h4]; exact h.right _ y (by omega) (by omega) h4
  · rw [hx1 i h1 (by omega), hx1 j (by omega) h3]; exact h.left i j h1 h2 (by omega)
  · rw [hx2 i h1 (by omega), hx2 j (by omega) h3]; exact h.right _ _ (by omega) (by omega) (by omega)
  · rw [hx1 i h1 h2, hx2 j h3 h4]; exact h.tag i _ h1 (by omega) (by omega) (by omega)
  · rw [hy1 i h1 (by omega), hy1 j (by omega) h3]; exact h.left _ _ (by omega) (by omega) (by omega)
  · rw [hy2 i h1 (by omega), hy2 j (by omega) h3]; exact h.right i j (by omega) h2 h3
  · rw [hy1 i h1 h2, hy2 j h3 h4]; exact h.tag _ j (by omega) (by omega) (by omega) h4
theorem MPre.done {f : Int → Int} {d : Array Int} {a m b : Nat} (h : MPre f d a m b) (he : m = a ∨ m = b) : MPost f d d a b := by
  refine ⟨fun _ _ => rfl, fun i h1 h2 => ⟨i, h1, h2, rfl⟩, fun i h1 h2 => ⟨i, h1, h2, rfl⟩, ?_⟩
  rcases he with rfl | rfl
  · exact h.right
  · exact h.left
theorem MPre.far {f : Int → Int} {d1 d2 : Array Int} {a mid m b : Nat} (h : MPre f d1 mid m b) (hp : ∀ i, (i < a ∨ mid ≤ i) → d2[i]! = d1[i]!) : MPre f d2 mid m b := by
  have hl := h.le
  refine ⟨h.le, fun i j h1 h2 h3 => ?_, fun i j h1 h2 h3 => ?_, fun i j h1 h2 h3 h4 => ?_⟩
  · rw [hp i (.inr h1), hp j (.inr (by omega))]; exact h.left i j h1 h2 h3
  · rw [hp i (.inr (by omega)), hp j (.inr (by omega))]; exact h.right i j h1 h2 h3
  · rw [hp i (.inr h1), hp j (.inr (by omega))]; exact h.tag i j h1 h2 h3 h4
theorem rt_in {p m q t a b : Nat} (h1 : p ≤ m) (h2 : m ≤ q) (ha : a ≤ p) (hb : q ≤ b) (ht0 : a ≤ t) (ht : t < b) : a ≤ rtIx p m q t ∧ rtIx p m q t < b := by
  unfold rtIx
  repeat' split
  all_goals omega
/-- The rotation back. -/
theorem rt_back {p m q t : Nat} (h1 : p ≤ m) (h2 : m ≤ q) : rtIx p m q (rtIx p (p + (q - m)) q t) = t := by
  unfold rtIx
  repeat' split
  all_goals omega
theorem merge_all {f : Int → Int} {d d1 d2 d3 : Array Int} {a m b mid s e : Nat} (hs : a ≤ s ∧ s ≤ m ∧ m ≤ e ∧ e ≤ b) (hmid : a < mid ∧ mid < b) (hM : MMid f d1 a mid b) (hd : ∀ t, d1[t]! = d[rtIx s m e t]!)
    (h2 : MPost f d1 d2 a mid) (h3 : MPost f d2 d3 mid b) : MPost f d d3 a b := by
  obtain ⟨g1, g2, g3, g4⟩ := hs
  obtain ⟨m1, m2⟩ := hmid
  have hout : ∀ i, (i < a ∨ b ≤ i) → d1[i]! = d[i]! := fun i hi => by
    rw [hd]; unfold rtIx; rw [if_neg (by omega), if_neg (by omega)]
  have hin1 : ∀ i, a ≤ i → i < b → ∃ j, a ≤ j ∧ j < b ∧ d1[i]! = d[j]! := fun i h1 h2 => by
    have := rt_in (p := s) (m := m) (q := e) (t := i) g2 g3 g1 g4 h1 h2
    exact ⟨_, this.1, this.2, hd i⟩
  have hin2 : ∀ i, a ≤ i → i < b → ∃ j, a ≤ j ∧ j < b ∧ d[i]! = d1[j]! := fun i h1 h2 => by
    have := rt_in (p := s) (m := s + (e - m)) (q := e) (t := i) (by omega) (by omega) g1 g4 h1 h2
    exact ⟨_, this.1, this.2, by rw [hd, rt_back g2 g3]⟩
  have hlo : ∀ i, a ≤ i → i < mid → ∃ j, a ≤ j ∧ j < mid ∧ d3[i]! = d1[j]! := fun i h1 h4 => by
    rw [h3.out i (.inl h4)]; exact h2.mem i h1 h4
  have hhi : ∀ i, mid ≤ i → i < b → ∃ j, mid ≤ j ∧ j < b ∧ d3[i]! = d1[j]! := fun i h1 h4 => by
    obtain ⟨j, q1, q2, q3⟩ := h3.mem i h1 h4
    exact ⟨j, q1, q2, by rw [q3, h2.out j (.inr q1)]⟩
  refine ⟨fun i hi => ?_, fun i h1 h4 => ?_, fun i h1 h4 => ?_, fun i j h1 h4 h5 => ?_⟩
  · rw [h3.out i (by omega), h2.out i (by omega), hout i hi]
  · rcases Nat.lt_or_ge i mid with q | q
    · obtain ⟨j, q1, q2, q3⟩ := hlo i h1 q
      obtain ⟨x, p1, p2, p3⟩ := hin1 j q1 (by omega)
      exact ⟨x, p1, p2, q3.trans p3⟩
    · obtain ⟨j, q1, q2, q3⟩ := hhi i q h4
      obtain ⟨x, p1, p2, p3⟩ := hin1 j (by omega) q2
      exact ⟨x, p1, p2, q3.trans p3⟩
  · obtain ⟨j, q1, q2, q3⟩ := hin2 i h1 h4
    rcases Nat.lt_or_ge j mid with q | q
    · obtain ⟨x, p1, p2, p3⟩ := h2.mem2 j q1 q
      exact ⟨x, p1, by omega, by rw [q3, p3, h3.out x (.inl p2)]⟩
    · rw [← h2.out j (.inr q)] at q3
      obtain ⟨x, p1, p2, p3⟩ := h3.mem2 j q q2
      exact ⟨x, by omega, p2, q3.trans p3⟩
  · rcases Nat.lt_or_ge j mid with q | q
    · rw [h3.out i (.inl (by omega)), h3.out j (.inl q)]; exact h2.srt i j h1 h4 q
    · rcases Nat.lt_or_ge i mid with q2 | q2
      · obtain ⟨x, p1, p2, p3⟩ := hlo i h1 q2
        obtain ⟨y, r1, r2, r3⟩ := hhi j q h5
        rw [p3, r3]; exact hM.split x y p1 p2 r1 r2
      · exact h3.srt i j q2 h4 h5
end Go.Proofs.YtgcpobondcnjcaaGreatDoor
