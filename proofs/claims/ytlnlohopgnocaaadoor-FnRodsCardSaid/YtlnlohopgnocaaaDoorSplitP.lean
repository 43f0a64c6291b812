/-
  The parts of a text between bytes: by a recursion, by what the library does, by what a loop does.
  No conditions.
-/
import Derived.Test.YtlnlohopgnocaaaDoorDecP
import Derived.Lib.SplitLaws
import Derived.Lib.IndexMore
namespace Go.Proofs.YtlnlohopgnocaaaDoor

/-- The first part with more ahead of it. -/
def glue (p : List UInt8) : List (List UInt8) → List (List UInt8)
  | [] => [p]
  | h :: r => (p ++ h) :: r
/-- The parts of a text between bytes c. -/
def splF (c : UInt8) : List UInt8 → List (List UInt8)
  | [] => [[]]
  | b :: t => if b = c then [] :: splF c t else glue [b] (splF c t)
theorem splF_ne (c : UInt8) (l : List UInt8) : ∃ h r, splF c l = h :: r := by
  cases l with
  | nil => exact ⟨[], [], rfl⟩
  | cons b t =>
    simp only [splF]; split
    · exact ⟨_, _, rfl⟩
    · cases splF c t with
      | nil => exact ⟨_, _, rfl⟩
      | cons h r => exact ⟨_, _, rfl⟩
theorem glue_nil (c : UInt8) (l : List UInt8) : glue [] (splF c l) = splF c l := by
  obtain ⟨h, r, e⟩ := splF_ne c l
  rw [e]; rfl
theorem glue_glue (p q : List UInt8) (x : List (List UInt8)) : glue p (glue q x) = glue (p ++ q) x := by
  cases x with
  | nil => rfl
  | cons h r => simp [glue]
theorem splF_no (c : UInt8) : ∀ l : List UInt8, c ∉ l → splF c l = [l]
  | [], _ => rfl
  | b :: t, h => by
    have h1 : ¬ b = c := fun e => h (by rw [e]; exact List.mem_cons_self)
    have h2 := splF_no c t (fun e => h (List.mem_cons_of_mem _ e))
    simp [splF, h1, h2, glue]
theorem splF_at (c : UInt8) (t : List UInt8) : ∀ p : List UInt8, c ∉ p → splF c (p ++ c :: t) = p :: splF c t
  | [], _ => by simp [splF]
  | b :: p, h => by
    have h1 : ¬ b = c := fun e => h (by rw [e]; exact List.mem_cons_self)
    have h2 := splF_at c t p (fun e => h (List.mem_cons_of_mem _ e))
    simp [splF, h1, h2, glue]
/-- The parts put together. -/
def joinF (c : UInt8) : List (List UInt8) → List UInt8
  | [] => []
  | [h] => h
  | h :: r => h ++ c :: joinF c r
theorem joinF_glue (c b : UInt8) : ∀ x : List (List UInt8), x ≠ [] → joinF c (glue [b] x) = b :: joinF c x
  | [], h => absurd rfl h
  | [h], _ => by simp [glue, joinF]
  | h :: g :: r, _ => by simp [glue, joinF]
theorem joinF_spl (c : UInt8) : ∀ l : List UInt8, joinF c (splF c l) = l
  | [] => rfl
  | b :: t => by
    have ih := joinF_spl c t
    obtain ⟨h, r, e⟩ := splF_ne c t
    simp only [splF]; split
    · rename_i hb
      rw [e] at ih ⊢
      simp only [joinF, List.nil_append]
      rw [ih, hb]
    · rw [joinF_glue c b _ (by rw [e]; simp), ih]
theorem splF_free (c : UInt8) : ∀ (l p : List UInt8), p ∈ splF c l → c ∉ p
  | [], p, h => by simp [splF] at h; subst h; simp
  | b :: t, p, h => by
    have ih := splF_free c t
    simp only [splF] at h
    split at h
    · rcases List.mem_cons.1 h with e | e
      · subst e; simp
      · exact ih p e
    · rename_i hb
      obtain ⟨g, r, e⟩ := splF_ne c t
      rw [e] at h ih
      simp only [glue] at h
      rcases List.mem_cons.1 h with e1 | e1
      · subst e1
        have := ih g List.mem_cons_self
        simp only [List.cons_append, List.nil_append, List.mem_cons, not_or]
        exact ⟨fun e => hb e.symm, this⟩
      · exact ih p (List.mem_cons_of_mem _ e1)
theorem splF_len (c : UInt8) : ∀ l : List UInt8, (splF c l).length ≤ l.length + 1
  | [] => by simp [splF]
  | b :: t => by
    have ih := splF_len c t
    obtain ⟨h, r, e⟩ := splF_ne c t
    rw [e] at ih
    simp only [splF]; split
    · rw [e]; simp at ih ⊢; omega
    · rw [e]; simp [glue] at ih ⊢; omega
/-- The library's parts. -/
theorem splitK_eq (c : UInt8) : ∀ (k : Nat) (l : List UInt8), Lib.count l [c] = k → Lib.splitK [c] 0 k l = splF c l
  | 0, l, h => by
    rw [Lib.count_one, List.count_eq_zero] at h
    rw [splF_no c l h]; rfl
  | k + 1, l, h => by
    have hm : c ∈ l := by
      rw [Lib.count_one] at h
      exact List.count_pos_iff.1 (by omega)
    have hne : Lib.index l [c] ≠ -1 := fun e => by rw [Lib.count_miss e] at h; omega
    have hge : -1 ≤ Lib.index l [c] := by rw [Lib.index_one]; exact Lib.indexByte_ge l c
    obtain ⟨i, hi⟩ : ∃ i : Nat, Lib.index l [c] = i := ⟨(Lib.index l [c]).toNat, by omega⟩
    have hc := Lib.count_hit (s := l) (sub := [c]) (by simp) hi
    rw [Lib.index_one] at hi
    obtain ⟨h1, h2⟩ := Lib.indexByte_some hi
    have hlt : i < l.length := (List.getElem?_eq_some_iff.1 h1).1
    have hg : l[i] = c := by rw [List.getElem?_eq_getElem hlt] at h1; exact Option.some.inj h1
    have he : l = l.take i ++ c :: l.drop (i + 1) := by
      conv => lhs; rw [← List.take_append_drop i l]
      rw [List.drop_eq_getElem_cons hlt, hg]
    have hf : c ∉ l.take i := fun hmem => by
      obtain ⟨j, hj, e⟩ := List.mem_iff_getElem.1 hmem
      have hj2 : j < i := by simp at hj; omega
      refine h2 j hj2 ?_
      rw [List.getElem_take] at e
      rw [List.getElem?_eq_getElem (by omega), e]
    have hk : Lib.count (l.drop (i + 1)) [c] = k := by
      have e1 : [c].length = 1 := rfl
      rw [e1] at hc; omega
    have ih := splitK_eq c k (l.drop (i + 1)) hk
    have e2 : splF c l = l.take i :: splF c (l.drop (i + 1)) := by
      conv => lhs; rw [he]
      exact splF_at c _ _ hf
    rw [e2, ← ih]
    rw [Lib.splitK, Lib.index_one, hi, if_neg (by rw [beq_iff_eq]; omega), Int.toNat_natCast, Nat.add_zero, List.length_singleton]
theorem split_lib (c : UInt8) (s : ByteArray) : (Lib.splitB ⟨#[c]⟩ 0 (Lib.countB s ⟨#[c]⟩) s).map (·.data.toList) = splF c s.data.toList := by
  rw [Lib.splitB_data]
  exact splitK_eq c _ _ rfl
/-- What a loop has at place i: the parts that are done, and where the next one begins. -/
def Parts (c : UInt8) (l : List UInt8) (out : List (List UInt8)) (f i : Nat) : Prop := f ≤ i ∧ i ≤ l.length ∧ splF c l = out ++ glue ((l.drop f).take (i - f)) (splF c (l.drop i))
theorem Parts.start (c : UInt8) (l : List UInt8) : Parts c l [] 0 0 := ⟨Nat.le_refl _, Nat.zero_le _, by simp [glue_nil]⟩
theorem Parts.hit {c : UInt8} {l : List UInt8} {out : List (List UInt8)} {f i : Nat} (h : Parts c l out f i) (hi : i < l.length) (hc : l[i] = c) : Parts c l (out ++ [(l.drop f).take (i - f)]) (i + 1) (i + 1) := by
  obtain ⟨h1, h2, h3⟩ := h
  refine ⟨Nat.le_refl _, hi, ?_⟩
  have e : splF c (c :: l.drop (i + 1)) = [] :: splF c (l.drop (i + 1)) := by simp [splF]
  rw [h3, List.drop_eq_getElem_cons hi, hc, e, Nat.sub_self, List.take_zero, glue_nil]
  simp [glue]
theorem Parts.miss {c : UInt8} {l : List UInt8} {out : List (List UInt8)} {f i : Nat} (h : Parts c l out f i) (hi : i < l.length) (hc : l[i] ≠ c) : Parts c l out f (i + 1) := by
  obtain ⟨h1, h2, h3⟩ := h
  refine ⟨by omega, hi, ?_⟩
  rw [h3, List.drop_eq_getElem_cons hi]
  simp only [splF, if_neg hc]
  rw [glue_glue]
  congr 2
  rw [show i + 1 - f = (i - f) + 1 by omega, List.take_succ_eq_append_getElem (by simp; omega)]
  congr 2
  rw [List.getElem_drop]
  congr 1; omega
theorem Parts.done {c : UInt8} {l : List UInt8} {out : List (List UInt8)} {f : Nat} (h : Parts c l out f l.length) : splF c l = out ++ [l.drop f] := by
  obtain ⟨h1, h2, h3⟩ := h
  rw [h3, List.drop_length]
  simp only [splF, glue, List.append_nil]
  rw [List.take_of_length_le (by simp)]

end Go.Proofs.YtlnlohopgnocaaaDoor
