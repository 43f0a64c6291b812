/-
  Numbers and rods read from texts: what is read, in plain words.
  No conditions.
-/
import Derived.Test.YtlnlohopgnocaaaDoorSplitP
import Derived.Lib.Strings
namespace Go.Proofs.YtlnlohopgnocaaaDoor

/-- A digit. -/
def isD (c : UInt8) : Bool := decide (48 ≤ (c.toNat : Int)) && decide ((c.toNat : Int) ≤ 57)
/-- The number that digits tell. -/
def valL (l : List UInt8) : Nat := l.foldl (fun n c => n * 10 + (c.toNat - 48)) 0
theorem valL_snoc (l : List UInt8) (c : UInt8) : valL (l ++ [c]) = valL l * 10 + (c.toNat - 48) := by simp [valL]
theorem isD_bd {c : UInt8} (h : isD c = true) : 48 ≤ c.toNat ∧ c.toNat ≤ 57 := by
  unfold isD at h
  rw [Bool.and_eq_true, decide_eq_true_iff, decide_eq_true_iff] at h
  omega
theorem valL_lt : ∀ (k : Nat) (l : List UInt8), l.length = k → (∀ c ∈ l, isD c = true) → valL l < 10 ^ k
  | 0, l, h, _ => by
    have : l = [] := List.eq_nil_of_length_eq_zero h
    subst this; simp [valL]
  | k + 1, l, h, hd => by
    have hne : l ≠ [] := fun e => by rw [e] at h; simp at h
    have e := List.dropLast_concat_getLast hne
    have hl : l.dropLast.length = k := by simp [h]
    have ih := valL_lt k l.dropLast hl (fun c hc => hd c (List.dropLast_subset _ hc))
    have hc := isD_bd (hd (l.getLast hne) (List.getLast_mem hne))
    rw [← e, valL_snoc, Nat.pow_succ]
    omega
/-- The digits of a text: what stands behind a '-' in front. -/
def rdL (s : ByteArray) : List UInt8 := Lib.trimPrefix s.data.toList [45]
def rdT (s : ByteArray) : ByteArray := ⟨(rdL s).toArray⟩
/-- A text of one to eighteen digits, but for a '-' in front. -/
def rdOk (s : ByteArray) : Bool := decide (1 ≤ (rdL s).length) && decide ((rdL s).length ≤ 18) && (rdL s).all isD
def rdN (s : ByteArray) : Int := if (rdL s).length < s.size then -((valL (rdL s) : Nat) : Int) else ((valL (rdL s) : Nat) : Int)
/-- The number with this decimal form. -/
def rdV (s : ByteArray) : Option Int := if rdOk s && decide (Lib.itoa (rdN s) = s.data.toList) then some (rdN s) else none
theorem rdL_dash (s : ByteArray) (h0 : 0 < s.size) (h : bt s 0 = 45) : rdT s = s.extract 1 s.size := by
  have e : s.data.toList = 45 :: s.data.toList.drop 1 := by
    have hl : 0 < s.data.toList.length := by simpa using h0
    have := List.drop_eq_getElem_cons hl
    rw [List.drop_zero] at this
    unfold bt at h
    rw [List.getD, List.getElem?_eq_getElem hl] at h
    simp only [Option.getD_some] at h
    rw [h] at this
    exact this
  unfold rdT rdL
  have e2 : Lib.trimPrefix s.data.toList [45] = s.data.toList.drop 1 := by
    rw [e]
    simp [Lib.trimPrefix, Lib.hasPrefix, List.isPrefixOf]
  rw [e2, ← Lib.extract_to_end, Lib.mk_data]
theorem rdL_plain (s : ByteArray) (h : s.size = 0 ∨ bt s 0 ≠ 45) : rdT s = s := by
  unfold rdT rdL
  have e2 : Lib.trimPrefix s.data.toList [45] = s.data.toList := by
    rcases hl : s.data.toList with _ | ⟨a, l⟩
    · rfl
    · have hs : s.size ≠ 0 := by
        have : s.data.toList.length = s.size := by simp
        rw [hl] at this; simp at this; omega
      have h2 : a ≠ 45 := by
        rcases h with h | h
        · exact absurd h hs
        · unfold bt at h; rw [hl] at h; exact h
      have : (45 == a) = false := by rw [beq_eq_false_iff_ne]; exact fun e => h2 e.symm
      simp [Lib.trimPrefix, Lib.hasPrefix, List.isPrefixOf, this]
  rw [e2, Lib.mk_data]
theorem rdT_data (s : ByteArray) : (rdT s).data.toList = rdL s := by unfold rdT; simp
theorem rdT_size (s : ByteArray) : (rdT s).size = (rdL s).length := by unfold rdT; rw [size_mk]
theorem rdL_le (s : ByteArray) : (rdL s).length ≤ s.size := by
  have : s.data.toList.length = s.size := by simp
  rw [← this]
  unfold rdL Lib.trimPrefix
  split
  · simp
  · exact Nat.le_refl _

end Go.Proofs.YtlnlohopgnocaaaDoor
