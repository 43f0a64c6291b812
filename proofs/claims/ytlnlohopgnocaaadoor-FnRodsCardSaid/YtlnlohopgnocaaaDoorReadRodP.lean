/-
  Rods read from texts: the two ways to read one agree.
  No conditions.
-/
import Derived.Test.YtlnlohopgnocaaaDoorReadP
import Derived.Test.YtlnlohopgnocaaaDoorValid
import Derived.Lib.IndexMore
namespace Go.Proofs.YtlnlohopgnocaaaDoor

theorem dgs_isD : ∀ (k u : Nat), u ≤ k → ∀ c ∈ dgs u, isD c = true
  | 0, u, h, c, hc => by
    obtain rfl : u = 0 := by omega
    simp [dgs] at hc
  | k + 1, u, h, c, hc => by
    by_cases h0 : u = 0
    · subst h0; simp [dgs] at hc
    · rw [dgs_step u (by omega)] at hc
      rcases List.mem_append.1 hc with h1 | h1
      · exact dgs_isD k (u / 10) (by omega) c h1
      · simp only [List.mem_cons, List.not_mem_nil, or_false] at h1
        subst h1
        have := dig_byte u
        have h2 : u % 10 < 10 := Nat.mod_lt _ (by omega)
        unfold isD
        rw [this, Bool.and_eq_true, decide_eq_true_iff, decide_eq_true_iff]
        omega
theorem itoa_isD (n : Int) (h : 1 ≤ n) : ∀ c ∈ Lib.itoa n, isD c = true := by
  obtain ⟨u, rfl⟩ := Int.eq_ofNat_of_zero_le (by omega : 0 ≤ n)
  rw [itoa_pos u (by omega)]
  exact dgs_isD u u (Nat.le_refl _)
theorem not_isD {b : UInt8} {l : List UInt8} (h : ∀ c ∈ l, isD c = true) (hb : isD b = false) : b ∉ l := fun e => by rw [h b e] at hb; cases hb
/-- The text of a rod. -/
def rodTxt (a b c : Int) : List UInt8 := Lib.itoa a ++ [32, 109, 109, 32] ++ Lib.itoa b ++ [45] ++ Lib.itoa c
theorem rodTxt_eq (a b c : Int) : rodTxt a b c = Lib.itoa a ++ 32 :: ([109, 109] ++ 32 :: (Lib.itoa b ++ 45 :: Lib.itoa c)) := by simp [rodTxt]
theorem rodOk_bds {a b c : Int} (h : rodOk a b c = true) : 100 ≤ a ∧ a ≤ 3000 ∧ 1 ≤ b ∧ b ≤ 300 ∧ 1 ≤ c ∧ c ≤ b := by
  simp only [rodOk, Bool.and_eq_true] at h
  have h1 := inR_true h.1.1
  have h2 := inR_true h.1.2
  have h3 := inR_true h.2
  omega
theorem spl_rod (a b c : Int) (h : rodOk a b c = true) : splF 32 (rodTxt a b c) = [Lib.itoa a, [109, 109], Lib.itoa b ++ 45 :: Lib.itoa c] ∧ splF 45 (Lib.itoa b ++ 45 :: Lib.itoa c) = [Lib.itoa b, Lib.itoa c] := by
  have hb := rodOk_bds h
  have f1 := itoa_isD a (by omega)
  have f2 := itoa_isD b (by omega)
  have f3 := itoa_isD c (by omega)
  constructor
  · rw [rodTxt_eq, splF_at 32 _ _ (not_isD f1 rfl), splF_at 32 _ _ (by decide), splF_no]
    intro e
    rcases List.mem_append.1 e with e | e
    · exact not_isD f2 rfl e
    · rcases List.mem_cons.1 e with e | e
      · exact absurd e (by decide)
      · exact not_isD f3 rfl e
  · rw [splF_at 45 _ _ (not_isD f2 rfl), splF_no _ _ (not_isD f3 rfl)]
theorem cut_at (c : UInt8) (p t : List UInt8) (h : c ∉ p) : Lib.cut (p ++ c :: t) [c] = (p, t, true) := by
  have hi : ∀ p : List UInt8, c ∉ p → Lib.indexByte (p ++ c :: t) c = p.length := by
    intro p
    induction p with
    | nil => intro _; simp [Lib.indexByte]
    | cons b p ih =>
      intro h
      have h1 : (b == c) = false := by rw [beq_eq_false_iff_ne]; exact fun e => h (by rw [e]; exact List.mem_cons_self)
      have h2 := ih (fun e => h (List.mem_cons_of_mem _ e))
      have h3 : ((p.length : Int) == -1) = false := by rw [beq_eq_false_iff_ne]; omega
      simp [Lib.indexByte, h1, h2, h3]
  have := hi p h
  unfold Lib.cut
  rw [Lib.index_one, this]
  simp
/-- A text as bytes. -/
def mkB (l : List UInt8) : ByteArray := ⟨l.toArray⟩
theorem mkB_data (l : List UInt8) : (mkB l).data.toList = l := by simp [mkB]
theorem rdV_itoa {s : ByteArray} {n : Int} (h : rdV s = some n) : Lib.itoa n = s.data.toList := by
  unfold rdV at h
  split at h
  · rename_i hc
    rw [Bool.and_eq_true, decide_eq_true_iff] at hc
    rw [← Option.some.inj h]; exact hc.2
  · cases h
/-- A rod out of what three numbers' texts tell. -/
def rodOf (x y z : Option Int) : Option (Int × Int × Int) :=
  match x, y, z with
  | some a, some b, some c => if rodOk a b c then some (a, b, c) else none
  | _, _, _ => none
/-- ReadRod. -/
def rrV (s : ByteArray) : Option (Int × Int × Int) :=
  match splF 32 s.data.toList with
  | [a, b, c] => if b = [109, 109] then (match splF 45 c with | [v0, v1] => rodOf (rdV (mkB a)) (rdV (mkB v0)) (rdV (mkB v1)) | _ => none) else none
  | _ => none
theorem rodOf_some {x y z : Option Int} {a b c : Int} (h : rodOf x y z = some (a, b, c)) : x = some a ∧ y = some b ∧ z = some c ∧ rodOk a b c = true := by
  unfold rodOf at h
  split at h
  · split at h
    · rename_i hr
      have := Option.some.inj h
      simp only [Prod.mk.injEq] at this
      obtain ⟨rfl, rfl, rfl⟩ := this
      exact ⟨rfl, rfl, rfl, hr⟩
    · cases h
  · cases h
/-- What the program asks is what the reference asks. -/
theorem rr_same (s : ByteArray) (a b c : List UInt8) (hW : splF 32 s.data.toList = [a, b, c]) :
    rrV s = match rodOf (rdV (mkB a)) (rdV (mkB (Lib.cut c [45]).1)) (rdV (mkB (Lib.cut c [45]).2.1)) with
      | some (x, y, z) => if rodTxt x y z = s.data.toList then some (x, y, z) else none
      | none => none := by
  have hs := joinF_spl 32 s.data.toList
  rw [hW] at hs
  simp only [joinF] at hs
  have hcc := joinF_spl 45 c
  rcases hr : rodOf (rdV (mkB a)) (rdV (mkB (Lib.cut c [45]).1)) (rdV (mkB (Lib.cut c [45]).2.1)) with _ | ⟨x, y, z⟩
  · -- the program says no; so does the reference
    simp only
    unfold rrV
    rw [hW]
    simp only
    split
    · rename_i hb
      rcases hv : splF 45 c with _ | ⟨v0, _ | ⟨v1, _ | ⟨v2, r⟩⟩⟩
      · rfl
      · rfl
      · simp only
        have hf0 := splF_free 45 c v0 (by rw [hv]; simp)
        rw [hv] at hcc
        simp only [joinF] at hcc
        rw [← hcc, cut_at 45 v0 v1 hf0] at hr
        exact hr
      · rfl
    · rfl
  · obtain ⟨e1, e2, e3, hok⟩ := rodOf_some hr
    simp only
    obtain ⟨s1, s2⟩ := spl_rod x y z hok
    split
    · rename_i ht
      rw [← ht, s1] at hW
      simp only [List.cons.injEq, and_true] at hW
      obtain ⟨rfl, rfl, rfl⟩ := hW
      have hb := rodOk_bds hok
      rw [cut_at 45 _ _ (not_isD (itoa_isD y (by omega)) rfl)] at e2 e3
      unfold rrV
      rw [← ht, s1]
      simp only [if_true]
      rw [s2]
      simp only
      rw [e1, e2, e3]
      simp [rodOf, hok]
    · rename_i ht
      unfold rrV
      rw [hW]
      simp only
      split
      · rename_i hb
        rcases hv : splF 45 c with _ | ⟨v0, _ | ⟨v1, _ | ⟨v2, r⟩⟩⟩
        · rfl
        · rfl
        · simp only
          have hf0 := splF_free 45 c v0 (by rw [hv]; simp)
          rw [hv] at hcc
          simp only [joinF] at hcc
          rw [← hcc, cut_at 45 v0 v1 hf0] at e2 e3
          exfalso
          apply ht
          have i1 := rdV_itoa e1
          have i2 := rdV_itoa e2
          have i3 := rdV_itoa e3
          rw [mkB_data] at i1 i2 i3
          rw [rodTxt_eq, ← hs, i1, i2, i3, hb, ← hcc]
        · rfl
      · rfl

end Go.Proofs.YtlnlohopgnocaaaDoor
