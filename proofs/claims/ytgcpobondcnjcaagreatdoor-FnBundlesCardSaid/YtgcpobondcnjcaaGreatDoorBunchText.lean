/-
  The text of a bundle, by the program and by the reference.
  No conditions.
-/
import Derived.Test.YtgcpobondcnjcaaGreatDoorDec
import Derived.Test.YtgcpobondcnjcaaGreatDoorValid
import Derived.Deep.RegionHeld3
import Derived.Lib.ItoaLen
import Derived.Laws.Concat
namespace Go.Proofs.YtgcpobondcnjcaaGreatDoor
open Go.ChangeShapes Go.WideShapes Go.ChangeAt Go.RowKit Go.Deep
set_option linter.unusedVariables false

theorem keepR {wq w' : World} {g : Nat} {t : TypeId} {x0 x1 x2 : Value} (hX : Blk wq g t #[x0, x1, x2]) (hb : Below wq.heap.size wq w') :
    w'.cell? ⟨g, 0, none⟩ = some x0 ∧ w'.cell? ⟨g, 1, none⟩ = some x1 ∧ w'.cell? ⟨g, 2, none⟩ = some x2 ∧ Below wq.heap.size wq w' := by
  have a0 := (hX.on hb).cell 0
  have a1 := (hX.on hb).cell 1
  have a2 := (hX.on hb).cell 2
  simp at a0 a1 a2
  exact ⟨a0, a1, a2, hb⟩
/-- The text of a bundle. -/
def bunTxt (a b c : Int) : List UInt8 := Lib.itoa a ++ [32, 109, 109, 44, 32, 103, 105, 114, 116, 104, 32] ++ Lib.itoa b ++ [44, 32] ++ Lib.itoa c ++ [32, 103]
theorem bunTxt_cat (a b c : Int) : (((((⟨(Lib.itoa a).toArray⟩ : ByteArray) ++ ⟨#[32, 109, 109, 44, 32, 103, 105, 114, 116, 104, 32]⟩) ++ ⟨(Lib.itoa b).toArray⟩) ++ ⟨#[44, 32]⟩) ++ ⟨(Lib.itoa c).toArray⟩) ++ ⟨#[32, 103]⟩ = (⟨(bunTxt a b c).toArray⟩ : ByteArray) := by
  have e1 : (⟨#[32, 109, 109, 44, 32, 103, 105, 114, 116, 104, 32]⟩ : ByteArray) = ⟨[32, 109, 109, 44, 32, 103, 105, 114, 116, 104, 32].toArray⟩ := rfl
  have e2 : (⟨#[44, 32]⟩ : ByteArray) = ⟨[44, 32].toArray⟩ := rfl
  have e3 : (⟨#[32, 103]⟩ : ByteArray) = ⟨[32, 103].toArray⟩ := rfl
  rw [e1, e2, e3, cat_bytes, cat_bytes, cat_bytes, cat_bytes, cat_bytes]
  rfl
theorem bunOk_bd {a b c : Int} (h : bunchOk a b c = true) : 100 ≤ a ∧ a ≤ 3000 ∧ 10 ≤ b ∧ b ≤ 2000 ∧ 1 ≤ c ∧ c ≤ 50000 := by
  simp only [bunchOk, Bool.and_eq_true] at h
  have h1 := inR_true h.1.1
  have h2 := inR_true h.1.2
  have h3 := inR_true h.2
  omega
/-- BunchText. -/
def btV (a b c : Int) : ByteArray := if bunchOk a b c then ⟨(bunTxt a b c).toArray⟩ else ByteArray.empty
set_option maxRecDepth 100000 in
set_option maxHeartbeats 4000000 in
theorem btext_s (a b c : Int) (w : World) : Calls Tryz.prog 23 #[.agg #[.int .i64 a, .int .i64 b, .int .i64 c]] w fun e w' => e = .returned (.string (btV a b c)) ∧ Below w.heap.size w w' := by
  have hX0 := Blk.new w 40 #[.int .i64 a, .int .i64 b, .int .i64 c]
  have b0 : Below w.heap.size w (w.alloc (.cells #[.int .i64 a, .int .i64 b, .int .i64 c] 40)) := balloc (Below.refl _ _) _
  rcases hr : bunchOk a b c with _ | _
  · have HV : Hid (btV a b c = ByteArray.empty) := by show _ = _; unfold btV; rw [hr]; rfl
    have HR := Lib.hid hr
    clear hr
    go_enter Tryz.func23, Tryz.ntmps23
    go_wp2_with fail
    refine (l05One_c w.heap.size 0 a b c _ (by simp) (by simp) (by simp)).mono ?_
    rintro e w1 ⟨rfl, hb1⟩
    rw [HR.out]
    go_wp2
    go_ret
    exact ⟨by rw [HV.out]; rfl, btrans b0 hb1⟩
  · have HV : Hid (btV a b c = ⟨(bunTxt a b c).toArray⟩) := by show _ = _; unfold btV; rw [hr]; rfl
    have hbd := bunOk_bd hr
    have HR := Lib.hid hr
    clear hr
    obtain ⟨A, hA⟩ : ∃ A : ByteArray, A = ⟨(Lib.itoa a).toArray⟩ := ⟨_, rfl⟩
    obtain ⟨B, hB⟩ : ∃ B : ByteArray, B = ⟨(Lib.itoa b).toArray⟩ := ⟨_, rfl⟩
    obtain ⟨C, hC⟩ : ∃ C : ByteArray, C = ⟨(Lib.itoa c).toArray⟩ := ⟨_, rfl⟩
    have cA := Lib.hid (fun (w : World) => l01Dec_c a w (by omega) (by omega))
    have cB := Lib.hid (fun (w : World) => l01Dec_c b w (by omega) (by omega))
    have cC := Lib.hid (fun (w : World) => l01Dec_c c w (by omega) (by omega))
    have lA : A.size ≤ 21 := by rw [hA, size_mk]; exact Lib.itoa_length_le a (by omega) (by omega)
    have lB : B.size ≤ 21 := by rw [hB, size_mk]; exact Lib.itoa_length_le b (by omega) (by omega)
    have lC : C.size ≤ 21 := by rw [hC, size_mk]; exact Lib.itoa_length_le c (by omega) (by omega)
    have hT := bunTxt_cat a b c
    rw [← hA, ← hB, ← hC] at hT
    rw [← hA] at cA
    rw [← hB] at cB
    rw [← hC] at cC
    clear hA hB hC
    obtain ⟨S1, h1⟩ : ∃ S : ByteArray, A ++ ⟨#[32, 109, 109, 44, 32, 103, 105, 114, 116, 104, 32]⟩ = S := ⟨_, rfl⟩
    obtain ⟨S2, h2⟩ : ∃ S : ByteArray, S1 ++ B = S := ⟨_, rfl⟩
    obtain ⟨S3, h3⟩ : ∃ S : ByteArray, S2 ++ ⟨#[44, 32]⟩ = S := ⟨_, rfl⟩
    obtain ⟨S4, h4⟩ : ∃ S : ByteArray, S3 ++ C = S := ⟨_, rfl⟩
    obtain ⟨S5, h5⟩ : ∃ S : ByteArray, S4 ++ ⟨#[32, 103]⟩ = S := ⟨_, rfl⟩
    rw [h1, h2, h3, h4, h5] at hT
    have l1 : S1.size ≤ 32 := by rw [← h1, ByteArray.size_append]; show A.size + 11 ≤ 32; omega
    have l2 : S2.size ≤ 53 := by rw [← h2, ByteArray.size_append]; omega
    have l3 : S3.size ≤ 55 := by rw [← h3, ByteArray.size_append]; show S2.size + 2 ≤ 55; omega
    have l4 : S4.size ≤ 76 := by rw [← h4, ByteArray.size_append]; omega
    have e1 : ∀ w, (Op.stringOp .add A ⟨#[32, 109, 109, 44, 32, 103, 105, 114, 116, 104, 32]⟩).run Tryz.prog w = .ok (.string S1) w := fun w => by rw [run_string_add_sum w _ _ (by show A.size + 11 ≤ _; omega), h1]
    have e2 : ∀ w, (Op.stringOp .add S1 B).run Tryz.prog w = .ok (.string S2) w := fun w => by rw [run_string_add_sum w _ _ (by omega), h2]
    have e3 : ∀ w, (Op.stringOp .add S2 ⟨#[44, 32]⟩).run Tryz.prog w = .ok (.string S3) w := fun w => by rw [run_string_add_sum w _ _ (by show S2.size + 2 ≤ _; omega), h3]
    have e4 : ∀ w, (Op.stringOp .add S3 C).run Tryz.prog w = .ok (.string S4) w := fun w => by rw [run_string_add_sum w _ _ (by omega), h4]
    have e5 : ∀ w, (Op.stringOp .add S4 ⟨#[32, 103]⟩).run Tryz.prog w = .ok (.string S5) w := fun w => by rw [run_string_add_sum w _ _ (by show S4.size + 2 ≤ _; omega), h5]
    have HT := Lib.hid hT
    clear hT h1 h2 h3 h4 h5 lA lB lC l1 l2 l3 l4
    go_enter Tryz.func23, Tryz.ntmps23
    go_wp2_with fail
    refine (l05One_c w.heap.size 0 a b c _ (by simp) (by simp) (by simp)).mono ?_
    rintro e wq ⟨rfl, hb1⟩
    rw [HR.out]
    have X := hX0.on hb1
    have Xl := X.lt
    have Xc0 := X.cell 0
    have Xf0 := X.frozen 0
    have Xc1 := X.cell 1
    have Xf1 := X.frozen 1
    have Xc2 := X.cell 2
    have Xf2 := X.frozen 2
    simp at Xc0 Xc1 Xc2
    have XH := Lib.hid X
    clear X
    go_wp2_with fail
    go_region_held3 (fun w' => w'.cell? ⟨w.heap.size, 0, none⟩ = some (.int .i64 a) ∧ w'.cell? ⟨w.heap.size, 1, none⟩ = some (.int .i64 b) ∧ w'.cell? ⟨w.heap.size, 2, none⟩ = some (.int .i64 c) ∧ Below wq.heap.size wq w') (first | exact keepR XH.out (Below.refl _ _) | exact keepR XH.out (Below.refl _ _).drew | exact keepR XH.out (btrans (‹_ ∧ _ ∧ _ ∧ Below _ _ _›.2.2.2) ‹Below _ _ _›)) ((go_at_call 61; (first | (with_reducible refine (cA.out _).mono ?_) | (with_reducible refine (cB.out _).mono ?_) | (with_reducible refine (cC.out _).mono ?_)); rintro e wy ⟨rfl, by_⟩))
    have HB := Lib.hid (‹_ ∧ _ ∧ _ ∧ Below wq.heap.size wq _›.2.2.2)
    clear by_
    go_wp2
    go_ret
    exact ⟨by rw [HV.out, ← HT.out]; rfl, btrans (btrans b0 hb1) HB.out⟩
set_option maxRecDepth 100000 in
set_option maxHeartbeats 4000000 in
theorem btext_i (a b c : Int) (w : World) (ht : Tens w) : Calls Tryz.prog 22 #[.agg #[.int .i64 a, .int .i64 b, .int .i64 c]] w fun e w' => e = .returned (.string (btV a b c)) ∧ Below w.heap.size w w' := by
  have hX0 := Blk.new w 40 #[.int .i64 a, .int .i64 b, .int .i64 c]
  have b0 : Below w.heap.size w (w.alloc (.cells #[.int .i64 a, .int .i64 b, .int .i64 c] 40)) := balloc (Below.refl _ _) _
  have HTN := Lib.hid (ht.on b0)
  clear ht
  rcases hr : bunchOk a b c with _ | _
  · have HV : Hid (btV a b c = ByteArray.empty) := by show _ = _; unfold btV; rw [hr]; rfl
    have HR := Lib.hid hr
    clear hr
    go_enter Tryz.func22, Tryz.ntmps22
    go_wp2_with fail
    refine (isBunch_c a b c _).mono ?_
    rintro e w1 ⟨rfl, hb1⟩
    rw [HR.out]
    go_wp2
    go_ret
    exact ⟨by rw [HV.out]; rfl, btrans b0 hb1⟩
  · have HV : Hid (btV a b c = ⟨(bunTxt a b c).toArray⟩) := by show _ = _; unfold btV; rw [hr]; rfl
    have hbd := bunOk_bd hr
    have HR := Lib.hid hr
    clear hr
    obtain ⟨A, hA⟩ : ∃ A : ByteArray, A = ⟨(Lib.itoa a).toArray⟩ := ⟨_, rfl⟩
    obtain ⟨B, hB⟩ : ∃ B : ByteArray, B = ⟨(Lib.itoa b).toArray⟩ := ⟨_, rfl⟩
    obtain ⟨C, hC⟩ : ∃ C : ByteArray, C = ⟨(Lib.itoa c).toArray⟩ := ⟨_, rfl⟩
    have cA := Lib.hid (fun (w : World) (ht : Tens w) => dec_i a w (by omega) (by omega) ht)
    have cB := Lib.hid (fun (w : World) (ht : Tens w) => dec_i b w (by omega) (by omega) ht)
    have cC := Lib.hid (fun (w : World) (ht : Tens w) => dec_i c w (by omega) (by omega) ht)
    have lA : A.size ≤ 21 := by rw [hA, size_mk]; exact Lib.itoa_length_le a (by omega) (by omega)
    have lB : B.size ≤ 21 := by rw [hB, size_mk]; exact Lib.itoa_length_le b (by omega) (by omega)
    have lC : C.size ≤ 21 := by rw [hC, size_mk]; exact Lib.itoa_length_le c (by omega) (by omega)
    have hT := bunTxt_cat a b c
    rw [← hA, ← hB, ← hC] at hT
    rw [← hA] at cA
    rw [← hB] at cB
    rw [← hC] at cC
    clear hA hB hC
    obtain ⟨S1, h1⟩ : ∃ S : ByteArray, A ++ ⟨#[32, 109, 109, 44, 32, 103, 105, 114, 116, 104, 32]⟩ = S := ⟨_, rfl⟩
    obtain ⟨S2, h2⟩ : ∃ S : ByteArray, S1 ++ B = S := ⟨_, rfl⟩
    obtain ⟨S3, h3⟩ : ∃ S : ByteArray, S2 ++ ⟨#[44, 32]⟩ = S := ⟨_, rfl⟩
    obtain ⟨S4, h4⟩ : ∃ S : ByteArray, S3 ++ C = S := ⟨_, rfl⟩
    obtain ⟨S5, h5⟩ : ∃ S : ByteArray, S4 ++ ⟨#[32, 103]⟩ = S := ⟨_, rfl⟩
    rw [h1, h2, h3, h4, h5] at hT
    have l1 : S1.size ≤ 32 := by rw [← h1, ByteArray.size_append]; show A.size + 11 ≤ 32; omega
    have l2 : S2.size ≤ 53 := by rw [← h2, ByteArray.size_append]; omega
    have l3 : S3.size ≤ 55 := by rw [← h3, ByteArray.size_append]; show S2.size + 2 ≤ 55; omega
    have l4 : S4.size ≤ 76 := by rw [← h4, ByteArray.size_append]; omega
    have e1 : ∀ w, (Op.stringOp .add A ⟨#[32, 109, 109, 44, 32, 103, 105, 114, 116, 104, 32]⟩).run Tryz.prog w = .ok (.string S1) w := fun w => by rw [run_string_add_sum w _ _ (by show A.size + 11 ≤ _; omega), h1]
    have e2 : ∀ w, (Op.stringOp .add S1 B).run Tryz.prog w = .ok (.string S2) w := fun w => by rw [run_string_add_sum w _ _ (by omega), h2]
    have e3 : ∀ w, (Op.stringOp .add S2 ⟨#[44, 32]⟩).run Tryz.prog w = .ok (.string S3) w := fun w => by rw [run_string_add_sum w _ _ (by show S2.size + 2 ≤ _; omega), h3]
    have e4 : ∀ w, (Op.stringOp .add S3 C).run Tryz.prog w = .ok (.string S4) w := fun w => by rw [run_string_add_sum w _ _ (by omega), h4]
    have e5 : ∀ w, (Op.stringOp .add S4 ⟨#[32, 103]⟩).run Tryz.prog w = .ok (.string S5) w := fun w => by rw [run_string_add_sum w _ _ (by show S4.size + 2 ≤ _; omega), h5]
    have HT := Lib.hid hT
    clear hT h1 h2 h3 h4 h5 lA lB lC l1 l2 l3 l4
    go_enter Tryz.func22, Tryz.ntmps22
    go_wp2_with fail
    refine (isBunch_c a b c _).mono ?_
    rintro e wq ⟨rfl, hb1⟩
    rw [HR.out]
    have HQ := Lib.hid (HTN.out.on hb1)
    have X := hX0.on hb1
    have Xl := X.lt
    have Xc0 := X.cell 0
    have Xf0 := X.frozen 0
    have Xc1 := X.cell 1
    have Xf1 := X.frozen 1
    have Xc2 := X.cell 2
    have Xf2 := X.frozen 2
    simp at Xc0 Xc1 Xc2
    have XH := Lib.hid X
    clear X
    go_wp2_with fail
    go_region_held3 (fun w' => w'.cell? ⟨w.heap.size, 0, none⟩ = some (.int .i64 a) ∧ w'.cell? ⟨w.heap.size, 1, none⟩ = some (.int .i64 b) ∧ w'.cell? ⟨w.heap.size, 2, none⟩ = some (.int .i64 c) ∧ Below wq.heap.size wq w') (first | exact keepR XH.out (Below.refl _ _) | exact keepR XH.out (Below.refl _ _).drew | exact keepR XH.out (btrans (‹_ ∧ _ ∧ _ ∧ Below _ _ _›.2.2.2) ‹Below _ _ _›)) ((go_at_call 59; (first | (with_reducible refine (cA.out _ (HQ.out.on (‹_ ∧ _ ∧ _ ∧ Below wq.heap.size wq _›.2.2.2))).mono ?_) | (with_reducible refine (cB.out _ (HQ.out.on (‹_ ∧ _ ∧ _ ∧ Below wq.heap.size wq _›.2.2.2))).mono ?_) | (with_reducible refine (cC.out _ (HQ.out.on (‹_ ∧ _ ∧ _ ∧ Below wq.heap.size wq _›.2.2.2))).mono ?_)); rintro e wy ⟨rfl, by_⟩))
    have HB := Lib.hid (‹_ ∧ _ ∧ _ ∧ Below wq.heap.size wq _›.2.2.2)
    clear by_
    go_wp2
    go_ret
    exact ⟨by rw [HV.out, ← HT.out]; rfl, btrans (btrans b0 hb1) HB.out⟩
end Go.Proofs.YtgcpobondcnjcaaGreatDoor
