/-
  Proved: the program's IsName returns what the reference's returns, for all arguments.
  No conditions.
-/
import Derived.Test.YtfoajecjgcdfhaaBase
import Derived.OpenShut
import Derived.ChangeOld
namespace Go.Proofs.Ytfoajecjgcdfhaa.fnExactIsName
open Go.ChangeShapes Go.WideShapes Go.ChangeAt Go.RowKit
open Go.ChangeMaps (open_string)
set_option linter.unusedVariables false

theorem small_c (n : Int) (w : World) : Calls Try.prog 30 #[.int .u8 n] w fun e w' => e = .returned (.bool (inR n 97 122)) ∧ w = w' := by
  by_cases h1 : 97 ≤ n <;> by_cases h2 : n ≤ 122
  all_goals
    go_enter Try.func30, Try.ntmps30
    go_wp2
    go_ret
    simp [inR, h1, h2]
theorem digit_c (n : Int) (w : World) : Calls Try.prog 31 #[.int .u8 n] w fun e w' => e = .returned (.bool (inR n 48 57)) ∧ w = w' := by
  by_cases h1 : 48 ≤ n <;> by_cases h2 : n ≤ 57
  all_goals
    go_enter Try.func31, Try.ntmps31
    go_wp2
    go_ret
    simp [inR, h1, h2]

/-- A byte of a name. -/
def okB (c : UInt8) : Bool := inR c.toNat 97 122 || inR c.toNat 48 57 || (c.toNat : Int) == 45
/-- A name. -/
def nameB (s : ByteArray) : Bool := decide (1 ≤ s.size ∧ s.size ≤ 12) && inR (s.data.toList.getD 0 0).toNat 97 122 && s.data.toList.all okB

theorem byte_at (s : ByteArray) (k : Nat) (h : k < s.size) : s.data.toList[k]? = some s[k] := by
  rw [List.getElem?_eq_getElem (by simpa using h)]; rfl
theorem nameB_first (s : ByteArray) (h : 0 < s.size) (hf : inR (s[0]).toNat 97 122 = false) : nameB s = false := by
  have := byte_at s 0 h
  simp [nameB, List.getD, this, hf]
theorem nameB_len (s : ByteArray) (h : ¬ (1 ≤ s.size ∧ s.size ≤ 12)) : nameB s = false := by
  simp only [nameB, decide_eq_false h, Bool.false_and]
theorem nameB_bad (s : ByteArray) (k : Nat) (h : k < s.size) (hf : okB s[k] = false) : nameB s = false := by
  have hm : s[k] ∈ s.data.toList := List.mem_of_getElem? (byte_at s k h)
  have : s.data.toList.all okB = false := by
    rw [Bool.eq_false_iff]; intro hh; rw [List.all_eq_true] at hh; have := hh _ hm; rw [hf] at this; cases this
  simp [nameB, this]
theorem nameB_good (s : ByteArray) (h0 : 0 < s.size) (h : s.size ≤ 12) (hf : inR (s[0]).toNat 97 122 = true) (hall : ∀ j, (hj : j < s.size) → okB s[j] = true) : nameB s = true := by
  have h1 := byte_at s 0 h0
  have : s.data.toList.all okB = true := by
    rw [List.all_eq_true]; intro x hx
    obtain ⟨j, hj, he⟩ := List.mem_iff_getElem.1 hx
    have hj' : j < s.size := by simpa using hj
    have := hall j hj'
    rw [← he]; exact this
  simp [nameB, List.getD, h1, hf, this]; omega

theorem toList_len (s : ByteArray) : s.toList.length = s.size := by
  rw [Go.ByteArray.toList_eq]; simp
theorem empty_of (s : ByteArray) (h : s.size = 0) : s.toList.isEmpty = true := by
  rw [List.isEmpty_iff]; exact List.eq_nil_of_length_eq_zero (by rw [toList_len, h])
theorem nonempty_of (s : ByteArray) (h : 0 < s.size) : s.toList.isEmpty = false := by
  rcases hl : s.toList with _ | ⟨a, l⟩
  · have := toList_len s; rw [hl] at this; simp at this; omega
  · rfl

set_option maxHeartbeats 1000000 in
theorem name_s (s : ByteArray) (hs : s.size ≤ maxLen) (w : World) : Calls Try.prog 15 #[.string s] w fun e w' => e = .returned (.bool (nameB s)) ∧ w = w' := by
  unfold maxLen at hs
  rcases Nat.eq_zero_or_pos s.size with h0 | h0
  · have hv := nameB_len s (by omega)
    have he : s.toList.isEmpty = true := empty_of s h0
    rw [hv]; clear hv
    go_enter Try.func15, Try.ntmps15
    go_wp2_with (first | (go_at_call 30; refine (small_c _ _).mono ?_; rintro e w' ⟨rfl, rfl⟩) | (go_at_call 31; refine (digit_c _ _).mono ?_; rintro e w' ⟨rfl, rfl⟩))
    go_ret
    exact ⟨rfl, rfl⟩
  · have he : s.toList.isEmpty = false := nonempty_of s h0
    by_cases h12 : s.size ≤ 12
    · rcases hf : inR (s[0]).toNat 97 122 with _ | _
      · have hv := nameB_first s h0 hf
        rw [hv]; clear hv
        go_enter Try.func15, Try.ntmps15
        go_wp2_with (first | (go_at_call 30; refine (small_c _ _).mono ?_; rintro e w' ⟨rfl, rfl⟩) | (go_at_call 31; refine (digit_c _ _).mono ?_; rintro e w' ⟨rfl, rfl⟩))
        go_ret
        exact ⟨rfl, rfl⟩
      · go_enter Try.func15, Try.ntmps15
        go_wp2_with (first | (go_at_call 30; refine (small_c _ _).mono ?_; rintro e w' ⟨rfl, rfl⟩) | (go_at_call 31; refine (digit_c _ _).mono ?_; rintro e w' ⟨rfl, rfl⟩))
        go_loop [3] (fun i => ∃ k : Nat, k ≤ s.size ∧ i = .int .i64 k ∧ Hid (∀ j, (hj : j < s.size) → j < k → okB s[j] = true)) (fun i => s.size - (intOf i).toNat)
        case atStart => exact ⟨0, Nat.zero_le _, rfl, fun j _ h => absurd h (by omega)⟩
        case round =>
          obtain ⟨k, hk, rfl, HK⟩ := hrel
          by_cases hlt : k < s.size
          · rcases h1 : inR (s[k]).toNat 97 122 with _ | _
            · rcases h2 : inR (s[k]).toNat 48 57 with _ | _
              · rcases h3 : (((s[k]).toNat : Int) != 45) with _ | _
                · have hok : okB s[k] = true := by
                    have : (((s[k]).toNat : Int) == 45) = true := by simpa using h3
                    simp [okB, this]
                  have HO : Hid (okB s[k] = true) := hok
                  clear hok
                  go_wp2_with (first | (go_at_call 30; refine (small_c _ _).mono ?_; rintro e w' ⟨rfl, rfl⟩) | (go_at_call 31; refine (digit_c _ _).mono ?_; rintro e w' ⟨rfl, rfl⟩))
                  go_round
                  case rel =>
                    refine ⟨k + 1, by omega, by go_num, fun j hj h => ?_⟩
                    rcases Nat.lt_or_ge j k with hh | hh
                    · exact HK.out j hj hh
                    · obtain rfl : j = k := by omega
                      exact HO.out
                  case measure => simp [intOf]; omega
                · have hok : okB s[k] = false := by
                    have : (((s[k]).toNat : Int) == 45) = false := by simpa using h3
                    simp [okB, h1, h2, this]
                  have HV : Hid (nameB s = false) := nameB_bad s k hlt hok
                  clear hok
                  go_wp2_with (first | (go_at_call 30; refine (small_c _ _).mono ?_; rintro e w' ⟨rfl, rfl⟩) | (go_at_call 31; refine (digit_c _ _).mono ?_; rintro e w' ⟨rfl, rfl⟩))
                  go_ret
                  exact ⟨ret_bool HV.out.symm, rfl⟩
              · have HO : Hid (okB s[k] = true) := by show _ = _; simp [okB, h2]
                go_wp2_with (first | (go_at_call 30; refine (small_c _ _).mono ?_; rintro e w' ⟨rfl, rfl⟩) | (go_at_call 31; refine (digit_c _ _).mono ?_; rintro e w' ⟨rfl, rfl⟩))
                go_round
                case rel =>
                  refine ⟨k + 1, by omega, by go_num, fun j hj h => ?_⟩
                  rcases Nat.lt_or_ge j k with hh | hh
                  · exact HK.out j hj hh
                  · obtain rfl : j = k := by omega
                    exact HO.out
                case measure => simp [intOf]; omega
            · have HO : Hid (okB s[k] = true) := by show _ = _; simp [okB, h1]
              go_wp2_with (first | (go_at_call 30; refine (small_c _ _).mono ?_; rintro e w' ⟨rfl, rfl⟩) | (go_at_call 31; refine (digit_c _ _).mono ?_; rintro e w' ⟨rfl, rfl⟩))
              go_round
              case rel =>
                refine ⟨k + 1, by omega, by go_num, fun j hj h => ?_⟩
                rcases Nat.lt_or_ge j k with hh | hh
                · exact HK.out j hj hh
                · obtain rfl : j = k := by omega
                  exact HO.out
              case measure => simp [intOf]; omega
          · go_wp2_with (first | (go_at_call 30; refine (small_c _ _).mono ?_; rintro e w' ⟨rfl, rfl⟩) | (go_at_call 31; refine (digit_c _ _).mono ?_; rintro e w' ⟨rfl, rfl⟩))
            go_ret
            refine ⟨ret_bool ?_, rfl⟩
            exact (nameB_good s h0 h12 hf (fun j hj => HK.out j hj (by omega))).symm
    · have hv := nameB_len s (by omega)
      rw [hv]; clear hv
      go_enter Try.func15, Try.ntmps15
      go_wp2_with (first | (go_at_call 30; refine (small_c _ _).mono ?_; rintro e w' ⟨rfl, rfl⟩) | (go_at_call 31; refine (digit_c _ _).mono ?_; rintro e w' ⟨rfl, rfl⟩))
      go_ret
      exact ⟨rfl, rfl⟩

set_option maxHeartbeats 2000000 in
theorem name_i (s : ByteArray) (hs : s.size ≤ maxLen) (w : World) : Calls Try.prog 16 #[.string s] w fun e w' => e = .returned (.bool (nameB s)) ∧ w = w' := by
  unfold maxLen at hs
  by_cases hl : 1 ≤ s.size ∧ s.size ≤ 12
  · obtain ⟨h0, h12⟩ := hl
    go_enter Try.func16, Try.ntmps16
    go_wp2
    go_loop [3, 4, 5] (fun i _ _ => ∃ k : Nat, k ≤ s.size ∧ i = .int .i64 k ∧ Hid (k = 0 ∨ inR (s[0]).toNat 97 122 = true) ∧ Hid (∀ j, (hj : j < s.size) → j < k → okB s[j] = true)) (fun i _ _ => s.size - (intOf i).toNat)
    case atStart => exact ⟨0, Nat.zero_le _, rfl, .inl rfl, fun j _ h => absurd h (by omega)⟩
    case round =>
      obtain ⟨k, hk, rfl, HF, HK⟩ := hrel
      by_cases hlt : k < s.size
      · have hok1 : (97 : Int) ≤ (s[k]).toNat ∧ ((s[k]).toNat : Int) ≤ 122 → Hid (okB s[k] = true) := fun h => by show _ = _; simp [okB, inR, h.1, h.2]
        have hok2 : (48 : Int) ≤ (s[k]).toNat ∧ ((s[k]).toNat : Int) ≤ 57 → Hid (okB s[k] = true) := fun h => by show _ = _; simp [okB, inR, h.1, h.2]
        have hok3 : ((s[k]).toNat : Int) = 45 → Hid (okB s[k] = true) := fun h => by show _ = _; simp [okB, inR, h]
        have hno : ¬ ((97 : Int) ≤ (s[k]).toNat ∧ ((s[k]).toNat : Int) ≤ 122) → ¬ ((48 : Int) ≤ (s[k]).toNat ∧ ((s[k]).toNat : Int) ≤ 57) → ¬ ((s[k]).toNat : Int) = 45 → Hid (nameB s = false) := fun a b c => by
          have : okB s[k] = false := by
            simp only [okB, inR, Bool.or_eq_false_iff, beq_eq_false_iff_ne, ← Bool.decide_and, decide_eq_false_iff_not]; exact ⟨⟨a, b⟩, c⟩
          exact nameB_bad s k hlt this
        have hfirst : k = 0 → ¬ ((97 : Int) ≤ (s[k]).toNat ∧ ((s[k]).toNat : Int) ≤ 122) → Hid (nameB s = false) := fun e h => by
          subst e
          refine nameB_first s h0 ?_
          simp only [inR, ← Bool.decide_and, decide_eq_false_iff_not]; exact h
        have hstep : Hid (okB s[k] = true) → Hid (∀ j, (hj : j < s.size) → j < k + 1 → okB s[j] = true) := fun h j hj hjk => by
          rcases Nat.lt_or_ge j k with hh | hh
          · exact HK.out j hj hh
          · obtain rfl : j = k := by omega
            exact h.out
        have hfst : (97 : Int) ≤ (s[k]).toNat ∧ ((s[k]).toNat : Int) ≤ 122 → Hid (k + 1 = 0 ∨ inR (s[0]).toNat 97 122 = true) := fun h => by
          rcases HF.out with e | e
          · subst e; exact .inr (by simp [inR, h.1, h.2])
          · exact .inr e
        have hfst' : 0 < k → Hid (k + 1 = 0 ∨ inR (s[0]).toNat 97 122 = true) := fun h => by
          rcases HF.out with e | e
          · omega
          · exact .inr e
        have G1 := Lib.hid hok1
        have G2 := Lib.hid hok2
        have G3 := Lib.hid hok3
        have G4 := Lib.hid hno
        have G5 := Lib.hid hfirst
        have G6 := Lib.hid hstep
        have G7 := Lib.hid hfst
        have G8 := Lib.hid hfst'
        clear hok1 hok2 hok3 hno hfirst hstep hfst hfst'
        by_cases c1 : (97 : Int) ≤ (s[k]).toNat ∧ ((s[k]).toNat : Int) ≤ 122
        · have G9 := G7.out c1
          have G10 := G6.out (G1.out c1)
          clear G1 G2 G3 G4 G5 G6 G7 G8
          obtain ⟨c1a, c1b⟩ := c1
          by_cases c2 : (48 : Int) ≤ (s[k]).toNat ∧ ((s[k]).toNat : Int) ≤ 57
          · omega
          · have hb : (((s[k]).toNat : Int) == 45) = false := by rw [beq_eq_false_iff_ne]; omega
            go_wp2
            go_round
            case rel => exact ⟨k + 1, by omega, by go_num, G9, G10⟩
            case measure => simp [intOf]; omega
        · by_cases ck : k = 0
          · have G9 := G5.out ck c1
            subst ck
            clear G1 G2 G3 G4 G5 G6 G7 G8
            by_cases c2 : (48 : Int) ≤ (s[0]).toNat
            · by_cases c3 : ((s[0]).toNat : Int) ≤ 57
              · have c4 : ¬ (97 : Int) ≤ (s[0]).toNat := by omega
                clear c1
                go_wp2
                all_goals
                  go_ret
                  exact ⟨ret_bool G9.out.symm, rfl⟩
              · have hb : (((s[0]).toNat : Int) == 45) = false := by rw [beq_eq_false_iff_ne]; omega
                by_cases c4 : (97 : Int) ≤ (s[0]).toNat
                · have c5 : ¬ ((s[0]).toNat : Int) ≤ 122 := by omega
                  clear c1
                  go_wp2
                  all_goals
                    go_ret
                    exact ⟨ret_bool G9.out.symm, rfl⟩
                · clear c1
                  go_wp2
                  all_goals
                    go_ret
                    exact ⟨ret_bool G9.out.symm, rfl⟩
            · have c4 : ¬ (97 : Int) ≤ (s[0]).toNat := by omega
              clear c1
              go_wp2
              all_goals
                go_ret
                exact ⟨ret_bool G9.out.symm, rfl⟩
          · have G9 := G8.out (by omega)
            have hk0 : ((k : Int) == 0) = false := by rw [beq_eq_false_iff_ne]; omega
            clear ck G1 G5 G7 G8
            by_cases c2 : (48 : Int) ≤ (s[k]).toNat ∧ ((s[k]).toNat : Int) ≤ 57
            · have G10 := G6.out (G2.out c2)
              clear G2 G3 G4 G6
              obtain ⟨c2a, c2b⟩ := c2
              have hb : (((s[k]).toNat : Int) == 45) = false := by rw [beq_eq_false_iff_ne]; omega
              have c4 : ¬ (97 : Int) ≤ (s[k]).toNat := by omega
              clear c1
              go_wp2
              go_round
              case rel => exact ⟨k + 1, by omega, by go_num, G9, G10⟩
              case measure => simp [intOf]; omega
            · by_cases c3 : ((s[k]).toNat : Int) = 45
              · have G10 := G6.out (G3.out c3)
                clear G2 G3 G4 G6
                have hb : (((s[k]).toNat : Int) == 45) = true := by rw [beq_iff_eq]; exact c3
                have c4 : ¬ (48 : Int) ≤ (s[k]).toNat := by omega
                have c5 : ¬ (97 : Int) ≤ (s[k]).toNat := by omega
                clear c1 c2 c3
                go_wp2
                go_round
                case rel => exact ⟨k + 1, by omega, by go_num, G9, G10⟩
                case measure => simp [intOf]; omega
              · have G10 := G4.out c1 c2 c3
                clear G2 G3 G4 G6
                have hb : (((s[k]).toNat : Int) == 45) = false := by rw [beq_eq_false_iff_ne]; exact c3
                have c6 : (¬ (48 : Int) ≤ (s[k]).toNat ∧ ¬ (97 : Int) ≤ (s[k]).toNat) ∨ ((48 : Int) ≤ (s[k]).toNat ∧ ¬ ((s[k]).toNat : Int) ≤ 57 ∧ ¬ (97 : Int) ≤ (s[k]).toNat) ∨ ((48 : Int) ≤ (s[k]).toNat ∧ ¬ ((s[k]).toNat : Int) ≤ 57 ∧ (97 : Int) ≤ (s[k]).toNat ∧ ¬ ((s[k]).toNat : Int) ≤ 122) := by omega
                clear c1 c2 c3
                rcases c6 with ⟨d1, d2⟩ | ⟨d1, d2, d3⟩ | ⟨d1, d2, d3, d4⟩
                all_goals
                  go_wp2
                  go_ret
                  exact ⟨ret_bool G10.out.symm, rfl⟩
      · go_wp2
        go_ret
        refine ⟨ret_bool ?_, rfl⟩
        rcases HF.out with e | e
        · omega
        · exact (nameB_good s h0 h12 e (fun j hj => HK.out j hj (by omega))).symm
  · have hv := nameB_len s hl
    rw [hv]; clear hv
    by_cases h1 : s.size < 1
    · clear hl
      go_enter Try.func16, Try.ntmps16
      go_wp2
      go_ret
      exact ⟨rfl, rfl⟩
    · have h2 : 12 < s.size := by omega
      clear hl
      go_enter Try.func16, Try.ntmps16
      go_wp2
      go_ret
      exact ⟨rfl, rfl⟩

theorem walk (s : ByteArray) (hs : s.size ≤ maxLen) (w : World) :
    Calls Try.prog 7 #[.string s] w fun e w' => e = .returned (.bool true) ∧ Below w.heap.size w w' := by
  have hs' := hs
  unfold maxLen at hs'
  by_cases hbig : 1048576 < s.size
  · go_enter Try.func7, Try.ntmps7
    go_wp2
    go_ret
    exact ⟨rfl, Below.refl _ _⟩
  · go_enter Try.func7, Try.ntmps7
    go_wp2_with (first | (go_at_call 15; refine (name_s _ hs _).mono ?_; rintro e w1 ⟨rfl, rfl⟩) | (go_at_call 16; refine (name_i _ hs _).mono ?_; rintro e w2 ⟨rfl, rfl⟩))
    all_goals
      go_ret
      exact ⟨rfl, Below.refl _ _⟩

theorem own : ownKnob Try.prog.godebug = none := by kernel_rfl
theorem laidOut : laidOutB Try.prog = true := by kernel_rfl

set_option maxRecDepth 100000 in
theorem lifted (os : Os) (started : os.Started) (H : Type) (enc : TypeId × Value → H) :
    ReturnsInHanded {} Try.checked os 7 .any (Rows.fnExactIsNameSpec.pre6 enc Try.prog Try.f7 Rows.fnExactIsNameRow.domain false) (Rows.fnExactIsNameSpec.post enc Try.prog Try.f7 false true false false) := by
  refine returnsInHanded_of_change (C := Try.checked) own started (by kernel_rfl) Try.func7
    (ChangeSpec.witness6 (enc := enc) (C := Try.checked) false ⟨#[], #[.string ByteArray.empty], []⟩ 8 (by kernel_rfl) (by kernel_rfl) (by kernel_rfl) (by kernel_rfl)) ?_
  intro W base args ds gs before hval0 hW _ _
  have hval : ∀ (j : Nat) t v, Try.f7.params[j]? = some t → args[j]? = some v → Value.okWide Try.prog W .any base t v := hval0
  have hW' := hW
  obtain ⟨p, q, hA0, hV, rfl, hfz, hnd⟩ := hW
  have hA : DataW.TrodAll enc Try.prog W 0 (fun _ => true) true Try.f7.params.toList args.toList ds p := hA0
  rw [Try.params7] at hA hval
  obtain ⟨v0, vs0, d0, ds0, p0, q0, hargs, rfl, rfl, h0, r0⟩ := trodAll_cons hA
  obtain ⟨rfl, rfl, rfl⟩ := trodAll_nil r0
  obtain rfl : args = #[v0] := by cases args; simp_all
  obtain ⟨rfl, rfl⟩ := trodVars_none hV
  have k0 := h0
  have lt0 : ∀ x ∈ p0, x.block < W.heap.size := by obtain ⟨m, hm⟩ := k0; exact DataW.trod_lt m _ _ _ hm
  obtain ⟨a0, rfl, rfl, rfl, w0⟩ := open_string Try.underlying9 (hval 0 9 v0 rfl rfl) h0
  clear hA0 hval0
  refine (walk a0 w0 W).mono fun e W' ⟨he, bel⟩ => ?_
  subst he
  exact ⟨_, rfl, _, _, _, [], _, [], hW', trodAll_mk1 (shut_bool Try.underlying4 _), (trodAll_cons_mk (Below.trod laidOut (by kernel_rfl) (of_decide_eq_true (by kernel_rfl)) k0 bel lt0) trodAll_mk0), rfl, bel.frame _, fun h => by cases h⟩

theorem over : Rows.fnExactIsNameRow.holds Try.pinned (OpenSpec.ofChange Rows.fnExactIsNameSpec) :=
  OpenClaim.holds_of_wide 7 Try.f7 rfl rfl rfl rfl rfl rfl rfl ⟨rfl, rfl, rfl, rfl, rfl⟩ rfl rfl rfl rfl rfl (by kernel_rfl) Try.func7 (by kernel_rfl)
    (of_decide_eq_true (by kernel_rfl)) (by unfold Func.isWrapper; first | (rw [if_pos (by decide +kernel)]; kernel_rfl) | (rw [if_neg (by decide +kernel)]; exact ⟨rfl, rfl⟩))
    (fun os started H enc _ => lifted os started H enc)

/-- The statement. -/
theorem proved : Rows.FnExactIsNameSaid := over
#print axioms proved

end Go.Proofs.Ytfoajecjgcdfhaa.fnExactIsName
