/-
  Strokes: which texts are strokes, the code of a stroke and stakes, after how many rounds a weave begins again.
  No conditions.
-/
import Derived.Test.YtmooijlocjgoeaaDoorBytes
import Derived.Test.YtmooijlocjgoeaaDoorFrac
import Derived.Test.YtmooijlocjgoeaaDoorShelf
import Derived.Shelf.Strings.SlTrimAscii
import Derived.Lib.IndexAny
namespace Go.Proofs.YtmooijlocjgoeaaDoor
open Go.ChangeShapes Go.WideShapes Go.ChangeAt Go.RowKit Go.Deep

/-- A byte of a stroke. -/
def okFB (c : UInt8) : Bool := c == 70 || c == 66
/-- A stroke. -/
def vstB (s : ByteArray) : Bool := inR s.size 1 12 && s.data.toList.all okFB
theorem okFB_of (c : UInt8) : okFB c = (decide ((c.toNat : Int) = 70) || decide ((c.toNat : Int) = 66)) := by
  have e : ∀ (a b : UInt8), (a == b) = decide ((a.toNat : Int) = (b.toNat : Int)) := fun a b => by
    rw [Bool.eq_iff_iff, beq_iff_eq, decide_eq_true_iff, ← UInt8.toNat_inj]; omega
  unfold okFB
  rw [e, e]; rfl
theorem all_good (s : ByteArray) (h : ∀ j, j < s.size → okFB (bt s j) = true) : s.data.toList.all okFB = true := by
  rw [List.all_eq_true]
  intro x hx
  obtain ⟨j, hj, he⟩ := List.mem_iff_getElem.1 hx
  have hj' : j < s.size := by simpa using hj
  have := h j hj'
  unfold bt at this
  rw [List.getD, List.getElem?_eq_getElem hj] at this
  rw [← he]; exact this
theorem all_bad (s : ByteArray) (j : Nat) (hj : j < s.size) (h : okFB (bt s j) = false) : s.data.toList.all okFB = false := by
  rw [Bool.eq_false_iff]; intro hh; rw [List.all_eq_true] at hh
  have := hh _ (bt_mem s j hj); rw [h] at this; cases this

theorem toList_len (s : ByteArray) : s.toList.length = s.size := by
  rw [Go.ByteArray.toList_eq]; simp
theorem empty_of (s : ByteArray) (h : s.size = 0) : s.toList.isEmpty = true := by
  rw [List.isEmpty_iff]; exact List.eq_nil_of_length_eq_zero (by rw [toList_len, h])
theorem nonempty_of (s : ByteArray) (h : 0 < s.size) : s.toList.isEmpty = false := by
  rcases hl : s.toList with _ | ⟨a, l⟩
  · have := toList_len s; rw [hl] at this; simp at this; omega
  · rfl

set_option maxHeartbeats 1000000 in
theorem l06Ok_c (s : ByteArray) (hs : s.size ≤ maxLen) (w : World) : Calls Tryd.prog 30 #[.string s] w fun e w' => e = .returned (.bool (vstB s)) ∧ w = w' := by
  unfold maxLen at hs
  go_enter Tryd.func30, Tryd.ntmps30
  go_wp2_with fail
  go_loop [3] (fun i => ∃ k : Nat, k ≤ s.size ∧ i = .int .i64 k ∧ Hid (∀ j, j < k → okFB (bt s j) = true)) (fun i => s.size - (intOf i).toNat)
  case atStart => exact ⟨0, Nat.zero_le _, rfl, fun j h => absurd h (by omega)⟩
  case round =>
    obtain ⟨k, hk, rfl, HK⟩ := hrel
    by_cases hlt : k < s.size
    · have hb := bt_at s k hlt
      have HB := Lib.hid hb
      clear hb
      have hstep : okFB s[k] = true → Hid (∀ j, j < k + 1 → okFB (bt s j) = true) := fun h j hj => by
        rcases Nat.lt_or_ge j k with hh | hh
        · exact HK.out j hh
        · obtain rfl : j = k := by omega
          rw [← HB.out]; exact h
      have HS := Lib.hid hstep
      clear hstep
      by_cases c1 : ((s[k]).toNat : Int) = 70
      · have G := HS.out (by rw [okFB_of, decide_eq_true c1]; rfl)
        have b1 : (((s[k]).toNat : Int) == 70) = true := by rw [beq_iff_eq]; exact c1
        have b2 : (((s[k]).toNat : Int) != 70) = false := by rw [bne_eq_false_iff_eq]; exact c1
        clear c1
        go_wp2_with fail
        go_round
        case rel => exact ⟨k + 1, by omega, by go_num, G⟩
        case measure => simp [intOf]; omega
      · have b1 : (((s[k]).toNat : Int) == 70) = false := by rw [beq_eq_false_iff_ne]; exact c1
        have b2 : (((s[k]).toNat : Int) != 70) = true := by rw [bne_iff_ne]; exact c1
        by_cases c2 : ((s[k]).toNat : Int) = 66
        · have G := HS.out (by rw [okFB_of, decide_eq_true c2]; simp)
          have b3 : (((s[k]).toNat : Int) == 66) = true := by rw [beq_iff_eq]; exact c2
          have b4 : (((s[k]).toNat : Int) != 66) = false := by rw [bne_eq_false_iff_eq]; exact c2
          clear c1 c2
          go_wp2_with fail
          go_round
          case rel => exact ⟨k + 1, by omega, by go_num, G⟩
          case measure => simp [intOf]; omega
        · have b3 : (((s[k]).toNat : Int) == 66) = false := by rw [beq_eq_false_iff_ne]; exact c2
          have b4 : (((s[k]).toNat : Int) != 66) = true := by rw [bne_iff_ne]; exact c2
          have HV : Hid (vstB s = false) := by
            have : okFB (bt s k) = false := by rw [← HB.out, okFB_of, decide_eq_false c1, decide_eq_false c2]; rfl
            show _ = _
            rw [vstB, all_bad s k hlt this, Bool.and_false]
          clear c1 c2
          go_wp2_with fail
          go_ret
          exact ⟨ret_bool HV.out.symm, rfl⟩
    · have HV : Hid (vstB s = inR s.size 1 12) := by
        show _ = _
        rw [vstB, all_good s (fun j hj => HK.out j (by omega)), Bool.and_true]
      go_wp2_with (first | (go_at_call 33; refine (l00In_c _ _ _ _).mono ?_; rintro e w' ⟨rfl, rfl⟩))
      go_ret
      exact ⟨ret_bool HV.out.symm, rfl⟩
theorem valid_s (s : ByteArray) (hs : s.size ≤ maxLen) (w : World) : Calls Tryd.prog 11 #[.string s] w fun e w' => e = .returned (.bool (vstB s)) ∧ w = w' := by
  go_enter Tryd.func11, Tryd.ntmps11
  go_wp2_with fail
  refine (l06Ok_c _ hs _).mono ?_
  rintro e w1 ⟨rfl, rfl⟩
  go_wp2
  go_ret
  exact ⟨rfl, rfl⟩
theorem trim_nil {l cs : List UInt8} : Lib.trimS l cs = [] ↔ ∀ c ∈ l, cs.contains c = true := by
  have e : ∀ {p : UInt8 → Bool} {m : List UInt8}, m.dropWhile p = [] ↔ ∀ x ∈ m, p x = true := fun {p m} => by
    induction m with
    | nil => simp
    | cons a m ih =>
      rw [List.dropWhile_cons]
      by_cases ha : p a = true
      · rw [if_pos ha, ih]; simp [ha]
      · rw [if_neg ha]; simp [ha]
  unfold Lib.trimS Lib.trimLeftS Lib.trimRightS
  rw [e]
  constructor
  · intro h c hc
    have hs := List.takeWhile_append_dropWhile (p := fun x => cs.contains x) (l := l.reverse)
    have hm : c ∈ l.reverse := List.mem_reverse.2 hc
    rw [← hs] at hm
    rcases List.mem_append.1 hm with h1 | h1
    · exact List.all_eq_true.1 List.all_takeWhile _ h1
    · exact h c (List.mem_reverse.2 h1)
  · intro h c hc
    exact h c (List.mem_reverse.1 ((List.dropWhile_suffix _).subset (List.mem_reverse.1 hc)))
/-- What strings.Trim leaves is empty just where all bytes are of a stroke. -/
theorem trim_c (s : ByteArray) (hs : s.size ≤ 9223372036854775807) (b : Bool) (hb : s.data.toList.all okFB = b) (w : World) :
    Calls Tryd.prog 31 #[.string s, .string ⟨#[70, 66]⟩] w fun e w' => ∃ t : ByteArray, e = .returned (.string t) ∧ t.toList.isEmpty = b ∧ Below w.heap.size w w' := by
  refine (Any.strings_Trim_laid Tryd.lays160 (by kernel_rfl) s ⟨#[70, 66]⟩ w hs (by decide) (ascii_of_all (by decide))).mono fun e w' ⟨h1, h2⟩ => ⟨_, h1, ?_, h2⟩
  rw [← hb, Go.ByteArray.toList_eq]
  show (Lib.trimS s.data.toList [70, 66]).isEmpty = _
  rw [Bool.eq_iff_iff, List.isEmpty_iff, trim_nil, List.all_eq_true]
  have e : ∀ c : UInt8, [(70 : UInt8), 66].contains c = okFB c := fun c => by
    unfold okFB
    rw [List.contains_cons, List.contains_cons]
    simp
  exact ⟨fun h c hc => by rw [← e]; exact h c hc, fun h c hc => by rw [e]; exact h c hc⟩
theorem vstB_long (s : ByteArray) (h : ¬ (1 ≤ s.size ∧ s.size ≤ 12)) : vstB s = false := by
  have : inR s.size 1 12 = false := by
    unfold inR
    rw [← Bool.decide_and, decide_eq_false_iff_not]; omega
  rw [vstB, this, Bool.false_and]
theorem vstB_short (s : ByteArray) (h1 : 1 ≤ s.size) (h2 : s.size ≤ 12) : vstB s = s.data.toList.all okFB := by
  have : inR s.size 1 12 = true := by
    unfold inR
    rw [← Bool.decide_and, decide_eq_true_iff]; omega
  rw [vstB, this, Bool.true_and]
theorem vstB_true {s : ByteArray} (h : vstB s = true) : 1 ≤ s.size ∧ s.size ≤ 12 ∧ ∀ c ∈ s.data.toList, okFB c = true := by
  unfold vstB at h
  rw [Bool.and_eq_true] at h
  have := inR_true h.1
  exact ⟨by omega, by omega, List.all_eq_true.1 h.2⟩
set_option maxHeartbeats 1000000 in
theorem valid_i (s : ByteArray) (hs : s.size ≤ maxLen) (w : World) : Calls Tryd.prog 12 #[.string s] w fun e w' => e = .returned (.bool (vstB s)) ∧ Below w.heap.size w w' := by
  unfold maxLen at hs
  by_cases h1 : 1 ≤ s.size
  · by_cases h2 : s.size ≤ 12
    · have hc := trim_c s (by omega) _ rfl w
      have hv := vstB_short s h1 h2
      have HV := Lib.hid hv
      clear hv
      rcases hb : s.data.toList.all okFB with _ | _
      all_goals
        rw [hb] at hc
        have HB := Lib.hid (HV.out.trans hb)
        clear hb
        go_enter Tryd.func12, Tryd.ntmps12
        go_wp2_with fail
        refine hc.mono ?_
        rintro e w1 ⟨t, rfl, ht, hb1⟩
        clear hc
        go_wp2
        go_ret
        exact ⟨ret_bool HB.out.symm, hb1⟩
    · have HV := Lib.hid (vstB_long s (by omega))
      go_enter Tryd.func12, Tryd.ntmps12
      go_wp2
      go_ret
      exact ⟨ret_bool HV.out.symm, Below.refl _ _⟩
  · have HV := Lib.hid (vstB_long s (by omega))
    go_enter Tryd.func12, Tryd.ntmps12
    go_wp2
    go_ret
    exact ⟨ret_bool HV.out.symm, Below.refl _ _⟩
/-- The code of a stroke and stakes. -/
def codeV (s : ByteArray) (n : Int) : Int := if vstB s then (if inR n 3 60 then 0 else 2) else 1
theorem l06Code_c (s : ByteArray) (n : Int) (hs : s.size ≤ maxLen) (w : World) : Calls Tryd.prog 32 #[.string s, .int .i64 n] w fun e w' => e = .returned (.int .i64 (codeV s n)) ∧ w = w' := by
  rcases hv : vstB s with _ | _
  · have HV : Hid (codeV s n = 1) := by show _ = _; simp [codeV, hv]
    go_enter Tryd.func32, Tryd.ntmps32
    go_wp2_with fail
    refine (l06Ok_c _ hs _).mono ?_
    rintro e w1 ⟨rfl, rfl⟩
    rw [hv]
    clear hv
    go_wp2
    go_ret
    exact ⟨ret_int HV.out.symm, rfl⟩
  · rcases hn : inR n 3 60 with _ | _
    all_goals
      have hx : codeV s n = if inR n 3 60 then 0 else 2 := by simp [codeV, hv]
      rw [hn] at hx
      have HV := Lib.hid hx
      clear hx
      go_enter Tryd.func32, Tryd.ntmps32
      go_wp2_with fail
      refine (l06Ok_c _ hs _).mono ?_
      rintro e w1 ⟨rfl, rfl⟩
      rw [hv]
      clear hv
      go_wp2_with (first | (go_at_call 59; refine (l06Stakes_c _ _).mono ?_; rintro e w' ⟨rfl, rfl⟩))
      go_ret
      exact ⟨ret_int HV.out.symm, rfl⟩
theorem strokeCode_c (s : ByteArray) (n : Int) (hs : s.size ≤ maxLen) (w : World) : Calls Tryd.prog 39 #[.string s, .int .i64 n] w fun e w' => e = .returned (.int .i64 (codeV s n)) ∧ Below w.heap.size w w' := by
  rcases hv : vstB s with _ | _
  · have HV : Hid (codeV s n = 1) := by show _ = _; simp [codeV, hv]
    go_enter Tryd.func39, Tryd.ntmps39
    go_wp2_with fail
    refine (valid_i _ hs _).mono ?_
    rintro e w1 ⟨rfl, b1⟩
    rw [hv]
    clear hv
    go_wp2
    go_ret
    exact ⟨ret_int HV.out.symm, b1⟩
  · rcases hn : inR n 3 60 with _ | _
    all_goals
      have hx : codeV s n = if inR n 3 60 then 0 else 2 := by simp [codeV, hv]
      rw [hn] at hx
      have HV := Lib.hid hx
      clear hx
      go_enter Tryd.func39, Tryd.ntmps39
      go_wp2_with fail
      refine (valid_i _ hs _).mono ?_
      rintro e w1 ⟨rfl, b1⟩
      rw [hv]
      clear hv
      go_wp2_with (first | (go_at_call 35; refine (areStakes_c _ _).mono ?_; rintro e w' ⟨rfl, rfl⟩))
      go_ret
      exact ⟨ret_int HV.out.symm, b1⟩
/-- After how many rounds a weave begins again. -/
def agN (m n : Nat) : Nat := m / Nat.gcd m n
theorem agN_bd (m n : Nat) (h1 : 1 ≤ m) : 1 ≤ agN m n ∧ agN m n ≤ m := by
  have hg : 0 < Nat.gcd m n := Nat.gcd_pos_of_pos_left _ (by omega)
  have hd := Nat.gcd_dvd_left m n
  refine ⟨?_, Nat.div_le_self _ _⟩
  exact Nat.div_pos (Nat.le_of_dvd (by omega) hd) hg
theorem l06Again_c (s : ByteArray) (n : Nat) (w : World) (h1 : 1 ≤ s.size) (h2 : s.size ≤ 12) (hn : n ≤ 100) :
    Calls Tryd.prog 38 #[.string s, .int .i64 n] w fun e w' => e = .returned (.int .i64 (agN s.size n : Nat)) ∧ w = w' := by
  have hg : 0 < Nat.gcd s.size n := Nat.gcd_pos_of_pos_left _ (by omega)
  have hg2 : (1 : Int) ≤ (Nat.gcd s.size n : Nat) := by omega
  have hg3 : ((Nat.gcd s.size n : Nat) : Int) ≤ 12 := by have := Nat.gcd_le_left n (by omega : 0 < s.size); omega
  have hq : ((s.size : Int) / (Nat.gcd s.size n : Nat)) = (agN s.size n : Nat) := by unfold agN; simp
  have hb := agN_bd s.size n h1
  have hq1 : 0 ≤ (s.size : Int) / (Nat.gcd s.size n : Nat) := by omega
  have hq2 : (s.size : Int) / (Nat.gcd s.size n : Nat) ≤ 12 := by omega
  clear hq hb
  go_enter Tryd.func38, Tryd.ntmps38
  go_wp2_with fail
  refine (gcd_s _ _ _ (by omega) (by omega)).mono ?_
  rintro e w1 ⟨rfl, rfl⟩
  go_wp2
  go_ret
  exact ⟨ret_int (by unfold agN; simp), rfl⟩
theorem beginsAgain_c (s : ByteArray) (n : Nat) (w : World) (h1 : 1 ≤ s.size) (h2 : s.size ≤ 12) (hn : n ≤ 100) :
    Calls Tryd.prog 40 #[.string s, .int .i64 n] w fun e w' => e = .returned (.int .i64 (agN s.size n : Nat)) ∧ Below w.heap.size w w' := by
  have hg : 0 < Nat.gcd s.size n := Nat.gcd_pos_of_pos_left _ (by omega)
  have hg2 : (1 : Int) ≤ (Nat.gcd s.size n : Nat) := by omega
  have hg3 : ((Nat.gcd s.size n : Nat) : Int) ≤ 12 := by have := Nat.gcd_le_left n (by omega : 0 < s.size); omega
  have hq : ((s.size : Int) / (Nat.gcd s.size n : Nat)) = (agN s.size n : Nat) := by unfold agN; simp
  have hb := agN_bd s.size n h1
  have hq1 : 0 ≤ (s.size : Int) / (Nat.gcd s.size n : Nat) := by omega
  have hq2 : (s.size : Int) / (Nat.gcd s.size n : Nat) ≤ 12 := by omega
  clear hq hb
  go_enter Tryd.func40, Tryd.ntmps40
  go_wp2_with fail
  refine (gcd_i _ _ _ (by omega) (by omega)).mono ?_
  rintro e w1 ⟨rfl, b1⟩
  go_wp2
  go_ret
  exact ⟨ret_int (by unfold agN; simp), b1⟩
end Go.Proofs.YtmooijlocjgoeaaDoor
