/-
  slices.SortStableFunc at up to 30 whole numbers, and impl.sortedIndices with a closure that compares keys.
  No conditions.
-/
import Derived.Test.YtgcpobondcnjcaaGreatDoorMergeAp
import Derived.Test.YtgcpobondcnjcaaGreatDoorMergeAn
import Derived.Test.YtgcpobondcnjcaaGreatDoorSortW
import Derived.Test.YtgcpobondcnjcaaGreatDoorStabP
namespace Go.Proofs.YtgcpobondcnjcaaGreatDoor
open Go.ChangeShapes Go.WideShapes Go.ChangeAt Go.RowKit Go.Deep Go.Shelf Go.Lib Go.Sort
set_option linter.unusedVariables false

section
variable {enc : Int → Value} {w0 : World} {blk : Nat} {d0 : Array Int}

theorem merge_c {f : Int → Int} {g D : Nat} {cb : Array Value} (M : MW Tryz.prog enc w0 blk d0 g cb f D) (cap : Nat) : ∀ (fuel : Nat) (d : Array Int) (a m b : Nat) (W : World), b - a ≤ fuel → SW enc w0 blk 0 d W → d.size = D → a < m → m < b → b ≤ D → MPre f d a m b →
      Calls Tryz.prog 92 #[.slice (some ⟨blk, 0, none⟩) D cap, .int .i64 (a : Int), .int .i64 (m : Int), .int .i64 (b : Int), .func (.func g) #[] cb] W fun e w' => e = .returned (.tuple #[]) ∧ ∃ d' : Array Int, d'.size = D ∧ MPost f d d' a b ∧ SW enc w0 blk 0 d' w'
  | 0, d, a, m, b, W, hfu, S, hD, ham, hmb, hb, hpre => absurd hfu (by omega)
  | fuel + 1, d, a, m, b, W, hfu, S, hD, ham, hmb, hb, hpre => by
    by_cases h1 : m = a + 1
    · subst h1
      have := mergeOne_c M d cap a b W S hD hmb hb hpre
      have e : ((a : Int) + 1) = ((a + 1 : Nat) : Int) := by omega
      rw [e] at this
      exact this
    · by_cases h2 : b = m + 1
      · subst h2
        have := mergeLast_c M d cap a m W S hD (by omega) hb hpre
        have e : ((m : Int) + 1) = ((m + 1 : Nat) : Int) := by omega
        rw [e] at this
        exact this
      · by_cases h3 : (a + b) / 2 < m
        · exact mergeGenP_c M cap fuel (merge_c M cap fuel) d a m b W hfu S hD ham hmb hb hpre (by omega) (by omega) h3
        · exact mergeGenN_c M cap fuel (merge_c M cap fuel) d a m b W hfu S hD ham hmb hb hpre (by omega) (by omega) h3
end
end Go.Proofs.YtgcpobondcnjcaaGreatDoor
namespace Go.Proofs.YtgcpobondcnjcaaGreatDoor
open Go.ChangeShapes Go.WideShapes Go.ChangeAt Go.RowKit Go.Deep Go.Shelf Go.Sort
set_option linter.unusedVariables false

set_option maxRecDepth 100000 in
set_option maxHeartbeats 4000000 in
theorem stable30_c (g : Nat) (cb : Array Value) (blk cap n N : Nat) (key : Int → Int) (w : World) (eg : ∀ args w, (callFunc g args).run Tryz.prog w = .ok (.enter g args) w)
    (hc : CmpLays1 Tryz.prog g cb (encN N) (fun a b => key b - key a) blk 0 n w) (R : Row1 (encN N) w blk 0 (upTo n).toArray) (h0 : 20 < n) (hn : n ≤ 30) :
    Calls Tryz.prog 76 #[.slice (some ⟨blk, 0, none⟩) n cap, .int .i64 n, .func (.func g) #[] cb] w fun e w' => e = .returned (.tuple #[]) ∧ SW (encN N) w blk 0 (stTo key n).toArray w' := by
  have hsz : (upTo n).toArray.size = n := by simp [upTo_len]
  have P1 := ins_sorted (f := key) (a := 0) (b := 20) (upTo n).toArray (by omega) (by omega) (fun s t q1 q2 q3 => by rw [upTo_at (by omega), upTo_at (by omega)]; omega)
  have I := Any.insertionSortCmpFunc_s insLays (encN N) (fun a b => key b - key a) g cb blk 0 cap 0 20 (upTo n).toArray (upTo n).toArray w w eg (by rw [hsz]; exact hc) R rfl (SW.start R.hH) (by omega) (by omega) (by omega)
  obtain ⟨d1, hd1⟩ : ∃ d1, d1 = Sort.insertionSort (ltF key) (upTo n).toArray 0 20 := ⟨_, rfl⟩
  change Calls _ _ _ _ (fun e w' => e = .returned (.tuple #[]) ∧ SW (encN N) w blk 0 (Sort.insertionSort (ltF key) (upTo n).toArray 0 20) w') at I
  rw [← hd1] at P1 I
  rw [hsz] at I P1
  have P2 := ins_sorted (f := key) (a := 20) (b := n) d1 h0 (by omega) (fun s t q1 q2 q3 => by rw [P1.1.out s (.inr q1), P1.1.out t (.inr (by omega)), upTo_at (by omega), upTo_at (by omega)]; omega)
  have I2 := fun W (S : SW (encN N) w blk 0 d1 W) => Any.insertionSortCmpFunc_s insLays (encN N) (fun a b => key b - key a) g cb blk 0 cap 20 n (upTo n).toArray d1 w W eg (by rw [hsz]; exact hc) R (by omega) S (by omega) (by omega) (by omega)
  obtain ⟨d2, hd2⟩ : ∃ d2, d2 = Sort.insertionSort (ltF key) d1 20 n := ⟨_, rfl⟩
  change ∀ W, SW (encN N) w blk 0 d1 W → Calls _ _ _ _ (fun e w' => e = .returned (.tuple #[]) ∧ SW (encN N) w blk 0 (Sort.insertionSort (ltF key) d1 20 n) w') at I2
  rw [← hd2] at P2
  simp only [← hd2] at I2
  rw [P1.2] at I2 P2
  have I3 := fun W (S : SW (encN N) w blk 0 d2 W) => merge_c (f := key) ⟨R, hsz.symm, by omega, hc, eg⟩ cap n d2 0 20 n W (by omega) S P2.2 (by omega) h0 (Nat.le_refl _) (stab_mid h0 P1.1 P2.1)
  have HI := Lib.hid I
  have HI2 := Lib.hid I2
  have HI3 := Lib.hid I3
  have HP1 := Lib.hid P1
  have HP2 := Lib.hid P2
  clear I I2 I3 P1 P2 hsz hc hd1 hd2
  have hlt : (20 : Int) ≤ n := by omega
  have hlt2 : ¬ (40 : Int) ≤ n := by omega
  have hlt3 : (20 : Int) < n := by omega
  go_enter Tryz.func76, Tryz.ntmps76
  go_wp2_with fail
  go_loopw [7, 8] (fun v7 v8 wr => ∃ q : Nat, q ≤ 1 ∧ v7 = .int .i64 (20 * q : Nat) ∧ v8 = .int .i64 (20 * q + 20 : Nat) ∧ Aside (q = 0 → wr = w) ∧ Aside (q = 1 → SW (encN N) w blk 0 d1 wr)) (fun _ v8 _ => 40 - (intOf v8).toNat)
  case atStart => exact ⟨0, by omega, rfl, rfl, fun _ => rfl, fun h => absurd h (by omega)⟩
  case round =>
    obtain ⟨q, hq, rfl, rfl, h1, h2⟩ := hrel
    obtain rfl | rfl : q = 0 ∨ q = 1 := by omega
    · obtain rfl := h1.out rfl
      clear h1 h2
      go_wp2_with fail
      refine HI.out.mono ?_
      rintro e w2 ⟨rfl, S⟩
      have HS : Aside _ := S
      clear S
      go_wp2_with fail
      go_roundw
      case rel => exact ⟨1, by omega, by go_num, by go_num, fun h => absurd h (by omega), fun _ => HS.out⟩
      case measure => simp [intOf]
    · have HS : Aside _ := h2.out rfl
      clear h1 h2
      go_wp2_with fail
      refine (HI2.out _ HS.out).mono ?_
      rintro e w3 ⟨rfl, S⟩
      have HT : Aside _ := S
      clear S HS
      go_wp2_with fail
      go_loopw [6] (fun v wr => ∃ q : Nat, q ≤ 1 ∧ v = .int .i64 (20 * q + 20 : Nat) ∧ Aside (q = 0 → wr = w3) ∧ Aside (q = 1 → SW (encN N) w blk 0 (stTo key n).toArray wr)) (fun v _ => 40 - (intOf v).toNat)
      case atStart => exact ⟨0, by omega, rfl, fun _ => rfl, fun h => absurd h (by omega)⟩
      case round =>
        obtain ⟨q, hq, rfl, h1, h2⟩ := hrel
        obtain rfl | rfl : q = 0 ∨ q = 1 := by omega
        · have hw := (h1.out rfl).symm
          subst hw
          clear h1 h2
          go_wp2_with fail
          go_loopw [7, 8] (fun v7 v8 wr => v7 = .int .i64 0 ∧ v8 = .int .i64 40 ∧ wr = w3) (fun _ v8 _ => 0)
          case atStart => exact ⟨rfl, rfl, rfl⟩
          case round =>
            obtain ⟨rfl, rfl, hw⟩ := hrel
            have hw := hw.symm
            subst hw
            go_wp2_with fail
            refine (HI3.out _ HT.out).mono ?_
            rintro e w4 ⟨rfl, d3, hs3, hp3, S⟩
            have e3 := stab_all h0 HP1.out.1 HP2.out.1 hp3 hs3
            have HT4 : Aside (SW (encN N) w blk 0 (stTo key n).toArray w4) := by rw [← e3]; exact S
            clear S e3 hp3 hs3
            go_wp2_with fail
            go_roundw
            case rel => exact ⟨1, by omega, by go_num, fun h => absurd h (by omega), fun _ => HT4.out⟩
            case measure => simp [intOf]
        · have HS : Aside _ := h2.out rfl
          clear h1 h2
          go_wp2
          go_end0
          exact ⟨rfl, HS.out⟩
end Go.Proofs.YtgcpobondcnjcaaGreatDoor
