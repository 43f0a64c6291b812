/-
  slices.SortStableFunc at up to 30 bundles.
  No conditions.
-/
import Derived.Test.YtgcpobondcnjcaaGreatDoorMergeKp
import Derived.Test.YtgcpobondcnjcaaGreatDoorMergeKn
namespace Go.Proofs.YtgcpobondcnjcaaGreatDoor
open Go.ChangeShapes Go.WideShapes Go.ChangeAt Go.RowKit Go.Deep Go.Shelf Go.Lib Go.Sort
set_option linter.unusedVariables false

section
variable {cl : Int → Nat → Int} {w0 : World} {blk : Nat} {d0 : Array Int}

theorem mergeB_c {f : Int → Int} {g D : Nat} {cb : Array Value} {cf : Int → Int → Int} (M : MB Tryz.prog cl w0 blk d0 g cb cf f D) (cap : Nat) : ∀ (fuel : Nat) (d : Array Int) (a m b : Nat) (W : World), b - a ≤ fuel → SwB cl w0 blk d W → d.size = D → a < m → m < b → b ≤ D → MPre f d a m b →
      Calls Tryz.prog 74 #[.slice (some ⟨blk, 0, none⟩) D cap, .int .i64 (a : Int), .int .i64 (m : Int), .int .i64 (b : Int), .func (.func g) #[] cb] W fun ev w' => ev = .returned (.tuple #[]) ∧ ∃ d' : Array Int, d'.size = D ∧ MPost f d d' a b ∧ SwB cl w0 blk d' w'
  | 0, d, a, m, b, W, hfu, S, hD, ham, hmb, hb, hpre => absurd hfu (by omega)
  | fuel + 1, d, a, m, b, W, hfu, S, hD, ham, hmb, hb, hpre => by
    by_cases h1 : m = a + 1
    · subst h1
      have := mergeOneB_c M d cap a b W S hD hmb hb hpre
      have e : ((a : Int) + 1) = ((a + 1 : Nat) : Int) := by omega
      rw [e] at this
      exact this
    · by_cases h2 : b = m + 1
      · subst h2
        have := mergeLastB_c M d cap a m W S hD (by omega) hb hpre
        have e : ((m : Int) + 1) = ((m + 1 : Nat) : Int) := by omega
        rw [e] at this
        exact this
      · by_cases h3 : (a + b) / 2 < m
        · exact mergeGenPB_c M cap fuel (mergeB_c M cap fuel) d a m b W hfu S hD ham hmb hb hpre (by omega) (by omega) h3
        · exact mergeGenNB_c M cap fuel (mergeB_c M cap fuel) d a m b W hfu S hD ham hmb hb hpre (by omega) (by omega) h3
end
end Go.Proofs.YtgcpobondcnjcaaGreatDoor
namespace Go.Proofs.YtgcpobondcnjcaaGreatDoor
open Go.ChangeShapes Go.WideShapes Go.ChangeAt Go.RowKit Go.Deep Go.Shelf Go.Lib Go.Sort
set_option linter.unusedVariables false

theorem upTo_sz (n : Nat) : (upTo n).toArray.size = n := by simp [upTo_len]
set_option maxRecDepth 100000 in
set_option maxHeartbeats 4000000 in
theorem stableB30_c {cl : Int → Nat → Int} {g n : Nat} {cb : Array Value} {cf : Int → Int → Int} {key : Int → Int} {blk : Nat} {w : World} (M : MB Tryz.prog cl w blk (upTo n).toArray g cb cf key n) (cap : Nat) (h0 : 20 < n) (hn : n ≤ 30) :
    Calls Tryz.prog 64 #[.slice (some ⟨blk, 0, none⟩) n cap, .int .i64 n, .func (.func g) #[] cb] w fun ev w' => ev = .returned (.tuple #[]) ∧ SwB cl w blk (stTo key n).toArray w' := by
  have hsz := upTo_sz n
  have P1 := ins_sorted (f := key) (a := 0) (b := 20) (upTo n).toArray (by omega) (by omega) (fun s t q1 q2 q3 => by rw [upTo_at (by omega), upTo_at (by omega)]; omega)
  have I := insB_c M (upTo n).toArray cap 0 20 w (SwB.start M.row) hsz (by omega) (by omega) (by rw [P1.2, hsz])
  obtain ⟨d1, hd1⟩ : ∃ d1, d1 = Sort.insertionSort (ltF key) (upTo n).toArray 0 20 := ⟨_, rfl⟩
  rw [← hd1] at P1 I
  rw [hsz] at P1
  have P2 := ins_sorted (f := key) (a := 20) (b := n) d1 h0 (by omega) (fun s t q1 q2 q3 => by rw [P1.1.out s (.inr q1), P1.1.out t (.inr (by omega)), upTo_at (by omega), upTo_at (by omega)]; omega)
  have I2 := fun W (S : SwB cl w blk d1 W) => insB_c M d1 cap 20 n W S P1.2 (by omega) (by omega) (by rw [P2.2, P1.2])
  obtain ⟨d2, hd2⟩ : ∃ d2, d2 = Sort.insertionSort (ltF key) d1 20 n := ⟨_, rfl⟩
  rw [← hd2] at P2
  simp only [← hd2] at I2
  rw [P1.2] at P2
  have I3 := fun W (S : SwB cl w blk d2 W) => mergeB_c M cap n d2 0 20 n W (by omega) S P2.2 (by omega) h0 (Nat.le_refl _) (stab_mid h0 P1.1 P2.1)
  have HI := Lib.hid I
  have HI2 := Lib.hid I2
  have HI3 := Lib.hid I3
  have HP1 := Lib.hid P1
  have HP2 := Lib.hid P2
  clear I I2 I3 P1 P2 hsz hd1 hd2 M
  have hlt : (20 : Int) ≤ n := by omega
  have hlt2 : ¬ (40 : Int) ≤ n := by omega
  have hlt3 : (20 : Int) < n := by omega
  go_enter Tryz.func64, Tryz.ntmps64
  go_wp2_with fail
  go_loopw [7, 8] (fun v7 v8 wr => ∃ q : Nat, q ≤ 1 ∧ v7 = .int .i64 (20 * q : Nat) ∧ v8 = .int .i64 (20 * q + 20 : Nat) ∧ Aside (q = 0 → wr = w) ∧ Aside (q = 1 → SwB cl w blk d1 wr)) (fun _ v8 _ => 40 - (intOf v8).toNat)
  case atStart => exact ⟨0, by omega, rfl, rfl, fun _ => rfl, fun h => absurd h (by omega)⟩
  case round =>
    obtain ⟨q, hq, rfl, rfl, h1, h2⟩ := hrel
    obtain rfl | rfl : q = 0 ∨ q = 1 := by omega
    · obtain rfl := h1.out rfl
      clear h1 h2
      go_wp2_with fail
      refine HI.out.mono ?_
      rintro ev w2 ⟨rfl, S⟩
      have HS : Aside _ := S
      clear S
      go_wp2_with fail
      go_roundw
      case rel => exact ⟨1, by omega, by go_num, by go_num, fun h => absurd h (by omega), fun _ => HS.out⟩
      case measure => simp [intOf]
    · have HS : Aside _ := h2.out rfl
      clear h1 h2
      go_wp2_with fail
      refine (HI2.out _ HS.out).mono ?_
      rintro ev w3 ⟨rfl, S⟩
      have HT : Aside _ := S
      clear S HS
      go_wp2_with fail
      go_loopw [6] (fun v wr => ∃ q : Nat, q ≤ 1 ∧ v = .int .i64 (20 * q + 20 : Nat) ∧ Aside (q = 0 → wr = w3) ∧ Aside (q = 1 → SwB cl w blk (stTo key n).toArray wr)) (fun v _ => 40 - (intOf v).toNat)
      case atStart => exact ⟨0, by omega, rfl, fun _ => rfl, fun h => absurd h (by omega)⟩
      case round =>
        obtain ⟨q, hq, rfl, h1, h2⟩ := hrel
        obtain rfl | rfl : q = 0 ∨ q = 1 := by omega
        · have hw := (h1.out rfl).symm
          subst hw
          clear h1 h2
          go_wp2_with fail
          go_loopw [7, 8] (fun v7 v8 wr => v7 = .int .i64 0 ∧ v8 = .int .i64 40 ∧ wr = w3) (fun _ v8 _ => 0)
          case atStart => exact ⟨rfl, rfl, rfl⟩
          case round =>
            obtain ⟨rfl, rfl, hw⟩ := hrel
            have hw := hw.symm
            subst hw
            go_wp2_with fail
            refine (HI3.out _ HT.out).mono ?_
            rintro ev w4 ⟨rfl, d3, hs3, hp3, S⟩
            have e3 := stab_all h0 HP1.out.1 HP2.out.1 hp3 hs3
            have HT4 : Aside (SwB cl w blk (stTo key n).toArray w4) := by rw [← e3]; exact S
            clear S e3 hp3 hs3
            go_wp2_with fail
            go_roundw
            case rel => exact ⟨1, by omega, by go_num, fun h => absurd h (by omega), fun _ => HT4.out⟩
            case measure => simp [intOf]
        · have HS : Aside _ := h2.out rfl
          clear h1 h2
          go_wp2
          go_end0
          exact ⟨rfl, HS.out⟩

set_option maxRecDepth 100000 in
theorem stableB20_c {cl : Int → Nat → Int} {g n : Nat} {cb : Array Value} {cf : Int → Int → Int} {key : Int → Int} {blk : Nat} {w : World} (M : MB Tryz.prog cl w blk (upTo n).toArray g cb cf key n) (cap : Nat) (h0 : 0 < n) (hn : n ≤ 20) :
    Calls Tryz.prog 64 #[.slice (some ⟨blk, 0, none⟩) n cap, .int .i64 n, .func (.func g) #[] cb] w fun ev w' => ev = .returned (.tuple #[]) ∧ SwB cl w blk (stTo key n).toArray w' := by
  have hsz := upTo_sz n
  have hs : (stTo key n).toArray.size = n := by simp [stTo_len]
  have e1 : Sort.insertionSort (ltF key) (upTo n).toArray 0 n = (stTo key n).toArray := insertionSort_law key n h0
  have e2 : Sort.insertionSort (ltF key) (stTo key n).toArray n n = (stTo key n).toArray := by
    unfold Sort.insertionSort insOuter; rw [if_neg (by omega)]
  have I := insB_c M (upTo n).toArray cap 0 n w (SwB.start M.row) hsz (by omega) (Nat.le_refl _) (by rw [e1, hs])
  have I2 := fun W (S : SwB cl w blk (stTo key n).toArray W) => insB_c M (stTo key n).toArray cap n n W S hs (Nat.le_refl _) (Nat.le_refl _) (by rw [e2, hs])
  rw [e1] at I
  rw [e2] at I2
  have HI := Lib.hid I
  have HI2 := Lib.hid I2
  clear I I2 e1 e2 hsz hs M
  by_cases h20 : n = 20
  · subst h20
    show Calls Tryz.prog 64 #[.slice (some ⟨blk, 0, none⟩) 20 cap, .int .i64 20, .func (.func g) #[] cb] w _
    go_enter Tryz.func64, Tryz.ntmps64
    go_wp2_with fail
    go_loopw [7, 8] (fun v7 v8 wr => ∃ q : Nat, q ≤ 1 ∧ v7 = .int .i64 (20 * q : Nat) ∧ v8 = .int .i64 (20 * q + 20 : Nat) ∧ Aside (q = 0 → wr = w) ∧ Aside (q = 1 → SwB cl w blk (stTo key 20).toArray wr)) (fun _ v8 _ => 40 - (intOf v8).toNat)
    case atStart => exact ⟨0, by omega, rfl, rfl, fun _ => rfl, fun h => absurd h (by omega)⟩
    case round =>
      obtain ⟨q, hq, rfl, rfl, h1, h2⟩ := hrel
      obtain rfl | rfl : q = 0 ∨ q = 1 := by omega
      · obtain rfl := h1.out rfl
        clear h1 h2
        go_wp2_with fail
        refine HI.out.mono ?_
        rintro ev w2 ⟨rfl, S⟩
        have HS : Aside _ := S
        clear S
        go_wp2_with fail
        go_roundw
        case rel => exact ⟨1, by omega, by go_num, by go_num, fun h => absurd h (by omega), fun _ => HS.out⟩
        case measure => simp [intOf]
      · have HS : Aside _ := h2.out rfl
        clear h1 h2
        go_wp2_with fail
        refine (HI2.out _ HS.out).mono ?_
        rintro ev w3 ⟨rfl, S⟩
        have HT : Aside _ := S
        clear S
        go_wp2_with fail
        go_loopw [6] (fun v wr => v = .int .i64 20 ∧ wr = w3) (fun _ _ => 0)
        case atStart => exact ⟨rfl, rfl⟩
        case round =>
          obtain ⟨rfl, rfl⟩ := hrel
          go_wp2
          go_end0
          exact ⟨rfl, HT.out⟩
  · have hlt : ¬ (20 : Int) ≤ n := by omega
    have hlt2 : (n : Int) ≤ 20 := by omega
    go_enter Tryz.func64, Tryz.ntmps64
    go_wp2_with fail
    go_loopw [7, 8] (fun v7 v8 wr => v7 = .int .i64 0 ∧ v8 = .int .i64 20 ∧ wr = w) (fun _ v8 _ => 0)
    case atStart => exact ⟨rfl, rfl, rfl⟩
    case round =>
      obtain ⟨rfl, rfl, rfl⟩ := hrel
      go_wp2_with fail
      refine HI.out.mono ?_
      rintro ev w3 ⟨rfl, S⟩
      have HT : Aside _ := S
      clear S
      go_wp2_with fail
      go_loopw [6] (fun v wr => v = .int .i64 20 ∧ wr = w3) (fun _ _ => 0)
      case atStart => exact ⟨rfl, rfl⟩
      case round =>
        obtain ⟨rfl, rfl⟩ := hrel
        go_wp2
        go_end0
        exact ⟨rfl, HT.out⟩

theorem insB0_c (p : Option Addr) (cap : Nat) (fv : Value) (w : World) :
    Calls Tryz.prog 73 #[.slice p 0 cap, .int .i64 0, .int .i64 0, fv] w fun e w' => e = .returned (.tuple #[]) ∧ w = w' := by
  go_enter Tryz.func73, Tryz.ntmps73
  go_wp2_with fail
  go_loopw [8] (fun v wr => v = .int .i64 1 ∧ wr = w) (fun _ _ => 0)
  case atStart => exact ⟨rfl, rfl⟩
  case round =>
    obtain ⟨rfl, rfl⟩ := hrel
    go_wp2
    go_end0
    exact ⟨rfl, rfl⟩
theorem stableB0_c (p : Option Addr) (cap : Nat) (fv : Value) (w : World) :
    Calls Tryz.prog 64 #[.slice p 0 cap, .int .i64 0, fv] w fun e w' => e = .returned (.tuple #[]) ∧ w = w' := by
  go_enter Tryz.func64, Tryz.ntmps64
  go_wp2_with fail
  go_loopw [7, 8] (fun v7 v8 wr => v7 = .int .i64 0 ∧ v8 = .int .i64 20 ∧ wr = w) (fun _ v8 _ => 0)
  case atStart => exact ⟨rfl, rfl, rfl⟩
  case round =>
    obtain ⟨rfl, rfl, hw⟩ := hrel
    subst wr
    go_wp2_with fail
    (with_reducible refine (insB0_c p cap fv _).mono ?_)
    rintro e w3 ⟨rfl, hw⟩
    subst w3
    go_wp2_with fail
    go_loopw [6] (fun v wr => v = .int .i64 20 ∧ wr = w) (fun _ _ => 0)
    case atStart => exact ⟨rfl, rfl⟩
    case round =>
      obtain ⟨rfl, rfl⟩ := hrel
      go_wp2
      go_end0
      exact ⟨rfl, rfl⟩
theorem sortStableB0_c (p : Option Addr) (cap : Nat) (fv : Value) (w : World) :
    Calls Tryz.prog 41 #[.slice p 0 cap, fv] w fun e w' => e = .returned (.tuple #[]) ∧ w = w' := by
  go_enter Tryz.func41, Tryz.ntmps41
  go_wp2_with fail
  (with_reducible refine (stableB0_c p cap fv _).mono ?_)
  rintro e w3 ⟨rfl, rfl⟩
  go_wp2
  go_end0
  exact ⟨rfl, rfl⟩


theorem sortStableB_c {cl : Int → Nat → Int} {g n : Nat} {cb : Array Value} {cf : Int → Int → Int} {key : Int → Int} {blk : Nat} {w : World} (M : MB Tryz.prog cl w blk (upTo n).toArray g cb cf key n) (cap : Nat) (h0 : 0 < n) (hn : n ≤ 30) :
    Calls Tryz.prog 41 #[.slice (some ⟨blk, 0, none⟩) n cap, .func (.func g) #[] cb] w fun ev w' => ev = .returned (.tuple #[]) ∧ SwB cl w blk (stTo key n).toArray w' := by
  have HI : Hid (Calls Tryz.prog 64 #[.slice (some ⟨blk, 0, none⟩) n cap, .int .i64 n, .func (.func g) #[] cb] w fun ev w' => ev = .returned (.tuple #[]) ∧ SwB cl w blk (stTo key n).toArray w') := by
    rcases Nat.lt_or_ge 20 n with q | q
    · exact stableB30_c M cap q hn
    · exact stableB20_c M cap h0 q
  clear M
  go_enter Tryz.func41, Tryz.ntmps41
  go_wp2_with fail
  refine HI.out.mono ?_
  rintro ev w2 ⟨rfl, S⟩
  have HT : Aside _ := S
  clear S
  go_wp2
  go_end0
  exact ⟨rfl, HT.out⟩
end Go.Proofs.YtgcpobondcnjcaaGreatDoor
