/-
  symMerge over elements of three cells: the general case.
  No conditions.
-/
import Derived.Test.YtgcpobondcnjcaaMergeKp
import Derived.Test.YtgcpobondcnjcaaMergeKn
namespace Go.Proofs.Ytgcpobondcnjcaa
open Go.ChangeShapes Go.WideShapes Go.ChangeAt Go.RowKit Go.Deep Go.Shelf Go.Lib Go.Sort
set_option linter.unusedVariables false

section
variable {cl : Int → Nat → Int} {w0 : World} {blk : Nat} {d0 : Array Int}

theorem mergeB_c {f : Int → Int} {g D : Nat} {cb : Array Value} {cf : Int → Int → Int} (M : MB Try.prog cl w0 blk d0 g cb cf f D) (cap : Nat) : ∀ (fuel : Nat) (d : Array Int) (a m b : Nat) (W : World), b - a ≤ fuel → SwB cl w0 blk d W → d.size = D → a < m → m < b → b ≤ D → MPre f d a m b →
      Calls Try.prog 43 #[.slice (some ⟨blk, 0, none⟩) D cap, .int .i64 (a : Int), .int .i64 (m : Int), .int .i64 (b : Int), .func (.func g) #[] cb] W fun ev w' => ev = .returned (.tuple #[]) ∧ ∃ d' : Array Int, d'.size = D ∧ MPost f d d' a b ∧ SwB cl w0 blk d' w'
  | 0, d, a, m, b, W, hfu, S, hD, ham, hmb, hb, hpre => absurd hfu (by omega)
  | fuel + 1, d, a, m, b, W, hfu, S, hD, ham, hmb, hb, hpre => by
    by_cases h1 : m = a + 1
    · subst h1
      have := mergeOneB_c M d cap a b W S hD hmb hb hpre
      have e : ((a : Int) + 1) = ((a + 1 : Nat) : Int) := by omega
      rw [e] at this
      exact this
    · by_cases h2 : b = m + 1
      · subst h2
        have := mergeLastB_c M d cap a m W S hD (by omega) hb hpre
        have e : ((m : Int) + 1) = ((m + 1 : Nat) : Int) := by omega
        rw [e] at this
        exact this
      · by_cases h3 : (a + b) / 2 < m
        · exact mergeGenPB_c M cap fuel (mergeB_c M cap fuel) d a m b W hfu S hD ham hmb hb hpre (by omega) (by omega) h3
        · exact mergeGenNB_c M cap fuel (mergeB_c M cap fuel) d a m b W hfu S hD ham hmb hb hpre (by omega) (by omega) h3
end
end Go.Proofs.Ytgcpobondcnjcaa
