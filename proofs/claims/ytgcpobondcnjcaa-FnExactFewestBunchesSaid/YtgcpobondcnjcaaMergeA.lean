/-
  symMerge over whole numbers: the general case.
  No conditions.
-/
import Derived.Test.YtgcpobondcnjcaaMergeAp
import Derived.Test.YtgcpobondcnjcaaMergeAn
namespace Go.Proofs.Ytgcpobondcnjcaa
open Go.ChangeShapes Go.WideShapes Go.ChangeAt Go.RowKit Go.Deep Go.Shelf Go.Lib Go.Sort
set_option linter.unusedVariables false

section
variable {enc : Int → Value} {w0 : World} {blk : Nat} {d0 : Array Int}

theorem merge_c {f : Int → Int} {g D : Nat} {cb : Array Value} (M : MW Try.prog enc w0 blk d0 g cb f D) (cap : Nat) : ∀ (fuel : Nat) (d : Array Int) (a m b : Nat) (W : World), b - a ≤ fuel → SW enc w0 blk 0 d W → d.size = D → a < m → m < b → b ≤ D → MPre f d a m b →
      Calls Try.prog 58 #[.slice (some ⟨blk, 0, none⟩) D cap, .int .i64 (a : Int), .int .i64 (m : Int), .int .i64 (b : Int), .func (.func g) #[] cb] W fun e w' => e = .returned (.tuple #[]) ∧ ∃ d' : Array Int, d'.size = D ∧ MPost f d d' a b ∧ SW enc w0 blk 0 d' w'
  | 0, d, a, m, b, W, hfu, S, hD, ham, hmb, hb, hpre => absurd hfu (by omega)
  | fuel + 1, d, a, m, b, W, hfu, S, hD, ham, hmb, hb, hpre => by
    by_cases h1 : m = a + 1
    · subst h1
      have := mergeOne_c M d cap a b W S hD hmb hb hpre
      have e : ((a : Int) + 1) = ((a + 1 : Nat) : Int) := by omega
      rw [e] at this
      exact this
    · by_cases h2 : b = m + 1
      · subst h2
        have := mergeLast_c M d cap a m W S hD (by omega) hb hpre
        have e : ((m : Int) + 1) = ((m + 1 : Nat) : Int) := by omega
        rw [e] at this
        exact this
      · by_cases h3 : (a + b) / 2 < m
        · exact mergeGenP_c M cap fuel (merge_c M cap fuel) d a m b W hfu S hD ham hmb hb hpre (by omega) (by omega) h3
        · exact mergeGenN_c M cap fuel (merge_c M cap fuel) d a m b W hfu S hD ham hmb hb hpre (by omega) (by omega) h3
end
end Go.Proofs.Ytgcpobondcnjcaa
