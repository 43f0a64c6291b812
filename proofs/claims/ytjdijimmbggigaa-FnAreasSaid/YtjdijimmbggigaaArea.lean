/-
  The area of a bundle.
  No conditions.
-/
import Derived.Test.YtjdijimmbggigaaFrac
import Derived.Test.YtjdijimmbggigaaNum
namespace Go.Proofs.Ytjdijimmbggigaa
open Go.ChangeShapes Go.WideShapes Go.ChangeAt Go.RowKit Go.Deep

/-- AreaOf. -/
def areaN (g : Int) : Int := if inR g 10 2000 then frN (7 * g * g) 88 else 0
def areaD (g : Int) : Int := if inR g 10 2000 then frD (7 * g * g) 88 else 0
def areaC (g : Int) : Int := if inR g 10 2000 then 0 else 2

theorem area_s (g : Int) (w : World) : Calls Try.prog 11 #[.int .i64 g] w fun e w' =>
    e = .returned (.tuple #[.agg #[.int .i64 (areaN g), .int .i64 (areaD g)], .int .i64 (areaC g)]) ∧ Below w.heap.size w w' := by
  refine inR_split g 10 2000 (fun h1 _ _ => ?_) (fun h1 => ?_)
  · have b1 := sq_bd g 2000 (by omega) (by omega)
    have e1 := cmul_bd 7 g (by omega)
    have c1 : 0 ≤ 7 * g * g ∧ 7 * g * g ≤ 7 * 4000000 := by omega
    clear e1 b1
    go_enter Try.func11, Try.ntmps11
    go_wp2_with (first | (go_at_call 40; refine (l05Girth_c _ _).mono ?_; rintro e w' ⟨rfl, rfl⟩))
    refine (fr_s _ _ _ (by omega) (by omega) (by omega) (by omega)).mono ?_
    rintro e w1 ⟨rfl, hb1⟩
    have B1 := (Blk.new w 23 #[.int .i64 0, .int .i64 0]).on hb1
    have hlt := B1.lt
    have d0 := B1.cell 0
    have d1 := B1.cell 1
    have f0 := B1.frozen 0
    have f1 := B1.frozen 1
    clear B1
    simp at d0 d1
    go_wp2
    refine bodyPost_ret (v := .tuple #[.agg #[.int .i64 (areaN g), .int .i64 (areaD g)], .int .i64 (areaC g)]) (by simp [results, Try.results11, go_sem, areaN, areaD, areaC, h1, d0, d1]) rfl ⟨rfl, ?_⟩
    have hbel := btrans (balloc (Below.refl _ w) _) hb1
    repeat (first | exact hbel | apply bdrewN | apply Below.drew | refine bset ?_ (Nat.le_refl _) _)
  · go_enter Try.func11, Try.ntmps11
    go_wp2_with (first | (go_at_call 40; refine (l05Girth_c _ _).mono ?_; rintro e w' ⟨rfl, rfl⟩))
    refine bodyPost_ret (v := .tuple #[.agg #[.int .i64 (areaN g), .int .i64 (areaD g)], .int .i64 (areaC g)]) (by simp [results, Try.results11, go_sem, areaN, areaD, areaC, h1]) rfl ⟨rfl, ?_⟩
    repeat (first | exact Below.refl _ _ | apply balloc)
theorem area_i (g : Int) (w : World) : Calls Try.prog 12 #[.int .i64 g] w fun e w' =>
    e = .returned (.tuple #[.agg #[.int .i64 (areaN g), .int .i64 (areaD g)], .int .i64 (areaC g)]) ∧ Below w.heap.size w w' := by
  refine inR_split g 10 2000 (fun h1 _ _ => ?_) (fun h1 => ?_)
  · have b1 := sq_bd g 2000 (by omega) (by omega)
    have e1 := cmul_bd 7 g (by omega)
    have c1 : 0 ≤ 7 * g * g ∧ 7 * g * g ≤ 7 * 4000000 := by omega
    clear e1 b1
    go_enter Try.func12, Try.ntmps12
    go_wp2_with (first | (go_at_call 42; refine (isGirth_c _ _).mono ?_; rintro e w' ⟨rfl, rfl⟩))
    refine (fr_i _ _ _ (by omega) (by omega) (by omega) (by omega)).mono ?_
    rintro e w1 ⟨rfl, hb1⟩
    have B1 := (Blk.new w 23 #[.int .i64 0, .int .i64 0]).on hb1
    have hlt := B1.lt
    have d0 := B1.cell 0
    have d1 := B1.cell 1
    have f0 := B1.frozen 0
    have f1 := B1.frozen 1
    clear B1
    simp at d0 d1
    go_wp2
    refine bodyPost_ret (v := .tuple #[.agg #[.int .i64 (areaN g), .int .i64 (areaD g)], .int .i64 (areaC g)]) (by simp [results, Try.results12, go_sem, areaN, areaD, areaC, h1, d0, d1]) rfl ⟨rfl, ?_⟩
    have hbel := btrans (balloc (Below.refl _ w) _) hb1
    repeat (first | exact hbel | apply bdrewN | apply Below.drew | refine bset ?_ (Nat.le_refl _) _)
  · go_enter Try.func12, Try.ntmps12
    go_wp2_with (first | (go_at_call 42; refine (isGirth_c _ _).mono ?_; rintro e w' ⟨rfl, rfl⟩))
    refine bodyPost_ret (v := .tuple #[.agg #[.int .i64 (areaN g), .int .i64 (areaD g)], .int .i64 (areaC g)]) (by simp [results, Try.results12, go_sem, areaN, areaD, areaC, h1]) rfl ⟨rfl, ?_⟩
    repeat (first | exact Below.refl _ _ | apply balloc)

end Go.Proofs.Ytjdijimmbggigaa
