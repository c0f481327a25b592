/- The walk of TopShade. -/
import Derived.Test.YtoaghdmhapcgiaaFmShade
namespace Go.Proofs.Ytoaghdmhapcgiaa
open Go.RowKit
set_option linter.unusedVariables false

theorem topShade_turned (a b : Int) (w : World) (h : b ≤ a) (h' : a > b) :
    Calls Try.prog 6 #[.int .i64 a, .int .i64 b] w fun e w' => e = .returned (.bool true) ∧ Below w.heap.size w w' := by
  go_enter Try.func6, Try.ntmps6
  go_wp2_with fail
  refine (shade_any _ _).mono ?_
  rintro e w1 ⟨s, rfl, hs, b1⟩
  go_wp2_with fail
  refine (shade_any _ _).mono ?_
  rintro e w2 ⟨t, rfl, ht, b2⟩
  have hst : s ≤ t := hs.out.mono ht.out h
  go_wp2_with fail
  refine (shade_any _ _).mono ?_
  rintro e w3 ⟨x, rfl, hx, b3⟩
  obtain rfl : x = 0 := hx.out.at0
  go_wp2_with fail
  refine (shade_any _ _).mono ?_
  rintro e w4 ⟨x, rfl, hx4, b4⟩
  obtain rfl : x = 255 := hx4.out.full
  go_wp2_with fail
  refine (shade_any _ _).mono ?_
  rintro e w5 ⟨x, rfl, hx5, b5⟩
  obtain rfl : x = 254 := hx5.out.nearly
  go_wp2_with fail
  go_ret
  have c2 := b1.trans (b2.mono b1.size)
  have c3 := c2.trans (b3.mono c2.size)
  have c4 := c3.trans (b4.mono c3.size)
  exact ⟨rfl, c4.trans (b5.mono c4.size)⟩
theorem topShade_law (a b : Int) (w : World) (_ : (Lit.int .i64 a).wf = true) (_ : (Lit.int .i64 b).wf = true) :
    Calls Try.prog 6 #[.int .i64 a, .int .i64 b] w fun e w' => e = .returned (.bool true) ∧ Below w.heap.size w w' := by
  by_cases h : a > b
  · exact topShade_turned a b w (by omega) h
  · exact topShade_ordered a b w (by omega) h
end Go.Proofs.Ytoaghdmhapcgiaa
