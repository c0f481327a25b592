/- The walk of the law ReelApart: it returns true. No conditions. -/
import Derived.Test.YtlcdaoljfclliaaApartRef
namespace Go.Proofs.Ytlcdaoljfclliaa
open Go.RowKit
set_option linter.unusedVariables false

set_option maxHeartbeats 800000 in
theorem reel_apart (v0 v1 : Value) (w : World) (w0 : IsPic w v0) (w1 : IsPic w v1) :
    Calls Try.prog 3 #[v0, v1] w fun e w' => e = .returned (.bool true) ∧ Below w.heap.size w w' := by
  obtain ⟨Wa, Ha, A, n, ca, P, rfl, _, _, hna, hca, hA⟩ := w0
  obtain ⟨Wb, Hb, B, m, cb, Q, rfl, _, _, hmb, hcb, hB⟩ := w1
  have hn : n ≤ maxLen := Nat.le_trans hna hca
  have hm : m ≤ maxLen := Nat.le_trans hmb hcb
  obtain ⟨D, HD⟩ : ∃ D : Nat → Int, Hid (∀ i, D i = P i - Q i) := ⟨_, hid fun _ => rfl⟩
  obtain ⟨r, hr⟩ : ∃ r, r = apartR Wa Ha n Wb Hb m D := ⟨_, rfl⟩
  have HR := hid hr
  clear hr
  clear hna hca hmb hcb
  go_enter Try.func3, Try.ntmps3
  go_wp2_with fail
  refine (heavy_any _ _ _ _ _ _ hn).mono ?_
  rintro e w1 ⟨rfl, hb1⟩
  have rA : Row w1 w.heap.size 24 #[.int .i64 Wa, .int .i64 Ha, .slice A n ca] := by
    have := ((Row.new w 24 #[.int .i64 Wa, .int .i64 Ha, .slice A n ca]).alloc (.cells #[.int .i64 Wb, .int .i64 Hb, .slice B m cb] 24)).below hb1 (by simp <;> omega)
    simpa using this
  have rB : Row w1 (w.heap.size + 1) 24 #[.int .i64 Wb, .int .i64 Hb, .slice B m cb] := by
    have := (Row.new (w.alloc (.cells #[.int .i64 Wa, .int .i64 Ha, .slice A n ca] 24)) 24 #[.int .i64 Wb, .int .i64 Hb, .slice B m cb]).below hb1 (by simp <;> omega)
    simpa using this
  have hbel : Below w.heap.size w w1 := (bel_alloc (bel_alloc (Below.refl _ _) _) _).trans (hb1.mono (by simp <;> omega))
  obtain ⟨a0, a1, a2, _, _, _⟩ := rA.cells3
  obtain ⟨b0, b1, b2, _, _, _⟩ := rB.cells3
  clear hb1
  by_cases h1 : 1600 < n
  · have t1 : decide (1600 < n) = true := by simpa using h1
    rw [t1]
    go_wp2_with fail
    go_ret
    exact ⟨rfl, hbel⟩
  have t1 : decide (1600 < n) = false := by simpa using h1
  rw [t1]
  clear t1 h1
  go_wp2_with fail
  refine (heavy_any _ _ _ _ _ _ hm).mono ?_
  rintro e w2 ⟨rfl, hb2⟩
  have rA2 := rA.below hb2 rA.lt
  have rB2 := rB.below hb2 rB.lt
  have hbel2 := hbel.trans (hb2.mono hbel.size)
  clear a0 a1 a2 b0 b1 b2 hbel hb2 rA rB
  obtain ⟨a0, a1, a2, _, _, _⟩ := rA2.cells3
  obtain ⟨b0, b1, b2, _, _, _⟩ := rB2.cells3
  by_cases h2 : 1600 < m
  · have t2 : decide (1600 < m) = true := by simpa using h2
    rw [t2]
    go_wp2_with fail
    go_ret
    exact ⟨rfl, hbel2⟩
  have t2 : decide (1600 < m) = false := by simpa using h2
  rw [t2]
  clear t2 h2
  go_wp2_with fail
  refine (apart_any Wa Ha Wb Hb A B n m ca cb P Q _ hn hm ((hA.below hbel2).more hbel2.size) ((hB.below hbel2).more hbel2.size) D HD).mono ?_
  rintro e w3 ⟨rfl, hb3⟩
  have rA3 := rA2.below hb3 rA2.lt
  have rB3 := rB2.below hb3 rB2.lt
  have hbel3 := hbel2.trans (hb3.mono hbel2.size)
  clear a0 a1 a2 b0 b1 b2 hbel2 hb3 rA2 rB2
  obtain ⟨a0, a1, a2, _, _, _⟩ := rA3.cells3
  obtain ⟨b0, b1, b2, _, _, _⟩ := rB3.cells3
  rw [← HR.out]
  unfold apartV
  have hs3 := rA3.lt
  have hs4 := rB3.lt
  go_wp2_with fail
  refine (apart_ref Wa Ha Wb Hb A B n m ca cb P Q _ hn hm ((hA.below (bel_alloc hbel3 _)).more (bel_alloc hbel3 _).size) ((hB.below (bel_alloc hbel3 _)).more (bel_alloc hbel3 _).size) D HD).mono ?_
  rintro e w4 ⟨rfl, hb4⟩
  have rX : Row w4 w3.heap.size 27 #[.int .i64 r.1, .int .i64 r.2.1, .int .i64 r.2.2.1] := (Row.new w3 _ _).below hb4 (by simp)
  have hbel4 : Below w.heap.size w w4 := (bel_alloc hbel3 _).trans (hb4.mono (bel_alloc hbel3 _).size)
  clear a0 a1 a2 b0 b1 b2 hbel3 hb4 rA3 rB3
  obtain ⟨x0, x1, x2, _, _, _⟩ := rX.cells3
  rw [← HR.out]
  unfold apartV
  have hx4 := rX.lt
  go_wp2_with fail
  go_ret
  exact ⟨ret_bool (by simp), bel_alloc hbel4 _⟩
end Go.Proofs.Ytlcdaoljfclliaa
