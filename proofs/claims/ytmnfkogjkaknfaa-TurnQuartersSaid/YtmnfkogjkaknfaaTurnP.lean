/- Turning by quarters and back: each number is where it was. -/
import Derived.Test.YtmnfkogjkaknfaaTurnA
import Derived.Test.YtmnfkogjkaknfaaFltVal
namespace Go.Proofs.Ytmnfkogjkaknfaa
open Go.RowKit Ev Ieee Flt
set_option linter.unusedVariables false
set_option linter.unusedSimpArgs false

namespace Flt
/-- What a number of a quarter stands for. -/
def cf (x : Nat) : Int := if x = 4607182418800017408 then 1 else if x = 13830554455654793216 then -1 else 0
def okc (x : Nat) : Bool := x == 0 || (x == 9223372036854775808 || (x == 4607182418800017408 || x == 13830554455654793216))
def okr (a b c : Nat) : Bool := okc a && (okc b && (okc c && (cf a).natAbs + (cf b).natAbs + (cf c).natAbs == 1))
theorem okc_cases {x : Nat} (h : okc x = true) : (Zr x ∧ cf x = 0) ∨ (x = 4607182418800017408 ∧ cf x = 1) ∨ (x = 13830554455654793216 ∧ cf x = -1) := by
  unfold okc at h
  rw [Bool.or_eq_true, Bool.or_eq_true, Bool.or_eq_true, beq_iff_eq, beq_iff_eq, beq_iff_eq, beq_iff_eq] at h
  rcases h with rfl | rfl | rfl | rfl
  · exact .inl ⟨.inl rfl, by decide⟩
  · exact .inl ⟨.inr rfl, by decide⟩
  · exact .inr (.inl ⟨rfl, by decide⟩)
  · exact .inr (.inr ⟨rfl, by decide⟩)
theorem mul_c {c x : Nat} (hc : okc c = true) (h : Low x) : (Zr (F .mul c x) ∧ cf c = 0) ∨ (Low (F .mul c x) ∧ V (F .mul c x) = cf c * V x ∧ cf c ≠ 0) := by
  rcases okc_cases hc with ⟨h1, h2⟩ | ⟨rfl, h2⟩ | ⟨rfl, h2⟩
  · exact .inl ⟨mul_zero h1 h, h2⟩
  · refine .inr ⟨(mul_one h).1, ?_, by rw [h2]; decide⟩
    rw [(mul_one h).2, h2]; omega
  · refine .inr ⟨(mul_neg h).1, ?_, by rw [h2]; decide⟩
    rw [(mul_neg h).2, h2]; omega
theorem dot_row {a b c p q r : Nat} (h : okr a b c = true) (hp : Low p) (hq : Low q) (hr : Low r) : Low (dotV a b c p q r) ∧ V (dotV a b c p q r) = cf a * V p + cf b * V q + cf c * V r := by
  unfold okr at h
  rw [Bool.and_eq_true, Bool.and_eq_true, Bool.and_eq_true, beq_iff_eq] at h
  obtain ⟨ha, hb, hc, h⟩ := h
  unfold dotV
  rcases mul_c ha hp with ⟨A, a0⟩ | ⟨A, A', a0⟩ <;> rcases mul_c hb hq with ⟨B, b0⟩ | ⟨B, B', b0⟩ <;> rcases mul_c hc hr with ⟨C, c0⟩ | ⟨C, C', c0⟩
  all_goals first | (exfalso; omega) | skip
  · obtain ⟨D, D'⟩ := zero_add C (zero_zero A B)
    refine ⟨D, ?_⟩
    rw [D', C', a0, b0, Int.zero_mul, Int.zero_mul]; omega
  · obtain ⟨D, D'⟩ := zero_add B A
    obtain ⟨E, E'⟩ := add_zero D C
    refine ⟨E, ?_⟩
    rw [E', D', B', a0, c0, Int.zero_mul, Int.zero_mul]; omega
  · obtain ⟨D, D'⟩ := add_zero A B
    obtain ⟨E, E'⟩ := add_zero D C
    refine ⟨E, ?_⟩
    rw [E', D', A', b0, c0, Int.zero_mul, Int.zero_mul]; omega
/-- Two turns undo each other; the second one's shift is nought. -/
def undo (a b c d e f g h i a' b' c' d' e' f' g' h' i' u v w : Nat) : Bool :=
  okr a b c && okr d e f && okr g h i && okr a' b' c' && okr d' e' f' && okr g' h' i' && (u == 0 || u == 9223372036854775808) && (v == 0 || v == 9223372036854775808) && (w == 0 || w == 9223372036854775808) &&
  (cf a' * cf a + cf b' * cf d + cf c' * cf g == 1) && (cf a' * cf b + cf b' * cf e + cf c' * cf h == 0) && (cf a' * cf c + cf b' * cf f + cf c' * cf i == 0) &&
  (cf d' * cf a + cf e' * cf d + cf f' * cf g == 0) && (cf d' * cf b + cf e' * cf e + cf f' * cf h == 1) && (cf d' * cf c + cf e' * cf f + cf f' * cf i == 0) &&
  (cf g' * cf a + cf h' * cf d + cf i' * cf g == 0) && (cf g' * cf b + cf h' * cf e + cf i' * cf h == 0) && (cf g' * cf c + cf h' * cf f + cf i' * cf i == 1)
theorem zr_of {u : Nat} (h : (u == 0 || u == 9223372036854775808) = true) : Zr u := by
  rw [Bool.or_eq_true, beq_iff_eq, beq_iff_eq] at h; exact h
theorem lin {a b c x1 x2 x3 y1 y2 y3 z1 z2 z3 P Q R : Int} (A B C : Int) (h1 : a * x1 + b * y1 + c * z1 = A) (h2 : a * x2 + b * y2 + c * z2 = B) (h3 : a * x3 + b * y3 + c * z3 = C) :
    a * (x1 * P + x2 * Q + x3 * R) + b * (y1 * P + y2 * Q + y3 * R) + c * (z1 * P + z2 * Q + z3 * R) = A * P + B * Q + C * R := by
  rw [← h1, ← h2, ← h3]
  simp only [Int.mul_add, Int.add_mul, Int.mul_assoc]
  omega
theorem unturn {a b c d e f g h i a' b' c' d' e' f' g' h' i' u v w p q r : Nat} (hc : undo a b c d e f g h i a' b' c' d' e' f' g' h' i' u v w = true) (hf : (!fineB p q r) = false) :
    (feq (F .add (dotV a' b' c' (F .add (dotV a b c p q r) 0) (F .add (dotV d e f p q r) 0) (F .add (dotV g h i p q r) 0)) u) (F .add p 0) &&
     (feq (F .add (dotV d' e' f' (F .add (dotV a b c p q r) 0) (F .add (dotV d e f p q r) 0) (F .add (dotV g h i p q r) 0)) v) (F .add q 0) &&
      (feq (F .add (dotV g' h' i' (F .add (dotV a b c p q r) 0) (F .add (dotV d e f p q r) 0) (F .add (dotV g h i p q r) 0)) w) (F .add r 0) && true))) = true := by
  have hf : fineB p q r = true := by simpa using hf
  unfold undo at hc
  simp only [Bool.and_eq_true, beq_iff_eq] at hc
  obtain ⟨⟨⟨⟨⟨⟨⟨⟨⟨⟨⟨⟨⟨⟨⟨⟨⟨r1, r2⟩, r3⟩, s1⟩, s2⟩, s3⟩, z1⟩, z2⟩, z3⟩, e1⟩, e2⟩, e3⟩, e4⟩, e5⟩, e6⟩, e7⟩, e8⟩, e9⟩ := hc
  obtain ⟨hp, hq, hr⟩ := fine_small hf
  have hp := hp.low
  have hq := hq.low
  have hr := hr.low
  have o : Zr 0 := .inl rfl
  obtain ⟨x1, x2⟩ := dot_row r1 hp hq hr
  obtain ⟨y1, y2⟩ := dot_row r2 hp hq hr
  obtain ⟨w1, w2⟩ := dot_row r3 hp hq hr
  obtain ⟨X1, X2⟩ := add_zero x1 o
  obtain ⟨Y1, Y2⟩ := add_zero y1 o
  obtain ⟨W1, W2⟩ := add_zero w1 o
  rw [x2] at X2
  rw [y2] at Y2
  rw [w2] at W2
  generalize F .add (dotV a b c p q r) 0 = X at *
  generalize F .add (dotV d e f p q r) 0 = Y at *
  generalize F .add (dotV g h i p q r) 0 = W at *
  obtain ⟨A1, A2⟩ := dot_row s1 X1 Y1 W1
  obtain ⟨B1, B2⟩ := dot_row s2 X1 Y1 W1
  obtain ⟨C1, C2⟩ := dot_row s3 X1 Y1 W1
  obtain ⟨A3, A4⟩ := add_zero A1 (zr_of (by rw [Bool.or_eq_true, beq_iff_eq, beq_iff_eq]; simpa using z1))
  obtain ⟨B3, B4⟩ := add_zero B1 (zr_of (by rw [Bool.or_eq_true, beq_iff_eq, beq_iff_eq]; simpa using z2))
  obtain ⟨C3, C4⟩ := add_zero C1 (zr_of (by rw [Bool.or_eq_true, beq_iff_eq, beq_iff_eq]; simpa using z3))
  obtain ⟨P1, P2⟩ := add_zero hp o
  obtain ⟨Q1, Q2⟩ := add_zero hq o
  obtain ⟨R1, R2⟩ := add_zero hr o
  rw [feq_V A3.fin P1.fin, feq_V B3.fin Q1.fin, feq_V C3.fin R1.fin, A4, B4, C4, A2, B2, C2, P2, Q2, R2, X2, Y2, W2, lin _ _ _ e1 e2 e3, lin _ _ _ e4 e5 e6, lin _ _ _ e7 e8 e9]
  rw [decide_eq_true (by omega), decide_eq_true (by omega), decide_eq_true (by omega)]
  rfl
end Flt
end Go.Proofs.Ytmnfkogjkaknfaa
