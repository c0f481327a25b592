/- A box within a box: the ray's way is within, too. -/
import Derived.Test.YtlinfehljjfkhaaFltKey
import Derived.Test.YtlinfehljjfkhaaSlabP
namespace Go.Proofs.Ytlinfehljjfkhaa
open Go.RowKit Ev Ieee Flt
set_option linter.unusedVariables false
set_option linter.unusedSimpArgs false

namespace Flt
theorem le_key {x y : Nat} (hx : isN x = false) (hy : isN y = false) : (flt x y || feq x y) = decide (key x ≤ key y) := by
  rw [flt_key hx hy, feq_key hx hy, ← Bool.decide_or]
  exact decide_eq_decide.2 (by omega)
theorem ge_key {x y : Nat} (hx : isN x = false) (hy : isN y = false) : (fgt x y || feq x y) = decide (key y ≤ key x) := by
  rw [fgt_key hx hy, feq_key hx hy, ← Bool.decide_or]
  exact decide_eq_decide.2 (by omega)
theorem n1e6 : isN 13920209183539462144 = false := by decide +kernel
theorem p1e6 : isN 4696837146684686336 = false := by decide +kernel
theorem near_key {x : Nat} (hx : isN x = false) : nearB x = (decide (key 13920209183539462144 ≤ key x) && decide (key x ≤ key 4696837146684686336)) := by
  unfold nearB
  rw [ge_key hx n1e6, le_key hx p1e6]
theorem less_key {a b : Nat} (ha : isN a = false) (hb : isN b = false) : (lessV a b = a ∨ lessV a b = b) ∧ key (lessV a b) = min (key a) (key b) := by
  unfold lessV
  rw [flt_key hb ha]
  by_cases h : key b < key a
  · rw [decide_eq_true h]; exact ⟨.inr rfl, by show key b = _; omega⟩
  · rw [decide_eq_false h]; exact ⟨.inl rfl, by show key a = _; omega⟩
theorem more_key {a b : Nat} (ha : isN a = false) (hb : isN b = false) : (moreV a b = a ∨ moreV a b = b) ∧ key (moreV a b) = max (key a) (key b) := by
  unfold moreV
  rw [fgt_key hb ha]
  by_cases h : key a < key b
  · rw [decide_eq_true h]; exact ⟨.inr rfl, by show key b = _; omega⟩
  · rw [decide_eq_false h]; exact ⟨.inl rfl, by show key a = _; omega⟩
theorem less_n {a b : Nat} (ha : isN a = false) (hb : isN b = false) : isN (lessV a b) = false := by
  rcases (less_key ha hb).1 with h | h <;> rw [h] <;> assumption
theorem more_n {a b : Nat} (ha : isN a = false) (hb : isN b = false) : isN (moreV a b) = false := by
  rcases (more_key ha hb).1 with h | h <;> rw [h] <;> assumption
theorem less_near {a b : Nat} (ha : nearB a = true) (hb : nearB b = true) : nearB (lessV a b) = true := by
  rcases (less_key (near_notN ha) (near_notN hb)).1 with h | h <;> rw [h] <;> assumption
theorem more_near {a b : Nat} (ha : nearB a = true) (hb : nearB b = true) : nearB (moreV a b) = true := by
  rcases (more_key (near_notN ha) (near_notN hb)).1 with h | h <;> rw [h] <;> assumption
/-- The difference of two near numbers is finite. -/
theorem sub_low {x y : Nat} (hx : nearB x = true) (hy : nearB y = true) : Fin (F .sub x y) := by
  have fx := (near_small hx).fin
  have fy := (near_small hy).fin
  have fp : Fin 4696837146684686336 := ⟨_, _, _, read_1e6⟩
  have fn : Fin 13920209183539462144 := ⟨_, _, _, read_n1e6⟩
  have bx := near_key (near_notN hx)
  have bY := near_key (near_notN hy)
  rw [hx] at bx
  rw [hy] at bY
  have bx := bx.symm
  have bY := bY.symm
  rw [Bool.and_eq_true, decide_eq_true_eq, decide_eq_true_eq] at bx bY
  have x1 := V_key fn fx
  have x2 := V_key fx fp
  have y1 := V_key fn fy
  have y2 := V_key fy fp
  obtain ⟨t, r1, n1, k1⟩ := sub_form fx fy
  obtain ⟨t', r2, n2, k2⟩ := sub_form fp fn
  have h1 : key (F .sub 4696837146684686336 13920209183539462144) = 4701340746312056832 := by decide +kernel
  have h2 : decide (V 4696837146684686336 < V 13920209183539462144) = false := by decide +kernel
  rw [h2, h1] at k2
  have hr : rung (2 ^ 52) II (V x - V y).natAbs 1 t ≤ rung (2 ^ 52) II (V 4696837146684686336 - V 13920209183539462144).natAbs 1 t' :=
    rung_mono (by decide) (by decide) (by rw [Nat.mul_one, Nat.mul_one]; omega) r1 r2
  have hc : (rung (2 ^ 52) II (V 4696837146684686336 - V 13920209183539462144).natAbs 1 t' : Int) = 4701340746312056832 := by
    unfold sg at k2
    rw [if_neg (by decide)] at k2
    exact k2.symm
  obtain ⟨s, r, kr, h, _, _⟩ := read_sr (F .sub x y)
  rw [k1] at kr
  have hII : II = 9218868437227405312 := by decide
  have hlt : r < II := by
    unfold sg at kr
    cases decide (V x < V y) <;> cases s <;> simp only [if_true, if_false, Bool.false_eq_true] at kr <;> omega
  obtain ⟨m, i, e, _⟩ := h hlt
  exact ⟨_, _, _, e⟩
theorem nearB_0 : nearB 0 = true := by decide +kernel
theorem fin_0 : Fin 0 := (near_small nearB_0).fin
theorem V_0 : V 0 = 0 := by decide +kernel
theorem cutA_mono {lo lo' fr d : Nat} (h1 : nearB lo = true) (h2 : nearB lo' = true) (h3 : nearB fr = true) (h4 : nearB d = true) (h0 : feq d 0 = false) (h : key lo' ≤ key lo) :
    isN (cutA lo' fr d) = false ∧ isN (cutA lo fr d) = false ∧ (flt d 0 = false → key (cutA lo' fr d) ≤ key (cutA lo fr d)) ∧ (flt d 0 = true → key (cutA lo fr d) ≤ key (cutA lo' fr d)) := by
  have fd := (near_small h4).fin
  rw [feq_V fd fin_0, V_0, decide_eq_false_iff_not] at h0
  obtain ⟨_, _, g⟩ := sub_mono (near_small h2).fin (near_small h1).fin (near_small h3).fin h
  obtain ⟨a, b, c, e⟩ := quo_mono (sub_low h2 h3) (sub_low h1 h3) fd g h0
  rw [flt_V fd fin_0, V_0, decide_eq_false_iff_not, decide_eq_true_eq]
  exact ⟨a, b, fun h => c (by omega), fun h => e h⟩
theorem cutN_all {n n' lo lo' hi hi' fr d : Nat} (hn : isN n = false) (hn' : isN n' = false) (hl : nearB lo = true) (hl' : nearB lo' = true) (hh : nearB hi = true) (hh' : nearB hi' = true) (hf : nearB fr = true) (hd : nearB d = true)
    (kn : key n' ≤ key n) (kl : key lo' ≤ key lo) (kh : key hi ≤ key hi') :
    isN (cutN n lo hi fr d) = false ∧ isN (cutN n' lo' hi' fr d) = false ∧ key (cutN n' lo' hi' fr d) ≤ key (cutN n lo hi fr d) ∧ key n ≤ key (cutN n lo hi fr d) := by
  unfold cutN
  cases h0 : feq d 0 with
  | true => exact ⟨hn, hn', kn, Int.le_refl _⟩
  | false =>
    obtain ⟨a1, a2, a3, a4⟩ := cutA_mono hl hl' hf hd h0 kl
    obtain ⟨b1, b2, b3, b4⟩ := cutA_mono hh' hh hf hd h0 kh
    cases h : flt d 0 with
    | true =>
      refine ⟨more_n hn b1, more_n hn' b2, ?_, ?_⟩
      · show key (moreV n' (cutA hi' fr d)) ≤ key (moreV n (cutA hi fr d))
        rw [(more_key hn b1).2, (more_key hn' b2).2]; have := b4 h; omega
      · show key n ≤ key (moreV n (cutA hi fr d))
        rw [(more_key hn b1).2]; omega
    | false =>
      refine ⟨more_n hn a2, more_n hn' a1, ?_, ?_⟩
      · show key (moreV n' (cutA lo' fr d)) ≤ key (moreV n (cutA lo fr d))
        rw [(more_key hn a2).2, (more_key hn' a1).2]; have := a3 h; omega
      · show key n ≤ key (moreV n (cutA lo fr d))
        rw [(more_key hn a2).2]; omega
theorem cutF_all {n n' lo lo' hi hi' fr d : Nat} (hn : isN n = false) (hn' : isN n' = false) (hl : nearB lo = true) (hl' : nearB lo' = true) (hh : nearB hi = true) (hh' : nearB hi' = true) (hf : nearB fr = true) (hd : nearB d = true)
    (kn : key n ≤ key n') (kl : key lo' ≤ key lo) (kh : key hi ≤ key hi') :
    isN (cutF n lo hi fr d) = false ∧ isN (cutF n' lo' hi' fr d) = false ∧ key (cutF n lo hi fr d) ≤ key (cutF n' lo' hi' fr d) := by
  unfold cutF
  cases h0 : feq d 0 with
  | true => exact ⟨hn, hn', kn⟩
  | false =>
    obtain ⟨a1, a2, a3, a4⟩ := cutA_mono hl hl' hf hd h0 kl
    obtain ⟨b1, b2, b3, b4⟩ := cutA_mono hh' hh hf hd h0 kh
    cases h : flt d 0 with
    | true =>
      refine ⟨less_n hn a2, less_n hn' a1, ?_⟩
      show key (lessV n (cutA lo fr d)) ≤ key (lessV n' (cutA lo' fr d))
      rw [(less_key hn a2).2, (less_key hn' a1).2]; have := a4 h; omega
    | false =>
      refine ⟨less_n hn b1, less_n hn' b2, ?_⟩
      show key (lessV n (cutA hi fr d)) ≤ key (lessV n' (cutA hi' fr d))
      rw [(less_key hn b1).2, (less_key hn' b2).2]; have := b3 h; omega
theorem cutO_all {o o' : Bool} {lo lo' hi hi' fr d : Nat} (hl : nearB lo = true) (hl' : nearB lo' = true) (hh : nearB hi = true) (hh' : nearB hi' = true) (hf : nearB fr = true)
    (ho : o = true → o' = true) (kl : key lo' ≤ key lo) (kh : key hi ≤ key hi') (h : cutO o lo hi fr d = true) : cutO o' lo' hi' fr d = true := by
  unfold cutO at *
  cases h0 : feq d 0 with
  | false => rw [h0] at h; exact ho h
  | true =>
    rw [h0] at h
    have h : (o && ((flt lo fr || feq lo fr) && (flt fr hi || feq fr hi))) = true := h
    show (o' && ((flt lo' fr || feq lo' fr) && (flt fr hi' || feq fr hi'))) = true
    rw [le_key (near_notN hl) (near_notN hf), le_key (near_notN hf) (near_notN hh), Bool.and_eq_true, Bool.and_eq_true, decide_eq_true_eq, decide_eq_true_eq] at h
    rw [le_key (near_notN hl') (near_notN hf), le_key (near_notN hf) (near_notN hh'), Bool.and_eq_true, Bool.and_eq_true, decide_eq_true_eq, decide_eq_true_eq]
    exact ⟨ho h.1, by omega, by omega⟩
end Flt
theorem may_all {a b c d e f : Nat} (h : mayV a b c d e f = 0) : (nearB a = true ∧ nearB b = true ∧ nearB c = true ∧ nearB d = true ∧ nearB e = true ∧ nearB f = true) ∧ key a ≤ key d ∧ key b ≤ key e ∧ key c ≤ key f := by
  obtain ⟨h1, h2⟩ := may_fine h
  unfold mayV at h
  rw [h1, h2] at h
  unfold fineB at h1 h2
  rw [Bool.and_eq_true, Bool.and_eq_true] at h1 h2
  refine ⟨⟨h1.1.1, h1.1.2, h1.2, h2.1.1, h2.1.2, h2.2⟩, ?_⟩
  rw [fgt_key (near_notN h1.1.1) (near_notN h2.1.1), fgt_key (near_notN h1.1.2) (near_notN h2.1.2), fgt_key (near_notN h1.2) (near_notN h2.2)] at h
  cases hx : (decide (key d < key a) || decide (key e < key b) || decide (key f < key c)) with
  | true => rw [hx] at h; cases h
  | false =>
    rw [Bool.or_eq_false_iff, Bool.or_eq_false_iff, decide_eq_false_iff_not, decide_eq_false_iff_not, decide_eq_false_iff_not] at hx
    omega
theorem may_mk {a b c d e f : Nat} (h1 : nearB a = true) (h2 : nearB b = true) (h3 : nearB c = true) (h4 : nearB d = true) (h5 : nearB e = true) (h6 : nearB f = true) (k1 : key a ≤ key d) (k2 : key b ≤ key e) (k3 : key c ≤ key f) : mayV a b c d e f = 0 := by
  unfold mayV fineB
  rw [h1, h2, h3, h4, h5, h6, fgt_key (near_notN h1) (near_notN h4), fgt_key (near_notN h2) (near_notN h5), fgt_key (near_notN h3) (near_notN h6), decide_eq_false (by omega), decide_eq_false (by omega), decide_eq_false (by omega)]
  rfl
/-- What the law of a box around a box says. -/
theorem slab_top {a b c d e f a' b' c' d' e' f' p q r u v w l : Nat} (hb : mayV a b c d e f = 0) (hc : mayV a' b' c' d' e' f' = 0) :
    inV a b c d e f (lessV a a') (lessV b b') (lessV c c') (moreV d d') (moreV e e') (moreV f f') = true ∧
    inV a' b' c' d' e' f' (lessV a a') (lessV b b') (lessV c c') (moreV d d') (moreV e e') (moreV f f') = true ∧
    mayV (lessV a a') (lessV b b') (lessV c c') (moreV d d') (moreV e e') (moreV f f') = 0 ∧
    (meetB a b c d e f p q r u v w l = false → meetX a b c d e f p q r u v w l = 0 ∧ meetY a b c d e f p q r u v w l = 0) ∧
    (meetB a b c d e f p q r u v w l = true → meetB (lessV a a') (lessV b b') (lessV c c') (moreV d d') (moreV e e') (moreV f f') p q r u v w l = true ∧
      (flt (meetX (lessV a a') (lessV b b') (lessV c c') (moreV d d') (moreV e e') (moreV f f') p q r u v w l) (meetX a b c d e f p q r u v w l) || feq (meetX (lessV a a') (lessV b b') (lessV c c') (moreV d d') (moreV e e') (moreV f f') p q r u v w l) (meetX a b c d e f p q r u v w l)) = true ∧
      (flt (meetY a b c d e f p q r u v w l) (meetY (lessV a a') (lessV b b') (lessV c c') (moreV d d') (moreV e e') (moreV f f') p q r u v w l) || feq (meetY a b c d e f p q r u v w l) (meetY (lessV a a') (lessV b b') (lessV c c') (moreV d d') (moreV e e') (moreV f f') p q r u v w l)) = true ∧
      (flt (meetX a b c d e f p q r u v w l) (meetY a b c d e f p q r u v w l) || feq (meetX a b c d e f p q r u v w l) (meetY a b c d e f p q r u v w l)) = true ∧
      (fgt (meetX a b c d e f p q r u v w l) l || feq (meetX a b c d e f p q r u v w l) l) = true) := by
  obtain ⟨⟨a1, a2, a3, a4, a5, a6⟩, b1, b2, b3⟩ := may_all hb
  obtain ⟨⟨c1, c2, c3, c4, c5, c6⟩, d1, d2, d3⟩ := may_all hc
  have A1 := less_near a1 c1
  have A2 := less_near a2 c2
  have A3 := less_near a3 c3
  have A4 := more_near a4 c4
  have A5 := more_near a5 c5
  have A6 := more_near a6 c6
  have K1 := (less_key (near_notN a1) (near_notN c1)).2
  have K2 := (less_key (near_notN a2) (near_notN c2)).2
  have K3 := (less_key (near_notN a3) (near_notN c3)).2
  have K4 := (more_key (near_notN a4) (near_notN c4)).2
  have K5 := (more_key (near_notN a5) (near_notN c5)).2
  have K6 := (more_key (near_notN a6) (near_notN c6)).2
  generalize lessV a a' = A at *
  generalize lessV b b' = B at *
  generalize lessV c c' = C at *
  generalize moreV d d' = D at *
  generalize moreV e e' = E at *
  generalize moreV f f' = G at *
  have hd : mayV A B C D E G = 0 := may_mk A1 A2 A3 A4 A5 A6 (by omega) (by omega) (by omega)
  refine ⟨?_, ?_, hd, ?_, ?_⟩
  · unfold inV
    rw [le_key (near_notN A1) (near_notN a1), le_key (near_notN A2) (near_notN a2), le_key (near_notN A3) (near_notN a3), le_key (near_notN a4) (near_notN A4), le_key (near_notN a5) (near_notN A5), le_key (near_notN a6) (near_notN A6), decide_eq_true (by omega), decide_eq_true (by omega), decide_eq_true (by omega), decide_eq_true (by omega), decide_eq_true (by omega), decide_eq_true (by omega)]
    rfl
  · unfold inV
    rw [le_key (near_notN A1) (near_notN c1), le_key (near_notN A2) (near_notN c2), le_key (near_notN A3) (near_notN c3), le_key (near_notN c4) (near_notN A4), le_key (near_notN c5) (near_notN A5), le_key (near_notN c6) (near_notN A6), decide_eq_true (by omega), decide_eq_true (by omega), decide_eq_true (by omega), decide_eq_true (by omega), decide_eq_true (by omega), decide_eq_true (by omega)]
    rfl
  · intro h
    unfold meetB at h
    unfold meetX meetY
    cases h1 : meetC a b c d e f p q r u v w l with
    | true => exact ⟨rfl, rfl⟩
    | false =>
      rw [h1] at h
      cases h2 : meetD a b c d e f p q r u v w l with
      | true => exact ⟨rfl, rfl⟩
      | false => rw [h2] at h; cases h
  · intro h
    have hC : meetC a b c d e f p q r u v w l = false := by
      cases h1 : meetC a b c d e f p q r u v w l with
      | true => unfold meetB at h; rw [h1] at h; cases h
      | false => rfl
    have hD : meetD a b c d e f p q r u v w l = false := by
      cases h1 : meetD a b c d e f p q r u v w l with
      | true => unfold meetB at h; rw [hC, h1] at h; cases h
      | false => rfl
    have hR : rayV p q r u v w l = 0 := by
      unfold meetC at hC
      rw [Bool.or_eq_false_iff] at hC
      simpa using hC.2
    obtain ⟨r1, r2, r3⟩ := ray_fine hR
    have hl := near_notN r3
    unfold fineB at r1 r2
    rw [Bool.and_eq_true, Bool.and_eq_true] at r1 r2
    have hC' : meetC A B C D E G p q r u v w l = false := by unfold meetC; rw [hd, hR]; rfl
    have m : isN 4786511204640096256 = false := by decide +kernel
    obtain ⟨x1, x2, x3, x4⟩ := cutN_all (n := l) (n' := l) hl hl a1 A1 a4 A4 r1.1.1 r2.1.1 (Int.le_refl _) (by omega) (by omega)
    obtain ⟨y1, y2, y3, y4⟩ := cutN_all x1 x2 a2 A2 a5 A5 r1.1.2 r2.1.2 x3 (by omega) (by omega)
    obtain ⟨z1, z2, z3, z4⟩ := cutN_all y1 y2 a3 A3 a6 A6 r1.2 r2.2 y3 (by omega) (by omega)
    obtain ⟨f1, f2, f3⟩ := cutF_all (n := 4786511204640096256) (n' := 4786511204640096256) m m a1 A1 a4 A4 r1.1.1 r2.1.1 (Int.le_refl _) (by omega) (by omega)
    obtain ⟨g1, g2, g3⟩ := cutF_all f1 f2 a2 A2 a5 A5 r1.1.2 r2.1.2 f3 (by omega) (by omega)
    obtain ⟨h1, h2, h3⟩ := cutF_all g1 g2 a3 A3 a6 A6 r1.2 r2.2 g3 (by omega) (by omega)
    have o := hD
    unfold meetD at o
    rw [Bool.or_eq_false_iff] at o
    have oT : meetO a b c d e f p q r u v w = true := by simpa using o.1
    have oT' : meetO A B C D E G p q r u v w = true := by
      unfold meetO at *
      refine cutO_all a3 A3 a6 A6 r1.2 (fun g => ?_) (by omega) (by omega) oT
      refine cutO_all a2 A2 a5 A5 r1.1.2 (fun g => ?_) (by omega) (by omega) g
      exact cutO_all a1 A1 a4 A4 r1.1.1 (fun g => g) (by omega) (by omega) g
    have eN : meetN a b c d e f p q r u v w l = cutN (cutN (cutN l a d p u) b e q v) c f r w := rfl
    have eN' : meetN A B C D E G p q r u v w l = cutN (cutN (cutN l A D p u) B E q v) C G r w := rfl
    have eF : meetF a b c d e f p q r u v w = cutF (cutF (cutF 4786511204640096256 a d p u) b e q v) c f r w := rfl
    have eF' : meetF A B C D E G p q r u v w = cutF (cutF (cutF 4786511204640096256 A D p u) B E q v) C G r w := rfl
    rw [← eN] at z1 z3 z4
    rw [← eN'] at z2 z3
    rw [← eF] at h1 h3
    rw [← eF'] at h2 h3
    have hk := o.2
    rw [fgt_key z1 h1, decide_eq_false_iff_not] at hk
    have hD' : meetD A B C D E G p q r u v w l = false := by
      unfold meetD
      rw [oT', fgt_key z2 h2, decide_eq_false (by omega)]; rfl
    unfold meetB meetX meetY
    rw [hC, hC', hD, hD']
    dsimp only [cond_false]
    rw [le_key z2 z1, le_key h1 h2, le_key z1 h1, ge_key z1 hl, decide_eq_true (by omega), decide_eq_true (by omega), decide_eq_true (by omega), decide_eq_true (by omega)]
    exact ⟨rfl, rfl, rfl, rfl, rfl⟩
end Go.Proofs.Ytlinfehljjfkhaa
