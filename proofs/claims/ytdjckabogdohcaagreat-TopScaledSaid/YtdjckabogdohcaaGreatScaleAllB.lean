/- Boxes and rays times a power of two meet where they met (plain). -/
import Derived.Test.YtdjckabogdohcaaGreatScaleAllA
import Derived.Test.YtdjckabogdohcaaGreatMade
import Derived.Test.YtdjckabogdohcaaGreatShapeC
namespace Go.Proofs.YtdjckabogdohcaaGreat
open Go.RowKit Ev Ieee Flt
set_option linter.unusedVariables false
set_option linter.unusedSimpArgs false
set_option maxRecDepth 20000

namespace Flt
theorem Sc.m {e e' lo hi lo' hi' : Int} {x x' y y' : Nat} (hx : Sc e lo hi x x') (hy : Sc e' lo' hi' y y') (he : -20 ≤ e + e' ∧ e + e' ≤ 20 := by omega) (h1 : -1050 ≤ lo + lo' + 52 := by omega) (h2 : hi + hi' + 54 ≤ 850 := by omega) : Sc (e + e') (lo + lo' + 52) (hi + hi' + 54) (F .mul x y) (F .mul x' y') := hx.mul hy he h1 h2
theorem Sc.q {e e' lo hi lo' hi' : Int} {x x' y y' : Nat} (hx : Sc e lo hi x x') (hy : Sc e' lo' hi' y y') (h0 : feq y 0 = false) (he : -20 ≤ e - e' ∧ e - e' ≤ 20 := by omega) (h1 : -1050 ≤ lo - hi' - 53 := by omega) (h2 : hi - lo' - 51 ≤ 850 := by omega) : Sc (e - e') (lo - hi' - 53) (hi - lo' - 51) (F .quo x y) (F .quo x' y') := hx.quo hy h0 he h1 h2
theorem Sc.a {e lo hi lo' hi' : Int} {x x' y y' : Nat} (hx : Sc e lo hi x x') (hy : Sc e lo' hi' y y') (he : -20 ≤ e ∧ e ≤ 20 := by omega) (l1 : -1050 ≤ lo := by omega) (l2 : -1050 ≤ lo' := by omega) (h1 : -1050 ≤ min lo lo' - 52 := by omega) (h2 : max hi hi' + 2 ≤ 850 := by omega) : Sc e (min lo lo' - 52) (max hi hi' + 2) (F .add x y) (F .add x' y') := hx.add hy he l1 l2 h1 h2
theorem Sc.s {e lo hi lo' hi' : Int} {x x' y y' : Nat} (hx : Sc e lo hi x x') (hy : Sc e lo' hi' y y') (he : -20 ≤ e ∧ e ≤ 20 := by omega) (l1 : -1050 ≤ lo := by omega) (l2 : -1050 ≤ lo' := by omega) (h1 : -1050 ≤ min lo lo' - 52 := by omega) (h2 : max hi hi' + 2 ≤ 850 := by omega) : Sc e (min lo lo' - 52) (max hi hi' + 2) (F .sub x y) (F .sub x' y') := hx.sub hy he l1 l2 h1 h2
theorem Sc.c {e lo hi lo' hi' : Int} {x x' y y' : Nat} (hx : Sc e lo hi x x') (hy : Sc e lo' hi' y y') (he : -20 ≤ e ∧ e ≤ 20 := by omega) (l1 : -1050 ≤ lo := by omega) (l2 : -1050 ≤ lo' := by omega) : flt x' y' = flt x y ∧ feq x' y' = feq x y ∧ fgt x' y' = fgt x y := hx.cmp hy he l1 l2
theorem Sc.z {e lo hi : Int} {x x' : Nat} (hx : Sc e lo hi x x') (he : -20 ≤ e ∧ e ≤ 20 := by omega) (l1 : -1050 ≤ lo := by omega) : flt x' 0 = flt x 0 ∧ feq x' 0 = feq x 0 ∧ fgt x' 0 = fgt x 0 := hx.zero he l1
theorem Sc.w {e lo hi lo' hi' : Int} {x x' : Nat} (h : Sc e lo hi x x') (a : lo' ≤ lo := by omega) (b : hi ≤ hi' := by omega) : Sc e lo' hi' x x' := h.wk a b
/-- Quotients, whatever they are. -/
theorem Sc.quo_all {e lo hi lo' hi' : Int} {x x' y y' : Nat} (hx : Sc e lo hi x x') (hy : Sc e lo' hi' y y') : F .quo x' y' = F .quo x y := by
  have hy0 := hy
  rcases hy with ⟨t, b1, b2⟩ | ⟨t, n, j, b1, b2, b3, b4, b5, b6⟩
  · have g : fop .quo x' y' = fop .quo x y := by
      show ((double.read x').quotient (double.fractionBits + 2) (double.read y')).map double.write = ((double.read x).quotient (double.fractionBits + 2) (double.read y)).map double.write
      rcases hx with ⟨s, a1, a2⟩ | ⟨s, m, i, a1, a2, a3, a4, a5, a6⟩
      · rw [a1, a2, b1, b2]
      · rw [a5, a6, b1, b2]; simp [Datum.quotient]
    unfold F; rw [g]
  · refine (hx.quo_eq hy0 ?_).symm
    rw [feq_V ⟨_, _, _, b5⟩ Fin_0, V_0, V_of b5]
    exact decide_eq_false (signed_ne (by omega)).1
theorem near_of {x : Nat} {s : Bool} {m : Nat} {i : Int} (h : double.read x = .number s m i) (hm : m < 9007199254740992) (hi : i ≤ -34) (hl : -1074 ≤ i) : nearB x = true := by
  obtain ⟨κ, hκ, _⟩ := U_nat
  refine (near_V hκ).2 ⟨⟨_, _, _, h⟩, ?_⟩
  obtain ⟨k, hk⟩ : ∃ k : Nat, κ = 34 + k := ⟨κ - 34, by omega⟩
  have e : (V x).natAbs ≤ 9007199254740992 * 2 ^ k := by
    rw [V_of h, signed_abs, Nat.shiftLeft_eq]
    exact Nat.mul_le_mul (by omega) (Nat.pow_le_pow_right (by decide) (by omega))
  have e2 : 2 ^ κ = 17179869184 * 2 ^ k := by rw [hk, Nat.pow_add]
  rw [e2]
  generalize 2 ^ k = K at *
  omega
theorem Sc.near {e lo hi : Int} {x x' : Nat} (h : Sc e lo hi x x') (he : -3 ≤ e ∧ e ≤ 3) (l1 : -1050 ≤ lo := by omega) (h1 : hi ≤ -37 := by omega) : nearB x = true ∧ nearB x' = true := by
  rcases h with ⟨s, a, b⟩ | ⟨s, m, i, a1, a2, a3, a4, a5, a6⟩
  · exact ⟨(near_V rfl).2 ⟨⟨_, _, _, a⟩, by rw [V_of a, signed_0]; omega⟩, (near_V rfl).2 ⟨⟨_, _, _, b⟩, by rw [V_of b, signed_0]; omega⟩⟩
  · exact ⟨near_of a5 a2 (by omega) (by omega), near_of a6 a2 (by omega) (by omega)⟩
theorem fine3 {x y z : Nat} (h1 : nearB x = true) (h2 : nearB y = true) (h3 : nearB z = true) : fineB x y z = true := by unfold fineB; rw [h1, h2, h3]; rfl
theorem clean_of {x : Nat} {s : Bool} {m : Nat} {i : Int} (h : double.read x = .number s m i) (hm : 4503599627370496 ≤ m) (hi : -71 ≤ i) : feq x (cleanV x) = true := by
  obtain ⟨m0, i0, e1, e2⟩ := read_lo
  have hn : V 13740701229962882445 = -V 4517329193108106637 := V_neg_key ⟨_, _, _, e1⟩ ⟨_, _, _, e2⟩ (by decide +kernel)
  rw [clean_V ⟨_, _, _, h⟩, hn]
  have r1 : double.read 4517329193108106637 = .number false 4722366482869645 (-72) := by decide +kernel
  obtain ⟨k, hk⟩ : ∃ k : Nat, k = ((-72 : Int) + 1074).toNat := ⟨_, rfl⟩
  have v1 : V 4517329193108106637 = 4722366482869645 * ((2 ^ k : Nat) : Int) := by
    rw [V_of r1, ← hk]
    unfold signed
    rw [if_neg (by decide), Nat.shiftLeft_eq]
    exact Int.natCast_mul _ _
  have v2 : (V x).natAbs = m * 2 ^ (i + 1074).toNat := by rw [V_of h, signed_abs, Nat.shiftLeft_eq]
  have h1 : 4503599627370496 * 2 ^ (k + 1) ≤ m * 2 ^ (i + 1074).toNat := Nat.mul_le_mul hm (Nat.pow_le_pow_right (by decide) (by omega))
  rw [Nat.pow_succ] at h1
  rw [v1]
  generalize 2 ^ k = K at *
  generalize m * 2 ^ (i + 1074).toNat = M at *
  exact decide_eq_true (by omega)
theorem clean_z {x : Nat} {s : Bool} (h : double.read x = .number s 0 (-1074)) : feq x (cleanV x) = true := by
  rw [clean_V ⟨_, _, _, h⟩, V_of h, signed_0]
  exact decide_eq_true (.inl rfl)
theorem Sc.clean {e lo hi : Int} {x x' : Nat} (h : Sc e lo hi x x') (he : -3 ≤ e ∧ e ≤ 3) (l1 : -68 ≤ lo := by omega) : feq x (cleanV x) = true ∧ feq x' (cleanV x') = true := by
  rcases h with ⟨s, a, b⟩ | ⟨s, m, i, a1, a2, a3, a4, a5, a6⟩
  · exact ⟨clean_z a, clean_z b⟩
  · exact ⟨clean_of a5 a1 (by omega), clean_of a6 a1 (by omega)⟩
/-- A number of a shape or a ray, and of the one times a power of two. -/
abbrev Pt (e : Int) (x x' : Nat) : Prop := Sc e (-62) (-46) x x'
abbrev Wd (e : Int) (x x' : Nat) : Prop := Sc e (-240) (-38) x x'
theorem ray_sc {e : Int} {x y z u v w l x' y' z' u' v' w' : Nat} (he : -3 ≤ e ∧ e ≤ 3) (hx : Pt e x x') (hy : Pt e y y') (hz : Pt e z z') (hu : Pt e u u') (hv : Pt e v v') (hw : Pt e w w')
    (hl : nearB l = true) (l0 : flt l 0 = false) (hn : feq u 0 = false ∨ feq v 0 = false ∨ feq w 0 = false) : rayV x y z u v w l = 0 ∧ rayV x' y' z' u' v' w' l = 0 := by
  have g : ∀ {x y z u v w : Nat}, nearB x = true → nearB y = true → nearB z = true → nearB u = true → nearB v = true → nearB w = true → feq u (cleanV u) = true → feq v (cleanV v) = true → feq w (cleanV w) = true → (feq u 0 = false ∨ feq v 0 = false ∨ feq w 0 = false) → rayV x y z u v w l = 0 := fun {x y z u v w} h1 h2 h3 h4 h5 h6 h7 h8 h9 h0 => by
    unfold rayV
    rw [fine3 h1 h2 h3, fine3 h4 h5 h6, hl, h7, h8, h9, l0]
    rcases h0 with h | h | h <;> rw [h] <;> cases feq u 0 <;> cases feq v 0 <;> rfl
  refine ⟨g (hx.near he).1 (hy.near he).1 (hz.near he).1 (hu.near he).1 (hv.near he).1 (hw.near he).1 (hu.clean he).1 (hv.clean he).1 (hw.clean he).1 hn, g (hx.near he).2 (hy.near he).2 (hz.near he).2 (hu.near he).2 (hv.near he).2 (hw.near he).2 (hu.clean he).2 (hv.clean he).2 (hw.clean he).2 ?_⟩
  rw [hu.z.2.1, hv.z.2.1, hw.z.2.1]
  exact hn
theorem may_sc {e : Int} {a b c d f g a' b' c' d' f' g' : Nat} (he : -3 ≤ e ∧ e ≤ 3) (ha : Wd e a a') (hb : Wd e b b') (hc : Wd e c c') (hd : Wd e d d') (hf : Wd e f f') (hg : Wd e g g')
    (h1 : fgt a d = false) (h2 : fgt b f = false) (h3 : fgt c g = false) : mayV a b c d f g = 0 ∧ mayV a' b' c' d' f' g' = 0 := by
  unfold mayV
  rw [fine3 (ha.near he).1 (hb.near he).1 (hc.near he).1, fine3 (hd.near he).1 (hf.near he).1 (hg.near he).1, fine3 (ha.near he).2 (hb.near he).2 (hc.near he).2, fine3 (hd.near he).2 (hf.near he).2 (hg.near he).2, (ha.c hd).2.2, (hb.c hf).2.2, (hc.c hg).2.2, h1, h2, h3]
  exact ⟨rfl, rfl⟩
theorem cutA_sc {e : Int} {b f d b' f' d' : Nat} (he : -3 ≤ e ∧ e ≤ 3) (hb : Wd e b b') (hf : Pt e f f') (hd : Pt e d d') : cutA b' f' d' = cutA b f d := (hb.s hf).quo_all hd
theorem cut_sc {e : Int} {b t f d b' t' f' d' : Nat} (n : Nat) (o : Bool) (he : -3 ≤ e ∧ e ≤ 3) (hb : Wd e b b') (ht : Wd e t t') (hf : Pt e f f') (hd : Pt e d d') : cutN n b' t' f' d' = cutN n b t f d ∧ cutF n b' t' f' d' = cutF n b t f d ∧ cutO o b' t' f' d' = cutO o b t f d := by
  unfold cutN cutF cutO
  rw [hd.z.1, hd.z.2.1, cutA_sc he hb hf hd, cutA_sc he ht hf hd, (hb.c hf).1, (hb.c hf).2.1, (hf.c ht).1, (hf.c ht).2.1]
  exact ⟨rfl, rfl, rfl⟩
theorem meet_sc {e : Int} {a b c d f g x y z u v w l a' b' c' d' f' g' x' y' z' u' v' w' : Nat} (he : -3 ≤ e ∧ e ≤ 3) (ha : Wd e a a') (hb : Wd e b b') (hc : Wd e c c') (hd : Wd e d d') (hf : Wd e f f') (hg : Wd e g g')
    (h1 : fgt a d = false) (h2 : fgt b f = false) (h3 : fgt c g = false) (hx : Pt e x x') (hy : Pt e y y') (hz : Pt e z z') (hu : Pt e u u') (hv : Pt e v v') (hw : Pt e w w')
    (hl : nearB l = true) (l0 : flt l 0 = false) (hn : feq u 0 = false ∨ feq v 0 = false ∨ feq w 0 = false) :
    meetB a' b' c' d' f' g' x' y' z' u' v' w' l = meetB a b c d f g x y z u v w l ∧ meetX a' b' c' d' f' g' x' y' z' u' v' w' l = meetX a b c d f g x y z u v w l ∧ meetY a' b' c' d' f' g' x' y' z' u' v' w' l = meetY a b c d f g x y z u v w l := by
  have m := may_sc he ha hb hc hd hf hg h1 h2 h3
  have r := ray_sc he hx hy hz hu hv hw hl l0 hn
  have hC : meetC a' b' c' d' f' g' x' y' z' u' v' w' l = meetC a b c d f g x y z u v w l := by unfold meetC; rw [m.1, m.2, r.1, r.2]
  have c1 := fun n o => cut_sc n o he ha hd hx hu
  have c2 := fun n o => cut_sc n o he hb hf hy hv
  have c3 := fun n o => cut_sc n o he hc hg hz hw
  have hN : meetN a' b' c' d' f' g' x' y' z' u' v' w' l = meetN a b c d f g x y z u v w l := by unfold meetN; rw [(c1 _ true).1, (c2 _ true).1, (c3 _ true).1]
  have hF : meetF a' b' c' d' f' g' x' y' z' u' v' w' = meetF a b c d f g x y z u v w := by unfold meetF; rw [(c1 _ true).2.1, (c2 _ true).2.1, (c3 _ true).2.1]
  have hO : meetO a' b' c' d' f' g' x' y' z' u' v' w' = meetO a b c d f g x y z u v w := by unfold meetO; rw [(c1 0 _).2.2, (c2 0 _).2.2, (c3 0 _).2.2]
  have hD : meetD a' b' c' d' f' g' x' y' z' u' v' w' l = meetD a b c d f g x y z u v w l := by unfold meetD; rw [hO, hN, hF]
  unfold meetB meetX meetY
  rw [hC, hD, hN, hF]
  exact ⟨rfl, rfl, rfl⟩
/-- What is rounded keeps its order. -/
theorem sub_add_le {x y z w : Nat} (hx : Flt.Fin x) (hy : Flt.Fin y) (hz : Flt.Fin z) (hw : Flt.Fin w) (h : V x - V y ≤ V z + V w) : fgt (F .sub x y) (F .add z w) = false := by
  obtain ⟨t, r1, n1, k1⟩ := sub_form hx hy
  obtain ⟨t', r2, n2, k2⟩ := add_form hz hw
  rw [fgt_key n1 n2, k1, k2, show decide (V x < V y) = decide (V x - V y < 0) from decide_eq_decide.2 (by omega)]
  have := sg_mono h (fun g => rung_mono (I := II) (by decide) (by decide) (by omega) r1 r2) (fun g => rung_mono (I := II) (by decide) (by decide) (by omega) r2 r1)
  exact decide_eq_false (by omega)
theorem add_ge {x y : Nat} (hx : Low x) (hy : Flt.Fin y) (h : 0 ≤ V y) : fgt x (F .add x y) = false := by
  have hz := add_zero hx (.inl rfl : Zr 0)
  obtain ⟨t, r1, n1, k1⟩ := add_form hx.fin Fin_0
  obtain ⟨t', r2, n2, k2⟩ := add_form hx.fin hy
  have kx := (V_key hz.1.fin hx.fin).2.1 hz.2
  rw [fgt_key hx.fin.notN n2, ← kx, k1, k2]
  have h' : V x + V 0 ≤ V x + V y := by rw [V_0]; omega
  have := sg_mono h' (fun g => rung_mono (I := II) (by decide) (by decide) (by omega) r1 r2) (fun g => rung_mono (I := II) (by decide) (by decide) (by omega) r2 r1)
  exact decide_eq_false (by omega)
end Flt
end Go.Proofs.YtdjckabogdohcaaGreat
/- Shapes and rays times a power of two strike where they struck, kind by kind (plain). -/
namespace Go.Proofs.YtdjckabogdohcaaGreat
open Go.RowKit Ev Ieee Flt
set_option linter.unusedVariables false
set_option linter.unusedSimpArgs false
set_option maxRecDepth 20000

namespace Flt
theorem Sc.to {e e' lo hi : Int} {x x' : Nat} (h : Sc e lo hi x x') (he : e = e' := by omega) : Sc e' lo hi x x' := he ▸ h
/-- A ray, and one times a power of two. -/
structure Ry (E : Int) (x y z u v w l x' y' z' u' v' w' : Nat) : Prop where
  e : -3 ≤ E ∧ E ≤ 3
  px : Pt E x x'
  py : Pt E y y'
  pz : Pt E z z'
  pu : Pt E u u'
  pv : Pt E v v'
  pw : Pt E w w'
  pl : nearB l = true
  pl0 : flt l 0 = false
  pn : feq u 0 = false ∨ feq v 0 = false ∨ feq w 0 = false
theorem nn_flt {x : Nat} (hf : Flt.Fin x) (h : (fgt x 0 || feq x 0) = true) : flt x 0 = false := by
  rw [fgt_flt, flt_V Fin_0 hf, feq_V hf Fin_0, Bool.or_eq_true, decide_eq_true_eq, decide_eq_true_eq] at h
  rw [flt_V hf Fin_0]
  exact decide_eq_false (by omega)
theorem ab_sc {E : Int} {x y z u v w r x' y' z' u' v' w' r' : Nat} (he : -3 ≤ E ∧ E ≤ 3) (hx : Sc E (-114) (-44) x x') (hy : Sc E (-114) (-44) y y') (hz : Sc E (-114) (-44) z z') (hu : Sc E (-62) 0 u u') (hv : Sc E (-62) 0 v v') (hw : Sc E (-62) 0 w w') (hr : Pt E r r') :
    abO x' y' z' u' v' w' r' = abO x y z u v w r ∧ abI x' y' z' u' v' w' r' = abI x y z u v w r ∧ abU x' y' z' u' v' w' r' = abU x y z u v w r := by
  have dd := ((hu.m hu).a (hv.m hv)).a (hw.m hw)
  have hh := ((hx.m hu).a (hy.m hv)).a (hz.m hw)
  have oo := ((hx.m hx).a (hy.m hy)).a (hz.m hz)
  have cc := oo.s (hr.m hr)
  have ee := (hh.m hh).s (dd.m cc)
  have hO : abO x' y' z' u' v' w' r' = abO x y z u v w r := by
    have h := ee.z
    unfold abO abE dotV
    rw [h.2.1, h.2.2]
  unfold abI abU
  rw [hO]
  cases hq : abO x y z u v w r
  · exact ⟨rfl, rfl, rfl⟩
  · have h0 : flt (abE x y z u v w r) 0 = false := nn_flt ee.fin.1 hq
    have ss := ee.sqrt h0 (by omega) (by omega) (by omega)
    exact ⟨rfl, (hh.neg.s ss).quo_all dd, (hh.neg.a ss).quo_all dd⟩
theorem box_le {x y : Nat} (hx : Flt.Fin x) (hy : Flt.Fin y) (h : 0 ≤ V y) : fgt (F .sub x y) (F .add x y) = false := sub_add_le hx hy hx hy (by omega)
theorem gt_V {x : Nat} (hf : Flt.Fin x) (h : fgt x 0 = true) : 0 < V x := by
  rw [fgt_flt, flt_V Fin_0 hf, V_0, decide_eq_true_eq] at h
  exact h
theorem boxE_0 {a b c d e f : Nat} (h : mayV a b c d e f = 0) : boxE a b c d e f = 0 := by unfold boxE; rw [h]; rfl
theorem ball_sc {E : Int} {a b c r x y z u v w l a' b' c' r' x' y' z' u' v' w' : Nat} (R : Ry E x y z u v w l x' y' z' u' v' w') (ha : Pt E a a') (hb : Pt E b b') (hc : Pt E c c') (hr : Pt E r r') (h0 : fgt r 0 = true) :
    sT1 a' b' c' r' x' y' z' u' v' w' l = sT1 a b c r x y z u v w l ∧ sO1 a' b' c' r' x' y' z' u' v' w' l = sO1 a b c r x y z u v w l ∧ ballE a b c r = 0 ∧ ballE a' b' c' r' = 0 := by
  have he := R.e
  have rv := Int.le_of_lt (gt_V hr.fin.1 h0)
  have L1 := box_le ha.fin.1 hr.fin.1 rv
  have L2 := box_le hb.fin.1 hr.fin.1 rv
  have L3 := box_le hc.fin.1 hr.fin.1 rv
  have B1 : Wd E _ _ := (ha.s hr).w
  have B2 : Wd E _ _ := (hb.s hr).w
  have B3 : Wd E _ _ := (hc.s hr).w
  have B4 : Wd E _ _ := (ha.a hr).w
  have B5 : Wd E _ _ := (hb.a hr).w
  have B6 : Wd E _ _ := (hc.a hr).w
  have M := meet_sc he B1 B2 B3 B4 B5 B6 L1 L2 L3 R.px R.py R.pz R.pu R.pv R.pw R.pl R.pl0 R.pn
  have Y := may_sc he B1 B2 B3 B4 B5 B6 L1 L2 L3
  have A := ab_sc he ((R.px.s ha).w) ((R.py.s hb).w) ((R.pz.s hc).w) R.pu.w R.pv.w R.pw.w hr
  refine ⟨?_, ?_, ?_, ?_⟩
  · unfold sT1 orI; rw [M.1, M.2.1, M.2.2, A.1, A.2.1, A.2.2]
  · unfold sO1 orI; rw [M.1, A.1, A.2.1, A.2.2]
  · unfold ballE; rw [h0]; exact boxE_0 Y.1
  · unfold ballE; rw [hr.z.2.2, h0]; exact boxE_0 Y.2
theorem block_sc {E : Int} {a b c d e f x y z u v w l a' b' c' d' e' f' x' y' z' u' v' w' : Nat} (R : Ry E x y z u v w l x' y' z' u' v' w') (B1 : Wd E a a') (B2 : Wd E b b') (B3 : Wd E c c') (B4 : Wd E d d') (B5 : Wd E e e') (B6 : Wd E f f')
    (L1 : fgt a d = false) (L2 : fgt b e = false) (L3 : fgt c f = false) :
    sT2 a' b' c' d' e' f' x' y' z' u' v' w' l = sT2 a b c d e f x y z u v w l ∧ sO2 a' b' c' d' e' f' x' y' z' u' v' w' l = sO2 a b c d e f x y z u v w l ∧ blockE a b c d e f = 0 ∧ blockE a' b' c' d' e' f' = 0 := by
  have M := meet_sc R.e B1 B2 B3 B4 B5 B6 L1 L2 L3 R.px R.py R.pz R.pu R.pv R.pw R.pl R.pl0 R.pn
  have Y := may_sc R.e B1 B2 B3 B4 B5 B6 L1 L2 L3
  refine ⟨?_, ?_, ?_, ?_⟩
  · unfold sT2; rw [M.1, M.2.1, M.2.2]
  · unfold sO2; rw [M.1, M.2.1, M.2.2]
  · unfold blockE; rw [Y.1]; rfl
  · unfold blockE; rw [Y.2]; rfl
theorem abs_sc {E lo hi lo' hi' : Int} {x x' y y' : Nat} (hx : Sc E lo hi x x') (hy : Sc E lo' hi' y y') (he : -20 ≤ E ∧ E ≤ 20) (l1 : -1050 ≤ lo) (l2 : -1050 ≤ lo') : fgt (absF x') (absF y') = fgt (absF x) (absF y) := by
  rw [abs_gt hx.fin.2.notN hy.fin.2.notN, abs_gt hx.fin.1.notN hy.fin.1.notN]
  have g : ∀ {x y : Nat}, Flt.Fin x → Flt.Fin y → ((key y).natAbs < (key x).natAbs ↔ (V y).natAbs < (V x).natAbs) := fun hx hy => by rw [V_absK hx, V_absK hy]; exact Vr_cmp.1.symm
  refine decide_eq_decide.2 ?_
  rw [g hx.fin.2 hy.fin.2, g hx.fin.1 hy.fin.1]
  have k := fun {lo hi : Int} {x x' : Nat} (h : Sc E lo hi x x') (hl : -1050 ≤ lo) => congrArg Int.natAbs (h.V he hl)
  simp only [Int.natAbs_mul, Int.natAbs_natCast] at k
  have k1 := k hx l1
  have k2 := k hy l2
  have h := cmp_sc (a' := ((V y').natAbs : Int)) (b' := ((V x').natAbs : Int)) (a := ((V y).natAbs : Int)) (b := ((V x).natAbs : Int)) (Nat.two_pow_pos 20) (Nat.two_pow_pos (20 + E).toNat) (by exact_mod_cast k2) (by exact_mod_cast k1)
  have := h.1
  omega
theorem deep_sc {E : Int} {u v w u' v' w' : Nat} (he : -3 ≤ E ∧ E ≤ 3) (hu : Pt E u u') (hv : Pt E v v') (hw : Pt E w w') : deepV u' v' w' = deepV u v w := by
  unfold deepV
  rw [abs_sc hv hu (by omega) (by omega) (by omega), abs_sc hw hv (by omega) (by omega) (by omega), abs_sc hw hu (by omega) (by omega) (by omega)]
theorem deep_ne {u v w : Nat} (hu : Flt.Fin u) (hv : Flt.Fin v) (hw : Flt.Fin w) (n : feq u 0 = false ∨ feq v 0 = false ∨ feq w 0 = false) : (deepV u v w = 0 → feq u 0 = false) ∧ (deepV u v w = 1 → feq v 0 = false) ∧ (deepV u v w = 2 → feq w 0 = false) := by
  have z : ∀ {x : Nat}, Flt.Fin x → feq x 0 = decide (key x = 0) := fun {x} h => by rw [feq_key h.notN Fin_0.notN, key_0]
  rw [z hu, z hv, z hw, decide_eq_false_iff_not, decide_eq_false_iff_not, decide_eq_false_iff_not] at *
  unfold deepV
  rw [abs_gt hv.notN hu.notN, abs_gt hw.notN hv.notN, abs_gt hw.notN hu.notN]
  by_cases g1 : (key u).natAbs < (key v).natAbs <;> by_cases g2 : (key v).natAbs < (key w).natAbs <;> by_cases g3 : (key u).natAbs < (key w).natAbs <;> simp only [decide_eq_true_eq, g1, g2, g3, decide_true, decide_false, cond_true, cond_false] <;> omega
abbrev Vx (E : Int) (x x' : Nat) : Prop := Sc E (-114) (-44) x x'
theorem one_sc : Sc 0 (-52) (-52) 4607182418800017408 4607182418800017408 := .inr ⟨false, 4503599627370496, -52, by omega, by omega, by omega, by omega, by decide +kernel, by decide +kernel⟩
theorem tri0_sc {E : Int} {a b c d e f g h i x y z u v w l a' b' c' d' e' f' g' h' i' x' y' z' u' v' w' : Nat} (he : -3 ≤ E ∧ E ≤ 3) (hx : Pt E x x') (hy : Pt E y y') (hz : Pt E z z') (hu : Pt E u u') (hv : Pt E v v') (hw : Pt E w w') (ha : Vx E a a') (hb : Vx E b b') (hc : Vx E c c') (hd : Vx E d d') (he' : Vx E e e') (hf : Vx E f f') (hg : Vx E g g') (hh : Vx E h h') (hi : Vx E i i') (h0 : feq u 0 = false) :
    trT0 a' b' c' d' e' f' g' h' i' x' y' z' u' v' w' = trT0 a b c d e f g h i x y z u v w ∧ trO0 a' b' c' d' e' f' g' h' i' x' y' z' u' v' w' = trO0 a b c d e f g h i x y z u v w := by
  have sx := (hv.q hu h0).to (e' := 0)
  have sy := (hw.q hu h0).to (e' := 0)
  have sz := one_sc.q hu h0
  have X := fun {p q p' q' : Nat} (hp : Vx E p p') (hq : Vx E q q') => ((hq.s hy).s ((sx.m (hp.s hx)).to (e' := E))).w (lo' := -235) (hi' := -21)
  have Y := fun {p q p' q' : Nat} (hp : Vx E p p') (hq : Vx E q q') => ((hq.s hz).s ((sy.m (hp.s hx)).to (e' := E))).w (lo' := -235) (hi' := -21)
  have Z := fun {p p' : Nat} (hp : Vx E p p') => ((sz.m (hp.s hx)).to (e' := 0)).w (lo' := -200) (hi' := 0)
  have D := fun {p q r s t o p' q' r' s' t' o' : Nat} (hp : Vx E p p') (hq : Vx E q q') (hr : Vx E r r') (hs : Vx E s s') (ht : Vx E t t') (ho : Vx E o o') => (((X hp hq).m (Y hs ho)).s ((Y hp hr).m (X hs ht))).w (lo' := -470) (hi' := 20)
  have D1 := D hd he' hf hg hh hi
  have D2 := D hg hh hi ha hb hc
  have D3 := D ha hb hc hd he' hf
  have T := (D1.a D2).a D3
  have N := ((((D1.m (Z ha)).to (e' := E + E)).a ((D2.m (Z hd)).to (e' := E + E))).a ((D3.m (Z hg)).to (e' := E + E)))
  have hO : trO0 a' b' c' d' e' f' g' h' i' x' y' z' u' v' w' = trO0 a b c d e f g h i x y z u v w := by
    have z1 := D1.z
    have z2 := D2.z
    have z3 := D3.z
    have z4 := T.z
    unfold trO0 thrB sdV0 plX0 plY0
    rw [z1.1, z1.2.2, z2.1, z2.2.2, z3.1, z3.2.2, z4.2.1]
  refine ⟨?_, hO⟩
  unfold trT0
  rw [hO]
  cases trO0 a b c d e f g h i x y z u v w
  · rfl
  · exact N.quo_all T
theorem tri_sc {E : Int} {a b c d e f g h i x y z u v w l a' b' c' d' e' f' g' h' i' x' y' z' u' v' w' : Nat} (R : Ry E x y z u v w l x' y' z' u' v' w') (ha : Vx E a a') (hb : Vx E b b') (hc : Vx E c c') (hd : Vx E d d') (he' : Vx E e e') (hf : Vx E f f') (hg : Vx E g g') (hh : Vx E h h') (hi : Vx E i i') :
    trT a' b' c' d' e' f' g' h' i' x' y' z' u' v' w' = trT a b c d e f g h i x y z u v w ∧ trO a' b' c' d' e' f' g' h' i' x' y' z' u' v' w' = trO a b c d e f g h i x y z u v w := by
  have ne := deep_ne R.pu.fin.1 R.pv.fin.1 R.pw.fin.1 R.pn
  unfold trT trO
  rw [deep_sc R.e R.pu R.pv R.pw]
  rcases deepV_or u v w with k | k | k <;> rw [k]
  · exact tri0_sc (l := l) R.e R.px R.py R.pz R.pu R.pv R.pw ha hb hc hd he' hf hg hh hi (ne.1 k)
  · exact tri0_sc (l := l) R.e R.py R.pz R.px R.pv R.pw R.pu hb hc ha he' hf hd hh hi hg (ne.2.1 k)
  · exact tri0_sc (l := l) R.e R.pz R.px R.py R.pw R.pu R.pv hc ha hb hf hd he' hi hg hh (ne.2.2 k)
theorem three_le {x y z : Nat} (hx : Low x) (hy : Low y) (hz : Low z) : fgt (lessV (lessV x y) z) (moreV (moreV x y) z) = false := by
  have l1 := less_V hx hy
  have l2 := less_V l1.1 hz
  have m1 := more_V hx hy
  have m2 := more_V m1.1 hz
  rw [fgt_flt, flt_V m2.1.fin l2.1.fin, m2.2, m1.2, l2.2, l1.2]
  exact decide_eq_false (by omega)
theorem Sc.low {e lo hi : Int} {x x' : Nat} (h : Sc e lo hi x x') (he : -3 ≤ e ∧ e ≤ 3) (l1 : -1050 ≤ lo := by omega) (h1 : hi ≤ -37 := by omega) : Low x := near_low (h.near he l1 h1).1
theorem triS_sc {E : Int} {a b c d e f g h i x y z u v w l a' b' c' d' e' f' g' h' i' x' y' z' u' v' w' : Nat} (R : Ry E x y z u v w l x' y' z' u' v' w') (ha : Vx E a a') (hb : Vx E b b') (hc : Vx E c c') (hd : Vx E d d') (he' : Vx E e e') (hf : Vx E f f') (hg : Vx E g g') (hh : Vx E h h') (hi : Vx E i i') :
    sT3 a' b' c' d' e' f' g' h' i' x' y' z' u' v' w' l = sT3 a b c d e f g h i x y z u v w l ∧ sO3 a' b' c' d' e' f' g' h' i' x' y' z' u' v' w' l = sO3 a b c d e f g h i x y z u v w l ∧ triE a b c d e f g h i = 0 ∧ triE a' b' c' d' e' f' g' h' i' = 0 := by
  have he := R.e
  have lw := fun {x x' : Nat} (h : Vx E x x') => h.low he
  have L1 := three_le (lw ha) (lw hd) (lw hg)
  have L2 := three_le (lw hb) (lw he') (lw hh)
  have L3 := three_le (lw hc) (lw hf) (lw hi)
  have lo := fun {x x' y y' z z' : Nat} (h1 : Vx E x x') (h2 : Vx E y y') (h3 : Vx E z z') => (((h1.less h2 (by omega) (by omega) (by omega)).less h3 (by omega) (by omega) (by omega)).w (lo' := -240) (hi' := -38))
  have up := fun {x x' y y' z z' : Nat} (h1 : Vx E x x') (h2 : Vx E y y') (h3 : Vx E z z') => (((h1.more h2 (by omega) (by omega) (by omega)).more h3 (by omega) (by omega) (by omega)).w (lo' := -240) (hi' := -38))
  have M := meet_sc he (lo ha hd hg) (lo hb he' hh) (lo hc hf hi) (up ha hd hg) (up hb he' hh) (up hc hf hi) L1 L2 L3 R.px R.py R.pz R.pu R.pv R.pw R.pl R.pl0 R.pn
  have Y := may_sc he (lo ha hd hg) (lo hb he' hh) (lo hc hf hi) (up ha hd hg) (up hb he' hh) (up hc hf hi) L1 L2 L3
  have T := tri_sc R ha hb hc hd he' hf hg hh hi
  refine ⟨?_, ?_, ?_, ?_⟩
  · unfold sT3; rw [M.1, M.2.1, M.2.2, T.1, T.2]
  · unfold sO3; rw [M.1, T.1, T.2]
  · exact boxE_0 Y.1
  · exact boxE_0 Y.2
end Flt
end Go.Proofs.YtdjckabogdohcaaGreat
/- Tubes and plates times a power of two, and the numbers that are made (plain). -/
namespace Go.Proofs.YtdjckabogdohcaaGreat
open Go.RowKit Ev Ieee Flt
set_option linter.unusedVariables false
set_option linter.unusedSimpArgs false
set_option maxRecDepth 20000

namespace Flt
theorem sc_z {e lo hi : Int} : Sc e lo hi 0 0 := .inl ⟨false, by decide +kernel, by decide +kernel⟩
theorem wo_sc {E lo hi : Int} {x x' : Nat} (k j : Int) (h : Sc E lo hi x x') : Sc E lo hi (wo k j x) (wo k j x') := by
  unfold wo; cases k == j
  · exact h
  · exact sc_z
theorem wz_sc {E lo hi : Int} {x x' : Nat} (k : Int) (h : Sc E lo hi x x') : Sc E lo hi (wz k x) (wz k x') := by
  unfold wz; cases k == 0 || k == 1
  · exact sc_z
  · exact h
theorem wo_nn {x : Nat} (k j : Int) (h : 0 ≤ V x) : 0 ≤ V (wo k j x) := by
  unfold wo; cases k == j
  · exact h
  · rw [cond_true, V_0]; omega
theorem wz_nn {x : Nat} (k : Int) (h : 0 ≤ V x) : 0 ≤ V (wz k x) := by
  unfold wz; cases k == 0 || k == 1
  · rw [cond_false, V_0]; omega
  · exact h
theorem alone_sc {E : Int} {d e f d' e' f' : Nat} (he : -3 ≤ E ∧ E ≤ 3) (hd : Pt E d d') (h : Pt E e e') (hf : Pt E f f') : aloneV d' e' f' = aloneV d e f := by
  unfold aloneV; rw [hd.z.2.1, h.z.2.1, hf.z.2.1]
theorem pair_le {x y w : Nat} (hx : Low x) (hy : Low y) (hw : Flt.Fin w) (h : 0 ≤ V w) : fgt (F .sub (lessV x y) w) (F .add (moreV x y) w) = false := by
  have l := less_V hx hy
  have m := more_V hx hy
  exact sub_add_le l.1.fin hw m.1.fin hw (by rw [l.2, m.2]; omega)
theorem tube_sc {E : Int} {a b c d e f r x y z u v w l a' b' c' d' e' f' r' x' y' z' u' v' w' : Nat} (R : Ry E x y z u v w l x' y' z' u' v' w') (ha : Pt E a a') (hb : Pt E b b') (hc : Pt E c c') (hd : Pt E d d') (he' : Pt E e e') (hf : Pt E f f') (hr : Pt E r r') (h0 : fgt r 0 = true) (hk : 0 ≤ aloneV d e f) :
    sT5 a' b' c' d' e' f' r' x' y' z' u' v' w' l = sT5 a b c d e f r x y z u v w l ∧ sO5 a' b' c' d' e' f' r' x' y' z' u' v' w' l = sO5 a b c d e f r x y z u v w l ∧ tubeE a b c d e f r = 0 ∧ tubeE a' b' c' d' e' f' r' = 0 := by
  have he := R.e
  have rv := Int.le_of_lt (gt_V hr.fin.1 h0)
  have K := alone_sc he hd he' hf
  unfold sT5 sO5 tubeE tuT tuO tuI tuU tuZ
  rw [K, hr.z.2.2, h0]
  generalize aloneV d e f = k at *
  have lw := fun {lo hi : Int} {x x' : Nat} (h : Sc E lo hi x x') (h1 : -1050 ≤ lo) (h2 : hi ≤ -37) => h.low he h1 h2
  have L1 := pair_le (lw ha (by omega) (by omega)) (lw (ha.a hd) (by omega) (by omega)) (wo_sc k 0 hr).fin.1 (wo_nn k 0 rv)
  have L2 := pair_le (lw hb (by omega) (by omega)) (lw (hb.a he') (by omega) (by omega)) (wo_sc k 1 hr).fin.1 (wo_nn k 1 rv)
  have L3 := pair_le (lw hc (by omega) (by omega)) (lw (hc.a hf) (by omega) (by omega)) (wz_sc k hr).fin.1 (wz_nn k rv)
  have B1 : Wd E _ _ := ((ha.less (ha.a hd) (by omega) (by omega) (by omega)).s (wo_sc k 0 hr)).w
  have B2 : Wd E _ _ := ((hb.less (hb.a he') (by omega) (by omega) (by omega)).s (wo_sc k 1 hr)).w
  have B3 : Wd E _ _ := ((hc.less (hc.a hf) (by omega) (by omega) (by omega)).s (wz_sc k hr)).w
  have B4 : Wd E _ _ := ((ha.more (ha.a hd) (by omega) (by omega) (by omega)).a (wo_sc k 0 hr)).w
  have B5 : Wd E _ _ := ((hb.more (hb.a he') (by omega) (by omega) (by omega)).a (wo_sc k 1 hr)).w
  have B6 : Wd E _ _ := ((hc.more (hc.a hf) (by omega) (by omega) (by omega)).a (wz_sc k hr)).w
  have M := meet_sc he B1 B2 B3 B4 B5 B6 L1 L2 L3 R.px R.py R.pz R.pu R.pv R.pw R.pl R.pl0 R.pn
  have Y := may_sc he B1 B2 B3 B4 B5 B6 L1 L2 L3
  have X1 : Sc E (-114) (-44) _ _ := wo_sc k 0 (R.px.s ha).w
  have X2 : Sc E (-114) (-44) _ _ := wo_sc k 1 (R.py.s hb).w
  have X3 : Sc E (-114) (-44) _ _ := wz_sc k (R.pz.s hc).w
  have U1 := wo_sc k 0 R.pu
  have U2 := wo_sc k 1 R.pv
  have U3 := wz_sc k R.pw
  have A := ab_sc he X1 X2 X3 U1.w U2.w U3.w hr
  have dd := (((X1.m X1).a (X2.m X2)).a (X3.m X3)).c (hr.m hr)
  have d1 := dd.1
  have d2 := dd.2.1
  unfold dotV
  rw [M.1, M.2.1, M.2.2, U1.z.2.1, U2.z.2.1, U3.z.2.1, A.1, A.2.1, A.2.2, d1, d2]
  rw [decide_eq_true hk]
  exact ⟨rfl, rfl, boxE_0 Y.1, boxE_0 Y.2⟩
/-- What is written of a number that is not nought. -/
theorem near_ne {s : Bool} {W : Nat} {p : Int} (hW : W ≠ 0) (h1 : -1050 ≤ p + W.log2 - 52) (h2 : p + W.log2 - 52 ≤ 850) : ∃ m i, 4503599627370496 ≤ m ∧ double.read (double.nearest s W p) = .number s m i := by
  obtain ⟨m, i, a, b, c, d, e, f⟩ := near_sc (neg := s) (p := p) (e := 0) hW h1 h2 (by omega)
  exact ⟨m, i, a, e⟩
theorem V_pos_of {x : Nat} {m : Nat} {i : Int} (h : double.read x = .number false m i) (hm : 0 < m) : 0 < V x := by
  rw [V_of h]; unfold signed; rw [if_neg (by decide), Nat.shiftLeft_eq]
  have := Nat.mul_pos hm (Nat.two_pow_pos (i + 1074).toNat)
  omega
theorem read_pos {s : Bool} {x m : Nat} {i : Int} (h : double.read x = .number s m i) (hv : 0 < V x) : s = false := by
  cases s
  · rfl
  · exfalso
    rw [V_of h] at hv; unfold signed at hv; rw [if_pos rfl] at hv; generalize m <<< (i + 1074).toNat = A at hv; omega
theorem Sc.pos {e lo hi : Int} {x x' : Nat} (h : Sc e lo hi x x') (hv : 0 < Flt.V x) : ∃ m i, 4503599627370496 ≤ m ∧ m < 9007199254740992 ∧ lo ≤ i ∧ i ≤ hi ∧ double.read x = .number false m i := by
  rcases h with ⟨s, a, b⟩ | ⟨s, m, i, a1, a2, a3, a4, a5, a6⟩
  · rw [V_of a, signed_0] at hv; omega
  · have := read_pos a5 hv
    subst this
    exact ⟨m, i, a1, a2, a3, a4, a5⟩
theorem quo_pos {lo hi lo' hi' : Int} {x y : Nat} (hx : Sc 0 lo hi x x) (hy : Sc 0 lo' hi' y y) (px : 0 < V x) (py : 0 < V y) (h1 : -1000 ≤ lo - hi' - 53 := by omega) (h2 : hi - lo' - 51 ≤ 800 := by omega) : 0 < V (F .quo x y) := by
  obtain ⟨m, i, a1, a2, a3, a4, a5⟩ := hx.pos px
  obtain ⟨n, j, b1, b2, b3, b4, b5⟩ := hy.pos py
  have hn : n ≠ 0 := by omega
  rw [F_near (fop_quo a5 b5 hn)]
  have lm := log2_52 a1 a2
  have ln := log2_52 b1 b2
  rw [ln, lm, show 54 + 52 - 52 = 54 by decide]
  have d0 : m <<< 54 = m * 18014398509481984 := Nat.shiftLeft_eq m 54
  rw [d0]
  have d1 : 9007199254740992 ≤ m * 18014398509481984 / n := by
    rw [Nat.le_div_iff_mul_le (by omega)]
    omega
  have d2 : m * 18014398509481984 / n < 36028797018963968 := by
    rw [Nat.div_lt_iff_lt_mul (by omega)]
    omega
  have tb : ((m * 18014398509481984) % n != 0).toNat ≤ 1 := by cases ((m * 18014398509481984) % n != 0) <;> decide
  generalize m * 18014398509481984 / n = D at *
  generalize ((m * 18014398509481984) % n != 0).toNat = T at *
  have h0 : 2 * D + T ≠ 0 := by omega
  have h5 := (Nat.le_log2 h0).2 (show 2 ^ 54 ≤ 2 * D + T by rw [show (2 : Nat) ^ 54 = 18014398509481984 by decide]; omega)
  have h6 := (Nat.log2_lt h0).2 (show 2 * D + T < 2 ^ 56 by rw [show (2 : Nat) ^ 56 = 72057594037927936 by decide]; omega)
  obtain ⟨m', i', c1, c2⟩ := near_ne (s := false ^^ false) (p := i - j - ((54 : Nat) : Int) - 1) h0 (by omega) (by omega)
  exact V_pos_of c2 (by omega)
/-- Whole numbers, and thousandths. -/
theorem nI_sc {i : Int} (h : -8191 ≤ i ∧ i ≤ 8191) : Sc 0 (-52) (-39) (cn (FloatKind.f64.nearest i)) (cn (FloatKind.f64.nearest i)) := by
  have e : cn (FloatKind.f64.nearest i) = double.nearest (decide (i < 0)) i.natAbs 0 := cn_notN (near_num _ _ _)
  rw [e]
  exact Sc.mk (e := 0) (p := 0) (by omega) (fun h0 => by
    have := (Nat.log2_lt h0).2 (show i.natAbs < 2 ^ 13 by rw [show (2 : Nat) ^ 13 = 8192 by decide]; omega)
    omega) (by omega) (by omega)
theorem k_sc : Sc 0 (-43) (-43) 4652007308841189376 4652007308841189376 := .inr ⟨false, 8796093022208000, -43, by omega, by omega, by omega, by omega, by decide +kernel, by decide +kernel⟩
theorem k_V : 0 < V 4652007308841189376 := V_pos_of (show double.read 4652007308841189376 = .number false 8796093022208000 (-43) by decide +kernel) (by decide)
theorem tho_sc {i : Int} (h : -8191 ≤ i ∧ i ≤ 8191) : Pt 0 (thoF i) (thoF i) := ((nI_sc h).q k_sc (by decide +kernel)).to.w
theorem tho_pos {i : Int} (h : 1 ≤ i ∧ i ≤ 8191) : 0 < V (thoF i) := by
  refine quo_pos (nI_sc (by omega)) k_sc ?_ k_V
  have v := iv_near (z := i) (by omega)
  obtain ⟨κ, hκ, hU⟩ := U_nat
  rw [v.V hU]
  exact Int.mul_pos (by omega) (by have := Nat.two_pow_pos κ; omega)
theorem tho_0 : thoF 0 = 0 := by decide +kernel
theorem tho_nn {i : Int} (h : 0 ≤ i ∧ i ≤ 8191) : 0 ≤ V (thoF i) := by
  by_cases g : i = 0
  · subst g; rw [tho_0, V_0]; omega
  · exact Int.le_of_lt (tho_pos (by omega))
theorem mil_sc (c : Int) {most : Int} (h : 0 ≤ most ∧ most ≤ 8000) : Pt 0 (milF c most) (milF c most) := by
  have := pickF_bd c (2 * most + 1) (by omega)
  unfold milF
  exact tho_sc (by omega)
theorem one_pt : Pt 0 4607182418800017408 4607182418800017408 := one_sc.w
theorem z_pt {e : Int} : Pt e 0 0 := sc_z
/-- What a plate is square to. -/
theorem sqr_nn {lo hi : Int} {d : Nat} (h : Sc 0 lo hi d d) (l1 : -400 ≤ lo := by omega) (h1 : hi ≤ 300 := by omega) : 0 ≤ V (F .mul d d) ∧ (feq d 0 = false → 0 < V (F .mul d d)) := by
  rcases h with ⟨s, a, b⟩ | ⟨s, m, i, a1, a2, a3, a4, a5, a6⟩
  · rw [F_near (fop_mul a a), Nat.mul_zero, near_0, V_of (read_zero _), signed_0]
    refine ⟨by omega, fun h => ?_⟩
    rw [feq_V ⟨_, _, _, a⟩ Fin_0, V_0, V_of a, signed_0] at h
    exact absurd h (by decide)
  · have p : 0 < V (F .mul d d) := by
      rw [F_near (fop_mul a5 a5), Bool.xor_self]
      have h0 : m * m ≠ 0 := by
        have := Nat.mul_pos (show 0 < m by omega) (show 0 < m by omega); omega
      have h3 : 2 ^ 104 ≤ m * m := by
        have := Nat.mul_le_mul a1 a1
        rw [show (2 : Nat) ^ 104 = 4503599627370496 * 4503599627370496 by decide]; exact this
      have h4 : m * m < 2 ^ 106 := by
        have := Nat.mul_lt_mul'' a2 a2
        rw [show (2 : Nat) ^ 106 = 9007199254740992 * 9007199254740992 by decide]; exact this
      have h5 := (Nat.le_log2 h0).2 h3
      have h6 := (Nat.log2_lt h0).2 h4
      obtain ⟨m', i', c1, c2⟩ := near_ne (s := false) (p := i + i) h0 (by omega) (by omega)
      exact V_pos_of c2 (by omega)
    exact ⟨Int.le_of_lt p, fun _ => p⟩
theorem Sc.lw {e lo hi : Int} {x x' : Nat} (h : Sc e lo hi x x') (h1 : hi ≤ 850 := by omega) : Low x := by
  rcases h with ⟨s, a, b⟩ | ⟨s, m, i, a1, a2, a3, a4, a5, a6⟩
  · exact ⟨s, 0, -1074, a, by omega⟩
  · exact ⟨s, m, i, a5, by omega⟩
theorem add_nn {lo hi lo' hi' : Int} {x y : Nat} (hx : Sc 0 lo hi x x) (hy : Sc 0 lo' hi' y y) (h1 : 0 ≤ V x) (h2 : 0 ≤ V y) (l1 : -500 ≤ lo := by omega) (l2 : -500 ≤ lo' := by omega) (u1 : hi ≤ 800 := by omega) (u2 : hi' ≤ 800 := by omega) : V x ≤ V (F .add x y) ∧ V y ≤ V (F .add x y) := by
  have hf := (hx.a hy).fin.1
  have g : ∀ {x y : Nat}, Low x → Flt.Fin y → 0 ≤ V y → Flt.Fin (F .add x y) → V x ≤ V (F .add x y) := fun {x y} hx hy h hf => by
    have := add_ge hx hy h
    rw [fgt_flt, flt_V hf hx.fin, decide_eq_false_iff_not] at this
    omega
  have k := g hy.lw hx.fin.1 h1 (by rw [F_add_comm]; exact hf)
  rw [F_add_comm] at k
  exact ⟨g hx.lw hy.fin.1 h2 hf, k⟩
theorem len_sc {d e f : Nat} (hd : Pt 0 d d) (he : Pt 0 e e) (hf : Pt 0 f f) (hn : feq d 0 = false ∨ feq e 0 = false ∨ feq f 0 = false) : Sc 0 (-115) (-40) (lenV d e f) (lenV d e f) ∧ feq (lenV d e f) 0 = false := by
  have p := (hd.m hd).to (e' := 0)
  have q := (he.m he).to (e' := 0)
  have r := (hf.m hf).to (e' := 0)
  have pn := sqr_nn hd
  have qn := sqr_nn he
  have rn := sqr_nn hf
  have a1 := add_nn p q pn.1 qn.1
  have a2 := add_nn (p.a q) r (by omega) rn.1
  have S : Sc (0 + 0) _ _ (dotV d e f d e f) (dotV d e f d e f) := ((p.a q).a r).to
  have hv : 0 < V (dotV d e f d e f) := by
    show 0 < V (F .add (F .add (F .mul d d) (F .mul e e)) (F .mul f f))
    rcases hn with h | h | h
    · have := pn.2 h; omega
    · have := qn.2 h; omega
    · have := rn.2 h; omega
  have h0 : flt (dotV d e f d e f) 0 = false := by rw [flt_V S.fin.1 Fin_0, V_0]; exact decide_eq_false (by omega)
  refine ⟨(S.sqrt h0 (by omega) (by omega) (by omega)).w, ?_⟩
  obtain ⟨m, i, c1, c2, c3, c4, c5⟩ := S.pos hv
  obtain ⟨W, k, hk, w1, w2, q1, q2⟩ := root_read c5 c1 c2
  have hz : W ≠ 0 := by have := Nat.two_pow_pos 55; omega
  have h5 := (Nat.le_log2 hz).2 w1
  have h6 := (Nat.log2_lt hz).2 w2
  obtain ⟨m', i', d1, d2⟩ := near_ne (s := false) (p := (i - k) / 2 - 1) hz (by omega) (by omega)
  unfold lenV
  rw [q1, feq_V ⟨_, _, _, d2⟩ Fin_0, V_0]
  have := V_pos_of d2 (by omega)
  exact decide_eq_false (by omega)
theorem plate_sc {E : Int} {a b c d e f r x y z u v w l a' b' c' r' x' y' z' u' v' w' : Nat} (R : Ry E x y z u v w l x' y' z' u' v' w') (ha : Pt E a a') (hb : Pt E b b') (hc : Pt E c c') (hd : Pt 0 d d) (he' : Pt 0 e e) (hf : Pt 0 f f) (hr : Pt E r r') (h0 : fgt r 0 = true) (hn : feq d 0 = false ∨ feq e 0 = false ∨ feq f 0 = false) :
    sT4 a' b' c' d e f r' x' y' z' u' v' w' l = sT4 a b c d e f r x y z u v w l ∧ sO4 a' b' c' d e f r' x' y' z' u' v' w' l = sO4 a b c d e f r x y z u v w l ∧ plateE a b c d e f r = 0 ∧ plateE a' b' c' d e f r' = 0 := by
  have he := R.e
  have rv := Int.le_of_lt (gt_V hr.fin.1 h0)
  have L1 := box_le ha.fin.1 hr.fin.1 rv
  have L2 := box_le hb.fin.1 hr.fin.1 rv
  have L3 := box_le hc.fin.1 hr.fin.1 rv
  have B1 : Wd E _ _ := (ha.s hr).w
  have B2 : Wd E _ _ := (hb.s hr).w
  have B3 : Wd E _ _ := (hc.s hr).w
  have B4 : Wd E _ _ := (ha.a hr).w
  have B5 : Wd E _ _ := (hb.a hr).w
  have B6 : Wd E _ _ := (hc.a hr).w
  have M := meet_sc he B1 B2 B3 B4 B5 B6 L1 L2 L3 R.px R.py R.pz R.pu R.pv R.pw R.pl R.pl0 R.pn
  have Y := may_sc he B1 B2 B3 B4 B5 B6 L1 L2 L3
  have fb := fine3 (hd.near (by omega)).1 (he'.near (by omega)).1 (hf.near (by omega)).1
  obtain ⟨ls, ln⟩ := len_sc hd he' hf hn
  have uE : unitE d e f = 0 := by unfold unitE; rw [fb, ln]; rfl
  have uV : ∀ x, unitV d e f x = F .quo x (lenV d e f) := fun x => by unfold unitV; rw [fb, ln]; rfl
  have U1 := (hd.q ls ln).to (e' := 0)
  have U2 := (he'.q ls ln).to (e' := 0)
  have U3 := (hf.q ls ln).to (e' := 0)
  have D := (((U1.m R.pu).a (U2.m R.pv)).a (U3.m R.pw)).to (e' := E)
  have N := (((U1.m (ha.s R.px)).a (U2.m (hb.s R.py))).a (U3.m (hc.s R.pz))).to (e' := E)
  have T : plaT a' b' c' d e f x' y' z' u' v' w' = plaT a b c d e f x y z u v w ∧ plaO a' b' c' d e f r' x' y' z' u' v' w' = plaO a b c d e f r x y z u v w := by
    have hz := D.z.2.1
    have hq := N.quo_all D
    unfold plaT plaO plaS plaQ plaD dotV
    rw [uV, uV, uV, hz, hq]
    cases g : feq (F .add (F .add (F .mul (F .quo d (lenV d e f)) u) (F .mul (F .quo e (lenV d e f)) v)) (F .mul (F .quo f (lenV d e f)) w)) 0
    · have Q := (N.q D g).to (e' := 0)
      rw [hq] at Q
      have P1 := (R.px.a ((R.pu.m Q).to (e' := E))).s ha
      have P2 := (R.py.a ((R.pv.m Q).to (e' := E))).s hb
      have P3 := (R.pz.a ((R.pw.m Q).to (e' := E))).s hc
      have C := (((P1.m P1).a (P2.m P2)).a (P3.m P3)).c (hr.m hr)
      rw [C.1, C.2.1]
      exact ⟨rfl, rfl⟩
    · exact ⟨rfl, rfl⟩
  refine ⟨?_, ?_, ?_, ?_⟩
  · unfold sT4; rw [M.1, M.2.1, M.2.2, T.1, T.2]
  · unfold sO4; rw [M.1, T.1, T.2]
  · unfold plateE; rw [h0, uE]; exact boxE_0 Y.1
  · unfold plateE; rw [hr.z.2.2, h0, uE]; exact boxE_0 Y.2
end Flt
end Go.Proofs.YtdjckabogdohcaaGreat
/- Shapes and rays that are made of raw numbers, times a power of two (plain). -/
namespace Go.Proofs.YtdjckabogdohcaaGreat
open Go.RowKit Ev Ieee Flt
set_option linter.unusedVariables false
set_option linter.unusedSimpArgs false
set_option maxRecDepth 20000

namespace Flt
/-- A power of two. -/
structure By (E : Int) (k : Nat) : Prop where
  rd : double.read k = .number false 4503599627370496 (E - 52)
  e : -3 ≤ E ∧ E ≤ 3
theorem Sc.pw {E lo hi : Int} {a k : Nat} (h : Sc 0 lo hi a a) (B : By E k) (l1 : -1000 ≤ lo := by omega) (l2 : hi ≤ 800 := by omega) : Sc E lo hi a (F .mul a k) := by
  have he := B.e
  exact (h.pow B.rd (by omega) l1 l2).to
theorem bif_sc {E lo hi : Int} {x y : Nat} (c : Bool) (h1 : Sc E lo hi x x) (h2 : Sc E lo hi y y) : Sc E lo hi (bif c then x else y) (bif c then x else y) := by
  cases c
  · exact h2
  · exact h1
theorem z_z : feq 0 0 = true := by decide +kernel
theorem one_0 : feq 4607182418800017408 0 = false := by decide +kernel
theorem ray_of (n : Nat) (G : Nat → Int) {E : Int} {k : Nat} (B : By E k) : Ry E (milF (rawF n G 14) 6000) (milF (rawF n G (14 + 1)) 6000) (milF (rawF n G (14 + 2)) 6000) (ryX n G 14) (ryY n G 14) (ryZ n G 14) (thoF (pickF (rawF n G (14 + 6)) 3))
    (F .mul (milF (rawF n G 14) 6000) k) (F .mul (milF (rawF n G (14 + 1)) 6000) k) (F .mul (milF (rawF n G (14 + 2)) 6000) k) (F .mul (ryX n G 14) k) (F .mul (ryY n G 14) k) (F .mul (ryZ n G 14) k) := by
  have hl := pickF_bd (rawF n G (14 + 6)) 3 (by omega)
  have lp := tho_sc (i := pickF (rawF n G (14 + 6)) 3) (by omega)
  have p6 := fun c => mil_sc c (most := 6000) (by omega)
  have p1 := fun c => mil_sc c (most := 1500) (by omega)
  have X : Pt 0 (ryX n G 14) (ryX n G 14) := bif_sc _ z_pt (p1 _)
  have Y : Pt 0 (ryY n G 14) (ryY n G 14) := bif_sc _ z_pt (p1 _)
  have Z : Pt 0 (ryZ n G 14) (ryZ n G 14) := bif_sc _ one_pt (p1 _)
  refine ⟨B.e, (p6 _).pw B, (p6 _).pw B, (p6 _).pw B, X.pw B, Y.pw B, Z.pw B, (lp.near (by omega)).1, ?_, ?_⟩
  · rw [flt_V lp.fin.1 Fin_0, V_0]
    have := tho_nn (i := pickF (rawF n G (14 + 6)) 3) (by omega)
    exact decide_eq_false (by omega)
  · unfold ryZ
    cases h1 : feq (ryX n G 14) 0
    · exact .inl rfl
    · cases h2 : feq (ryY n G 14) 0
      · exact .inr (.inl rfl)
      · cases h3 : feq (milF (rawF n G (14 + 5)) 1500) 0
        · exact .inr (.inr h3)
        · exact .inr (.inr one_0)
theorem ray_0 {E : Int} {x y z u v w l x' y' z' u' v' w' : Nat} (R : Ry E x y z u v w l x' y' z' u' v' w') : rayV x y z u v w l = 0 ∧ rayV x' y' z' u' v' w' l = 0 := ray_sc R.e R.px R.py R.pz R.pu R.pv R.pw R.pl R.pl0 R.pn
theorem bE {x y : Int} (hx : x = 0) (hy : y = 0) : (bif !(x == 0) then x else y) = 0 := by rw [hx, hy]; rfl
def kindE (k : Int) (a b c d e f g h i r q : Nat) : Int := bif k == 1 then ballE a b c r else bif k == 2 then blockE a b c d e f else bif k == 3 then triE a b c d e f g h i else
  bif k == 4 then plateE a b c d e f r else bif k == 5 then tubeE a b c d e f r else bif k == 6 then ringE a b c d e f r q else 3
theorem shp2 {K E D s : Int} {a b c d e f g h i r q a' b' c' d' e' f' g' h' i' r' : Nat} (hE : -3 ≤ E ∧ E ≤ 3) (hD : -3 ≤ D ∧ D ≤ 3) (ha : Wd E a a') (hb : Wd E b b') (hc : Wd E c c') (hd : Wd D d d') (he : Wd D e e') (hf : Wd D f f') (hg : Wd E g g') (hh : Wd E h h') (hi : Wd E i i') (hr : Wd E r r') (hq : nearB q = true) (hs : 0 ≤ s ∧ s < 3)
    (h1 : kindE K a b c d e f g h i r q = 0) (h2 : kindE K a' b' c' d' e' f' g' h' i' r' q = 0) : shapeE K a b c d e f g h i r q s = 0 ∧ shapeE K a' b' c' d' e' f' g' h' i' r' q s = 0 := by
  have e : ∀ a b c d e f g h i r : Nat, fineB a b c = true → fineB d e f = true → fineB g h i = true → nearB r = true → shapeE K a b c d e f g h i r q s = kindE K a b c d e f g h i r q := fun a b c d e f g h i r f1 f2 f3 f4 => by
    unfold shapeE
    rw [f1, f2, f3, f4, hq, decide_eq_false (show ¬ s < 0 by omega), decide_eq_false (show ¬ 16 ≤ s by omega)]
    rfl
  rw [e _ _ _ _ _ _ _ _ _ _ (fine3 (ha.near hE).1 (hb.near hE).1 (hc.near hE).1) (fine3 (hd.near hD).1 (he.near hD).1 (hf.near hD).1) (fine3 (hg.near hE).1 (hh.near hE).1 (hi.near hE).1) (hr.near hE).1, e _ _ _ _ _ _ _ _ _ _ (fine3 (ha.near hE).2 (hb.near hE).2 (hc.near hE).2) (fine3 (hd.near hD).2 (he.near hD).2 (hf.near hD).2) (fine3 (hg.near hE).2 (hh.near hE).2 (hi.near hE).2) (hr.near hE).2]
  exact ⟨h1, h2⟩
theorem near_z : nearB 0 = true := by decide +kernel
theorem tho_gt {i : Int} (h : 1 ≤ i ∧ i ≤ 8191) : fgt (thoF i) 0 = true := by
  rw [fgt_flt, flt_V Fin_0 (tho_sc (by omega)).fin.1, V_0]
  exact decide_eq_true (tho_pos h)
theorem tho_ne {i : Int} (h : 1 ≤ i ∧ i ≤ 8191) : feq (thoF i) 0 = false := by
  rw [feq_V (tho_sc (by omega)).fin.1 Fin_0, V_0]
  have := tho_pos h
  exact decide_eq_false (by omega)

theorem kind1 (n : Nat) (G : Nat → Int) {E : Int} {k : Nat} (B : By E k) : sE1 (milF (rawF n G 1) 4000) (milF (rawF n G (1 + 1)) 4000) (milF (rawF n G (1 + 2)) 4000) 0 0 0 0 0 0 (thoF (1 + pickF (rawF n G 8) 2500)) 0 (pickF (rawF n G 7) 3) (milF (rawF n G 14) 6000) (milF (rawF n G (14 + 1)) 6000) (milF (rawF n G (14 + 2)) 6000) (ryX n G 14) (ryY n G 14) (ryZ n G 14) (thoF (pickF (rawF n G (14 + 6)) 3)) = 0 ∧ sE1 (F .mul (milF (rawF n G 1) 4000) k) (F .mul (milF (rawF n G (1 + 1)) 4000) k) (F .mul (milF (rawF n G (1 + 2)) 4000) k) 0 0 0 (F .mul 0 k) (F .mul 0 k) (F .mul 0 k) (F .mul (thoF (1 + pickF (rawF n G 8) 2500)) k) 0 (pickF (rawF n G 7) 3) (F .mul (milF (rawF n G 14) 6000) k) (F .mul (milF (rawF n G (14 + 1)) 6000) k) (F .mul (milF (rawF n G (14 + 2)) 6000) k) (F .mul (ryX n G 14) k) (F .mul (ryY n G 14) k) (F .mul (ryZ n G 14) k) (thoF (pickF (rawF n G (14 + 6)) 3)) = 0 ∧ sO1 (F .mul (milF (rawF n G 1) 4000) k) (F .mul (milF (rawF n G (1 + 1)) 4000) k) (F .mul (milF (rawF n G (1 + 2)) 4000) k) (F .mul (thoF (1 + pickF (rawF n G 8) 2500)) k) (F .mul (milF (rawF n G 14) 6000) k) (F .mul (milF (rawF n G (14 + 1)) 6000) k) (F .mul (milF (rawF n G (14 + 2)) 6000) k) (F .mul (ryX n G 14) k) (F .mul (ryY n G 14) k) (F .mul (ryZ n G 14) k) (thoF (pickF (rawF n G (14 + 6)) 3)) = sO1 (milF (rawF n G 1) 4000) (milF (rawF n G (1 + 1)) 4000) (milF (rawF n G (1 + 2)) 4000) (thoF (1 + pickF (rawF n G 8) 2500)) (milF (rawF n G 14) 6000) (milF (rawF n G (14 + 1)) 6000) (milF (rawF n G (14 + 2)) 6000) (ryX n G 14) (ryY n G 14) (ryZ n G 14) (thoF (pickF (rawF n G (14 + 6)) 3)) ∧ sT1 (F .mul (milF (rawF n G 1) 4000) k) (F .mul (milF (rawF n G (1 + 1)) 4000) k) (F .mul (milF (rawF n G (1 + 2)) 4000) k) (F .mul (thoF (1 + pickF (rawF n G 8) 2500)) k) (F .mul (milF (rawF n G 14) 6000) k) (F .mul (milF (rawF n G (14 + 1)) 6000) k) (F .mul (milF (rawF n G (14 + 2)) 6000) k) (F .mul (ryX n G 14) k) (F .mul (ryY n G 14) k) (F .mul (ryZ n G 14) k) (thoF (pickF (rawF n G (14 + 6)) 3)) = sT1 (milF (rawF n G 1) 4000) (milF (rawF n G (1 + 1)) 4000) (milF (rawF n G (1 + 2)) 4000) (thoF (1 + pickF (rawF n G 8) 2500)) (milF (rawF n G 14) 6000) (milF (rawF n G (14 + 1)) 6000) (milF (rawF n G (14 + 2)) 6000) (ryX n G 14) (ryY n G 14) (ryZ n G 14) (thoF (pickF (rawF n G (14 + 6)) 3)) := by
  have he := B.e
  have hs := pickF_bd (rawF n G 7) 3 (by omega)
  have h8 := pickF_bd (rawF n G 8) 2500 (by omega)
  have h5 := pickF_bd (rawF n G 5) 3000 (by omega)
  have h5' := pickF_bd (rawF n G 5) 2000 (by omega)
  have h6 := pickF_bd (rawF n G 6) 2000 (by omega)
  have h6' := pickF_bd (rawF n G 6) 3 (by omega)
  have R := ray_of n G B
  have rv := ray_0 R
  have p4 := fun c => mil_sc c (most := 4000) (by omega)
  have p3 := fun c => mil_sc c (most := 3000) (by omega)
  have pr := tho_sc (i := 1 + pickF (rawF n G 8) 2500) (by omega)
  have zz : Pt 0 0 0 := z_pt
  have M := ball_sc R ((p4 (rawF n G 1)).pw B) ((p4 (rawF n G (1 + 1))).pw B) ((p4 (rawF n G (1 + 2))).pw B) (pr.pw B) (tho_gt (by omega))
  have Q := shp2 (K := 1) (s := pickF (rawF n G 7) 3) B.e (D := 0) (by omega) ((p4 (rawF n G 1)).pw B).w ((p4 (rawF n G (1 + 1))).pw B).w ((p4 (rawF n G (1 + 2))).pw B).w zz.w zz.w zz.w (zz.pw B).w (zz.pw B).w (zz.pw B).w (pr.pw B).w near_z hs M.2.2.1 M.2.2.2
  exact ⟨bE Q.1 rv.1, bE Q.2 rv.2, M.2.1, M.1⟩
theorem kind2 (n : Nat) (G : Nat → Int) {E : Int} {k : Nat} (B : By E k) : sE2 (milF (rawF n G 1) 4000) (milF (rawF n G (1 + 1)) 4000) (milF (rawF n G (1 + 2)) 4000) (F .add (milF (rawF n G 1) 4000) (thoF (1 + pickF (rawF n G 8) 2500))) (F .add (milF (rawF n G (1 + 1)) 4000) (thoF (pickF (rawF n G 5) 2000))) (F .add (milF (rawF n G (1 + 2)) 4000) (thoF (pickF (rawF n G 6) 2000))) 0 0 0 0 0 (pickF (rawF n G 7) 3) (milF (rawF n G 14) 6000) (milF (rawF n G (14 + 1)) 6000) (milF (rawF n G (14 + 2)) 6000) (ryX n G 14) (ryY n G 14) (ryZ n G 14) (thoF (pickF (rawF n G (14 + 6)) 3)) = 0 ∧ sE2 (F .mul (milF (rawF n G 1) 4000) k) (F .mul (milF (rawF n G (1 + 1)) 4000) k) (F .mul (milF (rawF n G (1 + 2)) 4000) k) (F .mul (F .add (milF (rawF n G 1) 4000) (thoF (1 + pickF (rawF n G 8) 2500))) k) (F .mul (F .add (milF (rawF n G (1 + 1)) 4000) (thoF (pickF (rawF n G 5) 2000))) k) (F .mul (F .add (milF (rawF n G (1 + 2)) 4000) (thoF (pickF (rawF n G 6) 2000))) k) (F .mul 0 k) (F .mul 0 k) (F .mul 0 k) (F .mul 0 k) 0 (pickF (rawF n G 7) 3) (F .mul (milF (rawF n G 14) 6000) k) (F .mul (milF (rawF n G (14 + 1)) 6000) k) (F .mul (milF (rawF n G (14 + 2)) 6000) k) (F .mul (ryX n G 14) k) (F .mul (ryY n G 14) k) (F .mul (ryZ n G 14) k) (thoF (pickF (rawF n G (14 + 6)) 3)) = 0 ∧ sO2 (F .mul (milF (rawF n G 1) 4000) k) (F .mul (milF (rawF n G (1 + 1)) 4000) k) (F .mul (milF (rawF n G (1 + 2)) 4000) k) (F .mul (F .add (milF (rawF n G 1) 4000) (thoF (1 + pickF (rawF n G 8) 2500))) k) (F .mul (F .add (milF (rawF n G (1 + 1)) 4000) (thoF (pickF (rawF n G 5) 2000))) k) (F .mul (F .add (milF (rawF n G (1 + 2)) 4000) (thoF (pickF (rawF n G 6) 2000))) k) (F .mul (milF (rawF n G 14) 6000) k) (F .mul (milF (rawF n G (14 + 1)) 6000) k) (F .mul (milF (rawF n G (14 + 2)) 6000) k) (F .mul (ryX n G 14) k) (F .mul (ryY n G 14) k) (F .mul (ryZ n G 14) k) (thoF (pickF (rawF n G (14 + 6)) 3)) = sO2 (milF (rawF n G 1) 4000) (milF (rawF n G (1 + 1)) 4000) (milF (rawF n G (1 + 2)) 4000) (F .add (milF (rawF n G 1) 4000) (thoF (1 + pickF (rawF n G 8) 2500))) (F .add (milF (rawF n G (1 + 1)) 4000) (thoF (pickF (rawF n G 5) 2000))) (F .add (milF (rawF n G (1 + 2)) 4000) (thoF (pickF (rawF n G 6) 2000))) (milF (rawF n G 14) 6000) (milF (rawF n G (14 + 1)) 6000) (milF (rawF n G (14 + 2)) 6000) (ryX n G 14) (ryY n G 14) (ryZ n G 14) (thoF (pickF (rawF n G (14 + 6)) 3)) ∧ sT2 (F .mul (milF (rawF n G 1) 4000) k) (F .mul (milF (rawF n G (1 + 1)) 4000) k) (F .mul (milF (rawF n G (1 + 2)) 4000) k) (F .mul (F .add (milF (rawF n G 1) 4000) (thoF (1 + pickF (rawF n G 8) 2500))) k) (F .mul (F .add (milF (rawF n G (1 + 1)) 4000) (thoF (pickF (rawF n G 5) 2000))) k) (F .mul (F .add (milF (rawF n G (1 + 2)) 4000) (thoF (pickF (rawF n G 6) 2000))) k) (F .mul (milF (rawF n G 14) 6000) k) (F .mul (milF (rawF n G (14 + 1)) 6000) k) (F .mul (milF (rawF n G (14 + 2)) 6000) k) (F .mul (ryX n G 14) k) (F .mul (ryY n G 14) k) (F .mul (ryZ n G 14) k) (thoF (pickF (rawF n G (14 + 6)) 3)) = sT2 (milF (rawF n G 1) 4000) (milF (rawF n G (1 + 1)) 4000) (milF (rawF n G (1 + 2)) 4000) (F .add (milF (rawF n G 1) 4000) (thoF (1 + pickF (rawF n G 8) 2500))) (F .add (milF (rawF n G (1 + 1)) 4000) (thoF (pickF (rawF n G 5) 2000))) (F .add (milF (rawF n G (1 + 2)) 4000) (thoF (pickF (rawF n G 6) 2000))) (milF (rawF n G 14) 6000) (milF (rawF n G (14 + 1)) 6000) (milF (rawF n G (14 + 2)) 6000) (ryX n G 14) (ryY n G 14) (ryZ n G 14) (thoF (pickF (rawF n G (14 + 6)) 3)) := by
  have he := B.e
  have hs := pickF_bd (rawF n G 7) 3 (by omega)
  have h8 := pickF_bd (rawF n G 8) 2500 (by omega)
  have h5 := pickF_bd (rawF n G 5) 3000 (by omega)
  have h5' := pickF_bd (rawF n G 5) 2000 (by omega)
  have h6 := pickF_bd (rawF n G 6) 2000 (by omega)
  have h6' := pickF_bd (rawF n G 6) 3 (by omega)
  have R := ray_of n G B
  have rv := ray_0 R
  have p4 := fun c => mil_sc c (most := 4000) (by omega)
  have p3 := fun c => mil_sc c (most := 3000) (by omega)
  have pr := tho_sc (i := 1 + pickF (rawF n G 8) 2500) (by omega)
  have zz : Pt 0 0 0 := z_pt
  have q5 := tho_sc (i := pickF (rawF n G 5) 2000) (by omega)
  have q6 := tho_sc (i := pickF (rawF n G 6) 2000) (by omega)
  have b1 := ((p4 (rawF n G 1)).a pr).pw B
  have b2 := ((p4 (rawF n G (1 + 1))).a q5).pw B
  have b3 := ((p4 (rawF n G (1 + 2))).a q6).pw B
  have M := block_sc R ((p4 (rawF n G 1)).pw B).w ((p4 (rawF n G (1 + 1))).pw B).w ((p4 (rawF n G (1 + 2))).pw B).w b1.w b2.w b3.w (add_ge (p4 _).lw pr.fin.1 (tho_nn (by omega))) (add_ge (p4 _).lw q5.fin.1 (tho_nn (by omega))) (add_ge (p4 _).lw q6.fin.1 (tho_nn (by omega)))
  have Q := shp2 (K := 2) (s := pickF (rawF n G 7) 3) B.e (D := E) B.e ((p4 (rawF n G 1)).pw B).w ((p4 (rawF n G (1 + 1))).pw B).w ((p4 (rawF n G (1 + 2))).pw B).w b1.w b2.w b3.w (zz.pw B).w (zz.pw B).w (zz.pw B).w (zz.pw B).w near_z hs M.2.2.1 M.2.2.2
  exact ⟨bE Q.1 rv.1, bE Q.2 rv.2, M.2.1, M.1⟩
theorem kind3 (n : Nat) (G : Nat → Int) {E : Int} {k : Nat} (B : By E k) : sE3 (milF (rawF n G 1) 4000) (milF (rawF n G (1 + 1)) 4000) (milF (rawF n G (1 + 2)) 4000) (F .add (milF (rawF n G 1) 4000) (milF (rawF n G 4) 3000)) (F .add (milF (rawF n G (1 + 1)) 4000) (milF (rawF n G (4 + 1)) 3000)) (F .add (milF (rawF n G (1 + 2)) 4000) (milF (rawF n G (4 + 2)) 3000)) (milF (rawF n G 9) 4000) (milF (rawF n G (9 + 1)) 4000) (milF (rawF n G (9 + 2)) 4000) 0 0 (pickF (rawF n G 7) 3) (milF (rawF n G 14) 6000) (milF (rawF n G (14 + 1)) 6000) (milF (rawF n G (14 + 2)) 6000) (ryX n G 14) (ryY n G 14) (ryZ n G 14) (thoF (pickF (rawF n G (14 + 6)) 3)) = 0 ∧ sE3 (F .mul (milF (rawF n G 1) 4000) k) (F .mul (milF (rawF n G (1 + 1)) 4000) k) (F .mul (milF (rawF n G (1 + 2)) 4000) k) (F .mul (F .add (milF (rawF n G 1) 4000) (milF (rawF n G 4) 3000)) k) (F .mul (F .add (milF (rawF n G (1 + 1)) 4000) (milF (rawF n G (4 + 1)) 3000)) k) (F .mul (F .add (milF (rawF n G (1 + 2)) 4000) (milF (rawF n G (4 + 2)) 3000)) k) (F .mul (milF (rawF n G 9) 4000) k) (F .mul (milF (rawF n G (9 + 1)) 4000) k) (F .mul (milF (rawF n G (9 + 2)) 4000) k) (F .mul 0 k) 0 (pickF (rawF n G 7) 3) (F .mul (milF (rawF n G 14) 6000) k) (F .mul (milF (rawF n G (14 + 1)) 6000) k) (F .mul (milF (rawF n G (14 + 2)) 6000) k) (F .mul (ryX n G 14) k) (F .mul (ryY n G 14) k) (F .mul (ryZ n G 14) k) (thoF (pickF (rawF n G (14 + 6)) 3)) = 0 ∧ sO3 (F .mul (milF (rawF n G 1) 4000) k) (F .mul (milF (rawF n G (1 + 1)) 4000) k) (F .mul (milF (rawF n G (1 + 2)) 4000) k) (F .mul (F .add (milF (rawF n G 1) 4000) (milF (rawF n G 4) 3000)) k) (F .mul (F .add (milF (rawF n G (1 + 1)) 4000) (milF (rawF n G (4 + 1)) 3000)) k) (F .mul (F .add (milF (rawF n G (1 + 2)) 4000) (milF (rawF n G (4 + 2)) 3000)) k) (F .mul (milF (rawF n G 9) 4000) k) (F .mul (milF (rawF n G (9 + 1)) 4000) k) (F .mul (milF (rawF n G (9 + 2)) 4000) k) (F .mul (milF (rawF n G 14) 6000) k) (F .mul (milF (rawF n G (14 + 1)) 6000) k) (F .mul (milF (rawF n G (14 + 2)) 6000) k) (F .mul (ryX n G 14) k) (F .mul (ryY n G 14) k) (F .mul (ryZ n G 14) k) (thoF (pickF (rawF n G (14 + 6)) 3)) = sO3 (milF (rawF n G 1) 4000) (milF (rawF n G (1 + 1)) 4000) (milF (rawF n G (1 + 2)) 4000) (F .add (milF (rawF n G 1) 4000) (milF (rawF n G 4) 3000)) (F .add (milF (rawF n G (1 + 1)) 4000) (milF (rawF n G (4 + 1)) 3000)) (F .add (milF (rawF n G (1 + 2)) 4000) (milF (rawF n G (4 + 2)) 3000)) (milF (rawF n G 9) 4000) (milF (rawF n G (9 + 1)) 4000) (milF (rawF n G (9 + 2)) 4000) (milF (rawF n G 14) 6000) (milF (rawF n G (14 + 1)) 6000) (milF (rawF n G (14 + 2)) 6000) (ryX n G 14) (ryY n G 14) (ryZ n G 14) (thoF (pickF (rawF n G (14 + 6)) 3)) ∧ sT3 (F .mul (milF (rawF n G 1) 4000) k) (F .mul (milF (rawF n G (1 + 1)) 4000) k) (F .mul (milF (rawF n G (1 + 2)) 4000) k) (F .mul (F .add (milF (rawF n G 1) 4000) (milF (rawF n G 4) 3000)) k) (F .mul (F .add (milF (rawF n G (1 + 1)) 4000) (milF (rawF n G (4 + 1)) 3000)) k) (F .mul (F .add (milF (rawF n G (1 + 2)) 4000) (milF (rawF n G (4 + 2)) 3000)) k) (F .mul (milF (rawF n G 9) 4000) k) (F .mul (milF (rawF n G (9 + 1)) 4000) k) (F .mul (milF (rawF n G (9 + 2)) 4000) k) (F .mul (milF (rawF n G 14) 6000) k) (F .mul (milF (rawF n G (14 + 1)) 6000) k) (F .mul (milF (rawF n G (14 + 2)) 6000) k) (F .mul (ryX n G 14) k) (F .mul (ryY n G 14) k) (F .mul (ryZ n G 14) k) (thoF (pickF (rawF n G (14 + 6)) 3)) = sT3 (milF (rawF n G 1) 4000) (milF (rawF n G (1 + 1)) 4000) (milF (rawF n G (1 + 2)) 4000) (F .add (milF (rawF n G 1) 4000) (milF (rawF n G 4) 3000)) (F .add (milF (rawF n G (1 + 1)) 4000) (milF (rawF n G (4 + 1)) 3000)) (F .add (milF (rawF n G (1 + 2)) 4000) (milF (rawF n G (4 + 2)) 3000)) (milF (rawF n G 9) 4000) (milF (rawF n G (9 + 1)) 4000) (milF (rawF n G (9 + 2)) 4000) (milF (rawF n G 14) 6000) (milF (rawF n G (14 + 1)) 6000) (milF (rawF n G (14 + 2)) 6000) (ryX n G 14) (ryY n G 14) (ryZ n G 14) (thoF (pickF (rawF n G (14 + 6)) 3)) := by
  have he := B.e
  have hs := pickF_bd (rawF n G 7) 3 (by omega)
  have h8 := pickF_bd (rawF n G 8) 2500 (by omega)
  have h5 := pickF_bd (rawF n G 5) 3000 (by omega)
  have h5' := pickF_bd (rawF n G 5) 2000 (by omega)
  have h6 := pickF_bd (rawF n G 6) 2000 (by omega)
  have h6' := pickF_bd (rawF n G 6) 3 (by omega)
  have R := ray_of n G B
  have rv := ray_0 R
  have p4 := fun c => mil_sc c (most := 4000) (by omega)
  have p3 := fun c => mil_sc c (most := 3000) (by omega)
  have pr := tho_sc (i := 1 + pickF (rawF n G 8) 2500) (by omega)
  have zz : Pt 0 0 0 := z_pt
  have b1 := ((p4 (rawF n G 1)).a (p3 (rawF n G 4))).pw B
  have b2 := ((p4 (rawF n G (1 + 1))).a (p3 (rawF n G (4 + 1)))).pw B
  have b3 := ((p4 (rawF n G (1 + 2))).a (p3 (rawF n G (4 + 2)))).pw B
  have M := triS_sc R ((p4 (rawF n G 1)).pw B).w ((p4 (rawF n G (1 + 1))).pw B).w ((p4 (rawF n G (1 + 2))).pw B).w b1.w b2.w b3.w ((p4 (rawF n G 9)).pw B).w ((p4 (rawF n G (9 + 1))).pw B).w ((p4 (rawF n G (9 + 2))).pw B).w
  have Q := shp2 (K := 3) (s := pickF (rawF n G 7) 3) B.e (D := E) B.e ((p4 (rawF n G 1)).pw B).w ((p4 (rawF n G (1 + 1))).pw B).w ((p4 (rawF n G (1 + 2))).pw B).w b1.w b2.w b3.w ((p4 (rawF n G 9)).pw B).w ((p4 (rawF n G (9 + 1))).pw B).w ((p4 (rawF n G (9 + 2))).pw B).w (zz.pw B).w near_z hs M.2.2.1 M.2.2.2
  exact ⟨bE Q.1 rv.1, bE Q.2 rv.2, M.2.1, M.1⟩
theorem kind4 (n : Nat) (G : Nat → Int) {E : Int} {k : Nat} (B : By E k) : sE4 (milF (rawF n G 1) 4000) (milF (rawF n G (1 + 1)) 4000) (milF (rawF n G (1 + 2)) 4000) (bif (feq (milF (rawF n G 4) 3000) 0 && (feq (milF (rawF n G (4 + 1)) 3000) 0 && feq (milF (rawF n G (4 + 2)) 3000) 0)) then 0 else milF (rawF n G 4) 3000) (bif (feq (milF (rawF n G 4) 3000) 0 && (feq (milF (rawF n G (4 + 1)) 3000) 0 && feq (milF (rawF n G (4 + 2)) 3000) 0)) then 4607182418800017408 else milF (rawF n G (4 + 1)) 3000) (bif (feq (milF (rawF n G 4) 3000) 0 && (feq (milF (rawF n G (4 + 1)) 3000) 0 && feq (milF (rawF n G (4 + 2)) 3000) 0)) then 0 else milF (rawF n G (4 + 2)) 3000) 0 0 0 (thoF (1 + pickF (rawF n G 8) 2500)) 0 (pickF (rawF n G 7) 3) (milF (rawF n G 14) 6000) (milF (rawF n G (14 + 1)) 6000) (milF (rawF n G (14 + 2)) 6000) (ryX n G 14) (ryY n G 14) (ryZ n G 14) (thoF (pickF (rawF n G (14 + 6)) 3)) = 0 ∧ sE4 (F .mul (milF (rawF n G 1) 4000) k) (F .mul (milF (rawF n G (1 + 1)) 4000) k) (F .mul (milF (rawF n G (1 + 2)) 4000) k) (bif (feq (milF (rawF n G 4) 3000) 0 && (feq (milF (rawF n G (4 + 1)) 3000) 0 && feq (milF (rawF n G (4 + 2)) 3000) 0)) then 0 else milF (rawF n G 4) 3000) (bif (feq (milF (rawF n G 4) 3000) 0 && (feq (milF (rawF n G (4 + 1)) 3000) 0 && feq (milF (rawF n G (4 + 2)) 3000) 0)) then 4607182418800017408 else milF (rawF n G (4 + 1)) 3000) (bif (feq (milF (rawF n G 4) 3000) 0 && (feq (milF (rawF n G (4 + 1)) 3000) 0 && feq (milF (rawF n G (4 + 2)) 3000) 0)) then 0 else milF (rawF n G (4 + 2)) 3000) (F .mul 0 k) (F .mul 0 k) (F .mul 0 k) (F .mul (thoF (1 + pickF (rawF n G 8) 2500)) k) 0 (pickF (rawF n G 7) 3) (F .mul (milF (rawF n G 14) 6000) k) (F .mul (milF (rawF n G (14 + 1)) 6000) k) (F .mul (milF (rawF n G (14 + 2)) 6000) k) (F .mul (ryX n G 14) k) (F .mul (ryY n G 14) k) (F .mul (ryZ n G 14) k) (thoF (pickF (rawF n G (14 + 6)) 3)) = 0 ∧ sO4 (F .mul (milF (rawF n G 1) 4000) k) (F .mul (milF (rawF n G (1 + 1)) 4000) k) (F .mul (milF (rawF n G (1 + 2)) 4000) k) (bif (feq (milF (rawF n G 4) 3000) 0 && (feq (milF (rawF n G (4 + 1)) 3000) 0 && feq (milF (rawF n G (4 + 2)) 3000) 0)) then 0 else milF (rawF n G 4) 3000) (bif (feq (milF (rawF n G 4) 3000) 0 && (feq (milF (rawF n G (4 + 1)) 3000) 0 && feq (milF (rawF n G (4 + 2)) 3000) 0)) then 4607182418800017408 else milF (rawF n G (4 + 1)) 3000) (bif (feq (milF (rawF n G 4) 3000) 0 && (feq (milF (rawF n G (4 + 1)) 3000) 0 && feq (milF (rawF n G (4 + 2)) 3000) 0)) then 0 else milF (rawF n G (4 + 2)) 3000) (F .mul (thoF (1 + pickF (rawF n G 8) 2500)) k) (F .mul (milF (rawF n G 14) 6000) k) (F .mul (milF (rawF n G (14 + 1)) 6000) k) (F .mul (milF (rawF n G (14 + 2)) 6000) k) (F .mul (ryX n G 14) k) (F .mul (ryY n G 14) k) (F .mul (ryZ n G 14) k) (thoF (pickF (rawF n G (14 + 6)) 3)) = sO4 (milF (rawF n G 1) 4000) (milF (rawF n G (1 + 1)) 4000) (milF (rawF n G (1 + 2)) 4000) (bif (feq (milF (rawF n G 4) 3000) 0 && (feq (milF (rawF n G (4 + 1)) 3000) 0 && feq (milF (rawF n G (4 + 2)) 3000) 0)) then 0 else milF (rawF n G 4) 3000) (bif (feq (milF (rawF n G 4) 3000) 0 && (feq (milF (rawF n G (4 + 1)) 3000) 0 && feq (milF (rawF n G (4 + 2)) 3000) 0)) then 4607182418800017408 else milF (rawF n G (4 + 1)) 3000) (bif (feq (milF (rawF n G 4) 3000) 0 && (feq (milF (rawF n G (4 + 1)) 3000) 0 && feq (milF (rawF n G (4 + 2)) 3000) 0)) then 0 else milF (rawF n G (4 + 2)) 3000) (thoF (1 + pickF (rawF n G 8) 2500)) (milF (rawF n G 14) 6000) (milF (rawF n G (14 + 1)) 6000) (milF (rawF n G (14 + 2)) 6000) (ryX n G 14) (ryY n G 14) (ryZ n G 14) (thoF (pickF (rawF n G (14 + 6)) 3)) ∧ sT4 (F .mul (milF (rawF n G 1) 4000) k) (F .mul (milF (rawF n G (1 + 1)) 4000) k) (F .mul (milF (rawF n G (1 + 2)) 4000) k) (bif (feq (milF (rawF n G 4) 3000) 0 && (feq (milF (rawF n G (4 + 1)) 3000) 0 && feq (milF (rawF n G (4 + 2)) 3000) 0)) then 0 else milF (rawF n G 4) 3000) (bif (feq (milF (rawF n G 4) 3000) 0 && (feq (milF (rawF n G (4 + 1)) 3000) 0 && feq (milF (rawF n G (4 + 2)) 3000) 0)) then 4607182418800017408 else milF (rawF n G (4 + 1)) 3000) (bif (feq (milF (rawF n G 4) 3000) 0 && (feq (milF (rawF n G (4 + 1)) 3000) 0 && feq (milF (rawF n G (4 + 2)) 3000) 0)) then 0 else milF (rawF n G (4 + 2)) 3000) (F .mul (thoF (1 + pickF (rawF n G 8) 2500)) k) (F .mul (milF (rawF n G 14) 6000) k) (F .mul (milF (rawF n G (14 + 1)) 6000) k) (F .mul (milF (rawF n G (14 + 2)) 6000) k) (F .mul (ryX n G 14) k) (F .mul (ryY n G 14) k) (F .mul (ryZ n G 14) k) (thoF (pickF (rawF n G (14 + 6)) 3)) = sT4 (milF (rawF n G 1) 4000) (milF (rawF n G (1 + 1)) 4000) (milF (rawF n G (1 + 2)) 4000) (bif (feq (milF (rawF n G 4) 3000) 0 && (feq (milF (rawF n G (4 + 1)) 3000) 0 && feq (milF (rawF n G (4 + 2)) 3000) 0)) then 0 else milF (rawF n G 4) 3000) (bif (feq (milF (rawF n G 4) 3000) 0 && (feq (milF (rawF n G (4 + 1)) 3000) 0 && feq (milF (rawF n G (4 + 2)) 3000) 0)) then 4607182418800017408 else milF (rawF n G (4 + 1)) 3000) (bif (feq (milF (rawF n G 4) 3000) 0 && (feq (milF (rawF n G (4 + 1)) 3000) 0 && feq (milF (rawF n G (4 + 2)) 3000) 0)) then 0 else milF (rawF n G (4 + 2)) 3000) (thoF (1 + pickF (rawF n G 8) 2500)) (milF (rawF n G 14) 6000) (milF (rawF n G (14 + 1)) 6000) (milF (rawF n G (14 + 2)) 6000) (ryX n G 14) (ryY n G 14) (ryZ n G 14) (thoF (pickF (rawF n G (14 + 6)) 3)) := by
  have he := B.e
  have hs := pickF_bd (rawF n G 7) 3 (by omega)
  have h8 := pickF_bd (rawF n G 8) 2500 (by omega)
  have h5 := pickF_bd (rawF n G 5) 3000 (by omega)
  have h5' := pickF_bd (rawF n G 5) 2000 (by omega)
  have h6 := pickF_bd (rawF n G 6) 2000 (by omega)
  have h6' := pickF_bd (rawF n G 6) 3 (by omega)
  have R := ray_of n G B
  have rv := ray_0 R
  have p4 := fun c => mil_sc c (most := 4000) (by omega)
  have p3 := fun c => mil_sc c (most := 3000) (by omega)
  have pr := tho_sc (i := 1 + pickF (rawF n G 8) 2500) (by omega)
  have zz : Pt 0 0 0 := z_pt
  have b1 : Pt 0 (bif (feq (milF (rawF n G 4) 3000) 0 && (feq (milF (rawF n G (4 + 1)) 3000) 0 && feq (milF (rawF n G (4 + 2)) 3000) 0)) then 0 else milF (rawF n G 4) 3000) (bif (feq (milF (rawF n G 4) 3000) 0 && (feq (milF (rawF n G (4 + 1)) 3000) 0 && feq (milF (rawF n G (4 + 2)) 3000) 0)) then 0 else milF (rawF n G 4) 3000) := bif_sc _ z_pt (p3 _)
  have b2 : Pt 0 (bif (feq (milF (rawF n G 4) 3000) 0 && (feq (milF (rawF n G (4 + 1)) 3000) 0 && feq (milF (rawF n G (4 + 2)) 3000) 0)) then 4607182418800017408 else milF (rawF n G (4 + 1)) 3000) (bif (feq (milF (rawF n G 4) 3000) 0 && (feq (milF (rawF n G (4 + 1)) 3000) 0 && feq (milF (rawF n G (4 + 2)) 3000) 0)) then 4607182418800017408 else milF (rawF n G (4 + 1)) 3000) := bif_sc _ one_pt (p3 _)
  have b3 : Pt 0 (bif (feq (milF (rawF n G 4) 3000) 0 && (feq (milF (rawF n G (4 + 1)) 3000) 0 && feq (milF (rawF n G (4 + 2)) 3000) 0)) then 0 else milF (rawF n G (4 + 2)) 3000) (bif (feq (milF (rawF n G 4) 3000) 0 && (feq (milF (rawF n G (4 + 1)) 3000) 0 && feq (milF (rawF n G (4 + 2)) 3000) 0)) then 0 else milF (rawF n G (4 + 2)) 3000) := bif_sc _ z_pt (p3 _)
  have nn : feq (bif (feq (milF (rawF n G 4) 3000) 0 && (feq (milF (rawF n G (4 + 1)) 3000) 0 && feq (milF (rawF n G (4 + 2)) 3000) 0)) then 0 else milF (rawF n G 4) 3000) 0 = false ∨ feq (bif (feq (milF (rawF n G 4) 3000) 0 && (feq (milF (rawF n G (4 + 1)) 3000) 0 && feq (milF (rawF n G (4 + 2)) 3000) 0)) then 4607182418800017408 else milF (rawF n G (4 + 1)) 3000) 0 = false ∨ feq (bif (feq (milF (rawF n G 4) 3000) 0 && (feq (milF (rawF n G (4 + 1)) 3000) 0 && feq (milF (rawF n G (4 + 2)) 3000) 0)) then 0 else milF (rawF n G (4 + 2)) 3000) 0 = false := by
    cases h1 : feq (milF (rawF n G 4) 3000) 0
    · exact .inl h1
    · cases h2 : feq (milF (rawF n G (4 + 1)) 3000) 0
      · exact .inr (.inl h2)
      · cases h3 : feq (milF (rawF n G (4 + 2)) 3000) 0
        · exact .inr (.inr h3)
        · exact .inr (.inl one_0)
  have M := plate_sc R ((p4 (rawF n G 1)).pw B) ((p4 (rawF n G (1 + 1))).pw B) ((p4 (rawF n G (1 + 2))).pw B) b1 b2 b3 (pr.pw B) (tho_gt (by omega)) nn
  have Q := shp2 (K := 4) (s := pickF (rawF n G 7) 3) B.e (D := 0) (by omega) ((p4 (rawF n G 1)).pw B).w ((p4 (rawF n G (1 + 1))).pw B).w ((p4 (rawF n G (1 + 2))).pw B).w b1.w b2.w b3.w (zz.pw B).w (zz.pw B).w (zz.pw B).w (pr.pw B).w near_z hs M.2.2.1 M.2.2.2
  exact ⟨bE Q.1 rv.1, bE Q.2 rv.2, M.2.1, M.1⟩
theorem kind5 (n : Nat) (G : Nat → Int) {E : Int} {k : Nat} (B : By E k) : sE5 (milF (rawF n G 1) 4000) (milF (rawF n G (1 + 1)) 4000) (milF (rawF n G (1 + 2)) 4000) (bif pickF (rawF n G 6) 3 == 0 then thoF (1 + pickF (rawF n G 5) 3000) else 0) (bif pickF (rawF n G 6) 3 == 1 then thoF (1 + pickF (rawF n G 5) 3000) else 0) (bif pickF (rawF n G 6) 3 == 0 || pickF (rawF n G 6) 3 == 1 then 0 else thoF (1 + pickF (rawF n G 5) 3000)) 0 0 0 (thoF (1 + pickF (rawF n G 8) 2500)) 0 (pickF (rawF n G 7) 3) (milF (rawF n G 14) 6000) (milF (rawF n G (14 + 1)) 6000) (milF (rawF n G (14 + 2)) 6000) (ryX n G 14) (ryY n G 14) (ryZ n G 14) (thoF (pickF (rawF n G (14 + 6)) 3)) = 0 ∧ sE5 (F .mul (milF (rawF n G 1) 4000) k) (F .mul (milF (rawF n G (1 + 1)) 4000) k) (F .mul (milF (rawF n G (1 + 2)) 4000) k) (F .mul (bif pickF (rawF n G 6) 3 == 0 then thoF (1 + pickF (rawF n G 5) 3000) else 0) k) (F .mul (bif pickF (rawF n G 6) 3 == 1 then thoF (1 + pickF (rawF n G 5) 3000) else 0) k) (F .mul (bif pickF (rawF n G 6) 3 == 0 || pickF (rawF n G 6) 3 == 1 then 0 else thoF (1 + pickF (rawF n G 5) 3000)) k) (F .mul 0 k) (F .mul 0 k) (F .mul 0 k) (F .mul (thoF (1 + pickF (rawF n G 8) 2500)) k) 0 (pickF (rawF n G 7) 3) (F .mul (milF (rawF n G 14) 6000) k) (F .mul (milF (rawF n G (14 + 1)) 6000) k) (F .mul (milF (rawF n G (14 + 2)) 6000) k) (F .mul (ryX n G 14) k) (F .mul (ryY n G 14) k) (F .mul (ryZ n G 14) k) (thoF (pickF (rawF n G (14 + 6)) 3)) = 0 ∧ sO5 (F .mul (milF (rawF n G 1) 4000) k) (F .mul (milF (rawF n G (1 + 1)) 4000) k) (F .mul (milF (rawF n G (1 + 2)) 4000) k) (F .mul (bif pickF (rawF n G 6) 3 == 0 then thoF (1 + pickF (rawF n G 5) 3000) else 0) k) (F .mul (bif pickF (rawF n G 6) 3 == 1 then thoF (1 + pickF (rawF n G 5) 3000) else 0) k) (F .mul (bif pickF (rawF n G 6) 3 == 0 || pickF (rawF n G 6) 3 == 1 then 0 else thoF (1 + pickF (rawF n G 5) 3000)) k) (F .mul (thoF (1 + pickF (rawF n G 8) 2500)) k) (F .mul (milF (rawF n G 14) 6000) k) (F .mul (milF (rawF n G (14 + 1)) 6000) k) (F .mul (milF (rawF n G (14 + 2)) 6000) k) (F .mul (ryX n G 14) k) (F .mul (ryY n G 14) k) (F .mul (ryZ n G 14) k) (thoF (pickF (rawF n G (14 + 6)) 3)) = sO5 (milF (rawF n G 1) 4000) (milF (rawF n G (1 + 1)) 4000) (milF (rawF n G (1 + 2)) 4000) (bif pickF (rawF n G 6) 3 == 0 then thoF (1 + pickF (rawF n G 5) 3000) else 0) (bif pickF (rawF n G 6) 3 == 1 then thoF (1 + pickF (rawF n G 5) 3000) else 0) (bif pickF (rawF n G 6) 3 == 0 || pickF (rawF n G 6) 3 == 1 then 0 else thoF (1 + pickF (rawF n G 5) 3000)) (thoF (1 + pickF (rawF n G 8) 2500)) (milF (rawF n G 14) 6000) (milF (rawF n G (14 + 1)) 6000) (milF (rawF n G (14 + 2)) 6000) (ryX n G 14) (ryY n G 14) (ryZ n G 14) (thoF (pickF (rawF n G (14 + 6)) 3)) ∧ sT5 (F .mul (milF (rawF n G 1) 4000) k) (F .mul (milF (rawF n G (1 + 1)) 4000) k) (F .mul (milF (rawF n G (1 + 2)) 4000) k) (F .mul (bif pickF (rawF n G 6) 3 == 0 then thoF (1 + pickF (rawF n G 5) 3000) else 0) k) (F .mul (bif pickF (rawF n G 6) 3 == 1 then thoF (1 + pickF (rawF n G 5) 3000) else 0) k) (F .mul (bif pickF (rawF n G 6) 3 == 0 || pickF (rawF n G 6) 3 == 1 then 0 else thoF (1 + pickF (rawF n G 5) 3000)) k) (F .mul (thoF (1 + pickF (rawF n G 8) 2500)) k) (F .mul (milF (rawF n G 14) 6000) k) (F .mul (milF (rawF n G (14 + 1)) 6000) k) (F .mul (milF (rawF n G (14 + 2)) 6000) k) (F .mul (ryX n G 14) k) (F .mul (ryY n G 14) k) (F .mul (ryZ n G 14) k) (thoF (pickF (rawF n G (14 + 6)) 3)) = sT5 (milF (rawF n G 1) 4000) (milF (rawF n G (1 + 1)) 4000) (milF (rawF n G (1 + 2)) 4000) (bif pickF (rawF n G 6) 3 == 0 then thoF (1 + pickF (rawF n G 5) 3000) else 0) (bif pickF (rawF n G 6) 3 == 1 then thoF (1 + pickF (rawF n G 5) 3000) else 0) (bif pickF (rawF n G 6) 3 == 0 || pickF (rawF n G 6) 3 == 1 then 0 else thoF (1 + pickF (rawF n G 5) 3000)) (thoF (1 + pickF (rawF n G 8) 2500)) (milF (rawF n G 14) 6000) (milF (rawF n G (14 + 1)) 6000) (milF (rawF n G (14 + 2)) 6000) (ryX n G 14) (ryY n G 14) (ryZ n G 14) (thoF (pickF (rawF n G (14 + 6)) 3)) := by
  have he := B.e
  have hs := pickF_bd (rawF n G 7) 3 (by omega)
  have h8 := pickF_bd (rawF n G 8) 2500 (by omega)
  have h5 := pickF_bd (rawF n G 5) 3000 (by omega)
  have h5' := pickF_bd (rawF n G 5) 2000 (by omega)
  have h6 := pickF_bd (rawF n G 6) 2000 (by omega)
  have h6' := pickF_bd (rawF n G 6) 3 (by omega)
  have R := ray_of n G B
  have rv := ray_0 R
  have p4 := fun c => mil_sc c (most := 4000) (by omega)
  have p3 := fun c => mil_sc c (most := 3000) (by omega)
  have pr := tho_sc (i := 1 + pickF (rawF n G 8) 2500) (by omega)
  have zz : Pt 0 0 0 := z_pt
  have x5 := tho_sc (i := 1 + pickF (rawF n G 5) 3000) (by omega)
  have n5 := tho_ne (i := 1 + pickF (rawF n G 5) 3000) (by omega)
  have b1 : Pt 0 (bif pickF (rawF n G 6) 3 == 0 then thoF (1 + pickF (rawF n G 5) 3000) else 0) (bif pickF (rawF n G 6) 3 == 0 then thoF (1 + pickF (rawF n G 5) 3000) else 0) := bif_sc _ x5 z_pt
  have b2 : Pt 0 (bif pickF (rawF n G 6) 3 == 1 then thoF (1 + pickF (rawF n G 5) 3000) else 0) (bif pickF (rawF n G 6) 3 == 1 then thoF (1 + pickF (rawF n G 5) 3000) else 0) := bif_sc _ x5 z_pt
  have b3 : Pt 0 (bif pickF (rawF n G 6) 3 == 0 || pickF (rawF n G 6) 3 == 1 then 0 else thoF (1 + pickF (rawF n G 5) 3000)) (bif pickF (rawF n G 6) 3 == 0 || pickF (rawF n G 6) 3 == 1 then 0 else thoF (1 + pickF (rawF n G 5) 3000)) := bif_sc _ z_pt x5
  have al : 0 ≤ aloneV (bif pickF (rawF n G 6) 3 == 0 then thoF (1 + pickF (rawF n G 5) 3000) else 0) (bif pickF (rawF n G 6) 3 == 1 then thoF (1 + pickF (rawF n G 5) 3000) else 0) (bif pickF (rawF n G 6) 3 == 0 || pickF (rawF n G 6) 3 == 1 then 0 else thoF (1 + pickF (rawF n G 5) 3000)) := by
    have h : pickF (rawF n G 6) 3 = 0 ∨ pickF (rawF n G 6) 3 = 1 ∨ pickF (rawF n G 6) 3 = 2 := by omega
    unfold aloneV
    rcases h with h | h | h <;> rw [h]
    · show 0 ≤ (bif !(feq (thoF (1 + pickF (rawF n G 5) 3000)) 0) && (feq 0 0 && feq 0 0) then (0 : Int) else _)
      rw [n5, z_z]; exact (by decide : (0 : Int) ≤ 0)
    · show 0 ≤ (bif !(feq 0 0) && (feq (thoF (1 + pickF (rawF n G 5) 3000)) 0 && feq 0 0) then (0 : Int) else bif feq 0 0 && (!(feq (thoF (1 + pickF (rawF n G 5) 3000)) 0) && feq 0 0) then 1 else _)
      rw [n5, z_z]; exact (by decide : (0 : Int) ≤ 1)
    · show 0 ≤ (bif !(feq 0 0) && (feq 0 0 && feq (thoF (1 + pickF (rawF n G 5) 3000)) 0) then (0 : Int) else bif feq 0 0 && (!(feq 0 0) && feq (thoF (1 + pickF (rawF n G 5) 3000)) 0) then 1 else bif feq 0 0 && (feq 0 0 && !(feq (thoF (1 + pickF (rawF n G 5) 3000)) 0)) then 2 else -1)
      rw [n5, z_z]; exact (by decide : (0 : Int) ≤ 2)
  have M := tube_sc R ((p4 (rawF n G 1)).pw B) ((p4 (rawF n G (1 + 1))).pw B) ((p4 (rawF n G (1 + 2))).pw B) (b1.pw B) (b2.pw B) (b3.pw B) (pr.pw B) (tho_gt (by omega)) al
  have Q := shp2 (K := 5) (s := pickF (rawF n G 7) 3) B.e (D := E) B.e ((p4 (rawF n G 1)).pw B).w ((p4 (rawF n G (1 + 1))).pw B).w ((p4 (rawF n G (1 + 2))).pw B).w (b1.pw B).w (b2.pw B).w (b3.pw B).w (zz.pw B).w (zz.pw B).w (zz.pw B).w (pr.pw B).w near_z hs M.2.2.1 M.2.2.2
  exact ⟨bE Q.1 rv.1, bE Q.2 rv.2, M.2.1, M.1⟩
theorem by0 : By (-3) 4593671619917905920 := ⟨by decide +kernel, by omega⟩
theorem by1 : By (-2) 4598175219545276416 := ⟨by decide +kernel, by omega⟩
theorem by2 : By (-1) 4602678819172646912 := ⟨by decide +kernel, by omega⟩
theorem by3 : By (1) 4611686018427387904 := ⟨by decide +kernel, by omega⟩
theorem by4 : By (2) 4616189618054758400 := ⟨by decide +kernel, by omega⟩
theorem by5 : By (3) 4620693217682128896 := ⟨by decide +kernel, by omega⟩
end Flt
end Go.Proofs.YtdjckabogdohcaaGreat
/- Shapes that are made of raw numbers, kind by kind. -/
namespace Go.Proofs.YtdjckabogdohcaaGreat
open Go.RowKit Ev
set_option linter.unusedVariables false
set_option linter.unusedSimpArgs false
set_option maxRecDepth 20000
set_option maxHeartbeats 4000000

theorem tdiv_bd {a b : Int} (h : 0 ≤ a ∧ a < 2500) (hb : 0 ≤ b ∧ b < 3) : 0 ≤ a.tdiv (1 + b) ∧ a.tdiv (1 + b) < 2500 := by
  rw [Int.tdiv_eq_ediv_of_nonneg h.1]
  have h1 := Int.ediv_nonneg h.1 (show 0 ≤ 1 + b by omega)
  have h2 := Int.ediv_le_self (1 + b) h.1
  omega
theorem putV_f : FnOk Tryz.prog 43 Tryz.f43 := ⟨Tryz.func43, by kernel_rfl⟩
theorem putV_a (a b c x : Nat) (k : Int) (hpre : 0 ≤ k ∧ k ≤ 2) : ACalls Tryz.prog 43 [.agg [.flt a, .flt b, .flt c], .int .i64 k, .flt x] (.agg [.flt (bif k == 0 then x else a), .flt (bif k == 1 then x else b), .flt (bif k == 0 || k == 1 then c else x)]) := by
  exact put_a a b c x k hpre
def putV_k : Con Tryz.prog := ⟨43, fun args => match args with | [.agg [.flt a, .flt b, .flt c], .int .i64 k, .flt x] => .ok (some (0 ≤ k ∧ k ≤ 2)) (.agg [.flt (bif k == 0 then x else a), .flt (bif k == 1 then x else b), .flt (bif k == 0 || k == 1 then c else x)]) | _ => .no, by
  intro args p r h hp
  split at h
  · cases h; exact putV_a _ _ _ _ _ hp
  · cases h⟩
theorem six1_f : FnOk Tryz.prog 11 Tryz.f11 := ⟨Tryz.func11, by kernel_rfl⟩
theorem six1_a (c : Int) (hpre : In64 c ∧ pickF c 6 = 0) : ACalls Tryz.prog 11 [.int .i64 c, .int .i64 6] (.int .i64 0) := by
  have h := pick_a c 6 ⟨hpre.1, by omega, by omega⟩
  rw [hpre.2] at h
  exact h
def six1_k : Con Tryz.prog := ⟨11, fun args => match args with | [.int .i64 c, .int .i64 6] => .ok (some (In64 c ∧ pickF c 6 = 0)) (.int .i64 0) | _ => .no, by
  intro args p r h hp
  split at h
  · cases h; exact six1_a _ hp
  · cases h⟩
theorem shp1_f : FnOk Tryz.prog 12 Tryz.f12 := ⟨Tryz.func12, by kernel_rfl⟩
theorem shp1_a (n : Nat) (G : Nat → Int) (hpre : (∀ j, In64 (G j)) ∧ pickF (rawF n G 0) 6 = 0) : ACalls Tryz.prog 12 [ints .i64 n G, .int .i64 0, .int .i64 3] (.agg [.int .i64 1, .flt (milF (rawF n G 1) 4000), .flt (milF (rawF n G (1 + 1)) 4000), .flt (milF (rawF n G (1 + 2)) 4000), .flt 0, .flt 0, .flt 0, .flt 0, .flt 0, .flt 0, .flt (thoF (1 + pickF (rawF n G 8) 2500)), .flt 0, .int .i64 (pickF (rawF n G 7) 3)]) := by
  refine acalls_of (inl := hasI (P := Tryz.prog) [] []) (base [six1_k, raw_k, vecOf_k, thousandth_k, pick_k, addR_k, putV_k, nought_k] [] []) 0 shp1_f (And.intro (by kernel_rfl) ?_)
  have h5 := pickF_bd (rawF n G 5) 3000 (by omega)
  have h5' := pickF_bd (rawF n G 5) 2000 (by omega)
  have h6 := pickF_bd (rawF n G 6) 2000 (by omega)
  have h6' := pickF_bd (rawF n G 6) 3 (by omega)
  have h8 := pickF_bd (rawF n G 8) 2500 (by omega)
  have h4 := pickF_bd (rawF n G 4) 3 (by omega)
  have hd := tdiv_bd h8 h4
  have w1 : IntKind.i64.wrap (1 + pickF (rawF n G 8) 2500) = 1 + pickF (rawF n G 8) 2500 := wrapI (by omega) (by omega)
  have w2 : IntKind.i64.wrap (1 + pickF (rawF n G 5) 3000) = 1 + pickF (rawF n G 5) 3000 := wrapI (by omega) (by omega)
  have w3 : IntKind.i64.wrap (1 + pickF (rawF n G 4) 3) = 1 + pickF (rawF n G 4) 3 := wrapI (by omega) (by omega)
  have w4 : IntKind.i64.wrap ((pickF (rawF n G 8) 2500).tdiv (1 + pickF (rawF n G 4) 3)) = (pickF (rawF n G 8) 2500).tdiv (1 + pickF (rawF n G 4) 3) := wrapI (by omega) (by omega)
  have w5 : IntKind.i64.wrap (1 + (pickF (rawF n G 8) 2500).tdiv (1 + pickF (rawF n G 4) 3)) = 1 + (pickF (rawF n G 8) 2500).tdiv (1 + pickF (rawF n G 4) 3) := wrapI (by omega) (by omega)
  have c01 : IntKind.i64.wrap (0 + 1) = 1 := by decide
  have c04 : IntKind.i64.wrap (0 + 4) = 4 := by decide
  have c05 : IntKind.i64.wrap (0 + 5) = 5 := by decide
  have c06 : IntKind.i64.wrap (0 + 6) = 6 := by decide
  have c07 : IntKind.i64.wrap (0 + 7) = 7 := by decide
  have c08 : IntKind.i64.wrap (0 + 8) = 8 := by decide
  have c09 : IntKind.i64.wrap (0 + 9) = 9 := by decide
  have c10 : IntKind.i64.wrap (1 + 0) = 1 := by decide
  have c11 : IntKind.i64.wrap (1 + 1) = 2 := by decide
  have c12 : IntKind.i64.wrap (1 + 2) = 3 := by decide
  have c13 : IntKind.i64.wrap (1 + 3) = 4 := by decide
  have c14 : IntKind.i64.wrap (1 + 4) = 5 := by decide
  have c15 : IntKind.i64.wrap (1 + 5) = 6 := by decide
  repeat' (first | refine And.intro ?_ ?_ | (with_reducible exact ff_elim) | (with_reducible exact tf_elim) | (intro hq; exact absurd hq (by decide)) | refine num_elim ?_ | intro _ | (with_reducible rfl) | ((with_reducible refine lk_t ?_); exact rfl) | ((with_reducible refine pf_t ?_); exact rfl) | refine tell ?_ | exact True.intro | (refine IsT.of ?_; kernel_rfl))
  all_goals obtain ⟨hF, hk⟩ := hpre
  all_goals (try refine Tell.mk ?_)
  all_goals first | with_reducible rfl | with_reducible exact isI_mk | with_reducible assumption | (with_reducible refine gb_t ?_; with_reducible assumption) | (with_reducible refine gb_f ?_; with_reducible assumption) | ((with_reducible refine ks_t ?_); rfl) | ((with_reducible refine pk_t ?_); rfl) | ((with_reducible refine pf_t ?_); rfl) | ((with_reducible refine lk_t ?_); rfl) | ((with_reducible refine okF_t ?_); kernel_rfl) | ((with_reducible refine rawF_in ?_); assumption) | skip
  all_goals (try simp only [decide_eq_true_eq, decide_eq_false_iff_not, beq_iff_eq, beq_eq_false_iff_ne, ne_eq, bne_iff_ne, intF_mk])
  all_goals (try simp only [w1, w2, w3, w4, w5, c01, c04, c05, c06, c07, c08, c09, c10, c11, c12, c13, c14, c15])
  all_goals first | with_reducible rfl | omega | (simp only [raw_p]; omega) | exact hF _ | with_reducible exact rawF_in hF | (simp only [intF_mk, c04] at *; simp only [*, cond_true, cond_false]; done) | (simp only [intF_mk, c04, w3] at *; omega) | trace_state
def shp1_r (n : Nat) (G : Nat → Int) : AV := .agg [.int .i64 1, .flt (milF (rawF n G 1) 4000), .flt (milF (rawF n G (1 + 1)) 4000), .flt (milF (rawF n G (1 + 2)) 4000), .flt 0, .flt 0, .flt 0, .flt 0, .flt 0, .flt 0, .flt (thoF (1 + pickF (rawF n G 8) 2500)), .flt 0, .int .i64 (pickF (rawF n G 7) 3)]
def shp1_p (n : Nat) (G : Nat → Int) : Prop := (∀ j, In64 (G j)) ∧ pickF (rawF n G 0) 6 = 0
def shp1_k : Con Tryz.prog := ⟨12, fun args => match args with | [.sl n 1 g_G, .int .i64 0, .int .i64 3] => .ok (some (IsI .i64 g_G ∧ shp1_p n (intF g_G))) (shp1_r n (intF g_G)) | _ => .no, by
  intro args p r h hp
  split at h
  · cases h; obtain ⟨h_G, hp⟩ := hp; have e_G := h_G.eq; rw [e_G]; exact shp1_a _ _ hp
  · cases h⟩
theorem six2_f : FnOk Tryz.prog 11 Tryz.f11 := ⟨Tryz.func11, by kernel_rfl⟩
theorem six2_a (c : Int) (hpre : In64 c ∧ pickF c 6 = 1) : ACalls Tryz.prog 11 [.int .i64 c, .int .i64 6] (.int .i64 1) := by
  have h := pick_a c 6 ⟨hpre.1, by omega, by omega⟩
  rw [hpre.2] at h
  exact h
def six2_k : Con Tryz.prog := ⟨11, fun args => match args with | [.int .i64 c, .int .i64 6] => .ok (some (In64 c ∧ pickF c 6 = 1)) (.int .i64 1) | _ => .no, by
  intro args p r h hp
  split at h
  · cases h; exact six2_a _ hp
  · cases h⟩
theorem shp2_f : FnOk Tryz.prog 12 Tryz.f12 := ⟨Tryz.func12, by kernel_rfl⟩
theorem shp2_a (n : Nat) (G : Nat → Int) (hpre : (∀ j, In64 (G j)) ∧ pickF (rawF n G 0) 6 = 1) : ACalls Tryz.prog 12 [ints .i64 n G, .int .i64 0, .int .i64 3] (.agg [.int .i64 2, .flt (milF (rawF n G 1) 4000), .flt (milF (rawF n G (1 + 1)) 4000), .flt (milF (rawF n G (1 + 2)) 4000), .flt (F .add (milF (rawF n G 1) 4000) (thoF (1 + pickF (rawF n G 8) 2500))), .flt (F .add (milF (rawF n G (1 + 1)) 4000) (thoF (pickF (rawF n G 5) 2000))), .flt (F .add (milF (rawF n G (1 + 2)) 4000) (thoF (pickF (rawF n G 6) 2000))), .flt 0, .flt 0, .flt 0, .flt 0, .flt 0, .int .i64 (pickF (rawF n G 7) 3)]) := by
  refine acalls_of (inl := hasI (P := Tryz.prog) [] []) (base [six2_k, raw_k, vecOf_k, thousandth_k, pick_k, addR_k, putV_k, nought_k] [] []) 0 shp2_f (And.intro (by kernel_rfl) ?_)
  have h5 := pickF_bd (rawF n G 5) 3000 (by omega)
  have h5' := pickF_bd (rawF n G 5) 2000 (by omega)
  have h6 := pickF_bd (rawF n G 6) 2000 (by omega)
  have h6' := pickF_bd (rawF n G 6) 3 (by omega)
  have h8 := pickF_bd (rawF n G 8) 2500 (by omega)
  have h4 := pickF_bd (rawF n G 4) 3 (by omega)
  have hd := tdiv_bd h8 h4
  have w1 : IntKind.i64.wrap (1 + pickF (rawF n G 8) 2500) = 1 + pickF (rawF n G 8) 2500 := wrapI (by omega) (by omega)
  have w2 : IntKind.i64.wrap (1 + pickF (rawF n G 5) 3000) = 1 + pickF (rawF n G 5) 3000 := wrapI (by omega) (by omega)
  have w3 : IntKind.i64.wrap (1 + pickF (rawF n G 4) 3) = 1 + pickF (rawF n G 4) 3 := wrapI (by omega) (by omega)
  have w4 : IntKind.i64.wrap ((pickF (rawF n G 8) 2500).tdiv (1 + pickF (rawF n G 4) 3)) = (pickF (rawF n G 8) 2500).tdiv (1 + pickF (rawF n G 4) 3) := wrapI (by omega) (by omega)
  have w5 : IntKind.i64.wrap (1 + (pickF (rawF n G 8) 2500).tdiv (1 + pickF (rawF n G 4) 3)) = 1 + (pickF (rawF n G 8) 2500).tdiv (1 + pickF (rawF n G 4) 3) := wrapI (by omega) (by omega)
  have c01 : IntKind.i64.wrap (0 + 1) = 1 := by decide
  have c04 : IntKind.i64.wrap (0 + 4) = 4 := by decide
  have c05 : IntKind.i64.wrap (0 + 5) = 5 := by decide
  have c06 : IntKind.i64.wrap (0 + 6) = 6 := by decide
  have c07 : IntKind.i64.wrap (0 + 7) = 7 := by decide
  have c08 : IntKind.i64.wrap (0 + 8) = 8 := by decide
  have c09 : IntKind.i64.wrap (0 + 9) = 9 := by decide
  have c10 : IntKind.i64.wrap (1 + 0) = 1 := by decide
  have c11 : IntKind.i64.wrap (1 + 1) = 2 := by decide
  have c12 : IntKind.i64.wrap (1 + 2) = 3 := by decide
  have c13 : IntKind.i64.wrap (1 + 3) = 4 := by decide
  have c14 : IntKind.i64.wrap (1 + 4) = 5 := by decide
  have c15 : IntKind.i64.wrap (1 + 5) = 6 := by decide
  repeat' (first | refine And.intro ?_ ?_ | (with_reducible exact ff_elim) | (with_reducible exact tf_elim) | (intro hq; exact absurd hq (by decide)) | refine num_elim ?_ | intro _ | (with_reducible rfl) | ((with_reducible refine lk_t ?_); exact rfl) | ((with_reducible refine pf_t ?_); exact rfl) | refine tell ?_ | exact True.intro | (refine IsT.of ?_; kernel_rfl))
  all_goals obtain ⟨hF, hk⟩ := hpre
  all_goals (try refine Tell.mk ?_)
  all_goals first | with_reducible rfl | with_reducible exact isI_mk | with_reducible assumption | (with_reducible refine gb_t ?_; with_reducible assumption) | (with_reducible refine gb_f ?_; with_reducible assumption) | ((with_reducible refine ks_t ?_); rfl) | ((with_reducible refine pk_t ?_); rfl) | ((with_reducible refine pf_t ?_); rfl) | ((with_reducible refine lk_t ?_); rfl) | ((with_reducible refine okF_t ?_); kernel_rfl) | ((with_reducible refine rawF_in ?_); assumption) | skip
  all_goals (try simp only [decide_eq_true_eq, decide_eq_false_iff_not, beq_iff_eq, beq_eq_false_iff_ne, ne_eq, bne_iff_ne, intF_mk])
  all_goals (try simp only [w1, w2, w3, w4, w5, c01, c04, c05, c06, c07, c08, c09, c10, c11, c12, c13, c14, c15])
  all_goals first | with_reducible rfl | omega | (simp only [raw_p]; omega) | exact hF _ | with_reducible exact rawF_in hF | (simp only [intF_mk, c04] at *; simp only [*, cond_true, cond_false]; done) | (simp only [intF_mk, c04, w3] at *; omega) | trace_state
def shp2_r (n : Nat) (G : Nat → Int) : AV := .agg [.int .i64 2, .flt (milF (rawF n G 1) 4000), .flt (milF (rawF n G (1 + 1)) 4000), .flt (milF (rawF n G (1 + 2)) 4000), .flt (F .add (milF (rawF n G 1) 4000) (thoF (1 + pickF (rawF n G 8) 2500))), .flt (F .add (milF (rawF n G (1 + 1)) 4000) (thoF (pickF (rawF n G 5) 2000))), .flt (F .add (milF (rawF n G (1 + 2)) 4000) (thoF (pickF (rawF n G 6) 2000))), .flt 0, .flt 0, .flt 0, .flt 0, .flt 0, .int .i64 (pickF (rawF n G 7) 3)]
def shp2_p (n : Nat) (G : Nat → Int) : Prop := (∀ j, In64 (G j)) ∧ pickF (rawF n G 0) 6 = 1
def shp2_k : Con Tryz.prog := ⟨12, fun args => match args with | [.sl n 1 g_G, .int .i64 0, .int .i64 3] => .ok (some (IsI .i64 g_G ∧ shp2_p n (intF g_G))) (shp2_r n (intF g_G)) | _ => .no, by
  intro args p r h hp
  split at h
  · cases h; obtain ⟨h_G, hp⟩ := hp; have e_G := h_G.eq; rw [e_G]; exact shp2_a _ _ hp
  · cases h⟩
theorem six3_f : FnOk Tryz.prog 11 Tryz.f11 := ⟨Tryz.func11, by kernel_rfl⟩
theorem six3_a (c : Int) (hpre : In64 c ∧ pickF c 6 = 2) : ACalls Tryz.prog 11 [.int .i64 c, .int .i64 6] (.int .i64 2) := by
  have h := pick_a c 6 ⟨hpre.1, by omega, by omega⟩
  rw [hpre.2] at h
  exact h
def six3_k : Con Tryz.prog := ⟨11, fun args => match args with | [.int .i64 c, .int .i64 6] => .ok (some (In64 c ∧ pickF c 6 = 2)) (.int .i64 2) | _ => .no, by
  intro args p r h hp
  split at h
  · cases h; exact six3_a _ hp
  · cases h⟩
theorem shp3_f : FnOk Tryz.prog 12 Tryz.f12 := ⟨Tryz.func12, by kernel_rfl⟩
theorem shp3_a (n : Nat) (G : Nat → Int) (hpre : (∀ j, In64 (G j)) ∧ pickF (rawF n G 0) 6 = 2) : ACalls Tryz.prog 12 [ints .i64 n G, .int .i64 0, .int .i64 3] (.agg [.int .i64 3, .flt (milF (rawF n G 1) 4000), .flt (milF (rawF n G (1 + 1)) 4000), .flt (milF (rawF n G (1 + 2)) 4000), .flt (F .add (milF (rawF n G 1) 4000) (milF (rawF n G 4) 3000)), .flt (F .add (milF (rawF n G (1 + 1)) 4000) (milF (rawF n G (4 + 1)) 3000)), .flt (F .add (milF (rawF n G (1 + 2)) 4000) (milF (rawF n G (4 + 2)) 3000)), .flt (milF (rawF n G 9) 4000), .flt (milF (rawF n G (9 + 1)) 4000), .flt (milF (rawF n G (9 + 2)) 4000), .flt 0, .flt 0, .int .i64 (pickF (rawF n G 7) 3)]) := by
  refine acalls_of (inl := hasI (P := Tryz.prog) [] []) (base [six3_k, raw_k, vecOf_k, thousandth_k, pick_k, addR_k, putV_k, nought_k] [] []) 0 shp3_f (And.intro (by kernel_rfl) ?_)
  have h5 := pickF_bd (rawF n G 5) 3000 (by omega)
  have h5' := pickF_bd (rawF n G 5) 2000 (by omega)
  have h6 := pickF_bd (rawF n G 6) 2000 (by omega)
  have h6' := pickF_bd (rawF n G 6) 3 (by omega)
  have h8 := pickF_bd (rawF n G 8) 2500 (by omega)
  have h4 := pickF_bd (rawF n G 4) 3 (by omega)
  have hd := tdiv_bd h8 h4
  have w1 : IntKind.i64.wrap (1 + pickF (rawF n G 8) 2500) = 1 + pickF (rawF n G 8) 2500 := wrapI (by omega) (by omega)
  have w2 : IntKind.i64.wrap (1 + pickF (rawF n G 5) 3000) = 1 + pickF (rawF n G 5) 3000 := wrapI (by omega) (by omega)
  have w3 : IntKind.i64.wrap (1 + pickF (rawF n G 4) 3) = 1 + pickF (rawF n G 4) 3 := wrapI (by omega) (by omega)
  have w4 : IntKind.i64.wrap ((pickF (rawF n G 8) 2500).tdiv (1 + pickF (rawF n G 4) 3)) = (pickF (rawF n G 8) 2500).tdiv (1 + pickF (rawF n G 4) 3) := wrapI (by omega) (by omega)
  have w5 : IntKind.i64.wrap (1 + (pickF (rawF n G 8) 2500).tdiv (1 + pickF (rawF n G 4) 3)) = 1 + (pickF (rawF n G 8) 2500).tdiv (1 + pickF (rawF n G 4) 3) := wrapI (by omega) (by omega)
  have c01 : IntKind.i64.wrap (0 + 1) = 1 := by decide
  have c04 : IntKind.i64.wrap (0 + 4) = 4 := by decide
  have c05 : IntKind.i64.wrap (0 + 5) = 5 := by decide
  have c06 : IntKind.i64.wrap (0 + 6) = 6 := by decide
  have c07 : IntKind.i64.wrap (0 + 7) = 7 := by decide
  have c08 : IntKind.i64.wrap (0 + 8) = 8 := by decide
  have c09 : IntKind.i64.wrap (0 + 9) = 9 := by decide
  have c10 : IntKind.i64.wrap (1 + 0) = 1 := by decide
  have c11 : IntKind.i64.wrap (1 + 1) = 2 := by decide
  have c12 : IntKind.i64.wrap (1 + 2) = 3 := by decide
  have c13 : IntKind.i64.wrap (1 + 3) = 4 := by decide
  have c14 : IntKind.i64.wrap (1 + 4) = 5 := by decide
  have c15 : IntKind.i64.wrap (1 + 5) = 6 := by decide
  repeat' (first | refine And.intro ?_ ?_ | (with_reducible exact ff_elim) | (with_reducible exact tf_elim) | (intro hq; exact absurd hq (by decide)) | refine num_elim ?_ | intro _ | (with_reducible rfl) | ((with_reducible refine lk_t ?_); exact rfl) | ((with_reducible refine pf_t ?_); exact rfl) | refine tell ?_ | exact True.intro | (refine IsT.of ?_; kernel_rfl))
  all_goals obtain ⟨hF, hk⟩ := hpre
  all_goals (try refine Tell.mk ?_)
  all_goals first | with_reducible rfl | with_reducible exact isI_mk | with_reducible assumption | (with_reducible refine gb_t ?_; with_reducible assumption) | (with_reducible refine gb_f ?_; with_reducible assumption) | ((with_reducible refine ks_t ?_); rfl) | ((with_reducible refine pk_t ?_); rfl) | ((with_reducible refine pf_t ?_); rfl) | ((with_reducible refine lk_t ?_); rfl) | ((with_reducible refine okF_t ?_); kernel_rfl) | ((with_reducible refine rawF_in ?_); assumption) | skip
  all_goals (try simp only [decide_eq_true_eq, decide_eq_false_iff_not, beq_iff_eq, beq_eq_false_iff_ne, ne_eq, bne_iff_ne, intF_mk])
  all_goals (try simp only [w1, w2, w3, w4, w5, c01, c04, c05, c06, c07, c08, c09, c10, c11, c12, c13, c14, c15])
  all_goals first | with_reducible rfl | omega | (simp only [raw_p]; omega) | exact hF _ | with_reducible exact rawF_in hF | (simp only [intF_mk, c04] at *; simp only [*, cond_true, cond_false]; done) | (simp only [intF_mk, c04, w3] at *; omega) | trace_state
def shp3_r (n : Nat) (G : Nat → Int) : AV := .agg [.int .i64 3, .flt (milF (rawF n G 1) 4000), .flt (milF (rawF n G (1 + 1)) 4000), .flt (milF (rawF n G (1 + 2)) 4000), .flt (F .add (milF (rawF n G 1) 4000) (milF (rawF n G 4) 3000)), .flt (F .add (milF (rawF n G (1 + 1)) 4000) (milF (rawF n G (4 + 1)) 3000)), .flt (F .add (milF (rawF n G (1 + 2)) 4000) (milF (rawF n G (4 + 2)) 3000)), .flt (milF (rawF n G 9) 4000), .flt (milF (rawF n G (9 + 1)) 4000), .flt (milF (rawF n G (9 + 2)) 4000), .flt 0, .flt 0, .int .i64 (pickF (rawF n G 7) 3)]
def shp3_p (n : Nat) (G : Nat → Int) : Prop := (∀ j, In64 (G j)) ∧ pickF (rawF n G 0) 6 = 2
def shp3_k : Con Tryz.prog := ⟨12, fun args => match args with | [.sl n 1 g_G, .int .i64 0, .int .i64 3] => .ok (some (IsI .i64 g_G ∧ shp3_p n (intF g_G))) (shp3_r n (intF g_G)) | _ => .no, by
  intro args p r h hp
  split at h
  · cases h; obtain ⟨h_G, hp⟩ := hp; have e_G := h_G.eq; rw [e_G]; exact shp3_a _ _ hp
  · cases h⟩
theorem six4_f : FnOk Tryz.prog 11 Tryz.f11 := ⟨Tryz.func11, by kernel_rfl⟩
theorem six4_a (c : Int) (hpre : In64 c ∧ pickF c 6 = 3) : ACalls Tryz.prog 11 [.int .i64 c, .int .i64 6] (.int .i64 3) := by
  have h := pick_a c 6 ⟨hpre.1, by omega, by omega⟩
  rw [hpre.2] at h
  exact h
def six4_k : Con Tryz.prog := ⟨11, fun args => match args with | [.int .i64 c, .int .i64 6] => .ok (some (In64 c ∧ pickF c 6 = 3)) (.int .i64 3) | _ => .no, by
  intro args p r h hp
  split at h
  · cases h; exact six4_a _ hp
  · cases h⟩
theorem shp4_f : FnOk Tryz.prog 12 Tryz.f12 := ⟨Tryz.func12, by kernel_rfl⟩
theorem shp4_a (n : Nat) (G : Nat → Int) (hpre : (∀ j, In64 (G j)) ∧ pickF (rawF n G 0) 6 = 3) : ACalls Tryz.prog 12 [ints .i64 n G, .int .i64 0, .int .i64 3] (.agg [.int .i64 4, .flt (milF (rawF n G 1) 4000), .flt (milF (rawF n G (1 + 1)) 4000), .flt (milF (rawF n G (1 + 2)) 4000), .flt (bif (feq (milF (rawF n G 4) 3000) 0 && (feq (milF (rawF n G (4 + 1)) 3000) 0 && feq (milF (rawF n G (4 + 2)) 3000) 0)) then 0 else milF (rawF n G 4) 3000), .flt (bif (feq (milF (rawF n G 4) 3000) 0 && (feq (milF (rawF n G (4 + 1)) 3000) 0 && feq (milF (rawF n G (4 + 2)) 3000) 0)) then 4607182418800017408 else milF (rawF n G (4 + 1)) 3000), .flt (bif (feq (milF (rawF n G 4) 3000) 0 && (feq (milF (rawF n G (4 + 1)) 3000) 0 && feq (milF (rawF n G (4 + 2)) 3000) 0)) then 0 else milF (rawF n G (4 + 2)) 3000), .flt 0, .flt 0, .flt 0, .flt (thoF (1 + pickF (rawF n G 8) 2500)), .flt 0, .int .i64 (pickF (rawF n G 7) 3)]) := by
  refine acalls_of (inl := hasI (P := Tryz.prog) [] []) (base [six4_k, raw_k, vecOf_k, thousandth_k, pick_k, addR_k, putV_k, nought_k] [] []) 0 shp4_f (And.intro (by kernel_rfl) ?_)
  have h5 := pickF_bd (rawF n G 5) 3000 (by omega)
  have h5' := pickF_bd (rawF n G 5) 2000 (by omega)
  have h6 := pickF_bd (rawF n G 6) 2000 (by omega)
  have h6' := pickF_bd (rawF n G 6) 3 (by omega)
  have h8 := pickF_bd (rawF n G 8) 2500 (by omega)
  have h4 := pickF_bd (rawF n G 4) 3 (by omega)
  have hd := tdiv_bd h8 h4
  have w1 : IntKind.i64.wrap (1 + pickF (rawF n G 8) 2500) = 1 + pickF (rawF n G 8) 2500 := wrapI (by omega) (by omega)
  have w2 : IntKind.i64.wrap (1 + pickF (rawF n G 5) 3000) = 1 + pickF (rawF n G 5) 3000 := wrapI (by omega) (by omega)
  have w3 : IntKind.i64.wrap (1 + pickF (rawF n G 4) 3) = 1 + pickF (rawF n G 4) 3 := wrapI (by omega) (by omega)
  have w4 : IntKind.i64.wrap ((pickF (rawF n G 8) 2500).tdiv (1 + pickF (rawF n G 4) 3)) = (pickF (rawF n G 8) 2500).tdiv (1 + pickF (rawF n G 4) 3) := wrapI (by omega) (by omega)
  have w5 : IntKind.i64.wrap (1 + (pickF (rawF n G 8) 2500).tdiv (1 + pickF (rawF n G 4) 3)) = 1 + (pickF (rawF n G 8) 2500).tdiv (1 + pickF (rawF n G 4) 3) := wrapI (by omega) (by omega)
  have c01 : IntKind.i64.wrap (0 + 1) = 1 := by decide
  have c04 : IntKind.i64.wrap (0 + 4) = 4 := by decide
  have c05 : IntKind.i64.wrap (0 + 5) = 5 := by decide
  have c06 : IntKind.i64.wrap (0 + 6) = 6 := by decide
  have c07 : IntKind.i64.wrap (0 + 7) = 7 := by decide
  have c08 : IntKind.i64.wrap (0 + 8) = 8 := by decide
  have c09 : IntKind.i64.wrap (0 + 9) = 9 := by decide
  have c10 : IntKind.i64.wrap (1 + 0) = 1 := by decide
  have c11 : IntKind.i64.wrap (1 + 1) = 2 := by decide
  have c12 : IntKind.i64.wrap (1 + 2) = 3 := by decide
  have c13 : IntKind.i64.wrap (1 + 3) = 4 := by decide
  have c14 : IntKind.i64.wrap (1 + 4) = 5 := by decide
  have c15 : IntKind.i64.wrap (1 + 5) = 6 := by decide
  repeat' (first | refine And.intro ?_ ?_ | (with_reducible exact ff_elim) | (with_reducible exact tf_elim) | (intro hq; exact absurd hq (by decide)) | refine num_elim ?_ | intro _ | (with_reducible rfl) | ((with_reducible refine lk_t ?_); exact rfl) | ((with_reducible refine pf_t ?_); exact rfl) | refine tell ?_ | exact True.intro | (refine IsT.of ?_; kernel_rfl))
  all_goals obtain ⟨hF, hk⟩ := hpre
  all_goals (try refine Tell.mk ?_)
  all_goals first | with_reducible rfl | with_reducible exact isI_mk | with_reducible assumption | (with_reducible refine gb_t ?_; with_reducible assumption) | (with_reducible refine gb_f ?_; with_reducible assumption) | ((with_reducible refine ks_t ?_); rfl) | ((with_reducible refine pk_t ?_); rfl) | ((with_reducible refine pf_t ?_); rfl) | ((with_reducible refine lk_t ?_); rfl) | ((with_reducible refine okF_t ?_); kernel_rfl) | ((with_reducible refine rawF_in ?_); assumption) | skip
  all_goals (try simp only [decide_eq_true_eq, decide_eq_false_iff_not, beq_iff_eq, beq_eq_false_iff_ne, ne_eq, bne_iff_ne, intF_mk])
  all_goals (try simp only [w1, w2, w3, w4, w5, c01, c04, c05, c06, c07, c08, c09, c10, c11, c12, c13, c14, c15])
  all_goals first | with_reducible rfl | omega | (simp only [raw_p]; omega) | exact hF _ | with_reducible exact rawF_in hF | (simp only [intF_mk, c04] at *; simp only [*, cond_true, cond_false]; done) | (simp only [intF_mk, c04, w3] at *; omega) | trace_state
def shp4_r (n : Nat) (G : Nat → Int) : AV := .agg [.int .i64 4, .flt (milF (rawF n G 1) 4000), .flt (milF (rawF n G (1 + 1)) 4000), .flt (milF (rawF n G (1 + 2)) 4000), .flt (bif (feq (milF (rawF n G 4) 3000) 0 && (feq (milF (rawF n G (4 + 1)) 3000) 0 && feq (milF (rawF n G (4 + 2)) 3000) 0)) then 0 else milF (rawF n G 4) 3000), .flt (bif (feq (milF (rawF n G 4) 3000) 0 && (feq (milF (rawF n G (4 + 1)) 3000) 0 && feq (milF (rawF n G (4 + 2)) 3000) 0)) then 4607182418800017408 else milF (rawF n G (4 + 1)) 3000), .flt (bif (feq (milF (rawF n G 4) 3000) 0 && (feq (milF (rawF n G (4 + 1)) 3000) 0 && feq (milF (rawF n G (4 + 2)) 3000) 0)) then 0 else milF (rawF n G (4 + 2)) 3000), .flt 0, .flt 0, .flt 0, .flt (thoF (1 + pickF (rawF n G 8) 2500)), .flt 0, .int .i64 (pickF (rawF n G 7) 3)]
def shp4_p (n : Nat) (G : Nat → Int) : Prop := (∀ j, In64 (G j)) ∧ pickF (rawF n G 0) 6 = 3
def shp4_k : Con Tryz.prog := ⟨12, fun args => match args with | [.sl n 1 g_G, .int .i64 0, .int .i64 3] => .ok (some (IsI .i64 g_G ∧ shp4_p n (intF g_G))) (shp4_r n (intF g_G)) | _ => .no, by
  intro args p r h hp
  split at h
  · cases h; obtain ⟨h_G, hp⟩ := hp; have e_G := h_G.eq; rw [e_G]; exact shp4_a _ _ hp
  · cases h⟩
theorem six5_f : FnOk Tryz.prog 11 Tryz.f11 := ⟨Tryz.func11, by kernel_rfl⟩
theorem six5_a (c : Int) (hpre : In64 c ∧ pickF c 6 = 4) : ACalls Tryz.prog 11 [.int .i64 c, .int .i64 6] (.int .i64 4) := by
  have h := pick_a c 6 ⟨hpre.1, by omega, by omega⟩
  rw [hpre.2] at h
  exact h
def six5_k : Con Tryz.prog := ⟨11, fun args => match args with | [.int .i64 c, .int .i64 6] => .ok (some (In64 c ∧ pickF c 6 = 4)) (.int .i64 4) | _ => .no, by
  intro args p r h hp
  split at h
  · cases h; exact six5_a _ hp
  · cases h⟩
theorem shp5_f : FnOk Tryz.prog 12 Tryz.f12 := ⟨Tryz.func12, by kernel_rfl⟩
theorem shp5_a (n : Nat) (G : Nat → Int) (hpre : (∀ j, In64 (G j)) ∧ pickF (rawF n G 0) 6 = 4) : ACalls Tryz.prog 12 [ints .i64 n G, .int .i64 0, .int .i64 3] (.agg [.int .i64 5, .flt (milF (rawF n G 1) 4000), .flt (milF (rawF n G (1 + 1)) 4000), .flt (milF (rawF n G (1 + 2)) 4000), .flt (bif pickF (rawF n G 6) 3 == 0 then thoF (1 + pickF (rawF n G 5) 3000) else 0), .flt (bif pickF (rawF n G 6) 3 == 1 then thoF (1 + pickF (rawF n G 5) 3000) else 0), .flt (bif pickF (rawF n G 6) 3 == 0 || pickF (rawF n G 6) 3 == 1 then 0 else thoF (1 + pickF (rawF n G 5) 3000)), .flt 0, .flt 0, .flt 0, .flt (thoF (1 + pickF (rawF n G 8) 2500)), .flt 0, .int .i64 (pickF (rawF n G 7) 3)]) := by
  refine acalls_of (inl := hasI (P := Tryz.prog) [] []) (base [six5_k, raw_k, vecOf_k, thousandth_k, pick_k, addR_k, putV_k, nought_k] [] []) 0 shp5_f (And.intro (by kernel_rfl) ?_)
  have h5 := pickF_bd (rawF n G 5) 3000 (by omega)
  have h5' := pickF_bd (rawF n G 5) 2000 (by omega)
  have h6 := pickF_bd (rawF n G 6) 2000 (by omega)
  have h6' := pickF_bd (rawF n G 6) 3 (by omega)
  have h8 := pickF_bd (rawF n G 8) 2500 (by omega)
  have h4 := pickF_bd (rawF n G 4) 3 (by omega)
  have hd := tdiv_bd h8 h4
  have w1 : IntKind.i64.wrap (1 + pickF (rawF n G 8) 2500) = 1 + pickF (rawF n G 8) 2500 := wrapI (by omega) (by omega)
  have w2 : IntKind.i64.wrap (1 + pickF (rawF n G 5) 3000) = 1 + pickF (rawF n G 5) 3000 := wrapI (by omega) (by omega)
  have w3 : IntKind.i64.wrap (1 + pickF (rawF n G 4) 3) = 1 + pickF (rawF n G 4) 3 := wrapI (by omega) (by omega)
  have w4 : IntKind.i64.wrap ((pickF (rawF n G 8) 2500).tdiv (1 + pickF (rawF n G 4) 3)) = (pickF (rawF n G 8) 2500).tdiv (1 + pickF (rawF n G 4) 3) := wrapI (by omega) (by omega)
  have w5 : IntKind.i64.wrap (1 + (pickF (rawF n G 8) 2500).tdiv (1 + pickF (rawF n G 4) 3)) = 1 + (pickF (rawF n G 8) 2500).tdiv (1 + pickF (rawF n G 4) 3) := wrapI (by omega) (by omega)
  have c01 : IntKind.i64.wrap (0 + 1) = 1 := by decide
  have c04 : IntKind.i64.wrap (0 + 4) = 4 := by decide
  have c05 : IntKind.i64.wrap (0 + 5) = 5 := by decide
  have c06 : IntKind.i64.wrap (0 + 6) = 6 := by decide
  have c07 : IntKind.i64.wrap (0 + 7) = 7 := by decide
  have c08 : IntKind.i64.wrap (0 + 8) = 8 := by decide
  have c09 : IntKind.i64.wrap (0 + 9) = 9 := by decide
  have c10 : IntKind.i64.wrap (1 + 0) = 1 := by decide
  have c11 : IntKind.i64.wrap (1 + 1) = 2 := by decide
  have c12 : IntKind.i64.wrap (1 + 2) = 3 := by decide
  have c13 : IntKind.i64.wrap (1 + 3) = 4 := by decide
  have c14 : IntKind.i64.wrap (1 + 4) = 5 := by decide
  have c15 : IntKind.i64.wrap (1 + 5) = 6 := by decide
  repeat' (first | refine And.intro ?_ ?_ | (with_reducible exact ff_elim) | (with_reducible exact tf_elim) | (intro hq; exact absurd hq (by decide)) | refine num_elim ?_ | intro _ | (with_reducible rfl) | ((with_reducible refine lk_t ?_); exact rfl) | ((with_reducible refine pf_t ?_); exact rfl) | refine tell ?_ | exact True.intro | (refine IsT.of ?_; kernel_rfl))
  all_goals obtain ⟨hF, hk⟩ := hpre
  all_goals (try refine Tell.mk ?_)
  all_goals first | with_reducible rfl | with_reducible exact isI_mk | with_reducible assumption | (with_reducible refine gb_t ?_; with_reducible assumption) | (with_reducible refine gb_f ?_; with_reducible assumption) | ((with_reducible refine ks_t ?_); rfl) | ((with_reducible refine pk_t ?_); rfl) | ((with_reducible refine pf_t ?_); rfl) | ((with_reducible refine lk_t ?_); rfl) | ((with_reducible refine okF_t ?_); kernel_rfl) | ((with_reducible refine rawF_in ?_); assumption) | skip
  all_goals (try simp only [decide_eq_true_eq, decide_eq_false_iff_not, beq_iff_eq, beq_eq_false_iff_ne, ne_eq, bne_iff_ne, intF_mk])
  all_goals (try simp only [w1, w2, w3, w4, w5, c01, c04, c05, c06, c07, c08, c09, c10, c11, c12, c13, c14, c15])
  all_goals first | with_reducible rfl | omega | (simp only [raw_p]; omega) | exact hF _ | with_reducible exact rawF_in hF | (simp only [intF_mk, c04] at *; simp only [*, cond_true, cond_false]; done) | (simp only [intF_mk, c04, w3] at *; omega) | trace_state
def shp5_r (n : Nat) (G : Nat → Int) : AV := .agg [.int .i64 5, .flt (milF (rawF n G 1) 4000), .flt (milF (rawF n G (1 + 1)) 4000), .flt (milF (rawF n G (1 + 2)) 4000), .flt (bif pickF (rawF n G 6) 3 == 0 then thoF (1 + pickF (rawF n G 5) 3000) else 0), .flt (bif pickF (rawF n G 6) 3 == 1 then thoF (1 + pickF (rawF n G 5) 3000) else 0), .flt (bif pickF (rawF n G 6) 3 == 0 || pickF (rawF n G 6) 3 == 1 then 0 else thoF (1 + pickF (rawF n G 5) 3000)), .flt 0, .flt 0, .flt 0, .flt (thoF (1 + pickF (rawF n G 8) 2500)), .flt 0, .int .i64 (pickF (rawF n G 7) 3)]
def shp5_p (n : Nat) (G : Nat → Int) : Prop := (∀ j, In64 (G j)) ∧ pickF (rawF n G 0) 6 = 4
def shp5_k : Con Tryz.prog := ⟨12, fun args => match args with | [.sl n 1 g_G, .int .i64 0, .int .i64 3] => .ok (some (IsI .i64 g_G ∧ shp5_p n (intF g_G))) (shp5_r n (intF g_G)) | _ => .no, by
  intro args p r h hp
  split at h
  · cases h; obtain ⟨h_G, hp⟩ := hp; have e_G := h_G.eq; rw [e_G]; exact shp5_a _ _ hp
  · cases h⟩
theorem six6_f : FnOk Tryz.prog 11 Tryz.f11 := ⟨Tryz.func11, by kernel_rfl⟩
theorem six6_a (c : Int) (hpre : In64 c ∧ pickF c 6 = 5) : ACalls Tryz.prog 11 [.int .i64 c, .int .i64 6] (.int .i64 5) := by
  have h := pick_a c 6 ⟨hpre.1, by omega, by omega⟩
  rw [hpre.2] at h
  exact h
def six6_k : Con Tryz.prog := ⟨11, fun args => match args with | [.int .i64 c, .int .i64 6] => .ok (some (In64 c ∧ pickF c 6 = 5)) (.int .i64 5) | _ => .no, by
  intro args p r h hp
  split at h
  · cases h; exact six6_a _ hp
  · cases h⟩
theorem shp6_f : FnOk Tryz.prog 12 Tryz.f12 := ⟨Tryz.func12, by kernel_rfl⟩
theorem shp6_a (n : Nat) (G : Nat → Int) (hpre : (∀ j, In64 (G j)) ∧ pickF (rawF n G 0) 6 = 5) : ACalls Tryz.prog 12 [ints .i64 n G, .int .i64 0, .int .i64 3] (.agg [.int .i64 6, .flt (milF (rawF n G 1) 4000), .flt (milF (rawF n G (1 + 1)) 4000), .flt (milF (rawF n G (1 + 2)) 4000), .flt (bif pickF (rawF n G 6) 3 == 0 then thoF (1 + pickF (rawF n G 5) 3000) else 0), .flt (bif pickF (rawF n G 6) 3 == 1 then thoF (1 + pickF (rawF n G 5) 3000) else 0), .flt (bif pickF (rawF n G 6) 3 == 0 || pickF (rawF n G 6) 3 == 1 then 0 else thoF (1 + pickF (rawF n G 5) 3000)), .flt 0, .flt 0, .flt 0, .flt (thoF (1 + pickF (rawF n G 8) 2500)), .flt (thoF (1 + (pickF (rawF n G 8) 2500).tdiv (1 + pickF (rawF n G 4) 3))), .int .i64 (pickF (rawF n G 7) 3)]) := by
  refine acalls_of (inl := hasI (P := Tryz.prog) [] []) (base [six6_k, raw_k, vecOf_k, thousandth_k, pick_k, addR_k, putV_k, nought_k] [] []) 0 shp6_f (And.intro (by kernel_rfl) ?_)
  have h5 := pickF_bd (rawF n G 5) 3000 (by omega)
  have h5' := pickF_bd (rawF n G 5) 2000 (by omega)
  have h6 := pickF_bd (rawF n G 6) 2000 (by omega)
  have h6' := pickF_bd (rawF n G 6) 3 (by omega)
  have h8 := pickF_bd (rawF n G 8) 2500 (by omega)
  have h4 := pickF_bd (rawF n G 4) 3 (by omega)
  have hd := tdiv_bd h8 h4
  have w1 : IntKind.i64.wrap (1 + pickF (rawF n G 8) 2500) = 1 + pickF (rawF n G 8) 2500 := wrapI (by omega) (by omega)
  have w2 : IntKind.i64.wrap (1 + pickF (rawF n G 5) 3000) = 1 + pickF (rawF n G 5) 3000 := wrapI (by omega) (by omega)
  have w3 : IntKind.i64.wrap (1 + pickF (rawF n G 4) 3) = 1 + pickF (rawF n G 4) 3 := wrapI (by omega) (by omega)
  have w4 : IntKind.i64.wrap ((pickF (rawF n G 8) 2500).tdiv (1 + pickF (rawF n G 4) 3)) = (pickF (rawF n G 8) 2500).tdiv (1 + pickF (rawF n G 4) 3) := wrapI (by omega) (by omega)
  have w5 : IntKind.i64.wrap (1 + (pickF (rawF n G 8) 2500).tdiv (1 + pickF (rawF n G 4) 3)) = 1 + (pickF (rawF n G 8) 2500).tdiv (1 + pickF (rawF n G 4) 3) := wrapI (by omega) (by omega)
  have c01 : IntKind.i64.wrap (0 + 1) = 1 := by decide
  have c04 : IntKind.i64.wrap (0 + 4) = 4 := by decide
  have c05 : IntKind.i64.wrap (0 + 5) = 5 := by decide
  have c06 : IntKind.i64.wrap (0 + 6) = 6 := by decide
  have c07 : IntKind.i64.wrap (0 + 7) = 7 := by decide
  have c08 : IntKind.i64.wrap (0 + 8) = 8 := by decide
  have c09 : IntKind.i64.wrap (0 + 9) = 9 := by decide
  have c10 : IntKind.i64.wrap (1 + 0) = 1 := by decide
  have c11 : IntKind.i64.wrap (1 + 1) = 2 := by decide
  have c12 : IntKind.i64.wrap (1 + 2) = 3 := by decide
  have c13 : IntKind.i64.wrap (1 + 3) = 4 := by decide
  have c14 : IntKind.i64.wrap (1 + 4) = 5 := by decide
  have c15 : IntKind.i64.wrap (1 + 5) = 6 := by decide
  repeat' (first | refine And.intro ?_ ?_ | (with_reducible exact ff_elim) | (with_reducible exact tf_elim) | (intro hq; exact absurd hq (by decide)) | refine num_elim ?_ | intro _ | (with_reducible rfl) | ((with_reducible refine lk_t ?_); exact rfl) | ((with_reducible refine pf_t ?_); exact rfl) | refine tell ?_ | exact True.intro | (refine IsT.of ?_; kernel_rfl))
  all_goals obtain ⟨hF, hk⟩ := hpre
  all_goals (try refine Tell.mk ?_)
  all_goals first | with_reducible rfl | with_reducible exact isI_mk | with_reducible assumption | (with_reducible refine gb_t ?_; with_reducible assumption) | (with_reducible refine gb_f ?_; with_reducible assumption) | ((with_reducible refine ks_t ?_); rfl) | ((with_reducible refine pk_t ?_); rfl) | ((with_reducible refine pf_t ?_); rfl) | ((with_reducible refine lk_t ?_); rfl) | ((with_reducible refine okF_t ?_); kernel_rfl) | ((with_reducible refine rawF_in ?_); assumption) | skip
  all_goals (try simp only [decide_eq_true_eq, decide_eq_false_iff_not, beq_iff_eq, beq_eq_false_iff_ne, ne_eq, bne_iff_ne, intF_mk])
  all_goals (try simp only [w1, w2, w3, w4, w5, c01, c04, c05, c06, c07, c08, c09, c10, c11, c12, c13, c14, c15])
  all_goals first | with_reducible rfl | omega | (simp only [raw_p]; omega) | exact hF _ | with_reducible exact rawF_in hF | (simp only [intF_mk, c04] at *; simp only [*, cond_true, cond_false]; done) | (simp only [intF_mk, c04, w3] at *; omega) | trace_state
def shp6_r (n : Nat) (G : Nat → Int) : AV := .agg [.int .i64 6, .flt (milF (rawF n G 1) 4000), .flt (milF (rawF n G (1 + 1)) 4000), .flt (milF (rawF n G (1 + 2)) 4000), .flt (bif pickF (rawF n G 6) 3 == 0 then thoF (1 + pickF (rawF n G 5) 3000) else 0), .flt (bif pickF (rawF n G 6) 3 == 1 then thoF (1 + pickF (rawF n G 5) 3000) else 0), .flt (bif pickF (rawF n G 6) 3 == 0 || pickF (rawF n G 6) 3 == 1 then 0 else thoF (1 + pickF (rawF n G 5) 3000)), .flt 0, .flt 0, .flt 0, .flt (thoF (1 + pickF (rawF n G 8) 2500)), .flt (thoF (1 + (pickF (rawF n G 8) 2500).tdiv (1 + pickF (rawF n G 4) 3))), .int .i64 (pickF (rawF n G 7) 3)]
def shp6_p (n : Nat) (G : Nat → Int) : Prop := (∀ j, In64 (G j)) ∧ pickF (rawF n G 0) 6 = 5
def shp6_k : Con Tryz.prog := ⟨12, fun args => match args with | [.sl n 1 g_G, .int .i64 0, .int .i64 3] => .ok (some (IsI .i64 g_G ∧ shp6_p n (intF g_G))) (shp6_r n (intF g_G)) | _ => .no, by
  intro args p r h hp
  split at h
  · cases h; obtain ⟨h_G, hp⟩ := hp; have e_G := h_G.eq; rw [e_G]; exact shp6_a _ _ hp
  · cases h⟩
end Go.Proofs.YtdjckabogdohcaaGreat
/- The law TopScaled: a power of two moves nothing. -/
namespace Go.Proofs.YtdjckabogdohcaaGreat
open Go.RowKit Ev Flt
set_option linter.unusedVariables false
set_option linter.unusedSimpArgs false
set_option maxRecDepth 20000
set_option maxHeartbeats 4000000

theorem sb1 {a : Bool} (h : a = true) : gb a true = true := h
theorem sb0 {a : Bool} (h : a = false) : gb a false = true := by rw [h]; rfl
theorem lawS10_f : FnOk Tryz.prog 4 Tryz.f4 := ⟨Tryz.func4, by kernel_rfl⟩
theorem lawS10_a (n : Nat) (G : Nat → Int) (K : Int) (hpre : (∀ j, In64 (G j)) ∧ In64 K ∧ pickF (rawF n G 0) 6 = 0 ∧ pickF K 6 = 0) : ACalls Tryz.prog 4 [ints .i64 n G, .int .i64 K] (.bool true) := by
  refine acalls_of (inl := hasI (P := Tryz.prog) [] []) (base [strikes_k, six1_k, shp1_k, rayOf_k, scale_k, Strike1_k, same_k] [] []) 0 lawS10_f (And.intro (by kernel_rfl) ?_)
  repeat' (first | refine And.intro ?_ ?_ | (with_reducible exact ff_elim) | (with_reducible exact tf_elim) | (intro hq; exact absurd hq (by decide)) | refine num_elim ?_ | intro _ | (with_reducible rfl) | ((with_reducible refine lk_t ?_); exact rfl) | ((with_reducible refine pf_t ?_); exact rfl) | refine tell ?_ | exact True.intro | (refine IsT.of ?_; kernel_rfl))
  all_goals (try refine Tell.mk ?_)
  all_goals first | with_reducible rfl | with_reducible exact isI_mk | with_reducible assumption | (with_reducible refine gb_t ?_; with_reducible assumption) | (with_reducible refine gb_f ?_; with_reducible assumption) | skip
  all_goals (try simp only [intF_mk] at *)
  all_goals first | with_reducible rfl | with_reducible exact isI_mk | with_reducible assumption | omega | exact hpre.1 | exact hpre.1 _ | exact hpre.2.1 | exact hpre.2.2.1 | exact hpre.2.2.2 | exact sb1 (by assumption) | exact sb0 (by assumption) | skip
  all_goals (have hq := kind1 n G by0)
  all_goals (simp only [hq.1, hq.2.1, hq.2.2.1, hq.2.2.2, sameV_refl, beq_self_eq_true, Bool.and_self, cond_true]; done)
def lawS10_r (n : Nat) (G : Nat → Int) (K : Int) : AV := .bool true
def lawS10_p (n : Nat) (G : Nat → Int) (K : Int) : Prop := (∀ j, In64 (G j)) ∧ In64 K ∧ pickF (rawF n G 0) 6 = 0 ∧ pickF K 6 = 0
def lawS10_k : Con Tryz.prog := ⟨4, fun args => match args with | [.sl n 1 g_G, .int .i64 K] => .ok (some (IsI .i64 g_G ∧ lawS10_p n (intF g_G) K)) (lawS10_r n (intF g_G) K) | _ => .no, by
  intro args p r h hp
  split at h
  · cases h; obtain ⟨h_G, hp⟩ := hp; have e_G := h_G.eq; rw [e_G]; exact lawS10_a _ _ _ hp
  · cases h⟩
theorem lawS11_f : FnOk Tryz.prog 4 Tryz.f4 := ⟨Tryz.func4, by kernel_rfl⟩
theorem lawS11_a (n : Nat) (G : Nat → Int) (K : Int) (hpre : (∀ j, In64 (G j)) ∧ In64 K ∧ pickF (rawF n G 0) 6 = 0 ∧ pickF K 6 = 1) : ACalls Tryz.prog 4 [ints .i64 n G, .int .i64 K] (.bool true) := by
  refine acalls_of (inl := hasI (P := Tryz.prog) [] []) (base [strikes_k, six2_k, shp1_k, rayOf_k, scale_k, Strike1_k, same_k] [] []) 0 lawS11_f (And.intro (by kernel_rfl) ?_)
  repeat' (first | refine And.intro ?_ ?_ | (with_reducible exact ff_elim) | (with_reducible exact tf_elim) | (intro hq; exact absurd hq (by decide)) | refine num_elim ?_ | intro _ | (with_reducible rfl) | ((with_reducible refine lk_t ?_); exact rfl) | ((with_reducible refine pf_t ?_); exact rfl) | refine tell ?_ | exact True.intro | (refine IsT.of ?_; kernel_rfl))
  all_goals (try refine Tell.mk ?_)
  all_goals first | with_reducible rfl | with_reducible exact isI_mk | with_reducible assumption | (with_reducible refine gb_t ?_; with_reducible assumption) | (with_reducible refine gb_f ?_; with_reducible assumption) | skip
  all_goals (try simp only [intF_mk] at *)
  all_goals first | with_reducible rfl | with_reducible exact isI_mk | with_reducible assumption | omega | exact hpre.1 | exact hpre.1 _ | exact hpre.2.1 | exact hpre.2.2.1 | exact hpre.2.2.2 | exact sb1 (by assumption) | exact sb0 (by assumption) | skip
  all_goals (have hq := kind1 n G by1)
  all_goals (simp only [hq.1, hq.2.1, hq.2.2.1, hq.2.2.2, sameV_refl, beq_self_eq_true, Bool.and_self, cond_true]; done)
def lawS11_r (n : Nat) (G : Nat → Int) (K : Int) : AV := .bool true
def lawS11_p (n : Nat) (G : Nat → Int) (K : Int) : Prop := (∀ j, In64 (G j)) ∧ In64 K ∧ pickF (rawF n G 0) 6 = 0 ∧ pickF K 6 = 1
def lawS11_k : Con Tryz.prog := ⟨4, fun args => match args with | [.sl n 1 g_G, .int .i64 K] => .ok (some (IsI .i64 g_G ∧ lawS11_p n (intF g_G) K)) (lawS11_r n (intF g_G) K) | _ => .no, by
  intro args p r h hp
  split at h
  · cases h; obtain ⟨h_G, hp⟩ := hp; have e_G := h_G.eq; rw [e_G]; exact lawS11_a _ _ _ hp
  · cases h⟩
theorem lawS12_f : FnOk Tryz.prog 4 Tryz.f4 := ⟨Tryz.func4, by kernel_rfl⟩
theorem lawS12_a (n : Nat) (G : Nat → Int) (K : Int) (hpre : (∀ j, In64 (G j)) ∧ In64 K ∧ pickF (rawF n G 0) 6 = 0 ∧ pickF K 6 = 2) : ACalls Tryz.prog 4 [ints .i64 n G, .int .i64 K] (.bool true) := by
  refine acalls_of (inl := hasI (P := Tryz.prog) [] []) (base [strikes_k, six3_k, shp1_k, rayOf_k, scale_k, Strike1_k, same_k] [] []) 0 lawS12_f (And.intro (by kernel_rfl) ?_)
  repeat' (first | refine And.intro ?_ ?_ | (with_reducible exact ff_elim) | (with_reducible exact tf_elim) | (intro hq; exact absurd hq (by decide)) | refine num_elim ?_ | intro _ | (with_reducible rfl) | ((with_reducible refine lk_t ?_); exact rfl) | ((with_reducible refine pf_t ?_); exact rfl) | refine tell ?_ | exact True.intro | (refine IsT.of ?_; kernel_rfl))
  all_goals (try refine Tell.mk ?_)
  all_goals first | with_reducible rfl | with_reducible exact isI_mk | with_reducible assumption | (with_reducible refine gb_t ?_; with_reducible assumption) | (with_reducible refine gb_f ?_; with_reducible assumption) | skip
  all_goals (try simp only [intF_mk] at *)
  all_goals first | with_reducible rfl | with_reducible exact isI_mk | with_reducible assumption | omega | exact hpre.1 | exact hpre.1 _ | exact hpre.2.1 | exact hpre.2.2.1 | exact hpre.2.2.2 | exact sb1 (by assumption) | exact sb0 (by assumption) | skip
  all_goals (have hq := kind1 n G by2)
  all_goals (simp only [hq.1, hq.2.1, hq.2.2.1, hq.2.2.2, sameV_refl, beq_self_eq_true, Bool.and_self, cond_true]; done)
def lawS12_r (n : Nat) (G : Nat → Int) (K : Int) : AV := .bool true
def lawS12_p (n : Nat) (G : Nat → Int) (K : Int) : Prop := (∀ j, In64 (G j)) ∧ In64 K ∧ pickF (rawF n G 0) 6 = 0 ∧ pickF K 6 = 2
def lawS12_k : Con Tryz.prog := ⟨4, fun args => match args with | [.sl n 1 g_G, .int .i64 K] => .ok (some (IsI .i64 g_G ∧ lawS12_p n (intF g_G) K)) (lawS12_r n (intF g_G) K) | _ => .no, by
  intro args p r h hp
  split at h
  · cases h; obtain ⟨h_G, hp⟩ := hp; have e_G := h_G.eq; rw [e_G]; exact lawS12_a _ _ _ hp
  · cases h⟩
theorem lawS13_f : FnOk Tryz.prog 4 Tryz.f4 := ⟨Tryz.func4, by kernel_rfl⟩
theorem lawS13_a (n : Nat) (G : Nat → Int) (K : Int) (hpre : (∀ j, In64 (G j)) ∧ In64 K ∧ pickF (rawF n G 0) 6 = 0 ∧ pickF K 6 = 3) : ACalls Tryz.prog 4 [ints .i64 n G, .int .i64 K] (.bool true) := by
  refine acalls_of (inl := hasI (P := Tryz.prog) [] []) (base [strikes_k, six4_k, shp1_k, rayOf_k, scale_k, Strike1_k, same_k] [] []) 0 lawS13_f (And.intro (by kernel_rfl) ?_)
  repeat' (first | refine And.intro ?_ ?_ | (with_reducible exact ff_elim) | (with_reducible exact tf_elim) | (intro hq; exact absurd hq (by decide)) | refine num_elim ?_ | intro _ | (with_reducible rfl) | ((with_reducible refine lk_t ?_); exact rfl) | ((with_reducible refine pf_t ?_); exact rfl) | refine tell ?_ | exact True.intro | (refine IsT.of ?_; kernel_rfl))
  all_goals (try refine Tell.mk ?_)
  all_goals first | with_reducible rfl | with_reducible exact isI_mk | with_reducible assumption | (with_reducible refine gb_t ?_; with_reducible assumption) | (with_reducible refine gb_f ?_; with_reducible assumption) | skip
  all_goals (try simp only [intF_mk] at *)
  all_goals first | with_reducible rfl | with_reducible exact isI_mk | with_reducible assumption | omega | exact hpre.1 | exact hpre.1 _ | exact hpre.2.1 | exact hpre.2.2.1 | exact hpre.2.2.2 | exact sb1 (by assumption) | exact sb0 (by assumption) | skip
  all_goals (have hq := kind1 n G by3)
  all_goals (simp only [hq.1, hq.2.1, hq.2.2.1, hq.2.2.2, sameV_refl, beq_self_eq_true, Bool.and_self, cond_true]; done)
def lawS13_r (n : Nat) (G : Nat → Int) (K : Int) : AV := .bool true
def lawS13_p (n : Nat) (G : Nat → Int) (K : Int) : Prop := (∀ j, In64 (G j)) ∧ In64 K ∧ pickF (rawF n G 0) 6 = 0 ∧ pickF K 6 = 3
def lawS13_k : Con Tryz.prog := ⟨4, fun args => match args with | [.sl n 1 g_G, .int .i64 K] => .ok (some (IsI .i64 g_G ∧ lawS13_p n (intF g_G) K)) (lawS13_r n (intF g_G) K) | _ => .no, by
  intro args p r h hp
  split at h
  · cases h; obtain ⟨h_G, hp⟩ := hp; have e_G := h_G.eq; rw [e_G]; exact lawS13_a _ _ _ hp
  · cases h⟩
theorem lawS14_f : FnOk Tryz.prog 4 Tryz.f4 := ⟨Tryz.func4, by kernel_rfl⟩
theorem lawS14_a (n : Nat) (G : Nat → Int) (K : Int) (hpre : (∀ j, In64 (G j)) ∧ In64 K ∧ pickF (rawF n G 0) 6 = 0 ∧ pickF K 6 = 4) : ACalls Tryz.prog 4 [ints .i64 n G, .int .i64 K] (.bool true) := by
  refine acalls_of (inl := hasI (P := Tryz.prog) [] []) (base [strikes_k, six5_k, shp1_k, rayOf_k, scale_k, Strike1_k, same_k] [] []) 0 lawS14_f (And.intro (by kernel_rfl) ?_)
  repeat' (first | refine And.intro ?_ ?_ | (with_reducible exact ff_elim) | (with_reducible exact tf_elim) | (intro hq; exact absurd hq (by decide)) | refine num_elim ?_ | intro _ | (with_reducible rfl) | ((with_reducible refine lk_t ?_); exact rfl) | ((with_reducible refine pf_t ?_); exact rfl) | refine tell ?_ | exact True.intro | (refine IsT.of ?_; kernel_rfl))
  all_goals (try refine Tell.mk ?_)
  all_goals first | with_reducible rfl | with_reducible exact isI_mk | with_reducible assumption | (with_reducible refine gb_t ?_; with_reducible assumption) | (with_reducible refine gb_f ?_; with_reducible assumption) | skip
  all_goals (try simp only [intF_mk] at *)
  all_goals first | with_reducible rfl | with_reducible exact isI_mk | with_reducible assumption | omega | exact hpre.1 | exact hpre.1 _ | exact hpre.2.1 | exact hpre.2.2.1 | exact hpre.2.2.2 | exact sb1 (by assumption) | exact sb0 (by assumption) | skip
  all_goals (have hq := kind1 n G by4)
  all_goals (simp only [hq.1, hq.2.1, hq.2.2.1, hq.2.2.2, sameV_refl, beq_self_eq_true, Bool.and_self, cond_true]; done)
def lawS14_r (n : Nat) (G : Nat → Int) (K : Int) : AV := .bool true
def lawS14_p (n : Nat) (G : Nat → Int) (K : Int) : Prop := (∀ j, In64 (G j)) ∧ In64 K ∧ pickF (rawF n G 0) 6 = 0 ∧ pickF K 6 = 4
def lawS14_k : Con Tryz.prog := ⟨4, fun args => match args with | [.sl n 1 g_G, .int .i64 K] => .ok (some (IsI .i64 g_G ∧ lawS14_p n (intF g_G) K)) (lawS14_r n (intF g_G) K) | _ => .no, by
  intro args p r h hp
  split at h
  · cases h; obtain ⟨h_G, hp⟩ := hp; have e_G := h_G.eq; rw [e_G]; exact lawS14_a _ _ _ hp
  · cases h⟩
theorem lawS15_f : FnOk Tryz.prog 4 Tryz.f4 := ⟨Tryz.func4, by kernel_rfl⟩
theorem lawS15_a (n : Nat) (G : Nat → Int) (K : Int) (hpre : (∀ j, In64 (G j)) ∧ In64 K ∧ pickF (rawF n G 0) 6 = 0 ∧ pickF K 6 = 5) : ACalls Tryz.prog 4 [ints .i64 n G, .int .i64 K] (.bool true) := by
  refine acalls_of (inl := hasI (P := Tryz.prog) [] []) (base [strikes_k, six6_k, shp1_k, rayOf_k, scale_k, Strike1_k, same_k] [] []) 0 lawS15_f (And.intro (by kernel_rfl) ?_)
  repeat' (first | refine And.intro ?_ ?_ | (with_reducible exact ff_elim) | (with_reducible exact tf_elim) | (intro hq; exact absurd hq (by decide)) | refine num_elim ?_ | intro _ | (with_reducible rfl) | ((with_reducible refine lk_t ?_); exact rfl) | ((with_reducible refine pf_t ?_); exact rfl) | refine tell ?_ | exact True.intro | (refine IsT.of ?_; kernel_rfl))
  all_goals (try refine Tell.mk ?_)
  all_goals first | with_reducible rfl | with_reducible exact isI_mk | with_reducible assumption | (with_reducible refine gb_t ?_; with_reducible assumption) | (with_reducible refine gb_f ?_; with_reducible assumption) | skip
  all_goals (try simp only [intF_mk] at *)
  all_goals first | with_reducible rfl | with_reducible exact isI_mk | with_reducible assumption | omega | exact hpre.1 | exact hpre.1 _ | exact hpre.2.1 | exact hpre.2.2.1 | exact hpre.2.2.2 | exact sb1 (by assumption) | exact sb0 (by assumption) | skip
  all_goals (have hq := kind1 n G by5)
  all_goals (simp only [hq.1, hq.2.1, hq.2.2.1, hq.2.2.2, sameV_refl, beq_self_eq_true, Bool.and_self, cond_true]; done)
def lawS15_r (n : Nat) (G : Nat → Int) (K : Int) : AV := .bool true
def lawS15_p (n : Nat) (G : Nat → Int) (K : Int) : Prop := (∀ j, In64 (G j)) ∧ In64 K ∧ pickF (rawF n G 0) 6 = 0 ∧ pickF K 6 = 5
def lawS15_k : Con Tryz.prog := ⟨4, fun args => match args with | [.sl n 1 g_G, .int .i64 K] => .ok (some (IsI .i64 g_G ∧ lawS15_p n (intF g_G) K)) (lawS15_r n (intF g_G) K) | _ => .no, by
  intro args p r h hp
  split at h
  · cases h; obtain ⟨h_G, hp⟩ := hp; have e_G := h_G.eq; rw [e_G]; exact lawS15_a _ _ _ hp
  · cases h⟩
theorem lawS20_f : FnOk Tryz.prog 4 Tryz.f4 := ⟨Tryz.func4, by kernel_rfl⟩
theorem lawS20_a (n : Nat) (G : Nat → Int) (K : Int) (hpre : (∀ j, In64 (G j)) ∧ In64 K ∧ pickF (rawF n G 0) 6 = 1 ∧ pickF K 6 = 0) : ACalls Tryz.prog 4 [ints .i64 n G, .int .i64 K] (.bool true) := by
  refine acalls_of (inl := hasI (P := Tryz.prog) [] []) (base [strikes_k, six1_k, shp2_k, rayOf_k, scale_k, Strike2_k, same_k] [] []) 0 lawS20_f (And.intro (by kernel_rfl) ?_)
  repeat' (first | refine And.intro ?_ ?_ | (with_reducible exact ff_elim) | (with_reducible exact tf_elim) | (intro hq; exact absurd hq (by decide)) | refine num_elim ?_ | intro _ | (with_reducible rfl) | ((with_reducible refine lk_t ?_); exact rfl) | ((with_reducible refine pf_t ?_); exact rfl) | refine tell ?_ | exact True.intro | (refine IsT.of ?_; kernel_rfl))
  all_goals (try refine Tell.mk ?_)
  all_goals first | with_reducible rfl | with_reducible exact isI_mk | with_reducible assumption | (with_reducible refine gb_t ?_; with_reducible assumption) | (with_reducible refine gb_f ?_; with_reducible assumption) | skip
  all_goals (try simp only [intF_mk] at *)
  all_goals first | with_reducible rfl | with_reducible exact isI_mk | with_reducible assumption | omega | exact hpre.1 | exact hpre.1 _ | exact hpre.2.1 | exact hpre.2.2.1 | exact hpre.2.2.2 | exact sb1 (by assumption) | exact sb0 (by assumption) | skip
  all_goals (have hq := kind2 n G by0)
  all_goals (simp only [hq.1, hq.2.1, hq.2.2.1, hq.2.2.2, sameV_refl, beq_self_eq_true, Bool.and_self, cond_true]; done)
def lawS20_r (n : Nat) (G : Nat → Int) (K : Int) : AV := .bool true
def lawS20_p (n : Nat) (G : Nat → Int) (K : Int) : Prop := (∀ j, In64 (G j)) ∧ In64 K ∧ pickF (rawF n G 0) 6 = 1 ∧ pickF K 6 = 0
def lawS20_k : Con Tryz.prog := ⟨4, fun args => match args with | [.sl n 1 g_G, .int .i64 K] => .ok (some (IsI .i64 g_G ∧ lawS20_p n (intF g_G) K)) (lawS20_r n (intF g_G) K) | _ => .no, by
  intro args p r h hp
  split at h
  · cases h; obtain ⟨h_G, hp⟩ := hp; have e_G := h_G.eq; rw [e_G]; exact lawS20_a _ _ _ hp
  · cases h⟩
theorem lawS21_f : FnOk Tryz.prog 4 Tryz.f4 := ⟨Tryz.func4, by kernel_rfl⟩
theorem lawS21_a (n : Nat) (G : Nat → Int) (K : Int) (hpre : (∀ j, In64 (G j)) ∧ In64 K ∧ pickF (rawF n G 0) 6 = 1 ∧ pickF K 6 = 1) : ACalls Tryz.prog 4 [ints .i64 n G, .int .i64 K] (.bool true) := by
  refine acalls_of (inl := hasI (P := Tryz.prog) [] []) (base [strikes_k, six2_k, shp2_k, rayOf_k, scale_k, Strike2_k, same_k] [] []) 0 lawS21_f (And.intro (by kernel_rfl) ?_)
  repeat' (first | refine And.intro ?_ ?_ | (with_reducible exact ff_elim) | (with_reducible exact tf_elim) | (intro hq; exact absurd hq (by decide)) | refine num_elim ?_ | intro _ | (with_reducible rfl) | ((with_reducible refine lk_t ?_); exact rfl) | ((with_reducible refine pf_t ?_); exact rfl) | refine tell ?_ | exact True.intro | (refine IsT.of ?_; kernel_rfl))
  all_goals (try refine Tell.mk ?_)
  all_goals first | with_reducible rfl | with_reducible exact isI_mk | with_reducible assumption | (with_reducible refine gb_t ?_; with_reducible assumption) | (with_reducible refine gb_f ?_; with_reducible assumption) | skip
  all_goals (try simp only [intF_mk] at *)
  all_goals first | with_reducible rfl | with_reducible exact isI_mk | with_reducible assumption | omega | exact hpre.1 | exact hpre.1 _ | exact hpre.2.1 | exact hpre.2.2.1 | exact hpre.2.2.2 | exact sb1 (by assumption) | exact sb0 (by assumption) | skip
  all_goals (have hq := kind2 n G by1)
  all_goals (simp only [hq.1, hq.2.1, hq.2.2.1, hq.2.2.2, sameV_refl, beq_self_eq_true, Bool.and_self, cond_true]; done)
def lawS21_r (n : Nat) (G : Nat → Int) (K : Int) : AV := .bool true
def lawS21_p (n : Nat) (G : Nat → Int) (K : Int) : Prop := (∀ j, In64 (G j)) ∧ In64 K ∧ pickF (rawF n G 0) 6 = 1 ∧ pickF K 6 = 1
def lawS21_k : Con Tryz.prog := ⟨4, fun args => match args with | [.sl n 1 g_G, .int .i64 K] => .ok (some (IsI .i64 g_G ∧ lawS21_p n (intF g_G) K)) (lawS21_r n (intF g_G) K) | _ => .no, by
  intro args p r h hp
  split at h
  · cases h; obtain ⟨h_G, hp⟩ := hp; have e_G := h_G.eq; rw [e_G]; exact lawS21_a _ _ _ hp
  · cases h⟩
theorem lawS22_f : FnOk Tryz.prog 4 Tryz.f4 := ⟨Tryz.func4, by kernel_rfl⟩
theorem lawS22_a (n : Nat) (G : Nat → Int) (K : Int) (hpre : (∀ j, In64 (G j)) ∧ In64 K ∧ pickF (rawF n G 0) 6 = 1 ∧ pickF K 6 = 2) : ACalls Tryz.prog 4 [ints .i64 n G, .int .i64 K] (.bool true) := by
  refine acalls_of (inl := hasI (P := Tryz.prog) [] []) (base [strikes_k, six3_k, shp2_k, rayOf_k, scale_k, Strike2_k, same_k] [] []) 0 lawS22_f (And.intro (by kernel_rfl) ?_)
  repeat' (first | refine And.intro ?_ ?_ | (with_reducible exact ff_elim) | (with_reducible exact tf_elim) | (intro hq; exact absurd hq (by decide)) | refine num_elim ?_ | intro _ | (with_reducible rfl) | ((with_reducible refine lk_t ?_); exact rfl) | ((with_reducible refine pf_t ?_); exact rfl) | refine tell ?_ | exact True.intro | (refine IsT.of ?_; kernel_rfl))
  all_goals (try refine Tell.mk ?_)
  all_goals first | with_reducible rfl | with_reducible exact isI_mk | with_reducible assumption | (with_reducible refine gb_t ?_; with_reducible assumption) | (with_reducible refine gb_f ?_; with_reducible assumption) | skip
  all_goals (try simp only [intF_mk] at *)
  all_goals first | with_reducible rfl | with_reducible exact isI_mk | with_reducible assumption | omega | exact hpre.1 | exact hpre.1 _ | exact hpre.2.1 | exact hpre.2.2.1 | exact hpre.2.2.2 | exact sb1 (by assumption) | exact sb0 (by assumption) | skip
  all_goals (have hq := kind2 n G by2)
  all_goals (simp only [hq.1, hq.2.1, hq.2.2.1, hq.2.2.2, sameV_refl, beq_self_eq_true, Bool.and_self, cond_true]; done)
def lawS22_r (n : Nat) (G : Nat → Int) (K : Int) : AV := .bool true
def lawS22_p (n : Nat) (G : Nat → Int) (K : Int) : Prop := (∀ j, In64 (G j)) ∧ In64 K ∧ pickF (rawF n G 0) 6 = 1 ∧ pickF K 6 = 2
def lawS22_k : Con Tryz.prog := ⟨4, fun args => match args with | [.sl n 1 g_G, .int .i64 K] => .ok (some (IsI .i64 g_G ∧ lawS22_p n (intF g_G) K)) (lawS22_r n (intF g_G) K) | _ => .no, by
  intro args p r h hp
  split at h
  · cases h; obtain ⟨h_G, hp⟩ := hp; have e_G := h_G.eq; rw [e_G]; exact lawS22_a _ _ _ hp
  · cases h⟩
theorem lawS23_f : FnOk Tryz.prog 4 Tryz.f4 := ⟨Tryz.func4, by kernel_rfl⟩
theorem lawS23_a (n : Nat) (G : Nat → Int) (K : Int) (hpre : (∀ j, In64 (G j)) ∧ In64 K ∧ pickF (rawF n G 0) 6 = 1 ∧ pickF K 6 = 3) : ACalls Tryz.prog 4 [ints .i64 n G, .int .i64 K] (.bool true) := by
  refine acalls_of (inl := hasI (P := Tryz.prog) [] []) (base [strikes_k, six4_k, shp2_k, rayOf_k, scale_k, Strike2_k, same_k] [] []) 0 lawS23_f (And.intro (by kernel_rfl) ?_)
  repeat' (first | refine And.intro ?_ ?_ | (with_reducible exact ff_elim) | (with_reducible exact tf_elim) | (intro hq; exact absurd hq (by decide)) | refine num_elim ?_ | intro _ | (with_reducible rfl) | ((with_reducible refine lk_t ?_); exact rfl) | ((with_reducible refine pf_t ?_); exact rfl) | refine tell ?_ | exact True.intro | (refine IsT.of ?_; kernel_rfl))
  all_goals (try refine Tell.mk ?_)
  all_goals first | with_reducible rfl | with_reducible exact isI_mk | with_reducible assumption | (with_reducible refine gb_t ?_; with_reducible assumption) | (with_reducible refine gb_f ?_; with_reducible assumption) | skip
  all_goals (try simp only [intF_mk] at *)
  all_goals first | with_reducible rfl | with_reducible exact isI_mk | with_reducible assumption | omega | exact hpre.1 | exact hpre.1 _ | exact hpre.2.1 | exact hpre.2.2.1 | exact hpre.2.2.2 | exact sb1 (by assumption) | exact sb0 (by assumption) | skip
  all_goals (have hq := kind2 n G by3)
  all_goals (simp only [hq.1, hq.2.1, hq.2.2.1, hq.2.2.2, sameV_refl, beq_self_eq_true, Bool.and_self, cond_true]; done)
def lawS23_r (n : Nat) (G : Nat → Int) (K : Int) : AV := .bool true
def lawS23_p (n : Nat) (G : Nat → Int) (K : Int) : Prop := (∀ j, In64 (G j)) ∧ In64 K ∧ pickF (rawF n G 0) 6 = 1 ∧ pickF K 6 = 3
def lawS23_k : Con Tryz.prog := ⟨4, fun args => match args with | [.sl n 1 g_G, .int .i64 K] => .ok (some (IsI .i64 g_G ∧ lawS23_p n (intF g_G) K)) (lawS23_r n (intF g_G) K) | _ => .no, by
  intro args p r h hp
  split at h
  · cases h; obtain ⟨h_G, hp⟩ := hp; have e_G := h_G.eq; rw [e_G]; exact lawS23_a _ _ _ hp
  · cases h⟩
theorem lawS24_f : FnOk Tryz.prog 4 Tryz.f4 := ⟨Tryz.func4, by kernel_rfl⟩
theorem lawS24_a (n : Nat) (G : Nat → Int) (K : Int) (hpre : (∀ j, In64 (G j)) ∧ In64 K ∧ pickF (rawF n G 0) 6 = 1 ∧ pickF K 6 = 4) : ACalls Tryz.prog 4 [ints .i64 n G, .int .i64 K] (.bool true) := by
  refine acalls_of (inl := hasI (P := Tryz.prog) [] []) (base [strikes_k, six5_k, shp2_k, rayOf_k, scale_k, Strike2_k, same_k] [] []) 0 lawS24_f (And.intro (by kernel_rfl) ?_)
  repeat' (first | refine And.intro ?_ ?_ | (with_reducible exact ff_elim) | (with_reducible exact tf_elim) | (intro hq; exact absurd hq (by decide)) | refine num_elim ?_ | intro _ | (with_reducible rfl) | ((with_reducible refine lk_t ?_); exact rfl) | ((with_reducible refine pf_t ?_); exact rfl) | refine tell ?_ | exact True.intro | (refine IsT.of ?_; kernel_rfl))
  all_goals (try refine Tell.mk ?_)
  all_goals first | with_reducible rfl | with_reducible exact isI_mk | with_reducible assumption | (with_reducible refine gb_t ?_; with_reducible assumption) | (with_reducible refine gb_f ?_; with_reducible assumption) | skip
  all_goals (try simp only [intF_mk] at *)
  all_goals first | with_reducible rfl | with_reducible exact isI_mk | with_reducible assumption | omega | exact hpre.1 | exact hpre.1 _ | exact hpre.2.1 | exact hpre.2.2.1 | exact hpre.2.2.2 | exact sb1 (by assumption) | exact sb0 (by assumption) | skip
  all_goals (have hq := kind2 n G by4)
  all_goals (simp only [hq.1, hq.2.1, hq.2.2.1, hq.2.2.2, sameV_refl, beq_self_eq_true, Bool.and_self, cond_true]; done)
def lawS24_r (n : Nat) (G : Nat → Int) (K : Int) : AV := .bool true
def lawS24_p (n : Nat) (G : Nat → Int) (K : Int) : Prop := (∀ j, In64 (G j)) ∧ In64 K ∧ pickF (rawF n G 0) 6 = 1 ∧ pickF K 6 = 4
def lawS24_k : Con Tryz.prog := ⟨4, fun args => match args with | [.sl n 1 g_G, .int .i64 K] => .ok (some (IsI .i64 g_G ∧ lawS24_p n (intF g_G) K)) (lawS24_r n (intF g_G) K) | _ => .no, by
  intro args p r h hp
  split at h
  · cases h; obtain ⟨h_G, hp⟩ := hp; have e_G := h_G.eq; rw [e_G]; exact lawS24_a _ _ _ hp
  · cases h⟩
theorem lawS25_f : FnOk Tryz.prog 4 Tryz.f4 := ⟨Tryz.func4, by kernel_rfl⟩
theorem lawS25_a (n : Nat) (G : Nat → Int) (K : Int) (hpre : (∀ j, In64 (G j)) ∧ In64 K ∧ pickF (rawF n G 0) 6 = 1 ∧ pickF K 6 = 5) : ACalls Tryz.prog 4 [ints .i64 n G, .int .i64 K] (.bool true) := by
  refine acalls_of (inl := hasI (P := Tryz.prog) [] []) (base [strikes_k, six6_k, shp2_k, rayOf_k, scale_k, Strike2_k, same_k] [] []) 0 lawS25_f (And.intro (by kernel_rfl) ?_)
  repeat' (first | refine And.intro ?_ ?_ | (with_reducible exact ff_elim) | (with_reducible exact tf_elim) | (intro hq; exact absurd hq (by decide)) | refine num_elim ?_ | intro _ | (with_reducible rfl) | ((with_reducible refine lk_t ?_); exact rfl) | ((with_reducible refine pf_t ?_); exact rfl) | refine tell ?_ | exact True.intro | (refine IsT.of ?_; kernel_rfl))
  all_goals (try refine Tell.mk ?_)
  all_goals first | with_reducible rfl | with_reducible exact isI_mk | with_reducible assumption | (with_reducible refine gb_t ?_; with_reducible assumption) | (with_reducible refine gb_f ?_; with_reducible assumption) | skip
  all_goals (try simp only [intF_mk] at *)
  all_goals first | with_reducible rfl | with_reducible exact isI_mk | with_reducible assumption | omega | exact hpre.1 | exact hpre.1 _ | exact hpre.2.1 | exact hpre.2.2.1 | exact hpre.2.2.2 | exact sb1 (by assumption) | exact sb0 (by assumption) | skip
  all_goals (have hq := kind2 n G by5)
  all_goals (simp only [hq.1, hq.2.1, hq.2.2.1, hq.2.2.2, sameV_refl, beq_self_eq_true, Bool.and_self, cond_true]; done)
def lawS25_r (n : Nat) (G : Nat → Int) (K : Int) : AV := .bool true
def lawS25_p (n : Nat) (G : Nat → Int) (K : Int) : Prop := (∀ j, In64 (G j)) ∧ In64 K ∧ pickF (rawF n G 0) 6 = 1 ∧ pickF K 6 = 5
def lawS25_k : Con Tryz.prog := ⟨4, fun args => match args with | [.sl n 1 g_G, .int .i64 K] => .ok (some (IsI .i64 g_G ∧ lawS25_p n (intF g_G) K)) (lawS25_r n (intF g_G) K) | _ => .no, by
  intro args p r h hp
  split at h
  · cases h; obtain ⟨h_G, hp⟩ := hp; have e_G := h_G.eq; rw [e_G]; exact lawS25_a _ _ _ hp
  · cases h⟩
theorem lawS30_f : FnOk Tryz.prog 4 Tryz.f4 := ⟨Tryz.func4, by kernel_rfl⟩
theorem lawS30_a (n : Nat) (G : Nat → Int) (K : Int) (hpre : (∀ j, In64 (G j)) ∧ In64 K ∧ pickF (rawF n G 0) 6 = 2 ∧ pickF K 6 = 0) : ACalls Tryz.prog 4 [ints .i64 n G, .int .i64 K] (.bool true) := by
  refine acalls_of (inl := hasI (P := Tryz.prog) [] []) (base [strikes_k, six1_k, shp3_k, rayOf_k, scale_k, Strike3_k, same_k] [] []) 0 lawS30_f (And.intro (by kernel_rfl) ?_)
  repeat' (first | refine And.intro ?_ ?_ | (with_reducible exact ff_elim) | (with_reducible exact tf_elim) | (intro hq; exact absurd hq (by decide)) | refine num_elim ?_ | intro _ | (with_reducible rfl) | ((with_reducible refine lk_t ?_); exact rfl) | ((with_reducible refine pf_t ?_); exact rfl) | refine tell ?_ | exact True.intro | (refine IsT.of ?_; kernel_rfl))
  all_goals (try refine Tell.mk ?_)
  all_goals first | with_reducible rfl | with_reducible exact isI_mk | with_reducible assumption | (with_reducible refine gb_t ?_; with_reducible assumption) | (with_reducible refine gb_f ?_; with_reducible assumption) | skip
  all_goals (try simp only [intF_mk] at *)
  all_goals first | with_reducible rfl | with_reducible exact isI_mk | with_reducible assumption | omega | exact hpre.1 | exact hpre.1 _ | exact hpre.2.1 | exact hpre.2.2.1 | exact hpre.2.2.2 | exact sb1 (by assumption) | exact sb0 (by assumption) | skip
  all_goals (have hq := kind3 n G by0)
  all_goals (simp only [hq.1, hq.2.1, hq.2.2.1, hq.2.2.2, sameV_refl, beq_self_eq_true, Bool.and_self, cond_true]; done)
def lawS30_r (n : Nat) (G : Nat → Int) (K : Int) : AV := .bool true
def lawS30_p (n : Nat) (G : Nat → Int) (K : Int) : Prop := (∀ j, In64 (G j)) ∧ In64 K ∧ pickF (rawF n G 0) 6 = 2 ∧ pickF K 6 = 0
def lawS30_k : Con Tryz.prog := ⟨4, fun args => match args with | [.sl n 1 g_G, .int .i64 K] => .ok (some (IsI .i64 g_G ∧ lawS30_p n (intF g_G) K)) (lawS30_r n (intF g_G) K) | _ => .no, by
  intro args p r h hp
  split at h
  · cases h; obtain ⟨h_G, hp⟩ := hp; have e_G := h_G.eq; rw [e_G]; exact lawS30_a _ _ _ hp
  · cases h⟩
theorem lawS31_f : FnOk Tryz.prog 4 Tryz.f4 := ⟨Tryz.func4, by kernel_rfl⟩
theorem lawS31_a (n : Nat) (G : Nat → Int) (K : Int) (hpre : (∀ j, In64 (G j)) ∧ In64 K ∧ pickF (rawF n G 0) 6 = 2 ∧ pickF K 6 = 1) : ACalls Tryz.prog 4 [ints .i64 n G, .int .i64 K] (.bool true) := by
  refine acalls_of (inl := hasI (P := Tryz.prog) [] []) (base [strikes_k, six2_k, shp3_k, rayOf_k, scale_k, Strike3_k, same_k] [] []) 0 lawS31_f (And.intro (by kernel_rfl) ?_)
  repeat' (first | refine And.intro ?_ ?_ | (with_reducible exact ff_elim) | (with_reducible exact tf_elim) | (intro hq; exact absurd hq (by decide)) | refine num_elim ?_ | intro _ | (with_reducible rfl) | ((with_reducible refine lk_t ?_); exact rfl) | ((with_reducible refine pf_t ?_); exact rfl) | refine tell ?_ | exact True.intro | (refine IsT.of ?_; kernel_rfl))
  all_goals (try refine Tell.mk ?_)
  all_goals first | with_reducible rfl | with_reducible exact isI_mk | with_reducible assumption | (with_reducible refine gb_t ?_; with_reducible assumption) | (with_reducible refine gb_f ?_; with_reducible assumption) | skip
  all_goals (try simp only [intF_mk] at *)
  all_goals first | with_reducible rfl | with_reducible exact isI_mk | with_reducible assumption | omega | exact hpre.1 | exact hpre.1 _ | exact hpre.2.1 | exact hpre.2.2.1 | exact hpre.2.2.2 | exact sb1 (by assumption) | exact sb0 (by assumption) | skip
  all_goals (have hq := kind3 n G by1)
  all_goals (simp only [hq.1, hq.2.1, hq.2.2.1, hq.2.2.2, sameV_refl, beq_self_eq_true, Bool.and_self, cond_true]; done)
def lawS31_r (n : Nat) (G : Nat → Int) (K : Int) : AV := .bool true
def lawS31_p (n : Nat) (G : Nat → Int) (K : Int) : Prop := (∀ j, In64 (G j)) ∧ In64 K ∧ pickF (rawF n G 0) 6 = 2 ∧ pickF K 6 = 1
def lawS31_k : Con Tryz.prog := ⟨4, fun args => match args with | [.sl n 1 g_G, .int .i64 K] => .ok (some (IsI .i64 g_G ∧ lawS31_p n (intF g_G) K)) (lawS31_r n (intF g_G) K) | _ => .no, by
  intro args p r h hp
  split at h
  · cases h; obtain ⟨h_G, hp⟩ := hp; have e_G := h_G.eq; rw [e_G]; exact lawS31_a _ _ _ hp
  · cases h⟩
theorem lawS32_f : FnOk Tryz.prog 4 Tryz.f4 := ⟨Tryz.func4, by kernel_rfl⟩
theorem lawS32_a (n : Nat) (G : Nat → Int) (K : Int) (hpre : (∀ j, In64 (G j)) ∧ In64 K ∧ pickF (rawF n G 0) 6 = 2 ∧ pickF K 6 = 2) : ACalls Tryz.prog 4 [ints .i64 n G, .int .i64 K] (.bool true) := by
  refine acalls_of (inl := hasI (P := Tryz.prog) [] []) (base [strikes_k, six3_k, shp3_k, rayOf_k, scale_k, Strike3_k, same_k] [] []) 0 lawS32_f (And.intro (by kernel_rfl) ?_)
  repeat' (first | refine And.intro ?_ ?_ | (with_reducible exact ff_elim) | (with_reducible exact tf_elim) | (intro hq; exact absurd hq (by decide)) | refine num_elim ?_ | intro _ | (with_reducible rfl) | ((with_reducible refine lk_t ?_); exact rfl) | ((with_reducible refine pf_t ?_); exact rfl) | refine tell ?_ | exact True.intro | (refine IsT.of ?_; kernel_rfl))
  all_goals (try refine Tell.mk ?_)
  all_goals first | with_reducible rfl | with_reducible exact isI_mk | with_reducible assumption | (with_reducible refine gb_t ?_; with_reducible assumption) | (with_reducible refine gb_f ?_; with_reducible assumption) | skip
  all_goals (try simp only [intF_mk] at *)
  all_goals first | with_reducible rfl | with_reducible exact isI_mk | with_reducible assumption | omega | exact hpre.1 | exact hpre.1 _ | exact hpre.2.1 | exact hpre.2.2.1 | exact hpre.2.2.2 | exact sb1 (by assumption) | exact sb0 (by assumption) | skip
  all_goals (have hq := kind3 n G by2)
  all_goals (simp only [hq.1, hq.2.1, hq.2.2.1, hq.2.2.2, sameV_refl, beq_self_eq_true, Bool.and_self, cond_true]; done)
def lawS32_r (n : Nat) (G : Nat → Int) (K : Int) : AV := .bool true
def lawS32_p (n : Nat) (G : Nat → Int) (K : Int) : Prop := (∀ j, In64 (G j)) ∧ In64 K ∧ pickF (rawF n G 0) 6 = 2 ∧ pickF K 6 = 2
def lawS32_k : Con Tryz.prog := ⟨4, fun args => match args with | [.sl n 1 g_G, .int .i64 K] => .ok (some (IsI .i64 g_G ∧ lawS32_p n (intF g_G) K)) (lawS32_r n (intF g_G) K) | _ => .no, by
  intro args p r h hp
  split at h
  · cases h; obtain ⟨h_G, hp⟩ := hp; have e_G := h_G.eq; rw [e_G]; exact lawS32_a _ _ _ hp
  · cases h⟩
theorem lawS33_f : FnOk Tryz.prog 4 Tryz.f4 := ⟨Tryz.func4, by kernel_rfl⟩
theorem lawS33_a (n : Nat) (G : Nat → Int) (K : Int) (hpre : (∀ j, In64 (G j)) ∧ In64 K ∧ pickF (rawF n G 0) 6 = 2 ∧ pickF K 6 = 3) : ACalls Tryz.prog 4 [ints .i64 n G, .int .i64 K] (.bool true) := by
  refine acalls_of (inl := hasI (P := Tryz.prog) [] []) (base [strikes_k, six4_k, shp3_k, rayOf_k, scale_k, Strike3_k, same_k] [] []) 0 lawS33_f (And.intro (by kernel_rfl) ?_)
  repeat' (first | refine And.intro ?_ ?_ | (with_reducible exact ff_elim) | (with_reducible exact tf_elim) | (intro hq; exact absurd hq (by decide)) | refine num_elim ?_ | intro _ | (with_reducible rfl) | ((with_reducible refine lk_t ?_); exact rfl) | ((with_reducible refine pf_t ?_); exact rfl) | refine tell ?_ | exact True.intro | (refine IsT.of ?_; kernel_rfl))
  all_goals (try refine Tell.mk ?_)
  all_goals first | with_reducible rfl | with_reducible exact isI_mk | with_reducible assumption | (with_reducible refine gb_t ?_; with_reducible assumption) | (with_reducible refine gb_f ?_; with_reducible assumption) | skip
  all_goals (try simp only [intF_mk] at *)
  all_goals first | with_reducible rfl | with_reducible exact isI_mk | with_reducible assumption | omega | exact hpre.1 | exact hpre.1 _ | exact hpre.2.1 | exact hpre.2.2.1 | exact hpre.2.2.2 | exact sb1 (by assumption) | exact sb0 (by assumption) | skip
  all_goals (have hq := kind3 n G by3)
  all_goals (simp only [hq.1, hq.2.1, hq.2.2.1, hq.2.2.2, sameV_refl, beq_self_eq_true, Bool.and_self, cond_true]; done)
def lawS33_r (n : Nat) (G : Nat → Int) (K : Int) : AV := .bool true
def lawS33_p (n : Nat) (G : Nat → Int) (K : Int) : Prop := (∀ j, In64 (G j)) ∧ In64 K ∧ pickF (rawF n G 0) 6 = 2 ∧ pickF K 6 = 3
def lawS33_k : Con Tryz.prog := ⟨4, fun args => match args with | [.sl n 1 g_G, .int .i64 K] => .ok (some (IsI .i64 g_G ∧ lawS33_p n (intF g_G) K)) (lawS33_r n (intF g_G) K) | _ => .no, by
  intro args p r h hp
  split at h
  · cases h; obtain ⟨h_G, hp⟩ := hp; have e_G := h_G.eq; rw [e_G]; exact lawS33_a _ _ _ hp
  · cases h⟩
theorem lawS34_f : FnOk Tryz.prog 4 Tryz.f4 := ⟨Tryz.func4, by kernel_rfl⟩
theorem lawS34_a (n : Nat) (G : Nat → Int) (K : Int) (hpre : (∀ j, In64 (G j)) ∧ In64 K ∧ pickF (rawF n G 0) 6 = 2 ∧ pickF K 6 = 4) : ACalls Tryz.prog 4 [ints .i64 n G, .int .i64 K] (.bool true) := by
  refine acalls_of (inl := hasI (P := Tryz.prog) [] []) (base [strikes_k, six5_k, shp3_k, rayOf_k, scale_k, Strike3_k, same_k] [] []) 0 lawS34_f (And.intro (by kernel_rfl) ?_)
  repeat' (first | refine And.intro ?_ ?_ | (with_reducible exact ff_elim) | (with_reducible exact tf_elim) | (intro hq; exact absurd hq (by decide)) | refine num_elim ?_ | intro _ | (with_reducible rfl) | ((with_reducible refine lk_t ?_); exact rfl) | ((with_reducible refine pf_t ?_); exact rfl) | refine tell ?_ | exact True.intro | (refine IsT.of ?_; kernel_rfl))
  all_goals (try refine Tell.mk ?_)
  all_goals first | with_reducible rfl | with_reducible exact isI_mk | with_reducible assumption | (with_reducible refine gb_t ?_; with_reducible assumption) | (with_reducible refine gb_f ?_; with_reducible assumption) | skip
  all_goals (try simp only [intF_mk] at *)
  all_goals first | with_reducible rfl | with_reducible exact isI_mk | with_reducible assumption | omega | exact hpre.1 | exact hpre.1 _ | exact hpre.2.1 | exact hpre.2.2.1 | exact hpre.2.2.2 | exact sb1 (by assumption) | exact sb0 (by assumption) | skip
  all_goals (have hq := kind3 n G by4)
  all_goals (simp only [hq.1, hq.2.1, hq.2.2.1, hq.2.2.2, sameV_refl, beq_self_eq_true, Bool.and_self, cond_true]; done)
def lawS34_r (n : Nat) (G : Nat → Int) (K : Int) : AV := .bool true
def lawS34_p (n : Nat) (G : Nat → Int) (K : Int) : Prop := (∀ j, In64 (G j)) ∧ In64 K ∧ pickF (rawF n G 0) 6 = 2 ∧ pickF K 6 = 4
def lawS34_k : Con Tryz.prog := ⟨4, fun args => match args with | [.sl n 1 g_G, .int .i64 K] => .ok (some (IsI .i64 g_G ∧ lawS34_p n (intF g_G) K)) (lawS34_r n (intF g_G) K) | _ => .no, by
  intro args p r h hp
  split at h
  · cases h; obtain ⟨h_G, hp⟩ := hp; have e_G := h_G.eq; rw [e_G]; exact lawS34_a _ _ _ hp
  · cases h⟩
theorem lawS35_f : FnOk Tryz.prog 4 Tryz.f4 := ⟨Tryz.func4, by kernel_rfl⟩
theorem lawS35_a (n : Nat) (G : Nat → Int) (K : Int) (hpre : (∀ j, In64 (G j)) ∧ In64 K ∧ pickF (rawF n G 0) 6 = 2 ∧ pickF K 6 = 5) : ACalls Tryz.prog 4 [ints .i64 n G, .int .i64 K] (.bool true) := by
  refine acalls_of (inl := hasI (P := Tryz.prog) [] []) (base [strikes_k, six6_k, shp3_k, rayOf_k, scale_k, Strike3_k, same_k] [] []) 0 lawS35_f (And.intro (by kernel_rfl) ?_)
  repeat' (first | refine And.intro ?_ ?_ | (with_reducible exact ff_elim) | (with_reducible exact tf_elim) | (intro hq; exact absurd hq (by decide)) | refine num_elim ?_ | intro _ | (with_reducible rfl) | ((with_reducible refine lk_t ?_); exact rfl) | ((with_reducible refine pf_t ?_); exact rfl) | refine tell ?_ | exact True.intro | (refine IsT.of ?_; kernel_rfl))
  all_goals (try refine Tell.mk ?_)
  all_goals first | with_reducible rfl | with_reducible exact isI_mk | with_reducible assumption | (with_reducible refine gb_t ?_; with_reducible assumption) | (with_reducible refine gb_f ?_; with_reducible assumption) | skip
  all_goals (try simp only [intF_mk] at *)
  all_goals first | with_reducible rfl | with_reducible exact isI_mk | with_reducible assumption | omega | exact hpre.1 | exact hpre.1 _ | exact hpre.2.1 | exact hpre.2.2.1 | exact hpre.2.2.2 | exact sb1 (by assumption) | exact sb0 (by assumption) | skip
  all_goals (have hq := kind3 n G by5)
  all_goals (simp only [hq.1, hq.2.1, hq.2.2.1, hq.2.2.2, sameV_refl, beq_self_eq_true, Bool.and_self, cond_true]; done)
def lawS35_r (n : Nat) (G : Nat → Int) (K : Int) : AV := .bool true
def lawS35_p (n : Nat) (G : Nat → Int) (K : Int) : Prop := (∀ j, In64 (G j)) ∧ In64 K ∧ pickF (rawF n G 0) 6 = 2 ∧ pickF K 6 = 5
def lawS35_k : Con Tryz.prog := ⟨4, fun args => match args with | [.sl n 1 g_G, .int .i64 K] => .ok (some (IsI .i64 g_G ∧ lawS35_p n (intF g_G) K)) (lawS35_r n (intF g_G) K) | _ => .no, by
  intro args p r h hp
  split at h
  · cases h; obtain ⟨h_G, hp⟩ := hp; have e_G := h_G.eq; rw [e_G]; exact lawS35_a _ _ _ hp
  · cases h⟩
theorem lawS40_f : FnOk Tryz.prog 4 Tryz.f4 := ⟨Tryz.func4, by kernel_rfl⟩
theorem lawS40_a (n : Nat) (G : Nat → Int) (K : Int) (hpre : (∀ j, In64 (G j)) ∧ In64 K ∧ pickF (rawF n G 0) 6 = 3 ∧ pickF K 6 = 0) : ACalls Tryz.prog 4 [ints .i64 n G, .int .i64 K] (.bool true) := by
  refine acalls_of (inl := hasI (P := Tryz.prog) [] []) (base [strikes_k, six1_k, shp4_k, rayOf_k, scale_k, Strike4_k, same_k] [] []) 0 lawS40_f (And.intro (by kernel_rfl) ?_)
  repeat' (first | refine And.intro ?_ ?_ | (with_reducible exact ff_elim) | (with_reducible exact tf_elim) | (intro hq; exact absurd hq (by decide)) | refine num_elim ?_ | intro _ | (with_reducible rfl) | ((with_reducible refine lk_t ?_); exact rfl) | ((with_reducible refine pf_t ?_); exact rfl) | refine tell ?_ | exact True.intro | (refine IsT.of ?_; kernel_rfl))
  all_goals (try refine Tell.mk ?_)
  all_goals first | with_reducible rfl | with_reducible exact isI_mk | with_reducible assumption | (with_reducible refine gb_t ?_; with_reducible assumption) | (with_reducible refine gb_f ?_; with_reducible assumption) | skip
  all_goals (try simp only [intF_mk] at *)
  all_goals first | with_reducible rfl | with_reducible exact isI_mk | with_reducible assumption | omega | exact hpre.1 | exact hpre.1 _ | exact hpre.2.1 | exact hpre.2.2.1 | exact hpre.2.2.2 | exact sb1 (by assumption) | exact sb0 (by assumption) | skip
  all_goals (have hq := kind4 n G by0)
  all_goals (simp only [hq.1, hq.2.1, hq.2.2.1, hq.2.2.2, sameV_refl, beq_self_eq_true, Bool.and_self, cond_true]; done)
def lawS40_r (n : Nat) (G : Nat → Int) (K : Int) : AV := .bool true
def lawS40_p (n : Nat) (G : Nat → Int) (K : Int) : Prop := (∀ j, In64 (G j)) ∧ In64 K ∧ pickF (rawF n G 0) 6 = 3 ∧ pickF K 6 = 0
def lawS40_k : Con Tryz.prog := ⟨4, fun args => match args with | [.sl n 1 g_G, .int .i64 K] => .ok (some (IsI .i64 g_G ∧ lawS40_p n (intF g_G) K)) (lawS40_r n (intF g_G) K) | _ => .no, by
  intro args p r h hp
  split at h
  · cases h; obtain ⟨h_G, hp⟩ := hp; have e_G := h_G.eq; rw [e_G]; exact lawS40_a _ _ _ hp
  · cases h⟩
theorem lawS41_f : FnOk Tryz.prog 4 Tryz.f4 := ⟨Tryz.func4, by kernel_rfl⟩
theorem lawS41_a (n : Nat) (G : Nat → Int) (K : Int) (hpre : (∀ j, In64 (G j)) ∧ In64 K ∧ pickF (rawF n G 0) 6 = 3 ∧ pickF K 6 = 1) : ACalls Tryz.prog 4 [ints .i64 n G, .int .i64 K] (.bool true) := by
  refine acalls_of (inl := hasI (P := Tryz.prog) [] []) (base [strikes_k, six2_k, shp4_k, rayOf_k, scale_k, Strike4_k, same_k] [] []) 0 lawS41_f (And.intro (by kernel_rfl) ?_)
  repeat' (first | refine And.intro ?_ ?_ | (with_reducible exact ff_elim) | (with_reducible exact tf_elim) | (intro hq; exact absurd hq (by decide)) | refine num_elim ?_ | intro _ | (with_reducible rfl) | ((with_reducible refine lk_t ?_); exact rfl) | ((with_reducible refine pf_t ?_); exact rfl) | refine tell ?_ | exact True.intro | (refine IsT.of ?_; kernel_rfl))
  all_goals (try refine Tell.mk ?_)
  all_goals first | with_reducible rfl | with_reducible exact isI_mk | with_reducible assumption | (with_reducible refine gb_t ?_; with_reducible assumption) | (with_reducible refine gb_f ?_; with_reducible assumption) | skip
  all_goals (try simp only [intF_mk] at *)
  all_goals first | with_reducible rfl | with_reducible exact isI_mk | with_reducible assumption | omega | exact hpre.1 | exact hpre.1 _ | exact hpre.2.1 | exact hpre.2.2.1 | exact hpre.2.2.2 | exact sb1 (by assumption) | exact sb0 (by assumption) | skip
  all_goals (have hq := kind4 n G by1)
  all_goals (simp only [hq.1, hq.2.1, hq.2.2.1, hq.2.2.2, sameV_refl, beq_self_eq_true, Bool.and_self, cond_true]; done)
def lawS41_r (n : Nat) (G : Nat → Int) (K : Int) : AV := .bool true
def lawS41_p (n : Nat) (G : Nat → Int) (K : Int) : Prop := (∀ j, In64 (G j)) ∧ In64 K ∧ pickF (rawF n G 0) 6 = 3 ∧ pickF K 6 = 1
def lawS41_k : Con Tryz.prog := ⟨4, fun args => match args with | [.sl n 1 g_G, .int .i64 K] => .ok (some (IsI .i64 g_G ∧ lawS41_p n (intF g_G) K)) (lawS41_r n (intF g_G) K) | _ => .no, by
  intro args p r h hp
  split at h
  · cases h; obtain ⟨h_G, hp⟩ := hp; have e_G := h_G.eq; rw [e_G]; exact lawS41_a _ _ _ hp
  · cases h⟩
theorem lawS42_f : FnOk Tryz.prog 4 Tryz.f4 := ⟨Tryz.func4, by kernel_rfl⟩
theorem lawS42_a (n : Nat) (G : Nat → Int) (K : Int) (hpre : (∀ j, In64 (G j)) ∧ In64 K ∧ pickF (rawF n G 0) 6 = 3 ∧ pickF K 6 = 2) : ACalls Tryz.prog 4 [ints .i64 n G, .int .i64 K] (.bool true) := by
  refine acalls_of (inl := hasI (P := Tryz.prog) [] []) (base [strikes_k, six3_k, shp4_k, rayOf_k, scale_k, Strike4_k, same_k] [] []) 0 lawS42_f (And.intro (by kernel_rfl) ?_)
  repeat' (first | refine And.intro ?_ ?_ | (with_reducible exact ff_elim) | (with_reducible exact tf_elim) | (intro hq; exact absurd hq (by decide)) | refine num_elim ?_ | intro _ | (with_reducible rfl) | ((with_reducible refine lk_t ?_); exact rfl) | ((with_reducible refine pf_t ?_); exact rfl) | refine tell ?_ | exact True.intro | (refine IsT.of ?_; kernel_rfl))
  all_goals (try refine Tell.mk ?_)
  all_goals first | with_reducible rfl | with_reducible exact isI_mk | with_reducible assumption | (with_reducible refine gb_t ?_; with_reducible assumption) | (with_reducible refine gb_f ?_; with_reducible assumption) | skip
  all_goals (try simp only [intF_mk] at *)
  all_goals first | with_reducible rfl | with_reducible exact isI_mk | with_reducible assumption | omega | exact hpre.1 | exact hpre.1 _ | exact hpre.2.1 | exact hpre.2.2.1 | exact hpre.2.2.2 | exact sb1 (by assumption) | exact sb0 (by assumption) | skip
  all_goals (have hq := kind4 n G by2)
  all_goals (simp only [hq.1, hq.2.1, hq.2.2.1, hq.2.2.2, sameV_refl, beq_self_eq_true, Bool.and_self, cond_true]; done)
def lawS42_r (n : Nat) (G : Nat → Int) (K : Int) : AV := .bool true
def lawS42_p (n : Nat) (G : Nat → Int) (K : Int) : Prop := (∀ j, In64 (G j)) ∧ In64 K ∧ pickF (rawF n G 0) 6 = 3 ∧ pickF K 6 = 2
def lawS42_k : Con Tryz.prog := ⟨4, fun args => match args with | [.sl n 1 g_G, .int .i64 K] => .ok (some (IsI .i64 g_G ∧ lawS42_p n (intF g_G) K)) (lawS42_r n (intF g_G) K) | _ => .no, by
  intro args p r h hp
  split at h
  · cases h; obtain ⟨h_G, hp⟩ := hp; have e_G := h_G.eq; rw [e_G]; exact lawS42_a _ _ _ hp
  · cases h⟩
theorem lawS43_f : FnOk Tryz.prog 4 Tryz.f4 := ⟨Tryz.func4, by kernel_rfl⟩
theorem lawS43_a (n : Nat) (G : Nat → Int) (K : Int) (hpre : (∀ j, In64 (G j)) ∧ In64 K ∧ pickF (rawF n G 0) 6 = 3 ∧ pickF K 6 = 3) : ACalls Tryz.prog 4 [ints .i64 n G, .int .i64 K] (.bool true) := by
  refine acalls_of (inl := hasI (P := Tryz.prog) [] []) (base [strikes_k, six4_k, shp4_k, rayOf_k, scale_k, Strike4_k, same_k] [] []) 0 lawS43_f (And.intro (by kernel_rfl) ?_)
  repeat' (first | refine And.intro ?_ ?_ | (with_reducible exact ff_elim) | (with_reducible exact tf_elim) | (intro hq; exact absurd hq (by decide)) | refine num_elim ?_ | intro _ | (with_reducible rfl) | ((with_reducible refine lk_t ?_); exact rfl) | ((with_reducible refine pf_t ?_); exact rfl) | refine tell ?_ | exact True.intro | (refine IsT.of ?_; kernel_rfl))
  all_goals (try refine Tell.mk ?_)
  all_goals first | with_reducible rfl | with_reducible exact isI_mk | with_reducible assumption | (with_reducible refine gb_t ?_; with_reducible assumption) | (with_reducible refine gb_f ?_; with_reducible assumption) | skip
  all_goals (try simp only [intF_mk] at *)
  all_goals first | with_reducible rfl | with_reducible exact isI_mk | with_reducible assumption | omega | exact hpre.1 | exact hpre.1 _ | exact hpre.2.1 | exact hpre.2.2.1 | exact hpre.2.2.2 | exact sb1 (by assumption) | exact sb0 (by assumption) | skip
  all_goals (have hq := kind4 n G by3)
  all_goals (simp only [hq.1, hq.2.1, hq.2.2.1, hq.2.2.2, sameV_refl, beq_self_eq_true, Bool.and_self, cond_true]; done)
def lawS43_r (n : Nat) (G : Nat → Int) (K : Int) : AV := .bool true
def lawS43_p (n : Nat) (G : Nat → Int) (K : Int) : Prop := (∀ j, In64 (G j)) ∧ In64 K ∧ pickF (rawF n G 0) 6 = 3 ∧ pickF K 6 = 3
def lawS43_k : Con Tryz.prog := ⟨4, fun args => match args with | [.sl n 1 g_G, .int .i64 K] => .ok (some (IsI .i64 g_G ∧ lawS43_p n (intF g_G) K)) (lawS43_r n (intF g_G) K) | _ => .no, by
  intro args p r h hp
  split at h
  · cases h; obtain ⟨h_G, hp⟩ := hp; have e_G := h_G.eq; rw [e_G]; exact lawS43_a _ _ _ hp
  · cases h⟩
theorem lawS44_f : FnOk Tryz.prog 4 Tryz.f4 := ⟨Tryz.func4, by kernel_rfl⟩
theorem lawS44_a (n : Nat) (G : Nat → Int) (K : Int) (hpre : (∀ j, In64 (G j)) ∧ In64 K ∧ pickF (rawF n G 0) 6 = 3 ∧ pickF K 6 = 4) : ACalls Tryz.prog 4 [ints .i64 n G, .int .i64 K] (.bool true) := by
  refine acalls_of (inl := hasI (P := Tryz.prog) [] []) (base [strikes_k, six5_k, shp4_k, rayOf_k, scale_k, Strike4_k, same_k] [] []) 0 lawS44_f (And.intro (by kernel_rfl) ?_)
  repeat' (first | refine And.intro ?_ ?_ | (with_reducible exact ff_elim) | (with_reducible exact tf_elim) | (intro hq; exact absurd hq (by decide)) | refine num_elim ?_ | intro _ | (with_reducible rfl) | ((with_reducible refine lk_t ?_); exact rfl) | ((with_reducible refine pf_t ?_); exact rfl) | refine tell ?_ | exact True.intro | (refine IsT.of ?_; kernel_rfl))
  all_goals (try refine Tell.mk ?_)
  all_goals first | with_reducible rfl | with_reducible exact isI_mk | with_reducible assumption | (with_reducible refine gb_t ?_; with_reducible assumption) | (with_reducible refine gb_f ?_; with_reducible assumption) | skip
  all_goals (try simp only [intF_mk] at *)
  all_goals first | with_reducible rfl | with_reducible exact isI_mk | with_reducible assumption | omega | exact hpre.1 | exact hpre.1 _ | exact hpre.2.1 | exact hpre.2.2.1 | exact hpre.2.2.2 | exact sb1 (by assumption) | exact sb0 (by assumption) | skip
  all_goals (have hq := kind4 n G by4)
  all_goals (simp only [hq.1, hq.2.1, hq.2.2.1, hq.2.2.2, sameV_refl, beq_self_eq_true, Bool.and_self, cond_true]; done)
def lawS44_r (n : Nat) (G : Nat → Int) (K : Int) : AV := .bool true
def lawS44_p (n : Nat) (G : Nat → Int) (K : Int) : Prop := (∀ j, In64 (G j)) ∧ In64 K ∧ pickF (rawF n G 0) 6 = 3 ∧ pickF K 6 = 4
def lawS44_k : Con Tryz.prog := ⟨4, fun args => match args with | [.sl n 1 g_G, .int .i64 K] => .ok (some (IsI .i64 g_G ∧ lawS44_p n (intF g_G) K)) (lawS44_r n (intF g_G) K) | _ => .no, by
  intro args p r h hp
  split at h
  · cases h; obtain ⟨h_G, hp⟩ := hp; have e_G := h_G.eq; rw [e_G]; exact lawS44_a _ _ _ hp
  · cases h⟩
theorem lawS45_f : FnOk Tryz.prog 4 Tryz.f4 := ⟨Tryz.func4, by kernel_rfl⟩
theorem lawS45_a (n : Nat) (G : Nat → Int) (K : Int) (hpre : (∀ j, In64 (G j)) ∧ In64 K ∧ pickF (rawF n G 0) 6 = 3 ∧ pickF K 6 = 5) : ACalls Tryz.prog 4 [ints .i64 n G, .int .i64 K] (.bool true) := by
  refine acalls_of (inl := hasI (P := Tryz.prog) [] []) (base [strikes_k, six6_k, shp4_k, rayOf_k, scale_k, Strike4_k, same_k] [] []) 0 lawS45_f (And.intro (by kernel_rfl) ?_)
  repeat' (first | refine And.intro ?_ ?_ | (with_reducible exact ff_elim) | (with_reducible exact tf_elim) | (intro hq; exact absurd hq (by decide)) | refine num_elim ?_ | intro _ | (with_reducible rfl) | ((with_reducible refine lk_t ?_); exact rfl) | ((with_reducible refine pf_t ?_); exact rfl) | refine tell ?_ | exact True.intro | (refine IsT.of ?_; kernel_rfl))
  all_goals (try refine Tell.mk ?_)
  all_goals first | with_reducible rfl | with_reducible exact isI_mk | with_reducible assumption | (with_reducible refine gb_t ?_; with_reducible assumption) | (with_reducible refine gb_f ?_; with_reducible assumption) | skip
  all_goals (try simp only [intF_mk] at *)
  all_goals first | with_reducible rfl | with_reducible exact isI_mk | with_reducible assumption | omega | exact hpre.1 | exact hpre.1 _ | exact hpre.2.1 | exact hpre.2.2.1 | exact hpre.2.2.2 | exact sb1 (by assumption) | exact sb0 (by assumption) | skip
  all_goals (have hq := kind4 n G by5)
  all_goals (simp only [hq.1, hq.2.1, hq.2.2.1, hq.2.2.2, sameV_refl, beq_self_eq_true, Bool.and_self, cond_true]; done)
def lawS45_r (n : Nat) (G : Nat → Int) (K : Int) : AV := .bool true
def lawS45_p (n : Nat) (G : Nat → Int) (K : Int) : Prop := (∀ j, In64 (G j)) ∧ In64 K ∧ pickF (rawF n G 0) 6 = 3 ∧ pickF K 6 = 5
def lawS45_k : Con Tryz.prog := ⟨4, fun args => match args with | [.sl n 1 g_G, .int .i64 K] => .ok (some (IsI .i64 g_G ∧ lawS45_p n (intF g_G) K)) (lawS45_r n (intF g_G) K) | _ => .no, by
  intro args p r h hp
  split at h
  · cases h; obtain ⟨h_G, hp⟩ := hp; have e_G := h_G.eq; rw [e_G]; exact lawS45_a _ _ _ hp
  · cases h⟩
theorem lawS50_f : FnOk Tryz.prog 4 Tryz.f4 := ⟨Tryz.func4, by kernel_rfl⟩
theorem lawS50_a (n : Nat) (G : Nat → Int) (K : Int) (hpre : (∀ j, In64 (G j)) ∧ In64 K ∧ pickF (rawF n G 0) 6 = 4 ∧ pickF K 6 = 0) : ACalls Tryz.prog 4 [ints .i64 n G, .int .i64 K] (.bool true) := by
  refine acalls_of (inl := hasI (P := Tryz.prog) [] []) (base [strikes_k, six1_k, shp5_k, rayOf_k, scale_k, Strike5_k, same_k] [] []) 0 lawS50_f (And.intro (by kernel_rfl) ?_)
  repeat' (first | refine And.intro ?_ ?_ | (with_reducible exact ff_elim) | (with_reducible exact tf_elim) | (intro hq; exact absurd hq (by decide)) | refine num_elim ?_ | intro _ | (with_reducible rfl) | ((with_reducible refine lk_t ?_); exact rfl) | ((with_reducible refine pf_t ?_); exact rfl) | refine tell ?_ | exact True.intro | (refine IsT.of ?_; kernel_rfl))
  all_goals (try refine Tell.mk ?_)
  all_goals first | with_reducible rfl | with_reducible exact isI_mk | with_reducible assumption | (with_reducible refine gb_t ?_; with_reducible assumption) | (with_reducible refine gb_f ?_; with_reducible assumption) | skip
  all_goals (try simp only [intF_mk] at *)
  all_goals first | with_reducible rfl | with_reducible exact isI_mk | with_reducible assumption | omega | exact hpre.1 | exact hpre.1 _ | exact hpre.2.1 | exact hpre.2.2.1 | exact hpre.2.2.2 | exact sb1 (by assumption) | exact sb0 (by assumption) | skip
  all_goals (have hq := kind5 n G by0)
  all_goals (simp only [hq.1, hq.2.1, hq.2.2.1, hq.2.2.2, sameV_refl, beq_self_eq_true, Bool.and_self, cond_true]; done)
def lawS50_r (n : Nat) (G : Nat → Int) (K : Int) : AV := .bool true
def lawS50_p (n : Nat) (G : Nat → Int) (K : Int) : Prop := (∀ j, In64 (G j)) ∧ In64 K ∧ pickF (rawF n G 0) 6 = 4 ∧ pickF K 6 = 0
def lawS50_k : Con Tryz.prog := ⟨4, fun args => match args with | [.sl n 1 g_G, .int .i64 K] => .ok (some (IsI .i64 g_G ∧ lawS50_p n (intF g_G) K)) (lawS50_r n (intF g_G) K) | _ => .no, by
  intro args p r h hp
  split at h
  · cases h; obtain ⟨h_G, hp⟩ := hp; have e_G := h_G.eq; rw [e_G]; exact lawS50_a _ _ _ hp
  · cases h⟩
theorem lawS51_f : FnOk Tryz.prog 4 Tryz.f4 := ⟨Tryz.func4, by kernel_rfl⟩
theorem lawS51_a (n : Nat) (G : Nat → Int) (K : Int) (hpre : (∀ j, In64 (G j)) ∧ In64 K ∧ pickF (rawF n G 0) 6 = 4 ∧ pickF K 6 = 1) : ACalls Tryz.prog 4 [ints .i64 n G, .int .i64 K] (.bool true) := by
  refine acalls_of (inl := hasI (P := Tryz.prog) [] []) (base [strikes_k, six2_k, shp5_k, rayOf_k, scale_k, Strike5_k, same_k] [] []) 0 lawS51_f (And.intro (by kernel_rfl) ?_)
  repeat' (first | refine And.intro ?_ ?_ | (with_reducible exact ff_elim) | (with_reducible exact tf_elim) | (intro hq; exact absurd hq (by decide)) | refine num_elim ?_ | intro _ | (with_reducible rfl) | ((with_reducible refine lk_t ?_); exact rfl) | ((with_reducible refine pf_t ?_); exact rfl) | refine tell ?_ | exact True.intro | (refine IsT.of ?_; kernel_rfl))
  all_goals (try refine Tell.mk ?_)
  all_goals first | with_reducible rfl | with_reducible exact isI_mk | with_reducible assumption | (with_reducible refine gb_t ?_; with_reducible assumption) | (with_reducible refine gb_f ?_; with_reducible assumption) | skip
  all_goals (try simp only [intF_mk] at *)
  all_goals first | with_reducible rfl | with_reducible exact isI_mk | with_reducible assumption | omega | exact hpre.1 | exact hpre.1 _ | exact hpre.2.1 | exact hpre.2.2.1 | exact hpre.2.2.2 | exact sb1 (by assumption) | exact sb0 (by assumption) | skip
  all_goals (have hq := kind5 n G by1)
  all_goals (simp only [hq.1, hq.2.1, hq.2.2.1, hq.2.2.2, sameV_refl, beq_self_eq_true, Bool.and_self, cond_true]; done)
def lawS51_r (n : Nat) (G : Nat → Int) (K : Int) : AV := .bool true
def lawS51_p (n : Nat) (G : Nat → Int) (K : Int) : Prop := (∀ j, In64 (G j)) ∧ In64 K ∧ pickF (rawF n G 0) 6 = 4 ∧ pickF K 6 = 1
def lawS51_k : Con Tryz.prog := ⟨4, fun args => match args with | [.sl n 1 g_G, .int .i64 K] => .ok (some (IsI .i64 g_G ∧ lawS51_p n (intF g_G) K)) (lawS51_r n (intF g_G) K) | _ => .no, by
  intro args p r h hp
  split at h
  · cases h; obtain ⟨h_G, hp⟩ := hp; have e_G := h_G.eq; rw [e_G]; exact lawS51_a _ _ _ hp
  · cases h⟩
theorem lawS52_f : FnOk Tryz.prog 4 Tryz.f4 := ⟨Tryz.func4, by kernel_rfl⟩
theorem lawS52_a (n : Nat) (G : Nat → Int) (K : Int) (hpre : (∀ j, In64 (G j)) ∧ In64 K ∧ pickF (rawF n G 0) 6 = 4 ∧ pickF K 6 = 2) : ACalls Tryz.prog 4 [ints .i64 n G, .int .i64 K] (.bool true) := by
  refine acalls_of (inl := hasI (P := Tryz.prog) [] []) (base [strikes_k, six3_k, shp5_k, rayOf_k, scale_k, Strike5_k, same_k] [] []) 0 lawS52_f (And.intro (by kernel_rfl) ?_)
  repeat' (first | refine And.intro ?_ ?_ | (with_reducible exact ff_elim) | (with_reducible exact tf_elim) | (intro hq; exact absurd hq (by decide)) | refine num_elim ?_ | intro _ | (with_reducible rfl) | ((with_reducible refine lk_t ?_); exact rfl) | ((with_reducible refine pf_t ?_); exact rfl) | refine tell ?_ | exact True.intro | (refine IsT.of ?_; kernel_rfl))
  all_goals (try refine Tell.mk ?_)
  all_goals first | with_reducible rfl | with_reducible exact isI_mk | with_reducible assumption | (with_reducible refine gb_t ?_; with_reducible assumption) | (with_reducible refine gb_f ?_; with_reducible assumption) | skip
  all_goals (try simp only [intF_mk] at *)
  all_goals first | with_reducible rfl | with_reducible exact isI_mk | with_reducible assumption | omega | exact hpre.1 | exact hpre.1 _ | exact hpre.2.1 | exact hpre.2.2.1 | exact hpre.2.2.2 | exact sb1 (by assumption) | exact sb0 (by assumption) | skip
  all_goals (have hq := kind5 n G by2)
  all_goals (simp only [hq.1, hq.2.1, hq.2.2.1, hq.2.2.2, sameV_refl, beq_self_eq_true, Bool.and_self, cond_true]; done)
def lawS52_r (n : Nat) (G : Nat → Int) (K : Int) : AV := .bool true
def lawS52_p (n : Nat) (G : Nat → Int) (K : Int) : Prop := (∀ j, In64 (G j)) ∧ In64 K ∧ pickF (rawF n G 0) 6 = 4 ∧ pickF K 6 = 2
def lawS52_k : Con Tryz.prog := ⟨4, fun args => match args with | [.sl n 1 g_G, .int .i64 K] => .ok (some (IsI .i64 g_G ∧ lawS52_p n (intF g_G) K)) (lawS52_r n (intF g_G) K) | _ => .no, by
  intro args p r h hp
  split at h
  · cases h; obtain ⟨h_G, hp⟩ := hp; have e_G := h_G.eq; rw [e_G]; exact lawS52_a _ _ _ hp
  · cases h⟩
theorem lawS53_f : FnOk Tryz.prog 4 Tryz.f4 := ⟨Tryz.func4, by kernel_rfl⟩
theorem lawS53_a (n : Nat) (G : Nat → Int) (K : Int) (hpre : (∀ j, In64 (G j)) ∧ In64 K ∧ pickF (rawF n G 0) 6 = 4 ∧ pickF K 6 = 3) : ACalls Tryz.prog 4 [ints .i64 n G, .int .i64 K] (.bool true) := by
  refine acalls_of (inl := hasI (P := Tryz.prog) [] []) (base [strikes_k, six4_k, shp5_k, rayOf_k, scale_k, Strike5_k, same_k] [] []) 0 lawS53_f (And.intro (by kernel_rfl) ?_)
  repeat' (first | refine And.intro ?_ ?_ | (with_reducible exact ff_elim) | (with_reducible exact tf_elim) | (intro hq; exact absurd hq (by decide)) | refine num_elim ?_ | intro _ | (with_reducible rfl) | ((with_reducible refine lk_t ?_); exact rfl) | ((with_reducible refine pf_t ?_); exact rfl) | refine tell ?_ | exact True.intro | (refine IsT.of ?_; kernel_rfl))
  all_goals (try refine Tell.mk ?_)
  all_goals first | with_reducible rfl | with_reducible exact isI_mk | with_reducible assumption | (with_reducible refine gb_t ?_; with_reducible assumption) | (with_reducible refine gb_f ?_; with_reducible assumption) | skip
  all_goals (try simp only [intF_mk] at *)
  all_goals first | with_reducible rfl | with_reducible exact isI_mk | with_reducible assumption | omega | exact hpre.1 | exact hpre.1 _ | exact hpre.2.1 | exact hpre.2.2.1 | exact hpre.2.2.2 | exact sb1 (by assumption) | exact sb0 (by assumption) | skip
  all_goals (have hq := kind5 n G by3)
  all_goals (simp only [hq.1, hq.2.1, hq.2.2.1, hq.2.2.2, sameV_refl, beq_self_eq_true, Bool.and_self, cond_true]; done)
def lawS53_r (n : Nat) (G : Nat → Int) (K : Int) : AV := .bool true
def lawS53_p (n : Nat) (G : Nat → Int) (K : Int) : Prop := (∀ j, In64 (G j)) ∧ In64 K ∧ pickF (rawF n G 0) 6 = 4 ∧ pickF K 6 = 3
def lawS53_k : Con Tryz.prog := ⟨4, fun args => match args with | [.sl n 1 g_G, .int .i64 K] => .ok (some (IsI .i64 g_G ∧ lawS53_p n (intF g_G) K)) (lawS53_r n (intF g_G) K) | _ => .no, by
  intro args p r h hp
  split at h
  · cases h; obtain ⟨h_G, hp⟩ := hp; have e_G := h_G.eq; rw [e_G]; exact lawS53_a _ _ _ hp
  · cases h⟩
theorem lawS54_f : FnOk Tryz.prog 4 Tryz.f4 := ⟨Tryz.func4, by kernel_rfl⟩
theorem lawS54_a (n : Nat) (G : Nat → Int) (K : Int) (hpre : (∀ j, In64 (G j)) ∧ In64 K ∧ pickF (rawF n G 0) 6 = 4 ∧ pickF K 6 = 4) : ACalls Tryz.prog 4 [ints .i64 n G, .int .i64 K] (.bool true) := by
  refine acalls_of (inl := hasI (P := Tryz.prog) [] []) (base [strikes_k, six5_k, shp5_k, rayOf_k, scale_k, Strike5_k, same_k] [] []) 0 lawS54_f (And.intro (by kernel_rfl) ?_)
  repeat' (first | refine And.intro ?_ ?_ | (with_reducible exact ff_elim) | (with_reducible exact tf_elim) | (intro hq; exact absurd hq (by decide)) | refine num_elim ?_ | intro _ | (with_reducible rfl) | ((with_reducible refine lk_t ?_); exact rfl) | ((with_reducible refine pf_t ?_); exact rfl) | refine tell ?_ | exact True.intro | (refine IsT.of ?_; kernel_rfl))
  all_goals (try refine Tell.mk ?_)
  all_goals first | with_reducible rfl | with_reducible exact isI_mk | with_reducible assumption | (with_reducible refine gb_t ?_; with_reducible assumption) | (with_reducible refine gb_f ?_; with_reducible assumption) | skip
  all_goals (try simp only [intF_mk] at *)
  all_goals first | with_reducible rfl | with_reducible exact isI_mk | with_reducible assumption | omega | exact hpre.1 | exact hpre.1 _ | exact hpre.2.1 | exact hpre.2.2.1 | exact hpre.2.2.2 | exact sb1 (by assumption) | exact sb0 (by assumption) | skip
  all_goals (have hq := kind5 n G by4)
  all_goals (simp only [hq.1, hq.2.1, hq.2.2.1, hq.2.2.2, sameV_refl, beq_self_eq_true, Bool.and_self, cond_true]; done)
def lawS54_r (n : Nat) (G : Nat → Int) (K : Int) : AV := .bool true
def lawS54_p (n : Nat) (G : Nat → Int) (K : Int) : Prop := (∀ j, In64 (G j)) ∧ In64 K ∧ pickF (rawF n G 0) 6 = 4 ∧ pickF K 6 = 4
def lawS54_k : Con Tryz.prog := ⟨4, fun args => match args with | [.sl n 1 g_G, .int .i64 K] => .ok (some (IsI .i64 g_G ∧ lawS54_p n (intF g_G) K)) (lawS54_r n (intF g_G) K) | _ => .no, by
  intro args p r h hp
  split at h
  · cases h; obtain ⟨h_G, hp⟩ := hp; have e_G := h_G.eq; rw [e_G]; exact lawS54_a _ _ _ hp
  · cases h⟩
theorem lawS55_f : FnOk Tryz.prog 4 Tryz.f4 := ⟨Tryz.func4, by kernel_rfl⟩
theorem lawS55_a (n : Nat) (G : Nat → Int) (K : Int) (hpre : (∀ j, In64 (G j)) ∧ In64 K ∧ pickF (rawF n G 0) 6 = 4 ∧ pickF K 6 = 5) : ACalls Tryz.prog 4 [ints .i64 n G, .int .i64 K] (.bool true) := by
  refine acalls_of (inl := hasI (P := Tryz.prog) [] []) (base [strikes_k, six6_k, shp5_k, rayOf_k, scale_k, Strike5_k, same_k] [] []) 0 lawS55_f (And.intro (by kernel_rfl) ?_)
  repeat' (first | refine And.intro ?_ ?_ | (with_reducible exact ff_elim) | (with_reducible exact tf_elim) | (intro hq; exact absurd hq (by decide)) | refine num_elim ?_ | intro _ | (with_reducible rfl) | ((with_reducible refine lk_t ?_); exact rfl) | ((with_reducible refine pf_t ?_); exact rfl) | refine tell ?_ | exact True.intro | (refine IsT.of ?_; kernel_rfl))
  all_goals (try refine Tell.mk ?_)
  all_goals first | with_reducible rfl | with_reducible exact isI_mk | with_reducible assumption | (with_reducible refine gb_t ?_; with_reducible assumption) | (with_reducible refine gb_f ?_; with_reducible assumption) | skip
  all_goals (try simp only [intF_mk] at *)
  all_goals first | with_reducible rfl | with_reducible exact isI_mk | with_reducible assumption | omega | exact hpre.1 | exact hpre.1 _ | exact hpre.2.1 | exact hpre.2.2.1 | exact hpre.2.2.2 | exact sb1 (by assumption) | exact sb0 (by assumption) | skip
  all_goals (have hq := kind5 n G by5)
  all_goals (simp only [hq.1, hq.2.1, hq.2.2.1, hq.2.2.2, sameV_refl, beq_self_eq_true, Bool.and_self, cond_true]; done)
def lawS55_r (n : Nat) (G : Nat → Int) (K : Int) : AV := .bool true
def lawS55_p (n : Nat) (G : Nat → Int) (K : Int) : Prop := (∀ j, In64 (G j)) ∧ In64 K ∧ pickF (rawF n G 0) 6 = 4 ∧ pickF K 6 = 5
def lawS55_k : Con Tryz.prog := ⟨4, fun args => match args with | [.sl n 1 g_G, .int .i64 K] => .ok (some (IsI .i64 g_G ∧ lawS55_p n (intF g_G) K)) (lawS55_r n (intF g_G) K) | _ => .no, by
  intro args p r h hp
  split at h
  · cases h; obtain ⟨h_G, hp⟩ := hp; have e_G := h_G.eq; rw [e_G]; exact lawS55_a _ _ _ hp
  · cases h⟩
theorem lawS60_f : FnOk Tryz.prog 4 Tryz.f4 := ⟨Tryz.func4, by kernel_rfl⟩
theorem lawS60_a (n : Nat) (G : Nat → Int) (K : Int) (hpre : (∀ j, In64 (G j)) ∧ In64 K ∧ pickF (rawF n G 0) 6 = 5 ∧ pickF K 6 = 0) : ACalls Tryz.prog 4 [ints .i64 n G, .int .i64 K] (.bool true) := by
  refine acalls_of (inl := hasI (P := Tryz.prog) [] []) (base [strikes_k, six1_k, shp6_k, rayOf_k, scale_k, Strike5_k, same_k] [] []) 0 lawS60_f (And.intro (by kernel_rfl) ?_)
  repeat' (first | refine And.intro ?_ ?_ | (with_reducible exact ff_elim) | (with_reducible exact tf_elim) | (intro hq; exact absurd hq (by decide)) | refine num_elim ?_ | intro _ | (with_reducible rfl) | ((with_reducible refine lk_t ?_); exact rfl) | ((with_reducible refine pf_t ?_); exact rfl) | refine tell ?_ | exact True.intro | (refine IsT.of ?_; kernel_rfl))
  all_goals (try refine Tell.mk ?_)
  all_goals first | with_reducible rfl | with_reducible exact isI_mk | with_reducible assumption | (with_reducible refine gb_t ?_; with_reducible assumption) | (with_reducible refine gb_f ?_; with_reducible assumption) | skip
  all_goals (try simp only [intF_mk] at *)
  all_goals first | with_reducible rfl | with_reducible exact isI_mk | with_reducible assumption | omega | exact hpre.1 | exact hpre.1 _ | exact hpre.2.1 | exact hpre.2.2.1 | exact hpre.2.2.2 | exact sb1 (by assumption) | exact sb0 (by assumption) | skip
  all_goals (have hq := kind5 n G by0)
  all_goals (simp only [hq.1, hq.2.1, hq.2.2.1, hq.2.2.2, sameV_refl, beq_self_eq_true, Bool.and_self, cond_true]; done)
def lawS60_r (n : Nat) (G : Nat → Int) (K : Int) : AV := .bool true
def lawS60_p (n : Nat) (G : Nat → Int) (K : Int) : Prop := (∀ j, In64 (G j)) ∧ In64 K ∧ pickF (rawF n G 0) 6 = 5 ∧ pickF K 6 = 0
def lawS60_k : Con Tryz.prog := ⟨4, fun args => match args with | [.sl n 1 g_G, .int .i64 K] => .ok (some (IsI .i64 g_G ∧ lawS60_p n (intF g_G) K)) (lawS60_r n (intF g_G) K) | _ => .no, by
  intro args p r h hp
  split at h
  · cases h; obtain ⟨h_G, hp⟩ := hp; have e_G := h_G.eq; rw [e_G]; exact lawS60_a _ _ _ hp
  · cases h⟩
theorem lawS61_f : FnOk Tryz.prog 4 Tryz.f4 := ⟨Tryz.func4, by kernel_rfl⟩
theorem lawS61_a (n : Nat) (G : Nat → Int) (K : Int) (hpre : (∀ j, In64 (G j)) ∧ In64 K ∧ pickF (rawF n G 0) 6 = 5 ∧ pickF K 6 = 1) : ACalls Tryz.prog 4 [ints .i64 n G, .int .i64 K] (.bool true) := by
  refine acalls_of (inl := hasI (P := Tryz.prog) [] []) (base [strikes_k, six2_k, shp6_k, rayOf_k, scale_k, Strike5_k, same_k] [] []) 0 lawS61_f (And.intro (by kernel_rfl) ?_)
  repeat' (first | refine And.intro ?_ ?_ | (with_reducible exact ff_elim) | (with_reducible exact tf_elim) | (intro hq; exact absurd hq (by decide)) | refine num_elim ?_ | intro _ | (with_reducible rfl) | ((with_reducible refine lk_t ?_); exact rfl) | ((with_reducible refine pf_t ?_); exact rfl) | refine tell ?_ | exact True.intro | (refine IsT.of ?_; kernel_rfl))
  all_goals (try refine Tell.mk ?_)
  all_goals first | with_reducible rfl | with_reducible exact isI_mk | with_reducible assumption | (with_reducible refine gb_t ?_; with_reducible assumption) | (with_reducible refine gb_f ?_; with_reducible assumption) | skip
  all_goals (try simp only [intF_mk] at *)
  all_goals first | with_reducible rfl | with_reducible exact isI_mk | with_reducible assumption | omega | exact hpre.1 | exact hpre.1 _ | exact hpre.2.1 | exact hpre.2.2.1 | exact hpre.2.2.2 | exact sb1 (by assumption) | exact sb0 (by assumption) | skip
  all_goals (have hq := kind5 n G by1)
  all_goals (simp only [hq.1, hq.2.1, hq.2.2.1, hq.2.2.2, sameV_refl, beq_self_eq_true, Bool.and_self, cond_true]; done)
def lawS61_r (n : Nat) (G : Nat → Int) (K : Int) : AV := .bool true
def lawS61_p (n : Nat) (G : Nat → Int) (K : Int) : Prop := (∀ j, In64 (G j)) ∧ In64 K ∧ pickF (rawF n G 0) 6 = 5 ∧ pickF K 6 = 1
def lawS61_k : Con Tryz.prog := ⟨4, fun args => match args with | [.sl n 1 g_G, .int .i64 K] => .ok (some (IsI .i64 g_G ∧ lawS61_p n (intF g_G) K)) (lawS61_r n (intF g_G) K) | _ => .no, by
  intro args p r h hp
  split at h
  · cases h; obtain ⟨h_G, hp⟩ := hp; have e_G := h_G.eq; rw [e_G]; exact lawS61_a _ _ _ hp
  · cases h⟩
theorem lawS62_f : FnOk Tryz.prog 4 Tryz.f4 := ⟨Tryz.func4, by kernel_rfl⟩
theorem lawS62_a (n : Nat) (G : Nat → Int) (K : Int) (hpre : (∀ j, In64 (G j)) ∧ In64 K ∧ pickF (rawF n G 0) 6 = 5 ∧ pickF K 6 = 2) : ACalls Tryz.prog 4 [ints .i64 n G, .int .i64 K] (.bool true) := by
  refine acalls_of (inl := hasI (P := Tryz.prog) [] []) (base [strikes_k, six3_k, shp6_k, rayOf_k, scale_k, Strike5_k, same_k] [] []) 0 lawS62_f (And.intro (by kernel_rfl) ?_)
  repeat' (first | refine And.intro ?_ ?_ | (with_reducible exact ff_elim) | (with_reducible exact tf_elim) | (intro hq; exact absurd hq (by decide)) | refine num_elim ?_ | intro _ | (with_reducible rfl) | ((with_reducible refine lk_t ?_); exact rfl) | ((with_reducible refine pf_t ?_); exact rfl) | refine tell ?_ | exact True.intro | (refine IsT.of ?_; kernel_rfl))
  all_goals (try refine Tell.mk ?_)
  all_goals first | with_reducible rfl | with_reducible exact isI_mk | with_reducible assumption | (with_reducible refine gb_t ?_; with_reducible assumption) | (with_reducible refine gb_f ?_; with_reducible assumption) | skip
  all_goals (try simp only [intF_mk] at *)
  all_goals first | with_reducible rfl | with_reducible exact isI_mk | with_reducible assumption | omega | exact hpre.1 | exact hpre.1 _ | exact hpre.2.1 | exact hpre.2.2.1 | exact hpre.2.2.2 | exact sb1 (by assumption) | exact sb0 (by assumption) | skip
  all_goals (have hq := kind5 n G by2)
  all_goals (simp only [hq.1, hq.2.1, hq.2.2.1, hq.2.2.2, sameV_refl, beq_self_eq_true, Bool.and_self, cond_true]; done)
def lawS62_r (n : Nat) (G : Nat → Int) (K : Int) : AV := .bool true
def lawS62_p (n : Nat) (G : Nat → Int) (K : Int) : Prop := (∀ j, In64 (G j)) ∧ In64 K ∧ pickF (rawF n G 0) 6 = 5 ∧ pickF K 6 = 2
def lawS62_k : Con Tryz.prog := ⟨4, fun args => match args with | [.sl n 1 g_G, .int .i64 K] => .ok (some (IsI .i64 g_G ∧ lawS62_p n (intF g_G) K)) (lawS62_r n (intF g_G) K) | _ => .no, by
  intro args p r h hp
  split at h
  · cases h; obtain ⟨h_G, hp⟩ := hp; have e_G := h_G.eq; rw [e_G]; exact lawS62_a _ _ _ hp
  · cases h⟩
theorem lawS63_f : FnOk Tryz.prog 4 Tryz.f4 := ⟨Tryz.func4, by kernel_rfl⟩
theorem lawS63_a (n : Nat) (G : Nat → Int) (K : Int) (hpre : (∀ j, In64 (G j)) ∧ In64 K ∧ pickF (rawF n G 0) 6 = 5 ∧ pickF K 6 = 3) : ACalls Tryz.prog 4 [ints .i64 n G, .int .i64 K] (.bool true) := by
  refine acalls_of (inl := hasI (P := Tryz.prog) [] []) (base [strikes_k, six4_k, shp6_k, rayOf_k, scale_k, Strike5_k, same_k] [] []) 0 lawS63_f (And.intro (by kernel_rfl) ?_)
  repeat' (first | refine And.intro ?_ ?_ | (with_reducible exact ff_elim) | (with_reducible exact tf_elim) | (intro hq; exact absurd hq (by decide)) | refine num_elim ?_ | intro _ | (with_reducible rfl) | ((with_reducible refine lk_t ?_); exact rfl) | ((with_reducible refine pf_t ?_); exact rfl) | refine tell ?_ | exact True.intro | (refine IsT.of ?_; kernel_rfl))
  all_goals (try refine Tell.mk ?_)
  all_goals first | with_reducible rfl | with_reducible exact isI_mk | with_reducible assumption | (with_reducible refine gb_t ?_; with_reducible assumption) | (with_reducible refine gb_f ?_; with_reducible assumption) | skip
  all_goals (try simp only [intF_mk] at *)
  all_goals first | with_reducible rfl | with_reducible exact isI_mk | with_reducible assumption | omega | exact hpre.1 | exact hpre.1 _ | exact hpre.2.1 | exact hpre.2.2.1 | exact hpre.2.2.2 | exact sb1 (by assumption) | exact sb0 (by assumption) | skip
  all_goals (have hq := kind5 n G by3)
  all_goals (simp only [hq.1, hq.2.1, hq.2.2.1, hq.2.2.2, sameV_refl, beq_self_eq_true, Bool.and_self, cond_true]; done)
def lawS63_r (n : Nat) (G : Nat → Int) (K : Int) : AV := .bool true
def lawS63_p (n : Nat) (G : Nat → Int) (K : Int) : Prop := (∀ j, In64 (G j)) ∧ In64 K ∧ pickF (rawF n G 0) 6 = 5 ∧ pickF K 6 = 3
def lawS63_k : Con Tryz.prog := ⟨4, fun args => match args with | [.sl n 1 g_G, .int .i64 K] => .ok (some (IsI .i64 g_G ∧ lawS63_p n (intF g_G) K)) (lawS63_r n (intF g_G) K) | _ => .no, by
  intro args p r h hp
  split at h
  · cases h; obtain ⟨h_G, hp⟩ := hp; have e_G := h_G.eq; rw [e_G]; exact lawS63_a _ _ _ hp
  · cases h⟩
theorem lawS64_f : FnOk Tryz.prog 4 Tryz.f4 := ⟨Tryz.func4, by kernel_rfl⟩
theorem lawS64_a (n : Nat) (G : Nat → Int) (K : Int) (hpre : (∀ j, In64 (G j)) ∧ In64 K ∧ pickF (rawF n G 0) 6 = 5 ∧ pickF K 6 = 4) : ACalls Tryz.prog 4 [ints .i64 n G, .int .i64 K] (.bool true) := by
  refine acalls_of (inl := hasI (P := Tryz.prog) [] []) (base [strikes_k, six5_k, shp6_k, rayOf_k, scale_k, Strike5_k, same_k] [] []) 0 lawS64_f (And.intro (by kernel_rfl) ?_)
  repeat' (first | refine And.intro ?_ ?_ | (with_reducible exact ff_elim) | (with_reducible exact tf_elim) | (intro hq; exact absurd hq (by decide)) | refine num_elim ?_ | intro _ | (with_reducible rfl) | ((with_reducible refine lk_t ?_); exact rfl) | ((with_reducible refine pf_t ?_); exact rfl) | refine tell ?_ | exact True.intro | (refine IsT.of ?_; kernel_rfl))
  all_goals (try refine Tell.mk ?_)
  all_goals first | with_reducible rfl | with_reducible exact isI_mk | with_reducible assumption | (with_reducible refine gb_t ?_; with_reducible assumption) | (with_reducible refine gb_f ?_; with_reducible assumption) | skip
  all_goals (try simp only [intF_mk] at *)
  all_goals first | with_reducible rfl | with_reducible exact isI_mk | with_reducible assumption | omega | exact hpre.1 | exact hpre.1 _ | exact hpre.2.1 | exact hpre.2.2.1 | exact hpre.2.2.2 | exact sb1 (by assumption) | exact sb0 (by assumption) | skip
  all_goals (have hq := kind5 n G by4)
  all_goals (simp only [hq.1, hq.2.1, hq.2.2.1, hq.2.2.2, sameV_refl, beq_self_eq_true, Bool.and_self, cond_true]; done)
def lawS64_r (n : Nat) (G : Nat → Int) (K : Int) : AV := .bool true
def lawS64_p (n : Nat) (G : Nat → Int) (K : Int) : Prop := (∀ j, In64 (G j)) ∧ In64 K ∧ pickF (rawF n G 0) 6 = 5 ∧ pickF K 6 = 4
def lawS64_k : Con Tryz.prog := ⟨4, fun args => match args with | [.sl n 1 g_G, .int .i64 K] => .ok (some (IsI .i64 g_G ∧ lawS64_p n (intF g_G) K)) (lawS64_r n (intF g_G) K) | _ => .no, by
  intro args p r h hp
  split at h
  · cases h; obtain ⟨h_G, hp⟩ := hp; have e_G := h_G.eq; rw [e_G]; exact lawS64_a _ _ _ hp
  · cases h⟩
theorem lawS65_f : FnOk Tryz.prog 4 Tryz.f4 := ⟨Tryz.func4, by kernel_rfl⟩
theorem lawS65_a (n : Nat) (G : Nat → Int) (K : Int) (hpre : (∀ j, In64 (G j)) ∧ In64 K ∧ pickF (rawF n G 0) 6 = 5 ∧ pickF K 6 = 5) : ACalls Tryz.prog 4 [ints .i64 n G, .int .i64 K] (.bool true) := by
  refine acalls_of (inl := hasI (P := Tryz.prog) [] []) (base [strikes_k, six6_k, shp6_k, rayOf_k, scale_k, Strike5_k, same_k] [] []) 0 lawS65_f (And.intro (by kernel_rfl) ?_)
  repeat' (first | refine And.intro ?_ ?_ | (with_reducible exact ff_elim) | (with_reducible exact tf_elim) | (intro hq; exact absurd hq (by decide)) | refine num_elim ?_ | intro _ | (with_reducible rfl) | ((with_reducible refine lk_t ?_); exact rfl) | ((with_reducible refine pf_t ?_); exact rfl) | refine tell ?_ | exact True.intro | (refine IsT.of ?_; kernel_rfl))
  all_goals (try refine Tell.mk ?_)
  all_goals first | with_reducible rfl | with_reducible exact isI_mk | with_reducible assumption | (with_reducible refine gb_t ?_; with_reducible assumption) | (with_reducible refine gb_f ?_; with_reducible assumption) | skip
  all_goals (try simp only [intF_mk] at *)
  all_goals first | with_reducible rfl | with_reducible exact isI_mk | with_reducible assumption | omega | exact hpre.1 | exact hpre.1 _ | exact hpre.2.1 | exact hpre.2.2.1 | exact hpre.2.2.2 | exact sb1 (by assumption) | exact sb0 (by assumption) | skip
  all_goals (have hq := kind5 n G by5)
  all_goals (simp only [hq.1, hq.2.1, hq.2.2.1, hq.2.2.2, sameV_refl, beq_self_eq_true, Bool.and_self, cond_true]; done)
def lawS65_r (n : Nat) (G : Nat → Int) (K : Int) : AV := .bool true
def lawS65_p (n : Nat) (G : Nat → Int) (K : Int) : Prop := (∀ j, In64 (G j)) ∧ In64 K ∧ pickF (rawF n G 0) 6 = 5 ∧ pickF K 6 = 5
def lawS65_k : Con Tryz.prog := ⟨4, fun args => match args with | [.sl n 1 g_G, .int .i64 K] => .ok (some (IsI .i64 g_G ∧ lawS65_p n (intF g_G) K)) (lawS65_r n (intF g_G) K) | _ => .no, by
  intro args p r h hp
  split at h
  · cases h; obtain ⟨h_G, hp⟩ := hp; have e_G := h_G.eq; rw [e_G]; exact lawS65_a _ _ _ hp
  · cases h⟩
theorem topScaled_f : FnOk Tryz.prog 4 Tryz.f4 := ⟨Tryz.func4, by kernel_rfl⟩
theorem topScaled_a (n : Nat) (G : Nat → Int) (K : Int) (hpre : (∀ j, In64 (G j)) ∧ In64 K) : ACalls Tryz.prog 4 [ints .i64 n G, .int .i64 K] (.bool true) := by
  obtain ⟨hG, hK⟩ := hpre
  have ha := pickF_bd (rawF n G 0) 6 (by omega)
  have hb := pickF_bd K 6 (by omega)
  have h : pickF (rawF n G 0) 6 = 0 ∨ pickF (rawF n G 0) 6 = 1 ∨ pickF (rawF n G 0) 6 = 2 ∨ pickF (rawF n G 0) 6 = 3 ∨ pickF (rawF n G 0) 6 = 4 ∨ pickF (rawF n G 0) 6 = 5 := by omega
  have h2 : pickF K 6 = 0 ∨ pickF K 6 = 1 ∨ pickF K 6 = 2 ∨ pickF K 6 = 3 ∨ pickF K 6 = 4 ∨ pickF K 6 = 5 := by omega
  rcases h with h | h | h | h | h | h <;> rcases h2 with h2 | h2 | h2 | h2 | h2 | h2
  · exact lawS10_a n G K ⟨hG, hK, h, h2⟩
  · exact lawS11_a n G K ⟨hG, hK, h, h2⟩
  · exact lawS12_a n G K ⟨hG, hK, h, h2⟩
  · exact lawS13_a n G K ⟨hG, hK, h, h2⟩
  · exact lawS14_a n G K ⟨hG, hK, h, h2⟩
  · exact lawS15_a n G K ⟨hG, hK, h, h2⟩
  · exact lawS20_a n G K ⟨hG, hK, h, h2⟩
  · exact lawS21_a n G K ⟨hG, hK, h, h2⟩
  · exact lawS22_a n G K ⟨hG, hK, h, h2⟩
  · exact lawS23_a n G K ⟨hG, hK, h, h2⟩
  · exact lawS24_a n G K ⟨hG, hK, h, h2⟩
  · exact lawS25_a n G K ⟨hG, hK, h, h2⟩
  · exact lawS30_a n G K ⟨hG, hK, h, h2⟩
  · exact lawS31_a n G K ⟨hG, hK, h, h2⟩
  · exact lawS32_a n G K ⟨hG, hK, h, h2⟩
  · exact lawS33_a n G K ⟨hG, hK, h, h2⟩
  · exact lawS34_a n G K ⟨hG, hK, h, h2⟩
  · exact lawS35_a n G K ⟨hG, hK, h, h2⟩
  · exact lawS40_a n G K ⟨hG, hK, h, h2⟩
  · exact lawS41_a n G K ⟨hG, hK, h, h2⟩
  · exact lawS42_a n G K ⟨hG, hK, h, h2⟩
  · exact lawS43_a n G K ⟨hG, hK, h, h2⟩
  · exact lawS44_a n G K ⟨hG, hK, h, h2⟩
  · exact lawS45_a n G K ⟨hG, hK, h, h2⟩
  · exact lawS50_a n G K ⟨hG, hK, h, h2⟩
  · exact lawS51_a n G K ⟨hG, hK, h, h2⟩
  · exact lawS52_a n G K ⟨hG, hK, h, h2⟩
  · exact lawS53_a n G K ⟨hG, hK, h, h2⟩
  · exact lawS54_a n G K ⟨hG, hK, h, h2⟩
  · exact lawS55_a n G K ⟨hG, hK, h, h2⟩
  · exact lawS60_a n G K ⟨hG, hK, h, h2⟩
  · exact lawS61_a n G K ⟨hG, hK, h, h2⟩
  · exact lawS62_a n G K ⟨hG, hK, h, h2⟩
  · exact lawS63_a n G K ⟨hG, hK, h, h2⟩
  · exact lawS64_a n G K ⟨hG, hK, h, h2⟩
  · exact lawS65_a n G K ⟨hG, hK, h, h2⟩
def topScaled_r (n : Nat) (G : Nat → Int) (K : Int) : AV := .bool true
def topScaled_p (n : Nat) (G : Nat → Int) (K : Int) : Prop := (∀ j, In64 (G j)) ∧ In64 K
def topScaled_k : Con Tryz.prog := ⟨4, fun args => match args with | [.sl n 1 g_G, .int .i64 K] => .ok (some (IsI .i64 g_G ∧ topScaled_p n (intF g_G) K)) (topScaled_r n (intF g_G) K) | _ => .no, by
  intro args p r h hp
  split at h
  · cases h; obtain ⟨h_G, hp⟩ := hp; have e_G := h_G.eq; rw [e_G]; exact topScaled_a _ _ _ hp
  · cases h⟩
end Go.Proofs.YtdjckabogdohcaaGreat
