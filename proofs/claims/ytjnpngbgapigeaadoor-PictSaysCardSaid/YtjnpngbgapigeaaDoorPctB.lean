/- Pictures as bytes: packed by the program. -/
import Derived.Test.YtjnpngbgapigeaaDoorPctA
namespace Go.Proofs.YtjnpngbgapigeaaDoor
open Go.RowKit Ev
set_option linter.unusedVariables false
set_option linter.unusedSimpArgs false
set_option maxRecDepth 20000
set_option maxHeartbeats 4000000

/-- How many pixels from here on are unlike: up to 128. -/
def ulF (P : Nat → Int) (n p : Nat) : Nat → Nat → Nat
  | 0, k => k
  | f + 1, k => bif decide (p + k < n) && decide (rn P n (p + k) = 1) then ulF P n p f (k + 1) else k
@[irreducible] def ul (P : Nat → Int) (n p : Nat) : Nat := ulF P n p 127 1
theorem ul_0 (P : Nat → Int) (n p : Nat) : ulF P n p (128 - 1) 1 = ul P n p := by unfold ul; rfl
theorem ul_t {P : Nat → Int} {n p k : Nat} (h1 : k < 128) (h2 : p + k < n) (h3 : rn P n (p + k) = 1) (h : ulF P n p (128 - k) k = ul P n p) : ulF P n p (128 - (k + 1)) (k + 1) = ul P n p := by
  rw [← h, show 128 - k = (128 - (k + 1)) + 1 by omega]
  show _ = (bif decide (p + k < n) && decide (rn P n (p + k) = 1) then _ else _)
  rw [decide_eq_true h2, decide_eq_true h3]; rfl
theorem ul_f {P : Nat → Int} {n p k : Nat} (hk : k ≤ 128) (h1 : ¬ (k < 128 ∧ p + k < n ∧ rn P n (p + k) = 1)) (h : ulF P n p (128 - k) k = ul P n p) : ul P n p = k := by
  rw [← h]
  by_cases e : k = 128
  · subst e; rfl
  · rw [show 128 - k = (128 - (k + 1)) + 1 by omega]
    show (bif decide (p + k < n) && decide (rn P n (p + k) = 1) then _ else _) = _
    by_cases a : p + k < n
    · rw [decide_eq_false (show ¬ rn P n (p + k) = 1 from fun c => h1 ⟨by omega, a, c⟩), Bool.and_false]; rfl
    · rw [decide_eq_false a]; rfl
theorem rnF_bd (P : Nat → Int) (n p : Nat) : ∀ f k, k ≤ rnF P n p f k ∧ rnF P n p f k ≤ k + f ∧ (p + k ≤ n → p + rnF P n p f k ≤ n)
  | 0, k => ⟨Nat.le_refl _, Nat.le_refl _, fun h => h⟩
  | f + 1, k => by
    show k ≤ (bif decide (p + k < n) && pxE P p (p + k) then rnF P n p f (k + 1) else k) ∧ (bif decide (p + k < n) && pxE P p (p + k) then rnF P n p f (k + 1) else k) ≤ k + (f + 1) ∧ (_ → p + (bif decide (p + k < n) && pxE P p (p + k) then rnF P n p f (k + 1) else k) ≤ n)
    have ih := rnF_bd P n p f (k + 1)
    by_cases a : p + k < n
    · rw [decide_eq_true a]
      cases pxE P p (p + k)
      · exact ⟨Nat.le_refl _, by show k ≤ k + (f + 1); omega, fun h => h⟩
      · exact ⟨by show k ≤ rnF P n p f (k + 1); omega, by show rnF P n p f (k + 1) ≤ k + (f + 1); omega, fun h => ih.2.2 (by omega)⟩
    · rw [decide_eq_false a]
      exact ⟨Nat.le_refl _, by show k ≤ k + (f + 1); omega, fun h => h⟩
theorem rn_bd (P : Nat → Int) (n p : Nat) (h : p < n) : 1 ≤ rn P n p ∧ rn P n p ≤ 128 ∧ p + rn P n p ≤ n := by
  have := rnF_bd P n p 127 1
  unfold rn
  exact ⟨this.1, this.2.1, this.2.2 (by omega)⟩
theorem ulF_bd (P : Nat → Int) (n p : Nat) : ∀ f k, k ≤ ulF P n p f k ∧ ulF P n p f k ≤ k + f ∧ (p + k ≤ n → p + ulF P n p f k ≤ n)
  | 0, k => ⟨Nat.le_refl _, Nat.le_refl _, fun h => h⟩
  | f + 1, k => by
    show k ≤ (bif decide (p + k < n) && decide (rn P n (p + k) = 1) then ulF P n p f (k + 1) else k) ∧ (bif decide (p + k < n) && decide (rn P n (p + k) = 1) then ulF P n p f (k + 1) else k) ≤ k + (f + 1) ∧ (_ → p + (bif decide (p + k < n) && decide (rn P n (p + k) = 1) then ulF P n p f (k + 1) else k) ≤ n)
    have ih := ulF_bd P n p f (k + 1)
    by_cases a : p + k < n
    · rw [decide_eq_true a]
      cases decide (rn P n (p + k) = 1)
      · exact ⟨Nat.le_refl _, by show k ≤ k + (f + 1); omega, fun h => h⟩
      · exact ⟨by show k ≤ ulF P n p f (k + 1); omega, by show ulF P n p f (k + 1) ≤ k + (f + 1); omega, fun h => ih.2.2 (by omega)⟩
    · rw [decide_eq_false a]
      exact ⟨Nat.le_refl _, by show k ≤ k + (f + 1); omega, fun h => h⟩
theorem ul_bd (P : Nat → Int) (n p : Nat) (h : p < n) : 1 ≤ ul P n p ∧ ul P n p ≤ 128 ∧ p + ul P n p ≤ n := by
  have := ulF_bd P n p 127 1
  unfold ul
  exact ⟨this.1, this.2.1, this.2.2 (by omega)⟩
/-- Bytes behind bytes. -/
@[irreducible] def apB (N : Nat) (B C : Nat → Int) (j : Nat) : Int := if j < N then B j else C (j - N)
theorem apB_u8 {N : Nat} {B C : Nat → Int} (h : U8s B) (g : U8s C) : U8s (apB N B C) := fun j => by unfold apB; split <;> first | exact h _ | exact g _
theorem apB_cat (N k : Nat) (B C : Nat → Int) (j : Nat) : catI N (some k) B C j = apB N B C j := by rw [catI_some]; unfold apB; rfl
/-- What is packed so far: up to which pixel, and the bytes. -/
structure PkS where
  p : Nat
  N : Nat
  B : Nat → Int
@[irreducible] def hdB (w h : Int) (j : Nat) : Int := if j = 0 then 82 else if j = 1 then 72 else if j = 2 then 80 else if j = 3 then 49 else if j = 4 then IntKind.u8.wrap w else IntKind.u8.wrap h
/-- A block: a run of like pixels, or a row of unlike ones. -/
def PkS.step (P : Nat → Int) (n : Nat) (s : PkS) : PkS :=
  if 1 < rn P n s.p then ⟨s.p + rn P n s.p, s.N + 1 + 4, apB (s.N + 1) (apB s.N s.B fun _ => IntKind.u8.wrap (127 + (rn P n s.p : Int))) fun j => P (4 * s.p + j)⟩
  else ⟨s.p + ul P n s.p, s.N + 1 + 4 * ul P n s.p, apB (s.N + 1) (apB s.N s.B fun _ => IntKind.u8.wrap ((ul P n s.p : Int) - 1)) fun j => P (4 * s.p + j)⟩
def pkW (P : Nat → Int) (n : Nat) (w h : Int) : Nat → PkS
  | 0 => ⟨0, 6, hdB w h⟩
  | i + 1 => if (pkW P n w h i).p < n then (pkW P n w h i).step P n else pkW P n w h i
@[irreducible] def pk (P : Nat → Int) (n : Nat) (w h : Int) (i : Nat) : PkS := pkW P n w h i
theorem pk_0 (P : Nat → Int) (n : Nat) (w h : Int) : pk P n w h 0 = ⟨0, 6, hdB w h⟩ := by unfold pk; rfl
theorem pk_s {P : Nat → Int} {n : Nat} {w h : Int} {i : Nat} (hp : (pk P n w h i).p < n) : pk P n w h (i + 1) = (pk P n w h i).step P n := by
  unfold pk at *
  show (if (pkW P n w h i).p < n then _ else _) = _
  rw [if_pos hp]
theorem pk_e {P : Nat → Int} {n : Nat} {w h : Int} {i : Nat} (hp : n ≤ (pk P n w h i).p) : ∀ d, pk P n w h (i + d) = pk P n w h i
  | 0 => rfl
  | d + 1 => by
    have ih := pk_e hp d
    have : pk P n w h (i + d + 1) = pk P n w h (i + d) := by
      have : ¬ (pk P n w h (i + d)).p < n := by rw [ih]; omega
      unfold pk at *
      show (if (pkW P n w h (i + d)).p < n then _ else _) = _
      rw [if_neg this]
    rw [show i + (d + 1) = i + d + 1 from rfl, this, ih]
theorem pk_rn {P : Nat → Int} {n : Nat} {w h : Int} {i : Nat} (hp : (pk P n w h i).p < n) (hr : 1 < rn P n (pk P n w h i).p) : pk P n w h (i + 1) = ⟨(pk P n w h i).p + rn P n (pk P n w h i).p, (pk P n w h i).N + 1 + 4, apB ((pk P n w h i).N + 1) (apB (pk P n w h i).N (pk P n w h i).B fun _ => IntKind.u8.wrap (127 + (rn P n (pk P n w h i).p : Int))) fun j => P (4 * (pk P n w h i).p + j)⟩ := by
  rw [pk_s hp]; unfold PkS.step; rw [if_pos hr]
theorem pk_ul {P : Nat → Int} {n : Nat} {w h : Int} {i : Nat} (hp : (pk P n w h i).p < n) (hr : ¬ 1 < rn P n (pk P n w h i).p) : pk P n w h (i + 1) = ⟨(pk P n w h i).p + ul P n (pk P n w h i).p, (pk P n w h i).N + 1 + 4 * ul P n (pk P n w h i).p, apB ((pk P n w h i).N + 1) (apB (pk P n w h i).N (pk P n w h i).B fun _ => IntKind.u8.wrap ((ul P n (pk P n w h i).p : Int) - 1)) fun j => P (4 * (pk P n w h i).p + j)⟩ := by
  rw [pk_s hp]; unfold PkS.step; rw [if_neg hr]
theorem u8w_bd (x : Int) : 0 ≤ IntKind.u8.wrap x ∧ IntKind.u8.wrap x < 256 := by rw [u8w]; omega
theorem pk_ok {P : Nat → Int} (hP : U8s P) (n : Nat) (w h : Int) : ∀ i, (pk P n w h i).p ≤ n ∧ (i ≤ (pk P n w h i).p ∨ (pk P n w h i).p = n) ∧ (pk P n w h i).N ≤ 6 + 5 * (pk P n w h i).p ∧ 6 ≤ (pk P n w h i).N ∧ U8s (pk P n w h i).B
  | 0 => by
    rw [pk_0]
    refine ⟨Nat.zero_le _, .inl (Nat.le_refl _), Nat.le_refl _, Nat.le_refl _, fun j => ?_⟩
    show 0 ≤ hdB w h j ∧ hdB w h j < 256
    have a := u8w_bd w
    have b := u8w_bd h
    unfold hdB
    repeat' split
    all_goals omega
  | i + 1 => by
    obtain ⟨a, b, c, d, e⟩ := pk_ok hP n w h i
    by_cases hp : (pk P n w h i).p < n
    · by_cases hr : 1 < rn P n (pk P n w h i).p
      · have r := rn_bd P n _ hp
        rw [pk_rn hp hr]
        exact ⟨r.2.2, .inl (by show i + 1 ≤ _ + _; omega), by show _ + 1 + 4 ≤ 6 + 5 * (_ + _); omega, by show 6 ≤ _ + 1 + 4; omega, apB_u8 (apB_u8 e fun _ => u8w_bd _) fun j => hP _⟩
      · have r := ul_bd P n _ hp
        rw [pk_ul hp hr]
        exact ⟨r.2.2, .inl (by show i + 1 ≤ _ + _; omega), by show _ + 1 + 4 * _ ≤ 6 + 5 * (_ + _); omega, by show 6 ≤ _ + 1 + 4 * _; omega, apB_u8 (apB_u8 e fun _ => u8w_bd _) fun j => hP _⟩
    · have := pk_e (P := P) (n := n) (w := w) (h := h) (i := i) (by omega) 1
      rw [this]
      exact ⟨a, .inr (by omega), c, d, e⟩
/-- A picture that is packed. -/
def pkD (P : Nat → Int) (w h : Int) : PkS := pk P (w * h).toNat w h (w * h).toNat
@[irreducible] def pkN (P : Nat → Int) (w h : Int) : Nat := (pkD P w h).N + 2
@[irreducible] def pkB (P : Nat → Int) (w h : Int) : Nat → Int := apB (pkD P w h).N (pkD P w h).B (ckF (pkD P w h).B (pkD P w h).N)
theorem pk_end {P : Nat → Int} {w h : Int} {i : Nat} (hi : i ≤ (w * h).toNat) (hp : (w * h).toNat ≤ (pk P (w * h).toNat w h i).p) : pk P (w * h).toNat w h i = pkD P w h := by
  have := pk_e hp ((w * h).toNat - i)
  rw [show i + ((w * h).toNat - i) = (w * h).toNat by omega] at this
  exact this.symm
end Go.Proofs.YtjnpngbgapigeaaDoor
