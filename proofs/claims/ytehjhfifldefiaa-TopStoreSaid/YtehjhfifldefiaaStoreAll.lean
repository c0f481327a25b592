/- Stores of films: what is found on a disk, in plain words. -/
import Derived.Test.YtehjhfifldefiaaStoreD
namespace Go.Proofs.Ytehjhfifldefiaa
open Go.RowKit Ev
set_option linter.unusedVariables false
set_option linter.unusedSimpArgs false

theorem load_as {w h : Int} {n : Nat} {L : Nat → Int} {m : Nat} {S B : Nat → Int} (h0 : filmE w h n L m S = 0) (e : ∀ j, j < 10 + 6 * n + 3 * m → B j = saveC w h n L m S j) :
    loadE (10 + 6 * n + 3 * m) B = 0 ∧ B 4 = w ∧ B 5 = h ∧ (3 * (w * h)).toNat = n ∧ (w * h).toNat = m ∧ (∀ i, i < n → L i = lightB B i) ∧ ∀ i, i < m → S i = shotB B m i := by
  obtain ⟨hs, h1, h2, h3, h4⟩ := filmE_ok h0
  obtain ⟨w4, w5⟩ := save_wh (n := n) (L := L) (m := m) (S := S) hs
  have hy := hs.wh
  have e1 : (3 * (w * h)).toNat = n := by omega
  have e2 : (w * h).toNat = m := by omega
  have w4 : B 4 = w := by rw [e 4 (by omega), w4]
  have w5 : B 5 = h := by rw [e 5 (by omega), w5]
  have l1 : ∀ i, i < n → lightB B i = L i := fun i hi => by
    rw [← save_light (w := w) (h := h) (n := n) (m := m) (S := S) hi (filmE_inL h0 hi)]
    unfold lightB
    exact getV_ext fun j hj => e _ (by omega)
  have s1 : ∀ i, i < m → shotB B m i = S i := fun i hi => by
    rw [← save_shot (w := w) (h := h) (n := n) (L := L) (m := m) hi (by omega) (filmE_inS h0 hi)]
    unfold shotB
    exact getV_ext fun j hj => e _ (by omega)
  have hd : headB B := by
    obtain ⟨a, b, c, d⟩ := save_head w h n L m S
    exact ⟨by rw [e 0 (by omega), a], by rw [e 1 (by omega), b], by rw [e 2 (by omega), c], by rw [e 3 (by omega), d]⟩
  have hsum : getV (shB B (10 + 6 * n + 3 * m - 4)) 4 = IntKind.i64.wrap (sumV B (10 + 6 * n + 3 * m - 4)) := by
    rw [sumV_ext (A := B) (B := saveC w h n L m S) fun j hj => e j (by omega), ← save_sum]
    exact getV_ext fun j hj => e _ (by omega)
  refine ⟨?_, w4, w5, e1, e2, fun i hi => (l1 i hi).symm, fun i hi => (s1 i hi).symm⟩
  rw [loadE_f hd (by rw [w4, w5]; exact hs) (by rw [w4, w5, e2]; omega) hsum, w4, w5, e1, e2]
  exact filmE0 hs ⟨h1, h2⟩ (okIn_ext l1 h3) (okIn_ext s1 h4)
/-- A film. -/
structure FR where
  w : Int
  h : Int
  n : Nat
  L : Nat → Int
  m : Nat
  S : Nat → Int
def FR.M (f : FR) : Nat := 10 + 6 * f.n + 3 * f.m
def FR.C (f : FR) : Nat → Int := saveC f.w f.h f.n f.L f.m f.S
def FR.good (f : FR) : Prop := filmE f.w f.h f.n f.L f.m f.S = 0
/-- A disk: the film that was kept last stands first. -/
def dkN : List FR → Nat
  | [] => 0
  | f :: r => dkN r + 4 + f.M
def dkB : List FR → Nat → Int
  | [] => fun _ => 0
  | f :: r => appB (dkN r) (dkB r) f.M f.C
theorem dk_len : ∀ r : List FR, 4 * r.length ≤ dkN r
  | [] => Nat.le_refl _
  | f :: r => by have := dk_len r; unfold dkN; simp only [List.length_cons]; omega
theorem M_lt {f : FR} (h : f.good) : f.M < 4294967296 := by
  obtain ⟨a, b, c, d⟩ := filmE_len h
  unfold FR.M; omega
/-- Where a film stands on a disk. -/
theorem dk_film {f : FR} {r : List FR} {B : Nat → Int} {n : Nat} (hf : f.good) (hU : U8s B) (hB : ∀ j, j < n → B j = dkB (f :: r) j) :
    (dkN r + 4 ≤ n → wkG B (dkN r) = f.M) ∧ (dkN r + 4 + f.M ≤ n → ∀ j, j < f.M → shB B (dkN r + 4) j = f.C j) := by
  refine ⟨fun hn => ?_, fun hn j hj => ?_⟩
  · unfold wkG
    rw [getV_ext (A := shB B (dkN r)) (B := putV (f.M : Int) 4) fun j hj => ?_, getV_put4 ⟨by omega, by have := M_lt hf; omega⟩]
    · omega
    · show B (dkN r + j) = _
      rw [hB _ (by omega)]
      exact appB_1 j hj rfl
  · show B (dkN r + 4 + j) = _
    rw [hB _ (by omega)]
    exact appB_2 j rfl
theorem dk_stop0 {r : List FR} {B : Nat → Int} : wkOk (dkN r) B (dkN r) = false := wk_no1 (by omega)
theorem dk_stop {f : FR} {r : List FR} {B : Nat → Int} {n : Nat} (hf : f.good) (hU : U8s B) (hB : ∀ j, j < n → B j = dkB (f :: r) j) (hn : n < dkN r + 4 + f.M) : wkOk n B (dkN r) = false := by
  by_cases h : dkN r + 4 ≤ n
  · refine wk_no2 ?_
    rw [(dk_film hf hU hB).1 h]; omega
  · exact wk_no1 h
/-- What a waking tells of the films that are whole. -/
structure Told (f : FR) (s : WF) : Prop where
  w : s.w = f.w
  h : s.h = f.h
  nl : s.nl = f.n
  ns : s.ns = f.m
  L : ∀ i, i < f.n → s.L i = f.L i
  S : ∀ i, i < f.m → s.S i = f.S i
  ok : s.ok = true
theorem dk_reach {B : Nat → Int} {n : Nat} (hU : U8s B) : ∀ r : List FR, (∀ f, f ∈ r → f.good) → (∀ j, j < dkN r → B j = dkB r j) → dkN r ≤ n → (wkN n B r.length).p = dkN r
  | [], _, _, _ => by show (wkN n B 0).p = 0; rw [wkN_0]; rfl
  | f :: r, hg, hB, hn => by
    have hf := hg f (by simp)
    have hle : dkN r + 4 + f.M ≤ n := hn
    have ih := dk_reach (B := B) (n := n) hU r (fun g hx => hg g (by simp [hx])) (fun j hj => by rw [hB j (by show j < dkN r + 4 + f.M; omega)]; exact appB_0 hj) (by omega)
    obtain ⟨d1, d2⟩ := dk_film (n := dkN r + 4 + f.M) hf hU hB
    have d1 := d1 (by omega)
    have d2 := d2 (Nat.le_refl _)
    obtain ⟨a, _⟩ := load_as hf d2
    have hok : wkOk n B (wkN n B r.length).p = true := by
      rw [ih]; exact wk_yes (by omega) (by rw [d1]; omega) (by rw [d1]; exact a)
    show (wkN n B (r.length + 1)).p = _
    rw [wkN_s hok]
    show (wkN n B r.length).p + 4 + wkG B (wkN n B r.length).p = dkN r + 4 + f.M
    rw [ih, d1]
theorem dk_told {B : Nat → Int} {n : Nat} (hU : U8s B) {f : FR} {r : List FR} (hg : ∀ g, g ∈ f :: r → g.good) (hB : ∀ j, j < dkN (f :: r) → B j = dkB (f :: r) j) (hn : dkN (f :: r) ≤ n) : Told f (wkN n B (r.length + 1)) := by
  have hf := hg f (by simp)
  have hle : dkN r + 4 + f.M ≤ n := hn
  have ih := dk_reach (B := B) (n := n) hU r (fun g hx => hg g (by simp [hx])) (fun j hj => by rw [hB j (by show j < dkN r + 4 + f.M; omega)]; exact appB_0 hj) (by omega)
  obtain ⟨d1, d2⟩ := dk_film (n := dkN r + 4 + f.M) hf hU hB
  have d1 := d1 (by omega)
  have d2 := d2 (Nat.le_refl _)
  obtain ⟨a, b4, b5, e1, e2, l, s⟩ := load_as hf d2
  have b4 : B (dkN r + 4 + 4) = f.w := b4
  have b5 : B (dkN r + 4 + 5) = f.h := b5
  have hok : wkOk n B (wkN n B r.length).p = true := by
    rw [ih]; exact wk_yes (by omega) (by rw [d1]; omega) (by rw [d1]; exact a)
  rw [wkN_s hok]
  unfold wkS
  rw [ih, b4, b5, e1, e2]
  exact ⟨rfl, rfl, rfl, rfl, fun i hi => (l i hi).symm, fun i hi => (s i hi).symm, rfl⟩
/-- A waking ends at the last film that is whole. -/
theorem dk_end {B : Nat → Int} {n : Nat} (hU : U8s B) {r : List FR} (hg : ∀ g, g ∈ r → g.good) (hB : ∀ j, j < dkN r → B j = dkB r j) (hn : dkN r ≤ n) (hs : wkOk n B (dkN r) = false) :
    wkN n B n = wkN n B r.length ∧ (wkN n B n).p = dkN r := by
  have e := dk_reach hU r hg hB hn
  have := wkN_end (n := n) (B := B) (k := r.length) (by rw [e]; exact hs) (by have := dk_len r; omega)
  exact ⟨this, by rw [this, e]⟩
theorem Told.same {f : FR} {s : WF} (h : Told f s) : sameFV s.w s.h s.nl s.L s.ns s.S f.w f.h f.n f.L f.m f.S = true := by
  obtain ⟨a, b, c, d, l, s', _⟩ := h
  unfold sameFV
  rw [a, b, c, d, sameI_ext l, sameI_ext s']
  simp
end Go.Proofs.Ytehjhfifldefiaa
/- Stores of films: what the law's walk asks, in plain words. -/
namespace Go.Proofs.Ytehjhfifldefiaa
open Go.RowKit Ev
set_option linter.unusedVariables false
set_option linter.unusedSimpArgs false

theorem v_bd (x : Int) : 1 ≤ IntKind.i64.wrap (1 + pickF x 3) ∧ IntKind.i64.wrap (1 + pickF x 3) ≤ 3 := by
  have := pickF_bd x 3 (by omega)
  rw [wrapI (by omega) (by omega)]; omega
theorem v_side {x y : Int} (hx : 1 ≤ x ∧ x ≤ 3) (hy : 1 ≤ y ∧ y ≤ 3) : Side x y ∧ 1 ≤ x * y ∧ x * y ≤ 9 := by
  refine ⟨⟨hx.1, by omega, hy.1, by omega⟩, ?_⟩
  have a : x = 1 ∨ x = 2 ∨ x = 3 := by omega
  rcases a with rfl | rfl | rfl <;> omega
theorem film_at {w h k : Int} (hs : Side w h) (hk : 0 ≤ k ∧ k ≤ 5) (r : Nat) (F : Nat → Int) : filmE w h (3 * (w * h)).toNat (lightF r F) (w * h).toNat (fun j => if j = 0 then k else shotF r F j) = 0 := by
  have hy := hs.wh
  refine filmE0 hs ⟨by omega, by omega⟩ (okIn_iff.2 fun i _ => by have := lightF_bd r F i; omega) (okIn_iff.2 fun i _ => ?_)
  have := shotF_bd r F i
  split <;> omega
theorem appB_u8 {N M : Nat} {D C : Nat → Int} (hD : U8s D) (hC : U8s C) : U8s (appB N D M C) := fun j => by
  unfold appB
  split
  · exact hD j
  · split
    · unfold putV; exact byteP_bd _ _
    · exact hC _
theorem FR.C_u8 (f : FR) : U8s f.C := saveC_u8 f.w f.h f.n f.L f.m f.S
theorem dkB_u8 : ∀ r : List FR, U8s (dkB r)
  | [] => fun _ => ⟨Int.le_refl _, by show (0 : Int) < 256; decide⟩
  | f :: r => appB_u8 (dkB_u8 r) f.C_u8
/-- Nothing is whole. -/
theorem dk_zero {B : Nat → Int} {n : Nat} {f : FR} (hU : U8s B) (hf : f.good) (hB : ∀ j, j < n → B j = dkB [f] j) (hn : n < 4 + f.M) : wkN n B n = WF.zero := by
  have := (dk_end (B := B) (n := n) (r := []) hU (fun g hg => by cases hg) (fun j hj => absurd hj (Nat.not_lt_zero _)) (Nat.zero_le _) (dk_stop hf hU hB (by show n < 0 + 4 + f.M; omega))).1
  rw [this]; exact wkN_0 n B
/-- The film that was kept last is whole, and nothing follows. -/
theorem dk_last {B : Nat → Int} {n : Nat} {f : FR} {r : List FR} (hU : U8s B) (hg : ∀ g, g ∈ f :: r → g.good) (hB : ∀ j, j < n → B j = dkB (f :: r) j) (hn : n = dkN (f :: r)) : Told f (wkN n B n) ∧ (wkN n B n).p = dkN (f :: r) := by
  subst hn
  obtain ⟨e, p⟩ := dk_end hU hg hB (Nat.le_refl _) dk_stop0
  exact ⟨by rw [e]; exact dk_told hU hg hB (Nat.le_refl _), p⟩
/-- A film is whole, the next is not. -/
theorem dk_mid {B : Nat → Int} {n : Nat} {f g : FR} {r : List FR} (hU : U8s B) (hg : ∀ x, x ∈ g :: f :: r → x.good) (hB : ∀ j, j < n → B j = dkB (g :: f :: r) j) (h1 : dkN (f :: r) ≤ n) (h2 : n < dkN (f :: r) + 4 + g.M) :
    Told f (wkN n B n) ∧ (wkN n B n).p = dkN (f :: r) := by
  have hB' : ∀ j, j < dkN (f :: r) → B j = dkB (f :: r) j := fun j hj => by rw [hB j (by omega)]; exact appB_0 hj
  have hg' : ∀ x, x ∈ f :: r → x.good := fun x hx => hg x (List.mem_cons_of_mem _ hx)
  obtain ⟨e, p⟩ := dk_end hU hg' hB' h1 (dk_stop (hg g (by simp)) hU hB h2)
  exact ⟨by rw [e]; exact dk_told hU hg' hB' h1, p⟩
/-- A film is kept behind what is left of a disk. -/
theorem dk_next {B B2 : Nat → Int} {p n : Nat} {f : FR} {r : List FR} (hg : ∀ x, x ∈ f :: r → x.good) (hU : U8s B) (hB : ∀ j, j < p → B j = dkB r j) (hp : p = dkN r) (h2 : ∀ j, B2 j = appB p B f.M f.C j) (hn : n = p + 4 + f.M) : Told f (wkN n B2 n) := by
  subst hp
  have e : B2 = appB (dkN r) B f.M f.C := funext h2
  subst e
  refine (dk_last (appB_u8 hU f.C_u8) hg (fun j hj => ?_) hn).1
  show _ = appB (dkN r) (dkB r) f.M f.C j
  by_cases h : j < dkN r
  · rw [appB_0 h, appB_0 h, hB j h]
  · by_cases h4 : j < dkN r + 4
    · rw [appB_1 (j - dkN r) (by omega) (by omega), appB_1 (j - dkN r) (by omega) (by omega)]
    · rw [appB_2 (j - (dkN r + 4)) (by omega), appB_2 (j - (dkN r + 4)) (by omega)]
theorem cut_bd {c : Int} {N : Nat} (hN : N ≤ 1000000) : 0 ≤ pickF c (IntKind.i64.wrap ((N : Int) + 1)) ∧ pickF c (IntKind.i64.wrap ((N : Int) + 1)) ≤ N := by
  rw [wrapI (by omega) (by omega)]
  have := pickF_bd c ((N : Int) + 1) (by omega)
  omega
theorem appB_two {p : Nat} {D C : Nat → Int} {j k0 k1 k2 k3 k4 : Nat} : (catI (p + 1 + 1 + 1 + 1) (some k4) (catI (p + 1 + 1 + 1) (some k3) (catI (p + 1 + 1) (some k2) (catI (p + 1) (some k1) (catI p (some k0) D (fun _ => 0)) (fun _ => 0)) (fun _ => 0)) (fun _ => byteP ((10 + 6 * (3 * (2 * 2 : Int)).toNat + 3 * (2 * 2 : Int).toNat : Nat) : Int) 0)) C) j = appB p D (10 + 6 * (3 * (2 * 2 : Int)).toNat + 3 * (2 * 2 : Int).toNat) C j := by
  have e24 : byteP ((10 + 6 * (3 * (2 * 2 : Int)).toNat + 3 * (2 * 2 : Int).toNat : Nat) : Int) 24 = 0 := by unfold byteP; decide
  have e16 : byteP ((10 + 6 * (3 * (2 * 2 : Int)).toNat + 3 * (2 * 2 : Int).toNat : Nat) : Int) 16 = 0 := by unfold byteP; decide
  have e8 : byteP ((10 + 6 * (3 * (2 * 2 : Int)).toNat + 3 * (2 * 2 : Int).toNat : Nat) : Int) 8 = 0 := by unfold byteP; decide
  rw [appB_step (k0 := k0) (k1 := k1) (k2 := k2) (k3 := k3) (k4 := k4), e24, e16, e8]
/-- The film that is kept behind what is left of a disk is found there. -/
theorem fin_told {r : Nat} {F : Nat → Int} {B B2 : Nat → Int} {p n : Nat} {R : List FR} (hg : ∀ x, x ∈ R → x.good) (hU : U8s B) (hB : ∀ j, j < p → B j = dkB R j) (hp : p = dkN R)
    (h2 : ∀ j, B2 j = appB p B (10 + 6 * (3 * (2 * 2 : Int)).toNat + 3 * (2 * 2 : Int).toNat) (saveC 2 2 (3 * (2 * 2 : Int)).toNat (lightF r F) (2 * 2 : Int).toNat (shotF r F)) j)
    (hn : n = p + 1 + 1 + 1 + 1 + (10 + 6 * (3 * (2 * 2 : Int)).toNat + 3 * (2 * 2 : Int).toNat)) : Told ⟨2, 2, (3 * (2 * 2 : Int)).toNat, lightF r F, (2 * 2 : Int).toNat, shotF r F⟩ (wkN n B2 n) :=
  dk_next (f := ⟨2, 2, (3 * (2 * 2 : Int)).toNat, lightF r F, (2 * 2 : Int).toNat, shotF r F⟩) (r := R) (fun x hx => (List.mem_cons.1 hx).elim (fun e => by rw [e]; exact film_of (w := 2) (h := 2) ⟨by omega, by omega, by omega, by omega⟩ r F rfl rfl) (hg x)) hU hB hp h2 hn
theorem fin_true {s : WF} {w h : Int} {n m : Nat} {L S : Nat → Int} (T : Told ⟨w, h, n, L, m, S⟩ s) : true = ((0 : Int) == 0 && s.ok && sameFV s.w s.h s.nl s.L s.ns s.S w h n L m S) := by rw [T.ok, T.same]; rfl
theorem no_same {s : WF} {w h : Int} {n m : Nat} {L S : Nat → Int} (T : Told ⟨w, h, n, L, m, S⟩ s) (e : (!sameFV s.w s.h s.nl s.L s.ns s.S w h n L m S) = true) : False := by rw [T.same] at e; cases e
theorem no_str {p q : Nat} {A B : Nat → Int} (h : p = q) (hAB : A = B) (e : (!((strI p A).toList == (strI q B).toList)) = true) : False := by
  subst h; subst hAB; simp at e
end Go.Proofs.Ytehjhfifldefiaa
/- Stores of films: any count of films, in plain words. -/
namespace Go.Proofs.Ytehjhfifldefiaa
open Go.RowKit Ev
set_option linter.unusedVariables false
set_option linter.unusedSimpArgs false

/-- A side of a film of the law. -/
@[irreducible] def vS (r : Nat) (F : Nat → Int) (k : Nat) : Int := IntKind.i64.wrap (1 + pickF (rawF r F k) 3)
theorem vS_bd (r : Nat) (F : Nat → Int) (k : Nat) : 1 ≤ vS r F k ∧ vS r F k ≤ 3 := by unfold vS; exact v_bd _
/-- The films that are kept, one after another. -/
def fR (r : Nat) (F : Nat → Int) (k : Nat) : FR := ⟨vS r F k, vS r F (k + 1), (3 * (vS r F k * vS r F (k + 1))).toNat, lightF r F, (vS r F k * vS r F (k + 1)).toNat, fun j => if j = 0 then (k : Int) else shotF r F j⟩
def fl (r : Nat) (F : Nat → Int) : Nat → List FR
  | 0 => []
  | k + 1 => fR r F k :: fl r F k
theorem side_k (r : Nat) (F : Nat → Int) (k : Nat) : Side (vS r F k) (vS r F (k + 1)) ∧ 1 ≤ vS r F k * vS r F (k + 1) ∧ vS r F k * vS r F (k + 1) ≤ 9 := v_side (vS_bd r F k) (vS_bd r F (k + 1))
theorem fR_good (r : Nat) (F : Nat → Int) {k : Nat} (h : k ≤ 5) : (fR r F k).good := film_at (side_k r F k).1 (by omega) r F
theorem fl_good (r : Nat) (F : Nat → Int) : ∀ {K : Nat}, K ≤ 6 → ∀ x, x ∈ fl r F K → x.good
  | 0, _, x, hx => by cases hx
  | K + 1, h, x, hx => (List.mem_cons.1 hx).elim (fun e => by rw [e]; exact fR_good r F (by omega)) (fl_good r F (K := K) (by omega) x)
/-- How long the disk is, and its bytes. -/
@[irreducible] def dN (r : Nat) (F : Nat → Int) (K : Nat) : Nat := dkN (fl r F K)
@[irreducible] def dB (r : Nat) (F : Nat → Int) (K : Nat) : Nat → Int := dkB (fl r F K)
theorem dN_0 (r : Nat) (F : Nat → Int) : dN r F 0 = 0 := by unfold dN; rfl
theorem dN_s (r : Nat) (F : Nat → Int) (K : Nat) : dN r F (K + 1) = dN r F K + 4 + (10 + 6 * (3 * (vS r F K * vS r F (K + 1))).toNat + 3 * (vS r F K * vS r F (K + 1)).toNat) := by unfold dN; rfl
theorem dB_s (r : Nat) (F : Nat → Int) (K : Nat) : dB r F (K + 1) = appB (dN r F K) (dB r F K) (10 + 6 * (3 * (vS r F K * vS r F (K + 1))).toNat + 3 * (vS r F K * vS r F (K + 1)).toNat) (saveC (vS r F K) (vS r F (K + 1)) (3 * (vS r F K * vS r F (K + 1))).toNat (lightF r F) (vS r F K * vS r F (K + 1)).toNat (fun j => if j = 0 then (K : Int) else shotF r F j)) := by unfold dN dB; rfl
theorem dB_u8 (r : Nat) (F : Nat → Int) (K : Nat) : U8s (dB r F K) := by unfold dB; exact dkB_u8 _
theorem dN_step (r : Nat) (F : Nat → Int) (K : Nat) : dN r F K + 4 ≤ dN r F (K + 1) ∧ dN r F (K + 1) ≤ dN r F K + 203 := by
  have := side_k r F K
  rw [dN_s]; omega
theorem dN_bd (r : Nat) (F : Nat → Int) : ∀ K, dN r F K ≤ 203 * K
  | 0 => by rw [dN_0]; omega
  | K + 1 => by have := dN_bd r F K; have := dN_step r F K; omega
theorem dN_mono (r : Nat) (F : Nat → Int) {w : Nat} : ∀ {K : Nat}, w ≤ K → dN r F w ≤ dN r F K
  | 0, h => by obtain rfl : w = 0 := by omega
               exact Nat.le_refl _
  | K + 1, h => by
    rcases Nat.lt_or_eq_of_le h with g | g
    · have := dN_mono r F (w := w) (K := K) (by omega); have := dN_step r F K; omega
    · rw [g]; exact Nat.le_refl _
theorem dB_sub (r : Nat) (F : Nat → Int) {w : Nat} : ∀ {K : Nat}, w ≤ K → ∀ j, j < dN r F w → dB r F K j = dB r F w j
  | 0, h, j, hj => by obtain rfl : w = 0 := by omega
                      rfl
  | K + 1, h, j, hj => by
    rcases Nat.lt_or_eq_of_le h with g | g
    · have := dN_mono r F (w := w) (K := K) (by omega)
      rw [dB_s, appB_0 (show j < dN r F K by omega)]
      exact dB_sub r F (K := K) (by omega) j hj
    · rw [g]
/-- What a waking finds on the disk that was cut off. -/
theorem wk_any {r : Nat} {F : Nat → Int} {K w Q : Nat} (hK : K ≤ 4) (hw : w ≤ K) (h1 : dN r F w ≤ Q) (h2 : Q ≤ dN r F K) (h3 : w < K → Q < dN r F (w + 1)) :
    (wkN Q (dB r F K) Q).p = dN r F w ∧ (wkN Q (dB r F K) Q).ok = decide (0 < w) ∧ (0 < w → Told (fR r F (w - 1)) (wkN Q (dB r F K) Q)) := by
  have hU := dB_u8 r F K
  match w, hw, h1, h3 with
  | 0, _, _, h3 =>
    have z : wkN Q (dB r F K) Q = WF.zero := by
      by_cases e : K = 0
      · subst e
        rw [dN_0] at h2
        obtain rfl : Q = 0 := by omega
        exact wkN_0 _ _
      · have h3 : Q < dN r F 1 := h3 (by omega)
        have s : dN r F 1 = _ := dN_s r F 0
        rw [dN_0] at s
        refine dk_zero (f := fR r F 0) hU (fR_good r F (by omega)) (fun j hj => ?_) (by show Q < 4 + (10 + 6 * (3 * (vS r F 0 * vS r F (0 + 1))).toNat + 3 * (vS r F 0 * vS r F (0 + 1)).toNat); omega)
        rw [dB_sub r F (w := 1) (K := K) (by omega) j (by omega)]
        unfold dB; rfl
    rw [z, dN_0]
    exact ⟨rfl, rfl, fun h => absurd h (by omega)⟩
  | u + 1, hw, h1, h3 =>
    have eN : dkN (fR r F u :: fl r F u) = dN r F (u + 1) := by unfold dN; rfl
    have hg : ∀ x, x ∈ fR r F u :: fl r F u → x.good := fl_good r F (K := u + 1) (by omega)
    have key : Told (fR r F u) (wkN Q (dB r F K) Q) ∧ (wkN Q (dB r F K) Q).p = dkN (fR r F u :: fl r F u) := by
      by_cases e : u + 1 = K
      · subst e
        refine dk_last hU hg (fun j _ => ?_) (by omega)
        unfold dB; rfl
      · have h3 : Q < dN r F (u + 2) := h3 (by omega)
        have s : dN r F (u + 2) = _ := dN_s r F (u + 1)
        refine dk_mid (g := fR r F (u + 1)) hU (fl_good r F (K := u + 2) (by omega)) (fun j hj => ?_) (by omega) (by rw [eN]; show Q < dN r F (u + 1) + 4 + (10 + 6 * (3 * (vS r F (u + 1) * vS r F (u + 1 + 1))).toNat + 3 * (vS r F (u + 1) * vS r F (u + 1 + 1)).toNat); omega)
        rw [dB_sub r F (w := u + 2) (K := K) (by omega) j (by omega)]
        unfold dB; rfl
    refine ⟨by rw [key.2, eN], ?_, fun _ => key.1⟩
    rw [key.1.ok, decide_eq_true (show 0 < u + 1 by omega)]
/-- The films, as rows of cells. -/
@[irreducible] def flC (r : Nat) (F : Nat → Int) (j : Nat) : AV := [AV.int .i64 (fR r F (j / 4)).w, .int .i64 (fR r F (j / 4)).h, ints .i64 (fR r F (j / 4)).n (fR r F (j / 4)).L, ints .i64 (fR r F (j / 4)).m (fR r F (j / 4)).S].getD (j % 4) .any
theorem flC_at (r : Nat) (F : Nat → Int) (k c : Nat) (h : c < 4) : flC r F (k * 4 + c) = [AV.int .i64 (fR r F k).w, .int .i64 (fR r F k).h, ints .i64 (fR r F k).n (fR r F k).L, ints .i64 (fR r F k).m (fR r F k).S].getD c .any := by
  unfold flC; rw [show (k * 4 + c) / 4 = k by omega, show (k * 4 + c) % 4 = c by omega]
theorem flC_step {r : Nat} {F : Nat → Int} {k j : Nat} (h : j < (k + 1) * 4) : flC r F j = catA (k * 4) (flC r F) (fun j => [AV.int .i64 (fR r F k).w, .int .i64 (fR r F k).h, ints .i64 (fR r F k).n (fR r F k).L, ints .i64 (fR r F k).m (fR r F k).S].getD j .any) j := by
  unfold catA
  split
  · rfl
  · obtain ⟨c, rfl⟩ : ∃ c, j = k * 4 + c := ⟨j - k * 4, by omega⟩
    rw [flC_at r F k c (by omega), Nat.add_sub_cancel_left]
end Go.Proofs.Ytehjhfifldefiaa
/- Stores of films: the law's walk, for any count of films. -/
namespace Go.Proofs.Ytehjhfifldefiaa
open Go.RowKit Ev
set_option linter.unusedVariables false
set_option linter.unusedSimpArgs false
set_option maxRecDepth 20000
set_option maxHeartbeats 40000000

structure SKI (n : Nat) where
  k : Nat
  hk : k ≤ n
structure WKI (k : Nat) (D : Nat → Nat) (q : Int) where
  w : Nat
  h : w ≤ k
  c : (D w : Int) ≤ q
theorem view_film {nm : Bool} {r : Nat} {F : Nat → Int} {e : Int} {K : AV → Prop} (h : nameE nm (.agg [.int .i64 (fR r F e.toNat).w, .int .i64 (fR r F e.toNat).h, ints .i64 (fR r F e.toNat).n (fR r F e.toNat).L, ints .i64 (fR r F e.toNat).m (fR r F e.toNat).S]) K) :
    nameE nm (.agg (List.map (fun j => flC r F (0 + mulN e.toNat 4 + j)) (List.range (Tab.cx.ti 25).size))) K := by
  have e1 : (Tab.cx.ti 25).size = 4 := rfl
  have e2 : AV.agg (List.map (fun j => flC r F (0 + mulN e.toNat 4 + j)) (List.range (Tab.cx.ti 25).size)) = .agg [.int .i64 (fR r F e.toNat).w, .int .i64 (fR r F e.toNat).h, ints .i64 (fR r F e.toNat).n (fR r F e.toNat).L, ints .i64 (fR r F e.toNat).m (fR r F e.toNat).S] := by
    rw [e1, mulN_eq, Nat.zero_add]
    show AV.agg [flC r F (e.toNat * 4 + 0), flC r F (e.toNat * 4 + 1), flC r F (e.toNat * 4 + 2), flC r F (e.toNat * 4 + 3)] = _
    rw [flC_at r F _ 0 (by decide), flC_at r F _ 1 (by decide), flC_at r F _ 2 (by decide), flC_at r F _ 3 (by decide)]
    rfl
  rw [e2]; exact h
theorem sz_step {r : Nat} {F : Nat → Int} {k j n : Nat} (hn : n = dN r F (k + 1)) (h : j < k + 1) : ((dN r F (j + 1) : Nat) : Int) = catI k (some 2) (fun i => ((dN r F (i + 1) : Nat) : Int)) (fun _ => (n : Int)) j := by
  rw [catI_some]
  split
  · rfl
  · rw [hn, show j = k by omega]
theorem no_ok {s : WF} {w : Nat} (ok : s.ok = decide (0 < w)) (e : (!(s.ok == decide ((w : Int) > 0))) = true) : False := by
  rw [ok, show decide ((w : Int) > 0) = decide (0 < w) from decide_eq_decide.2 (by omega)] at e
  simp at e
theorem no_sameF {s : WF} {f : FR} (T : Told f s) (e : (!sameFV s.w s.h s.nl s.L s.ns s.S f.w f.h f.n f.L f.m f.S) = true) : False := by rw [T.same] at e; cases e
theorem fin_any {r : Nat} {F : Nat → Int} {k w p n : Nat} {B2 : Nat → Int} (hw : w ≤ k) (hk : k ≤ 4) (hp : p = dN r F w)
    (h2 : ∀ j, B2 j = appB p (dB r F k) (10 + 6 * (3 * (2 * 2 : Int)).toNat + 3 * (2 * 2 : Int).toNat) (saveC 2 2 (3 * (2 * 2 : Int)).toNat (lightF r F) (2 * 2 : Int).toNat (shotF r F)) j)
    (hn : n = p + 1 + 1 + 1 + 1 + (10 + 6 * (3 * (2 * 2 : Int)).toNat + 3 * (2 * 2 : Int).toNat)) : Told ⟨2, 2, (3 * (2 * 2 : Int)).toNat, lightF r F, (2 * 2 : Int).toNat, shotF r F⟩ (wkN n B2 n) :=
  fin_told (R := fl r F w) (fl_good r F (by omega)) (dB_u8 r F k) (fun j hj => by rw [dB_sub r F hw j (by omega)]; unfold dB; rfl) (by rw [hp]; unfold dN; rfl) h2 hn
theorem dN_pos (r : Nat) (F : Nat → Int) {k : Nat} (h : 1 ≤ k) : 4 ≤ dN r F k := by
  have h1 := dN_mono r F h
  have h2 := dN_step r F 0
  have h3 : dN r F (0 + 1) = dN r F 1 := rfl
  omega
theorem gb_is (x : Bool) : gb x true = x := rfl
theorem vS_f (r : Nat) (F : Nat → Int) (k : Nat) : IntKind.i64.wrap (1 + pickF (rawF r F (k : Int)) 3) = vS r F k := by unfold vS; rfl
theorem wrap_s {k : Nat} (h : k ≤ 100) : IntKind.i64.wrap ((k : Int) + 1) = ((k + 1 : Nat) : Int) := by rw [wrapI (by omega) (by omega)]; omega
theorem wrap_p {w : Nat} (h : w ≤ 100) : (IntKind.i64.wrap ((w : Int) - 1)).toNat = w - 1 := by rw [wrapI (by omega) (by omega)]; omega
theorem topStore_f : FnOk Try.prog 6 Try.f6 := ⟨Try.func6, by kernel_rfl⟩
theorem topStore_a (r : Nat) (F : Nat → Int) (a c : Int) (hpre : (∀ j, In64 (F j)) ∧ In64 a ∧ In64 c ∧ 1 ≤ pickF a 4) : ACalls Try.prog 6 [ints .i64 r F, .int .i64 a, .int .i64 c] (.bool true) := by
  refine acalls_of (inl := hasI (P := Try.prog) [⟨17, Try.f17, Try.func17, by kernel_rfl⟩, ⟨18, Try.f18, Try.func18, by kernel_rfl⟩, ⟨27, Try.f27, Try.func27, by kernel_rfl⟩] [filmN_m, saveN_m, wakeM_m]) (base [pick_k, raw_k, tsameFilm_k] [⟨17, Try.f17, Try.func17, by kernel_rfl⟩, ⟨18, Try.f18, Try.func18, by kernel_rfl⟩, ⟨27, Try.f27, Try.func27, by kernel_rfl⟩] [filmN_m, saveN_m, wakeM_m, bytesN_m]) 4 topStore_f (And.intro (by kernel_rfl) ?_)
  obtain ⟨hF, ha, hc, hm⟩ := hpre
  have hK := pickF_bd a 4 (by omega)
  have qb : ∀ k, k ≤ (pickF a 4).toNat → 0 ≤ pickF c (IntKind.i64.wrap (((0 + dN r F k : Nat) : Int) + 1)) ∧ pickF c (IntKind.i64.wrap (((0 + dN r F k : Nat) : Int) + 1)) ≤ dN r F k := fun k hk => by rw [Nat.zero_add]; exact cut_bd (by have := dN_bd r F k; omega)
  repeat' (first | refine And.intro ?_ ?_ | (with_reducible exact ff_elim) | (with_reducible exact tf_elim) | (intro h; exact absurd h (by (show ¬ (false = true)); decide)) | (intro h; exact absurd h (by decide)) | refine num_lit 0 (by decide) ?_ | refine num_lit 1 (by decide) ?_ | refine num_lit 2 (by decide) ?_ | refine num_lit 3 (by decide) ?_ | refine num_lit 4 (by decide) ?_ | refine num_lit 5 (by decide) ?_ | refine num_lit 6 (by decide) ?_ | refine num_lit 7 (by decide) ?_ | refine num_lit 8 (by decide) ?_ | (intro h; exact absurd h (by decide)) | refine num_elim ?_ | intro _ | (with_reducible rfl) | ((with_reducible refine lk_t ?_); exact rfl) | ((with_reducible refine pf_t ?_); exact rfl) | refine tell ?_ | exact True.intro | (refine IsT.of ?_; kernel_rfl))
  all_goals (try (refine loop_keep [0, 1, 2, 7] [0] ?_; refine LoopI.mk (SKI (pickF a 4).toNat) (fun j => [(8, .os 2 1 0 j.k), (9, .os 3 4 0 j.k), (10, .int .i64 j.k)]) (fun j => [(4, .row [.os 1 1 0 (dN r F j.k)]), (1, .nums .u8 (dN r F j.k) (dB r F j.k)), (2, .nums .i64 j.k (fun i => (dN r F (i + 1) : Int))), (3, .arr (j.k * 4) (flC r F))]) (fun j => (pickF a 4).toNat - j.k) (⟨0, Nat.zero_le _⟩) (wk_mk [some 4, none, none, none, some 0] ?_) (fun ⟨k, hk⟩ => ?_)))
  repeat' (first | refine And.intro ?_ ?_ | (with_reducible exact ff_elim) | (with_reducible exact tf_elim) | refine' stp_mk [some 4, some _, some _, some _, some 0] ((⟨k + 1, ?_⟩ : SKI (pickF a 4).toNat)) ?_ ?_ | refine unr_in 6 ?_ | refine num_lit 0 (by decide) ?_ | refine num_lit 1 (by decide) ?_ | refine num_lit 2 (by decide) ?_ | refine num_lit 3 (by decide) ?_ | refine num_lit 4 (by decide) ?_ | refine num_lit 5 (by decide) ?_ | refine num_lit 6 (by decide) ?_ | refine num_lit 7 (by decide) ?_ | refine num_lit 8 (by decide) ?_ | (intro h; exact absurd h (by decide)) | refine num_elim ?_ | intro _ | (with_reducible rfl) | ((with_reducible refine lk_t ?_); exact rfl) | ((with_reducible refine pf_t ?_); exact rfl) | refine tell ?_ | exact True.intro | (refine IsT.of ?_; kernel_rfl))
  all_goals (try (refine loop_keep [0, 2, 8, 9, 13] [2, 3, 0] ?_; refine LoopI.mk (WKI k (dN r F) (pickF c (IntKind.i64.wrap (((0 + dN r F k : Nat) : Int) + 1)))) (fun j => [(14, .int .i64 j.w)]) (fun j => [(18, .nums .u8 (dN r F k) (dB r F k))]) (fun j => k - j.w) (⟨0, Nat.zero_le _, by rw [dN_0]; exact (qb k hk).1⟩) (wk_mk [some 18, some 2, some 3, some 0] ?_) (fun ⟨w, hw, hq⟩ => ?_)))
  repeat' (first | refine And.intro ?_ ?_ | (with_reducible exact ff_elim) | (with_reducible exact tf_elim) | refine stp_mk [some 18, some 2, some 3, some 0] ((⟨w + 1, ?_, ?_⟩ : WKI k (dN r F) (pickF c (IntKind.i64.wrap (((0 + dN r F k : Nat) : Int) + 1))))) ?_ ?_ | refine view_film ?_ | refine unr_in 6 ?_ | refine num_lit 0 (by decide) ?_ | refine num_lit 1 (by decide) ?_ | refine num_lit 2 (by decide) ?_ | refine num_lit 3 (by decide) ?_ | refine num_lit 4 (by decide) ?_ | refine num_lit 5 (by decide) ?_ | refine num_lit 6 (by decide) ?_ | refine num_lit 7 (by decide) ?_ | refine num_lit 8 (by decide) ?_ | (intro h; exact absurd h (by decide)) | refine num_elim ?_ | intro _ | (with_reducible rfl) | ((with_reducible refine lk_t ?_); exact rfl) | ((with_reducible refine pf_t ?_); exact rfl) | refine tell ?_ | exact True.intro | (refine IsT.of ?_; kernel_rfl))
  all_goals (try exact (0 : Nat))
  all_goals (try with_reducible refine Tell.mk ?_)
  all_goals (try dsimp only at *)
  all_goals first | with_reducible rfl | with_reducible exact isI_mk | with_reducible assumption | with_reducible exact hF _ | (with_reducible refine gb_t ?_; with_reducible assumption) | ((with_reducible refine okF_t ?_); kernel_rfl) | ((with_reducible refine ks_t ?_); rfl) | ((show (_ : Int) ≤ _); decide) | ((show (_ : Nat) ≤ _); decide) | ((show (_ : Int) < _); decide) | skip
  all_goals (try have hk3 : k ≤ 3 := (by omega))
  all_goals (try simp only [decide_eq_true_eq, decide_eq_false_iff_not] at *)
  all_goals (try simp only [intF_mk, avInt_int, byteP_eq] at *)
  all_goals (try simp only [sh3, sh2, sh1, sh0] at *)
  all_goals (try simp only [appB_fun, catI_0] at *)
  all_goals (try simp only [lenN_none, offA_none, mulN1, Nat.zero_add, Nat.mul_one, show Int.toNat 0 = 0 from rfl, List.length_nil, show ∀ (n : Nat) (P Q : Nat → Int), catI n none P Q = Q from fun _ _ _ => rfl, Bool.true_and, Bool.false_and, Bool.false_or, vS_f] at *)
  all_goals (try simp only [wrap_s (show k ≤ 100 by omega), vS_f] at *)
  all_goals (try simp only [gb_is, Bool.and_eq_true, Bool.and_eq_false_iff, decide_eq_true_eq, decide_eq_false_iff_not, Int.toNat_natCast, show (Tab.cx.ti 25).size = 4 from rfl, show (Tab.cx.ti 25).bytes = 64 from rfl, show (Tab.cx.ti 5).bytes = 1 from rfl, show (Tab.cx.ti 3).bytes = 8 from rfl] at *)
  all_goals (try have dk := dN_bd r F k)
  all_goals (try have sk := side_k r F k)
  all_goals (try have v1 := vS_bd r F k)
  all_goals (try have v2 := vS_bd r F (k + 1))
  all_goals (try (have hq' := hq; rw [Nat.zero_add] at hq'))
  all_goals (try have q0 := qb k hk)
  all_goals (try generalize pickF c (IntKind.i64.wrap ((dN r F k : Int) + 1)) = Q at *)
  all_goals first | with_reducible exact hF _ | exact rawF_in hF | with_reducible assumption | with_reducible exact Nat.le_refl _ | (with_reducible refine gb_t ?_; rfl) | omega | rfl | exact dN_0 r F | exact fR_good r F (by omega) | (show 0 < _; omega) | (show (0 : Int) ≤ _; omega) | (rw [dN_s]; first | done | omega) | (rw [dB_s]; done) | exact sz_step (by rw [dN_s]) (by assumption) | exact Nat.le_refl 4 | (have := dN_pos r F (show 1 ≤ k by omega); show 0 < _; omega) | (rw [wrap_p (by omega), mulN_eq]; omega) | exact flC_step (by assumption) | (rw [wrapI (by omega) (by omega)]; omega) | exact (dB_u8 r F k _).1 | exact (dB_u8 r F k _).2 | skip
  all_goals (have ws : w < k → Q.toNat < dN r F (w + 1) := (fun h => by omega); obtain ⟨sp, sok, sT⟩ := wk_any (r := r) (F := F) (K := k) (w := w) (Q := Q.toNat) (by omega) hw (by omega) (by omega) ws; generalize wkN Q.toNat (dB r F k) Q.toNat = s at *; have dw := dN_mono r F hw)
  all_goals (try simp only [wrap_p (show w ≤ 100 by omega)] at *)
  all_goals first
    | omega | exact Nat.le_refl 1 | (show _ * 1 ≤ 140737488355328; omega) | (show 0 < _; omega)
    | exact film_of ⟨by omega, by omega, by omega, by omega⟩ r F rfl rfl
    | (exact (no_ok sok (by assumption)).elim)
    | (exact (no_sameF (sT (by omega)) (by assumption)).elim)
    | (exfalso; refine no_str ?_ rfl (by assumption); first | omega | (rw [sp, show w - 1 + 1 = w by omega]; done))
    | (exfalso; refine no_str ?_ rfl (by assumption); obtain rfl : w = 0 := (by omega); rw [sp, dN_0]; done)
    | (rw [appB_two]; exact (appB_u8 (dB_u8 r F k) (saveC_u8 _ _ _ _ _ _) _).1) | (rw [appB_two]; exact (appB_u8 (dB_u8 r F k) (saveC_u8 _ _ _ _ _ _) _).2)
    | (rw [show w - 1 + 1 = w by omega]; first | exact dw | omega)
    | exact fin_true (fin_any hw (by omega) sp (fun j => appB_two) rfl)
    | trace_state
end Go.Proofs.Ytehjhfifldefiaa
/- Stores of films: waking of an empty disk. -/
namespace Go.Proofs.Ytehjhfifldefiaa
open Go.RowKit Ev
set_option linter.unusedVariables false
set_option linter.unusedSimpArgs false
set_option maxRecDepth 20000
set_option maxHeartbeats 4000000

theorem wakeZ_f : FnOk Try.prog 19 Try.f19 := ⟨Try.func19, by kernel_rfl⟩
theorem wakeZ_a (g : Nat → AV) : MCalls Try.prog 19 ([.sl 0 1 g]) [] (.tup [.own 0 0, .agg [.int .i64 0, .int .i64 0, .nils, .nils], .bool false]) [.row [.os 1 1 0 0], .nums .u8 0 (fun _ => 0)] := by
  refine mcallsF_of (inl := hasI (P := Try.prog) [] []) (base [] [] []) 0 wakeZ_f (And.intro (by kernel_rfl) ?_)
  repeat' (first | refine And.intro ?_ ?_ | (with_reducible exact ff_elim) | (with_reducible exact tf_elim) | refine' rho_mk [_, _] ?_ | (intro h; exact absurd h (by decide)) | refine Or.inl ⟨2, ?_⟩ | refine num_lit 0 (by decide) ?_ | refine num_lit 1 (by decide) ?_ | refine num_lit 2 (by decide) ?_ | refine num_lit 3 (by decide) ?_ | refine num_lit 4 (by decide) ?_ | refine num_lit 5 (by decide) ?_ | refine num_lit 6 (by decide) ?_ | refine num_lit 7 (by decide) ?_ | refine num_lit 8 (by decide) ?_ | (intro h; exact absurd h (by decide)) | refine num_elim ?_ | intro _ | (with_reducible rfl) | ((with_reducible refine lk_t ?_); exact rfl) | ((with_reducible refine pf_t ?_); exact rfl) | refine tell ?_ | exact True.intro | (refine IsT.of ?_; kernel_rfl))
  all_goals (try exact (0 : Nat))
  all_goals (try refine Tell.mk ?_)
  all_goals (try simp only [lenN_none, Nat.zero_add, show Int.toNat 0 = 0 from rfl, show ((0 : Nat) : Int) = 0 from rfl] at *)
  all_goals first | rfl | omega | exact Nat.le_refl _ | exact Int.le_refl _ | (exfalso; exact absurd ‹_ < 0› (Nat.not_lt_zero _)) | (show 0 * 1 ≤ _; omega) | trace_state
/-- Waking of a disk that may be empty. -/
def wakeB_m : MCon Try.prog := ⟨19, fun args own => match args with
    | [.os k 1 0 n] => (match own k with
      | .nums .u8 N B => (match N with
        | 0 => .ok [] [.sl 0 1 fun _ => .any] [] (some (n = 0)) (.tup [.own 0 0, .agg [.int .i64 0, .int .i64 0, .nils, .nils], .bool false]) [.row [.os 1 1 0 n], .nums .u8 n (fun _ => 0)]
        | _ + 1 => .ok [k] [.os 0 1 0 n] (wakeM_rows n N B) (some (wakeM_p n N B)) (wakeM_r n N B) (wakeM_rows2 n N B))
      | _ => .no)
    | _ => .no, by
  intro args own ks cargs rows p r rows2 h hp
  split at h
  · split at h
    · split at h
      · cases h
        have hp : _ = 0 := hp
        subst hp
        exact wakeZ_a _
      · cases h; have hq := hp; exact wakeM_a _ _ _ hq
    · cases h
  · cases h⟩
end Go.Proofs.Ytehjhfifldefiaa
/- Stores of films: the law's walk for no film. -/
namespace Go.Proofs.Ytehjhfifldefiaa
open Go.RowKit Ev
set_option linter.unusedVariables false
set_option linter.unusedSimpArgs false
set_option maxRecDepth 20000
set_option maxHeartbeats 8000000

theorem topStoreN_f : FnOk Try.prog 6 Try.f6 := ⟨Try.func6, by kernel_rfl⟩
theorem topStoreN_a (r : Nat) (F : Nat → Int) (a c : Int) (hpre : (∀ j, In64 (F j)) ∧ In64 a ∧ In64 c ∧ pickF a 4 = 0) : ACalls Try.prog 6 [ints .i64 r F, .int .i64 a, .int .i64 c] (.bool true) := by
  refine acalls_of (inl := hasI (P := Try.prog) [⟨17, Try.f17, Try.func17, by kernel_rfl⟩, ⟨18, Try.f18, Try.func18, by kernel_rfl⟩, ⟨27, Try.f27, Try.func27, by kernel_rfl⟩] [filmN_m, saveN_m, wakeB_m]) (base [pick_k, raw_k, tsameFilm_k] [⟨17, Try.f17, Try.func17, by kernel_rfl⟩, ⟨18, Try.f18, Try.func18, by kernel_rfl⟩, ⟨27, Try.f27, Try.func27, by kernel_rfl⟩] [filmN_m, saveN_m, wakeB_m, bytesN_m]) 4 topStoreN_f (And.intro (by kernel_rfl) ?_)
  obtain ⟨hF, ha, hc, hm⟩ := hpre
  repeat' (first | refine And.intro ?_ ?_ | (with_reducible exact ff_elim) | (with_reducible exact tf_elim) | (intro h; exact absurd h (by (show ¬ (false = true)); decide)) | (intro h; exact absurd h (by decide)) | (intro h; exact absurd h (by rw [hm]; decide)) | refine num_lit 0 (by decide) ?_ | refine num_lit 1 (by decide) ?_ | refine num_lit 2 (by decide) ?_ | refine num_lit 3 (by decide) ?_ | refine num_lit 4 (by decide) ?_ | refine num_lit 5 (by decide) ?_ | refine num_lit 6 (by decide) ?_ | refine num_lit 7 (by decide) ?_ | refine num_lit 8 (by decide) ?_ | (intro h; exact absurd h (by decide)) | refine num_elim ?_ | intro _ | (with_reducible rfl) | ((with_reducible refine lk_t ?_); exact rfl) | ((with_reducible refine pf_t ?_); exact rfl) | refine tell ?_ | exact True.intro | (refine IsT.of ?_; kernel_rfl))
  all_goals (try (refine loop_keep [0, 1, 2, 7] [4, 0] ?_; refine LoopI.mk (Unit) (fun _ => [(8, .os 2 1 0 0), (9, .os 3 4 0 0), (10, .int .i64 0)]) (fun _ => [(2, .nums .i64 0 (fun _ => 0)), (3, .arr 0 (fun _ => .any))]) (fun _ => 0) (()) (wk_mk [none, none, some 4, some 0] ?_) (fun _ => ?_)))
  repeat' (first | refine And.intro ?_ ?_ | (with_reducible exact ff_elim) | (with_reducible exact tf_elim) | refine stp_mk [none, none, some 4, some 0] (()) ?_ ?_ | (intro h; exact absurd h (by (show ¬ (false = true)); decide)) | (intro h; exact absurd h (by decide)) | (intro h; exact absurd h (by rw [hm]; decide)) | refine Or.inl ⟨6, ?_⟩ | refine unr_in 6 ?_ | refine num_lit 0 (by decide) ?_ | refine num_lit 1 (by decide) ?_ | refine num_lit 2 (by decide) ?_ | refine num_lit 3 (by decide) ?_ | refine num_lit 4 (by decide) ?_ | refine num_lit 5 (by decide) ?_ | refine num_lit 6 (by decide) ?_ | refine num_lit 7 (by decide) ?_ | refine num_lit 8 (by decide) ?_ | (intro h; exact absurd h (by decide)) | refine num_elim ?_ | intro _ | (with_reducible rfl) | ((with_reducible refine lk_t ?_); exact rfl) | ((with_reducible refine pf_t ?_); exact rfl) | refine tell ?_ | exact True.intro | (refine IsT.of ?_; kernel_rfl))
  all_goals (try exact (0 : Nat))
  all_goals (try with_reducible refine Tell.mk ?_)
  all_goals first | with_reducible rfl | with_reducible exact isI_mk | with_reducible assumption | with_reducible exact hF _ | (with_reducible refine gb_t ?_; with_reducible assumption) | ((with_reducible refine okF_t ?_); kernel_rfl) | ((with_reducible refine ks_t ?_); rfl) | ((show (_ : Int) ≤ _); decide) | ((show (_ : Nat) ≤ _); decide) | ((show (_ : Int) < _); decide) | skip
  all_goals (have hp : pickF c 1 = 0 := (by have := pickF_bd c 1 (by omega); omega))
  all_goals (generalize pickF c 1 = Q at *)
  all_goals (try simp only [decide_eq_true_eq, decide_eq_false_iff_not] at *)
  all_goals (try simp only [intF_mk, avInt_int, byteP_eq] at *)
  all_goals (try simp only [sh3, sh2, sh1, sh0] at *)
  all_goals (try simp only [appB_fun] at *)
  all_goals (try simp only [lenN_none, offA_none, mulN1, Nat.zero_add, Nat.mul_one, show Int.toNat 0 = 0 from rfl, List.length_nil, show ∀ (n : Nat) (P Q : Nat → Int), catI n none P Q = Q from fun _ _ _ => rfl, Bool.true_and, Bool.false_and, Bool.false_or] at *)
  all_goals first | with_reducible rfl | omega | exact hF _ | exact rawF_in hF | exact film_of ⟨by omega, by omega, by omega, by omega⟩ r F rfl rfl | (show 0 < _; omega) | exact Nat.le_refl _ | (show _ * 1 ≤ 140737488355328; omega) | exact dN_0 r F | (show gb false false = true; rfl) | (show List.getD _ _ _ = _; rfl) | (show (OB.nums _ 0 _).N = 0; rfl) | (show (OB.arr 0 _).N = 0; rfl) | (exfalso; refine no_str ?_ rfl (by assumption); omega) | skip
  all_goals (try simp only [catI_0] at *)
  all_goals first
    | (rw [appB_two]; exact (appB_u8 (dkB_u8 []) (saveC_u8 _ _ _ _ _ _) _).1) | (rw [appB_two]; exact (appB_u8 (dkB_u8 []) (saveC_u8 _ _ _ _ _ _) _).2)
    | exact fin_true (fin_told (R := []) (fun x hx => by cases hx) (dkB_u8 []) (fun j hj => absurd hj (by omega)) (show Q.toNat = 0 by omega) (fun j => appB_two) rfl)
    | trace_state
end Go.Proofs.Ytehjhfifldefiaa
/- Stores of films: the law, for any count of films. -/
namespace Go.Proofs.Ytehjhfifldefiaa
open Go.RowKit Ev
set_option linter.unusedVariables false
theorem topStoreL_f : FnOk Try.prog 6 Try.f6 := ⟨Try.func6, by kernel_rfl⟩
theorem topStoreL_a (r : Nat) (F : Nat → Int) (a c : Int) (hpre : (∀ j, In64 (F j)) ∧ In64 a ∧ In64 c) : ACalls Try.prog 6 [ints .i64 r F, .int .i64 a, .int .i64 c] (.bool true) := by
  obtain ⟨hF, ha, hc⟩ := hpre
  have hb := pickF_bd a 4 (by omega)
  by_cases h : pickF a 4 = 0
  · exact topStoreN_a r F a c ⟨hF, ha, hc, h⟩
  · exact topStore_a r F a c ⟨hF, ha, hc, by omega⟩
end Go.Proofs.Ytehjhfifldefiaa
