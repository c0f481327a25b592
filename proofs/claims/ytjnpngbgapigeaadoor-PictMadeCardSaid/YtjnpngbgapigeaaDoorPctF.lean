/- Pictures as bytes: what is unpacked, plain. -/
import Derived.Test.YtjnpngbgapigeaaDoorPctE
namespace Go.Proofs.YtjnpngbgapigeaaDoor
open Go.RowKit Ev
set_option linter.unusedVariables false
set_option linter.unusedSimpArgs false
set_option maxRecDepth 20000
set_option maxHeartbeats 4000000

/-- So many copies of bytes behind bytes. -/
def repB (N : Nat) (D : Nat → Int) (m : Nat) (C : Nat → Int) : Nat → Nat → Int
  | 0 => D
  | t + 1 => apB (N + m * t) (repB N D m C t) C
theorem repB_0 (N : Nat) (D : Nat → Int) (m : Nat) (C : Nat → Int) : repB N D m C 0 = D := rfl
theorem repB_s (N : Nat) (D : Nat → Int) (m : Nat) (C : Nat → Int) (t : Nat) : repB N D m C (t + 1) = apB (N + m * t) (repB N D m C t) C := rfl
theorem repB_u8 {N : Nat} {D : Nat → Int} {m : Nat} {C : Nat → Int} (hD : U8s D) (hC : U8s C) : ∀ t, U8s (repB N D m C t)
  | 0 => hD
  | t + 1 => apB_u8 (repB_u8 hD hC t) hC
attribute [irreducible] repB
/-- How many pixels a block tells, and how often. -/
@[irreducible] def mny (k : Int) : Nat := if k < 128 then (k + 1).toNat else 1
@[irreducible] def tms (k : Int) : Nat := if k < 128 then 1 else (k - 127).toNat
theorem mny_lo {k : Int} (h : k < 128) : mny k = (k + 1).toNat := by unfold mny; rw [if_pos h]
theorem mny_hi {k : Int} (h : ¬ k < 128) : mny k = 1 := by unfold mny; rw [if_neg h]
theorem tms_lo {k : Int} (h : k < 128) : tms k = 1 := by unfold tms; rw [if_pos h]
theorem tms_hi {k : Int} (h : ¬ k < 128) : tms k = (k - 127).toNat := by unfold tms; rw [if_neg h]
theorem mt_bd {k : Int} (h0 : 0 ≤ k) (h1 : k < 256) : 1 ≤ mny k ∧ mny k ≤ 128 ∧ 1 ≤ tms k ∧ tms k ≤ 128 ∧ 1 ≤ mny k * tms k ∧ mny k * tms k ≤ 128 := by
  by_cases h : k < 128
  · rw [mny_lo h, tms_lo h]; omega
  · rw [mny_hi h, tms_hi h]; omega
structure UnS where
  at_ : Nat
  L : Nat
  D : Nat → Int
def UnS.go (B : Nat → Int) (n W : Nat) (s : UnS) : Prop := s.L < W ∧ s.at_ + 1 + 4 * mny (B s.at_) ≤ n
def UnS.step (B : Nat → Int) (s : UnS) : UnS := ⟨s.at_ + 1 + 4 * mny (B s.at_), s.L + 4 * mny (B s.at_) * tms (B s.at_), repB s.L s.D (4 * mny (B s.at_)) (fun j => B (s.at_ + 1 + j)) (tms (B s.at_))⟩
instance (B : Nat → Int) (n W : Nat) (s : UnS) : Decidable (s.go B n W) := inferInstanceAs (Decidable (s.L < W ∧ s.at_ + 1 + 4 * mny (B s.at_) ≤ n))
def unW (B : Nat → Int) (n W : Nat) : Nat → UnS
  | 0 => ⟨6, 0, fun _ => 0⟩
  | i + 1 => if (unW B n W i).go B n W then (unW B n W i).step B else unW B n W i
@[irreducible] def un (B : Nat → Int) (n W i : Nat) : UnS := unW B n W i
theorem un_0 (B : Nat → Int) (n W : Nat) : un B n W 0 = ⟨6, 0, fun _ => 0⟩ := by unfold un; rfl
theorem un_s {B : Nat → Int} {n W i : Nat} (h : (un B n W i).go B n W) : un B n W (i + 1) = (un B n W i).step B := by
  unfold un at *
  show (if (unW B n W i).go B n W then _ else _) = _
  rw [if_pos h]
theorem un_e {B : Nat → Int} {n W i : Nat} (h : ¬ (un B n W i).go B n W) : ∀ d, un B n W (i + d) = un B n W i
  | 0 => rfl
  | d + 1 => by
    have ih := un_e h d
    have : un B n W (i + d + 1) = un B n W (i + d) := by
      rw [← ih] at h
      unfold un at *
      show (if (unW B n W (i + d)).go B n W then _ else _) = _
      rw [if_neg h]
    rw [show i + (d + 1) = i + d + 1 from rfl, this, ih]
theorem un_at {B : Nat → Int} {n W i : Nat} (h : (un B n W i).go B n W) : un B n W (i + 1) = ⟨(un B n W i).at_ + 1 + 4 * mny (B (un B n W i).at_), (un B n W i).L + 4 * mny (B (un B n W i).at_) * tms (B (un B n W i).at_), repB (un B n W i).L (un B n W i).D (4 * mny (B (un B n W i).at_)) (fun j => B ((un B n W i).at_ + 1 + j)) (tms (B (un B n W i).at_))⟩ := un_s h
theorem un_ok {B : Nat → Int} (hB : U8s B) {n W : Nat} (hn : 6 ≤ n) : ∀ i, 6 ≤ (un B n W i).at_ ∧ (un B n W i).at_ ≤ n ∧ (un B n W i).L < W + 512 ∧ U8s (un B n W i).D
  | 0 => by rw [un_0]; exact ⟨Nat.le_refl _, hn, by show 0 < W + 512; omega, fun j => by show 0 ≤ (0 : Int) ∧ (0 : Int) < 256; omega⟩
  | i + 1 => by
    have ih := un_ok hB hn i (W := W)
    by_cases h : (un B n W i).go B n W
    · have q := mt_bd (hB (un B n W i).at_).1 (hB (un B n W i).at_).2
      rw [un_at h]
      refine ⟨?_, h.2, ?_, repB_u8 ih.2.2.2 (fun j => hB _) _⟩
      · show 6 ≤ _ + 1 + 4 * _; omega
      · show _ + 4 * _ * _ < W + 512
        have := h.1
        rw [Nat.mul_assoc]; omega
    · rw [un_e h 1]; exact ih
@[irreducible] def unD (B : Nat → Int) (n W : Nat) : UnS := un B n W W
theorem un_end {B : Nat → Int} {n W i : Nat} (hi : i ≤ W) (h : ¬ (un B n W i).go B n W) : un B n W i = unD B n W := by
  have := un_e h (W - i)
  rw [show i + (W - i) = W by omega] at this
  unfold unD
  exact this.symm
structure UnI (B : Nat → Int) (n W : Nat) where
  i : Nat
  hi : i ≤ (un B n W i).L
  hW : i ≤ W
/-- What is said of bytes that are unpacked. -/
def Mgc (B : Nat → Int) : Prop := B 0 = 82 ∧ B 1 = 72 ∧ B 2 = 80 ∧ B 3 = 49
def Chk (B : Nat → Int) (a : Nat) : Prop := ckF B a 0 = B a ∧ ckF B a 1 = B (a + 1)
def Pkd (B : Nat → Int) (n : Nat) (D : Nat → Int) : Prop := pkN D (B 4) (B 5) = n ∧ ∀ j, j < n → pkB D (B 4) (B 5) j = B j
instance (B : Nat → Int) : Decidable (Mgc B) := inferInstanceAs (Decidable (B 0 = 82 ∧ B 1 = 72 ∧ B 2 = 80 ∧ B 3 = 49))
instance (B : Nat → Int) (a : Nat) : Decidable (Chk B a) := inferInstanceAs (Decidable (ckF B a 0 = B a ∧ ckF B a 1 = B (a + 1)))
instance (B : Nat → Int) (n : Nat) (D : Nat → Int) : Decidable (Pkd B n D) := inferInstanceAs (Decidable (pkN D (B 4) (B 5) = n ∧ ∀ j, j < n → pkB D (B 4) (B 5) j = B j))
def wh4 (B : Nat → Int) : Nat := (4 * (B 4 * B 5)).toNat
def unE1 (B : Nat → Int) (n W : Nat) (s : UnS) : Int :=
  if s.L < W then 8 else if W < s.L then 5 else if n < s.at_ + 2 then 8 else if s.at_ + 2 < n then 5 else if Chk B s.at_ then (if Pkd B n s.D then 0 else 11) else 12
@[irreducible] def unE (B : Nat → Int) (n : Nat) : Int :=
  if n < 6 then 8 else if Mgc B then (if Side (B 4) (B 5) then unE1 B n (wh4 B) (unD B n (wh4 B)) else 4) else 11
section
variable {B : Nat → Int} {n : Nat}
theorem unE_six (h : n < 6) : unE B n = 8 := by unfold unE; rw [if_pos h]
theorem unE_mgc (h : ¬ n < 6) (g : ¬ Mgc B) : unE B n = 11 := by unfold unE; rw [if_neg h, if_neg g]
theorem unE_lim (h : ¬ n < 6) (g : Mgc B) (k : ¬ Side (B 4) (B 5)) : unE B n = 4 := by unfold unE; rw [if_neg h, if_pos g, if_neg k]
theorem unE_in (h : ¬ n < 6) (g : Mgc B) (k : Side (B 4) (B 5)) {i W : Nat} (hW : W = wh4 B) (hi : i ≤ W) (hg : ¬ (un B n W i).go B n W) : unE B n = unE1 B n W (un B n W i) := by
  subst hW
  unfold unE; rw [if_neg h, if_pos g, if_pos k, un_end hi hg]
end
section
variable {B : Nat → Int} {n W : Nat} {s : UnS}
theorem unE1_s (h : s.L < W) : unE1 B n W s = 8 := by unfold unE1; rw [if_pos h]
theorem unE1_c (h : W < s.L) : unE1 B n W s = 5 := by unfold unE1; rw [if_neg (by omega), if_pos h]
theorem unE1_s2 (h : s.L = W) (a : n < s.at_ + 2) : unE1 B n W s = 8 := by unfold unE1; rw [if_neg (by omega), if_neg (by omega), if_pos a]
theorem unE1_c2 (h : s.L = W) (a : s.at_ + 2 < n) : unE1 B n W s = 5 := by unfold unE1; rw [if_neg (by omega), if_neg (by omega), if_neg (by omega), if_pos a]
theorem unE1_k (h : s.L = W) (a : s.at_ + 2 = n) (c : ¬ Chk B s.at_) : unE1 B n W s = 12 := by unfold unE1; rw [if_neg (by omega), if_neg (by omega), if_neg (by omega), if_neg (by omega), if_neg c]
theorem unE1_f (h : s.L = W) (a : s.at_ + 2 = n) (c : Chk B s.at_) (d : ¬ Pkd B n s.D) : unE1 B n W s = 11 := by unfold unE1; rw [if_neg (by omega), if_neg (by omega), if_neg (by omega), if_neg (by omega), if_pos c, if_neg d]
theorem unE1_0 (h : s.L = W) (a : s.at_ + 2 = n) (c : Chk B s.at_) (d : Pkd B n s.D) : unE1 B n W s = 0 := by unfold unE1; rw [if_neg (by omega), if_neg (by omega), if_neg (by omega), if_neg (by omega), if_pos c, if_pos d]
end
/-- Comparisons of strings of bytes. -/
theorem strI_lit (P : Nat → Int) (hP : U8s P) : ((strI 4 P).toList == (ByteArray.mk #[82, 72, 80, 49]).toList) = true ↔ Mgc P := by
  have e : ByteArray.mk #[82, 72, 80, 49] = strI 4 fun j => ([82, 72, 80, 49] : List Int).getD j 0 := rfl
  rw [e, beq_iff_eq]
  constructor
  · intro h
    have := (strI_inj hP (fun j => by
      match j with
      | 0 | 1 | 2 | 3 => exact ⟨by decide, by decide⟩
      | j + 4 => exact ⟨by simp, by simp⟩) h).2
    exact ⟨this 0 (by decide), this 1 (by decide), this 2 (by decide), this 3 (by decide)⟩
  · rintro ⟨a, b, c, d⟩
    rw [strI_ext]
    intro j hj
    match j, hj with
    | 0, _ => exact a
    | 1, _ => exact b
    | 2, _ => exact c
    | 3, _ => exact d
theorem strI_same {n m : Nat} {P Q : Nat → Int} (hP : U8s P) (hQ : U8s Q) : ((strI n P).toList == (strI m Q).toList) = true ↔ n = m ∧ ∀ j, j < n → P j = Q j := by
  rw [beq_iff_eq]
  exact ⟨strI_inj hP hQ, fun ⟨a, b⟩ => by subst a; rw [strI_ext b]⟩
theorem chk_str {B : Nat → Int} (hB : U8s B) {a m : Nat} (hm : m = 2) : ((strI 2 (ckF B a)).toList == (strI m fun j => B (a + j)).toList) = true ↔ Chk B a := by
  subst hm
  rw [strI_same (ck_u8 hB a) fun j => hB _]
  constructor
  · rintro ⟨_, h⟩
    exact ⟨h 0 (by decide), h 1 (by decide)⟩
  · rintro ⟨a, b⟩
    refine ⟨rfl, fun j hj => ?_⟩
    match j, hj with
    | 0, _ => exact a
    | 1, _ => exact b
theorem apB_ext {N M : Nat} {B C B' C' : Nat → Int} (h : ∀ j, j < N → B j = B' j) (g : ∀ j, j < M → C j = C' j) {j : Nat} (hj : j < N + M) : apB N B C j = apB N B' C' j := by
  unfold apB; split
  · exact h j ‹_›
  · exact g _ (by omega)
theorem pk_u8 {D : Nat → Int} (h : U8s D) (w x : Int) : U8s (pkB D w x) := by
  have := pk_ok h (w * x).toNat w x (w * x).toNat
  unfold pkB pkD
  exact apB_u8 this.2.2.2.2 (ck_u8 this.2.2.2.2 _)
end Go.Proofs.YtjnpngbgapigeaaDoor
