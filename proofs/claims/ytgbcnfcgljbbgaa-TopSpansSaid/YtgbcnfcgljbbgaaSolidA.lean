/- Solids: which ones may be. -/
import Derived.Test.YtgbcnfcgljbbgaaFlat
import Derived.Test.YtgbcnfcgljbbgaaShapeC
namespace Go.Proofs.Ytgbcnfcgljbbgaa
open Go.RowKit Ev
set_option linter.unusedVariables false
set_option linter.unusedSimpArgs false
set_option maxRecDepth 20000
set_option maxHeartbeats 4000000

/-- A shape's numbers. -/
structure Shp where
  k : Int
  a : Nat
  b : Nat
  c : Nat
  d : Nat
  e : Nat
  f : Nat
  g : Nat
  h : Nat
  i : Nat
  r : Nat
  q : Nat
  s : Int
def Shp.cell (p : Shp) (c : Nat) : AV := [AV.int .i64 p.k, .flt p.a, .flt p.b, .flt p.c, .flt p.d, .flt p.e, .flt p.f, .flt p.g, .flt p.h, .flt p.i, .flt p.r, .flt p.q, .int .i64 p.s].getD c .any
def Shp.err (p : Shp) : Int := shapeE p.k p.a p.b p.c p.d p.e p.f p.g p.h p.i p.r p.q p.s
/-- A part's numbers. -/
structure Prt where
  op : Int
  l : Int
  m : Int
  p : Shp
def Prt.cell (p : Prt) (c : Nat) : AV := match c with
  | 0 => .int .i64 p.op
  | 1 => .int .i64 p.l
  | 2 => .int .i64 p.m
  | c + 3 => p.p.cell c
@[irreducible] def partF (P : Nat → Prt) (j : Nat) : AV := (P (j / 16)).cell (j % 16)
theorem part_at (P : Nat → Prt) (i c : Nat) (h : c < 16) : partF P (i * 16 + c) = (P i).cell c := by
  unfold partF; rw [show (i * 16 + c) / 16 = i by omega, show (i * 16 + c) % 16 = c by omega]
def Prt.row (p : Prt) : List AV := [.int .i64 p.op, .int .i64 p.l, .int .i64 p.m, .int .i64 p.p.k, .flt p.p.a, .flt p.p.b, .flt p.p.c, .flt p.p.d, .flt p.p.e, .flt p.p.f, .flt p.p.g, .flt p.p.h, .flt p.p.i, .flt p.p.r, .flt p.p.q, .int .i64 p.p.s]
theorem view_part {nm : Bool} {P : Nat → Prt} {i : Nat} {K : AV → Prop} (h : nameE nm (.agg (P i).row) K) :
    nameE nm (.agg (List.map (fun j => partF P (mulN (i : Int).toNat 16 + j)) (List.range (Tab.cx.ti 29).size))) K := by
  refine view_agg ?_ h
  have e : (Tab.cx.ti 29).size = 16 := rfl
  rw [e, mulN_eq, Int.toNat_natCast]
  show [partF P (i * 16 + 0), partF P (i * 16 + 1), partF P (i * 16 + 2), partF P (i * 16 + 3), partF P (i * 16 + 4), partF P (i * 16 + 5), partF P (i * 16 + 6), partF P (i * 16 + 7), partF P (i * 16 + 8), partF P (i * 16 + 9), partF P (i * 16 + 10), partF P (i * 16 + 11), partF P (i * 16 + 12), partF P (i * 16 + 13), partF P (i * 16 + 14), partF P (i * 16 + 15)] = _
  simp only [part_at P i _ (show 0 < 16 by decide), part_at P i _ (show 1 < 16 by decide), part_at P i _ (show 2 < 16 by decide), part_at P i _ (show 3 < 16 by decide), part_at P i _ (show 4 < 16 by decide), part_at P i _ (show 5 < 16 by decide), part_at P i _ (show 6 < 16 by decide), part_at P i _ (show 7 < 16 by decide), part_at P i _ (show 8 < 16 by decide), part_at P i _ (show 9 < 16 by decide), part_at P i _ (show 10 < 16 by decide), part_at P i _ (show 11 < 16 by decide), part_at P i _ (show 12 < 16 by decide), part_at P i _ (show 13 < 16 by decide), part_at P i _ (show 14 < 16 by decide), part_at P i _ (show 15 < 16 by decide)]
  rfl
/-- The first error. -/
def firstE (f : Nat → Int) : Nat → Int
  | 0 => 0
  | n + 1 => if firstE f n = 0 then f n else firstE f n
theorem firstE_0 (f : Nat → Int) : firstE f 0 = 0 := rfl
theorem firstE_n (f : Nat → Int) (n : Nat) : firstE f (n + 1) = if firstE f n = 0 then f n else firstE f n := rfl
attribute [irreducible] firstE
theorem firstE_s {f : Nat → Int} {i : Nat} (h : firstE f i = 0) (hf : f i = 0) : firstE f (i + 1) = 0 := by rw [firstE_n, if_pos h, hf]
theorem firstE_hit {f : Nat → Int} {i : Nat} (h : firstE f i = 0) (hf : f i ≠ 0) : ∀ {n : Nat}, i < n → firstE f n = f i
  | 0, hn => by omega
  | n + 1, hn => by
    rw [firstE_n]
    by_cases e : i = n
    · subst e; rw [if_pos h]
    · rw [firstE_hit h hf (n := n) (by omega), if_neg hf]
theorem firstE_all {f : Nat → Int} {n : Nat} (h : firstE f n = 0) : ∀ {i : Nat}, i < n → f i = 0 := fun {i} hi => by
  induction n with
  | zero => omega
  | succ n ih =>
    rw [firstE_n] at h
    split at h
    · rename_i h1
      rcases Nat.lt_or_eq_of_le (Nat.le_of_lt_succ hi) with g | g
      · exact ih h1 g
      · rw [g]; exact h
    · rename_i h1; exact absurd h h1
def partE (P : Nat → Prt) (i : Nat) : Int :=
  if (P i).op = 0 then (if (P i).p.err = 0 then (if (P i).p.k = 1 ∨ (P i).p.k = 2 ∨ (P i).p.k = 5 then 0 else 3) else (P i).p.err) else
  if (P i).op = 1 ∨ (P i).op = 2 ∨ (P i).op = 3 then (if (P i).l < 0 ∨ (i : Int) ≤ (P i).l ∨ (P i).m < 0 ∨ (i : Int) ≤ (P i).m then 9 else 0) else 11
@[irreducible] def solidE (n : Nat) (P : Nat → Prt) (s : Int) : Int := if (n : Int) < 1 ∨ 16 < (n : Int) then 5 else if s < 0 ∨ 16 ≤ s then 4 else firstE (partE P) n
theorem solidE_5 {n : Nat} {P : Nat → Prt} {s : Int} (h : (n : Int) < 1 ∨ 16 < (n : Int)) : solidE n P s = 5 := by unfold solidE; rw [if_pos h]
theorem solidE_4 {n : Nat} {P : Nat → Prt} {s : Int} (h : 1 ≤ (n : Int) ∧ (n : Int) ≤ 16) (h2 : s < 0 ∨ 16 ≤ s) : solidE n P s = 4 := by unfold solidE; rw [if_neg (by omega), if_pos h2]
theorem solidE_n {n : Nat} {P : Nat → Prt} {s : Int} (h : 1 ≤ (n : Int) ∧ (n : Int) ≤ 16) (h2 : 0 ≤ s ∧ s < 16) : solidE n P s = firstE (partE P) n := by unfold solidE; rw [if_neg (by omega), if_neg (by omega)]
theorem solidE_e {n i : Nat} {P : Nat → Prt} {s e : Int} (h : 1 ≤ (n : Int) ∧ (n : Int) ≤ 16) (h2 : 0 ≤ s ∧ s < 16) (he : firstE (partE P) i = 0) (hi : (i : Int) < n) (hf : partE P i = e) (h0 : e ≠ 0) : solidE n P s = e := by
  rw [solidE_n h h2, firstE_hit he (by rw [hf]; exact h0) (by omega), hf]
theorem solidMay_f : FnOk Try.prog 9 Try.f9 := ⟨Try.func9, by kernel_rfl⟩
theorem solidMay_a (n : Nat) (P : Nat → Prt) (s : Int) : MCalls Try.prog 9 ([.agg [.sl n 16 (partF P), .int .i64 s]]) [] (.int .i64 (solidE n P s)) [] := by
  refine mcallsF_of (inl := hasI (P := Try.prog) [] []) (base [shapeMay_k] [] []) 0 solidMay_f (And.intro (by kernel_rfl) ?_)
  repeat' (first | refine And.intro ?_ ?_ | (with_reducible exact ff_elim) | (with_reducible exact tf_elim) | refine' rho_mk [] ?_ | refine num_elim ?_ | intro _ | (with_reducible rfl) | ((with_reducible refine lk_t ?_); exact rfl) | ((with_reducible refine pf_t ?_); exact rfl) | refine tell ?_ | exact True.intro | (refine IsT.of ?_; kernel_rfl))
  all_goals (try (refine loop_keep [28, 29] [] ?_; refine LoopI.mk ({i : Nat // i ≤ n ∧ firstE (partE P) i = 0}) (fun i => [(30, .int .i64 i.1)]) (fun i => []) (fun i => n - i.1) (⟨0, Nat.zero_le _, firstE_0 _⟩) (wk_mk [] ?_) (fun ⟨i, hi, he⟩ => ?_)))
  repeat' (first | refine And.intro ?_ ?_ | (with_reducible exact ff_elim) | (with_reducible exact tf_elim) | refine stp_mk [] (⟨i + 1, ?_, ?_⟩) ?_ ?_ | refine view_part ?_ | refine' rho_mk [] ?_ | refine num_elim ?_ | intro _ | (with_reducible rfl) | ((with_reducible refine lk_t ?_); exact rfl) | ((with_reducible refine pf_t ?_); exact rfl) | refine tell ?_ | exact True.intro | (refine IsT.of ?_; kernel_rfl))
  all_goals (try refine Tell.mk ?_)
  all_goals first | with_reducible rfl | with_reducible exact isI_mk | with_reducible assumption | (with_reducible refine gb_t ?_; with_reducible assumption) | (with_reducible refine gb_f ?_; with_reducible assumption) | ((with_reducible refine lk_t ?_); rfl) | ((with_reducible refine okF_t ?_); kernel_rfl) | ((with_reducible refine ks_t ?_); rfl) | ((with_reducible refine pk_t ?_); rfl) | ((with_reducible refine pf_t ?_); rfl) | skip
  all_goals (try dsimp only at *)
  all_goals (try simp only [decide_eq_true_eq, decide_eq_false_iff_not, Bool.or_eq_true, Bool.or_eq_false_iff, Bool.and_eq_true, Bool.and_eq_false_iff, Bool.not_eq_true', Bool.not_eq_false', bne_iff_ne, ne_eq, beq_iff_eq, bne_eq_false_iff_eq, beq_eq_false_iff_ne, Int.not_lt, Int.not_le, gt_iff_lt, ge_iff_le] at *)
  all_goals (try simp only [mulN1, Nat.add_zero, Nat.zero_add, Nat.mul_one, Int.toNat_natCast, avInt_int] at *)
  all_goals first | with_reducible rfl | with_reducible exact nums_N | omega | ((with_reducible refine by_le 1 rfl ?_); omega) | ((with_reducible refine by_le 8 rfl ?_); omega) | (rw [wrapI (by omega) (by omega)] <;> omega) | skip
  all_goals first | exact solidE_5 (by assumption) | exact solidE_4 (by assumption) (by assumption) | skip
  all_goals first | (refine firstE_s he ?_; grind [partE, Shp.err]) | (refine solidE_e (by assumption) (by assumption) he (by assumption) ?_ ?_ <;> grind [partE, Shp.err]) | skip
  all_goals first | exact Nat.le_refl 16 | skip
  all_goals (obtain rfl : i = n := (by omega))
  all_goals (rw [solidE_n (by assumption) (by assumption)]; exact he)
end Go.Proofs.Ytgbcnfcgljbbgaa
