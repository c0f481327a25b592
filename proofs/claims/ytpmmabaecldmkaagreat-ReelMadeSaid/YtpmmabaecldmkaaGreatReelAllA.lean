/- Keys: whether they may be, where something is. -/
import Derived.Test.YtpmmabaecldmkaaGreatSlabA
import Derived.Test.YtpmmabaecldmkaaGreatEvLoop
import Derived.Test.YtpmmabaecldmkaaGreatEvNum
import Derived.Test.YtpmmabaecldmkaaGreatTab
import Derived.Test.YtpmmabaecldmkaaGreatFieldB
import Derived.Test.YtpmmabaecldmkaaGreatFlat
import Derived.Test.YtpmmabaecldmkaaGreatEvPub
import Derived.Test.YtpmmabaecldmkaaGreatLin
import Derived.Test.YtpmmabaecldmkaaGreatMade
namespace Go.Proofs.YtpmmabaecldmkaaGreat
open Go.RowKit Ev
set_option linter.unusedVariables false
set_option linter.unusedSimpArgs false
set_option maxRecDepth 20000
set_option maxHeartbeats 4000000

@[reducible] def ints4 (k : IntKind) (n : Nat) (F : Nat → Int) : AV := .sl n 4 fun j => .int k (F j)
@[irreducible] def key1 (F : Nat → Int) (i : Nat) : Int :=
  if F (4 * i) < 0 ∨ 1000000 < F (4 * i) ∨ (0 < i ∧ F (4 * i) ≤ F (4 * (i - 1))) then 6 else
  if F (4 * i + 1) < -1000000 ∨ 1000000 < F (4 * i + 1) ∨ F (4 * i + 2) < -1000000 ∨ 1000000 < F (4 * i + 2) ∨ F (4 * i + 3) < -1000000 ∨ 1000000 < F (4 * i + 3) then 1 else 0
/-- The first fault of m keys from i on. -/
def keysF (F : Nat → Int) : Nat → Nat → Int
  | 0, _ => 0
  | m + 1, i => if key1 F i = 0 then keysF F m (i + 1) else key1 F i
theorem keysF_s (F : Nat → Int) (m i : Nat) : keysF F (m + 1) i = if key1 F i = 0 then keysF F m (i + 1) else key1 F i := rfl
theorem keysF_0 (F : Nat → Int) (i : Nat) : keysF F 0 i = 0 := rfl
attribute [irreducible] keysF
@[irreducible] def keysE (n : Nat) (F : Nat → Int) : Int := if n < 1 ∨ 32 < n then 5 else keysF F n 0
theorem le_by {b M : Nat} {c : Nat} (h : b = c) (h' : c ≤ M) : b ≤ M := by rw [h]; exact h'
theorem of_gbt {p : Prop} [Decidable p] (h : gb (decide p) true = true) : p := of_decide_eq_true h
theorem m4 (i : Nat) : mulN i 4 = 4 * i := by rw [mulN_eq]; omega
theorem ti1 {i : Nat} (h : 0 < (i : Int)) (h' : i ≤ 4611686018427387904) : (IntKind.i64.wrap ((i : Int) - 1)).toNat = i - 1 := by
  rw [wrapI (by omega) (by omega)]; omega
theorem keysE_5 {n : Nat} {F : Nat → Int} (h : (n : Int) < 1 ∨ 32 < (n : Int)) : keysE n F = 5 := by unfold keysE; rw [if_pos (by omega)]
theorem keys_bad {n i : Nat} {F : Nat → Int} (hn : 1 ≤ (n : Int) ∧ (n : Int) ≤ 32) (hk : keysF F n 0 = keysF F (n - i) i) (hi : (i : Int) < n) {e : Int} (h1 : key1 F i = e) (he : e ≠ 0) : keysE n F = e := by
  unfold keysE
  rw [if_neg (by omega), hk, show n - i = (n - i - 1) + 1 by omega, keysF_s, if_neg (by rw [h1]; exact he), h1]
theorem keys_step {n i : Nat} {F : Nat → Int} (hk : keysF F n 0 = keysF F (n - i) i) (hi : (i : Int) < n) (h1 : key1 F i = 0) : keysF F n 0 = keysF F (n - (i + 1)) (i + 1) := by
  rw [hk, show n - i = (n - (i + 1)) + 1 by omega, keysF_s, if_pos h1]
theorem keys_end {n i : Nat} {F : Nat → Int} (hn : 1 ≤ (n : Int) ∧ (n : Int) ≤ 32) (hk : keysF F n 0 = keysF F (n - i) i) (hi : (n : Int) ≤ i) : keysE n F = 0 := by
  unfold keysE
  rw [if_neg (by omega), hk, show n - i = 0 by omega, keysF_0]
theorem key1_6 {F : Nat → Int} {i : Nat} (h : (F (4 * i) < 0 ∨ 1000000 < F (4 * i)) ∨ 0 < (i : Int) ∧ F (4 * i) ≤ F (4 * (i - 1))) : key1 F i = 6 := by
  unfold key1; rw [if_pos (by omega)]
theorem key1_1 {F : Nat → Int} {i : Nat} (h : (0 ≤ F (4 * i) ∧ F (4 * i) ≤ 1000000) ∧ ((i : Int) ≤ 0 ∨ F (4 * (i - 1)) < F (4 * i)))
    (h1 : F (4 * i + 1) < -1000000 ∨ 1000000 < F (4 * i + 1) ∨ F (4 * i + 2) < -1000000 ∨ 1000000 < F (4 * i + 2) ∨ F (4 * i + 3) < -1000000 ∨ 1000000 < F (4 * i + 3)) : key1 F i = 1 := by
  unfold key1; rw [if_neg (by omega), if_pos h1]
theorem key1_0 {F : Nat → Int} {i : Nat} (h : (0 ≤ F (4 * i) ∧ F (4 * i) ≤ 1000000) ∧ ((i : Int) ≤ 0 ∨ F (4 * (i - 1)) < F (4 * i)))
    (h1 : ¬ (F (4 * i + 1) < -1000000 ∨ 1000000 < F (4 * i + 1) ∨ F (4 * i + 2) < -1000000 ∨ 1000000 < F (4 * i + 2) ∨ F (4 * i + 3) < -1000000 ∨ 1000000 < F (4 * i + 3))) : key1 F i = 0 := by
  unfold key1; rw [if_neg (by omega), if_neg h1]
theorem prev {F : Nat → Int} {i n : Nat} {c : Prop} (hi : i ≤ n) (hn : (n : Int) ≤ 32) (h : c ∧ ((i : Int) ≤ 0 ∨ F (4 * (IntKind.i64.wrap ((i : Int) - 1)).toNat) < F (4 * i))) : c ∧ ((i : Int) ≤ 0 ∨ F (4 * (i - 1)) < F (4 * i)) := by
  refine ⟨h.1, ?_⟩
  by_cases h0 : 0 < (i : Int)
  · rw [ti1 h0 (by omega)] at h; exact h.2
  · exact .inl (by omega)
theorem prev' {F : Nat → Int} {i n : Nat} {c : Prop} (hi : i ≤ n) (hn : (n : Int) ≤ 32) (h : c ∨ 0 < (i : Int) ∧ F (4 * i) ≤ F (4 * (IntKind.i64.wrap ((i : Int) - 1)).toNat)) : c ∨ 0 < (i : Int) ∧ F (4 * i) ≤ F (4 * (i - 1)) := by
  rcases h with h | h
  · exact .inl h
  · rw [ti1 h.1 (by omega)] at h; exact .inr h
theorem reelMay_f : FnOk Tryz.prog 8 Tryz.f8 := ⟨Tryz.func8, by kernel_rfl⟩
theorem reelMay_a (n : Nat) (F : Nat → Int) (hpre : ∀ j, In64 (F j)) : ACalls Tryz.prog 8 [ints4 .i64 n F] (.int .i64 (keysE n F)) := by
  refine acalls_of (inl := hasI (P := Tryz.prog) [] []) (base [] [] []) 0 reelMay_f (And.intro (by kernel_rfl) ?_)
  repeat' (first | refine And.intro ?_ ?_ | (with_reducible exact ff_elim) | (with_reducible exact tf_elim) | refine num_elim ?_ | intro _ | (with_reducible rfl) | ((with_reducible refine lk_t ?_); exact rfl) | ((with_reducible refine pf_t ?_); exact rfl) | refine tell ?_ | exact True.intro | (refine IsT.of ?_; kernel_rfl))
  all_goals (try (refine loop_keep [0, 15, 16] [] ?_; refine LoopI.mk ({i : Nat // i ≤ n ∧ keysF F n 0 = keysF F (n - i) i}) (fun i => [(17, .int .i64 i.1)]) (fun _ => []) (fun i => n - i.1) (⟨0, Nat.zero_le _, rfl⟩) (wk_mk [] ?_) (fun ⟨i, hi, hk⟩ => ?_)))
  repeat' (first | refine And.intro ?_ ?_ | (with_reducible exact ff_elim) | (with_reducible exact tf_elim) | refine stp_mk [] (⟨i + 1, ?_, ?_⟩) ?_ ?_ | refine Or.inl ⟨4, ?_⟩ | refine num_lit 0 (by decide) ?_ | refine num_lit 1 (by decide) ?_ | refine num_lit 2 (by decide) ?_ | refine num_lit 3 (by decide) ?_ | refine num_lit 4 (by decide) ?_ | refine num_lit 5 (by decide) ?_ | refine num_lit 6 (by decide) ?_ | refine num_lit 7 (by decide) ?_ | refine num_lit 8 (by decide) ?_ | (intro h; exact absurd h (by decide)) | refine num_elim ?_ | intro _ | (with_reducible rfl) | ((with_reducible refine lk_t ?_); exact rfl) | ((with_reducible refine pf_t ?_); exact rfl) | refine tell ?_ | exact True.intro | (refine IsT.of ?_; kernel_rfl))
  all_goals (try refine Tell.mk ?_)
  all_goals first | with_reducible rfl | with_reducible exact isI_mk | with_reducible assumption | (with_reducible refine gb_t ?_; with_reducible assumption) | (with_reducible refine gb_f ?_; with_reducible assumption) | ((with_reducible refine lk_t ?_); rfl) | ((with_reducible refine okF_t ?_); kernel_rfl) | ((with_reducible refine ks_t ?_); rfl) | ((with_reducible refine pk_t ?_); rfl) | ((with_reducible refine pf_t ?_); rfl) | skip
  all_goals (try dsimp only at *)
  all_goals (try simp only [decide_eq_true_eq, decide_eq_false_iff_not, Bool.or_eq_true, Bool.or_eq_false_iff, Bool.and_eq_true, Bool.and_eq_false_iff, Bool.not_eq_true', Bool.not_eq_false', bne_iff_ne, ne_eq, beq_iff_eq, bne_eq_false_iff_eq, beq_eq_false_iff_ne, Int.not_lt, Int.not_le, gt_iff_lt, ge_iff_le] at *)
  all_goals (try simp only [mulN1, Nat.add_zero, Nat.zero_add, Nat.mul_one, Int.toNat_natCast, avInt_int, intF_mk] at *)
  all_goals first | with_reducible rfl | with_reducible exact nums_N | omega | ((with_reducible refine by_le 1 rfl ?_); omega) | ((with_reducible refine by_le 8 rfl ?_); omega) | (rw [wrapI (by omega) (by omega)] <;> omega) | skip
  all_goals (try simp only [m4] at *)
  all_goals first | exact keysE_5 (by assumption) | (refine le_by (c := 4) rfl ?_; decide) | ((have h0 : 0 < (i : Int) := by grind [gb]); rw [wrapI (by omega) (by omega)]; omega) | (refine ⟨by assumption, ?_⟩; (with_reducible refine gb_t ?_); rw [decide_eq_true_eq]; assumption) | exact keys_end (by assumption) (by assumption) (by assumption) | skip
  all_goals (have hn : 1 ≤ (n : Int) ∧ (n : Int) ≤ 32 := by assumption)
  all_goals first | exact keys_bad hn hk (by assumption) (key1_6 (prev' hi hn.2 (by assumption))) (by decide) | exact keys_bad hn hk (by assumption) (key1_1 (prev hi hn.2 (by assumption)) (by omega)) (by decide) | exact keys_step hk (by assumption) (key1_0 (prev hi hn.2 (by assumption)) (by omega)) | (trace_state; fail)
def reelMay_r (n : Nat) (F : Nat → Int) : AV := .int .i64 (keysE n F)
def reelMay_p (n : Nat) (F : Nat → Int) : Prop := ∀ j, In64 (F j)
def reelMay_k : Con Tryz.prog := ⟨8, fun args => match args with | [.sl n 4 g_F] => .ok (some (IsI .i64 g_F ∧ reelMay_p n (intF g_F))) (reelMay_r n (intF g_F)) | _ => .no, by
  intro args p r h hp
  split at h
  · cases h; obtain ⟨h_F, hp⟩ := hp; have e_F := h_F.eq; rw [e_F]; exact reelMay_a _ _ hp
  · cases h⟩
theorem floor_lt {a b : Int} (hb : 0 < b) (h : a.tmod b < 0) : a / b = a.tdiv b - 1 := by
  have h1 := Int.tmod_add_mul_tdiv a b
  have h2 := Int.lt_tmod_of_pos a hb
  refine ((Int.ediv_emod_unique (r := a.tmod b + b) hb).2 ⟨?_, by omega, by omega⟩).1
  rw [Int.mul_sub, Int.mul_one]; omega
theorem floor_ge {a b : Int} (hb : 0 < b) (h : 0 ≤ a.tmod b) : a / b = a.tdiv b := by
  have h1 := Int.tmod_add_mul_tdiv a b
  have h2 := Int.tmod_lt_of_pos a hb
  exact ((Int.ediv_emod_unique (r := a.tmod b) hb).2 ⟨h1, h, h2⟩).1
theorem div_bd {a b M : Int} (hb : 0 < b) (h1 : -M ≤ a) (h2 : a ≤ M) (hM : 0 ≤ M) : -M ≤ a / b ∧ a / b ≤ M := by
  constructor
  · rw [Int.le_ediv_iff_mul_le hb]
    have := Int.mul_le_mul_of_nonneg_left (show (1 : Int) ≤ b by omega) hM
    rw [Int.neg_mul]; omega
  · have : a / b < M + 1 := by
      rw [Int.ediv_lt_iff_lt_mul hb]
      have := Int.mul_le_mul_of_nonneg_left (show (1 : Int) ≤ b by omega) (show 0 ≤ M + 1 by omega)
      omega
    omega
theorem tdiv_bd {a b : Int} (hb : 0 < b) (h : In64 a) : In64 (a.tdiv b) := by
  have h1 : (a.tdiv b).natAbs ≤ a.natAbs := by rw [Int.natAbs_tdiv]; exact Nat.div_le_self _ _
  have h2 : 0 ≤ a → 0 ≤ a.tdiv b := fun h => Int.tdiv_nonneg h (by omega)
  rw [in64_iff] at *
  have h3 : a < 0 → a.tdiv b ≤ 0 := fun h => by
    have := Int.tmod_add_mul_tdiv a b
    by_cases g : 0 < a.tdiv b
    · exfalso
      have h4 := Int.mul_pos hb g
      have := Int.lt_tmod_of_pos a hb
      have := Int.mul_le_mul_of_nonneg_left (show (1 : Int) ≤ a.tdiv b by omega) (show 0 ≤ b by omega)
      omega
    · omega
  omega
theorem mul_bd {x p A B : Int} (h1 : -A ≤ x) (h2 : x ≤ A) (h3 : 0 ≤ p) (h4 : p ≤ B) (hA : 0 ≤ A) : -(A * B) ≤ x * p ∧ x * p ≤ A * B := by
  have e1 := Int.mul_le_mul_of_nonneg_right h1 h3
  have e2 := Int.mul_le_mul_of_nonneg_right h2 h3
  have e3 := Int.mul_le_mul_of_nonneg_left h4 hA
  rw [Int.neg_mul] at e1
  omega
theorem reelFloor_f : FnOk Tryz.prog 35 Tryz.f35 := ⟨Tryz.func35, by kernel_rfl⟩
theorem reelFloor_a (a b : Int) (hpre : In64 a ∧ 0 < b ∧ In64 b) : ACalls Tryz.prog 35 [.int .i64 a, .int .i64 b] (.int .i64 (a / b)) := by
  refine acalls_of (inl := hasI (P := Tryz.prog) [] []) (base [] [] []) 0 reelFloor_f (And.intro (by kernel_rfl) ?_)
  repeat' (first | refine And.intro ?_ ?_ | (with_reducible exact ff_elim) | (with_reducible exact tf_elim) | refine num_elim ?_ | intro _ | (with_reducible rfl) | ((with_reducible refine lk_t ?_); exact rfl) | ((with_reducible refine pf_t ?_); exact rfl) | refine tell ?_ | exact True.intro | (refine IsT.of ?_; kernel_rfl))
  all_goals (try refine Tell.mk ?_)
  all_goals first | with_reducible rfl | with_reducible exact isI_mk | with_reducible assumption | (with_reducible refine gb_t ?_; with_reducible assumption) | (with_reducible refine gb_f ?_; with_reducible assumption) | ((with_reducible refine lk_t ?_); rfl) | ((with_reducible refine okF_t ?_); kernel_rfl) | ((with_reducible refine ks_t ?_); rfl) | ((with_reducible refine pk_t ?_); rfl) | ((with_reducible refine pf_t ?_); rfl) | skip
  all_goals (try dsimp only at *)
  all_goals (try simp only [decide_eq_true_eq, decide_eq_false_iff_not, Bool.or_eq_true, Bool.or_eq_false_iff, Bool.and_eq_true, Bool.and_eq_false_iff, Bool.not_eq_true', Bool.not_eq_false', bne_iff_ne, ne_eq, beq_iff_eq, bne_eq_false_iff_eq, beq_eq_false_iff_ne, Int.not_lt, Int.not_le, gt_iff_lt, ge_iff_le] at *)
  all_goals (try simp only [mulN1, Nat.add_zero, Nat.zero_add, Nat.mul_one, Int.toNat_natCast, avInt_int] at *)
  all_goals first | with_reducible rfl | with_reducible exact nums_N | omega | ((with_reducible refine by_le 1 rfl ?_); omega) | ((with_reducible refine by_le 8 rfl ?_); omega) | (rw [wrapI (by omega) (by omega)] <;> omega) | skip
  all_goals obtain ⟨ha, hb, hb'⟩ := hpre
  all_goals (have h1 := tdiv_bd hb ha; have h2 := div_bd hb (M := 9223372036854775808) (by have := ha.1; omega) (by have := ha.2; omega) (by decide); rw [in64_iff] at h1)
  all_goals first | (have h3 := floor_lt hb (by assumption); rw [wrapI h1.1 h1.2, wrapI (by omega) (by omega), h3]) | (have h3 := floor_ge hb (by assumption); rw [wrapI h1.1 h1.2, h3])
def reelFloor_k : Con Tryz.prog := ⟨35, fun args => match args with | [.int .i64 a, .int .i64 b] => .ok (some (In64 a ∧ 0 < b ∧ In64 b)) (.int .i64 (a / b)) | _ => .no, by
  intro args p r h hp
  split at h
  · cases h; exact reelFloor_a _ _ hp
  · cases h⟩
@[irreducible] def btw (a b p q : Int) : Int := a + (2 * (b - a) * p + q) / (2 * q)
theorem between_f : FnOk Tryz.prog 18 Tryz.f18 := ⟨Tryz.func18, by kernel_rfl⟩
theorem between_a (a b p q : Int) (hpre : (-1000000 ≤ a ∧ a ≤ 1000000) ∧ (-1000000 ≤ b ∧ b ≤ 1000000) ∧ (0 ≤ p ∧ p ≤ 1000000) ∧ (0 < q ∧ q ≤ 1000000)) : ACalls Tryz.prog 18 [.int .i64 a, .int .i64 b, .int .i64 p, .int .i64 q] (.int .i64 (btw a b p q)) := by
  refine acalls_of (inl := hasI (P := Tryz.prog) [] []) (base [reelFloor_k] [] []) 0 between_f (And.intro (by kernel_rfl) ?_)
  repeat' (first | refine And.intro ?_ ?_ | (with_reducible exact ff_elim) | (with_reducible exact tf_elim) | refine num_elim ?_ | intro _ | (with_reducible rfl) | ((with_reducible refine lk_t ?_); exact rfl) | ((with_reducible refine pf_t ?_); exact rfl) | refine tell ?_ | exact True.intro | (refine IsT.of ?_; kernel_rfl))
  all_goals (try refine Tell.mk ?_)
  all_goals first | with_reducible rfl | with_reducible exact isI_mk | with_reducible assumption | (with_reducible refine gb_t ?_; with_reducible assumption) | (with_reducible refine gb_f ?_; with_reducible assumption) | ((with_reducible refine lk_t ?_); rfl) | ((with_reducible refine okF_t ?_); kernel_rfl) | ((with_reducible refine ks_t ?_); rfl) | ((with_reducible refine pk_t ?_); rfl) | ((with_reducible refine pf_t ?_); rfl) | skip
  all_goals (try dsimp only at *)
  all_goals (try simp only [decide_eq_true_eq, decide_eq_false_iff_not, Bool.or_eq_true, Bool.or_eq_false_iff, Bool.and_eq_true, Bool.and_eq_false_iff, Bool.not_eq_true', Bool.not_eq_false', bne_iff_ne, ne_eq, beq_iff_eq, bne_eq_false_iff_eq, beq_eq_false_iff_ne, Int.not_lt, Int.not_le, gt_iff_lt, ge_iff_le] at *)
  all_goals (try simp only [mulN1, Nat.add_zero, Nat.zero_add, Nat.mul_one, Int.toNat_natCast, avInt_int] at *)
  all_goals first | with_reducible rfl | with_reducible exact nums_N | omega | ((with_reducible refine by_le 1 rfl ?_); omega) | ((with_reducible refine by_le 8 rfl ?_); omega) | (rw [wrapI (by omega) (by omega)] <;> omega) | skip
  all_goals obtain ⟨ha, hb, hp, hq⟩ := hpre
  all_goals (have e1 : IntKind.i64.wrap (b - a) = b - a := wrapI (by omega) (by omega))
  all_goals (have e2 : IntKind.i64.wrap (2 * (b - a)) = 2 * (b - a) := wrapI (by omega) (by omega))
  all_goals (have m1 := mul_bd (x := 2 * (b - a)) (p := p) (A := 4000000) (B := 1000000) (by omega) (by omega) hp.1 hp.2 (by decide))
  all_goals (have e3 : IntKind.i64.wrap (2 * (b - a) * p) = 2 * (b - a) * p := wrapI (by omega) (by omega))
  all_goals (have e4 : IntKind.i64.wrap (2 * (b - a) * p + q) = 2 * (b - a) * p + q := wrapI (by omega) (by omega))
  all_goals (have e5 : IntKind.i64.wrap (2 * q) = 2 * q := wrapI (by omega) (by omega))
  all_goals (have d1 := div_bd (a := 2 * (b - a) * p + q) (b := 2 * q) (M := 4000001000000) (by omega) (by omega) (by omega) (by decide))
  all_goals first | exact wrap_in _ | (rw [e5]; omega) | (rw [e1, e2, e3, e4, e5, wrapI (by omega) (by omega)]; unfold btw; rfl)
def between_k : Con Tryz.prog := ⟨18, fun args => match args with | [.int .i64 a, .int .i64 b, .int .i64 p, .int .i64 q] => .ok (some ((-1000000 ≤ a ∧ a ≤ 1000000) ∧ (-1000000 ≤ b ∧ b ≤ 1000000) ∧ (0 ≤ p ∧ p ≤ 1000000) ∧ (0 < q ∧ q ≤ 1000000))) (.int .i64 (btw a b p q)) | _ => .no, by
  intro args p r h hp
  split at h
  · cases h; exact between_a _ _ _ _ hp
  · cases h⟩
@[irreducible] def cmpV (x t : Int) : Int := if x < t then -1 else if t < x then 1 else 0
theorem isNaNi_f : FnOk Tryz.prog 34 Tryz.f34 := ⟨Tryz.func34, by kernel_rfl⟩
theorem isNaNi_a (x : Int) : ACalls Tryz.prog 34 [.int .i64 x] (.bool false) := by
  refine acalls_of (inl := hasI (P := Tryz.prog) [] []) (base [] [] []) 0 isNaNi_f (And.intro (by kernel_rfl) ?_)
  repeat' (first | refine And.intro ?_ ?_ | (with_reducible exact ff_elim) | (with_reducible exact tf_elim) | intro _ | (with_reducible rfl) | ((with_reducible refine lk_t ?_); exact rfl) | ((with_reducible refine pf_t ?_); exact rfl) | refine tell ?_ | exact True.intro | (refine IsT.of ?_; kernel_rfl))
  all_goals ((try refine Tell.mk ?_); first | with_reducible rfl | ((show (_ : Int) ≤ _); decide) | ((show (_ : Int) < _); decide) | (with_reducible refine gb_t ?_; with_reducible assumption) | with_reducible assumption | (with_reducible refine gb_f ?_; with_reducible assumption) | (simp only [gb, *, cond_true, cond_false]; done) | ((with_reducible refine ks_t ?_); rfl) | ((with_reducible refine pk_t ?_); rfl) | ((with_reducible refine pf_t ?_); rfl) | ((with_reducible refine lk_t ?_); rfl) | ((with_reducible refine okF_t ?_); kernel_rfl) | grind [gb])
def isNaNi_k : Con Tryz.prog := ⟨34, fun args => match args with | [.int .i64 x] => .ok (none) (.bool false) | _ => .no, by
  intro args p r h hp
  split at h
  · cases h; exact isNaNi_a _
  · cases h⟩
theorem cmpi_f : FnOk Tryz.prog 17 Tryz.f17 := ⟨Tryz.func17, by kernel_rfl⟩
theorem cmpi_a (x t : Int) : ACalls Tryz.prog 17 [.int .i64 x, .int .i64 t] (.int .i64 (cmpV x t)) := by
  refine acalls_of (inl := hasI (P := Tryz.prog) [] []) (base [isNaNi_k] [] []) 0 cmpi_f (And.intro (by kernel_rfl) ?_)
  repeat' (first | refine And.intro ?_ ?_ | (with_reducible exact ff_elim) | (with_reducible exact tf_elim) | intro _ | (with_reducible rfl) | ((with_reducible refine lk_t ?_); exact rfl) | ((with_reducible refine pf_t ?_); exact rfl) | refine tell ?_ | exact True.intro | (refine IsT.of ?_; kernel_rfl))
  all_goals ((try refine Tell.mk ?_); first | with_reducible rfl | ((show (_ : Int) ≤ _); decide) | ((show (_ : Int) < _); decide) | (with_reducible refine gb_t ?_; with_reducible assumption) | with_reducible assumption | (with_reducible refine gb_f ?_; with_reducible assumption) | (simp only [cmpV, *, cond_true, cond_false]; done) | ((with_reducible refine ks_t ?_); rfl) | ((with_reducible refine pk_t ?_); rfl) | ((with_reducible refine pf_t ?_); rfl) | ((with_reducible refine lk_t ?_); rfl) | ((with_reducible refine okF_t ?_); kernel_rfl) | grind [gb, cmpV])
def cmpi_k : Con Tryz.prog := ⟨17, fun args => match args with | [.int .i64 x, .int .i64 t] => .ok (none) (.int .i64 (cmpV x t)) | _ => .no, by
  intro args p r h hp
  split at h
  · cases h; exact cmpi_a _ _
  · cases h⟩
theorem cmpk_f : FnOk Tryz.prog 16 Tryz.f16 := ⟨Tryz.func16, by kernel_rfl⟩
theorem cmpk_a (x y z u t : Int) : ACalls Tryz.prog 16 [.agg [.int .i64 x, .int .i64 y, .int .i64 z, .int .i64 u], .int .i64 t] (.int .i64 (cmpV x t)) := by
  refine acalls_of (inl := hasI (P := Tryz.prog) [] []) (base [cmpi_k] [] []) 0 cmpk_f (And.intro (by kernel_rfl) ?_)
  repeat' (first | refine And.intro ?_ ?_ | (with_reducible exact ff_elim) | (with_reducible exact tf_elim) | intro _ | (with_reducible rfl) | ((with_reducible refine lk_t ?_); exact rfl) | ((with_reducible refine pf_t ?_); exact rfl) | refine tell ?_ | exact True.intro | (refine IsT.of ?_; kernel_rfl))
  all_goals ((try refine Tell.mk ?_); first | with_reducible rfl | ((show (_ : Int) ≤ _); decide) | ((show (_ : Int) < _); decide) | (with_reducible refine gb_t ?_; with_reducible assumption) | with_reducible assumption | (with_reducible refine gb_f ?_; with_reducible assumption) | (simp only [gb, *, cond_true, cond_false]; done) | ((with_reducible refine ks_t ?_); rfl) | ((with_reducible refine pk_t ?_); rfl) | ((with_reducible refine pf_t ?_); rfl) | ((with_reducible refine lk_t ?_); rfl) | ((with_reducible refine okF_t ?_); kernel_rfl) | grind [gb])
def cmpk_k : Con Tryz.prog := ⟨16, fun args => match args with | [.agg [.int .i64 x, .int .i64 y, .int .i64 z, .int .i64 u], .int .i64 t] => .ok (none) (.int .i64 (cmpV x t)) | _ => .no, by
  intro args p r h hp
  split at h
  · cases h; exact cmpk_a _ _ _ _ _
  · cases h⟩
/-- How many of the first n keys lie ahead of a time. -/
def lowN (F : Nat → Int) (t : Int) : Nat → Nat
  | 0 => 0
  | n + 1 => lowN F t n + if F (4 * n) < t then 1 else 0
theorem lowN_eq {F : Nat → Int} {t : Int} : ∀ {n i : Nat}, i ≤ n → (∀ k, k < i → F (4 * k) < t) → (∀ k, i ≤ k → k < n → t ≤ F (4 * k)) → lowN F t n = i
  | 0, i, h, _, _ => by unfold lowN; omega
  | n + 1, i, h, h1, h2 => by
    unfold lowN
    by_cases e : i = n + 1
    · subst e
      rw [lowN_eq (i := n) (Nat.le_refl _) (fun k hk => h1 k (by omega)) (fun k _ _ => by omega), if_pos (h1 n (by omega))]
    · rw [lowN_eq (i := i) (by omega) h1 (fun k hk hk' => h2 k hk (by omega)), if_neg (by have := h2 n (by omega) (by omega); omega)]; rfl
attribute [irreducible] lowN
structure Rise (n : Nat) (F : Nat → Int) : Prop where
  up : ∀ i, i + 1 < n → F (4 * i) < F (4 * (i + 1))
theorem Rise.lt {n : Nat} {F : Nat → Int} (h : Rise n F) : ∀ {d i : Nat}, i + d + 1 < n → F (4 * i) < F (4 * (i + d + 1))
  | 0, i, hd => h.up i hd
  | d + 1, i, hd => Int.lt_trans (h.lt (d := d) (i := i) (by omega)) (h.up (i + d + 1) hd)
theorem Rise.le {n : Nat} {F : Nat → Int} (h : Rise n F) {i j : Nat} (hij : i ≤ j) (hj : j < n) : F (4 * i) ≤ F (4 * j) := by
  by_cases e : i = j
  · subst e; exact Int.le_refl _
  · have := h.lt (d := j - i - 1) (i := i) (by omega)
    rw [show i + (j - i - 1) + 1 = j by omega] at this; omega
structure Mid (n : Nat) (F : Nat → Int) (t : Int) (i j : Nat) : Prop where
  ij : i ≤ j
  jn : j ≤ n
  lo : ∀ k, k < i → F (4 * k) < t
  hi : ∀ k, j ≤ k → k < n → t ≤ F (4 * k)
@[irreducible] def midS (F : Nat → Int) (t : Int) (i j : Nat) : Nat × Nat := if F (4 * ((i + j) / 2)) < t then ((i + j) / 2 + 1, j) else (i, (i + j) / 2)
theorem midS_t {F : Nat → Int} {t : Int} {i j : Nat} (h : F (4 * ((i + j) / 2)) < t) : midS F t i j = ((i + j) / 2 + 1, j) := by unfold midS; rw [if_pos h]
theorem midS_f {F : Nat → Int} {t : Int} {i j : Nat} (h : ¬ F (4 * ((i + j) / 2)) < t) : midS F t i j = (i, (i + j) / 2) := by unfold midS; rw [if_neg h]
theorem half {i j : Nat} (h : i + j ≤ 2000) : IntKind.i64.wrap ((IntKind.u64.wrap (IntKind.i64.wrap ((i : Int) + (j : Int)))).fdiv (2 ^ min (Int.toNat 1) IntKind.u64.bits)) = (((i + j) / 2 : Nat) : Int) := by
  have e1 : IntKind.i64.wrap ((i : Int) + (j : Int)) = (i : Int) + j := wrapI (by omega) (by omega)
  have e2 : IntKind.u64.wrap ((i : Int) + (j : Int)) = (i : Int) + j := by
    simp only [IntKind.wrap, IntKind.signed, IntKind.bits]; simp; omega
  have e3 : (2 : Int) ^ min (Int.toNat 1) IntKind.u64.bits = 2 := by decide
  rw [e1, e2, e3, show ((i : Int) + j).fdiv 2 = (((i + j) / 2 : Nat) : Int) from by rw [Int.fdiv_eq_ediv_of_nonneg _ (by decide)]; omega]
  exact wrapI (by omega) (by omega)
theorem cmpV_lt {x t : Int} : (cmpV x t < 0 ↔ x < t) ∧ (0 ≤ cmpV x t ↔ t ≤ x) ∧ (cmpV x t = 0 ↔ x = t) := by
  unfold cmpV
  split
  · omega
  · split <;> omega
theorem cmpV_beq (x t : Int) : (cmpV x t == 0) = decide (x = t) := by
  have := (@cmpV_lt x t).2.2
  by_cases h : x = t
  · rw [decide_eq_true h, beq_iff_eq, this]; exact h
  · rw [decide_eq_false h, beq_eq_false_iff_ne, ne_eq, this]; exact h
theorem mid_end {n : Nat} {F : Nat → Int} {t : Int} {i j : Nat} (h : Mid n F t i j) (hij : j ≤ i) : lowN F t n = i :=
  lowN_eq (Nat.le_trans h.ij h.jn) h.lo fun k hk hk' => h.hi k (by omega) hk'
theorem mid_next {n : Nat} {F : Nat → Int} {t : Int} {i j : Nat} (hr : Rise n F) (h : Mid n F t i j) (hij : i < j) : Mid n F t (midS F t i j).1 (midS F t i j).2 ∧ (midS F t i j).2 - (midS F t i j).1 < j - i := by
  obtain ⟨h1, h2, h3, h4⟩ := h
  by_cases g : F (4 * ((i + j) / 2)) < t
  · rw [midS_t g]
    refine ⟨⟨by dsimp only; omega, h2, fun k hk => ?_, h4⟩, by dsimp only; omega⟩
    have := hr.le (i := k) (j := (i + j) / 2) (by dsimp only at hk; omega) (by omega)
    omega
  · rw [midS_f g]
    refine ⟨⟨by dsimp only; omega, by dsimp only; omega, h3, fun k hk hk' => ?_⟩, by dsimp only; omega⟩
    have := hr.le (i := (i + j) / 2) (j := k) hk hk'
    omega
theorem bsearch_f : FnOk Tryz.prog 15 Tryz.f15 := ⟨Tryz.func15, by kernel_rfl⟩
theorem bsearch_a (n : Nat) (F : Nat → Int) (t : Int) (hpre : n ≤ 1000 ∧ Rise n F) : ACalls Tryz.prog 15 [ints4 .i64 n F, .int .i64 t, .fn 16 []] (.tup [.int .i64 (lowN F t n : Nat), .bool (decide (lowN F t n < n) && decide (F (4 * lowN F t n) = t))]) := by
  refine acalls_of (inl := hasI (P := Tryz.prog) [] []) (base [cmpk_k] [] []) 0 bsearch_f (And.intro (by kernel_rfl) ?_)
  repeat' (first | refine And.intro ?_ ?_ | (with_reducible exact ff_elim) | (with_reducible exact tf_elim) | refine num_elim ?_ | intro _ | (with_reducible rfl) | ((with_reducible refine lk_t ?_); exact rfl) | ((with_reducible refine pf_t ?_); exact rfl) | refine tell ?_ | exact True.intro | (refine IsT.of ?_; kernel_rfl))
  all_goals (try (refine loop_keep [0, 1, 2, 8] [] ?_; refine LoopI.mk ({p : Nat × Nat // Mid n F t p.1 p.2}) (fun p => [(9, .int .i64 p.1.1), (10, .int .i64 p.1.2)]) (fun _ => []) (fun p => p.1.2 - p.1.1) (⟨(0, n), Nat.zero_le _, Nat.le_refl _, fun k hk => (by omega), fun k hk hk' => (by omega)⟩) (wk_mk [] ?_) (fun ⟨⟨i, j⟩, hm⟩ => ?_)))
  repeat' (first | refine And.intro ?_ ?_ | (with_reducible exact ff_elim) | (with_reducible exact tf_elim) | refine stp_mk [] (⟨midS F t i j, ?_⟩) ?_ ?_ | refine num_elim ?_ | intro _ | (with_reducible rfl) | ((with_reducible refine lk_t ?_); exact rfl) | ((with_reducible refine pf_t ?_); exact rfl) | refine tell ?_ | exact True.intro | (refine IsT.of ?_; kernel_rfl))
  all_goals (try refine Tell.mk ?_)
  all_goals first | with_reducible rfl | with_reducible exact isI_mk | with_reducible assumption | (with_reducible refine gb_t ?_; with_reducible assumption) | (with_reducible refine gb_f ?_; with_reducible assumption) | ((with_reducible refine lk_t ?_); rfl) | ((with_reducible refine okF_t ?_); kernel_rfl) | ((with_reducible refine ks_t ?_); rfl) | ((with_reducible refine pk_t ?_); rfl) | ((with_reducible refine pf_t ?_); rfl) | skip
  all_goals (try dsimp only at *)
  all_goals (try simp only [decide_eq_true_eq, decide_eq_false_iff_not, Bool.or_eq_true, Bool.or_eq_false_iff, Bool.and_eq_true, Bool.and_eq_false_iff, Bool.not_eq_true', Bool.not_eq_false', bne_iff_ne, ne_eq, beq_iff_eq, bne_eq_false_iff_eq, beq_eq_false_iff_ne, Int.not_lt, Int.not_le, gt_iff_lt, ge_iff_le] at *)
  all_goals (try simp only [mulN1, Nat.add_zero, Nat.zero_add, Nat.mul_one, Int.toNat_natCast, avInt_int, intF_mk] at *)
  all_goals first | with_reducible rfl | with_reducible exact nums_N | omega | ((with_reducible refine by_le 1 rfl ?_); omega) | ((with_reducible refine by_le 8 rfl ?_); omega) | (rw [wrapI (by omega) (by omega)] <;> omega) | skip
  all_goals obtain ⟨hn, hr⟩ := hpre
  all_goals (have hij := hm.ij; have hjn := hm.jn; try dsimp only at hij hjn)
  all_goals (try simp only [half (i := i) (j := j) (by omega), Int.toNat_natCast, cmpV_lt.1, cmpV_lt.2.1, cmpV_lt.2.2, m4] at *)
  all_goals first | omega | (refine le_by (c := 4) rfl ?_; decide) | exact of_gbt (by assumption) | exact (mid_next hr hm (by omega)).1 | exact (mid_next hr hm (by omega)).2 | (rw [midS_t (by assumption)] <;> first | rfl | (rw [wrapI (by omega) (by omega)]; omega)) | (rw [midS_f (by omega)]) | (rw [mid_end hm (by omega)]; done) | (rw [mid_end hm (by omega), cmpV_beq]; first | rfl | (congr 1; exact decide_eq_decide.2 (by omega)))
def bsearch_r (n : Nat) (F : Nat → Int) (t : Int) : AV := .tup [.int .i64 (lowN F t n : Nat), .bool (decide (lowN F t n < n) && decide (F (4 * lowN F t n) = t))]
def bsearch_p (n : Nat) (F : Nat → Int) (t : Int) : Prop := n ≤ 1000 ∧ Rise n F
def bsearch_k : Con Tryz.prog := ⟨15, fun args => match args with | [.sl n 4 g_F, .int .i64 t, .fn 16 []] => .ok (some (IsI .i64 g_F ∧ bsearch_p n (intF g_F) t)) (bsearch_r n (intF g_F) t) | _ => .no, by
  intro args p r h hp
  split at h
  · cases h; obtain ⟨h_F, hp⟩ := hp; have e_F := h_F.eq; rw [e_F]; exact bsearch_a _ _ _ hp
  · cases h⟩
theorem keysF_ok {F : Nat → Int} : ∀ {m i : Nat}, keysF F m i = 0 → ∀ k, i ≤ k → k < i + m → key1 F k = 0
  | 0, i, h, k, h1, h2 => by omega
  | m + 1, i, h, k, h1, h2 => by
    rw [keysF_s] at h
    split at h
    · by_cases e : k = i
      · subst e; assumption
      · exact keysF_ok h k (by omega) (by omega)
    · exact absurd h (by assumption)
theorem keysE_ok {n : Nat} {F : Nat → Int} (h : keysE n F = 0) : (1 ≤ n ∧ n ≤ 32) ∧ ∀ k, k < n → key1 F k = 0 := by
  unfold keysE at h
  split at h
  · cases h
  · exact ⟨by omega, fun k hk => keysF_ok h k (Nat.zero_le _) (by omega)⟩
theorem key1_ok {F : Nat → Int} {i : Nat} (h : key1 F i = 0) : (0 ≤ F (4 * i) ∧ F (4 * i) ≤ 1000000) ∧ (i = 0 ∨ F (4 * (i - 1)) < F (4 * i)) ∧
    (-1000000 ≤ F (4 * i + 1) ∧ F (4 * i + 1) ≤ 1000000) ∧ (-1000000 ≤ F (4 * i + 2) ∧ F (4 * i + 2) ≤ 1000000) ∧ (-1000000 ≤ F (4 * i + 3) ∧ F (4 * i + 3) ≤ 1000000) := by
  unfold key1 at h
  split at h
  · cases h
  · split at h
    · cases h
    · omega
theorem rise_of {n : Nat} {F : Nat → Int} (h : keysE n F = 0) : n ≤ 1000 ∧ Rise n F := by
  obtain ⟨h1, h2⟩ := keysE_ok h
  refine ⟨by omega, ⟨fun i hi => ?_⟩⟩
  have := key1_ok (h2 (i + 1) hi)
  rw [show i + 1 - 1 = i by omega] at this
  omega
@[irreducible] def atC (n : Nat) (F : Nat → Int) (t : Int) (c : Nat) : Int :=
  if lowN F t n < n ∧ F (4 * lowN F t n) = t then F (4 * lowN F t n + c) else if lowN F t n = 0 then F c else if lowN F t n = n then F (4 * (lowN F t n - 1) + c) else
  btw (F (4 * (lowN F t n - 1) + c)) (F (4 * lowN F t n + c)) (t - F (4 * (lowN F t n - 1))) (F (4 * lowN F t n) - F (4 * (lowN F t n - 1)))
@[irreducible] def atV (n : Nat) (F : Nat → Int) (t : Int) (c : Nat) : Int := if keysE n F = 0 then atC n F t c else 0
theorem lowN_s (F : Nat → Int) (t : Int) (n : Nat) : lowN F t (n + 1) = lowN F t n + if F (4 * n) < t then 1 else 0 := by with_unfolding_all rfl
theorem lowN_0 (F : Nat → Int) (t : Int) : lowN F t 0 = 0 := by with_unfolding_all rfl
theorem low_mid {n : Nat} {F : Nat → Int} {t : Int} (h : Rise n F) : ∀ {m : Nat}, m ≤ n → lowN F t m ≤ m ∧ (∀ k, k < lowN F t m → F (4 * k) < t) ∧ (∀ k, lowN F t m ≤ k → k < m → t ≤ F (4 * k))
  | 0, _ => by rw [lowN_0]; exact ⟨Nat.le_refl _, fun k hk => by omega, fun k _ hk => by omega⟩
  | m + 1, hm => by
    obtain ⟨h1, h2, h3⟩ := low_mid h (t := t) (m := m) (by omega)
    rw [lowN_s]
    by_cases g : F (4 * m) < t
    · rw [if_pos g]
      have e : lowN F t m = m := by
        by_cases e : lowN F t m = m
        · exact e
        · have a := h3 (lowN F t m) (Nat.le_refl _) (by omega)
          have b := h.le (i := lowN F t m) (j := m) h1 (by omega)
          omega
      rw [e] at h2 ⊢
      exact ⟨Nat.le_refl _, fun k hk => (by by_cases e : k = m; · subst e; exact g
                                            · exact h2 k (by omega)), fun k _ hk => by omega⟩
    · rw [if_neg g]
      exact ⟨by omega, h2, fun k hk hk' => (by by_cases e : k = m; · subst e; omega
                                               · exact h3 k (by omega) (by omega))⟩
theorem low_all {n : Nat} {F : Nat → Int} {t : Int} (h : keysE n F = 0) : (1 ≤ n ∧ n ≤ 32) ∧ lowN F t n ≤ n ∧ (∀ k, k < lowN F t n → F (4 * k) < t) ∧ (∀ k, lowN F t n ≤ k → k < n → t ≤ F (4 * k)) :=
  ⟨(keysE_ok h).1, low_mid (rise_of h).2 (Nat.le_refl _)⟩
theorem at_err {n : Nat} {F : Nat → Int} {t : Int} {c : Nat} (h : ¬ keysE n F = 0) : atV n F t c = 0 := by unfold atV; rw [if_neg h]
theorem at_found {n : Nat} {F : Nat → Int} {t : Int} {c : Nat} (h : keysE n F = 0) (h1 : lowN F t n < n ∧ F (4 * lowN F t n) = t) : atV n F t c = F (4 * lowN F t n + c) := by
  unfold atV atC; rw [if_pos h, if_pos h1]
theorem at_zero {n : Nat} {F : Nat → Int} {t : Int} {c : Nat} (h : keysE n F = 0) (h1 : ¬ lowN F t n < n ∨ ¬ F (4 * lowN F t n) = t) (h2 : (lowN F t n : Int) = 0) : atV n F t c = F c := by
  unfold atV atC; rw [if_pos h, if_neg (by omega), if_pos (by omega)]
theorem at_end {n : Nat} {F : Nat → Int} {t : Int} {c : Nat} (h : keysE n F = 0) (h1 : ¬ lowN F t n < n ∨ ¬ F (4 * lowN F t n) = t) (h2 : ¬ (lowN F t n : Int) = 0) (h3 : (lowN F t n : Int) = n) : atV n F t c = F (4 * (lowN F t n - 1) + c) := by
  unfold atV atC; rw [if_pos h, if_neg (by omega), if_neg (by omega), if_pos (by omega)]
theorem at_btw {n : Nat} {F : Nat → Int} {t : Int} {c : Nat} (h : keysE n F = 0) (h1 : ¬ lowN F t n < n ∨ ¬ F (4 * lowN F t n) = t) (h2 : ¬ (lowN F t n : Int) = 0) (h3 : ¬ (lowN F t n : Int) = n) :
    atV n F t c = btw (F (4 * (lowN F t n - 1) + c)) (F (4 * lowN F t n + c)) (t - F (4 * (lowN F t n - 1))) (F (4 * lowN F t n) - F (4 * (lowN F t n - 1))) := by
  unfold atV atC; rw [if_pos h, if_neg (by omega), if_neg (by omega), if_neg (by omega)]
theorem at_mid {n : Nat} {F : Nat → Int} {t : Int} (h : keysE n F = 0) (h1 : ¬ lowN F t n < n ∨ ¬ F (4 * lowN F t n) = t) (h2 : ¬ (lowN F t n : Int) = 0) (h3 : ¬ (lowN F t n : Int) = n) :
    key1 F (lowN F t n - 1) = 0 ∧ key1 F (lowN F t n) = 0 ∧ F (4 * (lowN F t n - 1)) < t ∧ t < F (4 * lowN F t n) := by
  obtain ⟨a1, a2, a3, a4⟩ := low_all (t := t) h
  have b := (keysE_ok h).2
  have c1 := a3 (lowN F t n - 1) (by omega)
  have c2 := a4 (lowN F t n) (Nat.le_refl _) (by omega)
  exact ⟨b _ (by omega), b _ (by omega), c1, by omega⟩
theorem tn0 : Int.toNat 0 = 0 := rfl
theorem z4 : 4 * 0 = 0 := rfl
theorem le_of0 {b M c : Nat} (h : b = c) (h' : c ≤ M) : b ≤ M := by rw [h]; exact h'
theorem reelAt_f : FnOk Tryz.prog 6 Tryz.f6 := ⟨Tryz.func6, by kernel_rfl⟩
theorem reelAt_a (n : Nat) (F : Nat → Int) (t : Int) (hpre : (∀ j, In64 (F j)) ∧ In64 t) : ACalls Tryz.prog 6 [ints4 .i64 n F, .int .i64 t] (.tup [.agg [.int .i64 (atV n F t 1), .int .i64 (atV n F t 2), .int .i64 (atV n F t 3)], .int .i64 (keysE n F)]) := by
  refine acalls_of (inl := hasI (P := Tryz.prog) [] []) (base [reelMay_k, bsearch_k, between_k] [] []) 0 reelAt_f (And.intro (by kernel_rfl) ?_)
  repeat' (first | refine And.intro ?_ ?_ | refine num_lit 0 (by decide) ?_ | refine num_lit 1 (by decide) ?_ | refine num_lit 2 (by decide) ?_ | refine num_lit 3 (by decide) ?_ | refine num_lit 4 (by decide) ?_ | refine num_lit 5 (by decide) ?_ | refine num_lit 6 (by decide) ?_ | refine num_lit 7 (by decide) ?_ | refine num_lit 8 (by decide) ?_ | refine num_elim ?_ | (with_reducible exact ff_elim) | (with_reducible exact tf_elim) | (intro h; exact absurd h (by decide)) | intro _ | (with_reducible rfl) | refine Or.inl ⟨4, ?_⟩ | refine tell ?_ | exact True.intro | (refine IsT.of ?_; kernel_rfl))
  all_goals (try refine Tell.mk ?_)
  all_goals first | with_reducible rfl | with_reducible exact isI_mk | with_reducible assumption | (with_reducible refine gb_t ?_; with_reducible assumption) | (with_reducible refine gb_f ?_; with_reducible assumption) | ((with_reducible refine lk_t ?_); rfl) | ((with_reducible refine okF_t ?_); kernel_rfl) | ((with_reducible refine ks_t ?_); rfl) | ((with_reducible refine pk_t ?_); rfl) | ((with_reducible refine pf_t ?_); rfl) | skip
  all_goals (try dsimp only at *)
  all_goals (try simp only [decide_eq_true_eq, decide_eq_false_iff_not, Bool.or_eq_true, Bool.or_eq_false_iff, Bool.and_eq_true, Bool.and_eq_false_iff, Bool.not_eq_true', Bool.not_eq_false', bne_iff_ne, ne_eq, beq_iff_eq, bne_eq_false_iff_eq, beq_eq_false_iff_ne, Int.not_lt, Int.not_le, gt_iff_lt, ge_iff_le] at *)
  all_goals (try simp only [mulN1, Nat.add_zero, Nat.zero_add, Nat.mul_one, Int.toNat_natCast, avInt_int, intF_mk] at *)
  all_goals first | with_reducible rfl | with_reducible exact nums_N | omega | ((with_reducible refine by_le 1 rfl ?_); omega) | ((with_reducible refine by_le 8 rfl ?_); omega) | (rw [wrapI (by omega) (by omega)] <;> omega) | skip
  all_goals first | exact hpre.1 _ | exact at_err (by assumption) | exact (rise_of (by assumption)).1 | exact (rise_of (by assumption)).2 | (refine le_by (c := 3) rfl ?_; decide) | (refine le_by (c := 4) rfl ?_; decide) | skip
  all_goals (have hE : keysE n F = 0 := by assumption)
  all_goals obtain ⟨a1, a2, a3, a4⟩ := low_all (t := t) hE
  all_goals (try simp only [m4, tn0, z4, Nat.zero_add] at *)
  all_goals first | omega | exact at_found hE (by assumption) | exact at_zero hE (by assumption) (by assumption) | skip
  all_goals (have h1 : ¬ lowN F t n < n ∨ ¬ F (4 * lowN F t n) = t := by assumption)
  all_goals (have h2 : ¬ (lowN F t n : Int) = 0 := by assumption)
  all_goals (have e1 : IntKind.i64.wrap ((lowN F t n : Int) - 1) = (lowN F t n : Int) - 1 := wrapI (by omega) (by omega))
  all_goals (have e2 : ((lowN F t n : Int) - 1).toNat = lowN F t n - 1 := by omega)
  all_goals (try rw [e1])
  all_goals (try rw [e2])
  all_goals first | omega | exact at_end hE h1 h2 (by assumption) | skip
  all_goals (have h3 : ¬ (lowN F t n : Int) = n := by assumption)
  all_goals obtain ⟨c1, c2, c3, c4⟩ := at_mid hE h1 h2 h3
  all_goals (have d1 := key1_ok c1; have d2 := key1_ok c2)
  all_goals (have e3 : IntKind.i64.wrap (t - F (4 * (lowN F t n - 1))) = t - F (4 * (lowN F t n - 1)) := wrapI (by omega) (by omega))
  all_goals (have e4 : IntKind.i64.wrap (F (4 * lowN F t n) - F (4 * (lowN F t n - 1))) = F (4 * lowN F t n) - F (4 * (lowN F t n - 1)) := wrapI (by omega) (by omega))
  all_goals (try simp only [e3, e4])
  all_goals first | omega | exact at_btw hE h1 h2 h3 | (trace_state; fail)
def reelAt_r (n : Nat) (F : Nat → Int) (t : Int) : AV := .tup [.agg [.int .i64 (atV n F t 1), .int .i64 (atV n F t 2), .int .i64 (atV n F t 3)], .int .i64 (keysE n F)]
def reelAt_p (n : Nat) (F : Nat → Int) (t : Int) : Prop := (∀ j, In64 (F j)) ∧ In64 t
def reelAt_k : Con Tryz.prog := ⟨6, fun args => match args with | [.sl n 4 g_F, .int .i64 t] => .ok (some (IsI .i64 g_F ∧ reelAt_p n (intF g_F) t)) (reelAt_r n (intF g_F) t) | _ => .no, by
  intro args p r h hp
  split at h
  · cases h; obtain ⟨h_F, hp⟩ := hp; have e_F := h_F.eq; rw [e_F]; exact reelAt_a _ _ _ hp
  · cases h⟩
end Go.Proofs.YtpmmabaecldmkaaGreat
/- Scenes: skins, lamps, and all of it. -/
namespace Go.Proofs.YtpmmabaecldmkaaGreat
open Go.RowKit Ev
set_option linter.unusedVariables false
set_option linter.unusedSimpArgs false
set_option maxRecDepth 20000
set_option maxHeartbeats 4000000

def lightB (a b c : Int) : Bool := decide (0 ≤ a ∧ a ≤ 65536 ∧ 0 ≤ b ∧ b ≤ 65536 ∧ 0 ≤ c ∧ c ≤ 65536)
theorem lightB_t {a b c : Int} (h : 0 ≤ a ∧ a ≤ 65536 ∧ 0 ≤ b ∧ b ≤ 65536 ∧ 0 ≤ c ∧ c ≤ 65536) : lightB a b c = true := decide_eq_true h
theorem lightB_f {a b c : Int} (h : ¬ (0 ≤ a ∧ a ≤ 65536 ∧ 0 ≤ b ∧ b ≤ 65536 ∧ 0 ≤ c ∧ c ≤ 65536)) : lightB a b c = false := decide_eq_false h
theorem light_f : FnOk Tryz.prog 41 Tryz.f41 := ⟨Tryz.func41, by kernel_rfl⟩
theorem light_a (a b c : Int) : ACalls Tryz.prog 41 [.agg [.int .i64 a, .int .i64 b, .int .i64 c]] (.bool (lightB a b c)) := by
  refine acalls_of (inl := hasI (P := Tryz.prog) [] []) (base [] [] []) 0 light_f (And.intro (by kernel_rfl) ?_)
  repeat' (first | refine And.intro ?_ ?_ | refine num_lit 0 (by decide) ?_ | refine num_lit 1 (by decide) ?_ | refine num_lit 2 (by decide) ?_ | refine num_lit 3 (by decide) ?_ | refine num_lit 4 (by decide) ?_ | refine num_lit 5 (by decide) ?_ | refine num_lit 6 (by decide) ?_ | refine num_lit 7 (by decide) ?_ | refine num_lit 8 (by decide) ?_ | refine num_elim ?_ | (with_reducible exact ff_elim) | (with_reducible exact tf_elim) | (intro h; exact absurd h (by decide)) | intro _ | (with_reducible rfl) | refine Or.inl ⟨4, ?_⟩ | refine tell ?_ | exact True.intro | (refine IsT.of ?_; kernel_rfl))
  all_goals (try refine Tell.mk ?_)
  all_goals first | with_reducible rfl | with_reducible exact isI_mk | with_reducible assumption | (with_reducible refine gb_t ?_; with_reducible assumption) | (with_reducible refine gb_f ?_; with_reducible assumption) | ((with_reducible refine lk_t ?_); rfl) | ((with_reducible refine okF_t ?_); kernel_rfl) | ((with_reducible refine ks_t ?_); rfl) | ((with_reducible refine pk_t ?_); rfl) | ((with_reducible refine pf_t ?_); rfl) | skip
  all_goals (try dsimp only at *)
  all_goals (try simp only [decide_eq_true_eq, decide_eq_false_iff_not, Bool.or_eq_true, Bool.or_eq_false_iff, Bool.and_eq_true, Bool.and_eq_false_iff, Bool.not_eq_true', Bool.not_eq_false', bne_iff_ne, ne_eq, beq_iff_eq, bne_eq_false_iff_eq, beq_eq_false_iff_ne, Int.not_lt, Int.not_le, gt_iff_lt, ge_iff_le] at *)
  all_goals (try simp only [mulN1, Nat.add_zero, Nat.zero_add, Nat.mul_one, Int.toNat_natCast, avInt_int] at *)
  all_goals first | with_reducible rfl | with_reducible exact nums_N | omega | ((with_reducible refine by_le 1 rfl ?_); omega) | ((with_reducible refine by_le 8 rfl ?_); omega) | (rw [wrapI (by omega) (by omega)] <;> omega) | skip
  all_goals first | exact (lightB_t (by omega)).symm | exact (lightB_f (by omega)).symm | exact lightB_t (by omega) | exact lightB_f (by omega)
def light_k : Con Tryz.prog := ⟨41, fun args => match args with | [.agg [.int .i64 a, .int .i64 b, .int .i64 c]] => .ok (none) (.bool (lightB a b c)) | _ => .no, by
  intro args p r h hp
  split at h
  · cases h; exact light_a _ _ _
  · cases h⟩
theorem lightR_f : FnOk Tryz.prog 55 Tryz.f55 := ⟨Tryz.func55, by kernel_rfl⟩
theorem lightR_a (a b c : Int) : ACalls Tryz.prog 55 [.agg [.int .i64 a, .int .i64 b, .int .i64 c]] (.bool (lightB a b c)) := by
  refine acalls_of (inl := hasI (P := Tryz.prog) [] []) (base [] [] []) 0 lightR_f (And.intro (by kernel_rfl) ?_)
  repeat' (first | refine And.intro ?_ ?_ | refine num_lit 0 (by decide) ?_ | refine num_lit 1 (by decide) ?_ | refine num_lit 2 (by decide) ?_ | refine num_lit 3 (by decide) ?_ | refine num_lit 4 (by decide) ?_ | refine num_lit 5 (by decide) ?_ | refine num_lit 6 (by decide) ?_ | refine num_lit 7 (by decide) ?_ | refine num_lit 8 (by decide) ?_ | refine num_elim ?_ | (with_reducible exact ff_elim) | (with_reducible exact tf_elim) | (intro h; exact absurd h (by decide)) | intro _ | (with_reducible rfl) | refine Or.inl ⟨4, ?_⟩ | refine tell ?_ | exact True.intro | (refine IsT.of ?_; kernel_rfl))
  all_goals (try refine Tell.mk ?_)
  all_goals first | with_reducible rfl | with_reducible exact isI_mk | with_reducible assumption | (with_reducible refine gb_t ?_; with_reducible assumption) | (with_reducible refine gb_f ?_; with_reducible assumption) | ((with_reducible refine lk_t ?_); rfl) | ((with_reducible refine okF_t ?_); kernel_rfl) | ((with_reducible refine ks_t ?_); rfl) | ((with_reducible refine pk_t ?_); rfl) | ((with_reducible refine pf_t ?_); rfl) | skip
  all_goals (try dsimp only at *)
  all_goals (try simp only [decide_eq_true_eq, decide_eq_false_iff_not, Bool.or_eq_true, Bool.or_eq_false_iff, Bool.and_eq_true, Bool.and_eq_false_iff, Bool.not_eq_true', Bool.not_eq_false', bne_iff_ne, ne_eq, beq_iff_eq, bne_eq_false_iff_eq, beq_eq_false_iff_ne, Int.not_lt, Int.not_le, gt_iff_lt, ge_iff_le] at *)
  all_goals (try simp only [mulN1, Nat.add_zero, Nat.zero_add, Nat.mul_one, Int.toNat_natCast, avInt_int] at *)
  all_goals first | with_reducible rfl | with_reducible exact nums_N | omega | ((with_reducible refine by_le 1 rfl ?_); omega) | ((with_reducible refine by_le 8 rfl ?_); omega) | (rw [wrapI (by omega) (by omega)] <;> omega) | skip
  all_goals (rw [Bool.eq_iff_iff]; unfold lightB; simp only [Bool.true_and, Bool.and_eq_true, decide_eq_true_eq]; omega)
def lightR_k : Con Tryz.prog := ⟨55, fun args => match args with | [.agg [.int .i64 a, .int .i64 b, .int .i64 c]] => .ok (none) (.bool (lightB a b c)) | _ => .no, by
  intro args p r h hp
  split at h
  · cases h; exact lightR_a _ _ _
  · cases h⟩
def skin3 (a b g : Int) : Prop := 0 ≤ a ∧ a ≤ 1000 ∧ 0 ≤ b ∧ b ≤ 1000 ∧ 0 ≤ g ∧ g ≤ 1000 ∧ a + b + g ≤ 1000
instance (a b g : Int) : Decidable (skin3 a b g) := by unfold skin3; infer_instance
def skinE (a b c d e f g h i n : Int) : Int := if skin3 a d g ∧ skin3 b e h ∧ skin3 c f i ∧ 100 ≤ n ∧ n ≤ 10000 then 0 else 6
theorem skin3_no {a b g : Int} (h : ¬ (0 ≤ a ∧ a ≤ 1000 ∧ 0 ≤ b ∧ b ≤ 1000 ∧ 0 ≤ g ∧ g ≤ 1000) ∨ 1000 < IntKind.i64.wrap (IntKind.i64.wrap (a + b) + g)) : ¬ skin3 a b g := by
  unfold skin3
  intro c
  rw [wrapI (x := a + b) (by omega) (by omega), wrapI (by omega) (by omega)] at h
  omega
theorem skin3_yes {a b g : Int} (h : 0 ≤ a ∧ a ≤ 1000 ∧ 0 ≤ b ∧ b ≤ 1000 ∧ 0 ≤ g ∧ g ≤ 1000) (h2 : IntKind.i64.wrap (IntKind.i64.wrap (a + b) + g) ≤ 1000) : skin3 a b g := by
  rw [wrapI (x := a + b) (by omega) (by omega), wrapI (by omega) (by omega)] at h2
  unfold skin3
  omega
theorem skinE_no {a b c d e f g h i n : Int} (hc : ¬ (skin3 a d g ∧ skin3 b e h ∧ skin3 c f i ∧ 100 ≤ n ∧ n ≤ 10000)) : skinE a b c d e f g h i n = 6 := if_neg hc
theorem skinMay_f : FnOk Tryz.prog 36 Tryz.f36 := ⟨Tryz.func36, by kernel_rfl⟩
theorem skinMay_a (a b c d e f g h i n : Int) : ACalls Tryz.prog 36 [.agg [.int .i64 a, .int .i64 b, .int .i64 c, .int .i64 d, .int .i64 e, .int .i64 f, .int .i64 g, .int .i64 h, .int .i64 i, .int .i64 n]] (.int .i64 (skinE a b c d e f g h i n)) := by
  refine acalls_of (inl := hasI (P := Tryz.prog) [] []) (base [] [] []) 0 skinMay_f (And.intro (by kernel_rfl) ?_)
  repeat' (first | refine And.intro ?_ ?_ | refine num_lit 0 (by decide) ?_ | refine num_lit 1 (by decide) ?_ | refine num_lit 2 (by decide) ?_ | refine num_lit 3 (by decide) ?_ | refine num_lit 4 (by decide) ?_ | refine num_lit 5 (by decide) ?_ | refine num_lit 6 (by decide) ?_ | refine num_lit 7 (by decide) ?_ | refine num_lit 8 (by decide) ?_ | refine num_elim ?_ | (with_reducible exact ff_elim) | (with_reducible exact tf_elim) | (intro h; exact absurd h (by decide)) | intro _ | (with_reducible rfl) | refine Or.inl ⟨4, ?_⟩ | refine tell ?_ | exact True.intro | (refine IsT.of ?_; kernel_rfl))
  all_goals (try refine Tell.mk ?_)
  all_goals first | with_reducible rfl | with_reducible exact isI_mk | with_reducible assumption | (with_reducible refine gb_t ?_; with_reducible assumption) | (with_reducible refine gb_f ?_; with_reducible assumption) | ((with_reducible refine lk_t ?_); rfl) | ((with_reducible refine okF_t ?_); kernel_rfl) | ((with_reducible refine ks_t ?_); rfl) | ((with_reducible refine pk_t ?_); rfl) | ((with_reducible refine pf_t ?_); rfl) | skip
  all_goals (try dsimp only at *)
  all_goals (try simp only [decide_eq_true_eq, decide_eq_false_iff_not, Bool.or_eq_true, Bool.or_eq_false_iff, Bool.and_eq_true, Bool.and_eq_false_iff, Bool.not_eq_true', Bool.not_eq_false', bne_iff_ne, ne_eq, beq_iff_eq, bne_eq_false_iff_eq, beq_eq_false_iff_ne, Int.not_lt, Int.not_le, gt_iff_lt, ge_iff_le] at *)
  all_goals (try simp only [mulN1, Nat.add_zero, Nat.zero_add, Nat.mul_one, Int.toNat_natCast, avInt_int] at *)
  all_goals first | with_reducible rfl | with_reducible exact nums_N | omega | ((with_reducible refine by_le 1 rfl ?_); omega) | ((with_reducible refine by_le 8 rfl ?_); omega) | (rw [wrapI (by omega) (by omega)] <;> omega) | skip
  all_goals first | exact if_pos ⟨skin3_yes (by omega) (by omega), skin3_yes (by omega) (by omega), skin3_yes (by omega) (by omega), (by omega), (by omega)⟩ | exact skinE_no (fun c => skin3_no (by omega) c.1) | exact skinE_no (fun c => skin3_no (by omega) c.2.1) | exact skinE_no (fun c => skin3_no (by omega) c.2.2.1) | exact skinE_no (fun c => (by have := c.2.2.2; omega))
def skinMay_k : Con Tryz.prog := ⟨36, fun args => match args with | [.agg [.int .i64 a, .int .i64 b, .int .i64 c, .int .i64 d, .int .i64 e, .int .i64 f, .int .i64 g, .int .i64 h, .int .i64 i, .int .i64 n]] => .ok (none) (.int .i64 (skinE a b c d e f g h i n)) | _ => .no, by
  intro args p r h hp
  split at h
  · cases h; exact skinMay_a _ _ _ _ _ _ _ _ _ _
  · cases h⟩
theorem skinMayR_f : FnOk Tryz.prog 50 Tryz.f50 := ⟨Tryz.func50, by kernel_rfl⟩
theorem skinMayR_a (a b c d e f g h i n : Int) : ACalls Tryz.prog 50 [.agg [.int .i64 a, .int .i64 b, .int .i64 c, .int .i64 d, .int .i64 e, .int .i64 f, .int .i64 g, .int .i64 h, .int .i64 i, .int .i64 n]] (.int .i64 (skinE a b c d e f g h i n)) := by
  refine acalls_of (inl := hasI (P := Tryz.prog) [] []) (base [] [] []) 0 skinMayR_f (And.intro (by kernel_rfl) ?_)
  repeat' (first | refine And.intro ?_ ?_ | refine num_lit 0 (by decide) ?_ | refine num_lit 1 (by decide) ?_ | refine num_lit 2 (by decide) ?_ | refine num_lit 3 (by decide) ?_ | refine num_lit 4 (by decide) ?_ | refine num_lit 5 (by decide) ?_ | refine num_lit 6 (by decide) ?_ | refine num_lit 7 (by decide) ?_ | refine num_lit 8 (by decide) ?_ | refine num_elim ?_ | (with_reducible exact ff_elim) | (with_reducible exact tf_elim) | (intro h; exact absurd h (by decide)) | intro _ | (with_reducible rfl) | refine Or.inl ⟨4, ?_⟩ | refine tell ?_ | exact True.intro | (refine IsT.of ?_; kernel_rfl))
  all_goals (try refine Tell.mk ?_)
  all_goals first | with_reducible rfl | with_reducible exact isI_mk | with_reducible assumption | (with_reducible refine gb_t ?_; with_reducible assumption) | (with_reducible refine gb_f ?_; with_reducible assumption) | ((with_reducible refine lk_t ?_); rfl) | ((with_reducible refine okF_t ?_); kernel_rfl) | ((with_reducible refine ks_t ?_); rfl) | ((with_reducible refine pk_t ?_); rfl) | ((with_reducible refine pf_t ?_); rfl) | skip
  all_goals (try dsimp only at *)
  all_goals (try simp only [decide_eq_true_eq, decide_eq_false_iff_not, Bool.or_eq_true, Bool.or_eq_false_iff, Bool.and_eq_true, Bool.and_eq_false_iff, Bool.not_eq_true', Bool.not_eq_false', bne_iff_ne, ne_eq, beq_iff_eq, bne_eq_false_iff_eq, beq_eq_false_iff_ne, Int.not_lt, Int.not_le, gt_iff_lt, ge_iff_le] at *)
  all_goals (try simp only [mulN1, Nat.add_zero, Nat.zero_add, Nat.mul_one, Int.toNat_natCast, avInt_int] at *)
  all_goals first | with_reducible rfl | with_reducible exact nums_N | omega | ((with_reducible refine by_le 1 rfl ?_); omega) | ((with_reducible refine by_le 8 rfl ?_); omega) | (rw [wrapI (by omega) (by omega)] <;> omega) | skip
  all_goals first | exact if_pos ⟨skin3_yes (by omega) (by omega), skin3_yes (by omega) (by omega), skin3_yes (by omega) (by omega), (by omega), (by omega)⟩ | exact skinE_no (fun c => skin3_no (by omega) c.1) | exact skinE_no (fun c => skin3_no (by omega) c.2.1) | exact skinE_no (fun c => skin3_no (by omega) c.2.2.1) | exact skinE_no (fun c => (by have := c.2.2.2; omega))
def skinMayR_k : Con Tryz.prog := ⟨50, fun args => match args with | [.agg [.int .i64 a, .int .i64 b, .int .i64 c, .int .i64 d, .int .i64 e, .int .i64 f, .int .i64 g, .int .i64 h, .int .i64 i, .int .i64 n]] => .ok (none) (.int .i64 (skinE a b c d e f g h i n)) | _ => .no, by
  intro args p r h hp
  split at h
  · cases h; exact skinMayR_a _ _ _ _ _ _ _ _ _ _
  · cases h⟩
end Go.Proofs.YtpmmabaecldmkaaGreat
/- Keys: the document's answers. -/
namespace Go.Proofs.YtpmmabaecldmkaaGreat
open Go.RowKit Ev
set_option linter.unusedVariables false
set_option linter.unusedSimpArgs false
set_option maxRecDepth 20000
set_option maxHeartbeats 4000000

theorem at_sameK {n : Nat} {F : Nat → Int} {t : Int} {c i : Nat} (h : keysE n F = 0) (hi : i < n) (ht : F (4 * i) = t) : atV n F t c = F (4 * i + c) := by
  obtain ⟨a1, a2, a3, a4⟩ := low_all (t := t) h
  have hr := (rise_of h).2
  have e : lowN F t n = i := by
    rcases Nat.lt_trichotomy i (lowN F t n) with g | g | g
    · have := a3 i g; omega
    · exact g.symm
    · have b1 := a4 (lowN F t n) (Nat.le_refl _) (by omega)
      have b2 := hr.lt (i := lowN F t n) (d := i - lowN F t n - 1) (by omega)
      rw [show lowN F t n + (i - lowN F t n - 1) + 1 = i by omega] at b2
      omega
  rw [at_found h (by rw [e]; omega), e]
theorem at_low {n : Nat} {F : Nat → Int} {t : Int} {c : Nat} (h : keysE n F = 0) (ht : t ≤ F 0) : atV n F t c = F c := by
  obtain ⟨a1, a2, a3, a4⟩ := low_all (t := t) h
  have e : lowN F t n = 0 := by
    rcases Nat.eq_zero_or_pos (lowN F t n) with g | g
    · exact g
    · have := a3 0 g; simp only [Nat.mul_zero] at this; omega
  by_cases g : F 0 = t
  · have := at_sameK (c := c) (i := 0) h (by omega) (by simpa using g)
    simpa using this
  · exact at_zero h (.inr (by rw [e]; simpa using g)) (by rw [e]; rfl)
theorem at_part {n : Nat} {F : Nat → Int} {t : Int} {c i : Nat} (h : keysE n F = 0) (h1 : 1 ≤ i) (hn : i < n) (a : F (4 * (i - 1)) ≤ t) (b : t < F (4 * i)) :
    atV n F t c = F (4 * (i - 1) + c) + (2 * (F (4 * i + c) - F (4 * (i - 1) + c)) * (t - F (4 * (i - 1))) + F (4 * i) - F (4 * (i - 1))) / (2 * (F (4 * i) - F (4 * (i - 1)))) := by
  by_cases g : F (4 * (i - 1)) = t
  · rw [at_sameK h (by omega) g, g, Int.sub_self, Int.mul_zero, Int.zero_add, Int.ediv_eq_zero_of_lt (by omega) (by omega), Int.add_zero]
  · have hr := (rise_of h).2
    have e : lowN F t n = i := lowN_eq (by omega) (fun k hk => by have := hr.le (i := k) (j := i - 1) (by omega) (by omega); omega) fun k hk hk' => by have := hr.le (i := i) (j := k) hk hk'; omega
    rw [at_btw h (.inr (by rw [e]; omega)) (by rw [e]; omega) (by rw [e]; omega), e]
    unfold btw
    rw [Int.add_sub_assoc]
theorem at_last {n : Nat} {F : Nat → Int} {t : Int} {c : Nat} (h : keysE n F = 0) (a : F (4 * (n - 1)) ≤ t) : atV n F t c = F (4 * (n - 1) + c) := by
  have hn := (keysE_ok h).1
  by_cases g : F (4 * (n - 1)) = t
  · exact at_sameK h (by omega) g
  · have hr := (rise_of h).2
    have e : lowN F t n = n := lowN_eq (Nat.le_refl _) (fun k hk => by have := hr.le (i := k) (j := n - 1) (by omega) (by omega); omega) fun k hk hk' => by omega
    rw [at_end h (.inl (by rw [e]; omega)) (by rw [e]; omega) (by rw [e]), e]
theorem floor_q {a b : Int} (hb : 0 < b) : (a.tmod b < 0 ∧ a / b = a.tdiv b - 1 ∧ a % b = a.tmod b + b) ∨ (0 ≤ a.tmod b ∧ a / b = a.tdiv b ∧ a % b = a.tmod b) := by
  have e := Int.emod_add_mul_ediv a b
  have f := Int.tmod_add_mul_tdiv a b
  rcases Int.lt_or_le (a.tmod b) 0 with h | h
  · have q := floor_lt hb h
    refine .inl ⟨h, q, ?_⟩
    rw [q, Int.mul_sub, Int.mul_one] at e
    omega
  · have q := floor_ge hb h
    refine .inr ⟨h, q, ?_⟩
    rw [q] at e
    omega
theorem tnk0 : Int.toNat 0 = 0 := rfl
theorem tnk1 : Int.toNat 1 = 1 := rfl
theorem tnk2 : Int.toNat 2 = 2 := rfl
theorem part_n {n : Nat} {F : Nat → Int} {t : Int} {i c : Nat} (h : keysE n F = 0) (h1 : 1 ≤ i) (hi : i < n) (a : F (4 * (i - 1)) ≤ t) (b : t < F (4 * i)) (hc : c = 1 ∨ c = 2 ∨ c = 3) :
    IntKind.i64.wrap (IntKind.i64.wrap (IntKind.i64.wrap (IntKind.i64.wrap (2 * IntKind.i64.wrap (F (4 * i + c) - F (4 * (i - 1) + c))) * IntKind.i64.wrap (t - F (4 * (i - 1)))) + F (4 * i)) - F (4 * (i - 1))) = 2 * (F (4 * i + c) - F (4 * (i - 1) + c)) * (t - F (4 * (i - 1))) + F (4 * i) - F (4 * (i - 1)) ∧
    IntKind.i64.wrap (2 * IntKind.i64.wrap (F (4 * i) - F (4 * (i - 1)))) = 2 * (F (4 * i) - F (4 * (i - 1))) ∧ In64 (2 * (F (4 * i + c) - F (4 * (i - 1) + c)) * (t - F (4 * (i - 1))) + F (4 * i) - F (4 * (i - 1))) ∧ 0 < 2 * (F (4 * i) - F (4 * (i - 1))) ∧ In64 (2 * (F (4 * i) - F (4 * (i - 1)))) ∧
    IntKind.i64.wrap (F (4 * (i - 1) + c) + (2 * (F (4 * i + c) - F (4 * (i - 1) + c)) * (t - F (4 * (i - 1))) + F (4 * i) - F (4 * (i - 1))) / (2 * (F (4 * i) - F (4 * (i - 1))))) = atV n F t c := by
  obtain ⟨hn, hk⟩ := keysE_ok h
  obtain ⟨p1, _, p2, p3, p4⟩ := key1_ok (hk i hi)
  obtain ⟨q1, _, q2, q3, q4⟩ := key1_ok (hk (i - 1) (by omega))
  have e := at_part (c := c) h h1 hi a b
  have x1 : -1000000 ≤ F (4 * i + c) ∧ F (4 * i + c) ≤ 1000000 := by rcases hc with rfl | rfl | rfl <;> assumption
  have x2 : -1000000 ≤ F (4 * (i - 1) + c) ∧ F (4 * (i - 1) + c) ≤ 1000000 := by rcases hc with rfl | rfl | rfl <;> assumption
  generalize F (4 * i + c) = B at *
  generalize F (4 * (i - 1) + c) = A at *
  generalize F (4 * i) = T at *
  generalize F (4 * (i - 1)) = S at *
  have e1 : IntKind.i64.wrap (B - A) = B - A := wrapI (by omega) (by omega)
  have e2 : IntKind.i64.wrap (2 * (B - A)) = 2 * (B - A) := wrapI (by omega) (by omega)
  have e0 : IntKind.i64.wrap (t - S) = t - S := wrapI (by omega) (by omega)
  have m1 := mul_bd (x := 2 * (B - A)) (p := t - S) (A := 4000000) (B := 1000000) (by omega) (by omega) (by omega) (by omega) (by decide)
  have d1 := div_bd (a := 2 * (B - A) * (t - S) + T - S) (b := 2 * (T - S)) (M := 4000001000000) (by omega) (by omega) (by omega) (by decide)
  have e3 : IntKind.i64.wrap (2 * (B - A) * (t - S)) = 2 * (B - A) * (t - S) := wrapI (by omega) (by omega)
  have e4 : IntKind.i64.wrap (2 * (B - A) * (t - S) + T) = 2 * (B - A) * (t - S) + T := wrapI (by omega) (by omega)
  have e5 : IntKind.i64.wrap (2 * (B - A) * (t - S) + T - S) = 2 * (B - A) * (t - S) + T - S := wrapI (by omega) (by omega)
  have e6 : IntKind.i64.wrap (T - S) = T - S := wrapI (by omega) (by omega)
  have e7 : IntKind.i64.wrap (2 * (T - S)) = 2 * (T - S) := wrapI (by omega) (by omega)
  rw [e1, e2, e0, e3, e4, e5, e6, e7, e, in64_iff, in64_iff]
  exact ⟨rfl, rfl, by omega, by omega, by omega, wrapI (by omega) (by omega)⟩
theorem floorK_f : FnOk Tryz.prog 19 Tryz.f19 := ⟨Tryz.func19, by kernel_rfl⟩
theorem floorK_a (a n : Int) (hpre : In64 a ∧ 0 < n ∧ In64 n) : ACalls Tryz.prog 19 [.int .i64 a, .int .i64 n] (.tup [.int .i64 (a / n), .int .i64 (a % n)]) := by
  refine acalls_of (inl := hasI (P := Tryz.prog) [] []) (base [] [] []) 0 floorK_f (And.intro (by kernel_rfl) ?_)
  repeat' (first | refine And.intro ?_ ?_ | (with_reducible exact ff_elim) | (with_reducible exact tf_elim) | refine num_elim ?_ | intro _ | (with_reducible rfl) | ((with_reducible refine lk_t ?_); exact rfl) | ((with_reducible refine pf_t ?_); exact rfl) | refine tell ?_ | exact True.intro | (refine IsT.of ?_; kernel_rfl))
  all_goals (try refine Tell.mk ?_)
  all_goals first | with_reducible rfl | with_reducible exact isI_mk | with_reducible assumption | (with_reducible refine gb_t ?_; with_reducible assumption) | (with_reducible refine gb_f ?_; with_reducible assumption) | ((with_reducible refine lk_t ?_); rfl) | ((with_reducible refine okF_t ?_); kernel_rfl) | ((with_reducible refine ks_t ?_); rfl) | ((with_reducible refine pk_t ?_); rfl) | ((with_reducible refine pf_t ?_); rfl) | skip
  all_goals (try dsimp only at *)
  all_goals (try simp only [decide_eq_true_eq, decide_eq_false_iff_not, Bool.or_eq_true, Bool.or_eq_false_iff, Bool.and_eq_true, Bool.and_eq_false_iff, Bool.not_eq_true', Bool.not_eq_false', bne_iff_ne, ne_eq, beq_iff_eq, bne_eq_false_iff_eq, beq_eq_false_iff_ne, Int.not_lt, Int.not_le, gt_iff_lt, ge_iff_le] at *)
  all_goals (try simp only [mulN1, Nat.add_zero, Nat.zero_add, Nat.mul_one, Int.toNat_natCast, avInt_int] at *)
  all_goals first | with_reducible rfl | with_reducible exact nums_N | omega | ((with_reducible refine by_le 1 rfl ?_); omega) | ((with_reducible refine by_le 8 rfl ?_); omega) | (rw [wrapI (by omega) (by omega)] <;> omega) | skip
  all_goals obtain ⟨ha, hb, hb'⟩ := hpre
  all_goals (have h1 := tdiv_bd hb ha; have h2 := div_bd hb (M := 9223372036854775808) (by have := ha.1; omega) (by have := ha.2; omega) (by decide); rw [in64_iff] at h1 hb')
  all_goals (have h3 := Int.lt_tmod_of_pos a hb; have h4 := Int.tmod_lt_of_pos a hb)
  all_goals (try rw [show IntKind.i64.wrap (a.tmod n) = a.tmod n from wrapI (by omega) (by omega)] at *)
  all_goals (rcases floor_q (a := a) hb with ⟨g, q1, q2⟩ | ⟨g, q1, q2⟩)
  all_goals first | omega | (rw [q1, wrapI h1.1 h1.2, wrapI (by omega) (by omega)]; done) | (rw [q1, wrapI h1.1 h1.2]; done) | (rw [q2, wrapI (by omega) (by omega)]) | rw [q2]
def floorK_k : Con Tryz.prog := ⟨19, fun args => match args with | [.int .i64 a, .int .i64 n] => .ok (some (In64 a ∧ 0 < n ∧ In64 n)) (.tup [.int .i64 (a / n), .int .i64 (a % n)]) | _ => .no, by
  intro args p r h hp
  split at h
  · cases h; exact floorK_a _ _ hp
  · cases h⟩
theorem keysMayR_f : FnOk Tryz.prog 9 Tryz.f9 := ⟨Tryz.func9, by kernel_rfl⟩
theorem keysMayR_a (n : Nat) (F : Nat → Int) (hpre : ∀ j, In64 (F j)) : ACalls Tryz.prog 9 [ints4 .i64 n F] (.int .i64 (keysE n F)) := by
  refine acalls_of (inl := hasI (P := Tryz.prog) [] []) (base [] [] []) 0 keysMayR_f (And.intro (by kernel_rfl) ?_)
  repeat' (first | refine And.intro ?_ ?_ | (with_reducible exact ff_elim) | (with_reducible exact tf_elim) | refine num_elim ?_ | intro _ | (with_reducible rfl) | ((with_reducible refine lk_t ?_); exact rfl) | ((with_reducible refine pf_t ?_); exact rfl) | refine tell ?_ | exact True.intro | (refine IsT.of ?_; kernel_rfl))
  all_goals (try (refine loop_keep [0] [] ?_; refine LoopI.mk ({i : Nat // i ≤ n ∧ keysF F n 0 = keysF F (n - i) i}) (fun i => [(3, .int .i64 i.1)]) (fun _ => []) (fun i => n - i.1) (⟨0, Nat.zero_le _, rfl⟩) (wk_mk [] ?_) (fun ⟨i, hi, hk⟩ => ?_)))
  repeat' (first | refine And.intro ?_ ?_ | (with_reducible exact ff_elim) | (with_reducible exact tf_elim) | refine stp_mk [] (⟨i + 1, ?_, ?_⟩) ?_ ?_ | refine Or.inl ⟨4, ?_⟩ | refine num_lit 0 (by decide) ?_ | refine num_lit 1 (by decide) ?_ | refine num_lit 2 (by decide) ?_ | refine num_lit 3 (by decide) ?_ | refine num_lit 4 (by decide) ?_ | refine num_lit 5 (by decide) ?_ | refine num_lit 6 (by decide) ?_ | refine num_lit 7 (by decide) ?_ | refine num_lit 8 (by decide) ?_ | (intro h; exact absurd h (by decide)) | refine num_elim ?_ | intro _ | (with_reducible rfl) | ((with_reducible refine lk_t ?_); exact rfl) | ((with_reducible refine pf_t ?_); exact rfl) | refine tell ?_ | exact True.intro | (refine IsT.of ?_; kernel_rfl))
  all_goals (try refine Tell.mk ?_)
  all_goals first | with_reducible rfl | with_reducible exact isI_mk | with_reducible assumption | (with_reducible refine gb_t ?_; with_reducible assumption) | (with_reducible refine gb_f ?_; with_reducible assumption) | ((with_reducible refine lk_t ?_); rfl) | ((with_reducible refine okF_t ?_); kernel_rfl) | ((with_reducible refine ks_t ?_); rfl) | ((with_reducible refine pk_t ?_); rfl) | ((with_reducible refine pf_t ?_); rfl) | skip
  all_goals (try dsimp only at *)
  all_goals (try simp only [decide_eq_true_eq, decide_eq_false_iff_not, Bool.or_eq_true, Bool.or_eq_false_iff, Bool.and_eq_true, Bool.and_eq_false_iff, Bool.not_eq_true', Bool.not_eq_false', bne_iff_ne, ne_eq, beq_iff_eq, bne_eq_false_iff_eq, beq_eq_false_iff_ne, Int.not_lt, Int.not_le, gt_iff_lt, ge_iff_le] at *)
  all_goals (try simp only [mulN1, Nat.add_zero, Nat.zero_add, Nat.mul_one, Int.toNat_natCast, avInt_int, intF_mk] at *)
  all_goals first | with_reducible rfl | with_reducible exact nums_N | omega | ((with_reducible refine by_le 1 rfl ?_); omega) | ((with_reducible refine by_le 8 rfl ?_); omega) | (rw [wrapI (by omega) (by omega)] <;> omega) | skip
  all_goals (have s1 : (Tab.cx.ti 3).size = 1 := rfl)
  all_goals (try simp only [m4, tnk0, tnk1, tnk2, mulN1, s1, Nat.add_zero, Nat.zero_add, Nat.reduceAdd, Nat.reduceSub] at *)
  all_goals first | decide | omega | skip
  all_goals (try simp only [m4] at *)
  all_goals first | exact keysE_5 (by assumption) | (refine le_by (c := 4) rfl ?_; decide) | ((have h0 : 0 < (i : Int) := by grind [gb]); rw [wrapI (by omega) (by omega)]; omega) | (refine ⟨by assumption, ?_⟩; (with_reducible refine gb_t ?_); rw [decide_eq_true_eq]; assumption) | exact keys_end (by assumption) (by assumption) (by assumption) | skip
  all_goals (have hn : 1 ≤ (n : Int) ∧ (n : Int) ≤ 32 := by assumption)
  all_goals first | exact keys_bad hn hk (by assumption) (key1_6 (prev' hi hn.2 (by assumption))) (by decide) | exact keys_bad hn hk (by assumption) (key1_1 (prev hi hn.2 (by assumption)) (by omega)) (by decide) | exact keys_step hk (by assumption) (key1_0 (prev hi hn.2 (by assumption)) (by omega)) | (trace_state; fail)
def keysMayR_r (n : Nat) (F : Nat → Int) : AV := .int .i64 (keysE n F)
def keysMayR_p (n : Nat) (F : Nat → Int) : Prop := ∀ j, In64 (F j)
def keysMayR_k : Con Tryz.prog := ⟨9, fun args => match args with | [.sl n 4 g_F] => .ok (some (IsI .i64 g_F ∧ keysMayR_p n (intF g_F))) (keysMayR_r n (intF g_F)) | _ => .no, by
  intro args p r h hp
  split at h
  · cases h; obtain ⟨h_F, hp⟩ := hp; have e_F := h_F.eq; rw [e_F]; exact keysMayR_a _ _ hp
  · cases h⟩
theorem keysAtR_f : FnOk Tryz.prog 7 Tryz.f7 := ⟨Tryz.func7, by kernel_rfl⟩
theorem keysAtR_a (n : Nat) (F : Nat → Int) (t : Int) (hpre : (∀ j, In64 (F j)) ∧ In64 t) : ACalls Tryz.prog 7 [ints4 .i64 n F, .int .i64 t] (.tup [.agg [.int .i64 (atV n F t 1), .int .i64 (atV n F t 2), .int .i64 (atV n F t 3)], .int .i64 (keysE n F)]) := by
  refine acalls_of (inl := hasI (P := Tryz.prog) [] []) (base [keysMayR_k, floorK_k] [] []) 0 keysAtR_f (And.intro (by kernel_rfl) ?_)
  repeat' (first | refine And.intro ?_ ?_ | (with_reducible exact ff_elim) | (with_reducible exact tf_elim) | refine num_elim ?_ | intro _ | (with_reducible rfl) | ((with_reducible refine lk_t ?_); exact rfl) | ((with_reducible refine pf_t ?_); exact rfl) | refine tell ?_ | exact True.intro | (refine IsT.of ?_; kernel_rfl))
  all_goals (try (refine loop_keep [0, 1, 4] [0] ?_; refine LoopI.mk ({i : Nat // 1 ≤ i ∧ i ≤ n ∧ F (4 * (i - 1)) ≤ t}) (fun i => [(7, .int .i64 i.1)]) (fun _ => []) (fun i => n - i.1) (⟨1, ?_, ?_, ?_⟩) (wk_mk [some 0] ?_) (fun ⟨i, h1, hi, hk⟩ => ?_)))
  repeat' (first | refine And.intro ?_ ?_ | (with_reducible exact ff_elim) | (with_reducible exact tf_elim) | refine stp_mk [some 0] (⟨i + 1, ?_, ?_, ?_⟩) ?_ ?_ | refine Or.inl ⟨4, ?_⟩ | refine num_lit 0 (by decide) ?_ | refine num_lit 1 (by decide) ?_ | refine num_lit 2 (by decide) ?_ | refine num_lit 3 (by decide) ?_ | refine num_lit 4 (by decide) ?_ | refine num_lit 5 (by decide) ?_ | refine num_lit 6 (by decide) ?_ | refine num_lit 7 (by decide) ?_ | refine num_lit 8 (by decide) ?_ | (intro h; exact absurd h (by decide)) | refine num_elim ?_ | intro _ | (with_reducible rfl) | ((with_reducible refine lk_t ?_); exact rfl) | ((with_reducible refine pf_t ?_); exact rfl) | refine tell ?_ | exact True.intro | (refine IsT.of ?_; kernel_rfl))
  all_goals (try refine Tell.mk ?_)
  all_goals first | with_reducible rfl | with_reducible exact isI_mk | with_reducible assumption | (with_reducible refine gb_t ?_; with_reducible assumption) | (with_reducible refine gb_f ?_; with_reducible assumption) | ((with_reducible refine lk_t ?_); rfl) | ((with_reducible refine okF_t ?_); kernel_rfl) | ((with_reducible refine ks_t ?_); rfl) | ((with_reducible refine pk_t ?_); rfl) | ((with_reducible refine pf_t ?_); rfl) | skip
  all_goals (try dsimp only at *)
  all_goals (try simp only [decide_eq_true_eq, decide_eq_false_iff_not, Bool.or_eq_true, Bool.or_eq_false_iff, Bool.and_eq_true, Bool.and_eq_false_iff, Bool.not_eq_true', Bool.not_eq_false', bne_iff_ne, ne_eq, beq_iff_eq, bne_eq_false_iff_eq, beq_eq_false_iff_ne, Int.not_lt, Int.not_le, gt_iff_lt, ge_iff_le] at *)
  all_goals (try simp only [mulN1, Nat.add_zero, Nat.zero_add, Nat.mul_one, Int.toNat_natCast, avInt_int, intF_mk] at *)
  all_goals first | with_reducible rfl | with_reducible exact nums_N | omega | ((with_reducible refine by_le 1 rfl ?_); omega) | ((with_reducible refine by_le 8 rfl ?_); omega) | (rw [wrapI (by omega) (by omega)] <;> omega) | skip
  all_goals obtain ⟨hF, ht⟩ := hpre
  all_goals (have s1 : (Tab.cx.ti 3).size = 1 := rfl)
  all_goals (have s3 : (Tab.cx.ti 27).size = 3 := rfl)
  all_goals (have s4 : (Tab.cx.ti 52).size = 4 := rfl)
  all_goals (try simp only [m4, tnk0, tnk1, tnk2, mulN1, s1, s3, s4, Nat.add_zero, Nat.zero_add, Nat.reduceAdd, Nat.reduceSub] at *)
  all_goals first | exact hF _ | exact ht | decide | omega | (rw [wrapI (by omega) (by omega)]; omega) | exact at_err (by assumption) | skip
  all_goals (have hE : keysE n F = 0 := by assumption)
  all_goals (have hn := (keysE_ok hE).1)
  all_goals first | omega | (rw [wrapI (by omega) (by omega)]; omega) | (rw [show i + 1 - 1 = i by omega]; assumption) | (rw [at_low hE (by assumption)]; done) | (rw [show IntKind.i64.wrap ((n : Int) - 1) = ((n - 1 : Nat) : Int) from by rw [wrapI (by omega) (by omega)]; omega, Int.toNat_natCast]; exact at_last hE (by obtain rfl : n = i := (by omega); assumption)) | skip
  all_goals (have ti : (IntKind.i64.wrap ((i : Int) - 1)).toNat = i - 1 := by rw [wrapI (by omega) (by omega)]; omega)
  all_goals (try simp only [ti] at *)
  all_goals (have k1 := part_n (c := 1) hE h1 (by omega) hk (by assumption) (.inl rfl); have k2 := part_n (c := 2) hE h1 (by omega) hk (by assumption) (.inr (.inl rfl)); have k3 := part_n (c := 3) hE h1 (by omega) hk (by assumption) (.inr (.inr rfl)))
  all_goals first | (rw [k1.1]; exact k1.2.2.1) | (rw [k2.1]; exact k2.2.2.1) | (rw [k3.1]; exact k3.2.2.1) | (rw [k1.2.1]; first | exact k1.2.2.2.1 | exact k1.2.2.2.2.1) | (rw [k1.1, k1.2.1]; exact k1.2.2.2.2.2.symm) | (rw [k2.1, k2.2.1]; exact k2.2.2.2.2.2.symm) | (rw [k3.1, k3.2.1]; exact k3.2.2.2.2.2.symm) | trace_state
def keysAtR_r (n : Nat) (F : Nat → Int) (t : Int) : AV := .tup [.agg [.int .i64 (atV n F t 1), .int .i64 (atV n F t 2), .int .i64 (atV n F t 3)], .int .i64 (keysE n F)]
def keysAtR_p (n : Nat) (F : Nat → Int) (t : Int) : Prop := (∀ j, In64 (F j)) ∧ In64 t
def keysAtR_k : Con Tryz.prog := ⟨7, fun args => match args with | [.sl n 4 g_F, .int .i64 t] => .ok (some (IsI .i64 g_F ∧ keysAtR_p n (intF g_F) t)) (keysAtR_r n (intF g_F) t) | _ => .no, by
  intro args p r h hp
  split at h
  · cases h; obtain ⟨h_F, hp⟩ := hp; have e_F := h_F.eq; rw [e_F]; exact keysAtR_a _ _ _ hp
  · cases h⟩
end Go.Proofs.YtpmmabaecldmkaaGreat
/- Scenes: which ones may be. -/
namespace Go.Proofs.YtpmmabaecldmkaaGreat
open Go.RowKit Ev
set_option linter.unusedVariables false
set_option linter.unusedSimpArgs false
set_option maxRecDepth 20000
set_option maxHeartbeats 4000000

theorem view_sub {nm : Bool} {sz sz' o : Nat} {row : Nat → List AV} {i : Nat} {K : AV → Prop} (hs : Nat.ble (o + sz') sz = true) (hl : (row i).length = sz) (h : nameE nm (.agg (((row i).drop o).take sz')) K) :
    nameE nm (.agg (List.map (fun j => flatF sz row (mulN (i : Int).toNat sz + (o + j))) (List.range sz'))) K := by
  have e : (fun j => flatF sz row (mulN (i : Int).toNat sz + (o + j))) = fun j => flatF sz row (mulN (i : Int).toNat sz + o + j) := funext fun j => by rw [Nat.add_assoc]
  rw [e]
  exact view_drop hs hl h
structure Sol where
  n : Nat
  P : Nat → Prt
  s : Int
def Sol.row (x : Sol) : List AV := [.sl x.n 16 (partF x.P), .int .i64 x.s]
structure Fld where
  w : Int
  h : Int
  x : Nat
  y : Nat
  z : Nat
  d : Nat
  n : Nat
  H : Nat → Int
  s : Int
def Fld.row (f : Fld) : List AV := [.int .i64 f.w, .int .i64 f.h, .flt f.x, .flt f.y, .flt f.z, .flt f.d, .sl f.n 1 (fun j => .int .i64 (f.H j)), .int .i64 f.s]
def Fld.err (f : Fld) : Int := fieldE f.w f.h f.x f.y f.z f.d f.n f.H f.s
structure Skn where
  a : Int
  b : Int
  c : Int
  d : Int
  e : Int
  f : Int
  g : Int
  h : Int
  i : Int
  n : Int
def Skn.row (k : Skn) : List AV := [.int .i64 k.a, .int .i64 k.b, .int .i64 k.c, .int .i64 k.d, .int .i64 k.e, .int .i64 k.f, .int .i64 k.g, .int .i64 k.h, .int .i64 k.i, .int .i64 k.n]
def Skn.err (k : Skn) : Int := skinE k.a k.b k.c k.d k.e k.f k.g k.h k.i k.n
structure Lmp where
  x : Nat
  y : Nat
  z : Nat
  a : Int
  b : Int
  c : Int
def Lmp.row (l : Lmp) : List AV := [.flt l.x, .flt l.y, .flt l.z, .int .i64 l.a, .int .i64 l.b, .int .i64 l.c]
def Lmp.err (l : Lmp) : Int := if fineB l.x l.y l.z = false then 1 else if lightB l.a l.b l.c = false then 6 else 0
def Shp.row (p : Shp) : List AV := [.int .i64 p.k, .flt p.a, .flt p.b, .flt p.c, .flt p.d, .flt p.e, .flt p.f, .flt p.g, .flt p.h, .flt p.i, .flt p.r, .flt p.q, .int .i64 p.s]
/-- A scene's numbers. -/
structure Scn where
  n1 : Nat
  S : Nat → Shp
  n2 : Nat
  T : Nat → Sol
  n3 : Nat
  G : Nat → Fld
  n4 : Nat
  K : Nat → Skn
  n5 : Nat
  L : Nat → Lmp
  a : Int
  b : Int
  c : Int
  e0 : Nat
  e1 : Nat
  e2 : Nat
  e3 : Nat
  e4 : Nat
  e5 : Nat
  e6 : Nat
  e7 : Nat
  e8 : Nat
  e9 : Nat
def Scn.row (s : Scn) : List AV := [.sl s.n1 13 (flatF 13 fun i => (s.S i).row), .sl s.n2 2 (flatF 2 fun i => (s.T i).row), .sl s.n3 8 (flatF 8 fun i => (s.G i).row), .sl s.n4 10 (flatF 10 fun i => (s.K i).row), .sl s.n5 6 (flatF 6 fun i => (s.L i).row),
  .int .i64 s.a, .int .i64 s.b, .int .i64 s.c, .flt s.e0, .flt s.e1, .flt s.e2, .flt s.e3, .flt s.e4, .flt s.e5, .flt s.e6, .flt s.e7, .flt s.e8, .flt s.e9]
def named (e s : Int) (n : Nat) : Int := if ¬ e = 0 then e else if (n : Int) ≤ s then 9 else 0
def Scn.e1' (s : Scn) (i : Nat) : Int := named (s.S i).err (s.S i).s s.n4
def Scn.e2' (s : Scn) (i : Nat) : Int := named (solidE (s.T i).n (s.T i).P (s.T i).s) (s.T i).s s.n4
def Scn.e3' (s : Scn) (i : Nat) : Int := named (s.G i).err (s.G i).s s.n4
def Scn.e4' (s : Scn) (i : Nat) : Int := (s.K i).err
def Scn.e5' (s : Scn) (i : Nat) : Int := (s.L i).err
/-- The first error of two. -/
def orE (e f : Int) : Int := if e = 0 then f else e
def sceneE (s : Scn) : Int := if 64 < (s.n1 : Int) ∨ 8 < (s.n2 : Int) ∨ 2 < (s.n3 : Int) ∨ 16 < (s.n4 : Int) ∨ 4 < (s.n5 : Int) then 4 else
  orE (firstE s.e4' s.n4) (orE (firstE s.e1' s.n1) (orE (firstE s.e2' s.n2) (orE (firstE s.e3' s.n3) (orE (firstE s.e5' s.n5) (orE (if lightB s.a s.b s.c = true then 0 else 6) (eyeE s.e0 s.e1 s.e2 s.e3 s.e4 s.e5 s.e6 s.e7 s.e8 s.e9))))))
/-- A solid's numbers, out of cells. -/
def toI : AV → Int
  | .int _ n => n
  | _ => 0
def toF : AV → Nat
  | .flt x => x
  | _ => 0
def unPrt (g : Nat → AV) (i : Nat) : Prt := ⟨toI (g (i * 16 + 0)), toI (g (i * 16 + 1)), toI (g (i * 16 + 2)), ⟨toI (g (i * 16 + 3)), toF (g (i * 16 + 4)), toF (g (i * 16 + 5)), toF (g (i * 16 + 6)), toF (g (i * 16 + 7)), toF (g (i * 16 + 8)), toF (g (i * 16 + 9)), toF (g (i * 16 + 10)), toF (g (i * 16 + 11)), toF (g (i * 16 + 12)), toF (g (i * 16 + 13)), toF (g (i * 16 + 14)), toI (g (i * 16 + 15))⟩⟩
theorem un_part (P : Nat → Prt) : unPrt (partF P) = P := by
  funext i
  unfold unPrt
  simp only [part_at P i _ (show 0 < 16 by decide), part_at P i _ (show 1 < 16 by decide), part_at P i _ (show 2 < 16 by decide), part_at P i _ (show 3 < 16 by decide), part_at P i _ (show 4 < 16 by decide), part_at P i _ (show 5 < 16 by decide), part_at P i _ (show 6 < 16 by decide), part_at P i _ (show 7 < 16 by decide), part_at P i _ (show 8 < 16 by decide), part_at P i _ (show 9 < 16 by decide), part_at P i _ (show 10 < 16 by decide), part_at P i _ (show 11 < 16 by decide), part_at P i _ (show 12 < 16 by decide), part_at P i _ (show 13 < 16 by decide), part_at P i _ (show 14 < 16 by decide), part_at P i _ (show 15 < 16 by decide)]
  rfl
def solidMay_m : MCon Tryz.prog :=
  ⟨38, fun args own => match args with | [.agg [.sl n 16 g, .int .i64 s]] => .ok [] [.agg [.sl n 16 (partF (unPrt g)), .int .i64 s]] [] none (.int .i64 (solidE n (unPrt g) s)) [] | _ => .no, by
  intro args own ks cargs rows p r rows2 h hp
  split at h
  · cases h; exact solidMay_a _ _ _
  · cases h⟩
def solidMayR_m : MCon Tryz.prog :=
  ⟨52, fun args own => match args with | [.agg [.sl n 16 g, .int .i64 s]] => .ok [] [.agg [.sl n 16 (partF (unPrt g)), .int .i64 s]] [] none (.int .i64 (solidE n (unPrt g) s)) [] | _ => .no, by
  intro args own ks cargs rows p r rows2 h hp
  split at h
  · cases h; exact solidMayR_a _ _ _
  · cases h⟩
theorem orE_0 {e f : Int} (h : e = 0) : orE e f = f := if_pos h
theorem orE_n {e f : Int} (h : e ≠ 0) : orE e f = e := if_neg h
/-- The limits of a scene. -/
def Scn.lim (s : Scn) : Prop := (s.n1 : Int) ≤ 64 ∧ (s.n2 : Int) ≤ 8 ∧ (s.n3 : Int) ≤ 2 ∧ (s.n4 : Int) ≤ 16 ∧ (s.n5 : Int) ≤ 4
theorem scene_l {s : Scn} (h : s.lim) : sceneE s = orE (firstE s.e4' s.n4) (orE (firstE s.e1' s.n1) (orE (firstE s.e2' s.n2) (orE (firstE s.e3' s.n3) (orE (firstE s.e5' s.n5) (orE (if lightB s.a s.b s.c = true then 0 else 6) (eyeE s.e0 s.e1 s.e2 s.e3 s.e4 s.e5 s.e6 s.e7 s.e8 s.e9)))))) := by
  unfold Scn.lim at h
  exact if_neg (by omega)
theorem scene_0 {s : Scn} (h : 64 < (s.n1 : Int) ∨ 8 < (s.n2 : Int) ∨ 2 < (s.n3 : Int) ∨ 16 < (s.n4 : Int) ∨ 4 < (s.n5 : Int)) : sceneE s = 4 := if_pos h
theorem hit {f : Nat → Int} {i n : Nat} {e : Int} (h : firstE f i = 0) (hi : (i : Int) < n) (he : f i = e) (h0 : e ≠ 0) : firstE f n = e := by
  rw [firstE_hit h (by rw [he]; exact h0) (by omega), he]
theorem scene_4 {s : Scn} (l : s.lim) {i : Nat} {e : Int} (f : firstE s.e4' i = 0) (hi : (i : Int) < s.n4) (he : s.e4' i = e) (h0 : e ≠ 0) : sceneE s = e := by
  rw [scene_l l, hit f hi he h0, orE_n h0]
theorem scene_1 {s : Scn} (l : s.lim) (a : firstE s.e4' s.n4 = 0) {i : Nat} {e : Int} (f : firstE s.e1' i = 0) (hi : (i : Int) < s.n1) (he : s.e1' i = e) (h0 : e ≠ 0) : sceneE s = e := by
  rw [scene_l l, orE_0 a, hit f hi he h0, orE_n h0]
theorem scene_2 {s : Scn} (l : s.lim) (a : firstE s.e4' s.n4 = 0) (b : firstE s.e1' s.n1 = 0) {i : Nat} {e : Int} (f : firstE s.e2' i = 0) (hi : (i : Int) < s.n2) (he : s.e2' i = e) (h0 : e ≠ 0) : sceneE s = e := by
  rw [scene_l l, orE_0 a, orE_0 b, hit f hi he h0, orE_n h0]
theorem scene_3 {s : Scn} (l : s.lim) (a : firstE s.e4' s.n4 = 0) (b : firstE s.e1' s.n1 = 0) (c : firstE s.e2' s.n2 = 0) {i : Nat} {e : Int} (f : firstE s.e3' i = 0) (hi : (i : Int) < s.n3) (he : s.e3' i = e) (h0 : e ≠ 0) : sceneE s = e := by
  rw [scene_l l, orE_0 a, orE_0 b, orE_0 c, hit f hi he h0, orE_n h0]
theorem scene_5 {s : Scn} (l : s.lim) (a : firstE s.e4' s.n4 = 0) (b : firstE s.e1' s.n1 = 0) (c : firstE s.e2' s.n2 = 0) (d : firstE s.e3' s.n3 = 0) {i : Nat} {e : Int} (f : firstE s.e5' i = 0) (hi : (i : Int) < s.n5) (he : s.e5' i = e) (h0 : e ≠ 0) : sceneE s = e := by
  rw [scene_l l, orE_0 a, orE_0 b, orE_0 c, orE_0 d, hit f hi he h0, orE_n h0]
theorem scene_6 {s : Scn} (l : s.lim) (a : firstE s.e4' s.n4 = 0) (b : firstE s.e1' s.n1 = 0) (c : firstE s.e2' s.n2 = 0) (d : firstE s.e3' s.n3 = 0) (e : firstE s.e5' s.n5 = 0) (h : lightB s.a s.b s.c = false) : sceneE s = 6 := by
  rw [scene_l l, orE_0 a, orE_0 b, orE_0 c, orE_0 d, orE_0 e, h, if_neg (by decide), orE_n (by decide)]
theorem scene_7 {s : Scn} (l : s.lim) (a : firstE s.e4' s.n4 = 0) (b : firstE s.e1' s.n1 = 0) (c : firstE s.e2' s.n2 = 0) (d : firstE s.e3' s.n3 = 0) (e : firstE s.e5' s.n5 = 0) (h : lightB s.a s.b s.c = true) : sceneE s = eyeE s.e0 s.e1 s.e2 s.e3 s.e4 s.e5 s.e6 s.e7 s.e8 s.e9 := by
  rw [scene_l l, orE_0 a, orE_0 b, orE_0 c, orE_0 d, orE_0 e, h, if_pos rfl, orE_0 rfl]
theorem named_e {e s : Int} {n : Nat} {x : Int} (h : ¬ e = 0) (hx : e = x) : named e s n = x := by unfold named; rw [if_pos h, hx]
theorem named_9 {e s : Int} {n : Nat} (h : e = 0) (hs : (n : Int) ≤ s) : named e s n = 9 := by unfold named; rw [if_neg (fun c => c h), if_pos hs]
theorem named_0 {e s : Int} {n : Nat} (h : e = 0) (hs : s < (n : Int)) : named e s n = 0 := by unfold named; rw [if_neg (fun c => c h), if_neg (by omega)]
theorem atN {f : Nat → Int} {i n : Nat} (h : firstE f i = 0) (hi : i ≤ n) (hn : (n : Int) ≤ i) : firstE f n = 0 := by
  obtain rfl : i = n := by omega
  exact h
theorem lmp_1 {l : Lmp} (h : fineB l.x l.y l.z = false) : l.err = 1 := if_pos h
theorem lmp_6 {l : Lmp} (h : fineB l.x l.y l.z = true) (h2 : lightB l.a l.b l.c = false) : l.err = 6 := by unfold Lmp.err; rw [if_neg (by rw [h]; decide), if_pos h2]
theorem lmp_0 {l : Lmp} (h : fineB l.x l.y l.z = true) (h2 : lightB l.a l.b l.c = true) : l.err = 0 := by unfold Lmp.err; rw [if_neg (by rw [h]; decide), if_neg (by rw [h2]; decide)]
theorem sceneMay_f : FnOk Tryz.prog 20 Tryz.f20 := ⟨Tryz.func20, by kernel_rfl⟩
theorem sceneMay_a (s : Scn) : MCalls Tryz.prog 20 ([.agg s.row]) [] (.int .i64 (sceneE s)) [] := by
  refine mcallsF_of (inl := hasI (P := Tryz.prog) [] [solidMay_m]) (base [skinMay_k, shapeMay_k, fieldMay_k, fine_k, light_k, mayEye_k] [] [solidMay_m]) 0 sceneMay_f (And.intro (by kernel_rfl) ?_)
  repeat' (first | refine And.intro ?_ ?_ | (with_reducible exact ff_elim) | (with_reducible exact tf_elim) | refine' rho_mk [] ?_ | refine view_flat rfl rfl ?_ | refine num_elim ?_ | intro _ | (with_reducible rfl) | ((with_reducible refine lk_t ?_); exact rfl) | ((with_reducible refine pf_t ?_); exact rfl) | refine tell ?_ | exact True.intro | (refine IsT.of ?_; kernel_rfl))
  all_goals (try (refine loop_keep [1, 46, 47] [0] ?_; refine LoopI.mk ({i : Nat // i ≤ s.n4 ∧ firstE s.e4' i = 0}) (fun i => [(48, .int .i64 i.1)]) (fun i => []) (fun i => s.n4 - i.1) (⟨0, Nat.zero_le _, firstE_0 _⟩) (wk_mk [some 0] ?_) (fun ⟨i4, h4, f4⟩ => ?_)))
  repeat' (first | refine And.intro ?_ ?_ | (with_reducible exact ff_elim) | (with_reducible exact tf_elim) | refine stp_mk [some 0] (⟨i4 + 1, ?_, ?_⟩) ?_ ?_ | refine view_flat rfl rfl ?_ | refine' rho_mk [] ?_ | refine num_elim ?_ | intro _ | (with_reducible rfl) | ((with_reducible refine lk_t ?_); exact rfl) | ((with_reducible refine pf_t ?_); exact rfl) | refine tell ?_ | exact True.intro | (refine IsT.of ?_; kernel_rfl))
  all_goals (try (refine loop_keep [1, 59, 60] [0] ?_; refine LoopI.mk ({i : Nat // i ≤ s.n1 ∧ firstE s.e1' i = 0}) (fun i => [(61, .int .i64 i.1)]) (fun i => []) (fun i => s.n1 - i.1) (⟨0, Nat.zero_le _, firstE_0 _⟩) (wk_mk [some 0] ?_) (fun ⟨i1, h1, f1⟩ => ?_)))
  repeat' (first | refine And.intro ?_ ?_ | (with_reducible exact ff_elim) | (with_reducible exact tf_elim) | refine stp_mk [some 0] (⟨i1 + 1, ?_, ?_⟩) ?_ ?_ | refine view_flat rfl rfl ?_ | refine' rho_mk [] ?_ | refine num_elim ?_ | intro _ | (with_reducible rfl) | ((with_reducible refine lk_t ?_); exact rfl) | ((with_reducible refine pf_t ?_); exact rfl) | refine tell ?_ | exact True.intro | (refine IsT.of ?_; kernel_rfl))
  all_goals (try (refine loop_keep [1, 78, 79] [0] ?_; refine LoopI.mk ({i : Nat // i ≤ s.n2 ∧ firstE s.e2' i = 0}) (fun i => [(80, .int .i64 i.1)]) (fun i => []) (fun i => s.n2 - i.1) (⟨0, Nat.zero_le _, firstE_0 _⟩) (wk_mk [some 0] ?_) (fun ⟨i2, h2, f2⟩ => ?_)))
  repeat' (first | refine And.intro ?_ ?_ | (with_reducible exact ff_elim) | (with_reducible exact tf_elim) | refine stp_mk [some 0] (⟨i2 + 1, ?_, ?_⟩) ?_ ?_ | refine view_flat rfl rfl ?_ | refine' rho_mk [] ?_ | refine num_elim ?_ | intro _ | (with_reducible rfl) | ((with_reducible refine lk_t ?_); exact rfl) | ((with_reducible refine pf_t ?_); exact rfl) | refine tell ?_ | exact True.intro | (refine IsT.of ?_; kernel_rfl))
  all_goals (try (refine loop_keep [1, 97, 98] [0] ?_; refine LoopI.mk ({i : Nat // i ≤ s.n3 ∧ firstE s.e3' i = 0}) (fun i => [(99, .int .i64 i.1)]) (fun i => []) (fun i => s.n3 - i.1) (⟨0, Nat.zero_le _, firstE_0 _⟩) (wk_mk [some 0] ?_) (fun ⟨i3, h3, f3⟩ => ?_)))
  repeat' (first | refine And.intro ?_ ?_ | (with_reducible exact ff_elim) | (with_reducible exact tf_elim) | refine stp_mk [some 0] (⟨i3 + 1, ?_, ?_⟩) ?_ ?_ | refine view_flat rfl rfl ?_ | refine' rho_mk [] ?_ | refine num_elim ?_ | intro _ | (with_reducible rfl) | ((with_reducible refine lk_t ?_); exact rfl) | ((with_reducible refine pf_t ?_); exact rfl) | refine tell ?_ | exact True.intro | (refine IsT.of ?_; kernel_rfl))
  all_goals (try (refine loop_keep [1, 116, 117] [0] ?_; refine LoopI.mk ({i : Nat // i ≤ s.n5 ∧ firstE s.e5' i = 0}) (fun i => [(118, .int .i64 i.1)]) (fun i => []) (fun i => s.n5 - i.1) (⟨0, Nat.zero_le _, firstE_0 _⟩) (wk_mk [some 0] ?_) (fun ⟨i5, h5, f5⟩ => ?_)))
  repeat' (first | refine And.intro ?_ ?_ | (with_reducible exact ff_elim) | (with_reducible exact tf_elim) | refine stp_mk [some 0] (⟨i5 + 1, ?_, ?_⟩) ?_ ?_ | refine view_flat rfl rfl ?_ | refine' rho_mk [] ?_ | refine num_elim ?_ | intro _ | (with_reducible rfl) | ((with_reducible refine lk_t ?_); exact rfl) | ((with_reducible refine pf_t ?_); exact rfl) | refine tell ?_ | exact True.intro | (refine IsT.of ?_; kernel_rfl))
  all_goals (try refine Tell.mk ?_)
  all_goals first | with_reducible rfl | with_reducible exact isI_mk | with_reducible assumption | (with_reducible refine gb_t ?_; with_reducible assumption) | (with_reducible refine gb_f ?_; with_reducible assumption) | ((with_reducible refine lk_t ?_); rfl) | ((with_reducible refine okF_t ?_); kernel_rfl) | ((with_reducible refine ks_t ?_); rfl) | ((with_reducible refine pk_t ?_); rfl) | ((with_reducible refine pf_t ?_); rfl) | skip
  all_goals (try dsimp only at *)
  all_goals (try simp only [decide_eq_true_eq, decide_eq_false_iff_not, Bool.or_eq_true, Bool.or_eq_false_iff, Bool.and_eq_true, Bool.and_eq_false_iff, Bool.not_eq_true', Bool.not_eq_false', bne_iff_ne, ne_eq, beq_iff_eq, bne_eq_false_iff_eq, beq_eq_false_iff_ne, Int.not_lt, Int.not_le, gt_iff_lt, ge_iff_le] at *)
  all_goals (try simp only [mulN1, Nat.add_zero, Nat.zero_add, Nat.mul_one, Int.toNat_natCast, avInt_int, intF_mk] at *)
  all_goals first | with_reducible rfl | with_reducible exact nums_N | omega | ((with_reducible refine by_le 1 rfl ?_); omega) | ((with_reducible refine by_le 8 rfl ?_); omega) | (rw [wrapI (by omega) (by omega)] <;> omega) | skip
  all_goals (try simp only [un_part] at *)
  all_goals first | exact scene_0 (by omega) | ((show (_ : Nat) ≤ _); decide) | skip
  all_goals (have hl : s.lim := (by unfold Scn.lim; omega))
  all_goals first | exact scene_4 hl f4 (by assumption) rfl (by assumption) | exact firstE_s f4 (by assumption) | skip
  all_goals (have F4 := atN f4 h4 (by assumption))
  all_goals first | exact scene_1 hl F4 f1 (by assumption) (named_e (by assumption) rfl) (by assumption) | exact scene_1 hl F4 f1 (by assumption) (named_9 (by assumption) (by assumption)) (by decide) | exact firstE_s f1 (named_0 (by assumption) (by assumption)) | skip
  all_goals (have F1 := atN f1 h1 (by assumption))
  all_goals first | exact scene_2 hl F4 F1 f2 (by assumption) (named_e (by assumption) rfl) (by assumption) | exact scene_2 hl F4 F1 f2 (by assumption) (named_9 (by assumption) (by assumption)) (by decide) | exact firstE_s f2 (named_0 (by assumption) (by assumption)) | skip
  all_goals (have F2 := atN f2 h2 (by assumption))
  all_goals first | exact scene_3 hl F4 F1 F2 f3 (by assumption) (named_e (by assumption) rfl) (by assumption) | exact scene_3 hl F4 F1 F2 f3 (by assumption) (named_9 (by assumption) (by assumption)) (by decide) | exact firstE_s f3 (named_0 (by assumption) (by assumption)) | skip
  all_goals (have F3 := atN f3 h3 (by assumption))
  all_goals first | exact scene_5 hl F4 F1 F2 F3 f5 (by assumption) (lmp_1 (by assumption)) (by decide) | exact scene_5 hl F4 F1 F2 F3 f5 (by assumption) (lmp_6 (by assumption) (by assumption)) (by decide) | exact firstE_s f5 (lmp_0 (by assumption) (by assumption)) | skip
  all_goals (have F5 := atN f5 h5 (by assumption))
  all_goals first | exact scene_6 hl F4 F1 F2 F3 F5 (by assumption) | exact scene_7 hl F4 F1 F2 F3 F5 (by assumption)
theorem sceneMayR_f : FnOk Tryz.prog 23 Tryz.f23 := ⟨Tryz.func23, by kernel_rfl⟩
theorem sceneMayR_a (s : Scn) : MCalls Tryz.prog 23 ([.agg s.row]) [] (.int .i64 (sceneE s)) [] := by
  refine mcallsF_of (inl := hasI (P := Tryz.prog) [] [solidMayR_m]) (base [skinMayR_k, shapeMayR_k, fieldMayR_k, fineR_k, lightR_k, mayEyeR_k] [] [solidMayR_m]) 0 sceneMayR_f (And.intro (by kernel_rfl) ?_)
  repeat' (first | refine And.intro ?_ ?_ | (with_reducible exact ff_elim) | (with_reducible exact tf_elim) | refine' rho_mk [] ?_ | refine view_flat rfl rfl ?_ | refine num_elim ?_ | intro _ | (with_reducible rfl) | ((with_reducible refine lk_t ?_); exact rfl) | ((with_reducible refine pf_t ?_); exact rfl) | refine tell ?_ | exact True.intro | (refine IsT.of ?_; kernel_rfl))
  all_goals (try (refine loop_keep [1] [0] ?_; refine LoopI.mk ({i : Nat // i ≤ s.n4 ∧ firstE s.e4' i = 0}) (fun i => [(3, .int .i64 i.1)]) (fun i => []) (fun i => s.n4 - i.1) (⟨0, Nat.zero_le _, firstE_0 _⟩) (wk_mk [some 0] ?_) (fun ⟨i4, h4, f4⟩ => ?_)))
  repeat' (first | refine And.intro ?_ ?_ | (with_reducible exact ff_elim) | (with_reducible exact tf_elim) | refine stp_mk [some 0] (⟨i4 + 1, ?_, ?_⟩) ?_ ?_ | refine view_flat rfl rfl ?_ | refine view_cell rfl ?_ | (refine view_sub ?_ ?_ ?_; exact rfl; exact rfl) | refine' rho_mk [] ?_ | refine num_elim ?_ | intro _ | (with_reducible rfl) | ((with_reducible refine lk_t ?_); exact rfl) | ((with_reducible refine pf_t ?_); exact rfl) | refine tell ?_ | exact True.intro | (refine IsT.of ?_; kernel_rfl))
  all_goals (try (refine loop_keep [1] [0] ?_; refine LoopI.mk ({i : Nat // i ≤ s.n1 ∧ firstE s.e1' i = 0}) (fun i => [(5, .int .i64 i.1)]) (fun i => []) (fun i => s.n1 - i.1) (⟨0, Nat.zero_le _, firstE_0 _⟩) (wk_mk [some 0] ?_) (fun ⟨i1, h1, f1⟩ => ?_)))
  repeat' (first | refine And.intro ?_ ?_ | (with_reducible exact ff_elim) | (with_reducible exact tf_elim) | refine stp_mk [some 0] (⟨i1 + 1, ?_, ?_⟩) ?_ ?_ | refine view_flat rfl rfl ?_ | refine view_cell rfl ?_ | (refine view_sub ?_ ?_ ?_; exact rfl; exact rfl) | refine' rho_mk [] ?_ | refine num_elim ?_ | intro _ | (with_reducible rfl) | ((with_reducible refine lk_t ?_); exact rfl) | ((with_reducible refine pf_t ?_); exact rfl) | refine tell ?_ | exact True.intro | (refine IsT.of ?_; kernel_rfl))
  all_goals (try (refine loop_keep [1] [0] ?_; refine LoopI.mk ({i : Nat // i ≤ s.n2 ∧ firstE s.e2' i = 0}) (fun i => [(7, .int .i64 i.1)]) (fun i => []) (fun i => s.n2 - i.1) (⟨0, Nat.zero_le _, firstE_0 _⟩) (wk_mk [some 0] ?_) (fun ⟨i2, h2, f2⟩ => ?_)))
  repeat' (first | refine And.intro ?_ ?_ | (with_reducible exact ff_elim) | (with_reducible exact tf_elim) | refine stp_mk [some 0] (⟨i2 + 1, ?_, ?_⟩) ?_ ?_ | refine view_flat rfl rfl ?_ | refine view_cell rfl ?_ | (refine view_sub ?_ ?_ ?_; exact rfl; exact rfl) | refine' rho_mk [] ?_ | refine num_elim ?_ | intro _ | (with_reducible rfl) | ((with_reducible refine lk_t ?_); exact rfl) | ((with_reducible refine pf_t ?_); exact rfl) | refine tell ?_ | exact True.intro | (refine IsT.of ?_; kernel_rfl))
  all_goals (try (refine loop_keep [1] [0] ?_; refine LoopI.mk ({i : Nat // i ≤ s.n3 ∧ firstE s.e3' i = 0}) (fun i => [(9, .int .i64 i.1)]) (fun i => []) (fun i => s.n3 - i.1) (⟨0, Nat.zero_le _, firstE_0 _⟩) (wk_mk [some 0] ?_) (fun ⟨i3, h3, f3⟩ => ?_)))
  repeat' (first | refine And.intro ?_ ?_ | (with_reducible exact ff_elim) | (with_reducible exact tf_elim) | refine stp_mk [some 0] (⟨i3 + 1, ?_, ?_⟩) ?_ ?_ | refine view_flat rfl rfl ?_ | refine view_cell rfl ?_ | (refine view_sub ?_ ?_ ?_; exact rfl; exact rfl) | refine' rho_mk [] ?_ | refine num_elim ?_ | intro _ | (with_reducible rfl) | ((with_reducible refine lk_t ?_); exact rfl) | ((with_reducible refine pf_t ?_); exact rfl) | refine tell ?_ | exact True.intro | (refine IsT.of ?_; kernel_rfl))
  all_goals (try (refine loop_keep [1] [0] ?_; refine LoopI.mk ({i : Nat // i ≤ s.n5 ∧ firstE s.e5' i = 0}) (fun i => [(11, .int .i64 i.1)]) (fun i => []) (fun i => s.n5 - i.1) (⟨0, Nat.zero_le _, firstE_0 _⟩) (wk_mk [some 0] ?_) (fun ⟨i5, h5, f5⟩ => ?_)))
  repeat' (first | refine And.intro ?_ ?_ | (with_reducible exact ff_elim) | (with_reducible exact tf_elim) | refine stp_mk [some 0] (⟨i5 + 1, ?_, ?_⟩) ?_ ?_ | refine view_flat rfl rfl ?_ | refine view_cell rfl ?_ | (refine view_sub ?_ ?_ ?_; exact rfl; exact rfl) | refine' rho_mk [] ?_ | refine num_elim ?_ | intro _ | (with_reducible rfl) | ((with_reducible refine lk_t ?_); exact rfl) | ((with_reducible refine pf_t ?_); exact rfl) | refine tell ?_ | exact True.intro | (refine IsT.of ?_; kernel_rfl))
  all_goals (try refine Tell.mk ?_)
  all_goals first | with_reducible rfl | with_reducible exact isI_mk | with_reducible assumption | (with_reducible refine gb_t ?_; with_reducible assumption) | (with_reducible refine gb_f ?_; with_reducible assumption) | ((with_reducible refine lk_t ?_); rfl) | ((with_reducible refine okF_t ?_); kernel_rfl) | ((with_reducible refine ks_t ?_); rfl) | ((with_reducible refine pk_t ?_); rfl) | ((with_reducible refine pf_t ?_); rfl) | skip
  all_goals (try dsimp only at *)
  all_goals (try simp only [decide_eq_true_eq, decide_eq_false_iff_not, Bool.or_eq_true, Bool.or_eq_false_iff, Bool.and_eq_true, Bool.and_eq_false_iff, Bool.not_eq_true', Bool.not_eq_false', bne_iff_ne, ne_eq, beq_iff_eq, bne_eq_false_iff_eq, beq_eq_false_iff_ne, Int.not_lt, Int.not_le, gt_iff_lt, ge_iff_le] at *)
  all_goals (try simp only [mulN1, Nat.add_zero, Nat.zero_add, Nat.mul_one, Int.toNat_natCast, avInt_int, intF_mk] at *)
  all_goals first | with_reducible rfl | with_reducible exact nums_N | omega | ((with_reducible refine by_le 1 rfl ?_); omega) | ((with_reducible refine by_le 8 rfl ?_); omega) | (rw [wrapI (by omega) (by omega)] <;> omega) | skip
  all_goals (try simp only [eye_eq] at *)
  all_goals (try simp only [un_part] at *)
  all_goals first | exact scene_0 (by omega) | ((show (_ : Nat) ≤ _); decide) | skip
  all_goals (have hl : s.lim := (by unfold Scn.lim; omega))
  all_goals first | exact scene_4 hl f4 (by assumption) rfl (by assumption) | exact firstE_s f4 (by assumption) | skip
  all_goals (have F4 := atN f4 h4 (by assumption))
  all_goals first | exact scene_1 hl F4 f1 (by assumption) (named_e (by assumption) rfl) (by assumption) | exact scene_1 hl F4 f1 (by assumption) (named_9 (by assumption) (by assumption)) (by decide) | exact firstE_s f1 (named_0 (by assumption) (by assumption)) | skip
  all_goals (have F1 := atN f1 h1 (by assumption))
  all_goals first | exact scene_2 hl F4 F1 f2 (by assumption) (named_e (by assumption) rfl) (by assumption) | exact scene_2 hl F4 F1 f2 (by assumption) (named_9 (by assumption) (by assumption)) (by decide) | exact firstE_s f2 (named_0 (by assumption) (by assumption)) | skip
  all_goals (have F2 := atN f2 h2 (by assumption))
  all_goals first | exact scene_3 hl F4 F1 F2 f3 (by assumption) (named_e (by assumption) rfl) (by assumption) | exact scene_3 hl F4 F1 F2 f3 (by assumption) (named_9 (by assumption) (by assumption)) (by decide) | exact firstE_s f3 (named_0 (by assumption) (by assumption)) | skip
  all_goals (have F3 := atN f3 h3 (by assumption))
  all_goals first | exact scene_5 hl F4 F1 F2 F3 f5 (by assumption) (lmp_1 (by assumption)) (by decide) | exact scene_5 hl F4 F1 F2 F3 f5 (by assumption) (lmp_6 (by assumption) (by assumption)) (by decide) | exact firstE_s f5 (lmp_0 (by assumption) (by assumption)) | skip
  all_goals (have F5 := atN f5 h5 (by assumption))
  all_goals first | exact scene_6 hl F4 F1 F2 F3 F5 (by assumption) | exact scene_7 hl F4 F1 F2 F3 F5 (by assumption)
end Go.Proofs.YtpmmabaecldmkaaGreat
/- slices.Clone, type by type. -/
namespace Go.Proofs.YtpmmabaecldmkaaGreat
open Go.RowKit Ev
set_option linter.unusedVariables false
set_option linter.unusedSimpArgs false
set_option maxRecDepth 20000
set_option maxHeartbeats 4000000

/-- An empty slice is cloned. -/
def Clo0 (P : Program) (f : FuncId) : Prop := ∀ (w : World) (a : Option Addr) (cap : Nat), Calls P f #[.slice a 0 cap] w fun e w' => (∃ x, e = .returned (.slice x 0 0)) ∧ Below w.heap.size w w'
theorem sl0_inv {w : World} {σ : Nat → Option Nat} {Im : Nat → Prop} {sz : Nat} {g : Nat → AV} {V : Value} (h : Rd w σ Im (.sl 0 sz g) V) : ∃ a cap, V = .slice a 0 cap := by
  cases h with
  | sl0 _ _ a cap _ => exact ⟨a, cap, rfl⟩
  | sl _ _ _ b off cap U _ _ _ _ _ _ => exact ⟨_, cap, rfl⟩
theorem one_inv {R : AV → Value → Prop} {a : AV} {vs : List Value} (h : Two R [a] vs) : ∃ V, vs = [V] ∧ R a V := by
  cases h with
  | cons h t => cases t; exact ⟨_, rfl, h⟩
theorem callFunc_enter {P : Program} {f : FuncId} {fn : Func} (hf : FnOk P f fn) (hb : fn.body.isSome = true) (a : Array Value) (w : World) : (callFunc f a).run P w = .ok (.enter f a) w := by
  have hne : ¬ fn.name = "runtime.NumGoroutine" := by simpa using hf.nm
  cases hbb : fn.body with
  | none => rw [hbb] at hb; cases hb
  | some c => simp [callFunc, hf.at_, hbb, hne]
theorem Clo0.a {P : Program} {f : FuncId} {fn : Func} (h : Clo0 P f) (hf : FnOk P f fn) (hb : fn.body.isSome = true) (sz sz' : Nat) (g g' : Nat → AV) : ACalls P f [.sl 0 sz g] (.sl 0 sz' g') := by
  intro w Im vals hIm ht
  obtain ⟨V, rfl, hV⟩ := one_inv ht
  obtain ⟨a, cap, rfl⟩ := sl0_inv hV
  rw [callFunc_enter hf hb]
  refine (h w a cap).mono fun e w' ⟨⟨x, hx⟩, hbe⟩ => ⟨_, hx, hbe, .sl0 _ _ _ _ (Nat.zero_le _)⟩
theorem Clo0.m {P : Program} {f : FuncId} {fn : Func} (h : Clo0 P f) (hf : FnOk P f fn) (hb : fn.body.isSome = true) (sz sz' : Nat) (g g' : Nat → AV) : MCalls P f [.sl 0 sz g] [] (.os 0 sz' 0 0) [.arr 0 g'] := by
  intro w0 w σ Im vals hS hn ht
  obtain ⟨V, rfl, hV⟩ := one_inv ht
  obtain ⟨a, cap, rfl⟩ := sl0_inv hV
  rw [callFunc_enter hf hb]
  refine (h w a cap).mono fun e w' ⟨⟨x, hx⟩, hbe⟩ => ⟨_, hx, fun _ => none, Im, .os0 _ _ _ _, ?_, fun _ _ _ => rfl, ?_⟩
  · refine ⟨hS.bel.below hbe, fun b h => Nat.lt_of_lt_of_le (hS.im b h) hbe.size, (fun _ _ e => by cases e), fun k hk => ?_, (fun _ _ _ _ _ e => by cases e), hS.imB, (fun _ _ e => by cases e)⟩
    rcases k with _ | k
    · exact .inl ⟨rfl, rfl⟩
    · exact hk.elim
  · exact ⟨fun _ h => h, fun b h => hbe.block b (hS.im b h), (fun k b hk => absurd hk (Nat.not_lt_zero _)), (fun k b hk => absurd hk (Nat.not_lt_zero _))⟩

theorem run_slnil {P : Program} {t : TypeId} {e : TypeId} (hu : P.underlying t = some (.slice e)) (w : World) (a : Option Addr) (cap : Nat) : (binOp .eql t (.slice a 0 cap) (.slice none 0 0)).run P w = .ok (.bool a.isNone) w := by
  have h := run_equal_slice_nil w t e a 0 cap hu
  have hn : binOp .eql t (.slice a 0 cap) (.slice none 0 0) = (do pure (.bool (← Op.equal t (.slice a 0 cap) (.slice none 0 0)))) := rfl
  rw [hn]; simp only [Sem.run_bind, h, Result.andThen_ok]; rfl
theorem cat0 {s j : Nat} {f g : Nat → AV} : g j = catA (0 * s) f g j := by unfold catA; rw [Nat.zero_mul, if_neg (Nat.not_lt_zero _), Nat.sub_zero]
theorem catI0 {k j : Nat} {f g : Nat → Int} : AV.int .i64 (g j) = AV.int .i64 (catI 0 (some k) f g j) := by unfold catI; simp only [Nat.not_lt_zero, if_false, Nat.sub_zero]
theorem undShape : Tryz.prog.underlying 22 = some (.slice 61) := by kernel_rfl
theorem clo0Shape : Clo0 Tryz.prog 43 := by
  intro w a cap
  cases a
  · go_enter Tryz.func43, Tryz.ntmps43
    go_wp2_with fail
    rw [run_slnil undShape]
    go_wp2_with fail
    go_ret
    exact ⟨⟨_, rfl⟩, by first | exact Below.refl _ _ | (simp; done)⟩
  · go_enter Tryz.func43, Tryz.ntmps43
    go_wp2_with fail
    rw [run_slnil undShape]
    go_wp2_with fail
    go_ret
    exact ⟨⟨_, rfl⟩, bel_alloc (Below.refl _ _) _⟩
theorem cloShapeP_f : FnOk Tryz.prog 43 Tryz.f43 := ⟨Tryz.func43, by kernel_rfl⟩
theorem cloShapeP_a (n : Nat) (g : Nat → AV) (hpre : 0 < n ∧ n ≤ 1000000) : ACalls Tryz.prog 43 [.sl n 13 g] (.sl n 13 g) := by
  refine acalls_of (inl := hasI (P := Tryz.prog) [] []) (base [] [] []) 0 cloShapeP_f (And.intro (by kernel_rfl) ?_)
  repeat' (first | refine And.intro ?_ ?_ | (with_reducible exact ff_elim) | (with_reducible exact tf_elim) | refine num_elim ?_ | intro _ | (with_reducible rfl) | ((with_reducible refine lk_t ?_); exact rfl) | ((with_reducible refine pf_t ?_); exact rfl) | refine tell ?_ | exact True.intro | (refine IsT.of ?_; kernel_rfl))
  all_goals (try refine Tell.mk ?_)
  all_goals first | with_reducible rfl | with_reducible exact isI_mk | with_reducible assumption | (with_reducible refine gb_t ?_; with_reducible assumption) | (with_reducible refine gb_f ?_; with_reducible assumption) | ((with_reducible refine lk_t ?_); rfl) | ((with_reducible refine okF_t ?_); kernel_rfl) | ((with_reducible refine ks_t ?_); rfl) | ((with_reducible refine pk_t ?_); rfl) | ((with_reducible refine pf_t ?_); rfl) | skip
  all_goals (try dsimp only at *)
  all_goals (try simp only [decide_eq_true_eq, decide_eq_false_iff_not, Bool.or_eq_true, Bool.or_eq_false_iff, Bool.and_eq_true, Bool.and_eq_false_iff, Bool.not_eq_true', Bool.not_eq_false', bne_iff_ne, ne_eq, beq_iff_eq, bne_eq_false_iff_eq, beq_eq_false_iff_ne, Int.not_lt, Int.not_le, gt_iff_lt, ge_iff_le] at *)
  all_goals (try simp only [mulN1, Nat.add_zero, Nat.zero_add, Nat.mul_one, Int.toNat_natCast, avInt_int, intF_mk] at *)
  all_goals first | with_reducible rfl | with_reducible exact nums_N | omega | ((with_reducible refine by_le 1 rfl ?_); omega) | ((with_reducible refine by_le 8 rfl ?_); omega) | (rw [wrapI (by omega) (by omega)] <;> omega) | skip
  all_goals first | rfl | exact cat0 | exact catI0 | exact Nat.le_trans (Nat.mul_le_mul_right _ hpre.2) (by decide +kernel) | trace_state
theorem cloShape_f : FnOk Tryz.prog 43 Tryz.f43 := ⟨Tryz.func43, by kernel_rfl⟩
theorem cloShape_a (n : Nat) (g : Nat → AV) (hpre : n ≤ 1000000) : ACalls Tryz.prog 43 [.sl n 13 g] (.sl n 13 g) := by
  by_cases h : 0 < n
  · exact cloShapeP_a n g ⟨h, hpre⟩
  · obtain rfl : n = 0 := by omega
    exact clo0Shape.a cloShapeP_f rfl 13 13 g g
def cloShape_k : Con Tryz.prog := ⟨43, fun args => match args with | [.sl n 13 g] => .ok (some (n ≤ 1000000)) (.sl n 13 g) | _ => .no, by
  intro args p r h hp
  split at h
  · cases h; exact cloShape_a _ _ hp
  · cases h⟩
theorem undSkin : Tryz.prog.underlying 25 = some (.slice 73) := by kernel_rfl
theorem clo0Skin : Clo0 Tryz.prog 44 := by
  intro w a cap
  cases a
  · go_enter Tryz.func44, Tryz.ntmps44
    go_wp2_with fail
    rw [run_slnil undSkin]
    go_wp2_with fail
    go_ret
    exact ⟨⟨_, rfl⟩, by first | exact Below.refl _ _ | (simp; done)⟩
  · go_enter Tryz.func44, Tryz.ntmps44
    go_wp2_with fail
    rw [run_slnil undSkin]
    go_wp2_with fail
    go_ret
    exact ⟨⟨_, rfl⟩, bel_alloc (Below.refl _ _) _⟩
theorem cloSkinP_f : FnOk Tryz.prog 44 Tryz.f44 := ⟨Tryz.func44, by kernel_rfl⟩
theorem cloSkinP_a (n : Nat) (g : Nat → AV) (hpre : 0 < n ∧ n ≤ 1000000) : ACalls Tryz.prog 44 [.sl n 10 g] (.sl n 10 g) := by
  refine acalls_of (inl := hasI (P := Tryz.prog) [] []) (base [] [] []) 0 cloSkinP_f (And.intro (by kernel_rfl) ?_)
  repeat' (first | refine And.intro ?_ ?_ | (with_reducible exact ff_elim) | (with_reducible exact tf_elim) | refine num_elim ?_ | intro _ | (with_reducible rfl) | ((with_reducible refine lk_t ?_); exact rfl) | ((with_reducible refine pf_t ?_); exact rfl) | refine tell ?_ | exact True.intro | (refine IsT.of ?_; kernel_rfl))
  all_goals (try refine Tell.mk ?_)
  all_goals first | with_reducible rfl | with_reducible exact isI_mk | with_reducible assumption | (with_reducible refine gb_t ?_; with_reducible assumption) | (with_reducible refine gb_f ?_; with_reducible assumption) | ((with_reducible refine lk_t ?_); rfl) | ((with_reducible refine okF_t ?_); kernel_rfl) | ((with_reducible refine ks_t ?_); rfl) | ((with_reducible refine pk_t ?_); rfl) | ((with_reducible refine pf_t ?_); rfl) | skip
  all_goals (try dsimp only at *)
  all_goals (try simp only [decide_eq_true_eq, decide_eq_false_iff_not, Bool.or_eq_true, Bool.or_eq_false_iff, Bool.and_eq_true, Bool.and_eq_false_iff, Bool.not_eq_true', Bool.not_eq_false', bne_iff_ne, ne_eq, beq_iff_eq, bne_eq_false_iff_eq, beq_eq_false_iff_ne, Int.not_lt, Int.not_le, gt_iff_lt, ge_iff_le] at *)
  all_goals (try simp only [mulN1, Nat.add_zero, Nat.zero_add, Nat.mul_one, Int.toNat_natCast, avInt_int, intF_mk] at *)
  all_goals first | with_reducible rfl | with_reducible exact nums_N | omega | ((with_reducible refine by_le 1 rfl ?_); omega) | ((with_reducible refine by_le 8 rfl ?_); omega) | (rw [wrapI (by omega) (by omega)] <;> omega) | skip
  all_goals first | rfl | exact cat0 | exact catI0 | exact Nat.le_trans (Nat.mul_le_mul_right _ hpre.2) (by decide +kernel) | trace_state
theorem cloSkin_f : FnOk Tryz.prog 44 Tryz.f44 := ⟨Tryz.func44, by kernel_rfl⟩
theorem cloSkin_a (n : Nat) (g : Nat → AV) (hpre : n ≤ 1000000) : ACalls Tryz.prog 44 [.sl n 10 g] (.sl n 10 g) := by
  by_cases h : 0 < n
  · exact cloSkinP_a n g ⟨h, hpre⟩
  · obtain rfl : n = 0 := by omega
    exact clo0Skin.a cloSkinP_f rfl 10 10 g g
def cloSkin_k : Con Tryz.prog := ⟨44, fun args => match args with | [.sl n 10 g] => .ok (some (n ≤ 1000000)) (.sl n 10 g) | _ => .no, by
  intro args p r h hp
  split at h
  · cases h; exact cloSkin_a _ _ hp
  · cases h⟩
theorem undLamp : Tryz.prog.underlying 26 = some (.slice 75) := by kernel_rfl
theorem clo0Lamp : Clo0 Tryz.prog 45 := by
  intro w a cap
  cases a
  · go_enter Tryz.func45, Tryz.ntmps45
    go_wp2_with fail
    rw [run_slnil undLamp]
    go_wp2_with fail
    go_ret
    exact ⟨⟨_, rfl⟩, by first | exact Below.refl _ _ | (simp; done)⟩
  · go_enter Tryz.func45, Tryz.ntmps45
    go_wp2_with fail
    rw [run_slnil undLamp]
    go_wp2_with fail
    go_ret
    exact ⟨⟨_, rfl⟩, bel_alloc (Below.refl _ _) _⟩
theorem cloLampP_f : FnOk Tryz.prog 45 Tryz.f45 := ⟨Tryz.func45, by kernel_rfl⟩
theorem cloLampP_a (n : Nat) (g : Nat → AV) (hpre : 0 < n ∧ n ≤ 1000000) : ACalls Tryz.prog 45 [.sl n 6 g] (.sl n 6 g) := by
  refine acalls_of (inl := hasI (P := Tryz.prog) [] []) (base [] [] []) 0 cloLampP_f (And.intro (by kernel_rfl) ?_)
  repeat' (first | refine And.intro ?_ ?_ | (with_reducible exact ff_elim) | (with_reducible exact tf_elim) | refine num_elim ?_ | intro _ | (with_reducible rfl) | ((with_reducible refine lk_t ?_); exact rfl) | ((with_reducible refine pf_t ?_); exact rfl) | refine tell ?_ | exact True.intro | (refine IsT.of ?_; kernel_rfl))
  all_goals (try refine Tell.mk ?_)
  all_goals first | with_reducible rfl | with_reducible exact isI_mk | with_reducible assumption | (with_reducible refine gb_t ?_; with_reducible assumption) | (with_reducible refine gb_f ?_; with_reducible assumption) | ((with_reducible refine lk_t ?_); rfl) | ((with_reducible refine okF_t ?_); kernel_rfl) | ((with_reducible refine ks_t ?_); rfl) | ((with_reducible refine pk_t ?_); rfl) | ((with_reducible refine pf_t ?_); rfl) | skip
  all_goals (try dsimp only at *)
  all_goals (try simp only [decide_eq_true_eq, decide_eq_false_iff_not, Bool.or_eq_true, Bool.or_eq_false_iff, Bool.and_eq_true, Bool.and_eq_false_iff, Bool.not_eq_true', Bool.not_eq_false', bne_iff_ne, ne_eq, beq_iff_eq, bne_eq_false_iff_eq, beq_eq_false_iff_ne, Int.not_lt, Int.not_le, gt_iff_lt, ge_iff_le] at *)
  all_goals (try simp only [mulN1, Nat.add_zero, Nat.zero_add, Nat.mul_one, Int.toNat_natCast, avInt_int, intF_mk] at *)
  all_goals first | with_reducible rfl | with_reducible exact nums_N | omega | ((with_reducible refine by_le 1 rfl ?_); omega) | ((with_reducible refine by_le 8 rfl ?_); omega) | (rw [wrapI (by omega) (by omega)] <;> omega) | skip
  all_goals first | rfl | exact cat0 | exact catI0 | exact Nat.le_trans (Nat.mul_le_mul_right _ hpre.2) (by decide +kernel) | trace_state
theorem cloLamp_f : FnOk Tryz.prog 45 Tryz.f45 := ⟨Tryz.func45, by kernel_rfl⟩
theorem cloLamp_a (n : Nat) (g : Nat → AV) (hpre : n ≤ 1000000) : ACalls Tryz.prog 45 [.sl n 6 g] (.sl n 6 g) := by
  by_cases h : 0 < n
  · exact cloLampP_a n g ⟨h, hpre⟩
  · obtain rfl : n = 0 := by omega
    exact clo0Lamp.a cloLampP_f rfl 6 6 g g
def cloLamp_k : Con Tryz.prog := ⟨45, fun args => match args with | [.sl n 6 g] => .ok (some (n ≤ 1000000)) (.sl n 6 g) | _ => .no, by
  intro args p r h hp
  split at h
  · cases h; exact cloLamp_a _ _ hp
  · cases h⟩
theorem undSolid : Tryz.prog.underlying 23 = some (.slice 66) := by kernel_rfl
theorem clo0Solid : Clo0 Tryz.prog 46 := by
  intro w a cap
  cases a
  · go_enter Tryz.func46, Tryz.ntmps46
    go_wp2_with fail
    rw [run_slnil undSolid]
    go_wp2_with fail
    go_ret
    exact ⟨⟨_, rfl⟩, by first | exact Below.refl _ _ | (simp; done)⟩
  · go_enter Tryz.func46, Tryz.ntmps46
    go_wp2_with fail
    rw [run_slnil undSolid]
    go_wp2_with fail
    go_ret
    exact ⟨⟨_, rfl⟩, bel_alloc (Below.refl _ _) _⟩
theorem cloSolidP_f : FnOk Tryz.prog 46 Tryz.f46 := ⟨Tryz.func46, by kernel_rfl⟩
theorem cloSolidP_a (n : Nat) (g : Nat → AV) (hpre : 0 < n ∧ n ≤ 1000000) : ACalls Tryz.prog 46 [.sl n 2 g] (.sl n 2 g) := by
  refine acalls_of (inl := hasI (P := Tryz.prog) [] []) (base [] [] []) 0 cloSolidP_f (And.intro (by kernel_rfl) ?_)
  repeat' (first | refine And.intro ?_ ?_ | (with_reducible exact ff_elim) | (with_reducible exact tf_elim) | refine num_elim ?_ | intro _ | (with_reducible rfl) | ((with_reducible refine lk_t ?_); exact rfl) | ((with_reducible refine pf_t ?_); exact rfl) | refine tell ?_ | exact True.intro | (refine IsT.of ?_; kernel_rfl))
  all_goals (try refine Tell.mk ?_)
  all_goals first | with_reducible rfl | with_reducible exact isI_mk | with_reducible assumption | (with_reducible refine gb_t ?_; with_reducible assumption) | (with_reducible refine gb_f ?_; with_reducible assumption) | ((with_reducible refine lk_t ?_); rfl) | ((with_reducible refine okF_t ?_); kernel_rfl) | ((with_reducible refine ks_t ?_); rfl) | ((with_reducible refine pk_t ?_); rfl) | ((with_reducible refine pf_t ?_); rfl) | skip
  all_goals (try dsimp only at *)
  all_goals (try simp only [decide_eq_true_eq, decide_eq_false_iff_not, Bool.or_eq_true, Bool.or_eq_false_iff, Bool.and_eq_true, Bool.and_eq_false_iff, Bool.not_eq_true', Bool.not_eq_false', bne_iff_ne, ne_eq, beq_iff_eq, bne_eq_false_iff_eq, beq_eq_false_iff_ne, Int.not_lt, Int.not_le, gt_iff_lt, ge_iff_le] at *)
  all_goals (try simp only [mulN1, Nat.add_zero, Nat.zero_add, Nat.mul_one, Int.toNat_natCast, avInt_int, intF_mk] at *)
  all_goals first | with_reducible rfl | with_reducible exact nums_N | omega | ((with_reducible refine by_le 1 rfl ?_); omega) | ((with_reducible refine by_le 8 rfl ?_); omega) | (rw [wrapI (by omega) (by omega)] <;> omega) | skip
  all_goals first | rfl | exact cat0 | exact catI0 | exact Nat.le_trans (Nat.mul_le_mul_right _ hpre.2) (by decide +kernel) | trace_state
theorem cloSolid_f : FnOk Tryz.prog 46 Tryz.f46 := ⟨Tryz.func46, by kernel_rfl⟩
theorem cloSolid_a (n : Nat) (g : Nat → AV) (hpre : n ≤ 1000000) : ACalls Tryz.prog 46 [.sl n 2 g] (.sl n 2 g) := by
  by_cases h : 0 < n
  · exact cloSolidP_a n g ⟨h, hpre⟩
  · obtain rfl : n = 0 := by omega
    exact clo0Solid.a cloSolidP_f rfl 2 2 g g
def cloSolid_k : Con Tryz.prog := ⟨46, fun args => match args with | [.sl n 2 g] => .ok (some (n ≤ 1000000)) (.sl n 2 g) | _ => .no, by
  intro args p r h hp
  split at h
  · cases h; exact cloSolid_a _ _ hp
  · cases h⟩
theorem undField : Tryz.prog.underlying 24 = some (.slice 71) := by kernel_rfl
theorem clo0Field : Clo0 Tryz.prog 47 := by
  intro w a cap
  cases a
  · go_enter Tryz.func47, Tryz.ntmps47
    go_wp2_with fail
    rw [run_slnil undField]
    go_wp2_with fail
    go_ret
    exact ⟨⟨_, rfl⟩, by first | exact Below.refl _ _ | (simp; done)⟩
  · go_enter Tryz.func47, Tryz.ntmps47
    go_wp2_with fail
    rw [run_slnil undField]
    go_wp2_with fail
    go_ret
    exact ⟨⟨_, rfl⟩, bel_alloc (Below.refl _ _) _⟩
theorem cloFieldP_f : FnOk Tryz.prog 47 Tryz.f47 := ⟨Tryz.func47, by kernel_rfl⟩
theorem cloFieldP_a (n : Nat) (g : Nat → AV) (hpre : 0 < n ∧ n ≤ 1000000) : ACalls Tryz.prog 47 [.sl n 8 g] (.sl n 8 g) := by
  refine acalls_of (inl := hasI (P := Tryz.prog) [] []) (base [] [] []) 0 cloFieldP_f (And.intro (by kernel_rfl) ?_)
  repeat' (first | refine And.intro ?_ ?_ | (with_reducible exact ff_elim) | (with_reducible exact tf_elim) | refine num_elim ?_ | intro _ | (with_reducible rfl) | ((with_reducible refine lk_t ?_); exact rfl) | ((with_reducible refine pf_t ?_); exact rfl) | refine tell ?_ | exact True.intro | (refine IsT.of ?_; kernel_rfl))
  all_goals (try refine Tell.mk ?_)
  all_goals first | with_reducible rfl | with_reducible exact isI_mk | with_reducible assumption | (with_reducible refine gb_t ?_; with_reducible assumption) | (with_reducible refine gb_f ?_; with_reducible assumption) | ((with_reducible refine lk_t ?_); rfl) | ((with_reducible refine okF_t ?_); kernel_rfl) | ((with_reducible refine ks_t ?_); rfl) | ((with_reducible refine pk_t ?_); rfl) | ((with_reducible refine pf_t ?_); rfl) | skip
  all_goals (try dsimp only at *)
  all_goals (try simp only [decide_eq_true_eq, decide_eq_false_iff_not, Bool.or_eq_true, Bool.or_eq_false_iff, Bool.and_eq_true, Bool.and_eq_false_iff, Bool.not_eq_true', Bool.not_eq_false', bne_iff_ne, ne_eq, beq_iff_eq, bne_eq_false_iff_eq, beq_eq_false_iff_ne, Int.not_lt, Int.not_le, gt_iff_lt, ge_iff_le] at *)
  all_goals (try simp only [mulN1, Nat.add_zero, Nat.zero_add, Nat.mul_one, Int.toNat_natCast, avInt_int, intF_mk] at *)
  all_goals first | with_reducible rfl | with_reducible exact nums_N | omega | ((with_reducible refine by_le 1 rfl ?_); omega) | ((with_reducible refine by_le 8 rfl ?_); omega) | (rw [wrapI (by omega) (by omega)] <;> omega) | skip
  all_goals first | rfl | exact cat0 | exact catI0 | exact Nat.le_trans (Nat.mul_le_mul_right _ hpre.2) (by decide +kernel) | trace_state
theorem cloField_f : FnOk Tryz.prog 47 Tryz.f47 := ⟨Tryz.func47, by kernel_rfl⟩
theorem cloField_a (n : Nat) (g : Nat → AV) (hpre : n ≤ 1000000) : ACalls Tryz.prog 47 [.sl n 8 g] (.sl n 8 g) := by
  by_cases h : 0 < n
  · exact cloFieldP_a n g ⟨h, hpre⟩
  · obtain rfl : n = 0 := by omega
    exact clo0Field.a cloFieldP_f rfl 8 8 g g
def cloField_k : Con Tryz.prog := ⟨47, fun args => match args with | [.sl n 8 g] => .ok (some (n ≤ 1000000)) (.sl n 8 g) | _ => .no, by
  intro args p r h hp
  split at h
  · cases h; exact cloField_a _ _ hp
  · cases h⟩
theorem undPart : Tryz.prog.underlying 64 = some (.slice 68) := by kernel_rfl
theorem clo0Part : Clo0 Tryz.prog 48 := by
  intro w a cap
  cases a
  · go_enter Tryz.func48, Tryz.ntmps48
    go_wp2_with fail
    rw [run_slnil undPart]
    go_wp2_with fail
    go_ret
    exact ⟨⟨_, rfl⟩, by first | exact Below.refl _ _ | (simp; done)⟩
  · go_enter Tryz.func48, Tryz.ntmps48
    go_wp2_with fail
    rw [run_slnil undPart]
    go_wp2_with fail
    go_ret
    exact ⟨⟨_, rfl⟩, bel_alloc (Below.refl _ _) _⟩
theorem cloPartP_f : FnOk Tryz.prog 48 Tryz.f48 := ⟨Tryz.func48, by kernel_rfl⟩
theorem cloPartP_a (n : Nat) (g : Nat → AV) (hpre : 0 < n ∧ n ≤ 1000000) : ACalls Tryz.prog 48 [.sl n 16 g] (.sl n 16 g) := by
  refine acalls_of (inl := hasI (P := Tryz.prog) [] []) (base [] [] []) 0 cloPartP_f (And.intro (by kernel_rfl) ?_)
  repeat' (first | refine And.intro ?_ ?_ | (with_reducible exact ff_elim) | (with_reducible exact tf_elim) | refine num_elim ?_ | intro _ | (with_reducible rfl) | ((with_reducible refine lk_t ?_); exact rfl) | ((with_reducible refine pf_t ?_); exact rfl) | refine tell ?_ | exact True.intro | (refine IsT.of ?_; kernel_rfl))
  all_goals (try refine Tell.mk ?_)
  all_goals first | with_reducible rfl | with_reducible exact isI_mk | with_reducible assumption | (with_reducible refine gb_t ?_; with_reducible assumption) | (with_reducible refine gb_f ?_; with_reducible assumption) | ((with_reducible refine lk_t ?_); rfl) | ((with_reducible refine okF_t ?_); kernel_rfl) | ((with_reducible refine ks_t ?_); rfl) | ((with_reducible refine pk_t ?_); rfl) | ((with_reducible refine pf_t ?_); rfl) | skip
  all_goals (try dsimp only at *)
  all_goals (try simp only [decide_eq_true_eq, decide_eq_false_iff_not, Bool.or_eq_true, Bool.or_eq_false_iff, Bool.and_eq_true, Bool.and_eq_false_iff, Bool.not_eq_true', Bool.not_eq_false', bne_iff_ne, ne_eq, beq_iff_eq, bne_eq_false_iff_eq, beq_eq_false_iff_ne, Int.not_lt, Int.not_le, gt_iff_lt, ge_iff_le] at *)
  all_goals (try simp only [mulN1, Nat.add_zero, Nat.zero_add, Nat.mul_one, Int.toNat_natCast, avInt_int, intF_mk] at *)
  all_goals first | with_reducible rfl | with_reducible exact nums_N | omega | ((with_reducible refine by_le 1 rfl ?_); omega) | ((with_reducible refine by_le 8 rfl ?_); omega) | (rw [wrapI (by omega) (by omega)] <;> omega) | skip
  all_goals first | rfl | exact cat0 | exact catI0 | exact Nat.le_trans (Nat.mul_le_mul_right _ hpre.2) (by decide +kernel) | trace_state
theorem cloPart_f : FnOk Tryz.prog 48 Tryz.f48 := ⟨Tryz.func48, by kernel_rfl⟩
theorem cloPart_a (n : Nat) (g : Nat → AV) (hpre : n ≤ 1000000) : ACalls Tryz.prog 48 [.sl n 16 g] (.sl n 16 g) := by
  by_cases h : 0 < n
  · exact cloPartP_a n g ⟨h, hpre⟩
  · obtain rfl : n = 0 := by omega
    exact clo0Part.a cloPartP_f rfl 16 16 g g
def cloPart_k : Con Tryz.prog := ⟨48, fun args => match args with | [.sl n 16 g] => .ok (some (n ≤ 1000000)) (.sl n 16 g) | _ => .no, by
  intro args p r h hp
  split at h
  · cases h; exact cloPart_a _ _ hp
  · cases h⟩
theorem undInt : Tryz.prog.underlying 45 = some (.slice 3) := by kernel_rfl
theorem clo0Int : Clo0 Tryz.prog 49 := by
  intro w a cap
  cases a
  · go_enter Tryz.func49, Tryz.ntmps49
    go_wp2_with fail
    rw [run_slnil undInt]
    go_wp2_with fail
    go_ret
    exact ⟨⟨_, rfl⟩, by first | exact Below.refl _ _ | (simp; done)⟩
  · go_enter Tryz.func49, Tryz.ntmps49
    go_wp2_with fail
    rw [run_slnil undInt]
    go_wp2_with fail
    go_ret
    exact ⟨⟨_, rfl⟩, bel_alloc (Below.refl _ _) _⟩
theorem cloIntP_f : FnOk Tryz.prog 49 Tryz.f49 := ⟨Tryz.func49, by kernel_rfl⟩
theorem cloIntP_a (n : Nat) (A : Nat → Int) (hpre : 0 < n ∧ n ≤ 1000000) : ACalls Tryz.prog 49 [ints .i64 n A] (ints .i64 n A) := by
  refine acalls_of (inl := hasI (P := Tryz.prog) [] []) (base [] [] []) 0 cloIntP_f (And.intro (by kernel_rfl) ?_)
  repeat' (first | refine And.intro ?_ ?_ | (with_reducible exact ff_elim) | (with_reducible exact tf_elim) | refine num_elim ?_ | intro _ | (with_reducible rfl) | ((with_reducible refine lk_t ?_); exact rfl) | ((with_reducible refine pf_t ?_); exact rfl) | refine tell ?_ | exact True.intro | (refine IsT.of ?_; kernel_rfl))
  all_goals (try refine Tell.mk ?_)
  all_goals first | with_reducible rfl | with_reducible exact isI_mk | with_reducible assumption | (with_reducible refine gb_t ?_; with_reducible assumption) | (with_reducible refine gb_f ?_; with_reducible assumption) | ((with_reducible refine lk_t ?_); rfl) | ((with_reducible refine okF_t ?_); kernel_rfl) | ((with_reducible refine ks_t ?_); rfl) | ((with_reducible refine pk_t ?_); rfl) | ((with_reducible refine pf_t ?_); rfl) | skip
  all_goals (try dsimp only at *)
  all_goals (try simp only [decide_eq_true_eq, decide_eq_false_iff_not, Bool.or_eq_true, Bool.or_eq_false_iff, Bool.and_eq_true, Bool.and_eq_false_iff, Bool.not_eq_true', Bool.not_eq_false', bne_iff_ne, ne_eq, beq_iff_eq, bne_eq_false_iff_eq, beq_eq_false_iff_ne, Int.not_lt, Int.not_le, gt_iff_lt, ge_iff_le] at *)
  all_goals (try simp only [mulN1, Nat.add_zero, Nat.zero_add, Nat.mul_one, Int.toNat_natCast, avInt_int, intF_mk] at *)
  all_goals first | with_reducible rfl | with_reducible exact nums_N | omega | ((with_reducible refine by_le 1 rfl ?_); omega) | ((with_reducible refine by_le 8 rfl ?_); omega) | (rw [wrapI (by omega) (by omega)] <;> omega) | skip
  all_goals first | rfl | exact cat0 | exact catI0 | exact Nat.le_trans (Nat.mul_le_mul_right _ hpre.2) (by decide +kernel) | trace_state
theorem cloInt_f : FnOk Tryz.prog 49 Tryz.f49 := ⟨Tryz.func49, by kernel_rfl⟩
theorem cloInt_a (n : Nat) (A : Nat → Int) (hpre : n ≤ 1000000) : ACalls Tryz.prog 49 [ints .i64 n A] (ints .i64 n A) := by
  by_cases h : 0 < n
  · exact cloIntP_a n A ⟨h, hpre⟩
  · obtain rfl : n = 0 := by omega
    exact clo0Int.a cloIntP_f rfl 1 1 (fun j => .int .i64 (A j)) (fun j => .int .i64 (A j))
def cloInt_r (n : Nat) (A : Nat → Int) : AV := ints .i64 n A
def cloInt_p (n : Nat) (A : Nat → Int) : Prop := n ≤ 1000000
def cloInt_k : Con Tryz.prog := ⟨49, fun args => match args with | [.sl n 1 g_A] => .ok (some (IsI .i64 g_A ∧ cloInt_p n (intF g_A))) (cloInt_r n (intF g_A)) | _ => .no, by
  intro args p r h hp
  split at h
  · cases h; obtain ⟨h_A, hp⟩ := hp; have e_A := h_A.eq; rw [e_A]; exact cloInt_a _ _ hp
  · cases h⟩
end Go.Proofs.YtpmmabaecldmkaaGreat
/- Scenes out of their cells: May as a contract that others may call. -/
namespace Go.Proofs.YtpmmabaecldmkaaGreat
open Go.RowKit Ev
set_option linter.unusedVariables false
set_option linter.unusedSimpArgs false
set_option maxRecDepth 20000
set_option maxHeartbeats 4000000

/-- A contract that hands back a number and keeps nothing. -/
theorem toA {P : Program} {f : FuncId} {args : List AV} {k : IntKind} {n : Int} (h : MCalls P f args [] (.int k n) []) : ACalls P f args (.int k n) := by
  intro w Im vals hIm ht
  have S := Sat.first w Im hIm
  have e : rowsO [] = fun _ => OB.gone := funext fun k => by cases k <;> rfl
  rw [← e] at S
  refine (h _ w _ Im vals S (fun _ _ => rfl) ht).mono fun v w' ⟨σ', Im', hv, hS, _, _⟩ => ⟨⟨hS.bel.os, hS.bel.tape, hS.bel.output, hS.bel.size, hS.bel.block⟩, ?_⟩
  rw [hv.inv_int]
  exact .int _ _
def slN : AV → Nat
  | .sl n _ _ => n
  | _ => 0
def slG : AV → Nat → AV
  | .sl _ _ g => g
  | _ => fun _ => .any
def unShp (g : Nat → AV) (i : Nat) : Shp := ⟨toI (g (i * 13 + 0)), toF (g (i * 13 + 1)), toF (g (i * 13 + 2)), toF (g (i * 13 + 3)), toF (g (i * 13 + 4)), toF (g (i * 13 + 5)), toF (g (i * 13 + 6)), toF (g (i * 13 + 7)), toF (g (i * 13 + 8)), toF (g (i * 13 + 9)), toF (g (i * 13 + 10)), toF (g (i * 13 + 11)), toI (g (i * 13 + 12))⟩
def unSol (g : Nat → AV) (i : Nat) : Sol := ⟨slN (g (i * 2 + 0)), unPrt (slG (g (i * 2 + 0))), toI (g (i * 2 + 1))⟩
def unFld (g : Nat → AV) (i : Nat) : Fld := ⟨toI (g (i * 8 + 0)), toI (g (i * 8 + 1)), toF (g (i * 8 + 2)), toF (g (i * 8 + 3)), toF (g (i * 8 + 4)), toF (g (i * 8 + 5)), slN (g (i * 8 + 6)), fun j => toI (slG (g (i * 8 + 6)) j), toI (g (i * 8 + 7))⟩
def unSkn (g : Nat → AV) (i : Nat) : Skn := ⟨toI (g (i * 10 + 0)), toI (g (i * 10 + 1)), toI (g (i * 10 + 2)), toI (g (i * 10 + 3)), toI (g (i * 10 + 4)), toI (g (i * 10 + 5)), toI (g (i * 10 + 6)), toI (g (i * 10 + 7)), toI (g (i * 10 + 8)), toI (g (i * 10 + 9))⟩
def unLmp (g : Nat → AV) (i : Nat) : Lmp := ⟨toF (g (i * 6 + 0)), toF (g (i * 6 + 1)), toF (g (i * 6 + 2)), toI (g (i * 6 + 3)), toI (g (i * 6 + 4)), toI (g (i * 6 + 5))⟩
theorem un_shp (S : Nat → Shp) : unShp (flatF 13 fun i => (S i).row) = S := by
  funext i
  unfold unShp
  simp only [flat_at (sz := 13) (row := fun i => (S i).row) (i := i) (show 0 < 13 by decide), flat_at (sz := 13) (row := fun i => (S i).row) (i := i) (show 1 < 13 by decide), flat_at (sz := 13) (row := fun i => (S i).row) (i := i) (show 2 < 13 by decide), flat_at (sz := 13) (row := fun i => (S i).row) (i := i) (show 3 < 13 by decide), flat_at (sz := 13) (row := fun i => (S i).row) (i := i) (show 4 < 13 by decide), flat_at (sz := 13) (row := fun i => (S i).row) (i := i) (show 5 < 13 by decide), flat_at (sz := 13) (row := fun i => (S i).row) (i := i) (show 6 < 13 by decide), flat_at (sz := 13) (row := fun i => (S i).row) (i := i) (show 7 < 13 by decide), flat_at (sz := 13) (row := fun i => (S i).row) (i := i) (show 8 < 13 by decide), flat_at (sz := 13) (row := fun i => (S i).row) (i := i) (show 9 < 13 by decide), flat_at (sz := 13) (row := fun i => (S i).row) (i := i) (show 10 < 13 by decide), flat_at (sz := 13) (row := fun i => (S i).row) (i := i) (show 11 < 13 by decide), flat_at (sz := 13) (row := fun i => (S i).row) (i := i) (show 12 < 13 by decide)]
  rfl
theorem un_sol (S : Nat → Sol) : unSol (flatF 2 fun i => (S i).row) = S := by
  funext i
  unfold unSol
  simp only [flat_at (sz := 2) (row := fun i => (S i).row) (i := i) (show 0 < 2 by decide), flat_at (sz := 2) (row := fun i => (S i).row) (i := i) (show 1 < 2 by decide)]
  show (⟨(S i).n, unPrt (partF (S i).P), (S i).s⟩ : Sol) = S i
  rw [un_part]
theorem un_fld (S : Nat → Fld) : unFld (flatF 8 fun i => (S i).row) = S := by
  funext i
  unfold unFld
  simp only [flat_at (sz := 8) (row := fun i => (S i).row) (i := i) (show 0 < 8 by decide), flat_at (sz := 8) (row := fun i => (S i).row) (i := i) (show 1 < 8 by decide), flat_at (sz := 8) (row := fun i => (S i).row) (i := i) (show 2 < 8 by decide), flat_at (sz := 8) (row := fun i => (S i).row) (i := i) (show 3 < 8 by decide), flat_at (sz := 8) (row := fun i => (S i).row) (i := i) (show 4 < 8 by decide), flat_at (sz := 8) (row := fun i => (S i).row) (i := i) (show 5 < 8 by decide), flat_at (sz := 8) (row := fun i => (S i).row) (i := i) (show 6 < 8 by decide), flat_at (sz := 8) (row := fun i => (S i).row) (i := i) (show 7 < 8 by decide)]
  rfl
theorem un_skn (S : Nat → Skn) : unSkn (flatF 10 fun i => (S i).row) = S := by
  funext i
  unfold unSkn
  simp only [flat_at (sz := 10) (row := fun i => (S i).row) (i := i) (show 0 < 10 by decide), flat_at (sz := 10) (row := fun i => (S i).row) (i := i) (show 1 < 10 by decide), flat_at (sz := 10) (row := fun i => (S i).row) (i := i) (show 2 < 10 by decide), flat_at (sz := 10) (row := fun i => (S i).row) (i := i) (show 3 < 10 by decide), flat_at (sz := 10) (row := fun i => (S i).row) (i := i) (show 4 < 10 by decide), flat_at (sz := 10) (row := fun i => (S i).row) (i := i) (show 5 < 10 by decide), flat_at (sz := 10) (row := fun i => (S i).row) (i := i) (show 6 < 10 by decide), flat_at (sz := 10) (row := fun i => (S i).row) (i := i) (show 7 < 10 by decide), flat_at (sz := 10) (row := fun i => (S i).row) (i := i) (show 8 < 10 by decide), flat_at (sz := 10) (row := fun i => (S i).row) (i := i) (show 9 < 10 by decide)]
  rfl
theorem un_lmp (S : Nat → Lmp) : unLmp (flatF 6 fun i => (S i).row) = S := by
  funext i
  unfold unLmp
  simp only [flat_at (sz := 6) (row := fun i => (S i).row) (i := i) (show 0 < 6 by decide), flat_at (sz := 6) (row := fun i => (S i).row) (i := i) (show 1 < 6 by decide), flat_at (sz := 6) (row := fun i => (S i).row) (i := i) (show 2 < 6 by decide), flat_at (sz := 6) (row := fun i => (S i).row) (i := i) (show 3 < 6 by decide), flat_at (sz := 6) (row := fun i => (S i).row) (i := i) (show 4 < 6 by decide), flat_at (sz := 6) (row := fun i => (S i).row) (i := i) (show 5 < 6 by decide)]
  rfl
/-- The scene of which these are the cells. -/
def unScn : List AV → Scn
  | [.sl n1 _ g1, .sl n2 _ g2, .sl n3 _ g3, .sl n4 _ g4, .sl n5 _ g5, .int _ a, .int _ b, .int _ c, .flt e0, .flt e1, .flt e2, .flt e3, .flt e4, .flt e5, .flt e6, .flt e7, .flt e8, .flt e9] =>
    ⟨n1, unShp g1, n2, unSol g2, n3, unFld g3, n4, unSkn g4, n5, unLmp g5, a, b, c, e0, e1, e2, e3, e4, e5, e6, e7, e8, e9⟩
  | _ => ⟨0, unShp fun _ => .any, 0, unSol fun _ => .any, 0, unFld fun _ => .any, 0, unSkn fun _ => .any, 0, unLmp fun _ => .any, 0, 0, 0, 0, 0, 0, 0, 0, 0, 0, 0, 0, 0⟩
theorem un_scn (s : Scn) : unScn s.row = s := by
  cases s
  show Scn.mk _ _ _ _ _ _ _ _ _ _ _ _ _ _ _ _ _ _ _ _ _ _ _ = _
  rw [un_shp, un_sol, un_fld, un_skn, un_lmp]
/-- Is this a scene's row, as far as one sees? -/
def scnB : List AV → Bool
  | [.sl _ 13 _, .sl _ 2 _, .sl _ 8 _, .sl _ 10 _, .sl _ 6 _, .int .i64 _, .int .i64 _, .int .i64 _, .flt _, .flt _, .flt _, .flt _, .flt _, .flt _, .flt _, .flt _, .flt _, .flt _] => true
  | _ => false
def mayC : List AV → CR
  | [.agg l] => match scnB l with
    | true => .ok (some (l = (unScn l).row)) (.int .i64 (sceneE (unScn l)))
    | false => .no
  | _ => .no
theorem mayC_ok {P : Program} {f : FuncId} (h : ∀ s : Scn, MCalls P f [.agg s.row] [] (.int .i64 (sceneE s)) []) (args : List AV) (p : Option Prop) (r : AV) (e : mayC args = .ok p r) (hp : p.getD True) : ACalls P f args r := by
  unfold mayC at e
  split at e
  · rename_i l
    split at e
    · cases e
      have hp' : l = (unScn l).row := hp
      have := toA (h (unScn l))
      rw [← hp'] at this
      exact this
    · cases e
  · cases e
def sceneMay_k : Con Tryz.prog := ⟨20, mayC, mayC_ok sceneMay_a⟩
def sceneMayR_k : Con Tryz.prog := ⟨23, mayC, mayC_ok sceneMayR_a⟩
end Go.Proofs.YtpmmabaecldmkaaGreat
/- slices.Clone with a block of one's own. -/
namespace Go.Proofs.YtpmmabaecldmkaaGreat
open Go.RowKit Ev
set_option linter.unusedVariables false
set_option linter.unusedSimpArgs false
set_option maxRecDepth 20000
set_option maxHeartbeats 4000000

theorem cloShapeO_f : FnOk Tryz.prog 43 Tryz.f43 := ⟨Tryz.func43, by kernel_rfl⟩
theorem cloShapeO_a (n : Nat) (g : Nat → AV) (hpre : 0 < n ∧ n ≤ 1000000) : MCalls Tryz.prog 43 ([.sl n 13 g]) [] (.os 0 13 0 n) [.arr (n * 13) g] := by
  refine mcallsF_of (inl := hasI (P := Tryz.prog) [] []) (base [] [] []) 0 cloShapeO_f (And.intro (by kernel_rfl) ?_)
  repeat' (first | refine And.intro ?_ ?_ | (with_reducible exact ff_elim) | (with_reducible exact tf_elim) | refine' rho_mk [_] ?_ | refine num_elim ?_ | intro _ | (with_reducible rfl) | ((with_reducible refine lk_t ?_); exact rfl) | ((with_reducible refine pf_t ?_); exact rfl) | refine tell ?_ | exact True.intro | (refine IsT.of ?_; kernel_rfl))
  all_goals (try refine Tell.mk ?_)
  all_goals (try simp only [show (Tab.cx.ti 61).size = 13 from rfl, show (Tab.cx.ti 61).bytes = 104 from rfl])
  all_goals first | exact hpre.1 | rfl | exact cat0 | omega | (rw [Nat.zero_mul]; exact Nat.zero_le _) | trace_state
theorem cloShapeQ (n : Nat) (g : Nat → AV) (h : n ≤ 1000000) : MCalls Tryz.prog 43 [.sl n 13 g] [] (.os 0 13 0 n) [.arr (n * 13) g] := by
  by_cases h0 : 0 < n
  · exact cloShapeO_a n g ⟨h0, h⟩
  · obtain rfl : n = 0 := by omega
    rw [Nat.zero_mul]
    exact clo0Shape.m cloShapeP_f rfl 13 13 g g
def cloShapeM_m : MCon Tryz.prog :=
  ⟨43, fun args own => match args with | [.sl n 13 g] => .ok [] [.sl n 13 g] [] (some (n ≤ 1000000)) (.os 0 13 0 n) [.arr (n * 13) g] | _ => .no, by
  intro args own ks cargs rows p r rows2 h hp
  split at h
  · cases h; exact cloShapeQ _ _ hp
  · cases h⟩
theorem cloSolidO_f : FnOk Tryz.prog 46 Tryz.f46 := ⟨Tryz.func46, by kernel_rfl⟩
theorem cloSolidO_a (n : Nat) (g : Nat → AV) (hpre : 0 < n ∧ n ≤ 1000000) : MCalls Tryz.prog 46 ([.sl n 2 g]) [] (.os 0 2 0 n) [.arr (n * 2) g] := by
  refine mcallsF_of (inl := hasI (P := Tryz.prog) [] []) (base [] [] []) 0 cloSolidO_f (And.intro (by kernel_rfl) ?_)
  repeat' (first | refine And.intro ?_ ?_ | (with_reducible exact ff_elim) | (with_reducible exact tf_elim) | refine' rho_mk [_] ?_ | refine num_elim ?_ | intro _ | (with_reducible rfl) | ((with_reducible refine lk_t ?_); exact rfl) | ((with_reducible refine pf_t ?_); exact rfl) | refine tell ?_ | exact True.intro | (refine IsT.of ?_; kernel_rfl))
  all_goals (try refine Tell.mk ?_)
  all_goals (try simp only [show (Tab.cx.ti 66).size = 2 from rfl, show (Tab.cx.ti 66).bytes = 32 from rfl])
  all_goals first | exact hpre.1 | rfl | exact cat0 | omega | (rw [Nat.zero_mul]; exact Nat.zero_le _) | trace_state
theorem cloSolidQ (n : Nat) (g : Nat → AV) (h : n ≤ 1000000) : MCalls Tryz.prog 46 [.sl n 2 g] [] (.os 0 2 0 n) [.arr (n * 2) g] := by
  by_cases h0 : 0 < n
  · exact cloSolidO_a n g ⟨h0, h⟩
  · obtain rfl : n = 0 := by omega
    rw [Nat.zero_mul]
    exact clo0Solid.m cloSolidP_f rfl 2 2 g g
def cloSolidM_m : MCon Tryz.prog :=
  ⟨46, fun args own => match args with | [.sl n 2 g] => .ok [] [.sl n 2 g] [] (some (n ≤ 1000000)) (.os 0 2 0 n) [.arr (n * 2) g] | _ => .no, by
  intro args own ks cargs rows p r rows2 h hp
  split at h
  · cases h; exact cloSolidQ _ _ hp
  · cases h⟩
theorem cloFieldO_f : FnOk Tryz.prog 47 Tryz.f47 := ⟨Tryz.func47, by kernel_rfl⟩
theorem cloFieldO_a (n : Nat) (g : Nat → AV) (hpre : 0 < n ∧ n ≤ 1000000) : MCalls Tryz.prog 47 ([.sl n 8 g]) [] (.os 0 8 0 n) [.arr (n * 8) g] := by
  refine mcallsF_of (inl := hasI (P := Tryz.prog) [] []) (base [] [] []) 0 cloFieldO_f (And.intro (by kernel_rfl) ?_)
  repeat' (first | refine And.intro ?_ ?_ | (with_reducible exact ff_elim) | (with_reducible exact tf_elim) | refine' rho_mk [_] ?_ | refine num_elim ?_ | intro _ | (with_reducible rfl) | ((with_reducible refine lk_t ?_); exact rfl) | ((with_reducible refine pf_t ?_); exact rfl) | refine tell ?_ | exact True.intro | (refine IsT.of ?_; kernel_rfl))
  all_goals (try refine Tell.mk ?_)
  all_goals (try simp only [show (Tab.cx.ti 71).size = 8 from rfl, show (Tab.cx.ti 71).bytes = 80 from rfl])
  all_goals first | exact hpre.1 | rfl | exact cat0 | omega | (rw [Nat.zero_mul]; exact Nat.zero_le _) | trace_state
theorem cloFieldQ (n : Nat) (g : Nat → AV) (h : n ≤ 1000000) : MCalls Tryz.prog 47 [.sl n 8 g] [] (.os 0 8 0 n) [.arr (n * 8) g] := by
  by_cases h0 : 0 < n
  · exact cloFieldO_a n g ⟨h0, h⟩
  · obtain rfl : n = 0 := by omega
    rw [Nat.zero_mul]
    exact clo0Field.m cloFieldP_f rfl 8 8 g g
def cloFieldM_m : MCon Tryz.prog :=
  ⟨47, fun args own => match args with | [.sl n 8 g] => .ok [] [.sl n 8 g] [] (some (n ≤ 1000000)) (.os 0 8 0 n) [.arr (n * 8) g] | _ => .no, by
  intro args own ks cargs rows p r rows2 h hp
  split at h
  · cases h; exact cloFieldQ _ _ hp
  · cases h⟩
end Go.Proofs.YtpmmabaecldmkaaGreat
/- Scenes in which one shape has moved. -/
namespace Go.Proofs.YtpmmabaecldmkaaGreat
open Go.RowKit Ev
set_option linter.unusedVariables false
set_option linter.unusedSimpArgs false
set_option maxRecDepth 20000
set_option maxHeartbeats 4000000

/-- A shape that has moved. -/
def mvShp (p : Shp) (x y z : Nat) : Shp := { p with a := F .add p.a x, b := F .add p.b y, c := F .add p.c z, d := bif p.k == 2 || p.k == 3 then F .add p.d x else p.d, e := bif p.k == 2 || p.k == 3 then F .add p.e y else p.e, f := bif p.k == 2 || p.k == 3 then F .add p.f z else p.f, g := bif p.k == 3 then F .add p.g x else p.g, h := bif p.k == 3 then F .add p.h y else p.h, i := bif p.k == 3 then F .add p.i z else p.i }
def movS (s : Scn) (w : Nat) (x y z : Nat) : Scn := { s with S := fun i => if i = w then mvShp (s.S i) x y z else s.S i }
/-- A scene of which nothing is. -/
def zeroS : Scn := unScn []
def movE (s : Scn) (w : Int) (n : Nat) (K : Nat → Int) (t : Int) : Int := orE (sceneE s) (if w < 0 ∨ (s.n1 : Int) ≤ w then 9 else orE (keysE n K) (sceneE (movS s w.toNat (thoF (atV n K t 1)) (thoF (atV n K t 2)) (thoF (atV n K t 3)))))
def movO (s : Scn) (w : Int) (n : Nat) (K : Nat → Int) (t : Int) : Scn := if movE s w n K t = 0 then movS s w.toNat (thoF (atV n K t 1)) (thoF (atV n K t 2)) (thoF (atV n K t 3)) else zeroS
theorem mov_1 {s : Scn} {w : Int} {n : Nat} {K : Nat → Int} {t : Int} (h : sceneE s ≠ 0) : movE s w n K t = sceneE s ∧ movO s w n K t = zeroS := by
  have e : movE s w n K t = sceneE s := orE_n h
  exact ⟨e, if_neg (by rw [e]; exact h)⟩
theorem mov_2 {s : Scn} {w : Int} {n : Nat} {K : Nat → Int} {t : Int} (h : sceneE s = 0) (hw : w < 0 ∨ (s.n1 : Int) ≤ w) : movE s w n K t = 9 ∧ movO s w n K t = zeroS := by
  have e : movE s w n K t = 9 := by unfold movE; rw [orE_0 h, if_pos hw]
  exact ⟨e, if_neg (by rw [e]; decide)⟩
theorem mov_3 {s : Scn} {w : Int} {n : Nat} {K : Nat → Int} {t : Int} (h : sceneE s = 0) (hw : 0 ≤ w ∧ w < (s.n1 : Int)) (hk : keysE n K ≠ 0) : movE s w n K t = keysE n K ∧ movO s w n K t = zeroS := by
  have e : movE s w n K t = keysE n K := by unfold movE; rw [orE_0 h, if_neg (by omega), orE_n hk]
  exact ⟨e, if_neg (by rw [e]; exact hk)⟩
theorem mov_4 {s : Scn} {w : Int} {n : Nat} {K : Nat → Int} {t : Int} (h : sceneE s = 0) (hw : 0 ≤ w ∧ w < (s.n1 : Int)) (hk : keysE n K = 0) : movE s w n K t = sceneE (movS s w.toNat (thoF (atV n K t 1)) (thoF (atV n K t 2)) (thoF (atV n K t 3))) := by
  unfold movE; rw [orE_0 h, if_neg (by omega), orE_0 hk]
theorem mov_5 {s : Scn} {w : Int} {n : Nat} {K : Nat → Int} {t : Int} (h : sceneE s = 0) (hw : 0 ≤ w ∧ w < (s.n1 : Int)) (hk : keysE n K = 0) (hm : sceneE (movS s w.toNat (thoF (atV n K t 1)) (thoF (atV n K t 2)) (thoF (atV n K t 3))) ≠ 0) : movE s w n K t = sceneE (movS s w.toNat (thoF (atV n K t 1)) (thoF (atV n K t 2)) (thoF (atV n K t 3))) ∧ movO s w n K t = zeroS := by
  have e := mov_4 (t := t) h hw hk
  exact ⟨e, if_neg (by rw [e]; exact hm)⟩
theorem mov_6 {s : Scn} {w : Int} {n : Nat} {K : Nat → Int} {t : Int} (h : sceneE s = 0) (hw : 0 ≤ w ∧ w < (s.n1 : Int)) (hk : keysE n K = 0) (hm : sceneE (movS s w.toNat (thoF (atV n K t 1)) (thoF (atV n K t 2)) (thoF (atV n K t 3))) = 0) : movE s w n K t = 0 ∧ movO s w n K t = movS s w.toNat (thoF (atV n K t 1)) (thoF (atV n K t 2)) (thoF (atV n K t 3)) := by
  have e : movE s w n K t = 0 := by rw [mov_4 h hw hk]; exact hm
  exact ⟨e, if_pos e⟩
theorem scn_eq {s : Scn} : s.row = (unScn s.row).row := by rw [un_scn]
theorem view_cat0 {nm : Bool} {S sz m : Nat} {row : Nat → List AV} {f : Nat → AV} {Q : AV → Prop} (hs : S = sz) (hl : (row m).length = sz) (h : nameE nm (.agg (row m)) Q) :
    nameE nm (.agg (List.map (fun j => catA (0 * S) f (flatF sz row) (0 + mulN m S + j)) (List.range S))) Q := by
  subst hs
  refine view_agg ?_ h
  rw [mulN_eq]
  apply List.ext_getElem
  · simp [hl]
  · intro c h1 h2
    simp only [List.getElem_map, List.getElem_range]
    rw [← cat0, Nat.zero_add, flat_at (by simpa using h1), List.getD_eq_getElem?_getD, List.getElem?_eq_getElem h2]; rfl
theorem tho_fold {i : Int} : F .quo (cn (FloatKind.f64.nearest i)) 4652007308841189376 = thoF i := rfl
theorem row3 {p : Shp} {x y z : Nat} (h : (p.k == 2 || p.k == 3) = true) (h3 : (p.k == 3) = true) : [.int .i64 p.k, .flt (F .add p.a x), .flt (F .add p.b y), .flt (F .add p.c z), .flt (F .add p.d x), .flt (F .add p.e y), .flt (F .add p.f z), .flt (F .add p.g x), .flt (F .add p.h y), .flt (F .add p.i z), .flt p.r, .flt p.q, .int .i64 p.s] = (mvShp p x y z).row := by unfold mvShp Shp.row; rw [h, h3]; rfl
theorem row2 {p : Shp} {x y z : Nat} (h : (p.k == 2 || p.k == 3) = true) (h3 : (p.k == 3) = false) : [.int .i64 p.k, .flt (F .add p.a x), .flt (F .add p.b y), .flt (F .add p.c z), .flt (F .add p.d x), .flt (F .add p.e y), .flt (F .add p.f z), .flt p.g, .flt p.h, .flt p.i, .flt p.r, .flt p.q, .int .i64 p.s] = (mvShp p x y z).row := by unfold mvShp Shp.row; rw [h, h3]; rfl
theorem row1 {p : Shp} {x y z : Nat} (h : (p.k == 2 || p.k == 3) = false) (h3 : (p.k == 3) = false) : [.int .i64 p.k, .flt (F .add p.a x), .flt (F .add p.b y), .flt (F .add p.c z), .flt p.d, .flt p.e, .flt p.f, .flt p.g, .flt p.h, .flt p.i, .flt p.r, .flt p.q, .int .i64 p.s] = (mvShp p x y z).row := by unfold mvShp Shp.row; rw [h, h3]; rfl
theorem row0 {p : Shp} (h : (p.k == 2 || p.k == 3) = false) (h3 : (p.k == 3) = true) : False := by rw [h3, Bool.or_true] at h; cases h
theorem mv_cells (s : Scn) (w x y z : Nat) (f : Nat → AV) : (fun j => setA (0 + mulN w 13) (mvShp (s.S w) x y z).row (catA (0 * 13) f (flatF 13 fun i => (s.S i).row)) (0 + j)) = flatF 13 fun i => ((movS s w x y z).S i).row := by
  funext j
  have hl : (mvShp (s.S w) x y z).row.length = 13 := rfl
  unfold setA
  rw [Nat.zero_add, Nat.zero_add, mulN_eq, hl, ← cat0]
  unfold flatF movS
  by_cases h : j / 13 = w
  · rw [if_pos (by omega)]
    dsimp only
    rw [if_pos h, show j - w * 13 = j % 13 by omega, h]
  · rw [if_neg (by omega)]
    dsimp only
    rw [if_neg h]
theorem un_scn1 (s : Scn) : unScn [.sl s.n1 13 (flatF 13 fun i => (s.S i).row), .sl s.n2 2 (flatF 2 fun i => (s.T i).row), .sl s.n3 8 (flatF 8 fun i => (s.G i).row), .sl s.n4 10 (flatF 10 fun i => (s.K i).row), .sl s.n5 6 (flatF 6 fun i => (s.L i).row), .int .i64 s.a, .int .i64 s.b, .int .i64 s.c, .flt s.e0, .flt s.e1, .flt s.e2, .flt s.e3, .flt s.e4, .flt s.e5, .flt s.e6, .flt s.e7, .flt s.e8, .flt s.e9] = s := un_scn s
theorem un_scn2 (s : Scn) (w x y z : Nat) : unScn [.sl (0 + s.n1) 13 (flatF 13 fun i => ((movS s w x y z).S i).row), .sl s.n2 2 (flatF 2 fun i => (s.T i).row), .sl s.n3 8 (flatF 8 fun i => (s.G i).row), .sl s.n4 10 (flatF 10 fun i => (s.K i).row), .sl s.n5 6 (flatF 6 fun i => (s.L i).row), .int .i64 s.a, .int .i64 s.b, .int .i64 s.c, .flt s.e0, .flt s.e1, .flt s.e2, .flt s.e3, .flt s.e4, .flt s.e5, .flt s.e6, .flt s.e7, .flt s.e8, .flt s.e9] = movS s w x y z := by
  rw [Nat.zero_add]; exact un_scn (movS s w x y z)
theorem mov_row (s : Scn) (w x y z : Nat) : [AV.sl (0 + s.n1) 13 (flatF 13 fun i => ((movS s w x y z).S i).row), .sl s.n2 2 (flatF 2 fun i => (s.T i).row), .sl s.n3 8 (flatF 8 fun i => (s.G i).row), .sl s.n4 10 (flatF 10 fun i => (s.K i).row), .sl s.n5 6 (flatF 6 fun i => (s.L i).row), .int .i64 s.a, .int .i64 s.b, .int .i64 s.c, .flt s.e0, .flt s.e1, .flt s.e2, .flt s.e3, .flt s.e4, .flt s.e5, .flt s.e6, .flt s.e7, .flt s.e8, .flt s.e9] = (movS s w x y z).row := by
  rw [Nat.zero_add]; rfl
theorem scene_n1 {s : Scn} (h : sceneE s = 0) : (s.n1 : Int) ≤ 64 := by
  by_cases g : 64 < (s.n1 : Int)
  · rw [scene_0 (.inl g)] at h; cases h
  · omega
theorem mv_cell (s : Scn) (w x y z j : Nat) (f : Nat → AV) : flatF 13 (fun i => ((movS s w x y z).S i).row) j = setA (0 + mulN w 13) (mvShp (s.S w) x y z).row (catA (0 * 13) f (flatF 13 fun i => (s.S i).row)) (0 + j) := (congrFun (mv_cells s w x y z f) j).symm
theorem movedR_f : FnOk Tryz.prog 11 Tryz.f11 := ⟨Tryz.func11, by kernel_rfl⟩
theorem movedR_a (s : Scn) (w : Int) (n : Nat) (K : Nat → Int) (t : Int) (hpre : (∀ j, In64 (K j)) ∧ In64 t) : ACalls Tryz.prog 11 [.agg s.row, .int .i64 w, ints4 .i64 n K, .int .i64 t] (.tup [.agg (movO s w n K t).row, .int .i64 (movE s w n K t)]) := by
  refine acalls_of (inl := hasI (P := Tryz.prog) [] []) (base [sceneMayR_k, keysAtR_k, addR_k] [] []) 0 movedR_f (And.intro (by kernel_rfl) ?_)
  repeat' (first | refine And.intro ?_ ?_ | (with_reducible exact ff_elim) | (with_reducible exact tf_elim) | refine view_cat0 rfl rfl ?_ | refine num_elim ?_ | intro _ | (with_reducible rfl) | ((with_reducible refine lk_t ?_); exact rfl) | ((with_reducible refine pf_t ?_); exact rfl) | refine tell ?_ | exact True.intro | (refine IsT.of ?_; kernel_rfl))
  all_goals (try refine Tell.mk ?_)
  all_goals first | with_reducible rfl | with_reducible assumption | with_reducible exact isI_mk | exact scn_eq | exact hpre.1 _ | exact hpre.2 | (with_reducible refine gb_t ?_; with_reducible assumption) | (with_reducible refine gb_f ?_; with_reducible assumption) | skip
  all_goals (try simp only [show (Tab.cx.ti 61).size = 13 from rfl, show (Tab.cx.ti 61).bytes = 104 from rfl, intF_mk, tho_fold, un_scn1] at *)
  all_goals first | (exact (row0 (by assumption) (by assumption)).elim) | (simp only [row3 (by assumption) (by assumption)] at *) | (simp only [row2 (by assumption) (by assumption)] at *) | (simp only [row1 (by assumption) (by assumption)] at *) | skip
  all_goals (try simp only [mv_cells, un_scn2] at *)
  all_goals first | exact mov_row _ _ _ _ _ | skip
  all_goals (try simp only [bne_iff_ne, bne_eq_false_iff_eq, Bool.or_eq_true, Bool.or_eq_false_iff, decide_eq_true_eq, decide_eq_false_iff_not, ne_eq, ge_iff_le, gt_iff_lt, mulN_eq] at *)
  all_goals (try have hn := scene_n1 (s := s) (by assumption))
  all_goals (try have hw : 0 ≤ w ∧ w < (s.n1 : Int) := (by omega))
  all_goals first | omega | (rw [Nat.zero_mul]; exact Nat.zero_le _) | ((show 0 + w.toNat * 13 + 13 ≤ (0 + s.n1) * 13); omega) | skip
  all_goals first | (rw [(mov_1 (by assumption)).2]; rfl) | (rw [(mov_1 (by assumption)).1]; done) | (rw [(mov_2 (by assumption) (by assumption)).2]; rfl) | (rw [(mov_2 (by assumption) (by assumption)).1]; done) | (rw [(mov_3 (by assumption) (by assumption) (by assumption)).2]; rfl) | (rw [(mov_3 (by assumption) (by assumption) (by assumption)).1]; done) | (rw [(mov_5 (by assumption) (by assumption) (by assumption) (by assumption)).2]; rfl) | (rw [(mov_5 (by assumption) (by assumption) (by assumption) (by assumption)).1]; done) | (rw [(mov_6 (by assumption) (by assumption) (by assumption) (by assumption)).1]; done) | (rw [(mov_6 (by assumption) (by assumption) (by assumption) (by assumption)).2]; first | rfl | (rw [← mulN_eq]; exact mv_cell _ _ _ _ _ _ _) | (rw [Nat.zero_add]; rfl)) | trace_state
end Go.Proofs.YtpmmabaecldmkaaGreat
/- scene.Copy. -/
namespace Go.Proofs.YtpmmabaecldmkaaGreat
open Go.RowKit Ev
set_option linter.unusedVariables false
set_option linter.unusedSimpArgs false
set_option maxRecDepth 20000
set_option maxHeartbeats 4000000

theorem view_at1 {nm : Bool} {sz o : Nat} {row : Nat → List AV} {i : Nat} {K : AV → Prop} (v : AV) (ho : Nat.blt o sz = true) (hv : (row i).getD o .any = v) (h : nameE nm v K) : nameE nm (flatF sz row (0 + mulN (i : Int).toNat sz + o)) K := by
  have ho := Nat.le_of_ble_eq_true ho
  rw [Nat.zero_add, mulN_eq, Int.toNat_natCast, flat_at ho, hv]
  exact h
theorem set_cell {sz o i j : Nat} {row : Nat → List AV} {v : AV} (ho : Nat.blt o sz = true) (hv : (row i).getD o .any = v) : flatF sz row j = if j = 0 + mulN (i : Int).toNat sz + o then v else flatF sz row j := by
  have ho := Nat.le_of_ble_eq_true ho
  split
  · rename_i h
    subst h
    rw [Nat.zero_add, mulN_eq, Int.toNat_natCast, flat_at ho, hv]
  · rfl
theorem orE_00 {e f : Int} (h : orE e f = 0) : e = 0 ∧ f = 0 := by
  unfold orE at h
  split at h
  · exact ⟨‹_›, h⟩
  · exact absurd h ‹_›
theorem scene_lim {s : Scn} (h : sceneE s = 0) : s.lim := by
  unfold Scn.lim
  by_cases g : 64 < (s.n1 : Int) ∨ 8 < (s.n2 : Int) ∨ 2 < (s.n3 : Int) ∨ 16 < (s.n4 : Int) ∨ 4 < (s.n5 : Int)
  · rw [scene_0 g] at h; cases h
  · omega
theorem named_00 {e s : Int} {n : Nat} (h : named e s n = 0) : e = 0 ∧ s < (n : Int) := by
  unfold named at h
  split at h
  · exact absurd h ‹_›
  · split at h
    · cases h
    · omega
/-- What is known of a scene that may be. -/
structure SOk (s : Scn) : Prop where
  lim : s.lim
  k : ∀ i, i < s.n4 → (s.K i).err = 0
  h : ∀ i, i < s.n1 → (s.S i).err = 0 ∧ (s.S i).s < (s.n4 : Int)
  t : ∀ i, i < s.n2 → solidE (s.T i).n (s.T i).P (s.T i).s = 0 ∧ (s.T i).s < (s.n4 : Int)
  g : ∀ i, i < s.n3 → (s.G i).err = 0 ∧ (s.G i).s < (s.n4 : Int)
  l : ∀ i, i < s.n5 → (s.L i).err = 0
  sky : lightB s.a s.b s.c = true
  eye : eyeE s.e0 s.e1 s.e2 s.e3 s.e4 s.e5 s.e6 s.e7 s.e8 s.e9 = 0
theorem scene_ok {s : Scn} (h : sceneE s = 0) : SOk s := by
  have hl := scene_lim h
  rw [scene_l hl] at h
  obtain ⟨h1, h⟩ := orE_00 h
  obtain ⟨h2, h⟩ := orE_00 h
  obtain ⟨h3, h⟩ := orE_00 h
  obtain ⟨h4, h⟩ := orE_00 h
  obtain ⟨h5, h⟩ := orE_00 h
  obtain ⟨h6, h⟩ := orE_00 h
  exact ⟨hl, fun i hi => firstE_all h1 hi, fun i hi => named_00 (firstE_all h2 hi), fun i hi => named_00 (firstE_all h3 hi), fun i hi => named_00 (firstE_all h4 hi), fun i hi => firstE_all h5 hi, (by split at h6 <;> first | assumption | cases h6), h⟩
theorem solidE_len {n : Nat} {P : Nat → Prt} {s : Int} (h : solidE n P s = 0) : 1 ≤ n ∧ n ≤ 16 := by
  by_cases g : (n : Int) < 1 ∨ 16 < (n : Int)
  · rw [solidE_5 g] at h; cases h
  · omega
theorem fieldE_len {w h : Int} {x y z d n : Nat} {H : Nat → Int} {s : Int} (h0 : fieldE w h x y z d n H s = 0) : Grid w h n ∧ n ≤ 64 := by
  have g : ¬ (w < 2 ∨ h < 2 ∨ 8 < w ∨ 8 < h) := fun c => by rw [fieldE_4 c] at h0; cases h0
  by_cases e : (n : Int) = w * h
  · have : w * h ≤ 8 * 8 := Int.mul_le_mul (by omega) (by omega) (by omega) (by omega)
    exact ⟨⟨by omega, by omega, by omega, by omega, e⟩, by omega⟩
  · rw [fieldE_5 g e] at h0; cases h0
theorem SOk.tn {s : Scn} (h : SOk s) {i : Nat} (hi : i < s.n2) : (s.T i).n ≤ 1000000 := by have := solidE_len (h.t i hi).1; omega
theorem SOk.gn {s : Scn} (h : SOk s) {i : Nat} (hi : i < s.n3) : (s.G i).n ≤ 1000000 := by have := (fieldE_len (h.g i hi).1).2; omega
theorem copyO_f : FnOk Tryz.prog 21 Tryz.f21 := ⟨Tryz.func21, by kernel_rfl⟩
theorem copyO_a (s : Scn) (hpre : sceneE s = 0) : MCalls Tryz.prog 21 ([.agg s.row]) [] (.agg [.os 0 13 0 s.n1, .os 1 2 0 s.n2, .os 2 8 0 s.n3, .sl s.n4 10 (flatF 10 fun i => (s.K i).row), .sl s.n5 6 (flatF 6 fun i => (s.L i).row), .int .i64 s.a, .int .i64 s.b, .int .i64 s.c, .flt s.e0, .flt s.e1, .flt s.e2, .flt s.e3, .flt s.e4, .flt s.e5, .flt s.e6, .flt s.e7, .flt s.e8, .flt s.e9]) [.arr (s.n1 * 13) (flatF 13 fun i => (s.S i).row), .arr (s.n2 * 2) (flatF 2 fun i => (s.T i).row), .arr (s.n3 * 8) (flatF 8 fun i => (s.G i).row)] := by
  refine mcallsF_of (inl := hasI (P := Tryz.prog) [] [cloShapeM_m, cloSolidM_m, cloFieldM_m]) (base [cloSkin_k, cloLamp_k, cloPart_k, cloInt_k] [] [cloShapeM_m, cloSolidM_m, cloFieldM_m]) 0 copyO_f (And.intro (by kernel_rfl) ?_)
  repeat' (first | refine And.intro ?_ ?_ | (with_reducible exact ff_elim) | (with_reducible exact tf_elim) | refine' rho_mk [_, _, _] ?_ | refine num_elim ?_ | intro _ | (with_reducible rfl) | ((with_reducible refine lk_t ?_); exact rfl) | ((with_reducible refine pf_t ?_); exact rfl) | refine tell ?_ | exact True.intro | (refine IsT.of ?_; kernel_rfl))
  all_goals (try (refine loop_keep [1, 2, 27] [0, 1, 4, 22] ?_; refine LoopI.mk ({i : Nat // i ≤ s.n2}) (fun i => [(28, .int .i64 i.1)]) (fun i => [(19, .arr (s.n2 * 2) (flatF 2 fun i => (s.T i).row))]) (fun i => s.n2 - i.1) (⟨0, Nat.zero_le _⟩) (wk_mk [some 19, some 0, some 1, some 4, some 22] ?_) (fun ⟨i, hi⟩ => ?_)))
  repeat' (first | refine And.intro ?_ ?_ | (with_reducible exact ff_elim) | (with_reducible exact tf_elim) | refine stp_mk [some 19, some 0, some 1, some 4, some 22] (⟨i + 1, ?_⟩) ?_ ?_ | refine view_at1 _ rfl rfl ?_ | refine' rho_mk [_, _, _] ?_ | refine num_elim ?_ | intro _ | (with_reducible rfl) | ((with_reducible refine lk_t ?_); exact rfl) | ((with_reducible refine pf_t ?_); exact rfl) | refine tell ?_ | exact True.intro | (refine IsT.of ?_; kernel_rfl))
  all_goals (try (refine loop_keep [1, 2, 46] [0, 1, 4, 19] ?_; refine LoopI.mk ({k : Nat // k ≤ s.n3}) (fun k => [(47, .int .i64 k.1)]) (fun k => [(22, .arr (s.n3 * 8) (flatF 8 fun i => (s.G i).row))]) (fun k => s.n3 - k.1) (⟨0, Nat.zero_le _⟩) (wk_mk [some 22, some 0, some 1, some 4, some 19] ?_) (fun ⟨k, hk⟩ => ?_)))
  repeat' (first | refine And.intro ?_ ?_ | (with_reducible exact ff_elim) | (with_reducible exact tf_elim) | refine stp_mk [some 22, some 0, some 1, some 4, some 19] (⟨k + 1, ?_⟩) ?_ ?_ | refine view_at1 _ rfl rfl ?_ | refine' rho_mk [_, _, _] ?_ | refine num_elim ?_ | intro _ | (with_reducible rfl) | ((with_reducible refine lk_t ?_); exact rfl) | ((with_reducible refine pf_t ?_); exact rfl) | refine tell ?_ | exact True.intro | (refine IsT.of ?_; kernel_rfl))
  all_goals (try refine Tell.mk ?_)
  all_goals first | with_reducible rfl | with_reducible exact isI_mk | with_reducible exact Nat.le_refl _ | skip
  all_goals (have hs := scene_ok hpre; have hl := hs.lim; unfold Scn.lim at hl)
  all_goals first | omega | exact set_cell rfl rfl | skip
  all_goals (try dsimp only at *)
  all_goals (try simp only [decide_eq_true_eq, decide_eq_false_iff_not] at *)
  all_goals first | omega | exact hs.tn (by omega) | exact hs.gn (by omega) | (rw [mulN_eq, Int.toNat_natCast]; omega) | (rw [wrapI (by omega) (by omega)]; omega) | rfl | skip
  trace_state
def copyM (s : Scn) : MCon Tryz.prog :=
  ⟨21, fun args own => match args with | [.agg _] => .ok [] [.agg s.row] [] (some (sceneE s = 0)) (.agg [.os 0 13 0 s.n1, .os 1 2 0 s.n2, .os 2 8 0 s.n3, .sl s.n4 10 (flatF 10 fun i => (s.K i).row), .sl s.n5 6 (flatF 6 fun i => (s.L i).row), .int .i64 s.a, .int .i64 s.b, .int .i64 s.c, .flt s.e0, .flt s.e1, .flt s.e2, .flt s.e3, .flt s.e4, .flt s.e5, .flt s.e6, .flt s.e7, .flt s.e8, .flt s.e9]) [.arr (s.n1 * 13) (flatF 13 fun i => (s.S i).row), .arr (s.n2 * 2) (flatF 2 fun i => (s.T i).row), .arr (s.n3 * 8) (flatF 8 fun i => (s.G i).row)] | _ => .no, by
  intro args own ks cargs rows p r rows2 h hp
  split at h
  · cases h; exact copyO_a s hp
  · cases h⟩
end Go.Proofs.YtpmmabaecldmkaaGreat
