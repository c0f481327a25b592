/- Keys: whether they may be, where something is. -/
import Derived.Test.YtokojkhladgojaaEvLoop
import Derived.Test.YtokojkhladgojaaEvNum
import Derived.Test.YtokojkhladgojaaTab
namespace Go.Proofs.Ytokojkhladgojaa
open Go.RowKit Ev
set_option linter.unusedVariables false
set_option linter.unusedSimpArgs false
set_option maxRecDepth 20000
set_option maxHeartbeats 4000000

theorem base (l : List (Con Try.prog)) (m : List (Inl Try.prog)) (k : List (MCon Try.prog)) : Base Try.prog Tab.cx (conL l) (inlL m) (mcL k) := ⟨Tab.cx_ok, conL_ok l, by kernel_rfl, inlL_ok m, mcL_ok k⟩
@[reducible] def ints4 (k : IntKind) (n : Nat) (F : Nat → Int) : AV := .sl n 4 fun j => .int k (F j)
@[irreducible] def key1 (F : Nat → Int) (i : Nat) : Int :=
  if F (4 * i) < 0 ∨ 1000000 < F (4 * i) ∨ (0 < i ∧ F (4 * i) ≤ F (4 * (i - 1))) then 6 else
  if F (4 * i + 1) < -1000000 ∨ 1000000 < F (4 * i + 1) ∨ F (4 * i + 2) < -1000000 ∨ 1000000 < F (4 * i + 2) ∨ F (4 * i + 3) < -1000000 ∨ 1000000 < F (4 * i + 3) then 1 else 0
/-- The first fault of m keys from i on. -/
def keysF (F : Nat → Int) : Nat → Nat → Int
  | 0, _ => 0
  | m + 1, i => if key1 F i = 0 then keysF F m (i + 1) else key1 F i
theorem keysF_s (F : Nat → Int) (m i : Nat) : keysF F (m + 1) i = if key1 F i = 0 then keysF F m (i + 1) else key1 F i := rfl
theorem keysF_0 (F : Nat → Int) (i : Nat) : keysF F 0 i = 0 := rfl
attribute [irreducible] keysF
@[irreducible] def keysE (n : Nat) (F : Nat → Int) : Int := if n < 1 ∨ 32 < n then 5 else keysF F n 0
theorem le_by {b M : Nat} {c : Nat} (h : b = c) (h' : c ≤ M) : b ≤ M := by rw [h]; exact h'
theorem of_gbt {p : Prop} [Decidable p] (h : gb (decide p) true = true) : p := of_decide_eq_true h
theorem m4 (i : Nat) : mulN i 4 = 4 * i := by rw [mulN_eq]; omega
theorem ti1 {i : Nat} (h : 0 < (i : Int)) (h' : i ≤ 4611686018427387904) : (IntKind.i64.wrap ((i : Int) - 1)).toNat = i - 1 := by
  rw [wrapI (by omega) (by omega)]; omega
theorem keysE_5 {n : Nat} {F : Nat → Int} (h : (n : Int) < 1 ∨ 32 < (n : Int)) : keysE n F = 5 := by unfold keysE; rw [if_pos (by omega)]
theorem keys_bad {n i : Nat} {F : Nat → Int} (hn : 1 ≤ (n : Int) ∧ (n : Int) ≤ 32) (hk : keysF F n 0 = keysF F (n - i) i) (hi : (i : Int) < n) {e : Int} (h1 : key1 F i = e) (he : e ≠ 0) : keysE n F = e := by
  unfold keysE
  rw [if_neg (by omega), hk, show n - i = (n - i - 1) + 1 by omega, keysF_s, if_neg (by rw [h1]; exact he), h1]
theorem keys_step {n i : Nat} {F : Nat → Int} (hk : keysF F n 0 = keysF F (n - i) i) (hi : (i : Int) < n) (h1 : key1 F i = 0) : keysF F n 0 = keysF F (n - (i + 1)) (i + 1) := by
  rw [hk, show n - i = (n - (i + 1)) + 1 by omega, keysF_s, if_pos h1]
theorem keys_end {n i : Nat} {F : Nat → Int} (hn : 1 ≤ (n : Int) ∧ (n : Int) ≤ 32) (hk : keysF F n 0 = keysF F (n - i) i) (hi : (n : Int) ≤ i) : keysE n F = 0 := by
  unfold keysE
  rw [if_neg (by omega), hk, show n - i = 0 by omega, keysF_0]
theorem key1_6 {F : Nat → Int} {i : Nat} (h : (F (4 * i) < 0 ∨ 1000000 < F (4 * i)) ∨ 0 < (i : Int) ∧ F (4 * i) ≤ F (4 * (i - 1))) : key1 F i = 6 := by
  unfold key1; rw [if_pos (by omega)]
theorem key1_1 {F : Nat → Int} {i : Nat} (h : (0 ≤ F (4 * i) ∧ F (4 * i) ≤ 1000000) ∧ ((i : Int) ≤ 0 ∨ F (4 * (i - 1)) < F (4 * i)))
    (h1 : F (4 * i + 1) < -1000000 ∨ 1000000 < F (4 * i + 1) ∨ F (4 * i + 2) < -1000000 ∨ 1000000 < F (4 * i + 2) ∨ F (4 * i + 3) < -1000000 ∨ 1000000 < F (4 * i + 3)) : key1 F i = 1 := by
  unfold key1; rw [if_neg (by omega), if_pos h1]
theorem key1_0 {F : Nat → Int} {i : Nat} (h : (0 ≤ F (4 * i) ∧ F (4 * i) ≤ 1000000) ∧ ((i : Int) ≤ 0 ∨ F (4 * (i - 1)) < F (4 * i)))
    (h1 : ¬ (F (4 * i + 1) < -1000000 ∨ 1000000 < F (4 * i + 1) ∨ F (4 * i + 2) < -1000000 ∨ 1000000 < F (4 * i + 2) ∨ F (4 * i + 3) < -1000000 ∨ 1000000 < F (4 * i + 3))) : key1 F i = 0 := by
  unfold key1; rw [if_neg (by omega), if_neg h1]
theorem prev {F : Nat → Int} {i n : Nat} {c : Prop} (hi : i ≤ n) (hn : (n : Int) ≤ 32) (h : c ∧ ((i : Int) ≤ 0 ∨ F (4 * (IntKind.i64.wrap ((i : Int) - 1)).toNat) < F (4 * i))) : c ∧ ((i : Int) ≤ 0 ∨ F (4 * (i - 1)) < F (4 * i)) := by
  refine ⟨h.1, ?_⟩
  by_cases h0 : 0 < (i : Int)
  · rw [ti1 h0 (by omega)] at h; exact h.2
  · exact .inl (by omega)
theorem prev' {F : Nat → Int} {i n : Nat} {c : Prop} (hi : i ≤ n) (hn : (n : Int) ≤ 32) (h : c ∨ 0 < (i : Int) ∧ F (4 * i) ≤ F (4 * (IntKind.i64.wrap ((i : Int) - 1)).toNat)) : c ∨ 0 < (i : Int) ∧ F (4 * i) ≤ F (4 * (i - 1)) := by
  rcases h with h | h
  · exact .inl h
  · rw [ti1 h.1 (by omega)] at h; exact .inr h
theorem reelMay_f : FnOk Try.prog 5 Try.f5 := ⟨Try.func5, by kernel_rfl⟩
theorem reelMay_a (n : Nat) (F : Nat → Int) (hpre : ∀ j, In64 (F j)) : ACalls Try.prog 5 [ints4 .i64 n F] (.int .i64 (keysE n F)) := by
  refine acalls_of (inl := hasI (P := Try.prog) [] []) (base [] [] []) 0 reelMay_f (And.intro (by kernel_rfl) ?_)
  repeat' (first | refine And.intro ?_ ?_ | (with_reducible exact ff_elim) | (with_reducible exact tf_elim) | refine num_elim ?_ | intro _ | (with_reducible rfl) | ((with_reducible refine lk_t ?_); exact rfl) | refine tell ?_ | exact True.intro | (refine IsT.of ?_; kernel_rfl))
  all_goals (try (refine loop_keep [0, 15, 16] [] ?_; refine LoopI.mk ({i : Nat // i ≤ n ∧ keysF F n 0 = keysF F (n - i) i}) (fun i => [(17, .int .i64 i.1)]) (fun _ => []) (fun i => n - i.1) (⟨0, Nat.zero_le _, rfl⟩) (wk_mk [] ?_) (fun ⟨i, hi, hk⟩ => ?_)))
  repeat' (first | refine And.intro ?_ ?_ | (with_reducible exact ff_elim) | (with_reducible exact tf_elim) | refine stp_mk [] (⟨i + 1, ?_, ?_⟩) ?_ ?_ | refine Or.inl ⟨4, ?_⟩ | refine num_lit 0 (by decide) ?_ | refine num_lit 1 (by decide) ?_ | refine num_lit 2 (by decide) ?_ | refine num_lit 3 (by decide) ?_ | refine num_lit 4 (by decide) ?_ | refine num_lit 5 (by decide) ?_ | refine num_lit 6 (by decide) ?_ | refine num_lit 7 (by decide) ?_ | refine num_lit 8 (by decide) ?_ | (intro h; exact absurd h (by decide)) | refine num_elim ?_ | intro _ | (with_reducible rfl) | ((with_reducible refine lk_t ?_); exact rfl) | refine tell ?_ | exact True.intro | (refine IsT.of ?_; kernel_rfl))
  all_goals (try refine Tell.mk ?_)
  all_goals first | with_reducible rfl | with_reducible exact isI_mk | with_reducible assumption | (with_reducible refine gb_t ?_; with_reducible assumption) | (with_reducible refine gb_f ?_; with_reducible assumption) | ((with_reducible refine lk_t ?_); rfl) | ((with_reducible refine okF_t ?_); kernel_rfl) | ((with_reducible refine ks_t ?_); rfl) | ((with_reducible refine pk_t ?_); rfl) | skip
  all_goals (try dsimp only at *)
  all_goals (try simp only [decide_eq_true_eq, decide_eq_false_iff_not, Bool.or_eq_true, Bool.or_eq_false_iff, Bool.and_eq_true, Bool.and_eq_false_iff, Bool.not_eq_true', Bool.not_eq_false', bne_iff_ne, ne_eq, beq_iff_eq, bne_eq_false_iff_eq, beq_eq_false_iff_ne, Int.not_lt, Int.not_le, gt_iff_lt, ge_iff_le] at *)
  all_goals (try simp only [mulN1, Nat.add_zero, Nat.zero_add, Nat.mul_one, Int.toNat_natCast, avInt_int, intF_mk] at *)
  all_goals first | with_reducible rfl | with_reducible exact nums_N | omega | ((with_reducible refine by_le 1 rfl ?_); omega) | ((with_reducible refine by_le 8 rfl ?_); omega) | (rw [wrapI (by omega) (by omega)] <;> omega) | skip
  all_goals (try simp only [m4] at *)
  all_goals first | exact keysE_5 (by assumption) | (refine le_by (c := 4) rfl ?_; decide) | ((have h0 : 0 < (i : Int) := by grind [gb]); rw [wrapI (by omega) (by omega)]; omega) | (refine ⟨by assumption, ?_⟩; (with_reducible refine gb_t ?_); rw [decide_eq_true_eq]; assumption) | exact keys_end (by assumption) (by assumption) (by assumption) | skip
  all_goals (have hn : 1 ≤ (n : Int) ∧ (n : Int) ≤ 32 := by assumption)
  all_goals first | exact keys_bad hn hk (by assumption) (key1_6 (prev' hi hn.2 (by assumption))) (by decide) | exact keys_bad hn hk (by assumption) (key1_1 (prev hi hn.2 (by assumption)) (by omega)) (by decide) | exact keys_step hk (by assumption) (key1_0 (prev hi hn.2 (by assumption)) (by omega)) | (trace_state; fail)
def reelMay_r (n : Nat) (F : Nat → Int) : AV := .int .i64 (keysE n F)
def reelMay_p (n : Nat) (F : Nat → Int) : Prop := ∀ j, In64 (F j)
def reelMay_k : Con Try.prog := ⟨5, fun args => match args with | [.sl n 4 g_F] => .ok (some (IsI .i64 g_F ∧ reelMay_p n (intF g_F))) (reelMay_r n (intF g_F)) | _ => .no, by
  intro args p r h hp
  split at h
  · cases h; obtain ⟨h_F, hp⟩ := hp; have e_F := h_F.eq; rw [e_F]; exact reelMay_a _ _ hp
  · cases h⟩
theorem floor_lt {a b : Int} (hb : 0 < b) (h : a.tmod b < 0) : a / b = a.tdiv b - 1 := by
  have h1 := Int.tmod_add_mul_tdiv a b
  have h2 := Int.lt_tmod_of_pos a hb
  refine ((Int.ediv_emod_unique (r := a.tmod b + b) hb).2 ⟨?_, by omega, by omega⟩).1
  rw [Int.mul_sub, Int.mul_one]; omega
theorem floor_ge {a b : Int} (hb : 0 < b) (h : 0 ≤ a.tmod b) : a / b = a.tdiv b := by
  have h1 := Int.tmod_add_mul_tdiv a b
  have h2 := Int.tmod_lt_of_pos a hb
  exact ((Int.ediv_emod_unique (r := a.tmod b) hb).2 ⟨h1, h, h2⟩).1
theorem div_bd {a b M : Int} (hb : 0 < b) (h1 : -M ≤ a) (h2 : a ≤ M) (hM : 0 ≤ M) : -M ≤ a / b ∧ a / b ≤ M := by
  constructor
  · rw [Int.le_ediv_iff_mul_le hb]
    have := Int.mul_le_mul_of_nonneg_left (show (1 : Int) ≤ b by omega) hM
    rw [Int.neg_mul]; omega
  · have : a / b < M + 1 := by
      rw [Int.ediv_lt_iff_lt_mul hb]
      have := Int.mul_le_mul_of_nonneg_left (show (1 : Int) ≤ b by omega) (show 0 ≤ M + 1 by omega)
      omega
    omega
theorem tdiv_bd {a b : Int} (hb : 0 < b) (h : In64 a) : In64 (a.tdiv b) := by
  have h1 : (a.tdiv b).natAbs ≤ a.natAbs := by rw [Int.natAbs_tdiv]; exact Nat.div_le_self _ _
  have h2 : 0 ≤ a → 0 ≤ a.tdiv b := fun h => Int.tdiv_nonneg h (by omega)
  rw [in64_iff] at *
  have h3 : a < 0 → a.tdiv b ≤ 0 := fun h => by
    have := Int.tmod_add_mul_tdiv a b
    by_cases g : 0 < a.tdiv b
    · exfalso
      have h4 := Int.mul_pos hb g
      have := Int.lt_tmod_of_pos a hb
      have := Int.mul_le_mul_of_nonneg_left (show (1 : Int) ≤ a.tdiv b by omega) (show 0 ≤ b by omega)
      omega
    · omega
  omega
theorem mul_bd {x p A B : Int} (h1 : -A ≤ x) (h2 : x ≤ A) (h3 : 0 ≤ p) (h4 : p ≤ B) (hA : 0 ≤ A) : -(A * B) ≤ x * p ∧ x * p ≤ A * B := by
  have e1 := Int.mul_le_mul_of_nonneg_right h1 h3
  have e2 := Int.mul_le_mul_of_nonneg_right h2 h3
  have e3 := Int.mul_le_mul_of_nonneg_left h4 hA
  rw [Int.neg_mul] at e1
  omega
theorem reelFloor_f : FnOk Try.prog 11 Try.f11 := ⟨Try.func11, by kernel_rfl⟩
theorem reelFloor_a (a b : Int) (hpre : In64 a ∧ 0 < b ∧ In64 b) : ACalls Try.prog 11 [.int .i64 a, .int .i64 b] (.int .i64 (a / b)) := by
  refine acalls_of (inl := hasI (P := Try.prog) [] []) (base [] [] []) 0 reelFloor_f (And.intro (by kernel_rfl) ?_)
  repeat' (first | refine And.intro ?_ ?_ | (with_reducible exact ff_elim) | (with_reducible exact tf_elim) | refine num_elim ?_ | intro _ | (with_reducible rfl) | ((with_reducible refine lk_t ?_); exact rfl) | refine tell ?_ | exact True.intro | (refine IsT.of ?_; kernel_rfl))
  all_goals (try refine Tell.mk ?_)
  all_goals first | with_reducible rfl | with_reducible exact isI_mk | with_reducible assumption | (with_reducible refine gb_t ?_; with_reducible assumption) | (with_reducible refine gb_f ?_; with_reducible assumption) | ((with_reducible refine lk_t ?_); rfl) | ((with_reducible refine okF_t ?_); kernel_rfl) | ((with_reducible refine ks_t ?_); rfl) | ((with_reducible refine pk_t ?_); rfl) | skip
  all_goals (try dsimp only at *)
  all_goals (try simp only [decide_eq_true_eq, decide_eq_false_iff_not, Bool.or_eq_true, Bool.or_eq_false_iff, Bool.and_eq_true, Bool.and_eq_false_iff, Bool.not_eq_true', Bool.not_eq_false', bne_iff_ne, ne_eq, beq_iff_eq, bne_eq_false_iff_eq, beq_eq_false_iff_ne, Int.not_lt, Int.not_le, gt_iff_lt, ge_iff_le] at *)
  all_goals (try simp only [mulN1, Nat.add_zero, Nat.zero_add, Nat.mul_one, Int.toNat_natCast, avInt_int] at *)
  all_goals first | with_reducible rfl | with_reducible exact nums_N | omega | ((with_reducible refine by_le 1 rfl ?_); omega) | ((with_reducible refine by_le 8 rfl ?_); omega) | (rw [wrapI (by omega) (by omega)] <;> omega) | skip
  all_goals obtain ⟨ha, hb, hb'⟩ := hpre
  all_goals (have h1 := tdiv_bd hb ha; have h2 := div_bd hb (M := 9223372036854775808) (by have := ha.1; omega) (by have := ha.2; omega) (by decide); rw [in64_iff] at h1)
  all_goals first | (have h3 := floor_lt hb (by assumption); rw [wrapI h1.1 h1.2, wrapI (by omega) (by omega), h3]) | (have h3 := floor_ge hb (by assumption); rw [wrapI h1.1 h1.2, h3])
def reelFloor_k : Con Try.prog := ⟨11, fun args => match args with | [.int .i64 a, .int .i64 b] => .ok (some (In64 a ∧ 0 < b ∧ In64 b)) (.int .i64 (a / b)) | _ => .no, by
  intro args p r h hp
  split at h
  · cases h; exact reelFloor_a _ _ hp
  · cases h⟩
@[irreducible] def btw (a b p q : Int) : Int := a + (2 * (b - a) * p + q) / (2 * q)
theorem between_f : FnOk Try.prog 9 Try.f9 := ⟨Try.func9, by kernel_rfl⟩
theorem between_a (a b p q : Int) (hpre : (-1000000 ≤ a ∧ a ≤ 1000000) ∧ (-1000000 ≤ b ∧ b ≤ 1000000) ∧ (0 ≤ p ∧ p ≤ 1000000) ∧ (0 < q ∧ q ≤ 1000000)) : ACalls Try.prog 9 [.int .i64 a, .int .i64 b, .int .i64 p, .int .i64 q] (.int .i64 (btw a b p q)) := by
  refine acalls_of (inl := hasI (P := Try.prog) [] []) (base [reelFloor_k] [] []) 0 between_f (And.intro (by kernel_rfl) ?_)
  repeat' (first | refine And.intro ?_ ?_ | (with_reducible exact ff_elim) | (with_reducible exact tf_elim) | refine num_elim ?_ | intro _ | (with_reducible rfl) | ((with_reducible refine lk_t ?_); exact rfl) | refine tell ?_ | exact True.intro | (refine IsT.of ?_; kernel_rfl))
  all_goals (try refine Tell.mk ?_)
  all_goals first | with_reducible rfl | with_reducible exact isI_mk | with_reducible assumption | (with_reducible refine gb_t ?_; with_reducible assumption) | (with_reducible refine gb_f ?_; with_reducible assumption) | ((with_reducible refine lk_t ?_); rfl) | ((with_reducible refine okF_t ?_); kernel_rfl) | ((with_reducible refine ks_t ?_); rfl) | ((with_reducible refine pk_t ?_); rfl) | skip
  all_goals (try dsimp only at *)
  all_goals (try simp only [decide_eq_true_eq, decide_eq_false_iff_not, Bool.or_eq_true, Bool.or_eq_false_iff, Bool.and_eq_true, Bool.and_eq_false_iff, Bool.not_eq_true', Bool.not_eq_false', bne_iff_ne, ne_eq, beq_iff_eq, bne_eq_false_iff_eq, beq_eq_false_iff_ne, Int.not_lt, Int.not_le, gt_iff_lt, ge_iff_le] at *)
  all_goals (try simp only [mulN1, Nat.add_zero, Nat.zero_add, Nat.mul_one, Int.toNat_natCast, avInt_int] at *)
  all_goals first | with_reducible rfl | with_reducible exact nums_N | omega | ((with_reducible refine by_le 1 rfl ?_); omega) | ((with_reducible refine by_le 8 rfl ?_); omega) | (rw [wrapI (by omega) (by omega)] <;> omega) | skip
  all_goals obtain ⟨ha, hb, hp, hq⟩ := hpre
  all_goals (have e1 : IntKind.i64.wrap (b - a) = b - a := wrapI (by omega) (by omega))
  all_goals (have e2 : IntKind.i64.wrap (2 * (b - a)) = 2 * (b - a) := wrapI (by omega) (by omega))
  all_goals (have m1 := mul_bd (x := 2 * (b - a)) (p := p) (A := 4000000) (B := 1000000) (by omega) (by omega) hp.1 hp.2 (by decide))
  all_goals (have e3 : IntKind.i64.wrap (2 * (b - a) * p) = 2 * (b - a) * p := wrapI (by omega) (by omega))
  all_goals (have e4 : IntKind.i64.wrap (2 * (b - a) * p + q) = 2 * (b - a) * p + q := wrapI (by omega) (by omega))
  all_goals (have e5 : IntKind.i64.wrap (2 * q) = 2 * q := wrapI (by omega) (by omega))
  all_goals (have d1 := div_bd (a := 2 * (b - a) * p + q) (b := 2 * q) (M := 4000001000000) (by omega) (by omega) (by omega) (by decide))
  all_goals first | exact wrap_in _ | (rw [e5]; omega) | (rw [e1, e2, e3, e4, e5, wrapI (by omega) (by omega)]; unfold btw; rfl)
def between_k : Con Try.prog := ⟨9, fun args => match args with | [.int .i64 a, .int .i64 b, .int .i64 p, .int .i64 q] => .ok (some ((-1000000 ≤ a ∧ a ≤ 1000000) ∧ (-1000000 ≤ b ∧ b ≤ 1000000) ∧ (0 ≤ p ∧ p ≤ 1000000) ∧ (0 < q ∧ q ≤ 1000000))) (.int .i64 (btw a b p q)) | _ => .no, by
  intro args p r h hp
  split at h
  · cases h; exact between_a _ _ _ _ hp
  · cases h⟩
@[irreducible] def cmpV (x t : Int) : Int := if x < t then -1 else if t < x then 1 else 0
theorem isNaNi_f : FnOk Try.prog 10 Try.f10 := ⟨Try.func10, by kernel_rfl⟩
theorem isNaNi_a (x : Int) : ACalls Try.prog 10 [.int .i64 x] (.bool false) := by
  refine acalls_of (inl := hasI (P := Try.prog) [] []) (base [] [] []) 0 isNaNi_f (And.intro (by kernel_rfl) ?_)
  repeat' (first | refine And.intro ?_ ?_ | (with_reducible exact ff_elim) | (with_reducible exact tf_elim) | intro _ | (with_reducible rfl) | ((with_reducible refine lk_t ?_); exact rfl) | refine tell ?_ | exact True.intro | (refine IsT.of ?_; kernel_rfl))
  all_goals ((try refine Tell.mk ?_); first | with_reducible rfl | ((show (_ : Int) ≤ _); decide) | ((show (_ : Int) < _); decide) | (with_reducible refine gb_t ?_; with_reducible assumption) | with_reducible assumption | (with_reducible refine gb_f ?_; with_reducible assumption) | (simp only [gb, *, cond_true, cond_false]; done) | ((with_reducible refine ks_t ?_); rfl) | ((with_reducible refine pk_t ?_); rfl) | ((with_reducible refine lk_t ?_); rfl) | ((with_reducible refine okF_t ?_); kernel_rfl) | grind [gb])
def isNaNi_k : Con Try.prog := ⟨10, fun args => match args with | [.int .i64 x] => .ok (none) (.bool false) | _ => .no, by
  intro args p r h hp
  split at h
  · cases h; exact isNaNi_a _
  · cases h⟩
theorem cmpi_f : FnOk Try.prog 8 Try.f8 := ⟨Try.func8, by kernel_rfl⟩
theorem cmpi_a (x t : Int) : ACalls Try.prog 8 [.int .i64 x, .int .i64 t] (.int .i64 (cmpV x t)) := by
  refine acalls_of (inl := hasI (P := Try.prog) [] []) (base [isNaNi_k] [] []) 0 cmpi_f (And.intro (by kernel_rfl) ?_)
  repeat' (first | refine And.intro ?_ ?_ | (with_reducible exact ff_elim) | (with_reducible exact tf_elim) | intro _ | (with_reducible rfl) | ((with_reducible refine lk_t ?_); exact rfl) | refine tell ?_ | exact True.intro | (refine IsT.of ?_; kernel_rfl))
  all_goals ((try refine Tell.mk ?_); first | with_reducible rfl | ((show (_ : Int) ≤ _); decide) | ((show (_ : Int) < _); decide) | (with_reducible refine gb_t ?_; with_reducible assumption) | with_reducible assumption | (with_reducible refine gb_f ?_; with_reducible assumption) | (simp only [cmpV, *, cond_true, cond_false]; done) | ((with_reducible refine ks_t ?_); rfl) | ((with_reducible refine pk_t ?_); rfl) | ((with_reducible refine lk_t ?_); rfl) | ((with_reducible refine okF_t ?_); kernel_rfl) | grind [gb, cmpV])
def cmpi_k : Con Try.prog := ⟨8, fun args => match args with | [.int .i64 x, .int .i64 t] => .ok (none) (.int .i64 (cmpV x t)) | _ => .no, by
  intro args p r h hp
  split at h
  · cases h; exact cmpi_a _ _
  · cases h⟩
theorem cmpk_f : FnOk Try.prog 7 Try.f7 := ⟨Try.func7, by kernel_rfl⟩
theorem cmpk_a (x y z u t : Int) : ACalls Try.prog 7 [.agg [.int .i64 x, .int .i64 y, .int .i64 z, .int .i64 u], .int .i64 t] (.int .i64 (cmpV x t)) := by
  refine acalls_of (inl := hasI (P := Try.prog) [] []) (base [cmpi_k] [] []) 0 cmpk_f (And.intro (by kernel_rfl) ?_)
  repeat' (first | refine And.intro ?_ ?_ | (with_reducible exact ff_elim) | (with_reducible exact tf_elim) | intro _ | (with_reducible rfl) | ((with_reducible refine lk_t ?_); exact rfl) | refine tell ?_ | exact True.intro | (refine IsT.of ?_; kernel_rfl))
  all_goals ((try refine Tell.mk ?_); first | with_reducible rfl | ((show (_ : Int) ≤ _); decide) | ((show (_ : Int) < _); decide) | (with_reducible refine gb_t ?_; with_reducible assumption) | with_reducible assumption | (with_reducible refine gb_f ?_; with_reducible assumption) | (simp only [gb, *, cond_true, cond_false]; done) | ((with_reducible refine ks_t ?_); rfl) | ((with_reducible refine pk_t ?_); rfl) | ((with_reducible refine lk_t ?_); rfl) | ((with_reducible refine okF_t ?_); kernel_rfl) | grind [gb])
def cmpk_k : Con Try.prog := ⟨7, fun args => match args with | [.agg [.int .i64 x, .int .i64 y, .int .i64 z, .int .i64 u], .int .i64 t] => .ok (none) (.int .i64 (cmpV x t)) | _ => .no, by
  intro args p r h hp
  split at h
  · cases h; exact cmpk_a _ _ _ _ _
  · cases h⟩
/-- How many of the first n keys lie ahead of a time. -/
def lowN (F : Nat → Int) (t : Int) : Nat → Nat
  | 0 => 0
  | n + 1 => lowN F t n + if F (4 * n) < t then 1 else 0
theorem lowN_eq {F : Nat → Int} {t : Int} : ∀ {n i : Nat}, i ≤ n → (∀ k, k < i → F (4 * k) < t) → (∀ k, i ≤ k → k < n → t ≤ F (4 * k)) → lowN F t n = i
  | 0, i, h, _, _ => by unfold lowN; omega
  | n + 1, i, h, h1, h2 => by
    unfold lowN
    by_cases e : i = n + 1
    · subst e
      rw [lowN_eq (i := n) (Nat.le_refl _) (fun k hk => h1 k (by omega)) (fun k _ _ => by omega), if_pos (h1 n (by omega))]
    · rw [lowN_eq (i := i) (by omega) h1 (fun k hk hk' => h2 k hk (by omega)), if_neg (by have := h2 n (by omega) (by omega); omega)]; rfl
attribute [irreducible] lowN
structure Rise (n : Nat) (F : Nat → Int) : Prop where
  up : ∀ i, i + 1 < n → F (4 * i) < F (4 * (i + 1))
theorem Rise.lt {n : Nat} {F : Nat → Int} (h : Rise n F) : ∀ {d i : Nat}, i + d + 1 < n → F (4 * i) < F (4 * (i + d + 1))
  | 0, i, hd => h.up i hd
  | d + 1, i, hd => Int.lt_trans (h.lt (d := d) (i := i) (by omega)) (h.up (i + d + 1) hd)
theorem Rise.le {n : Nat} {F : Nat → Int} (h : Rise n F) {i j : Nat} (hij : i ≤ j) (hj : j < n) : F (4 * i) ≤ F (4 * j) := by
  by_cases e : i = j
  · subst e; exact Int.le_refl _
  · have := h.lt (d := j - i - 1) (i := i) (by omega)
    rw [show i + (j - i - 1) + 1 = j by omega] at this; omega
structure Mid (n : Nat) (F : Nat → Int) (t : Int) (i j : Nat) : Prop where
  ij : i ≤ j
  jn : j ≤ n
  lo : ∀ k, k < i → F (4 * k) < t
  hi : ∀ k, j ≤ k → k < n → t ≤ F (4 * k)
@[irreducible] def midS (F : Nat → Int) (t : Int) (i j : Nat) : Nat × Nat := if F (4 * ((i + j) / 2)) < t then ((i + j) / 2 + 1, j) else (i, (i + j) / 2)
theorem midS_t {F : Nat → Int} {t : Int} {i j : Nat} (h : F (4 * ((i + j) / 2)) < t) : midS F t i j = ((i + j) / 2 + 1, j) := by unfold midS; rw [if_pos h]
theorem midS_f {F : Nat → Int} {t : Int} {i j : Nat} (h : ¬ F (4 * ((i + j) / 2)) < t) : midS F t i j = (i, (i + j) / 2) := by unfold midS; rw [if_neg h]
theorem half {i j : Nat} (h : i + j ≤ 2000) : IntKind.i64.wrap ((IntKind.u64.wrap (IntKind.i64.wrap ((i : Int) + (j : Int)))).fdiv (2 ^ min (Int.toNat 1) IntKind.u64.bits)) = (((i + j) / 2 : Nat) : Int) := by
  have e1 : IntKind.i64.wrap ((i : Int) + (j : Int)) = (i : Int) + j := wrapI (by omega) (by omega)
  have e2 : IntKind.u64.wrap ((i : Int) + (j : Int)) = (i : Int) + j := by
    simp only [IntKind.wrap, IntKind.signed, IntKind.bits]; simp; omega
  have e3 : (2 : Int) ^ min (Int.toNat 1) IntKind.u64.bits = 2 := by decide
  rw [e1, e2, e3, show ((i : Int) + j).fdiv 2 = (((i + j) / 2 : Nat) : Int) from by rw [Int.fdiv_eq_ediv_of_nonneg _ (by decide)]; omega]
  exact wrapI (by omega) (by omega)
theorem cmpV_lt {x t : Int} : (cmpV x t < 0 ↔ x < t) ∧ (0 ≤ cmpV x t ↔ t ≤ x) ∧ (cmpV x t = 0 ↔ x = t) := by
  unfold cmpV
  split
  · omega
  · split <;> omega
theorem cmpV_beq (x t : Int) : (cmpV x t == 0) = decide (x = t) := by
  have := (@cmpV_lt x t).2.2
  by_cases h : x = t
  · rw [decide_eq_true h, beq_iff_eq, this]; exact h
  · rw [decide_eq_false h, beq_eq_false_iff_ne, ne_eq, this]; exact h
theorem mid_end {n : Nat} {F : Nat → Int} {t : Int} {i j : Nat} (h : Mid n F t i j) (hij : j ≤ i) : lowN F t n = i :=
  lowN_eq (Nat.le_trans h.ij h.jn) h.lo fun k hk hk' => h.hi k (by omega) hk'
theorem mid_next {n : Nat} {F : Nat → Int} {t : Int} {i j : Nat} (hr : Rise n F) (h : Mid n F t i j) (hij : i < j) : Mid n F t (midS F t i j).1 (midS F t i j).2 ∧ (midS F t i j).2 - (midS F t i j).1 < j - i := by
  obtain ⟨h1, h2, h3, h4⟩ := h
  by_cases g : F (4 * ((i + j) / 2)) < t
  · rw [midS_t g]
    refine ⟨⟨by dsimp only; omega, h2, fun k hk => ?_, h4⟩, by dsimp only; omega⟩
    have := hr.le (i := k) (j := (i + j) / 2) (by dsimp only at hk; omega) (by omega)
    omega
  · rw [midS_f g]
    refine ⟨⟨by dsimp only; omega, by dsimp only; omega, h3, fun k hk hk' => ?_⟩, by dsimp only; omega⟩
    have := hr.le (i := (i + j) / 2) (j := k) hk hk'
    omega
theorem bsearch_f : FnOk Try.prog 6 Try.f6 := ⟨Try.func6, by kernel_rfl⟩
theorem bsearch_a (n : Nat) (F : Nat → Int) (t : Int) (hpre : n ≤ 1000 ∧ Rise n F) : ACalls Try.prog 6 [ints4 .i64 n F, .int .i64 t, .fn 7 []] (.tup [.int .i64 (lowN F t n : Nat), .bool (decide (lowN F t n < n) && decide (F (4 * lowN F t n) = t))]) := by
  refine acalls_of (inl := hasI (P := Try.prog) [] []) (base [cmpk_k] [] []) 0 bsearch_f (And.intro (by kernel_rfl) ?_)
  repeat' (first | refine And.intro ?_ ?_ | (with_reducible exact ff_elim) | (with_reducible exact tf_elim) | refine num_elim ?_ | intro _ | (with_reducible rfl) | ((with_reducible refine lk_t ?_); exact rfl) | refine tell ?_ | exact True.intro | (refine IsT.of ?_; kernel_rfl))
  all_goals (try (refine loop_keep [0, 1, 2, 8] [] ?_; refine LoopI.mk ({p : Nat × Nat // Mid n F t p.1 p.2}) (fun p => [(9, .int .i64 p.1.1), (10, .int .i64 p.1.2)]) (fun _ => []) (fun p => p.1.2 - p.1.1) (⟨(0, n), Nat.zero_le _, Nat.le_refl _, fun k hk => (by omega), fun k hk hk' => (by omega)⟩) (wk_mk [] ?_) (fun ⟨⟨i, j⟩, hm⟩ => ?_)))
  repeat' (first | refine And.intro ?_ ?_ | (with_reducible exact ff_elim) | (with_reducible exact tf_elim) | refine stp_mk [] (⟨midS F t i j, ?_⟩) ?_ ?_ | refine num_elim ?_ | intro _ | (with_reducible rfl) | ((with_reducible refine lk_t ?_); exact rfl) | refine tell ?_ | exact True.intro | (refine IsT.of ?_; kernel_rfl))
  all_goals (try refine Tell.mk ?_)
  all_goals first | with_reducible rfl | with_reducible exact isI_mk | with_reducible assumption | (with_reducible refine gb_t ?_; with_reducible assumption) | (with_reducible refine gb_f ?_; with_reducible assumption) | ((with_reducible refine lk_t ?_); rfl) | ((with_reducible refine okF_t ?_); kernel_rfl) | ((with_reducible refine ks_t ?_); rfl) | ((with_reducible refine pk_t ?_); rfl) | skip
  all_goals (try dsimp only at *)
  all_goals (try simp only [decide_eq_true_eq, decide_eq_false_iff_not, Bool.or_eq_true, Bool.or_eq_false_iff, Bool.and_eq_true, Bool.and_eq_false_iff, Bool.not_eq_true', Bool.not_eq_false', bne_iff_ne, ne_eq, beq_iff_eq, bne_eq_false_iff_eq, beq_eq_false_iff_ne, Int.not_lt, Int.not_le, gt_iff_lt, ge_iff_le] at *)
  all_goals (try simp only [mulN1, Nat.add_zero, Nat.zero_add, Nat.mul_one, Int.toNat_natCast, avInt_int, intF_mk] at *)
  all_goals first | with_reducible rfl | with_reducible exact nums_N | omega | ((with_reducible refine by_le 1 rfl ?_); omega) | ((with_reducible refine by_le 8 rfl ?_); omega) | (rw [wrapI (by omega) (by omega)] <;> omega) | skip
  all_goals obtain ⟨hn, hr⟩ := hpre
  all_goals (have hij := hm.ij; have hjn := hm.jn; try dsimp only at hij hjn)
  all_goals (try simp only [half (i := i) (j := j) (by omega), Int.toNat_natCast, cmpV_lt.1, cmpV_lt.2.1, cmpV_lt.2.2, m4] at *)
  all_goals first | omega | (refine le_by (c := 4) rfl ?_; decide) | exact of_gbt (by assumption) | exact (mid_next hr hm (by omega)).1 | exact (mid_next hr hm (by omega)).2 | (rw [midS_t (by assumption)] <;> first | rfl | (rw [wrapI (by omega) (by omega)]; omega)) | (rw [midS_f (by omega)]) | (rw [mid_end hm (by omega)]; done) | (rw [mid_end hm (by omega), cmpV_beq]; first | rfl | (congr 1; exact decide_eq_decide.2 (by omega)))
def bsearch_r (n : Nat) (F : Nat → Int) (t : Int) : AV := .tup [.int .i64 (lowN F t n : Nat), .bool (decide (lowN F t n < n) && decide (F (4 * lowN F t n) = t))]
def bsearch_p (n : Nat) (F : Nat → Int) (t : Int) : Prop := n ≤ 1000 ∧ Rise n F
def bsearch_k : Con Try.prog := ⟨6, fun args => match args with | [.sl n 4 g_F, .int .i64 t, .fn 7 []] => .ok (some (IsI .i64 g_F ∧ bsearch_p n (intF g_F) t)) (bsearch_r n (intF g_F) t) | _ => .no, by
  intro args p r h hp
  split at h
  · cases h; obtain ⟨h_F, hp⟩ := hp; have e_F := h_F.eq; rw [e_F]; exact bsearch_a _ _ _ hp
  · cases h⟩
theorem keysF_ok {F : Nat → Int} : ∀ {m i : Nat}, keysF F m i = 0 → ∀ k, i ≤ k → k < i + m → key1 F k = 0
  | 0, i, h, k, h1, h2 => by omega
  | m + 1, i, h, k, h1, h2 => by
    rw [keysF_s] at h
    split at h
    · by_cases e : k = i
      · subst e; assumption
      · exact keysF_ok h k (by omega) (by omega)
    · exact absurd h (by assumption)
theorem keysE_ok {n : Nat} {F : Nat → Int} (h : keysE n F = 0) : (1 ≤ n ∧ n ≤ 32) ∧ ∀ k, k < n → key1 F k = 0 := by
  unfold keysE at h
  split at h
  · cases h
  · exact ⟨by omega, fun k hk => keysF_ok h k (Nat.zero_le _) (by omega)⟩
theorem key1_ok {F : Nat → Int} {i : Nat} (h : key1 F i = 0) : (0 ≤ F (4 * i) ∧ F (4 * i) ≤ 1000000) ∧ (i = 0 ∨ F (4 * (i - 1)) < F (4 * i)) ∧
    (-1000000 ≤ F (4 * i + 1) ∧ F (4 * i + 1) ≤ 1000000) ∧ (-1000000 ≤ F (4 * i + 2) ∧ F (4 * i + 2) ≤ 1000000) ∧ (-1000000 ≤ F (4 * i + 3) ∧ F (4 * i + 3) ≤ 1000000) := by
  unfold key1 at h
  split at h
  · cases h
  · split at h
    · cases h
    · omega
theorem rise_of {n : Nat} {F : Nat → Int} (h : keysE n F = 0) : n ≤ 1000 ∧ Rise n F := by
  obtain ⟨h1, h2⟩ := keysE_ok h
  refine ⟨by omega, ⟨fun i hi => ?_⟩⟩
  have := key1_ok (h2 (i + 1) hi)
  rw [show i + 1 - 1 = i by omega] at this
  omega
@[irreducible] def atC (n : Nat) (F : Nat → Int) (t : Int) (c : Nat) : Int :=
  if lowN F t n < n ∧ F (4 * lowN F t n) = t then F (4 * lowN F t n + c) else if lowN F t n = 0 then F c else if lowN F t n = n then F (4 * (lowN F t n - 1) + c) else
  btw (F (4 * (lowN F t n - 1) + c)) (F (4 * lowN F t n + c)) (t - F (4 * (lowN F t n - 1))) (F (4 * lowN F t n) - F (4 * (lowN F t n - 1)))
@[irreducible] def atV (n : Nat) (F : Nat → Int) (t : Int) (c : Nat) : Int := if keysE n F = 0 then atC n F t c else 0
theorem lowN_s (F : Nat → Int) (t : Int) (n : Nat) : lowN F t (n + 1) = lowN F t n + if F (4 * n) < t then 1 else 0 := by with_unfolding_all rfl
theorem lowN_0 (F : Nat → Int) (t : Int) : lowN F t 0 = 0 := by with_unfolding_all rfl
theorem low_mid {n : Nat} {F : Nat → Int} {t : Int} (h : Rise n F) : ∀ {m : Nat}, m ≤ n → lowN F t m ≤ m ∧ (∀ k, k < lowN F t m → F (4 * k) < t) ∧ (∀ k, lowN F t m ≤ k → k < m → t ≤ F (4 * k))
  | 0, _ => by rw [lowN_0]; exact ⟨Nat.le_refl _, fun k hk => by omega, fun k _ hk => by omega⟩
  | m + 1, hm => by
    obtain ⟨h1, h2, h3⟩ := low_mid h (t := t) (m := m) (by omega)
    rw [lowN_s]
    by_cases g : F (4 * m) < t
    · rw [if_pos g]
      have e : lowN F t m = m := by
        by_cases e : lowN F t m = m
        · exact e
        · have a := h3 (lowN F t m) (Nat.le_refl _) (by omega)
          have b := h.le (i := lowN F t m) (j := m) h1 (by omega)
          omega
      rw [e] at h2 ⊢
      exact ⟨Nat.le_refl _, fun k hk => (by by_cases e : k = m; · subst e; exact g
                                            · exact h2 k (by omega)), fun k _ hk => by omega⟩
    · rw [if_neg g]
      exact ⟨by omega, h2, fun k hk hk' => (by by_cases e : k = m; · subst e; omega
                                               · exact h3 k (by omega) (by omega))⟩
theorem low_all {n : Nat} {F : Nat → Int} {t : Int} (h : keysE n F = 0) : (1 ≤ n ∧ n ≤ 32) ∧ lowN F t n ≤ n ∧ (∀ k, k < lowN F t n → F (4 * k) < t) ∧ (∀ k, lowN F t n ≤ k → k < n → t ≤ F (4 * k)) :=
  ⟨(keysE_ok h).1, low_mid (rise_of h).2 (Nat.le_refl _)⟩
theorem at_err {n : Nat} {F : Nat → Int} {t : Int} {c : Nat} (h : ¬ keysE n F = 0) : atV n F t c = 0 := by unfold atV; rw [if_neg h]
theorem at_found {n : Nat} {F : Nat → Int} {t : Int} {c : Nat} (h : keysE n F = 0) (h1 : lowN F t n < n ∧ F (4 * lowN F t n) = t) : atV n F t c = F (4 * lowN F t n + c) := by
  unfold atV atC; rw [if_pos h, if_pos h1]
theorem at_zero {n : Nat} {F : Nat → Int} {t : Int} {c : Nat} (h : keysE n F = 0) (h1 : ¬ lowN F t n < n ∨ ¬ F (4 * lowN F t n) = t) (h2 : (lowN F t n : Int) = 0) : atV n F t c = F c := by
  unfold atV atC; rw [if_pos h, if_neg (by omega), if_pos (by omega)]
theorem at_end {n : Nat} {F : Nat → Int} {t : Int} {c : Nat} (h : keysE n F = 0) (h1 : ¬ lowN F t n < n ∨ ¬ F (4 * lowN F t n) = t) (h2 : ¬ (lowN F t n : Int) = 0) (h3 : (lowN F t n : Int) = n) : atV n F t c = F (4 * (lowN F t n - 1) + c) := by
  unfold atV atC; rw [if_pos h, if_neg (by omega), if_neg (by omega), if_pos (by omega)]
theorem at_btw {n : Nat} {F : Nat → Int} {t : Int} {c : Nat} (h : keysE n F = 0) (h1 : ¬ lowN F t n < n ∨ ¬ F (4 * lowN F t n) = t) (h2 : ¬ (lowN F t n : Int) = 0) (h3 : ¬ (lowN F t n : Int) = n) :
    atV n F t c = btw (F (4 * (lowN F t n - 1) + c)) (F (4 * lowN F t n + c)) (t - F (4 * (lowN F t n - 1))) (F (4 * lowN F t n) - F (4 * (lowN F t n - 1))) := by
  unfold atV atC; rw [if_pos h, if_neg (by omega), if_neg (by omega), if_neg (by omega)]
theorem at_mid {n : Nat} {F : Nat → Int} {t : Int} (h : keysE n F = 0) (h1 : ¬ lowN F t n < n ∨ ¬ F (4 * lowN F t n) = t) (h2 : ¬ (lowN F t n : Int) = 0) (h3 : ¬ (lowN F t n : Int) = n) :
    key1 F (lowN F t n - 1) = 0 ∧ key1 F (lowN F t n) = 0 ∧ F (4 * (lowN F t n - 1)) < t ∧ t < F (4 * lowN F t n) := by
  obtain ⟨a1, a2, a3, a4⟩ := low_all (t := t) h
  have b := (keysE_ok h).2
  have c1 := a3 (lowN F t n - 1) (by omega)
  have c2 := a4 (lowN F t n) (Nat.le_refl _) (by omega)
  exact ⟨b _ (by omega), b _ (by omega), c1, by omega⟩
theorem tn0 : Int.toNat 0 = 0 := rfl
theorem z4 : 4 * 0 = 0 := rfl
theorem le_of0 {b M c : Nat} (h : b = c) (h' : c ≤ M) : b ≤ M := by rw [h]; exact h'
theorem reelAt_f : FnOk Try.prog 4 Try.f4 := ⟨Try.func4, by kernel_rfl⟩
theorem reelAt_a (n : Nat) (F : Nat → Int) (t : Int) (hpre : (∀ j, In64 (F j)) ∧ In64 t) : ACalls Try.prog 4 [ints4 .i64 n F, .int .i64 t] (.tup [.agg [.int .i64 (atV n F t 1), .int .i64 (atV n F t 2), .int .i64 (atV n F t 3)], .int .i64 (keysE n F)]) := by
  refine acalls_of (inl := hasI (P := Try.prog) [] []) (base [reelMay_k, bsearch_k, between_k] [] []) 0 reelAt_f (And.intro (by kernel_rfl) ?_)
  repeat' (first | refine And.intro ?_ ?_ | refine num_lit 0 (by decide) ?_ | refine num_lit 1 (by decide) ?_ | refine num_lit 2 (by decide) ?_ | refine num_lit 3 (by decide) ?_ | refine num_lit 4 (by decide) ?_ | refine num_lit 5 (by decide) ?_ | refine num_lit 6 (by decide) ?_ | refine num_lit 7 (by decide) ?_ | refine num_lit 8 (by decide) ?_ | refine num_elim ?_ | (with_reducible exact ff_elim) | (with_reducible exact tf_elim) | (intro h; exact absurd h (by decide)) | intro _ | (with_reducible rfl) | refine Or.inl ⟨4, ?_⟩ | refine tell ?_ | exact True.intro | (refine IsT.of ?_; kernel_rfl))
  all_goals (try refine Tell.mk ?_)
  all_goals first | with_reducible rfl | with_reducible exact isI_mk | with_reducible assumption | (with_reducible refine gb_t ?_; with_reducible assumption) | (with_reducible refine gb_f ?_; with_reducible assumption) | ((with_reducible refine lk_t ?_); rfl) | ((with_reducible refine okF_t ?_); kernel_rfl) | ((with_reducible refine ks_t ?_); rfl) | ((with_reducible refine pk_t ?_); rfl) | skip
  all_goals (try dsimp only at *)
  all_goals (try simp only [decide_eq_true_eq, decide_eq_false_iff_not, Bool.or_eq_true, Bool.or_eq_false_iff, Bool.and_eq_true, Bool.and_eq_false_iff, Bool.not_eq_true', Bool.not_eq_false', bne_iff_ne, ne_eq, beq_iff_eq, bne_eq_false_iff_eq, beq_eq_false_iff_ne, Int.not_lt, Int.not_le, gt_iff_lt, ge_iff_le] at *)
  all_goals (try simp only [mulN1, Nat.add_zero, Nat.zero_add, Nat.mul_one, Int.toNat_natCast, avInt_int, intF_mk] at *)
  all_goals first | with_reducible rfl | with_reducible exact nums_N | omega | ((with_reducible refine by_le 1 rfl ?_); omega) | ((with_reducible refine by_le 8 rfl ?_); omega) | (rw [wrapI (by omega) (by omega)] <;> omega) | skip
  all_goals first | exact hpre.1 _ | exact at_err (by assumption) | exact (rise_of (by assumption)).1 | exact (rise_of (by assumption)).2 | (refine le_by (c := 3) rfl ?_; decide) | (refine le_by (c := 4) rfl ?_; decide) | skip
  all_goals (have hE : keysE n F = 0 := by assumption)
  all_goals obtain ⟨a1, a2, a3, a4⟩ := low_all (t := t) hE
  all_goals (try simp only [m4, tn0, z4, Nat.zero_add] at *)
  all_goals first | omega | exact at_found hE (by assumption) | exact at_zero hE (by assumption) (by assumption) | skip
  all_goals (have h1 : ¬ lowN F t n < n ∨ ¬ F (4 * lowN F t n) = t := by assumption)
  all_goals (have h2 : ¬ (lowN F t n : Int) = 0 := by assumption)
  all_goals (have e1 : IntKind.i64.wrap ((lowN F t n : Int) - 1) = (lowN F t n : Int) - 1 := wrapI (by omega) (by omega))
  all_goals (have e2 : ((lowN F t n : Int) - 1).toNat = lowN F t n - 1 := by omega)
  all_goals (try rw [e1])
  all_goals (try rw [e2])
  all_goals first | omega | exact at_end hE h1 h2 (by assumption) | skip
  all_goals (have h3 : ¬ (lowN F t n : Int) = n := by assumption)
  all_goals obtain ⟨c1, c2, c3, c4⟩ := at_mid hE h1 h2 h3
  all_goals (have d1 := key1_ok c1; have d2 := key1_ok c2)
  all_goals (have e3 : IntKind.i64.wrap (t - F (4 * (lowN F t n - 1))) = t - F (4 * (lowN F t n - 1)) := wrapI (by omega) (by omega))
  all_goals (have e4 : IntKind.i64.wrap (F (4 * lowN F t n) - F (4 * (lowN F t n - 1))) = F (4 * lowN F t n) - F (4 * (lowN F t n - 1)) := wrapI (by omega) (by omega))
  all_goals (try simp only [e3, e4])
  all_goals first | omega | exact at_btw hE h1 h2 h3 | (trace_state; fail)
def reelAt_r (n : Nat) (F : Nat → Int) (t : Int) : AV := .tup [.agg [.int .i64 (atV n F t 1), .int .i64 (atV n F t 2), .int .i64 (atV n F t 3)], .int .i64 (keysE n F)]
def reelAt_p (n : Nat) (F : Nat → Int) (t : Int) : Prop := (∀ j, In64 (F j)) ∧ In64 t
def reelAt_k : Con Try.prog := ⟨4, fun args => match args with | [.sl n 4 g_F, .int .i64 t] => .ok (some (IsI .i64 g_F ∧ reelAt_p n (intF g_F) t)) (reelAt_r n (intF g_F) t) | _ => .no, by
  intro args p r h hp
  split at h
  · cases h; obtain ⟨h_F, hp⟩ := hp; have e_F := h_F.eq; rw [e_F]; exact reelAt_a _ _ _ hp
  · cases h⟩
end Go.Proofs.Ytokojkhladgojaa
