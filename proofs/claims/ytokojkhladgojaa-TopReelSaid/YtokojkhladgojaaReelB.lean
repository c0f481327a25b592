/- The law TopReel. -/
import Derived.Test.YtokojkhladgojaaReelA
import Derived.Test.YtokojkhladgojaaEvArg
namespace Go.Proofs.Ytokojkhladgojaa
open Go.RowKit Ev
set_option linter.unusedVariables false
set_option linter.unusedSimpArgs false
set_option maxRecDepth 20000
set_option maxHeartbeats 4000000

/-- The least and the greatest number at c of the first keys. -/
def loM (F : Nat → Int) (c : Nat) : Nat → Int
  | 0 => F c
  | i + 1 => min (loM F c i) (F (4 * i + c))
def hiM (F : Nat → Int) (c : Nat) : Nat → Int
  | 0 => F c
  | i + 1 => max (hiM F c i) (F (4 * i + c))
theorem loM_0 (F : Nat → Int) (c : Nat) : loM F c 0 = F c := rfl
theorem hiM_0 (F : Nat → Int) (c : Nat) : hiM F c 0 = F c := rfl
theorem loM_s (F : Nat → Int) (c i : Nat) : loM F c (i + 1) = min (loM F c i) (F (4 * i + c)) := rfl
theorem hiM_s (F : Nat → Int) (c i : Nat) : hiM F c (i + 1) = max (hiM F c i) (F (4 * i + c)) := rfl
theorem loM_le (F : Nat → Int) (c : Nat) : ∀ {n k : Nat}, k < n → loM F c n ≤ F (4 * k + c)
  | 0, k, h => by omega
  | n + 1, k, h => by
    rw [loM_s]
    by_cases e : k = n
    · subst e; omega
    · have := loM_le F c (n := n) (k := k) (by omega); omega
theorem le_hiM (F : Nat → Int) (c : Nat) : ∀ {n k : Nat}, k < n → F (4 * k + c) ≤ hiM F c n
  | 0, k, h => by omega
  | n + 1, k, h => by
    rw [hiM_s]
    by_cases e : k = n
    · subst e; omega
    · have := le_hiM F c (n := n) (k := k) (by omega); omega
attribute [irreducible] loM hiM
theorem btw_bd {a b p q lo hi : Int} (h1 : lo ≤ a) (h2 : lo ≤ b) (h3 : a ≤ hi) (h4 : b ≤ hi) (hp : 0 ≤ p) (hpq : p ≤ q) (hq : 0 < q) : lo ≤ btw a b p q ∧ btw a b p q ≤ hi := by
  unfold btw
  generalize hx : (2 * (b - a) * p + q) / (2 * q) = x
  have e1 : 2 * q * x ≤ 2 * (b - a) * p + q := by rw [← hx]; exact Int.mul_ediv_self_le (by omega)
  have e2 : 2 * (b - a) * p + q < 2 * q * x + 2 * q := by rw [← hx]; exact Int.lt_mul_ediv_self_add (by omega)
  have r1 : 2 * (b - a) * p = 2 * ((b - a) * p) := Int.mul_assoc _ _ _
  have r2 : 2 * q * x = 2 * (q * x) := Int.mul_assoc _ _ _
  have r3 : q * (b - a) = (b - a) * q := Int.mul_comm _ _
  rw [r1, r2] at e1 e2
  rcases Int.le_total a b with h | h
  · have m1 : 0 ≤ (b - a) * p := Int.mul_nonneg (by omega) hp
    have m2 : (b - a) * p ≤ (b - a) * q := Int.mul_le_mul_of_nonneg_left hpq (by omega)
    have y1 : x ≤ -1 → q * x ≤ q * (-1) := fun g => Int.mul_le_mul_of_nonneg_left g (by omega)
    have y2 : b - a + 1 ≤ x → q * (b - a + 1) ≤ q * x := fun g => Int.mul_le_mul_of_nonneg_left g (by omega)
    rw [Int.mul_add, Int.mul_one, r3] at y2
    generalize (b - a) * p = P at *
    generalize (b - a) * q = Q at *
    generalize q * x = X at *
    omega
  · have m1 : 0 ≤ (a - b) * p := Int.mul_nonneg (by omega) hp
    have m2 : (a - b) * p ≤ (a - b) * q := Int.mul_le_mul_of_nonneg_left hpq (by omega)
    have n1 : (b - a) * p = - ((a - b) * p) := by rw [← Int.neg_mul]; congr 1; omega
    have n2 : (b - a) * q = - ((a - b) * q) := by rw [← Int.neg_mul]; congr 1; omega
    have y1 : x ≤ b - a - 1 → q * x ≤ q * (b - a - 1) := fun g => Int.mul_le_mul_of_nonneg_left g (by omega)
    have y2 : 1 ≤ x → q * 1 ≤ q * x := fun g => Int.mul_le_mul_of_nonneg_left g (by omega)
    rw [Int.mul_sub, Int.mul_one, r3, n2] at y1
    rw [n1] at e1 e2
    generalize (a - b) * p = P at *
    generalize (a - b) * q = Q at *
    generalize q * x = X at *
    omega
theorem btw_self {a p q : Int} (hq : 0 < q) : btw a a p q = a := by
  unfold btw
  rw [Int.sub_self, Int.mul_zero, Int.zero_mul, Int.zero_add, Int.ediv_eq_zero_of_lt (by omega) (by omega)]
  omega
theorem at_same {n : Nat} {F : Nat → Int} {t : Int} {c i : Nat} (h : keysE n F = 0) (hi : (i : Int) < n) (ht : F (4 * i) = t) : atV n F t c = F (4 * i + c) := by
  obtain ⟨a1, a2, a3, a4⟩ := low_all (t := t) h
  have hr := (rise_of h).2
  have e : lowN F t n = i := by
    rcases Nat.lt_trichotomy i (lowN F t n) with g | g | g
    · have := a3 i g; omega
    · exact g.symm
    · have b1 := a4 (lowN F t n) (Nat.le_refl _) (by omega)
      have b2 := hr.lt (i := lowN F t n) (d := i - lowN F t n - 1) (by omega)
      rw [show lowN F t n + (i - lowN F t n - 1) + 1 = i by omega] at b2
      omega
  rw [at_found h (by rw [e]; omega), e]
theorem at_in {n : Nat} {F : Nat → Int} {t : Int} {c : Nat} (h : keysE n F = 0) : loM F c n ≤ atV n F t c ∧ atV n F t c ≤ hiM F c n := by
  obtain ⟨a1, a2, a3, a4⟩ := low_all (t := t) h
  have both : ∀ {k}, k < n → loM F c n ≤ F (4 * k + c) ∧ F (4 * k + c) ≤ hiM F c n := fun hk => ⟨loM_le F c hk, le_hiM F c hk⟩
  by_cases h1 : lowN F t n < n ∧ F (4 * lowN F t n) = t
  · rw [at_found h h1]; exact both h1.1
  have h1 : ¬ lowN F t n < n ∨ ¬ F (4 * lowN F t n) = t := by omega
  by_cases h2 : (lowN F t n : Int) = 0
  · rw [at_zero h h1 h2]; have := both (k := 0) (by omega); simpa using this
  by_cases h3 : (lowN F t n : Int) = n
  · rw [at_end h h1 h2 h3]; exact both (by omega)
  · rw [at_btw h h1 h2 h3]
    obtain ⟨c1, c2, c3, c4⟩ := at_mid h h1 h2 h3
    have b1 := both (k := lowN F t n - 1) (by omega)
    have b2 := both (k := lowN F t n) (by omega)
    exact btw_bd b1.1 b2.1 b1.2 b2.2 (by omega) (by omega) (by omega)
/-- Keys that don't move. -/
def stillF (F S : Nat → Int) (j : Nat) : Int := if j % 4 = 0 then F j else S (j % 4)
theorem at_still {n : Nat} {F S : Nat → Int} {t : Int} {c : Nat} (hc : c = 1 ∨ c = 2 ∨ c = 3) (h : keysE n (stillF F S) = 0) : atV n (stillF F S) t c = S c := by
  have e : ∀ k, stillF F S (4 * k + c) = S c := fun k => by unfold stillF; rw [if_neg (by omega), show (4 * k + c) % 4 = c by omega]
  by_cases h1 : lowN (stillF F S) t n < n ∧ stillF F S (4 * lowN (stillF F S) t n) = t
  · rw [at_found h h1, e]
  have h1 : ¬ lowN (stillF F S) t n < n ∨ ¬ stillF F S (4 * lowN (stillF F S) t n) = t := by omega
  by_cases h2 : (lowN (stillF F S) t n : Int) = 0
  · rw [at_zero h h1 h2]; have := e 0; simpa using this
  by_cases h3 : (lowN (stillF F S) t n : Int) = n
  · rw [at_end h h1 h2 h3, e]
  · rw [at_btw h h1 h2 h3, e, e]
    obtain ⟨c1, c2, c3, c4⟩ := at_mid h h1 h2 h3
    exact btw_self (by omega)
def stS (x y z : Int) (c : Nat) : Int := if c = 1 then x else if c = 2 then y else z
theorem stillIn {F : Nat → Int} {x y z : Int} (hF : ∀ j, In64 (F j)) (hx : In64 x) (hy : In64 y) (hz : In64 z) (j : Nat) : In64 (stillF F (stS x y z) j) := by
  unfold stillF stS
  split
  · exact hF _
  · split
    · exact hx
    · split
      · exact hy
      · exact hz
theorem tn1 : Int.toNat 1 = 1 := rfl
theorem tn2 : Int.toNat 2 = 2 := rfl
theorem at_e0 {n : Nat} {F : Nat → Int} {t : Int} (h : ¬ keysE n F = 0) : true = (atV n F t 1 == 0 && (atV n F t 2 == 0 && (atV n F t 3 == 0 && true))) := by
  rw [at_err h, at_err h, at_err h]; rfl
theorem len4 (a b c d : AV) : 1 * 4 ≤ [a, b, c, d].length := Nat.le_refl 4
theorem at_bad1 {n i c : Nat} {F : Nat → Int} {t : Int} (h : keysE n F = 0) (hi : (i : Int) < n) (g : F (4 * i) = t ∧ ¬ atV n F t c = F (4 * i + c)) : true = false := absurd (at_same h hi g.1) g.2
theorem at_bad2 {n i c : Nat} {F : Nat → Int} {t : Int} (h : keysE n F = 0) (g : atV n F t c < loM F c i ∨ hiM F c i < atV n F t c) (hi : n = i) : true = false := by
  subst hi; have := at_in (c := c) (t := t) h; omega
theorem at_cell {F : Nat → Int} {x y z : Int} {i j : Nat} (hj : j < 4 * (i + 1)) : AV.int .i64 (stillF F (stS x y z) j) = catA (i * 4) (fun j => AV.int .i64 (stillF F (stS x y z) j)) (fun j => [AV.int .i64 (F (4 * i)), AV.int .i64 x, AV.int .i64 y, AV.int .i64 z].getD j .any) j := by
  unfold catA
  by_cases h : j < i * 4
  · rw [if_pos h]
  · rw [if_neg h]
    have e : j = 4 * i + 0 ∨ j = 4 * i + 1 ∨ j = 4 * i + 2 ∨ j = 4 * i + 3 := by omega
    unfold stillF
    rcases e with rfl | rfl | rfl | rfl
    · rw [if_pos (by omega), show 4 * i + 0 - i * 4 = 0 by omega]; rfl
    · rw [if_neg (by omega), show 4 * i + 1 - i * 4 = 1 by omega, show (4 * i + 1) % 4 = 1 by omega]; rfl
    · rw [if_neg (by omega), show 4 * i + 2 - i * 4 = 2 by omega, show (4 * i + 2) % 4 = 2 by omega]; rfl
    · rw [if_neg (by omega), show 4 * i + 3 - i * 4 = 3 by omega, show (4 * i + 3) % 4 = 3 by omega]; rfl
theorem at_fin (n : Nat) (F : Nat → Int) (t x y z : Int) : true = (keysE n (stillF F (stS x y z)) != 0 || (atV n (stillF F (stS x y z)) t 1 == x && (atV n (stillF F (stS x y z)) t 2 == y && (atV n (stillF F (stS x y z)) t 3 == z && true)))) := by
  by_cases h : keysE n (stillF F (stS x y z)) = 0
  · rw [at_still (.inl rfl) h, at_still (.inr (.inl rfl)) h, at_still (.inr (.inr rfl)) h]
    simp [stS]
  · simp [h]
theorem ints_ofN {k : IntKind} {m : Nat} {cs : Nat → CS} {g : Nat → AV} (hcs : ∀ j, cs (j % m) = .int k) (h : ∀ j, Shape (cs (j % m)) (g j)) : ∃ F : Nat → Int, g = (fun j => .int k (F j)) ∧ ∀ j, (Lit.int k (F j)).wf = true := by
  have h' : ∀ j, ∃ n, g j = .int k n ∧ (Lit.int k n).wf = true := fun j => by
    have := h j
    rw [hcs] at this
    exact this
  obtain ⟨F, hF⟩ := Classical.axiomOfChoice h'
  exact ⟨F, funext fun j => (hF j).1, fun j => (hF j).2⟩
theorem topReel_f : FnOk Try.prog 3 Try.f3 := ⟨Try.func3, by kernel_rfl⟩
theorem topReel_a (n : Nat) (F : Nat → Int) (t x y z : Int) (hpre : (∀ j, In64 (F j)) ∧ In64 t ∧ In64 x ∧ In64 y ∧ In64 z) : ACalls Try.prog 3 [ints4 .i64 n F, .int .i64 t, .agg [.int .i64 x, .int .i64 y, .int .i64 z]] (.bool true) := by
  refine acalls_of (inl := hasI (P := Try.prog) [] []) (base [reelAt_k, reelMay_k] [] []) 0 topReel_f (And.intro (by kernel_rfl) ?_)
  repeat' (first | refine And.intro ?_ ?_ | (with_reducible exact ff_elim) | (with_reducible exact tf_elim) | refine num_elim ?_ | intro _ | (with_reducible rfl) | ((with_reducible refine lk_t ?_); exact rfl) | refine tell ?_ | exact True.intro | (refine IsT.of ?_; kernel_rfl))
  all_goals (try (refine Or.inl ⟨4, ?_⟩))
  repeat' (first | refine And.intro ?_ ?_ | (with_reducible exact ff_elim) | (with_reducible exact tf_elim) | refine num_lit 0 (by decide) ?_ | refine num_lit 1 (by decide) ?_ | refine num_lit 2 (by decide) ?_ | refine num_lit 3 (by decide) ?_ | refine num_lit 4 (by decide) ?_ | refine num_lit 5 (by decide) ?_ | refine num_lit 6 (by decide) ?_ | refine num_lit 7 (by decide) ?_ | refine num_lit 8 (by decide) ?_ | (intro h; exact absurd h (by decide)) | refine num_elim ?_ | intro _ | (with_reducible rfl) | ((with_reducible refine lk_t ?_); exact rfl) | refine tell ?_ | exact True.intro | (refine IsT.of ?_; kernel_rfl))
  all_goals (try (refine loop_keep [0, 1, 5, 7, 9] [0, 8] ?_; refine LoopI.mk ({i : Nat // i ≤ n}) (fun i => [(10, .int .i64 (loM F 1 i.1)), (11, .int .i64 (hiM F 1 i.1)), (12, .int .i64 i.1)]) (fun _ => []) (fun i => n - i.1) (⟨0, Nat.zero_le _⟩) (wk_mk [some 0, some 8] ?_) (fun ⟨i, hi⟩ => ?_)))
  repeat' (first | refine And.intro ?_ ?_ | (with_reducible exact ff_elim) | (with_reducible exact tf_elim) | refine stp_mk [some 0, some 8] (⟨i + 1, ?_⟩) ?_ ?_ | refine num_lit 0 (by decide) ?_ | refine num_lit 1 (by decide) ?_ | refine num_lit 2 (by decide) ?_ | refine num_lit 3 (by decide) ?_ | refine num_lit 4 (by decide) ?_ | refine num_lit 5 (by decide) ?_ | refine num_lit 6 (by decide) ?_ | refine num_lit 7 (by decide) ?_ | refine num_lit 8 (by decide) ?_ | (intro h; exact absurd h (by decide)) | refine num_elim ?_ | intro _ | (with_reducible rfl) | ((with_reducible refine lk_t ?_); exact rfl) | refine tell ?_ | exact True.intro | (refine IsT.of ?_; kernel_rfl))
  all_goals (try (refine loop_keep [0, 1, 5, 7, 9] [0, 8] ?_; refine LoopI.mk ({i : Nat // i ≤ n}) (fun i => [(10, .int .i64 (loM F 2 i.1)), (11, .int .i64 (hiM F 2 i.1)), (12, .int .i64 i.1)]) (fun _ => []) (fun i => n - i.1) (⟨0, Nat.zero_le _⟩) (wk_mk [some 0, some 8] ?_) (fun ⟨i, hi⟩ => ?_)))
  repeat' (first | refine And.intro ?_ ?_ | (with_reducible exact ff_elim) | (with_reducible exact tf_elim) | refine stp_mk [some 0, some 8] (⟨i + 1, ?_⟩) ?_ ?_ | refine num_lit 0 (by decide) ?_ | refine num_lit 1 (by decide) ?_ | refine num_lit 2 (by decide) ?_ | refine num_lit 3 (by decide) ?_ | refine num_lit 4 (by decide) ?_ | refine num_lit 5 (by decide) ?_ | refine num_lit 6 (by decide) ?_ | refine num_lit 7 (by decide) ?_ | refine num_lit 8 (by decide) ?_ | (intro h; exact absurd h (by decide)) | refine num_elim ?_ | intro _ | (with_reducible rfl) | ((with_reducible refine lk_t ?_); exact rfl) | refine tell ?_ | exact True.intro | (refine IsT.of ?_; kernel_rfl))
  all_goals (try (refine loop_keep [0, 1, 5, 7, 9] [0, 8] ?_; refine LoopI.mk ({i : Nat // i ≤ n}) (fun i => [(10, .int .i64 (loM F 3 i.1)), (11, .int .i64 (hiM F 3 i.1)), (12, .int .i64 i.1)]) (fun _ => []) (fun i => n - i.1) (⟨0, Nat.zero_le _⟩) (wk_mk [some 0, some 8] ?_) (fun ⟨i, hi⟩ => ?_)))
  repeat' (first | refine And.intro ?_ ?_ | (with_reducible exact ff_elim) | (with_reducible exact tf_elim) | refine stp_mk [some 0, some 8] (⟨i + 1, ?_⟩) ?_ ?_ | refine num_lit 0 (by decide) ?_ | refine num_lit 1 (by decide) ?_ | refine num_lit 2 (by decide) ?_ | refine num_lit 3 (by decide) ?_ | refine num_lit 4 (by decide) ?_ | refine num_lit 5 (by decide) ?_ | refine num_lit 6 (by decide) ?_ | refine num_lit 7 (by decide) ?_ | refine num_lit 8 (by decide) ?_ | (intro h; exact absurd h (by decide)) | refine num_elim ?_ | intro _ | (with_reducible rfl) | ((with_reducible refine lk_t ?_); exact rfl) | refine tell ?_ | exact True.intro | (refine IsT.of ?_; kernel_rfl))
  all_goals (try (refine loop_keep [0, 1, 5] [0] ?_; refine LoopI.mk ({i : Nat // i ≤ n}) (fun i => [(14, .int .i64 i.1), (13, .os 1 4 0 i.1)]) (fun i => [(1, .arr (4 * i.1) (fun j => .int .i64 (stillF F (stS x y z) j)))]) (fun i => n - i.1) (⟨0, Nat.zero_le _⟩) (wk_mk [none, some 0] ?_) (fun ⟨i, hi⟩ => ?_)))
  repeat' (first | refine And.intro ?_ ?_ | (with_reducible exact ff_elim) | (with_reducible exact tf_elim) | refine' stp_mk [some _, some 0] (⟨i + 1, ?_⟩) ?_ ?_ | refine num_lit 0 (by decide) ?_ | refine num_lit 1 (by decide) ?_ | refine num_lit 2 (by decide) ?_ | refine num_lit 3 (by decide) ?_ | refine num_lit 4 (by decide) ?_ | refine num_lit 5 (by decide) ?_ | refine num_lit 6 (by decide) ?_ | refine num_lit 7 (by decide) ?_ | refine num_lit 8 (by decide) ?_ | (intro h; exact absurd h (by decide)) | refine num_elim ?_ | intro _ | (with_reducible rfl) | ((with_reducible refine lk_t ?_); exact rfl) | refine tell ?_ | exact True.intro | (refine IsT.of ?_; kernel_rfl))
  all_goals (try refine Tell.mk ?_)
  all_goals first | with_reducible rfl | with_reducible exact isI_mk | with_reducible assumption | (with_reducible refine gb_t ?_; with_reducible assumption) | (with_reducible refine gb_f ?_; with_reducible assumption) | ((with_reducible refine lk_t ?_); rfl) | ((with_reducible refine okF_t ?_); kernel_rfl) | ((with_reducible refine ks_t ?_); rfl) | ((with_reducible refine pk_t ?_); rfl) | skip
  all_goals (try dsimp only at *)
  all_goals (try simp only [decide_eq_true_eq, decide_eq_false_iff_not, Bool.or_eq_true, Bool.or_eq_false_iff, Bool.and_eq_true, Bool.and_eq_false_iff, Bool.not_eq_true', Bool.not_eq_false', bne_iff_ne, ne_eq, beq_iff_eq, bne_eq_false_iff_eq, beq_eq_false_iff_ne, Int.not_lt, Int.not_le, gt_iff_lt, ge_iff_le] at *)
  all_goals (try simp only [mulN1, Nat.add_zero, Nat.zero_add, Nat.mul_one, Int.toNat_natCast, avInt_int, intF_mk] at *)
  all_goals first | with_reducible rfl | with_reducible exact nums_N | omega | ((with_reducible refine by_le 1 rfl ?_); omega) | ((with_reducible refine by_le 8 rfl ?_); omega) | (rw [wrapI (by omega) (by omega)] <;> omega) | skip
  all_goals obtain ⟨hF, ht, hx, hy, hz⟩ := hpre
  all_goals (have s1 : (Tab.cx.ti 3).size = 1 := rfl)
  all_goals (have s4 : (Tab.cx.ti 29).size = 4 := rfl)
  all_goals (have b4 : (Tab.cx.ti 29).bytes = 32 := rfl)
  all_goals (try simp only [m4, tn0, tn1, tn2, mulN1, s1, s4, b4, Nat.add_zero, Nat.zero_add, Nat.reduceAdd] at *)
  all_goals first | exact hF _ | exact ht | exact len4 _ _ _ _ | (exact stillIn hF hx hy hz _) | rfl | decide | (with_reducible assumption) | skip
  all_goals first | omega | (rw [wrapI (by omega) (by omega)]; omega) | (rw [loM_s]; split <;> omega) | (rw [hiM_s]; split <;> omega) | (rw [loM_0]; done) | (rw [hiM_0]; done) | skip
  all_goals first | (exact absurd True.intro (by assumption)) | exact at_e0 (by assumption) | skip
  all_goals (have hE : keysE n F = 0 := by assumption)
  all_goals (have hn := (keysE_ok hE).1)
  all_goals first | omega | (rw [wrapI (by omega) (by omega)]; omega) | exact at_bad1 hE (by assumption) (by assumption) | exact at_bad2 hE (by assumption) (by omega) | exact at_cell (by assumption) | (obtain rfl : n = i := (by omega); exact at_fin _ _ _ _ _ _) | skip
def topReel_r (n : Nat) (F : Nat → Int) (t x y z : Int) : AV := .bool true
def topReel_p (n : Nat) (F : Nat → Int) (t x y z : Int) : Prop := (∀ j, In64 (F j)) ∧ In64 t ∧ In64 x ∧ In64 y ∧ In64 z
def topReel_k : Con Try.prog := ⟨3, fun args => match args with | [.sl n 4 g_F, .int .i64 t, .agg [.int .i64 x, .int .i64 y, .int .i64 z]] => .ok (some (IsI .i64 g_F ∧ topReel_p n (intF g_F) t x y z)) (topReel_r n (intF g_F) t x y z) | _ => .no, by
  intro args p r h hp
  split at h
  · cases h; obtain ⟨h_F, hp⟩ := hp; have e_F := h_F.eq; rw [e_F]; exact topReel_a _ _ _ _ _ _ hp
  · cases h⟩
end Go.Proofs.Ytokojkhladgojaa
