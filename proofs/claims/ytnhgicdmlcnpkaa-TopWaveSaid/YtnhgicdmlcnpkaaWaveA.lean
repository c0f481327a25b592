/- Waves: rows of complex numbers, even and odd places by themselves. -/
import Derived.Test.YtnhgicdmlcnpkaaEvLoop
import Derived.Test.YtnhgicdmlcnpkaaEvPub
import Derived.Test.YtnhgicdmlcnpkaaTab
namespace Go.Proofs.Ytnhgicdmlcnpkaa
open Go.RowKit Ev
set_option linter.unusedVariables false
set_option linter.unusedSimpArgs false
set_option maxRecDepth 20000
set_option maxHeartbeats 4000000

theorem base (l : List (Con Try.prog)) (m : List (Inl Try.prog)) (k : List (MCon Try.prog)) : Base Try.prog Tab.cx (conL l) (inlL m) (mcL k) := ⟨Tab.cx_ok, conL_ok l, by kernel_rfl, inlL_ok m, mcL_ok k⟩
theorem find_sqrt : Extern.find Try.f29 = some Extern.MathSqrt.sqrt := by kernel_rfl
theorem sqx_a (x : Nat) : ACalls Try.prog 29 [.flt x] (.flt (sq x)) := by
  intro w Im vals hIm ht
  cases ht with
  | cons h t =>
    cases t
    obtain ⟨b, rfl, hb⟩ := h.inv_flt
    have e : (callFunc 29 [Value.float .f64 b].toArray).run Try.prog w = .ok (.value (.float .f64 (sval w b))) (w.drewN (sdr b)) := by
      rw [run_callFunc_extern Try.func29 (by kernel_rfl) (by kernel_rfl) (by kernel_rfl) find_sqrt, run_sqrt]
      rfl
    rw [e]
    exact ⟨below_drewN (Below.refl _ _) _, .flt _ _ (by rw [cn_sval, hb])⟩
def sqx_k : Con Try.prog := ⟨29, fun args => match args with | [.flt x] => .ok none (.flt (sq x)) | _ => .no, by
  intro args p r h hp
  split at h
  · cases h; exact sqx_a _
  · cases h⟩
theorem sqrt_f : FnOk Try.prog 25 Try.f25 := ⟨Try.func25, by kernel_rfl⟩
theorem sqrt_a (x : Nat) : ACalls Try.prog 25 [.flt x] (.flt (sq x)) := by
  refine acalls_of (inl := hasI (P := Try.prog) [] []) (base [sqx_k] [] []) 0 sqrt_f (And.intro (by kernel_rfl) ?_)
  repeat' (first | refine And.intro ?_ ?_ | (with_reducible exact ff_elim) | (with_reducible exact tf_elim) | intro _ | (with_reducible rfl) | ((with_reducible refine lk_t ?_); exact rfl) | ((with_reducible refine pf_t ?_); exact rfl) | refine tell ?_ | exact True.intro | (refine IsT.of ?_; kernel_rfl))
  all_goals ((try refine Tell.mk ?_); first | with_reducible rfl | ((show (_ : Int) ≤ _); decide) | ((show (_ : Int) < _); decide) | (with_reducible refine gb_t ?_; with_reducible assumption) | with_reducible assumption | (with_reducible refine gb_f ?_; with_reducible assumption) | (simp only [gb, *, cond_true, cond_false]; done) | ((with_reducible refine ks_t ?_); rfl) | ((with_reducible refine pk_t ?_); rfl) | ((with_reducible refine pf_t ?_); rfl) | ((with_reducible refine lk_t ?_); rfl) | ((with_reducible refine okF_t ?_); kernel_rfl) | grind [gb])
def sqrt_k : Con Try.prog := ⟨25, fun args => match args with | [.flt x] => .ok (none) (.flt (sq x)) | _ => .no, by
  intro args p r h hp
  split at h
  · cases h; exact sqrt_a _
  · cases h⟩
def cm1 (a b c d : Nat) : Nat := F .sub (F .mul a c) (F .mul b d)
def cm2 (a b c d : Nat) : Nat := F .add (F .mul a d) (F .mul b c)
theorem timesC_f : FnOk Try.prog 14 Try.f14 := ⟨Try.func14, by kernel_rfl⟩
theorem timesC_a (a b c d : Nat) : ACalls Try.prog 14 [.cpx a b, .cpx c d] (.cpx (cm1 a b c d) (cm2 a b c d)) := by
  refine acalls_of (inl := hasI (P := Try.prog) [] []) (base [] [] []) 0 timesC_f (And.intro (by kernel_rfl) ?_)
  repeat' (first | refine And.intro ?_ ?_ | (with_reducible exact ff_elim) | (with_reducible exact tf_elim) | intro _ | (with_reducible rfl) | ((with_reducible refine lk_t ?_); exact rfl) | ((with_reducible refine pf_t ?_); exact rfl) | refine tell ?_ | exact True.intro | (refine IsT.of ?_; kernel_rfl))
  all_goals ((try refine Tell.mk ?_); first | with_reducible rfl | ((show (_ : Int) ≤ _); decide) | ((show (_ : Int) < _); decide) | (with_reducible refine gb_t ?_; with_reducible assumption) | with_reducible assumption | (with_reducible refine gb_f ?_; with_reducible assumption) | (simp only [cm1, cm2, *, cond_true, cond_false]; done) | ((with_reducible refine ks_t ?_); rfl) | ((with_reducible refine pk_t ?_); rfl) | ((with_reducible refine pf_t ?_); rfl) | ((with_reducible refine lk_t ?_); rfl) | ((with_reducible refine okF_t ?_); kernel_rfl) | grind [gb, cm1, cm2])
def timesC_k : Con Try.prog := ⟨14, fun args => match args with | [.cpx a b, .cpx c d] => .ok (none) (.cpx (cm1 a b c d) (cm2 a b c d)) | _ => .no, by
  intro args p r h hp
  split at h
  · cases h; exact timesC_a _ _ _ _
  · cases h⟩
theorem times_f : FnOk Try.prog 23 Try.f23 := ⟨Try.func23, by kernel_rfl⟩
theorem times_a (a b : Nat) : ACalls Try.prog 23 [.flt a, .flt b] (.flt (F .mul a b)) := by
  refine acalls_of (inl := hasI (P := Try.prog) [] []) (base [] [] []) 0 times_f (And.intro (by kernel_rfl) ?_)
  repeat' (first | refine And.intro ?_ ?_ | (with_reducible exact ff_elim) | (with_reducible exact tf_elim) | intro _ | (with_reducible rfl) | ((with_reducible refine lk_t ?_); exact rfl) | ((with_reducible refine pf_t ?_); exact rfl) | refine tell ?_ | exact True.intro | (refine IsT.of ?_; kernel_rfl))
  all_goals ((try refine Tell.mk ?_); first | with_reducible rfl | ((show (_ : Int) ≤ _); decide) | ((show (_ : Int) < _); decide) | (with_reducible refine gb_t ?_; with_reducible assumption) | with_reducible assumption | (with_reducible refine gb_f ?_; with_reducible assumption) | (simp only [gb, *, cond_true, cond_false]; done) | ((with_reducible refine ks_t ?_); rfl) | ((with_reducible refine pk_t ?_); rfl) | ((with_reducible refine pf_t ?_); rfl) | ((with_reducible refine lk_t ?_); rfl) | ((with_reducible refine okF_t ?_); kernel_rfl) | grind [gb])
def times_k : Con Try.prog := ⟨23, fun args => match args with | [.flt a, .flt b] => .ok (none) (.flt (F .mul a b)) | _ => .no, by
  intro args p r h hp
  split at h
  · cases h; exact times_a _ _
  · cases h⟩
theorem product_f : FnOk Try.prog 17 Try.f17 := ⟨Try.func17, by kernel_rfl⟩
theorem product_a (a b c d : Nat) : ACalls Try.prog 17 [.cpx a b, .cpx c d] (.cpx (cm1 a b c d) (cm2 a b c d)) := by
  refine acalls_of (inl := hasI (P := Try.prog) [] []) (base [times_k] [] []) 0 product_f (And.intro (by kernel_rfl) ?_)
  repeat' (first | refine And.intro ?_ ?_ | (with_reducible exact ff_elim) | (with_reducible exact tf_elim) | intro _ | (with_reducible rfl) | ((with_reducible refine lk_t ?_); exact rfl) | ((with_reducible refine pf_t ?_); exact rfl) | refine tell ?_ | exact True.intro | (refine IsT.of ?_; kernel_rfl))
  all_goals ((try refine Tell.mk ?_); first | with_reducible rfl | ((show (_ : Int) ≤ _); decide) | ((show (_ : Int) < _); decide) | (with_reducible refine gb_t ?_; with_reducible assumption) | with_reducible assumption | (with_reducible refine gb_f ?_; with_reducible assumption) | (simp only [cm1, cm2, *, cond_true, cond_false]; done) | ((with_reducible refine ks_t ?_); rfl) | ((with_reducible refine pk_t ?_); rfl) | ((with_reducible refine pf_t ?_); rfl) | ((with_reducible refine lk_t ?_); rfl) | ((with_reducible refine okF_t ?_); kernel_rfl) | grind [gb, cm1, cm2])
def product_k : Con Try.prog := ⟨17, fun args => match args with | [.cpx a b, .cpx c d] => .ok (none) (.cpx (cm1 a b c d) (cm2 a b c d)) | _ => .no, by
  intro args p r h hp
  split at h
  · cases h; exact product_a _ _ _ _
  · cases h⟩
/-- The root of so many halvings: its parts. -/
def rtA : Nat → Nat × Nat
  | 0 => (4607182418800017408, 0)
  | 1 => (13830554455654793216, 0)
  | 2 => (0, 13830554455654793216)
  | m + 3 => (sq (F .quo (F .add 4607182418800017408 (rtA (m + 2)).1) 4611686018427387904), Fneg (sq (F .quo (F .sub 4607182418800017408 (rtA (m + 2)).1) 4611686018427387904)))
def lg (n : Int) : Nat := n.toNat.log2
structure Pw (n : Int) : Prop where
  ex : ∃ m : Nat, m ≤ 6 ∧ n = ((2 ^ m : Nat) : Int)
theorem Pw.cases {n : Int} (h : Pw n) : (n = 1 ∧ lg n = 0) ∨ (n = 2 ∧ lg n = 1) ∨ (n = 4 ∧ lg n = 2) ∨ (n = 8 ∧ lg n = 3) ∨ (n = 16 ∧ lg n = 4) ∨ (n = 32 ∧ lg n = 5) ∨ (n = 64 ∧ lg n = 6) := by
  obtain ⟨m, hm, rfl⟩ := h.ex
  have : m = 0 ∨ m = 1 ∨ m = 2 ∨ m = 3 ∨ m = 4 ∨ m = 5 ∨ m = 6 := by omega
  rcases this with rfl | rfl | rfl | rfl | rfl | rfl | rfl <;> decide
theorem Pw.half {n : Int} (h : Pw n) (h1 : n ≠ 1) : Pw (n / 2) ∧ lg n = lg (n / 2) + 1 ∧ 2 * (n / 2) = n := by
  have p : ∀ m : Nat, m ≤ 6 → Pw ((2 ^ m : Nat) : Int) := fun m hm => ⟨m, hm, rfl⟩
  rcases h.cases with ⟨rfl, _⟩ | ⟨rfl, _⟩ | ⟨rfl, _⟩ | ⟨rfl, _⟩ | ⟨rfl, _⟩ | ⟨rfl, _⟩ | ⟨rfl, _⟩
  · exact absurd rfl h1
  · exact ⟨p 0 (by decide), by decide, by decide⟩
  · exact ⟨p 1 (by decide), by decide, by decide⟩
  · exact ⟨p 2 (by decide), by decide, by decide⟩
  · exact ⟨p 3 (by decide), by decide, by decide⟩
  · exact ⟨p 4 (by decide), by decide, by decide⟩
  · exact ⟨p 5 (by decide), by decide, by decide⟩
theorem Pw.wide {n : Int} (h : Pw n) : 1 ≤ n ∧ n ≤ 64 := by
  rcases h.cases with ⟨rfl, _⟩ | ⟨rfl, _⟩ | ⟨rfl, _⟩ | ⟨rfl, _⟩ | ⟨rfl, _⟩ | ⟨rfl, _⟩ | ⟨rfl, _⟩ <;> decide
theorem rtA_s {n : Int} (h : Pw n) (h1 : ¬ n = 1) (h2 : ¬ n = 2) (h4 : ¬ n = 4) : (rtA (lg n)).1 = sq (F .quo (F .add 4607182418800017408 (rtA (lg (n / 2))).1) 4611686018427387904) ∧
    (rtA (lg n)).2 = Fneg (sq (F .quo (F .sub 4607182418800017408 (rtA (lg (n / 2))).1) 4611686018427387904)) := by
  rcases h.cases with ⟨rfl, _⟩ | ⟨rfl, _⟩ | ⟨rfl, _⟩ | ⟨rfl, e⟩ | ⟨rfl, e⟩ | ⟨rfl, e⟩ | ⟨rfl, e⟩
  · exact absurd rfl h1
  · exact absurd rfl h2
  · exact absurd rfl h4
  · rw [e, show lg ((8 : Int) / 2) = 2 by decide]; exact ⟨rfl, rfl⟩
  · rw [e, show lg ((16 : Int) / 2) = 3 by decide]; exact ⟨rfl, rfl⟩
  · rw [e, show lg ((32 : Int) / 2) = 4 by decide]; exact ⟨rfl, rfl⟩
  · rw [e, show lg ((64 : Int) / 2) = 5 by decide]; exact ⟨rfl, rfl⟩
structure Pw2 (n : Int) : Prop where
  pw : Pw n
  ne : n ≠ 1
def rootIH (N : Int) (ih : ∀ n : Int, n < N → Pw n → ACalls Try.prog 19 [.int .i64 n] (.cpx (rtA (lg n)).1 (rtA (lg n)).2)) : Con Try.prog :=
  ⟨19, fun args => match args with | [.int .i64 n] => .ok (some (n < N ∧ Pw n)) (.cpx (rtA (lg n)).1 (rtA (lg n)).2) | _ => .no, by
  intro args p r h hp
  split at h
  · cases h; exact ih _ hp.1 hp.2
  · cases h⟩
theorem rootS_f : FnOk Try.prog 19 Try.f19 := ⟨Try.func19, by kernel_rfl⟩
theorem rootS_a (N : Int) (ih : ∀ n : Int, n < N → Pw n → ACalls Try.prog 19 [.int .i64 n] (.cpx (rtA (lg n)).1 (rtA (lg n)).2)) (hN : Pw N) : ACalls Try.prog 19 [.int .i64 N] (.cpx (rtA (lg N)).1 (rtA (lg N)).2) := by
  refine acalls_of (inl := hasI (P := Try.prog) [] []) (base [(rootIH N ih), sqrt_k] [] []) 0 rootS_f (And.intro (by kernel_rfl) ?_)
  repeat' (first | refine And.intro ?_ ?_ | (with_reducible exact ff_elim) | (with_reducible exact tf_elim) | refine num_elim ?_ | intro _ | (with_reducible rfl) | ((with_reducible refine lk_t ?_); exact rfl) | ((with_reducible refine pf_t ?_); exact rfl) | refine tell ?_ | exact True.intro | (refine IsT.of ?_; kernel_rfl))
  all_goals (try refine Tell.mk ?_)
  all_goals first | with_reducible rfl | with_reducible exact isI_mk | with_reducible assumption | (with_reducible refine gb_t ?_; with_reducible assumption) | (with_reducible refine gb_f ?_; with_reducible assumption) | ((with_reducible refine lk_t ?_); rfl) | ((with_reducible refine okF_t ?_); kernel_rfl) | ((with_reducible refine ks_t ?_); rfl) | ((with_reducible refine pk_t ?_); rfl) | ((with_reducible refine pf_t ?_); rfl) | skip
  all_goals (try dsimp only at *)
  all_goals (try simp only [decide_eq_true_eq, decide_eq_false_iff_not, Bool.or_eq_true, Bool.or_eq_false_iff, Bool.and_eq_true, Bool.and_eq_false_iff, Bool.not_eq_true', Bool.not_eq_false', bne_iff_ne, ne_eq, beq_iff_eq, bne_eq_false_iff_eq, beq_eq_false_iff_ne, Int.not_lt, Int.not_le, gt_iff_lt, ge_iff_le] at *)
  all_goals (try simp only [mulN1, Nat.add_zero, Nat.zero_add, Nat.mul_one, Int.toNat_natCast, avInt_int] at *)
  all_goals first | with_reducible rfl | with_reducible exact nums_N | omega | ((with_reducible refine by_le 1 rfl ?_); omega) | ((with_reducible refine by_le 8 rfl ?_); omega) | (rw [wrapI (by omega) (by omega)] <;> omega) | skip
  all_goals first | (subst_eqs; with_unfolding_all decide) | skip
  all_goals (have hc : ¬ N = 1 ∧ ¬ N = 2 ∧ ¬ N = 4 := by omega)
  all_goals (have hh := Pw.half hN hc.1; have h2 := Pw.wide hN; have e : IntKind.i64.wrap (N.tdiv 2) = N / 2 := by rw [Int.tdiv_eq_ediv_of_nonneg (by omega), wrapI (by omega) (by omega)])
  all_goals (try simp only [e])
  all_goals first | omega | exact hh.1 | exact (rtA_s hN hc.1 hc.2.1 hc.2.2).1 | exact (rtA_s hN hc.1 hc.2.1 hc.2.2).2
theorem root_i : ∀ (k : Nat) (n : Int), n = k → Pw n → ACalls Try.prog 19 [.int .i64 n] (.cpx (rtA (lg n)).1 (rtA (lg n)).2) := by
  intro k
  induction k using Nat.strongRecOn with
  | _ k ih =>
    intro n hk hn
    exact rootS_a n (fun m hm hp => ih m.toNat (by have := Pw.wide hp; omega) m (by have := Pw.wide hp; omega) hp) hn
def root_k : Con Try.prog := ⟨19, fun args => match args with | [.int .i64 n] => .ok (some (Pw n)) (.cpx (rtA (lg n)).1 (rtA (lg n)).2) | _ => .no, by
  intro args p r h hp
  split at h
  · rename_i n
    cases h; exact root_i n.toNat n (by have : Pw n := hp; have := this.wide; omega) hp
  · cases h⟩
def rootRIH (N : Int) (ih : ∀ n : Int, n < N → Pw2 n → ACalls Try.prog 22 [.int .i64 n] (.cpx (rtA (lg n)).1 (rtA (lg n)).2)) : Con Try.prog :=
  ⟨22, fun args => match args with | [.int .i64 n] => .ok (some (n < N ∧ Pw2 n)) (.cpx (rtA (lg n)).1 (rtA (lg n)).2) | _ => .no, by
  intro args p r h hp
  split at h
  · cases h; exact ih _ hp.1 hp.2
  · cases h⟩
theorem rootRS_f : FnOk Try.prog 22 Try.f22 := ⟨Try.func22, by kernel_rfl⟩
theorem rootRS_a (N : Int) (ih : ∀ n : Int, n < N → Pw2 n → ACalls Try.prog 22 [.int .i64 n] (.cpx (rtA (lg n)).1 (rtA (lg n)).2)) (hN : Pw2 N) : ACalls Try.prog 22 [.int .i64 N] (.cpx (rtA (lg N)).1 (rtA (lg N)).2) := by
  refine acalls_of (inl := hasI (P := Try.prog) [] []) (base [(rootRIH N ih), sqrt_k] [] []) 0 rootRS_f (And.intro (by kernel_rfl) ?_)
  repeat' (first | refine And.intro ?_ ?_ | (with_reducible exact ff_elim) | (with_reducible exact tf_elim) | refine num_elim ?_ | intro _ | (with_reducible rfl) | ((with_reducible refine lk_t ?_); exact rfl) | ((with_reducible refine pf_t ?_); exact rfl) | refine tell ?_ | exact True.intro | (refine IsT.of ?_; kernel_rfl))
  all_goals (try refine Tell.mk ?_)
  all_goals first | with_reducible rfl | with_reducible exact isI_mk | with_reducible assumption | (with_reducible refine gb_t ?_; with_reducible assumption) | (with_reducible refine gb_f ?_; with_reducible assumption) | ((with_reducible refine lk_t ?_); rfl) | ((with_reducible refine okF_t ?_); kernel_rfl) | ((with_reducible refine ks_t ?_); rfl) | ((with_reducible refine pk_t ?_); rfl) | ((with_reducible refine pf_t ?_); rfl) | skip
  all_goals (try dsimp only at *)
  all_goals (try simp only [decide_eq_true_eq, decide_eq_false_iff_not, Bool.or_eq_true, Bool.or_eq_false_iff, Bool.and_eq_true, Bool.and_eq_false_iff, Bool.not_eq_true', Bool.not_eq_false', bne_iff_ne, ne_eq, beq_iff_eq, bne_eq_false_iff_eq, beq_eq_false_iff_ne, Int.not_lt, Int.not_le, gt_iff_lt, ge_iff_le] at *)
  all_goals (try simp only [mulN1, Nat.add_zero, Nat.zero_add, Nat.mul_one, Int.toNat_natCast, avInt_int] at *)
  all_goals first | with_reducible rfl | with_reducible exact nums_N | omega | ((with_reducible refine by_le 1 rfl ?_); omega) | ((with_reducible refine by_le 8 rfl ?_); omega) | (rw [wrapI (by omega) (by omega)] <;> omega) | skip
  all_goals first | (subst_eqs; with_unfolding_all decide) | skip
  all_goals (have hc : ¬ N = 1 ∧ ¬ N = 2 ∧ ¬ N = 4 := by have := hN.ne; omega)
  all_goals (have hh := Pw.half hN.pw hc.1; have h2 := Pw.wide hN.pw; have e : IntKind.i64.wrap (N.tdiv 2) = N / 2 := by rw [Int.tdiv_eq_ediv_of_nonneg (by omega), wrapI (by omega) (by omega)])
  all_goals (try simp only [e])
  all_goals first | omega | exact ⟨hh.1, by omega⟩ | exact (rtA_s hN.pw hc.1 hc.2.1 hc.2.2).1 | exact (rtA_s hN.pw hc.1 hc.2.1 hc.2.2).2
theorem rootR_i : ∀ (k : Nat) (n : Int), n = k → Pw2 n → ACalls Try.prog 22 [.int .i64 n] (.cpx (rtA (lg n)).1 (rtA (lg n)).2) := by
  intro k
  induction k using Nat.strongRecOn with
  | _ k ih =>
    intro n hk hn
    exact rootRS_a n (fun m hm hp => ih m.toNat (by have := Pw.wide hp.pw; omega) m (by have := Pw.wide hp.pw; omega) hp) hn
def rootR_k : Con Try.prog := ⟨22, fun args => match args with | [.int .i64 n] => .ok (some (Pw2 n)) (.cpx (rtA (lg n)).1 (rtA (lg n)).2) | _ => .no, by
  intro args p r h hp
  split at h
  · rename_i n
    cases h; exact rootR_i n.toNat n (by have : Pw n := hp.pw; have := this.wide; omega) hp
  · cases h⟩
end Go.Proofs.Ytnhgicdmlcnpkaa
