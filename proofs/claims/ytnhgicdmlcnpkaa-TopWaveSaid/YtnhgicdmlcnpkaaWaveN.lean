/- Waves forth and back: what the program hands back. -/
import Derived.Test.YtnhgicdmlcnpkaaWaveD
import Derived.Test.YtnhgicdmlcnpkaaLend
import Derived.Test.YtnhgicdmlcnpkaaSlabA
namespace Go.Proofs.Ytnhgicdmlcnpkaa
open Go.RowKit Ev
set_option linter.unusedVariables false
set_option linter.unusedSimpArgs false
set_option maxRecDepth 20000
set_option maxHeartbeats 4000000

theorem nearW_f : FnOk Try.prog 24 Try.f24 := ⟨Try.func24, by kernel_rfl⟩
theorem nearW_a (x : Nat) : ACalls Try.prog 24 [.flt x] (.bool (nearB x)) := by
  refine acalls_of (inl := hasI (P := Try.prog) [] []) (base [] [] []) 0 nearW_f (And.intro (by kernel_rfl) ?_)
  repeat' (first | refine And.intro ?_ ?_ | (with_reducible exact ff_elim) | (with_reducible exact tf_elim) | intro _ | (with_reducible rfl) | ((with_reducible refine lk_t ?_); exact rfl) | ((with_reducible refine pf_t ?_); exact rfl) | refine tell ?_ | exact True.intro | (refine IsT.of ?_; kernel_rfl))
  all_goals ((try refine Tell.mk ?_); first | with_reducible rfl | ((show (_ : Int) ≤ _); decide) | ((show (_ : Int) < _); decide) | (with_reducible refine gb_t ?_; with_reducible assumption) | with_reducible assumption | (with_reducible refine gb_f ?_; with_reducible assumption) | (simp only [nearB, *, cond_true, cond_false]; done) | ((with_reducible refine ks_t ?_); rfl) | ((with_reducible refine pk_t ?_); rfl) | ((with_reducible refine pf_t ?_); rfl) | ((with_reducible refine lk_t ?_); rfl) | ((with_reducible refine okF_t ?_); kernel_rfl) | grind [gb, nearB])
def nearW_k : Con Try.prog := ⟨24, fun args => match args with | [.flt x] => .ok (none) (.bool (nearB x)) | _ => .no, by
  intro args p r h hp
  split at h
  · cases h; exact nearW_a _
  · cases h⟩
/-- A row that may be. -/
structure WaveOk (n : Nat) (X : Nat → Nat × Nat) : Prop where
  pw : pwB n = true
  near : ∀ j, j < n → nearB (X j).1 = true ∧ nearB (X j).2 = true
theorem no_pw {n : Nat} (hw : pwB n = true) (h : ((n : Int) < 1 ∨ 64 < (n : Int)) ∨ ¬ bitsA .and .i64 (n : Int) (IntKind.i64.wrap ((n : Int) - 1)) = 0) : False := by
  have h3 := pwB_le hw
  rcases h with (h | h) | h
  · omega
  · omega
  · rw [← and_all n (by omega) (by omega), decide_eq_true_eq] at hw; exact h hw
theorem mayW_f : FnOk Try.prog 18 Try.f18 := ⟨Try.func18, by kernel_rfl⟩
theorem mayW_a (n : Nat) (X : Nat → Nat × Nat) (hpre : WaveOk n X) : MCalls Try.prog 18 ([.sl n 1 (cpF X)]) [] (.int .i64 0) [] := by
  refine mcallsF_of (inl := hasI (P := Try.prog) [] []) (base [nearW_k] [] []) 0 mayW_f (And.intro (by kernel_rfl) ?_)
  repeat' (first | refine And.intro ?_ ?_ | (with_reducible exact ff_elim) | (with_reducible exact tf_elim) | refine' rho_mk [] ?_ | refine num_elim ?_ | intro _ | (with_reducible rfl) | ((with_reducible refine lk_t ?_); exact rfl) | ((with_reducible refine pf_t ?_); exact rfl) | refine tell ?_ | exact True.intro | (refine IsT.of ?_; kernel_rfl))
  all_goals (try (refine loop_keep [21, 22] [] ?_; refine LoopI.mk ({i : Nat // i ≤ n}) (fun i => [(23, .int .i64 i.1)]) (fun i => []) (fun i => n - i.1) (⟨0, Nat.zero_le _⟩) (wk_mk [] ?_) (fun ⟨i, hi⟩ => ?_)))
  repeat' (first | refine And.intro ?_ ?_ | (with_reducible exact ff_elim) | (with_reducible exact tf_elim) | refine stp_mk [] (⟨i + 1, ?_⟩) ?_ ?_ | refine' rho_mk [] ?_ | refine num_elim ?_ | intro _ | (with_reducible rfl) | ((with_reducible refine lk_t ?_); exact rfl) | ((with_reducible refine pf_t ?_); exact rfl) | refine tell ?_ | exact True.intro | (refine IsT.of ?_; kernel_rfl))
  all_goals (try refine Tell.mk ?_)
  all_goals first | with_reducible rfl | with_reducible exact isI_mk | with_reducible assumption | (with_reducible refine gb_t ?_; with_reducible assumption) | (with_reducible refine gb_f ?_; with_reducible assumption) | ((with_reducible refine lk_t ?_); rfl) | ((with_reducible refine okF_t ?_); kernel_rfl) | ((with_reducible refine ks_t ?_); rfl) | ((with_reducible refine pk_t ?_); rfl) | ((with_reducible refine pf_t ?_); rfl) | skip
  all_goals (try dsimp only at *)
  all_goals (try simp only [decide_eq_true_eq, decide_eq_false_iff_not, Bool.or_eq_true, Bool.or_eq_false_iff, Bool.and_eq_true, Bool.and_eq_false_iff, Bool.not_eq_true', Bool.not_eq_false', bne_iff_ne, ne_eq, beq_iff_eq, bne_eq_false_iff_eq, beq_eq_false_iff_ne, Int.not_lt, Int.not_le, gt_iff_lt, ge_iff_le] at *)
  all_goals (try simp only [mulN1, Nat.add_zero, Nat.zero_add, Nat.mul_one, Int.toNat_natCast, avInt_int, intF_mk] at *)
  all_goals first | with_reducible rfl | with_reducible exact nums_N | omega | ((with_reducible refine by_le 1 rfl ?_); omega) | ((with_reducible refine by_le 8 rfl ?_); omega) | (rw [wrapI (by omega) (by omega)] <;> omega) | skip
  all_goals first | exact (no_pw hpre.pw (by assumption)).elim | skip
  all_goals (rename_i hc; have hn := hpre.near i (by omega); rw [hn.1, hn.2] at hc; rcases hc with hc | hc <;> cases hc)
def mayW_m : MCon Try.prog :=
  ⟨18, fun args own => match args with | [.sl n 1 g] => .ok [] [.sl n 1 (cpF (gX g))] [] (some (WaveOk n (gX g))) (.int .i64 0) [] | _ => .no, by
  intro args own ks cargs rows p r rows2 h hp
  split at h
  · cases h; exact mayW_a _ _ hp
  · cases h⟩
theorem forthS_f : FnOk Try.prog 11 Try.f11 := ⟨Try.func11, by kernel_rfl⟩
theorem forthS_a (n : Nat) (X : Nat → Nat × Nat) (hpre : WaveOk n X) : MCalls Try.prog 11 ([.sl n 1 (cpF X)]) [] (.tup [.os 0 1 0 n, .int .i64 0]) [.arr n (cpF (wvN false n X))] := by
  refine mcallsF_of (inl := hasI (P := Try.prog) [] [mayW_m, waves_m]) (base [] [] [mayW_m, waves_m]) 0 forthS_f (And.intro (by kernel_rfl) ?_)
  repeat' (first | refine And.intro ?_ ?_ | (with_reducible exact ff_elim) | (with_reducible exact tf_elim) | refine' rho_mk [_] ?_ | refine num_elim ?_ | intro _ | (with_reducible rfl) | ((with_reducible refine lk_t ?_); exact rfl) | ((with_reducible refine pf_t ?_); exact rfl) | refine tell ?_ | exact True.intro | (refine IsT.of ?_; kernel_rfl))
  all_goals (try exact (0 : Nat))
  all_goals (try refine Tell.mk ?_)
  all_goals first | with_reducible rfl | with_reducible exact isI_mk | with_reducible assumption | (with_reducible refine gb_t ?_; with_reducible assumption) | (with_reducible refine gb_f ?_; with_reducible assumption) | ((with_reducible refine lk_t ?_); rfl) | ((with_reducible refine okF_t ?_); kernel_rfl) | ((with_reducible refine ks_t ?_); rfl) | ((with_reducible refine pk_t ?_); rfl) | ((with_reducible refine pf_t ?_); rfl) | skip
  all_goals (try dsimp only at *)
  all_goals (try simp only [decide_eq_true_eq, decide_eq_false_iff_not, Bool.or_eq_true, Bool.or_eq_false_iff, Bool.and_eq_true, Bool.and_eq_false_iff, Bool.not_eq_true', Bool.not_eq_false', bne_iff_ne, ne_eq, beq_iff_eq, bne_eq_false_iff_eq, beq_eq_false_iff_ne, Int.not_lt, Int.not_le, gt_iff_lt, ge_iff_le] at *)
  all_goals (try simp only [mulN1, Nat.add_zero, Nat.zero_add, Nat.mul_one, Int.toNat_natCast, avInt_int, intF_mk] at *)
  all_goals first | with_reducible rfl | with_reducible exact nums_N | omega | ((with_reducible refine by_le 1 rfl ?_); omega) | ((with_reducible refine by_le 8 rfl ?_); omega) | (rw [wrapI (by omega) (by omega)] <;> omega) | skip
  all_goals first | rfl | exact hpre | exact pwB_iff.1 hpre.pw | (rename_i hc; exact absurd trivial hc)
def bkF (n : Nat) (X : Nat → Nat × Nat) (j : Nat) : Nat × Nat := (F .quo (X j).1 (cn (FloatKind.f64.nearest n)), F .quo (X j).2 (cn (FloatKind.f64.nearest n)))
theorem bk_v {n : Nat} {X : Nat → Nat × Nat} {i : Nat} {v : AV} (h : v = .cpx (F .quo (mixC (bkF n X) X i i).1 (cn (FloatKind.f64.nearest n))) (F .quo (mixC (bkF n X) X i i).2 (cn (FloatKind.f64.nearest n)))) : v = .cpx (bkF n X i).1 (bkF n X i).2 := by
  have e : mixC (bkF n X) X i i = X i := by unfold mixC; rw [if_neg (by omega)]
  rw [h, e]; rfl
theorem backS_f : FnOk Try.prog 12 Try.f12 := ⟨Try.func12, by kernel_rfl⟩
theorem backS_a (n : Nat) (X : Nat → Nat × Nat) (hpre : WaveOk n X) : MCalls Try.prog 12 ([.sl n 1 (cpF X)]) [] (.tup [.os 0 1 0 n, .int .i64 0]) [.arr n (cpF (bkF n (wvN true n X)))] := by
  refine mcallsF_of (inl := hasI (P := Try.prog) [] [mayW_m, waves_m]) (base [] [] [mayW_m, waves_m]) 0 backS_f (And.intro (by kernel_rfl) ?_)
  repeat' (first | refine And.intro ?_ ?_ | (with_reducible exact ff_elim) | (with_reducible exact tf_elim) | refine' rho_mk [_] ?_ | refine num_elim ?_ | intro _ | (with_reducible rfl) | ((with_reducible refine lk_t ?_); exact rfl) | ((with_reducible refine pf_t ?_); exact rfl) | refine tell ?_ | exact True.intro | (refine IsT.of ?_; kernel_rfl))
  all_goals (try (refine loop_keep [5, 6, 19, 20] [] ?_; refine LoopI.mk ({i : Nat // i ≤ n}) (fun i => [(21, .int .i64 i.1)]) (fun i => [(7, .arr n (cpF (mixC (bkF n (wvN true n X)) (wvN true n X) i.1)))]) (fun i => n - i.1) (⟨0, Nat.zero_le _⟩) (wk_mk [some 7] ?_) (fun ⟨i, hi⟩ => ?_)))
  repeat' (first | refine And.intro ?_ ?_ | (with_reducible exact ff_elim) | (with_reducible exact tf_elim) | refine stp_mk [some 7] (⟨i + 1, ?_⟩) ?_ ?_ | refine' rho_mk [_] ?_ | refine num_elim ?_ | intro _ | (with_reducible rfl) | ((with_reducible refine lk_t ?_); exact rfl) | ((with_reducible refine pf_t ?_); exact rfl) | refine tell ?_ | exact True.intro | (refine IsT.of ?_; kernel_rfl))
  all_goals (try exact (0 : Nat))
  all_goals (try refine Tell.mk ?_)
  all_goals first | with_reducible rfl | with_reducible exact isI_mk | with_reducible assumption | (with_reducible refine gb_t ?_; with_reducible assumption) | (with_reducible refine gb_f ?_; with_reducible assumption) | ((with_reducible refine lk_t ?_); rfl) | ((with_reducible refine okF_t ?_); kernel_rfl) | ((with_reducible refine ks_t ?_); rfl) | ((with_reducible refine pk_t ?_); rfl) | ((with_reducible refine pf_t ?_); rfl) | skip
  all_goals (try dsimp only at *)
  all_goals (try simp only [decide_eq_true_eq, decide_eq_false_iff_not, Bool.or_eq_true, Bool.or_eq_false_iff, Bool.and_eq_true, Bool.and_eq_false_iff, Bool.not_eq_true', Bool.not_eq_false', bne_iff_ne, ne_eq, beq_iff_eq, bne_eq_false_iff_eq, beq_eq_false_iff_ne, Int.not_lt, Int.not_le, gt_iff_lt, ge_iff_le] at *)
  all_goals (try simp only [mulN1, Nat.add_zero, Nat.zero_add, Nat.mul_one, Int.toNat_natCast, avInt_int, intF_mk] at *)
  all_goals first | with_reducible rfl | with_reducible exact nums_N | omega | ((with_reducible refine by_le 1 rfl ?_); omega) | ((with_reducible refine by_le 8 rfl ?_); omega) | (rw [wrapI (by omega) (by omega)] <;> omega) | skip
  all_goals first | rfl | exact hpre | exact pwB_iff.1 hpre.pw | (rename_i hc; exact absurd trivial hc) | skip
  all_goals (have hl := pwB_le hpre.pw)
  all_goals first | (rw [wrapI (by omega) (by omega)]; omega) | (refine mix_s (bk_v ?_); rfl) | (unfold cpF mixC; rw [if_pos (by omega)])
/-- Forth, of a row that is the caller's own. -/
theorem forthO_a (n : Nat) (X : Nat → Nat × Nat) (h : WaveOk n X) : MCalls Try.prog 11 [.os 0 1 0 n] [.arr n (cpF X)] (.tup [.os 1 1 0 n, .int .i64 0]) [.arr n (cpF X), .arr n (cpF (wvN false n X))] :=
  MCalls.lend (forthS_a n X h) (fun a ha => by cases ha) (fun _ => rfl) (fun _ => rfl) (fun w σ Im τ J v => rd_tup2 w σ Im τ J v)
def forthO_m : MCon Try.prog :=
  ⟨11, fun args own => match args with | [.os k_ 1 0 n] => (match own k_ with | .arr m g => .ok [k_] [.os 0 1 0 n] [.arr n (cpF (gX g))] (some (m = n ∧ WaveOk n (gX g))) (.tup [.os 1 1 0 n, .int .i64 0]) [.arr n (cpF (gX g)), .arr n (cpF (wvN false n (gX g)))] | _ => .no) | _ => .no, by
  intro args own ks cargs rows p r rows2 h hp
  split at h
  · split at h
    · cases h; exact forthO_a _ _ hp.2
    · cases h
  · cases h⟩
def backS_m : MCon Try.prog :=
  ⟨12, fun args own => match args with | [.sl n 1 g] => .ok [] [.sl n 1 (cpF (gX g))] [] (some (WaveOk n (gX g))) (.tup [.os 0 1 0 n, .int .i64 0]) [.arr n (cpF (bkF n (wvN true n (gX g))))] | _ => .no, by
  intro args own ks cargs rows p r rows2 h hp
  split at h
  · cases h; exact backS_a _ _ hp
  · cases h⟩
end Go.Proofs.Ytnhgicdmlcnpkaa
