/- What is made of raw numbers. -/
import Derived.Test.YtnhgicdmlcnpkaaEvNum
import Derived.Test.YtnhgicdmlcnpkaaSlabA
namespace Go.Proofs.Ytnhgicdmlcnpkaa
open Go.RowKit Ev
set_option linter.unusedVariables false
set_option linter.unusedSimpArgs false
set_option maxRecDepth 20000
set_option maxHeartbeats 4000000

theorem pick_f : FnOk Try.prog 9 Try.f9 := ⟨Try.func9, by kernel_rfl⟩
theorem pick_a (c n : Int) (hpre : In64 c ∧ 1 ≤ n ∧ n ≤ 4294967296) : ACalls Try.prog 9 [.int .i64 c, .int .i64 n] (.int .i64 (pickF c n)) := by
  refine acalls_of (inl := hasI (P := Try.prog) [] []) (base [] [] []) 0 pick_f (And.intro (by kernel_rfl) ?_)
  repeat' (first | refine And.intro ?_ ?_ | (with_reducible exact ff_elim) | (with_reducible exact tf_elim) | intro _ | (with_reducible rfl) | ((with_reducible refine lk_t ?_); exact rfl) | ((with_reducible refine pf_t ?_); exact rfl) | refine tell ?_ | exact True.intro | (refine IsT.of ?_; kernel_rfl))
  all_goals obtain ⟨⟨c0, c1⟩, n0, n1⟩ := hpre
  all_goals (try refine Tell.mk ?_)
  all_goals first | with_reducible rfl | (simp only [decide_eq_true_eq, decide_eq_false_iff_not] at *; (iterate 3 (try simp (disch := omega) only [wrapI] at *)); subst_vars; first | omega | (unfold pickF; split <;> first | omega | (rw [Int.tmod_eq_emod_of_nonneg (by omega)]; done) | (rw [Int.tmod_eq_emod_of_nonneg (by omega)]; congr 1; omega)))
def pick_k : Con Try.prog := ⟨9, fun args => match args with | [.int .i64 c, .int .i64 n] => .ok (some (In64 c ∧ 1 ≤ n ∧ n ≤ 4294967296)) (.int .i64 (pickF c n)) | _ => .no, by
  intro args p r h hp
  split at h
  · cases h; exact pick_a _ _ hp
  · cases h⟩
theorem raw_f : FnOk Try.prog 10 Try.f10 := ⟨Try.func10, by kernel_rfl⟩
theorem raw_a (n : Nat) (F : Nat → Int) (k : Int) (hpre : 0 ≤ k) : ACalls Try.prog 10 [ints .i64 n F, .int .i64 k] (.int .i64 (rawF n F k)) := by
  refine acalls_of (inl := hasI (P := Try.prog) [] []) (base [] [] []) 0 raw_f (And.intro (by kernel_rfl) ?_)
  repeat' (first | refine And.intro ?_ ?_ | (with_reducible exact ff_elim) | (with_reducible exact tf_elim) | intro _ | (with_reducible rfl) | ((with_reducible refine lk_t ?_); exact rfl) | ((with_reducible refine pf_t ?_); exact rfl) | refine tell ?_ | exact True.intro | (refine IsT.of ?_; kernel_rfl))
  all_goals (try refine Tell.mk ?_)
  all_goals first | with_reducible rfl | (simp only [beq_iff_eq, beq_eq_false_iff_ne] at *; subst_vars; first | omega | exact Int.tmod_nonneg _ hpre | exact Int.tmod_lt_of_pos _ (by omega) | (unfold rawF; rw [if_pos (by omega)]; done) | (unfold rawF; rw [if_neg (by omega), Int.tmod_eq_emod_of_nonneg hpre, mulN1, Nat.add_zero, Int.toNat_emod hpre (by omega)]; rfl))
def raw_r (n : Nat) (F : Nat → Int) (k : Int) : AV := .int .i64 (rawF n F k)
def raw_p (n : Nat) (F : Nat → Int) (k : Int) : Prop := 0 ≤ k
def raw_k : Con Try.prog := ⟨10, fun args => match args with | [.sl n 1 g_F, .int .i64 k] => .ok (some (IsI .i64 g_F ∧ raw_p n (intF g_F) k)) (raw_r n (intF g_F) k) | _ => .no, by
  intro args p r h hp
  split at h
  · cases h; obtain ⟨h_F, hp⟩ := hp; have e_F := h_F.eq; rw [e_F]; exact raw_a _ _ _ hp
  · cases h⟩
def thoF (n : Int) : Nat := F .quo (cn (FloatKind.f64.nearest n)) 4652007308841189376
def milF (c most : Int) : Nat := thoF (pickF c (2 * most + 1) - most)
def ryX (n : Nat) (F : Nat → Int) (k : Int) : Nat := bif pickF (rawF n F (k + 7)) 3 == 0 then 0 else milF (rawF n F (k + 3)) 1500
def ryY (n : Nat) (F : Nat → Int) (k : Int) : Nat := bif pickF (rawF n F (k + 8)) 4 == 0 then 0 else milF (rawF n F (k + 4)) 1500
def ryZ (n : Nat) (F : Nat → Int) (k : Int) : Nat := bif feq (ryX n F k) 0 && (feq (ryY n F k) 0 && feq (milF (rawF n F (k + 5)) 1500) 0) then 4607182418800017408 else milF (rawF n F (k + 5)) 1500
end Go.Proofs.Ytnhgicdmlcnpkaa
