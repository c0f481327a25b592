/- The law of skins, of pictures that are made of raw numbers. -/
import Derived.Test.YtlcdaoljfclliaaSkinG
import Derived.Test.YtlcdaoljfclliaaPicOf
namespace Go.Proofs.Ytlcdaoljfclliaa
open Go.RowKit Ev
set_option linter.unusedVariables false
set_option linter.unusedSimpArgs false
set_option maxRecDepth 20000
set_option maxHeartbeats 4000000

theorem skinMade_f : FnOk Try.prog 5 Try.f5 := ⟨Try.func5, by kernel_rfl⟩
theorem skinMade_a (n : Nat) (F : Nat → Int) (w h t u v : Int) (hpre : (∀ j, In64 (F j)) ∧ In64 w ∧ In64 h ∧ In64 t ∧ In64 u ∧ In64 v) : ACalls Try.prog 5 [ints .i64 n F, .int .i64 w, .int .i64 h, .int .i64 t, .int .i64 u, .int .i64 v] (.bool true) := by
  refine acalls_of (inl := hasI (P := Try.prog) [] []) (base [pick_k, raw_k, pictureOf_k, skinSays_k] [] []) 0 skinMade_f (And.intro (by kernel_rfl) ?_)
  obtain ⟨hF, hw, hh, ht, hu, hv⟩ := hpre
  have b0 := pickF_bd w 7 (by omega)
  have b1 := pickF_bd h 7 (by omega)
  have e0 : IntKind.i64.wrap (1 + pickF w 7) = 1 + pickF w 7 := wrapI (by omega) (by omega)
  have e1 : IntKind.i64.wrap (1 + pickF h 7) = 1 + pickF h 7 := wrapI (by omega) (by omega)
  repeat' (first | refine And.intro ?_ ?_ | (with_reducible exact ff_elim) | (with_reducible exact tf_elim) | refine num_elim ?_ | intro _ | (with_reducible rfl) | ((with_reducible refine lk_t ?_); exact rfl) | refine tell ?_ | exact True.intro | (refine IsT.of ?_; kernel_rfl))
  all_goals (try refine Tell.mk ?_)
  all_goals first | with_reducible rfl | with_reducible exact isI_mk | with_reducible assumption | (with_reducible refine gb_t ?_; with_reducible assumption) | (with_reducible refine gb_f ?_; with_reducible assumption) | ((with_reducible refine lk_t ?_); rfl) | ((with_reducible refine okF_t ?_); kernel_rfl) | ((with_reducible refine ks_t ?_); rfl) | ((with_reducible refine pk_t ?_); rfl) | skip
  all_goals (try dsimp only at *)
  all_goals (try simp only [decide_eq_true_eq, decide_eq_false_iff_not, Bool.or_eq_true, Bool.or_eq_false_iff, Bool.and_eq_true, Bool.and_eq_false_iff, Bool.not_eq_true', Bool.not_eq_false', bne_iff_ne, ne_eq, beq_iff_eq, bne_eq_false_iff_eq, beq_eq_false_iff_ne, Int.not_lt, Int.not_le, gt_iff_lt, ge_iff_le] at *)
  all_goals (try simp only [mulN1, Nat.add_zero, Nat.zero_add, Nat.mul_one, Int.toNat_natCast, avInt_int, intF_mk, e0, e1] at *)
  all_goals first | with_reducible rfl | with_reducible exact nums_N | omega | ((with_reducible refine by_le 1 rfl ?_); omega) | ((with_reducible refine by_le 8 rfl ?_); omega) | (rw [wrapI (by omega) (by omega)] <;> omega) | skip
  all_goals first | with_reducible exact hF _ | exact (pixF_bd _ _ _ _).1 | exact (pixF_bd _ _ _ _).2 | with_reducible assumption | omega
def skinMade_r (n : Nat) (F : Nat → Int) (w h t u v : Int) : AV := .bool true
def skinMade_p (n : Nat) (F : Nat → Int) (w h t u v : Int) : Prop := (∀ j, In64 (F j)) ∧ In64 w ∧ In64 h ∧ In64 t ∧ In64 u ∧ In64 v
def skinMade_k : Con Try.prog := ⟨5, fun args => match args with | [.sl n 1 g_F, .int .i64 w, .int .i64 h, .int .i64 t, .int .i64 u, .int .i64 v] => .ok (some (IsI .i64 g_F ∧ skinMade_p n (intF g_F) w h t u v)) (skinMade_r n (intF g_F) w h t u v) | _ => .no, by
  intro args p r h hp
  split at h
  · cases h; obtain ⟨h_F, hp⟩ := hp; have e_F := h_F.eq; rw [e_F]; exact skinMade_a _ _ _ _ _ _ _ hp
  · cases h⟩
end Go.Proofs.Ytlcdaoljfclliaa
