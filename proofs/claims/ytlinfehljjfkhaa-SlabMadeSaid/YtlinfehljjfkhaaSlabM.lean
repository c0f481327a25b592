/- The law SlabMade, by the machine. -/
import Derived.Test.YtlinfehljjfkhaaSlabG
import Derived.Test.YtlinfehljjfkhaaMade
namespace Go.Proofs.Ytlinfehljjfkhaa
open Go.RowKit Ev
set_option linter.unusedVariables false
set_option linter.unusedSimpArgs false
set_option maxRecDepth 20000
set_option maxHeartbeats 4000000

theorem slabMade_f : FnOk Try.prog 4 Try.f4 := ⟨Try.func4, by kernel_rfl⟩
theorem slabMade_a (n : Nat) (F : Nat → Int) (hpre : ∀ j, In64 (F j)) : ACalls Try.prog 4 [ints .i64 n F] (.bool true) := by
  refine acalls_of (inl := hasI (P := Try.prog) [] []) (base [vecOf_k, lowR_k, highR_k, rayOf_k, joinR_k, slabSays_k] [] []) 0 slabMade_f (And.intro (by kernel_rfl) ?_)
  repeat' (first | refine And.intro ?_ ?_ | (with_reducible exact ff_elim) | (with_reducible exact tf_elim) | refine num_elim ?_ | intro _ | (with_reducible rfl) | ((with_reducible refine lk_t ?_); exact rfl) | refine tell ?_ | exact True.intro | (refine IsT.of ?_; kernel_rfl))
  all_goals (try refine Tell.mk ?_)
  all_goals first | with_reducible rfl | with_reducible exact isI_mk | with_reducible assumption | (with_reducible refine gb_t ?_; with_reducible assumption) | (with_reducible refine gb_f ?_; with_reducible assumption) | ((with_reducible refine ks_t ?_); rfl) | ((with_reducible refine pk_t ?_); rfl) | ((with_reducible refine lk_t ?_); rfl) | ((with_reducible refine okF_t ?_); kernel_rfl) | ((try simp only [mulN1, intF_mk, Int.add_assoc, Int.reduceAdd] at *) <;> first | with_reducible rfl | (simp only [vecOf_p, rayOf_p, *, cond_true, cond_false]; done) | exact rawF_in hF | exact hF _ | omega | (simp only [vecOf_p, rayOf_p]; omega) | (simp only [vecOf_p, rayOf_p] at *; omega) | exact ⟨hpre, by omega⟩)
def slabMade_r (n : Nat) (F : Nat → Int) : AV := .bool true
def slabMade_p (n : Nat) (F : Nat → Int) : Prop := ∀ j, In64 (F j)
def slabMade_k : Con Try.prog := ⟨4, fun args => match args with | [.sl n 1 g_F] => .ok (some (IsI .i64 g_F ∧ slabMade_p n (intF g_F))) (slabMade_r n (intF g_F)) | _ => .no, by
  intro args p r h hp
  split at h
  · cases h; obtain ⟨h_F, hp⟩ := hp; have e_F := h_F.eq; rw [e_F]; exact slabMade_a _ _ hp
  · cases h⟩
end Go.Proofs.Ytlinfehljjfkhaa
