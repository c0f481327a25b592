/- Keys and scenes that are made of raw numbers: the law's walk. -/
import Derived.Test.YtpmmabaecldmkaaGreatReelAllB
import Derived.Test.YtpmmabaecldmkaaGreatReelAllC
namespace Go.Proofs.YtpmmabaecldmkaaGreat
open Go.RowKit Ev
set_option linter.unusedVariables false
set_option linter.unusedSimpArgs false
set_option maxRecDepth 20000
set_option maxHeartbeats 4000000

def sceneOfK (k : Nat) : Con Tryz.prog := ⟨14, fun args => match args with | [.sl n 1 g, .int .i64 k'] => .ok (some (k' = (k : Int) ∧ IsI .i64 g ∧ (∀ j, In64 (intF g j)) ∧ k ≤ 64 ∧ n ≤ 1000000)) (.agg (scnO n (intF g) k).row) | _ => .no, by
  intro args p r h hp
  split at h
  · cases h; obtain ⟨rfl, h_g, hq⟩ := hp; have e_g := h_g.eq; rw [e_g]; exact sceneOf_a _ _ _ hq
  · cases h⟩
def reelSaysK (s : Scn) (w : Int) (n : Nat) (K : Nat → Int) (t : Int) : Con Tryz.prog := ⟨3, fun args => .ok (some (args = [.agg s.row, .int .i64 w, ints4 .i64 n K, .int .i64 t] ∧ (∀ j, In64 (K j)) ∧ In64 t)) (.bool true), by
  intro args p r h hp
  cases h
  obtain ⟨rfl, h2⟩ := hp
  exact reelSays_a s w n K t h2⟩
theorem reelMade_f : FnOk Tryz.prog 4 Tryz.f4 := ⟨Tryz.func4, by kernel_rfl⟩
theorem reelMade_a (n : Nat) (F : Nat → Int) (k w : Int) (m : Nat) (K : Nat → Int) (t : Int) (hpre : (∀ j, In64 (F j)) ∧ In64 k ∧ In64 w ∧ (∀ j, In64 (K j)) ∧ In64 t) : ACalls Tryz.prog 4 [ints .i64 n F, .int .i64 k, .int .i64 w, ints4 .i64 m K, .int .i64 t] (.bool true) := by
  refine acalls_of (inl := hasI (P := Tryz.prog) [] []) (base [pick_k, (sceneOfK (1 + pickF k 6).toNat), (reelSaysK (scnO n F (1 + pickF k 6).toNat) (pickF w (IntKind.i64.wrap (1 + pickF k 6))) m K t)] [] []) 0 reelMade_f (And.intro (by kernel_rfl) ?_)
  obtain ⟨hF, hk, hw, hK, ht⟩ := hpre
  have p6 := pickF_bd k 6 (by omega)
  have w6 : IntKind.i64.wrap (1 + pickF k 6) = 1 + pickF k 6 := wrapI (by omega) (by omega)
  repeat' (first | refine And.intro ?_ ?_ | (with_reducible exact ff_elim) | (with_reducible exact tf_elim) | refine num_elim ?_ | intro _ | (with_reducible rfl) | ((with_reducible refine lk_t ?_); exact rfl) | ((with_reducible refine pf_t ?_); exact rfl) | refine tell ?_ | exact True.intro | (refine IsT.of ?_; kernel_rfl))
  all_goals (try refine Tell.mk ?_)
  all_goals first | with_reducible rfl | with_reducible assumption | with_reducible exact isI_mk | rfl | exact hF _ | exact hK _ | (simp only [w6]; omega) | (simp only [decide_eq_true_eq, decide_eq_false_iff_not] at *; omega) | trace_state
end Go.Proofs.YtpmmabaecldmkaaGreat
