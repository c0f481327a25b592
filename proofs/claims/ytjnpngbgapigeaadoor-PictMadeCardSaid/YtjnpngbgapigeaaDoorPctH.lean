/- Pictures as bytes: the document's unpacking, walked. -/
import Derived.Test.YtjnpngbgapigeaaDoorPctG
namespace Go.Proofs.YtjnpngbgapigeaaDoor
open Go.RowKit Ev
set_option linter.unusedVariables false
set_option linter.unusedSimpArgs false
set_option maxRecDepth 20000
set_option maxHeartbeats 8000000

structure SmI (n m : Nat) (A B : Nat → Int) where
  k : Nat
  hk : k ≤ n
  he : ∀ j, j < k → A j = B j
theorem strI_no {n m : Nat} {A B : Nat → Int} (hA : U8s A) (hB : U8s B) (h : ¬ (n = m ∧ ∀ j, j < n → A j = B j)) : ((strI n fun j => A j).toList == (strI m fun j => B j).toList) = false := by
  cases q : ((strI n fun j => A j).toList == (strI m fun j => B j).toList)
  · rfl
  · exact absurd ((strI_same hA hB).1 q) h
theorem strI_yes {n m : Nat} {A B : Nat → Int} (h : n = m) (g : ∀ j, j < n → A j = B j) : ((strI n fun j => A j).toList == (strI m fun j => B j).toList) = true := by
  subst h; rw [strI_ext g]; exact beq_self_eq_true _
theorem sm_next {A B : Nat → Int} {k j : Nat} (he : ∀ j, j < k → A j = B j) (h : A k = B k) (hj : j < k + 1) : A j = B j := by
  by_cases e : j = k
  · rw [e]; exact h
  · exact he j (by omega)
theorem sameR_f : FnOk Tryd.prog 19 Tryd.f19 := ⟨Tryd.func19, by kernel_rfl⟩
theorem sameR_a (n m : Nat) (A B : Nat → Int) (hpre : U8s A ∧ U8s B ∧ n ≤ 1000000 ∧ m ≤ 1000000) : ACalls Tryd.prog 19 [ints .u8 n A, ints .u8 m B] (.bool ((strI n fun j => A j).toList == (strI m fun j => B j).toList)) := by
  refine acalls_of (inl := hasI (P := Tryd.prog) [] []) (base [] [] []) 0 sameR_f (And.intro (by kernel_rfl) ?_)
  obtain ⟨hA, hB, hn, hm⟩ := hpre
  repeat' (first | refine And.intro ?_ ?_ | (with_reducible exact ff_elim) | (with_reducible exact tf_elim) | refine num_elim ?_ | intro _ | (with_reducible rfl) | ((with_reducible refine lk_t ?_); exact rfl) | ((with_reducible refine pf_t ?_); exact rfl) | refine tell ?_ | exact True.intro | (refine IsT.of ?_; kernel_rfl))
  all_goals (try (refine loop_keep [0, 1] [] ?_; refine LoopI.mk (SmI n m A B) (fun j => [(5, .int .i64 j.k)]) (fun j => []) (fun j => n - j.k) (⟨0, Nat.zero_le _, fun j hj => absurd hj (Nat.not_lt_zero _)⟩) (wk_mk [] ?_) (fun ⟨k, hk, he⟩ => ?_)))
  repeat' (first | refine And.intro ?_ ?_ | (with_reducible exact ff_elim) | (with_reducible exact tf_elim) | refine stp_mk [] ((⟨k + 1, ?_, ?_⟩ : SmI n m A B)) ?_ ?_ | refine num_elim ?_ | intro _ | (with_reducible rfl) | ((with_reducible refine lk_t ?_); exact rfl) | ((with_reducible refine pf_t ?_); exact rfl) | refine tell ?_ | exact True.intro | (refine IsT.of ?_; kernel_rfl))
  all_goals (try refine Tell.mk ?_)
  all_goals (try dsimp only at *)
  all_goals first | with_reducible rfl | with_reducible exact isI_mk | with_reducible assumption | ((show (_ : Nat) ≤ _); decide) | (show 0 < 1; decide) | skip
  all_goals (try simp only [intF_mk, mulN1, Nat.add_zero, Nat.zero_add, Int.toNat_natCast, decide_eq_true_eq, decide_eq_false_iff_not, bne_iff_ne, ne_eq, bne_eq_false_iff_eq, Int.ofNat_inj, Bool.not_eq_true', Bool.not_eq_false'] at *)
  all_goals first | rfl | omega | (rw [wrapI (by omega) (by omega)]; omega) | skip
  all_goals first | exact strI_no hA hB (fun c => by omega) | exact strI_no hA hB (fun c => absurd (c.2 k (by omega)) (by assumption)) | exact strI_yes (by omega) (fun j hj => he j (by omega)) | exact sm_next he (by assumption) (by assumption) | trace_state
def sameR_r (n m : Nat) (A B : Nat → Int) : AV := .bool ((strI n fun j => A j).toList == (strI m fun j => B j).toList)
def sameR_p (n m : Nat) (A B : Nat → Int) : Prop := U8s A ∧ U8s B ∧ n ≤ 1000000 ∧ m ≤ 1000000
def sameR_k : Con Tryd.prog := ⟨19, fun args => match args with | [.sl n 1 g_A, .sl m 1 g_B] => .ok (some (IsI .u8 g_A ∧ IsI .u8 g_B ∧ sameR_p n m (intF g_A) (intF g_B))) (sameR_r n m (intF g_A) (intF g_B)) | _ => .no, by
  intro args p r h hp
  split at h
  · cases h; obtain ⟨h_A, h_B, hp⟩ := hp; have e_A := h_A.eq; have e_B := h_B.eq; rw [e_A, e_B]; exact sameR_a _ _ _ _ hp
  · cases h⟩
theorem sameM_f : FnOk Tryd.prog 19 Tryd.f19 := ⟨Tryd.func19, by kernel_rfl⟩
theorem sameM_a (n m N : Nat) (A B : Nat → Int) (hpre : (n ≤ N ∧ 0 < n) ∧ U8s A ∧ U8s B ∧ n ≤ 1000000 ∧ m ≤ 1000000) : MCalls Tryd.prog 19 ([.os 0 1 0 n, ints .u8 m B]) [.nums .u8 N A] (.bool ((strI n fun j => A j).toList == (strI m fun j => B j).toList)) [.nums .u8 N A] := by
  refine mcallsF_of (inl := hasI (P := Tryd.prog) [] []) (base [] [] []) 0 sameM_f (And.intro (by kernel_rfl) ?_)
  obtain ⟨hN, hA, hB, hn, hm⟩ := hpre
  repeat' (first | refine And.intro ?_ ?_ | (with_reducible exact ff_elim) | (with_reducible exact tf_elim) | refine' rho_mk [] ?_ | refine num_elim ?_ | intro _ | (with_reducible rfl) | ((with_reducible refine lk_t ?_); exact rfl) | ((with_reducible refine pf_t ?_); exact rfl) | refine tell ?_ | exact True.intro | (refine IsT.of ?_; kernel_rfl))
  all_goals (try (refine loop_keep [0, 1] [0] ?_; refine LoopI.mk (SmI n m A B) (fun j => [(5, .int .i64 j.k)]) (fun j => []) (fun j => n - j.k) (⟨0, Nat.zero_le _, fun j hj => absurd hj (Nat.not_lt_zero _)⟩) (wk_mk [none] ?_) (fun ⟨k, hk, he⟩ => ?_)))
  repeat' (first | refine And.intro ?_ ?_ | (with_reducible exact ff_elim) | (with_reducible exact tf_elim) | refine stp_mk [none] ((⟨k + 1, ?_, ?_⟩ : SmI n m A B)) ?_ ?_ | refine' rho_mk [] ?_ | refine num_elim ?_ | intro _ | (with_reducible rfl) | ((with_reducible refine lk_t ?_); exact rfl) | ((with_reducible refine pf_t ?_); exact rfl) | refine tell ?_ | exact True.intro | (refine IsT.of ?_; kernel_rfl))
  all_goals (try refine Tell.mk ?_)
  all_goals (try dsimp only at *)
  all_goals first | with_reducible rfl | with_reducible exact isI_mk | with_reducible assumption | ((show (_ : Nat) ≤ _); decide) | (show 0 < 1; decide) | skip
  all_goals (try simp only [intF_mk, mulN1, Nat.add_zero, Nat.zero_add, Int.toNat_natCast, decide_eq_true_eq, decide_eq_false_iff_not, bne_iff_ne, ne_eq, bne_eq_false_iff_eq, Int.ofNat_inj, Bool.not_eq_true', Bool.not_eq_false'] at *)
  all_goals first | rfl | omega | (rw [wrapI (by omega) (by omega)]; omega) | skip
  all_goals first | exact strI_no hA hB (fun c => by omega) | exact strI_no hA hB (fun c => absurd (c.2 k (by omega)) (by assumption)) | exact strI_yes (by omega) (fun j hj => he j (by omega)) | exact sm_next he (by assumption) (by assumption) | trace_state
def sameM_p (n m N : Nat) (A B : Nat → Int) : Prop := (n ≤ N ∧ 0 < n) ∧ U8s A ∧ U8s B ∧ n ≤ 1000000 ∧ m ≤ 1000000
def sameM_r (n m N : Nat) (A B : Nat → Int) : AV := .bool ((strI n fun j => A j).toList == (strI m fun j => B j).toList)
def sameM_rows (n m N : Nat) (A B : Nat → Int) : List OB := [.nums .u8 N A]
def sameM_rows2 (n m N : Nat) (A B : Nat → Int) : List OB := [.nums .u8 N A]
def sameM_m : MCon Tryd.prog := ⟨19, fun args own => match args with | [.os k0_ 1 0 n, .sl m 1 g_B] => (match own k0_ with | .nums .u8 N A => .ok [k0_] ([.os 0 1 0 n, .sl m 1 g_B]) (sameM_rows n m N A (intF g_B)) (some (IsI .u8 g_B ∧ sameM_p n m N A (intF g_B))) (sameM_r n m N A (intF g_B)) (sameM_rows2 n m N A (intF g_B)) | _ => .no) | _ => .no, by
  intro args own ks cargs rows p r rows2 h hp
  split at h
  · split at h
    · cases h; obtain ⟨h_B, hq⟩ := hp; have e_B := h_B.eq; rw [e_B]; exact sameM_a _ _ _ _ _ hq
    · cases h
  · cases h⟩
end Go.Proofs.YtjnpngbgapigeaaDoor
