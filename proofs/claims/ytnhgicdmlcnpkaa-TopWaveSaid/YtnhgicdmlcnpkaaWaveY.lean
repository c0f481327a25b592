/- Of rows of one, two and four whole numbers the waves go back to the row. -/
import Derived.Test.YtnhgicdmlcnpkaaWaveX
import Derived.Test.YtnhgicdmlcnpkaaMade
namespace Go.Proofs.Ytnhgicdmlcnpkaa
open Go.RowKit Ev Flt
set_option linter.unusedVariables false
set_option linter.unusedSimpArgs false
set_option maxRecDepth 20000
set_option maxHeartbeats 4000000

structure UpTo (n : Nat) where
  v : Nat
  le : v ≤ n
def milI (n : Nat) (F : Nat → Int) (k : Int) : Int := pickF (rawF n F k) 2001 - 1000
def xF (n : Nat) (F : Nat → Int) (j : Nat) : Nat × Nat := (cn (FloatKind.f64.nearest (milI n F (2 * j))), cn (FloatKind.f64.nearest (milI n F (2 * j + 1))))
theorem two_shl {c : Int} (h : 0 ≤ c ∧ c < 3) : ∃ N : Nat, 2 ^ c.toNat = N ∧ IntKind.i64.wrap (1 * 2 ^ min c.toNat IntKind.i64.bits) = (N : Int) ∧ 1 ≤ N ∧ N ≤ 4 ∧ ∃ m, m < 3 ∧ N = 2 ^ m := by
  have h' : c = 0 ∨ c = 1 ∨ c = 2 := by omega
  rcases h' with rfl | rfl | rfl
  · exact ⟨_, rfl, by decide, by decide, by decide, 0, by decide, rfl⟩
  · exact ⟨_, rfl, by decide, by decide, by decide, 1, by decide, rfl⟩
  · exact ⟨_, rfl, by decide, by decide, by decide, 2, by decide, rfl⟩
theorem milI_bd (n : Nat) (F : Nat → Int) (k : Int) : -1000 ≤ milI n F k ∧ milI n F k ≤ 1000 := by
  have := pickF_bd (rawF n F k) 2001 (by omega)
  unfold milI; omega
theorem xF_iz (n : Nat) (F : Nat → Int) (j : Nat) : Iz (xF n F j) (milI n F (2 * j), milI n F (2 * j + 1)) 1000 := by
  have h1 := milI_bd n F (2 * j)
  have h2 := milI_bd n F (2 * j + 1)
  exact ⟨iv_near (by omega), iv_near (by omega), h1.1, h1.2, h2.1, h2.2⟩
theorem xF_ok {N : Nat} (n : Nat) (F : Nat → Int) (h : ∃ m, m < 3 ∧ N = 2 ^ m) : WaveOk N (xF n F) ∧ WaveOk N (wvN false N (xF n F)) ∧
    ∀ j, j < N → feq (bkF N (wvN true N (wvN false N (xF n F))) j).1 (xF n F j).1 = true ∧ feq (bkF N (wvN true N (wvN false N (xF n F))) j).2 (xF n F j).2 = true := by
  obtain ⟨m, hm, rfl⟩ := h
  exact wave_ok hm fun j _ => xF_iz n F j
theorem xF_wrap (n : Nat) (F : Nat → Int) (k : Int) : IntKind.i64.wrap (pickF (rawF n F k) 2001 - 1000) = milI n F k := by
  have := pickF_bd (rawF n F k) 2001 (by omega)
  unfold milI; exact wrapI (by omega) (by omega)
theorem no_feq {a b : Bool} (h : a = true ∧ b = true) (h' : a = false ∨ b = false) : False := by
  rw [h.1, h.2] at h'; rcases h' with h' | h' <;> cases h'
theorem topWave_f : FnOk Try.prog 4 Try.f4 := ⟨Try.func4, by kernel_rfl⟩
theorem topWave_a (n : Nat) (F : Nat → Int) (k : Int) (hpre : (∀ j, In64 (F j)) ∧ In64 k) : ACalls Try.prog 4 [ints .i64 n F, .int .i64 k] (.bool true) := by
  refine acalls_len fun hlen => ?_
  simp only [lenV, len1, lenV0, len0, and_true, true_and] at hlen
  refine acalls_of (inl := hasI (P := Try.prog) [] [forthO_m, backS_m]) (base [pick_k, raw_k] [] [forthO_m, backS_m]) 0 topWave_f (And.intro (by kernel_rfl) ?_)
  repeat' (first | refine And.intro ?_ ?_ | (with_reducible exact ff_elim) | (with_reducible exact tf_elim) | refine num_elim ?_ | intro _ | (with_reducible rfl) | ((with_reducible refine lk_t ?_); exact rfl) | ((with_reducible refine pf_t ?_); exact rfl) | refine tell ?_ | exact True.intro | (refine IsT.of ?_; kernel_rfl))
  all_goals (try (refine loop_keep [0, 5] [] ?_; refine LoopI.mk (UpTo (2 ^ (pickF k 3).toNat)) (fun i => [(7, .int .i64 i.1), (6, .os 1 1 0 i.1)]) (fun i => [(1, .arr i.1 (cpF (xF n F)))]) (fun i => 2 ^ (pickF k 3).toNat - i.1) (⟨0, Nat.zero_le _⟩) (wk_mk [none] ?_) (fun ⟨i, hi⟩ => ?_)))
  repeat' (first | refine And.intro ?_ ?_ | (with_reducible exact ff_elim) | (with_reducible exact tf_elim) | refine' stp_mk [some _] ((⟨i + 1, ?_⟩ : UpTo (2 ^ (pickF k 3).toNat))) ?_ ?_ | refine num_elim ?_ | intro _ | (with_reducible rfl) | ((with_reducible refine lk_t ?_); exact rfl) | ((with_reducible refine pf_t ?_); exact rfl) | refine tell ?_ | exact True.intro | (refine IsT.of ?_; kernel_rfl))
  all_goals (try (refine loop_keep [5, 6, 10] [1, 29] ?_; refine LoopI.mk (UpTo (2 ^ (pickF k 3).toNat)) (fun l => [(11, .int .i64 l.1)]) (fun l => []) (fun l => 2 ^ (pickF k 3).toNat - l.1) (⟨0, Nat.zero_le _⟩) (wk_mk [some 1, some 29] ?_) (fun ⟨l, hl⟩ => ?_)))
  repeat' (first | refine And.intro ?_ ?_ | (with_reducible exact ff_elim) | (with_reducible exact tf_elim) | refine stp_mk [some 1, some 29] ((⟨l + 1, ?_⟩ : UpTo (2 ^ (pickF k 3).toNat))) ?_ ?_ | refine num_elim ?_ | intro _ | (with_reducible rfl) | ((with_reducible refine lk_t ?_); exact rfl) | ((with_reducible refine pf_t ?_); exact rfl) | refine tell ?_ | exact True.intro | (refine IsT.of ?_; kernel_rfl))
  all_goals (try refine Tell.mk ?_)
  all_goals first | with_reducible rfl | with_reducible exact isI_mk | with_reducible assumption | (with_reducible refine gb_t ?_; with_reducible assumption) | (with_reducible refine gb_f ?_; with_reducible assumption) | ((with_reducible refine lk_t ?_); rfl) | ((with_reducible refine okF_t ?_); kernel_rfl) | ((with_reducible refine ks_t ?_); rfl) | ((with_reducible refine pk_t ?_); rfl) | ((with_reducible refine pf_t ?_); rfl) | skip
  all_goals (try dsimp only at *)
  all_goals (try simp only [decide_eq_true_eq, decide_eq_false_iff_not, Bool.or_eq_true, Bool.or_eq_false_iff, Bool.and_eq_true, Bool.and_eq_false_iff, Bool.not_eq_true', Bool.not_eq_false', bne_iff_ne, ne_eq, beq_iff_eq, bne_eq_false_iff_eq, beq_eq_false_iff_ne, Int.not_lt, Int.not_le, gt_iff_lt, ge_iff_le] at *)
  all_goals (try simp only [mulN1, Nat.add_zero, Nat.zero_add, Nat.mul_one, Int.toNat_natCast, avInt_int, intF_mk] at *)
  all_goals first | with_reducible rfl | with_reducible exact nums_N | omega | ((with_reducible refine by_le 1 rfl ?_); omega) | ((with_reducible refine by_le 8 rfl ?_); omega) | (rw [wrapI (by omega) (by omega)] <;> omega) | skip
  all_goals obtain ⟨N, e1, e2, hN1, hN2, hN⟩ := two_shl (pickF_bd k 3 (by omega))
  all_goals obtain ⟨hF, hK⟩ := hpre
  all_goals first | exact hK | exact (pickF_bd k 3 (by omega)).1 | exact rawF_in hF | rfl | exact one_le _ | skip
  all_goals (have s1 : (Tab.cx.ti 29).size = 1 := rfl)
  all_goals (have b1 : (Tab.cx.ti 29).bytes = 16 := rfl)
  all_goals simp only [e1, e2, s1, b1, Nat.mul_one] at *
  all_goals (have w1 : IntKind.i64.wrap (2 * (i : Int)) = 2 * (i : Int) := wrapI (by omega) (by omega); have w2 : IntKind.i64.wrap (2 * (i : Int) + 1) = 2 * (i : Int) + 1 := wrapI (by omega) (by omega))
  all_goals (try simp only [w1, w2] at *)
  all_goals first | omega | (unfold raw_p; omega) | (rw [wrapI (by omega) (by omega)]; omega) | skip
  all_goals first | (simp only [xF_wrap]; exact cat1 (X := xF n F) (by assumption) rfl) | skip
  all_goals (obtain rfl : i = N := (by omega))
  all_goals (obtain ⟨hw1, hw2, hw3⟩ := xF_ok n F hN)
  all_goals first | exact hw1 | exact hw2 | (unfold posR; exact hN1) | (rename_i hc; exact absurd rfl (hc.resolve_left (fun h => h trivial))) | exact (no_feq (hw3 l (by omega)) (by assumption)).elim
def topWave_r (n : Nat) (F : Nat → Int) (k : Int) : AV := .bool true
def topWave_p (n : Nat) (F : Nat → Int) (k : Int) : Prop := (∀ j, In64 (F j)) ∧ In64 k
def topWave_k : Con Try.prog := ⟨4, fun args => match args with | [.sl n 1 g_F, .int .i64 k] => .ok (some (IsI .i64 g_F ∧ topWave_p n (intF g_F) k)) (topWave_r n (intF g_F) k) | _ => .no, by
  intro args p r h hp
  split at h
  · cases h; obtain ⟨h_F, hp⟩ := hp; have e_F := h_F.eq; rw [e_F]; exact topWave_a _ _ _ hp
  · cases h⟩
end Go.Proofs.Ytnhgicdmlcnpkaa
