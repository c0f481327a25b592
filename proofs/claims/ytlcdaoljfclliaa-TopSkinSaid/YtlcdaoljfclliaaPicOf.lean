/- Pictures that are made of raw numbers. -/
import Derived.Test.YtlcdaoljfclliaaPixA
namespace Go.Proofs.Ytlcdaoljfclliaa
open Go.RowKit Ev
set_option linter.unusedVariables false
set_option linter.unusedSimpArgs false
set_option maxRecDepth 20000
set_option maxHeartbeats 4000000

theorem pick_f : FnOk Try.prog 22 Try.f22 := ⟨Try.func22, by kernel_rfl⟩
theorem pick_a (c n : Int) (hpre : In64 c ∧ 1 ≤ n ∧ n ≤ 4294967296) : ACalls Try.prog 22 [.int .i64 c, .int .i64 n] (.int .i64 (pickF c n)) := by
  refine acalls_of (inl := hasI (P := Try.prog) [] []) (base [] [] []) 0 pick_f (And.intro (by kernel_rfl) ?_)
  repeat' (first | refine And.intro ?_ ?_ | (with_reducible exact ff_elim) | (with_reducible exact tf_elim) | intro _ | (with_reducible rfl) | ((with_reducible refine lk_t ?_); exact rfl) | refine tell ?_ | exact True.intro | (refine IsT.of ?_; kernel_rfl))
  all_goals obtain ⟨⟨c0, c1⟩, n0, n1⟩ := hpre
  all_goals (try refine Tell.mk ?_)
  all_goals first | with_reducible rfl | (simp only [decide_eq_true_eq, decide_eq_false_iff_not] at *; (iterate 3 (try simp (disch := omega) only [wrapI] at *)); subst_vars; first | omega | (unfold pickF; split <;> first | omega | (rw [Int.tmod_eq_emod_of_nonneg (by omega)]; done) | (rw [Int.tmod_eq_emod_of_nonneg (by omega)]; congr 1; omega)))
def pick_k : Con Try.prog := ⟨22, fun args => match args with | [.int .i64 c, .int .i64 n] => .ok (some (In64 c ∧ 1 ≤ n ∧ n ≤ 4294967296)) (.int .i64 (pickF c n)) | _ => .no, by
  intro args p r h hp
  split at h
  · cases h; exact pick_a _ _ hp
  · cases h⟩
theorem raw_f : FnOk Try.prog 29 Try.f29 := ⟨Try.func29, by kernel_rfl⟩
theorem raw_a (n : Nat) (F : Nat → Int) (k : Int) (hpre : 0 ≤ k) : ACalls Try.prog 29 [ints .i64 n F, .int .i64 k] (.int .i64 (rawF n F k)) := by
  refine acalls_of (inl := hasI (P := Try.prog) [] []) (base [] [] []) 0 raw_f (And.intro (by kernel_rfl) ?_)
  repeat' (first | refine And.intro ?_ ?_ | (with_reducible exact ff_elim) | (with_reducible exact tf_elim) | intro _ | (with_reducible rfl) | ((with_reducible refine lk_t ?_); exact rfl) | refine tell ?_ | exact True.intro | (refine IsT.of ?_; kernel_rfl))
  all_goals (try refine Tell.mk ?_)
  all_goals first | with_reducible rfl | (simp only [beq_iff_eq, beq_eq_false_iff_ne] at *; subst_vars; first | omega | exact Int.tmod_nonneg _ hpre | exact Int.tmod_lt_of_pos _ (by omega) | (unfold rawF; rw [if_pos (by omega)]; done) | (unfold rawF; rw [if_neg (by omega), Int.tmod_eq_emod_of_nonneg hpre, mulN1, Nat.add_zero, Int.toNat_emod hpre (by omega)]; rfl))
def raw_r (n : Nat) (F : Nat → Int) (k : Int) : AV := .int .i64 (rawF n F k)
def raw_p (n : Nat) (F : Nat → Int) (k : Int) : Prop := 0 ≤ k
def raw_k : Con Try.prog := ⟨29, fun args => match args with | [.sl n 1 g_F, .int .i64 k] => .ok (some (IsI .i64 g_F ∧ raw_p n (intF g_F) k)) (raw_r n (intF g_F) k) | _ => .no, by
  intro args p r h hp
  split at h
  · cases h; obtain ⟨h_F, hp⟩ := hp; have e_F := h_F.eq; rw [e_F]; exact raw_a _ _ _ hp
  · cases h⟩
@[irreducible] def covF (n : Nat) (F : Nat → Int) (k : Int) : Int := pickF (IntKind.i64.wrap (rawF n F k * 37)) 256
@[irreducible] def valF (n : Nat) (F : Nat → Int) (k : Int) : Int := pickF (IntKind.i64.wrap (rawF n F k * 53)) 256
theorem covF_eq (n : Nat) (F : Nat → Int) (k : Int) : pickF (IntKind.i64.wrap (rawF n F k * 37)) 256 = covF n F k := by unfold covF; rfl
theorem valF_eq (n : Nat) (F : Nat → Int) (k : Int) : pickF (IntKind.i64.wrap (rawF n F k * 53)) 256 = valF n F k := by unfold valF; rfl
theorem covF_bd (n : Nat) (F : Nat → Int) (k : Int) : 0 ≤ covF n F k ∧ covF n F k < 256 := by unfold covF; exact pickF_bd _ _ (by omega)
theorem valF_bd (n : Nat) (F : Nat → Int) (k : Int) : 0 ≤ valF n F k ∧ valF n F k < 256 := by unfold valF; exact pickF_bd _ _ (by omega)
/-- A byte of a picture that is made of raw numbers. -/
@[irreducible] def pixF (b : Bool) (n : Nat) (F : Nat → Int) (j : Nat) : Int :=
  if j % 4 = 3 then covF n F (4 * ((j / 4 : Nat) : Int) + 3) else
    if b = true ∧ covF n F (4 * ((j / 4 : Nat) : Int) + 3) < valF n F (4 * ((j / 4 : Nat) : Int) + ((j % 4 : Nat) : Int)) then covF n F (4 * ((j / 4 : Nat) : Int) + 3) else valF n F (4 * ((j / 4 : Nat) : Int) + ((j % 4 : Nat) : Int))
theorem pixF_bd (b : Bool) (n : Nat) (F : Nat → Int) : U8s (pixF b n F) := fun j => by
  unfold pixF
  repeat' split
  all_goals first | exact covF_bd _ _ _ | exact valF_bd _ _ _
theorem pixF_v {b : Bool} {n : Nat} {F : Nat → Int} {i : Nat} (c : Nat) (hc : c < 3) (h : b = false ∨ valF n F (4 * (i : Int) + (c : Int)) ≤ covF n F (4 * (i : Int) + 3)) : pixF b n F (4 * i + c) = IntKind.u8.wrap (valF n F (4 * (i : Int) + (c : Int))) := by
  have := valF_bd n F (4 * (i : Int) + (c : Int))
  rw [wrapU8 (by omega) (by omega)]
  unfold pixF
  rw [show (4 * i + c) % 4 = c by omega, show (4 * i + c) / 4 = i by omega, if_neg (by omega), if_neg]
  rintro ⟨h1, h2⟩
  rcases h with h | h
  · rw [h] at h1; cases h1
  · omega
theorem pixF_c {b : Bool} {n : Nat} {F : Nat → Int} {i : Nat} (c : Nat) (hc : c < 3) (h : b = true ∧ covF n F (4 * (i : Int) + 3) < valF n F (4 * (i : Int) + (c : Int))) : pixF b n F (4 * i + c) = IntKind.u8.wrap (covF n F (4 * (i : Int) + 3)) := by
  have := covF_bd n F (4 * (i : Int) + 3)
  rw [wrapU8 (by omega) (by omega)]
  unfold pixF
  rw [show (4 * i + c) % 4 = c by omega, show (4 * i + c) / 4 = i by omega, if_neg (by omega), if_pos h]
theorem pixF_3 {b : Bool} {n : Nat} {F : Nat → Int} {i : Nat} : pixF b n F (4 * i + 3) = IntKind.u8.wrap (covF n F (4 * (i : Int) + 3)) := by
  have := covF_bd n F (4 * (i : Int) + 3)
  rw [wrapU8 (by omega) (by omega)]
  unfold pixF
  rw [show (4 * i + 3) % 4 = 3 by omega, show (4 * i + 3) / 4 = i by omega, if_pos rfl]
theorem pixF_v0 {b : Bool} {n : Nat} {F : Nat → Int} {i : Nat} (h : b = false ∨ valF n F (4 * (i : Int)) ≤ covF n F (4 * (i : Int) + 3)) : pixF b n F (4 * i + 0) = IntKind.u8.wrap (valF n F (4 * (i : Int))) := by
  have e : 4 * (i : Int) + ((0 : Nat) : Int) = 4 * (i : Int) := by omega
  have := pixF_v (n := n) (F := F) (i := i) (b := b) 0 (by omega) (by rw [e]; exact h)
  rwa [e] at this
theorem pixF_c0 {b : Bool} {n : Nat} {F : Nat → Int} {i : Nat} (h : b = true ∧ covF n F (4 * (i : Int) + 3) < valF n F (4 * (i : Int))) : pixF b n F (4 * i + 0) = IntKind.u8.wrap (covF n F (4 * (i : Int) + 3)) := by
  have e : 4 * (i : Int) + ((0 : Nat) : Int) = 4 * (i : Int) := by omega
  exact pixF_c 0 (by omega) (by rw [e]; exact h)
theorem pixF_v1 {b : Bool} {n : Nat} {F : Nat → Int} {i : Nat} (h : b = false ∨ valF n F (4 * (i : Int) + 1) ≤ covF n F (4 * (i : Int) + 3)) : pixF b n F (4 * i + 1) = IntKind.u8.wrap (valF n F (4 * (i : Int) + 1)) := pixF_v 1 (by omega) h
theorem pixF_c1 {b : Bool} {n : Nat} {F : Nat → Int} {i : Nat} (h : b = true ∧ covF n F (4 * (i : Int) + 3) < valF n F (4 * (i : Int) + 1)) : pixF b n F (4 * i + 1) = IntKind.u8.wrap (covF n F (4 * (i : Int) + 3)) := pixF_c 1 (by omega) h
theorem pixF_v2 {b : Bool} {n : Nat} {F : Nat → Int} {i : Nat} (h : b = false ∨ valF n F (4 * (i : Int) + 2) ≤ covF n F (4 * (i : Int) + 3)) : pixF b n F (4 * i + 2) = IntKind.u8.wrap (valF n F (4 * (i : Int) + 2)) := pixF_v 2 (by omega) h
theorem pixF_c2 {b : Bool} {n : Nat} {F : Nat → Int} {i : Nat} (h : b = true ∧ covF n F (4 * (i : Int) + 3) < valF n F (4 * (i : Int) + 2)) : pixF b n F (4 * i + 2) = IntKind.u8.wrap (covF n F (4 * (i : Int) + 3)) := pixF_c 2 (by omega) h
theorem pix_step {b : Bool} {n : Nat} {F : Nat → Int} {i j k0 k1 k2 k3 : Nat} {v0 v1 v2 v3 : Int} (h0 : pixF b n F (4 * i + 0) = v0) (h1 : pixF b n F (4 * i + 1) = v1) (h2 : pixF b n F (4 * i + 2) = v2) (h3 : pixF b n F (4 * i + 3) = v3) (hj : j < 4 * (i + 1)) :
    pixF b n F j = catI (4 * i + 1 + 1 + 1) (some k3) (catI (4 * i + 1 + 1) (some k2) (catI (4 * i + 1) (some k1) (catI (4 * i) (some k0) (pixF b n F) fun _ => v0) fun _ => v1) fun _ => v2) (fun _ => v3) j := by
  simp only [catI_some]
  split <;> (try split) <;> (try split) <;> (try split)
  · rfl
  · rw [← h0]; congr 1; omega
  · rw [← h1]; congr 1; omega
  · rw [← h2]; congr 1; omega
  · rw [← h3]; congr 1; omega
theorem pictureOf_f : FnOk Try.prog 21 Try.f21 := ⟨Try.func21, by kernel_rfl⟩
theorem pictureOf_a (n : Nat) (F : Nat → Int) (w h : Int) (b : Bool) (hpre : Side w h ∧ ∀ j, In64 (F j)) : ACalls Try.prog 21 [ints .i64 n F, .int .i64 w, .int .i64 h, .bool b] (.agg [.int .i64 w, .int .i64 h, ints .u8 (4 * (w * h)).toNat (pixF b n F)]) := by
  refine acalls_len fun hlen => ?_
  simp only [lenV, len1, lenV0, len0, and_true, true_and] at hlen
  refine acalls_of (inl := hasI (P := Try.prog) [] []) (base [pick_k, raw_k] [] []) 0 pictureOf_f (And.intro (by kernel_rfl) ?_)
  repeat' (first | refine And.intro ?_ ?_ | (with_reducible exact ff_elim) | (with_reducible exact tf_elim) | refine num_elim ?_ | intro _ | (with_reducible rfl) | ((with_reducible refine lk_t ?_); exact rfl) | refine tell ?_ | exact True.intro | (refine IsT.of ?_; kernel_rfl))
  all_goals (try (refine loop_keep [0, 1, 2, 3, 8, 9] [0] ?_; refine LoopI.mk ({i : Nat // (i : Int) ≤ w * h}) (fun i => [(10, .int .i64 i.1)]) (fun i => [(4, .row [.int .i64 w, .int .i64 h, .os 1 1 0 (4 * i.1)]), (1, .nums .u8 (4 * i.1) (pixF b n F))]) (fun i => (w * h).toNat - i.1) (⟨0, by have := hpre.1.wh; omega⟩) (wk_mk [some 4, none, some 0] ?_) (fun ⟨i, hi⟩ => ?_)))
  repeat' (first | refine And.intro ?_ ?_ | (with_reducible exact ff_elim) | (with_reducible exact tf_elim) | refine' stp_mk [some 4, some _, some 0] (⟨i + 1, ?_⟩) ?_ ?_ | refine Or.inl ⟨4, ?_⟩ | refine num_lit 0 (by decide) ?_ | refine num_lit 1 (by decide) ?_ | refine num_lit 2 (by decide) ?_ | refine num_lit 3 (by decide) ?_ | refine num_lit 4 (by decide) ?_ | refine num_lit 5 (by decide) ?_ | refine num_lit 6 (by decide) ?_ | refine num_lit 7 (by decide) ?_ | refine num_lit 8 (by decide) ?_ | (intro h; exact absurd h (by decide)) | refine num_elim ?_ | intro _ | (with_reducible rfl) | ((with_reducible refine lk_t ?_); exact rfl) | refine tell ?_ | exact True.intro | (refine IsT.of ?_; kernel_rfl))
  all_goals obtain ⟨hs, hF⟩ := hpre
  all_goals (have hy := hs.wh; have z0 := hs.wraps.1)
  all_goals (try refine Tell.mk ?_)
  all_goals first | with_reducible rfl | with_reducible exact isI_mk | with_reducible assumption | (with_reducible refine gb_t ?_; with_reducible assumption) | (with_reducible refine gb_f ?_; with_reducible assumption) | ((with_reducible refine lk_t ?_); rfl) | ((with_reducible refine okF_t ?_); kernel_rfl) | ((with_reducible refine ks_t ?_); rfl) | ((with_reducible refine pk_t ?_); rfl) | skip
  all_goals (try dsimp only at *)
  all_goals (try simp only [decide_eq_true_eq, decide_eq_false_iff_not, Bool.or_eq_true, Bool.or_eq_false_iff, Bool.and_eq_true, Bool.and_eq_false_iff, Bool.not_eq_true', Bool.not_eq_false', bne_iff_ne, ne_eq, beq_iff_eq, bne_eq_false_iff_eq, beq_eq_false_iff_ne, Int.not_lt, Int.not_le, gt_iff_lt, ge_iff_le] at *)
  all_goals (try simp only [mulN1, Nat.add_zero, Nat.zero_add, Nat.mul_one, Int.toNat_natCast, avInt_int, intF_mk, raw_p, z0, Tab.b3] at *)
  all_goals first | with_reducible rfl | with_reducible exact nums_N | omega | ((with_reducible refine by_le 1 rfl ?_); omega) | ((with_reducible refine by_le 8 rfl ?_); omega) | (rw [wrapI (by omega) (by omega)] <;> omega) | skip
  all_goals (try have y0 : IntKind.i64.wrap (4 * (i : Int)) = 4 * (i : Int) := wrapI (by omega) (by omega); have y1 : IntKind.i64.wrap (4 * (i : Int) + 1) = 4 * (i : Int) + 1 := wrapI (by omega) (by omega); have y2 : IntKind.i64.wrap (4 * (i : Int) + 2) = 4 * (i : Int) + 2 := wrapI (by omega) (by omega); have y3 : IntKind.i64.wrap (4 * (i : Int) + 3) = 4 * (i : Int) + 3 := wrapI (by omega) (by omega))
  all_goals (try simp only [Int.add_zero, y0, y1, y2, y3, covF_eq, valF_eq] at *)
  all_goals first | omega | (with_reducible exact wrap_in _) | skip
  all_goals (refine pix_step ?_ ?_ ?_ pixF_3 (by with_reducible assumption) <;> first | exact pixF_v0 (by with_reducible assumption) | exact pixF_c0 (by with_reducible assumption) | exact pixF_v1 (by with_reducible assumption) | exact pixF_c1 (by with_reducible assumption) | exact pixF_v2 (by with_reducible assumption) | exact pixF_c2 (by with_reducible assumption))
def pictureOf_r (n : Nat) (F : Nat → Int) (w h : Int) (b : Bool) : AV := .agg [.int .i64 w, .int .i64 h, ints .u8 (4 * (w * h)).toNat (pixF b n F)]
def pictureOf_p (n : Nat) (F : Nat → Int) (w h : Int) (b : Bool) : Prop := Side w h ∧ ∀ j, In64 (F j)
def pictureOf_k : Con Try.prog := ⟨21, fun args => match args with | [.sl n 1 g_F, .int .i64 w, .int .i64 h, .bool b] => .ok (some (IsI .i64 g_F ∧ pictureOf_p n (intF g_F) w h b)) (pictureOf_r n (intF g_F) w h b) | _ => .no, by
  intro args p r h hp
  split at h
  · cases h; obtain ⟨h_F, hp⟩ := hp; have e_F := h_F.eq; rw [e_F]; exact pictureOf_a _ _ _ _ _ hp
  · cases h⟩
end Go.Proofs.Ytlcdaoljfclliaa
