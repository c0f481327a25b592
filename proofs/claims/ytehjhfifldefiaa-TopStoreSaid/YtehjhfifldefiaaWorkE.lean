/- Films saved as bytes. -/
import Derived.Test.YtehjhfifldefiaaWorkD
namespace Go.Proofs.Ytehjhfifldefiaa
open Go.RowKit Ev
set_option linter.unusedVariables false
set_option linter.unusedSimpArgs false
set_option maxRecDepth 20000
set_option maxHeartbeats 4000000

@[irreducible] def byteP (x : Int) (e : Nat) : Int := IntKind.u8.wrap (x.fdiv (2 ^ e))
theorem byteP_eq (x : Int) (e : Nat) : IntKind.u8.wrap (x.fdiv (2 ^ e)) = byteP x e := by unfold byteP; rfl
/-- A number as bytes, the greatest first. -/
def putV (x : Int) (s : Nat) (j : Nat) : Int := byteP x (8 * (s - 1 - j))
@[irreducible] def headF (w h : Int) (j : Nat) : Int := if j = 0 then 82 else if j = 1 then 72 else if j = 2 then 70 else if j = 3 then 49 else if j = 4 then IntKind.u8.wrap w else IntKind.u8.wrap h
@[irreducible] def saveA (w h : Int) (L : Nat → Int) (j : Nat) : Int := if j < 6 then headF w h j else putV (L ((j - 6) / 6)) 6 ((j - 6) % 6)
@[irreducible] def saveB (w h : Int) (n : Nat) (L S : Nat → Int) (j : Nat) : Int := if j < 6 + 6 * n then saveA w h L j else putV (S ((j - 6 - 6 * n) / 3)) 3 ((j - 6 - 6 * n) % 3)
@[irreducible] def saveC (w h : Int) (n : Nat) (L : Nat → Int) (m : Nat) (S : Nat → Int) (j : Nat) : Int :=
  if j < 6 + 6 * n + 3 * m then saveB w h n L S j else putV (IntKind.i64.wrap (sumV (saveB w h n L S) (6 + 6 * n + 3 * m))) 4 (j - (6 + 6 * n + 3 * m))
theorem saveA_0 {w h : Int} {L : Nat → Int} {j : Nat} (hj : j < 6) : saveA w h L j = headF w h j := by unfold saveA; exact if_pos hj
theorem saveA_1 {w h : Int} {L : Nat → Int} {j i : Nat} (c : Nat) (hc : c < 6) (hj : j = 6 + 6 * i + c) : saveA w h L j = putV (L i) 6 c := by
  unfold saveA
  rw [if_neg (by omega), show (j - 6) / 6 = i by omega, show (j - 6) % 6 = c by omega]
theorem saveB_0 {w h : Int} {n : Nat} {L S : Nat → Int} {j : Nat} (hj : j < 6 + 6 * n) : saveB w h n L S j = saveA w h L j := by unfold saveB; exact if_pos hj
theorem saveB_1 {w h : Int} {n : Nat} {L S : Nat → Int} {j i : Nat} (c : Nat) (hc : c < 3) (hj : j = 6 + 6 * n + 3 * i + c) : saveB w h n L S j = putV (S i) 3 c := by
  unfold saveB
  rw [if_neg (by omega), show (j - 6 - 6 * n) / 3 = i by omega, show (j - 6 - 6 * n) % 3 = c by omega]
theorem saveC_0 {w h : Int} {n : Nat} {L : Nat → Int} {m : Nat} {S : Nat → Int} {j : Nat} (hj : j < 6 + 6 * n + 3 * m) : saveC w h n L m S j = saveB w h n L S j := by unfold saveC; exact if_pos hj
theorem saveC_1 {w h : Int} {n : Nat} {L : Nat → Int} {m : Nat} {S : Nat → Int} {j : Nat} (c : Nat) (hj : j = 6 + 6 * n + 3 * m + c) : saveC w h n L m S j = putV (IntKind.i64.wrap (sumV (saveB w h n L S) (6 + 6 * n + 3 * m))) 4 c := by
  unfold saveC; rw [if_neg (by omega), show j - (6 + 6 * n + 3 * m) = c by omega]
theorem filmE_ok {w h : Int} {n : Nat} {L : Nat → Int} {m : Nat} {S : Nat → Int} (h0 : filmE w h n L m S = 0) : Side w h ∧ (n : Int) = 3 * (w * h) ∧ (m : Int) = w * h ∧ okIn L 1099511627776 n = true ∧ okIn S 1048576 m = true := by
  unfold filmE at h0
  split at h0
  · split at h0
    · split at h0
      · exact ⟨‹_›, (‹_ ∧ _› : (n : Int) = 3 * (w * h) ∧ (m : Int) = w * h).1, (‹_ ∧ _› : (n : Int) = 3 * (w * h) ∧ (m : Int) = w * h).2, ‹okIn L _ n = true ∧ _›.1, ‹okIn L _ n = true ∧ _›.2⟩
      · omega
    · omega
  · omega
theorem filmE_len {w h : Int} {n : Nat} {L : Nat → Int} {m : Nat} {S : Nat → Int} (h0 : filmE w h n L m S = 0) : 0 < n ∧ n ≤ 1000000 ∧ 0 < m ∧ m ≤ 1000000 := by
  obtain ⟨a, b, c, -⟩ := filmE_ok h0
  have := a.wh
  omega
theorem saveA_head {w h : Int} {L : Nat → Int} {k j : Nat} (hj : j < 6) : saveA w h L j = catI 4 (some k) (fun j => avInt ([AV.int .u8 82, AV.int .u8 72, AV.int .u8 70, AV.int .u8 49].getD j AV.any)) (fun j => avInt ([AV.int .u8 (IntKind.u8.wrap w), AV.int .u8 (IntKind.u8.wrap h)].getD j AV.any)) j := by
  rw [saveA_0 hj, catI_some]
  unfold headF
  have : j = 0 ∨ j = 1 ∨ j = 2 ∨ j = 3 ∨ j = 4 ∨ j = 5 := by omega
  rcases this with rfl | rfl | rfl | rfl | rfl | rfl <;> rfl
theorem saveA_row {w h : Int} {L : Nat → Int} {j : Nat} (hj : j < 6) : saveA w h L j = avInt ([AV.int .u8 82, AV.int .u8 72, AV.int .u8 70, AV.int .u8 49, AV.int .u8 (IntKind.u8.wrap w), AV.int .u8 (IntKind.u8.wrap h)].getD j AV.any) := by
  rw [saveA_0 hj]
  unfold headF
  have : j = 0 ∨ j = 1 ∨ j = 2 ∨ j = 3 ∨ j = 4 ∨ j = 5 := by omega
  rcases this with rfl | rfl | rfl | rfl | rfl | rfl <;> rfl
theorem putA_step {w h : Int} {L : Nat → Int} {i j k0 k1 k2 k3 k4 k5 : Nat} (hj : j < 6 + 6 * (i + 1)) : saveA w h L j = (catI (6 + 6 * i + 1 + 1 + 1 + 1 + 1) (some k5) (catI (6 + 6 * i + 1 + 1 + 1 + 1) (some k4) (catI (6 + 6 * i + 1 + 1 + 1) (some k3) (catI (6 + 6 * i + 1 + 1) (some k2) (catI (6 + 6 * i + 1) (some k1) (catI (6 + 6 * i) (some k0) (saveA w h L) (fun _ => byteP (L i) 40)) (fun _ => byteP (L i) 32)) (fun _ => byteP (L i) 24)) (fun _ => byteP (L i) 16)) (fun _ => byteP (L i) 8)) (fun _ => byteP (L i) 0)) j := by
  simp only [catI_some]
  split <;> (try split) <;> (try split) <;> (try split) <;> (try split) <;> (try split)
  · rfl
  · exact saveA_1 0 (by omega) (by omega)
  · exact saveA_1 1 (by omega) (by omega)
  · exact saveA_1 2 (by omega) (by omega)
  · exact saveA_1 3 (by omega) (by omega)
  · exact saveA_1 4 (by omega) (by omega)
  · exact saveA_1 5 (by omega) (by omega)
theorem putB_step {w h : Int} {n : Nat} {L S : Nat → Int} {i j k0 k1 k2 : Nat} (hj : j < 6 + 6 * n + 3 * (i + 1)) : saveB w h n L S j = (catI (6 + 6 * n + 3 * i + 1 + 1) (some k2) (catI (6 + 6 * n + 3 * i + 1) (some k1) (catI (6 + 6 * n + 3 * i) (some k0) (saveB w h n L S) (fun _ => byteP (S i) 16)) (fun _ => byteP (S i) 8)) (fun _ => byteP (S i) 0)) j := by
  simp only [catI_some]
  split <;> (try split) <;> (try split)
  · rfl
  · exact saveB_1 0 (by omega) (by omega)
  · exact saveB_1 1 (by omega) (by omega)
  · exact saveB_1 2 (by omega) (by omega)
theorem putC_step {w h : Int} {n m : Nat} {L S : Nat → Int} {j k0 k1 k2 k3 : Nat} (hj : j < 10 + 6 * n + 3 * m) : saveC w h n L m S j = (catI (6 + 6 * n + 3 * m + 1 + 1 + 1) (some k3) (catI (6 + 6 * n + 3 * m + 1 + 1) (some k2) (catI (6 + 6 * n + 3 * m + 1) (some k1) (catI (6 + 6 * n + 3 * m) (some k0) (saveB w h n L S) (fun _ => byteP (IntKind.i64.wrap (sumV (saveB w h n L S) (6 + 6 * n + 3 * m))) 24)) (fun _ => byteP (IntKind.i64.wrap (sumV (saveB w h n L S) (6 + 6 * n + 3 * m))) 16)) (fun _ => byteP (IntKind.i64.wrap (sumV (saveB w h n L S) (6 + 6 * n + 3 * m))) 8)) (fun _ => byteP (IntKind.i64.wrap (sumV (saveB w h n L S) (6 + 6 * n + 3 * m))) 0)) j := by
  simp only [catI_some]
  split <;> (try split) <;> (try split) <;> (try split)
  · exact saveC_0 (by omega)
  · exact saveC_1 0 (by omega)
  · exact saveC_1 1 (by omega)
  · exact saveC_1 2 (by omega)
  · exact saveC_1 3 (by omega)
theorem sh5 : min (IntKind.i64.wrap (8 * 5)).toNat IntKind.i64.bits = 40 := by decide
theorem sh4 : min (IntKind.i64.wrap (8 * 4)).toNat IntKind.i64.bits = 32 := by decide
theorem sh3 : min (IntKind.i64.wrap (8 * 3)).toNat IntKind.i64.bits = 24 := by decide
theorem sh2 : min (IntKind.i64.wrap (8 * 2)).toNat IntKind.i64.bits = 16 := by decide
theorem sh1 : min (Int.toNat 8) IntKind.i64.bits = 8 := by decide
theorem sh0 : min (Int.toNat 0) IntKind.i64.bits = 0 := by decide
theorem save_f : FnOk Try.prog 11 Try.f11 := ⟨Try.func11, by kernel_rfl⟩
theorem save_a (w h : Int) (n : Nat) (L : Nat → Int) (m : Nat) (S : Nat → Int) : ACalls Try.prog 11 [.agg [.int .i64 w, .int .i64 h, ints .i64 n L, ints .i64 m S]] (.tup [ints .u8 (ifn (filmE w h n L m S) (10 + 6 * n + 3 * m)) (saveC w h n L m S), .int .i64 (filmE w h n L m S)]) := by
  refine acalls_of (inl := hasI (P := Try.prog) [⟨27, Try.f27, Try.func27, by kernel_rfl⟩] []) (base [mayF_k, sumB_k] [⟨27, Try.f27, Try.func27, by kernel_rfl⟩] []) 4 save_f (And.intro (by kernel_rfl) ?_)
  repeat' (first | refine And.intro ?_ ?_ | (with_reducible exact ff_elim) | (with_reducible exact tf_elim) | refine num_elim ?_ | intro _ | (with_reducible rfl) | ((with_reducible refine lk_t ?_); exact rfl) | ((with_reducible refine pf_t ?_); exact rfl) | refine tell ?_ | exact True.intro | (refine IsT.of ?_; kernel_rfl))
  all_goals (try (refine loop_keep [1, 26, 27] [0] ?_; refine LoopI.mk ({i : Nat // i ≤ n}) (fun i => [(28, .int .i64 i.1), (5, .os 1 1 0 (6 + 6 * i.1))]) (fun i => [(1, .nums .u8 (6 + 6 * i.1) (saveA w h L))]) (fun i => n - i.1) (⟨0, Nat.zero_le _⟩) (wk_mk [some 17, some 0] ?_) (fun ⟨i, hi⟩ => ?_)))
  repeat' (first | refine And.intro ?_ ?_ | (with_reducible exact ff_elim) | (with_reducible exact tf_elim) | refine' stp_mk [some _, some 0] (⟨i + 1, ?_⟩) ?_ ?_ | refine unr_in 7 ?_ | refine num_lit 0 (by decide) ?_ | refine num_lit 1 (by decide) ?_ | refine num_lit 2 (by decide) ?_ | refine num_lit 3 (by decide) ?_ | refine num_lit 4 (by decide) ?_ | refine num_lit 5 (by decide) ?_ | refine num_lit 6 (by decide) ?_ | refine num_lit 7 (by decide) ?_ | refine num_lit 8 (by decide) ?_ | (intro h; exact absurd h (by decide)) | refine num_elim ?_ | intro _ | (with_reducible rfl) | ((with_reducible refine lk_t ?_); exact rfl) | ((with_reducible refine pf_t ?_); exact rfl) | refine tell ?_ | exact True.intro | (refine IsT.of ?_; kernel_rfl))
  all_goals (try (refine loop_keep [37, 38] [] ?_; refine LoopI.mk ({k : Nat // k ≤ m}) (fun k => [(39, .int .i64 k.1), (5, .os 1 1 0 (6 + 6 * i + 3 * k.1))]) (fun k => [(1, .nums .u8 (6 + 6 * i + 3 * k.1) (saveB w h i L S))]) (fun k => m - k.1) (⟨0, Nat.zero_le _⟩) (wk_mk [some 1] ?_) (fun ⟨k, hk⟩ => ?_)))
  repeat' (first | refine And.intro ?_ ?_ | (with_reducible exact ff_elim) | (with_reducible exact tf_elim) | refine' stp_mk [some _] (⟨k + 1, ?_⟩) ?_ ?_ | refine unr_in 7 ?_ | refine num_lit 0 (by decide) ?_ | refine num_lit 1 (by decide) ?_ | refine num_lit 2 (by decide) ?_ | refine num_lit 3 (by decide) ?_ | refine num_lit 4 (by decide) ?_ | refine num_lit 5 (by decide) ?_ | refine num_lit 6 (by decide) ?_ | refine num_lit 7 (by decide) ?_ | refine num_lit 8 (by decide) ?_ | (intro h; exact absurd h (by decide)) | refine num_elim ?_ | intro _ | (with_reducible rfl) | ((with_reducible refine lk_t ?_); exact rfl) | ((with_reducible refine pf_t ?_); exact rfl) | refine tell ?_ | exact True.intro | (refine IsT.of ?_; kernel_rfl))
  all_goals (try simp only [byteP_eq] at *)
  all_goals (try refine Tell.mk ?_)
  all_goals first | with_reducible rfl | with_reducible exact isI_mk | with_reducible assumption | (with_reducible refine gb_t ?_; with_reducible assumption) | (with_reducible refine gb_f ?_; with_reducible assumption) | ((with_reducible refine lk_t ?_); rfl) | ((with_reducible refine okF_t ?_); kernel_rfl) | ((with_reducible refine ks_t ?_); rfl) | ((with_reducible refine pk_t ?_); rfl) | ((with_reducible refine pf_t ?_); rfl) | skip
  all_goals (try dsimp only at *)
  all_goals (try simp only [decide_eq_true_eq, decide_eq_false_iff_not, Bool.or_eq_true, Bool.or_eq_false_iff, Bool.and_eq_true, Bool.and_eq_false_iff, Bool.not_eq_true', Bool.not_eq_false', bne_iff_ne, ne_eq, beq_iff_eq, bne_eq_false_iff_eq, beq_eq_false_iff_ne, Int.not_lt, Int.not_le, gt_iff_lt, ge_iff_le] at *)
  all_goals (try simp only [mulN1, Nat.add_zero, Nat.zero_add, Nat.mul_one, Int.toNat_natCast, avInt_int, intF_mk] at *)
  all_goals first | with_reducible rfl | with_reducible exact nums_N | omega | ((with_reducible refine by_le 1 rfl ?_); omega) | ((with_reducible refine by_le 8 rfl ?_); omega) | (rw [wrapI (by omega) (by omega)] <;> omega) | skip
  all_goals first | with_reducible exact isI_mk | exact ifn1 (by with_reducible assumption) | skip
  all_goals (have h0 : filmE w h n L m S = 0 := by with_reducible assumption)
  all_goals obtain ⟨b1, b2, b3, b4⟩ := filmE_len h0
  all_goals (try simp only [sh5, sh4, sh3, sh2, sh1, sh0])
  all_goals first | omega | exact saveA_head (by omega) | exact putA_step (by with_reducible assumption) | exact saveB_0 (by omega) | exact putB_step (by with_reducible assumption) | (with_reducible refine by_le 1 rfl ?_; omega) | (rw [wrapI (by omega) (by omega)]; omega) | (simp only [List.length_cons, List.length_nil]; omega) | skip
  all_goals (obtain rfl : i = n := (by omega); obtain rfl : k = m := (by omega); rw [ifn0 h0] at *)
  all_goals first | omega | exact congrArg (AV.int .u8) (putC_step (by with_reducible assumption))
def save_r (w h : Int) (n : Nat) (L : Nat → Int) (m : Nat) (S : Nat → Int) : AV := .tup [ints .u8 (ifn (filmE w h n L m S) (10 + 6 * n + 3 * m)) (saveC w h n L m S), .int .i64 (filmE w h n L m S)]
def save_k : Con Try.prog := ⟨11, fun args => match args with | [.agg [.int .i64 w, .int .i64 h, .sl n 1 g_L, .sl m 1 g_S]] => .ok (some (IsI .i64 g_L ∧ IsI .i64 g_S)) (save_r w h n (intF g_L) m (intF g_S)) | _ => .no, by
  intro args p r h hp
  split at h
  · cases h; obtain ⟨h_L, h_S⟩ := hp; have e_L := h_L.eq; have e_S := h_S.eq; rw [e_L, e_S]; exact save_a _ _ _ _ _ _
  · cases h⟩
end Go.Proofs.Ytehjhfifldefiaa
