/- The law of turned bytes: a saved film of which one byte is turned is told from one. -/
import Derived.Test.YtehjhfifldefiaaWorkK
namespace Go.Proofs.Ytehjhfifldefiaa
open Go.RowKit Ev
set_option linter.unusedVariables false
set_option linter.unusedSimpArgs false
set_option maxRecDepth 20000
set_option maxHeartbeats 4000000

theorem unr_at (c : Nat) {lo : Nat} {T : AK → (Nat → AV) → (Nat → OB) → Nat → Prop} {K : AK} {env : Nat → AV} {own : Nat → OB} {nk : Nat} (n : Nat) (h : unrR T K n env own nk) : loopR (lo + c) T K env own nk := Or.inl ⟨n, h⟩
theorem mayG_f : FnOk Try.prog 22 Try.f22 := ⟨Try.func22, by kernel_rfl⟩
theorem mayG_a (w h : Int) (n : Nat) (L : Nat → Int) (m : Nat) (S : Nat → Int) (hpre : filmE w h n L m S = 0) : ACalls Try.prog 22 [.agg [.int .i64 w, .int .i64 h, ints .i64 n L, ints .i64 m S]] (.int .i64 0) := by
  have := mayF_a w h n L m S
  rw [hpre] at this
  exact this
def mayG_r (w h : Int) (n : Nat) (L : Nat → Int) (m : Nat) (S : Nat → Int) : AV := .int .i64 0
def mayG_p (w h : Int) (n : Nat) (L : Nat → Int) (m : Nat) (S : Nat → Int) : Prop := filmE w h n L m S = 0
def mayG_k : Con Try.prog := ⟨22, fun args => match args with | [.agg [.int .i64 w, .int .i64 h, .sl n 1 g_L, .sl m 1 g_S]] => .ok (some (IsI .i64 g_L ∧ IsI .i64 g_S ∧ mayG_p w h n (intF g_L) m (intF g_S))) (mayG_r w h n (intF g_L) m (intF g_S)) | _ => .no, by
  intro args p r h hp
  split at h
  · cases h; obtain ⟨h_L, h_S, hp⟩ := hp; have e_L := h_L.eq; have e_S := h_S.eq; rw [e_L, e_S]; exact mayG_a _ _ _ _ _ _ hp
  · cases h⟩
theorem putC_all {w h : Int} {n m : Nat} {L S : Nat → Int} {k0 k1 k2 k3 : Nat} : (catI (6 + 6 * n + 3 * m + 1 + 1 + 1) (some k3) (catI (6 + 6 * n + 3 * m + 1 + 1) (some k2) (catI (6 + 6 * n + 3 * m + 1) (some k1) (catI (6 + 6 * n + 3 * m) (some k0) (saveB w h n L S) (fun _ => byteP (IntKind.i64.wrap (sumV (saveB w h n L S) (6 + 6 * n + 3 * m))) 24)) (fun _ => byteP (IntKind.i64.wrap (sumV (saveB w h n L S) (6 + 6 * n + 3 * m))) 16)) (fun _ => byteP (IntKind.i64.wrap (sumV (saveB w h n L S) (6 + 6 * n + 3 * m))) 8)) (fun _ => byteP (IntKind.i64.wrap (sumV (saveB w h n L S) (6 + 6 * n + 3 * m))) 0)) = saveC w h n L m S := by
  funext j
  simp only [catI_some]
  split <;> (try split) <;> (try split) <;> (try split)
  · exact (saveC_0 (by omega)).symm
  · exact (saveC_1 0 (by omega)).symm
  · exact (saveC_1 1 (by omega)).symm
  · exact (saveC_1 2 (by omega)).symm
  · rw [saveC_1 (j - (6 + 6 * n + 3 * m)) (by omega)]
    unfold putV
    congr 1
    omega
theorem lightF_bd (r : Nat) (F : Nat → Int) (i : Nat) : 0 ≤ lightF r F i ∧ lightF r F i < 300000 := by unfold lightF; exact pickF_bd _ _ (by omega)
theorem shotF_bd (r : Nat) (F : Nat → Int) (i : Nat) : 0 ≤ shotF r F i ∧ shotF r F i < 6 := by unfold shotF; exact pickF_bd _ _ (by omega)
theorem film_of {w h : Int} (hs : Side w h) (r : Nat) (F : Nat → Int) {n m : Nat} (hn : (3 * (w * h)).toNat = n) (hm : (w * h).toNat = m) : filmE w h n (lightF r F) m (shotF r F) = 0 := by
  have hy := hs.wh
  exact filmE0 hs ⟨by omega, by omega⟩ (okIn_iff.2 fun i _ => by have := lightF_bd r F i; omega) (okIn_iff.2 fun i _ => by have := shotF_bd r F i; omega)
theorem xor8 {a c : Int} (ha : 0 ≤ a ∧ a < 256) (hc : 0 < c ∧ c < 256) : (0 ≤ bitsA .xor .u8 a c ∧ bitsA .xor .u8 a c < 256) ∧ a ≠ bitsA .xor .u8 a c := by
  have e : bitsA .xor .u8 a c = ((BitVec.ofInt 8 a ^^^ BitVec.ofInt 8 c).toNat : Int) := by
    show IntKind.u8.wrap ((BitVec.ofInt 8 a ^^^ BitVec.ofInt 8 c).toNat : Nat) = _
    have := (BitVec.ofInt 8 a ^^^ BitVec.ofInt 8 c).isLt
    rw [u8w]
    omega
  have h1 := (BitVec.ofInt 8 a ^^^ BitVec.ofInt 8 c).isLt
  refine ⟨by omega, fun h => ?_⟩
  have ea : (BitVec.ofInt 8 a).toNat = a.toNat := by rw [BitVec.toNat_ofInt]; omega
  have h2 : BitVec.ofInt 8 a ^^^ BitVec.ofInt 8 c = BitVec.ofInt 8 a := BitVec.eq_of_toNat_eq (by omega)
  have h3 := congrArg (fun z => BitVec.ofInt 8 a ^^^ z) h2
  simp only [← BitVec.xor_assoc, BitVec.xor_self, BitVec.zero_xor] at h3
  have h4 := congrArg BitVec.toNat h3
  rw [BitVec.toNat_ofInt] at h4
  simp at h4
  omega
theorem turned_u8 {A : Nat → Int} (hA : U8s A) {p : Nat} {c : Int} (hc : 0 < c ∧ c < 256) : U8s fun j => if j = p then bitsA .xor .u8 (A p) c else A j := fun j => by
  show 0 ≤ (if j = p then _ else _) ∧ (if j = p then _ else _) < 256
  split
  · exact (xor8 (hA p) hc).1
  · exact hA j
theorem turned_ne {w h : Int} {n m N p : Nat} {L S : Nat → Int} (h0 : filmE w h n L m S = 0) (hN : N = 10 + 6 * n + 3 * m) (hp : p < N) {c : Int} (hc : 0 < c ∧ c < 256) : ¬ loadE N (fun j => if j = p then bitsA .xor .u8 (saveC w h n L m S p) c else saveC w h n L m S j) = 0 := by
  subst hN
  refine load_turned (saveC_u8 w h n L m S) (turned_u8 (saveC_u8 w h n L m S) hc) (load_save h0).1 hp (p := p) ?_ fun j hj => ?_
  · show _ ≠ (if p = p then _ else _)
    rw [if_pos rfl]
    exact (xor8 (saveC_u8 w h n L m S p) hc).2
  · show _ = (if j = p then _ else _)
    rw [if_neg hj]
theorem topTurned_f : FnOk Try.prog 5 Try.f5 := ⟨Try.func5, by kernel_rfl⟩
theorem topTurned_a (r : Nat) (F : Nat → Int) (w h a b : Int) (hpre : (∀ j, In64 (F j)) ∧ In64 w ∧ In64 h ∧ In64 a ∧ In64 b) : ACalls Try.prog 5 [ints .i64 r F, .int .i64 w, .int .i64 h, .int .i64 a, .int .i64 b] (.bool true) := by
  refine acalls_of (inl := hasI (P := Try.prog) [⟨11, Try.f11, Try.func11, by kernel_rfl⟩, ⟨27, Try.f27, Try.func27, by kernel_rfl⟩] [loadM_m]) (base [pick_k, filmOf_k, mayG_k, sumB_k, tsameFilm_k, tsameFilmZ_k] [⟨11, Try.f11, Try.func11, by kernel_rfl⟩, ⟨27, Try.f27, Try.func27, by kernel_rfl⟩] [loadM_m]) 4 topTurned_f (And.intro (by kernel_rfl) ?_)
  obtain ⟨hF, hw, hh, ha, hb⟩ := hpre
  have b0 := pickF_bd w 4 (by omega)
  have b1 := pickF_bd h 4 (by omega)
  have b2 := pickF_bd b 255 (by omega)
  have e0 : IntKind.i64.wrap (1 + pickF w 4) = 1 + pickF w 4 := wrapI (by omega) (by omega)
  have e1 : IntKind.i64.wrap (1 + pickF h 4) = 1 + pickF h 4 := wrapI (by omega) (by omega)
  have e2 : IntKind.i64.wrap (1 + pickF b 255) = 1 + pickF b 255 := wrapI (by omega) (by omega)
  have hs : Side (1 + pickF w 4) (1 + pickF h 4) := ⟨by omega, by omega, by omega, by omega⟩
  repeat' (first | refine And.intro ?_ ?_ | (with_reducible exact ff_elim) | (with_reducible exact tf_elim) | refine num_elim ?_ | intro _ | (with_reducible rfl) | ((with_reducible refine lk_t ?_); exact rfl) | ((with_reducible refine pf_t ?_); exact rfl) | refine tell ?_ | exact True.intro | (refine IsT.of ?_; kernel_rfl))
  all_goals (try (refine loop_keep [1, 26, 27] [15, 12] ?_; refine LoopI.mk ({i : Nat // i ≤ (3 * (IntKind.i64.wrap (1 + pickF w 4) * IntKind.i64.wrap (1 + pickF h 4))).toNat}) (fun i => [(28, .int .i64 i.1), (5, .os 16 1 0 (6 + 6 * i.1))]) (fun i => [(16, .nums .u8 (6 + 6 * i.1) (saveA (IntKind.i64.wrap (1 + pickF w 4)) (IntKind.i64.wrap (1 + pickF h 4)) (lightF r F)))]) (fun i => (3 * (IntKind.i64.wrap (1 + pickF w 4) * IntKind.i64.wrap (1 + pickF h 4))).toNat - i.1) (⟨0, Nat.zero_le _⟩) (wk_mk [some 32, some 15, none] ?_) (fun ⟨i, hi⟩ => ?_)))
  repeat' (first | refine And.intro ?_ ?_ | (with_reducible exact ff_elim) | (with_reducible exact tf_elim) | refine' stp_mk [some _, some 15, none] (⟨i + 1, ?_⟩) ?_ ?_ | refine unr_at 30 7 ?_ | refine num_lit 0 (by decide) ?_ | refine num_lit 1 (by decide) ?_ | refine num_lit 2 (by decide) ?_ | refine num_lit 3 (by decide) ?_ | refine num_lit 4 (by decide) ?_ | refine num_lit 5 (by decide) ?_ | refine num_lit 6 (by decide) ?_ | refine num_lit 7 (by decide) ?_ | refine num_lit 8 (by decide) ?_ | (intro h; exact absurd h (by decide)) | refine num_elim ?_ | intro _ | (with_reducible rfl) | ((with_reducible refine lk_t ?_); exact rfl) | ((with_reducible refine pf_t ?_); exact rfl) | refine tell ?_ | exact True.intro | (refine IsT.of ?_; kernel_rfl))
  all_goals (try (refine loop_keep [37, 38] [12] ?_; refine LoopI.mk ({k : Nat // k ≤ (IntKind.i64.wrap (1 + pickF w 4) * IntKind.i64.wrap (1 + pickF h 4)).toNat}) (fun k => [(39, .int .i64 k.1), (5, .os 16 1 0 (6 + 6 * i + 3 * k.1))]) (fun k => [(16, .nums .u8 (6 + 6 * i + 3 * k.1) (saveB (IntKind.i64.wrap (1 + pickF w 4)) (IntKind.i64.wrap (1 + pickF h 4)) i (lightF r F) (shotF r F)))]) (fun k => (IntKind.i64.wrap (1 + pickF w 4) * IntKind.i64.wrap (1 + pickF h 4)).toNat - k.1) (⟨0, Nat.zero_le _⟩) (wk_mk [some 16, none] ?_) (fun ⟨k, hk⟩ => ?_)))
  repeat' (first | refine And.intro ?_ ?_ | (with_reducible exact ff_elim) | (with_reducible exact tf_elim) | refine' stp_mk [some _, none] (⟨k + 1, ?_⟩) ?_ ?_ | refine unr_at 30 7 ?_ | refine num_lit 0 (by decide) ?_ | refine num_lit 1 (by decide) ?_ | refine num_lit 2 (by decide) ?_ | refine num_lit 3 (by decide) ?_ | refine num_lit 4 (by decide) ?_ | refine num_lit 5 (by decide) ?_ | refine num_lit 6 (by decide) ?_ | refine num_lit 7 (by decide) ?_ | refine num_lit 8 (by decide) ?_ | (intro h; exact absurd h (by decide)) | refine num_elim ?_ | intro _ | (with_reducible rfl) | ((with_reducible refine lk_t ?_); exact rfl) | ((with_reducible refine pf_t ?_); exact rfl) | refine tell ?_ | exact True.intro | (refine IsT.of ?_; kernel_rfl))
  all_goals (try simp only [byteP_eq] at *)
  all_goals (try refine Tell.mk ?_)
  all_goals first | with_reducible rfl | with_reducible exact isI_mk | with_reducible assumption | (with_reducible refine gb_t ?_; with_reducible assumption) | (with_reducible refine gb_f ?_; with_reducible assumption) | ((with_reducible refine lk_t ?_); rfl) | ((with_reducible refine okF_t ?_); kernel_rfl) | ((with_reducible refine ks_t ?_); rfl) | ((with_reducible refine pk_t ?_); rfl) | ((with_reducible refine pf_t ?_); rfl) | skip
  all_goals (try dsimp only at *)
  all_goals (try simp only [decide_eq_true_eq, decide_eq_false_iff_not, Bool.or_eq_true, Bool.or_eq_false_iff, Bool.and_eq_true, Bool.and_eq_false_iff, Bool.not_eq_true', Bool.not_eq_false', bne_iff_ne, ne_eq, beq_iff_eq, bne_eq_false_iff_eq, beq_eq_false_iff_ne, Int.not_lt, Int.not_le, gt_iff_lt, ge_iff_le] at *)
  all_goals (try simp only [mulN1, Nat.add_zero, Nat.zero_add, Nat.mul_one, Int.toNat_natCast, avInt_int, intF_mk, e0, e1, e2] at *)
  all_goals first | with_reducible rfl | with_reducible exact nums_N | omega | ((with_reducible refine by_le 1 rfl ?_); omega) | ((with_reducible refine by_le 8 rfl ?_); omega) | (rw [wrapI (by omega) (by omega)] <;> omega) | skip
  all_goals (generalize hW : 1 + pickF w 4 = W at *; generalize hH : 1 + pickF h 4 = H at *)
  all_goals (try simp only [sh5, sh4, sh3, sh2, sh1, sh0] at *)
  all_goals (have hy := hs.wh; have hz := hs.wraps)
  all_goals first | (with_reducible exact hF _) | omega | exact absurd True.intro (by with_reducible assumption) | exact film_of hs r F rfl rfl | (simp only [List.length_cons, List.length_nil]; done) | (simp only [List.length_cons, List.length_nil]; omega) | exact saveA_head (by omega) | exact putA_step (by with_reducible assumption) | exact saveB_0 (by omega) | exact putB_step (by with_reducible assumption) | (with_reducible refine by_le 1 rfl ?_; omega) | (rw [wrapI (by omega) (by omega)]; omega) | skip
  all_goals (obtain ⟨n, hn⟩ : ∃ n, (3 * (W * H)).toNat = n := ⟨_, rfl⟩; obtain ⟨m, hm⟩ : ∃ m, (W * H).toNat = m := ⟨_, rfl⟩)
  all_goals (have h0 := film_of hs r F hn hm)
  all_goals (obtain rfl : i = n := (by omega); obtain rfl : k = m := (by omega))
  all_goals (try simp only [putC_all, hn, hm] at *)
  all_goals (have eN : 6 + 6 * i + 3 * k + 1 + 1 + 1 + 1 = 10 + 6 * i + 3 * k := (by omega); simp only [eN] at *)
  all_goals (have bp := pickF_bd a ((10 + 6 * i + 3 * k : Nat) : Int) (by omega); have hu := saveC_u8 W H i (lightF r F) k (shotF r F))
  all_goals (have hc : 0 < IntKind.u8.wrap (1 + pickF b 255) ∧ IntKind.u8.wrap (1 + pickF b 255) < 256 := (by rw [u8w]; omega))
  all_goals first | omega | exact (hu _).1 | exact (hu _).2 | exact (turned_u8 hu hc _).1 | exact (turned_u8 hu hc _).2 | (unfold posR; show 0 < _; omega) | skip
  all_goals (have ls := (load_save h0).1; have lm := load_same h0; have ht := turned_ne (N := 10 + 6 * i + 3 * k) h0 rfl (p := (pickF a ((10 + 6 * i + 3 * k : Nat) : Int)).toNat) (by omega) hc)
  all_goals first | (exfalso; have hd : ((_ ∨ _) ∨ _) ∨ _ := (by with_reducible assumption); rcases hd with ((hd | hd) | hd) | hd <;> first | exact hd True.intro | exact hd ls | omega | (rw [lm] at hd; cases hd)) | skip
  all_goals (refine Eq.symm ?_; generalize hB : (fun j => _) = B at ht; simp only [ifz1 ht, ifn1 ht]; simp only [bne_iff_ne, ne_eq, ht, not_false_eq_true, Bool.and_eq_true, beq_self_eq_true, decide_true, and_self])
def topTurned_r (r : Nat) (F : Nat → Int) (w h a b : Int) : AV := .bool true
def topTurned_p (r : Nat) (F : Nat → Int) (w h a b : Int) : Prop := (∀ j, In64 (F j)) ∧ In64 w ∧ In64 h ∧ In64 a ∧ In64 b
def topTurned_k : Con Try.prog := ⟨5, fun args => match args with | [.sl r 1 g_F, .int .i64 w, .int .i64 h, .int .i64 a, .int .i64 b] => .ok (some (IsI .i64 g_F ∧ topTurned_p r (intF g_F) w h a b)) (topTurned_r r (intF g_F) w h a b) | _ => .no, by
  intro args p r h hp
  split at h
  · cases h; obtain ⟨h_F, hp⟩ := hp; have e_F := h_F.eq; rw [e_F]; exact topTurned_a _ _ _ _ _ _ hp
  · cases h⟩
end Go.Proofs.Ytehjhfifldefiaa
