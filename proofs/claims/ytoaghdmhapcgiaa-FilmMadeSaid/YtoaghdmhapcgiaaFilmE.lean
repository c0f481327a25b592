/- Tones. -/
import Derived.Test.YtoaghdmhapcgiaaFilmD
namespace Go.Proofs.Ytoaghdmhapcgiaa
open Go.RowKit Ev
set_option linter.unusedVariables false
set_option linter.unusedSimpArgs false
set_option maxRecDepth 20000
set_option maxHeartbeats 4000000

theorem u8_255 : IntKind.u8.wrap 255 = 255 := by decide
theorem u8_0 : IntKind.u8.wrap 0 = 0 := by decide
/-- A number of a tone. -/
def toneF (L S : Nat → Int) (br : Int) (j : Nat) : Int :=
  if j % 4 = 3 then (if S (j / 4) = 0 then 0 else 255) else shS (Int.tdiv (Int.tdiv (L (3 * (j / 4) + j % 4)) (if S (j / 4) = 0 then 1 else S (j / 4)) * br) 1000)
@[irreducible] def toneE (w h : Int) (n : Nat) (L : Nat → Int) (m : Nat) (S : Nat → Int) (br : Int) : Int :=
  if filmE w h n L m S = 0 then (if 0 ≤ br ∧ br ≤ 1000000 then 0 else 6) else filmE w h n L m S
theorem toneE_a {w h : Int} {n : Nat} {L : Nat → Int} {m : Nat} {S : Nat → Int} {br : Int} (h1 : filmE w h n L m S = 0) (h2 : 0 ≤ br ∧ br ≤ 1000000) : toneE w h n L m S br = 0 := by
  unfold toneE; rw [if_pos h1, if_pos h2]
theorem tdiv_bd {a q : Int} (ha : 0 ≤ a) (hq : 1 ≤ q) : 0 ≤ a.tdiv q ∧ a.tdiv q ≤ a := by
  rw [Int.tdiv_eq_ediv_of_nonneg ha]
  exact ⟨Int.ediv_nonneg ha (by omega), Int.ediv_le_self _ ha⟩
theorem tone_val {a q br : Int} (ha : 0 ≤ a ∧ a ≤ 1099511627776) (hq : 1 ≤ q) (hb : 0 ≤ br ∧ br ≤ 1000000) :
    IntKind.i64.wrap ((IntKind.i64.wrap (IntKind.i64.wrap (a.tdiv q) * br)).tdiv 1000) = (a.tdiv q * br).tdiv 1000 := by
  have h1 := tdiv_bd ha.1 hq
  have h2 : 0 ≤ a.tdiv q * br := Int.mul_nonneg h1.1 hb.1
  have h3 : a.tdiv q * br ≤ 1099511627776 * 1000000 := Int.mul_le_mul (by omega) hb.2 hb.1 (by omega)
  have h4 := tdiv_bd (q := 1000) h2 (by omega)
  rw [wrapI (x := a.tdiv q) (by omega) (by omega), wrapI (x := a.tdiv q * br) (by omega) (by omega), wrapI (by omega) (by omega)]
theorem tone_step {L S : Nat → Int} {br cov v0 v1 v2 : Int} {i : Nat} (q : Int) (hq : q = if S i = 0 then 1 else S i) (hc : cov = if S i = 0 then 0 else 255)
    (e0 : v0 = shS ((L (3 * i)).tdiv q * br |>.tdiv 1000)) (e1 : v1 = shS ((L (3 * i + 1)).tdiv q * br |>.tdiv 1000)) (e2 : v2 = shS ((L (3 * i + 2)).tdiv q * br |>.tdiv 1000)) {j : Nat} (hj : j < 4 * (i + 1)) :
    toneF L S br j = if j < 4 * i + 1 + 1 + 1 then (if j < 4 * i + 1 + 1 then (if j < 4 * i + 1 then (if j < 4 * i then toneF L S br j else v0) else v1) else v2) else cov := by
  by_cases h : j < 4 * i
  · rw [if_pos (by omega), if_pos (by omega), if_pos (by omega), if_pos h]
  · have hi : j / 4 = i := by omega
    unfold toneF
    rw [hi]
    have : j = 4 * i ∨ j = 4 * i + 1 ∨ j = 4 * i + 2 ∨ j = 4 * i + 3 := by omega
    rcases this with rfl | rfl | rfl | rfl
    · rw [if_neg (show ¬ 4 * i % 4 = 3 by omega), if_pos (show 4 * i < 4 * i + 1 + 1 + 1 by omega), if_pos (show 4 * i < 4 * i + 1 + 1 by omega), if_pos (show 4 * i < 4 * i + 1 by omega), if_neg h, e0, hq, show 4 * i % 4 = 0 by omega]; rfl
    · rw [if_neg (show ¬ (4 * i + 1) % 4 = 3 by omega), if_pos (show 4 * i + 1 < 4 * i + 1 + 1 + 1 by omega), if_pos (show 4 * i + 1 < 4 * i + 1 + 1 by omega), if_neg (show ¬ 4 * i + 1 < 4 * i + 1 by omega), e1, hq, show (4 * i + 1) % 4 = 1 by omega]
    · rw [if_neg (show ¬ (4 * i + 2) % 4 = 3 by omega), if_pos (show 4 * i + 2 < 4 * i + 1 + 1 + 1 by omega), if_neg (show ¬ 4 * i + 2 < 4 * i + 1 + 1 by omega), e2, hq, show (4 * i + 2) % 4 = 2 by omega]
    · rw [if_pos (show (4 * i + 3) % 4 = 3 by omega), if_neg (show ¬ 4 * i + 3 < 4 * i + 1 + 1 + 1 by omega), hc]
theorem tone_f : FnOk Try.prog 17 Try.f17 := ⟨Try.func17, by kernel_rfl⟩
theorem tone_a (w h : Int) (n : Nat) (L : Nat → Int) (m : Nat) (S : Nat → Int) (br : Int) : ACalls Try.prog 17 [.agg [.int .i64 w, .int .i64 h, ints .i64 n L, ints .i64 m S], .int .i64 br] (.tup [.agg [.int .i64 (ifz (toneE w h n L m S br) w), .int .i64 (ifz (toneE w h n L m S br) h), ints .u8 (ifn (toneE w h n L m S br) (4 * m)) (toneF L S br)], .int .i64 (toneE w h n L m S br)]) := by
  refine acalls_len fun hlen => ?_
  simp only [lenV, len1, lenV0, len0, and_true, true_and] at hlen
  refine acalls_of (inl := hasI (P := Try.prog) [] []) (base [mayF_k, shade_k] [] []) 0 tone_f (And.intro (by kernel_rfl) ?_)
  repeat' (first | refine And.intro ?_ ?_ | (with_reducible exact ff_elim) | (with_reducible exact tf_elim) | refine num_elim ?_ | intro _ | (with_reducible rfl) | ((with_reducible refine lk_t ?_); exact rfl) | refine tell ?_ | exact True.intro | (refine IsT.of ?_; kernel_rfl))
  all_goals (try (refine loop_keep [1, 2, 4, 7, 31, 32] [0, 1] ?_; refine LoopI.mk ({i : Nat // i ≤ m}) (fun i => [(33, .int .i64 i.1)]) (fun i => [(19, .row [.int .i64 w, .int .i64 h, .os 2 1 0 (4 * i.1)]), (2, .nums .u8 (4 * i.1) (toneF L S br))]) (fun i => m - i.1) (⟨0, Nat.zero_le _⟩) (wk_mk [some 19, none, some 0, some 1] ?_) (fun ⟨i, hi⟩ => ?_)))
  repeat' (first | refine And.intro ?_ ?_ | (with_reducible exact ff_elim) | (with_reducible exact tf_elim) | refine' stp_mk [some 19, some _, some 0, some 1] (⟨i + 1, ?_⟩) ?_ ?_ | refine Or.inl ⟨4, ?_⟩ | refine num_lit 0 (by decide) ?_ | refine num_lit 1 (by decide) ?_ | refine num_lit 2 (by decide) ?_ | refine num_lit 3 (by decide) ?_ | refine num_lit 4 (by decide) ?_ | refine num_lit 5 (by decide) ?_ | refine num_lit 6 (by decide) ?_ | refine num_lit 7 (by decide) ?_ | refine num_lit 8 (by decide) ?_ | (intro h; exact absurd h (by decide)) | refine num_elim ?_ | intro _ | (with_reducible rfl) | ((with_reducible refine lk_t ?_); exact rfl) | refine tell ?_ | exact True.intro | (refine IsT.of ?_; kernel_rfl))
  all_goals (try refine Tell.mk ?_)
  all_goals first | with_reducible rfl | with_reducible exact isI_mk | with_reducible assumption | (with_reducible refine gb_t ?_; with_reducible assumption) | (with_reducible refine gb_f ?_; with_reducible assumption) | ((with_reducible refine lk_t ?_); rfl) | ((with_reducible refine okF_t ?_); kernel_rfl) | ((with_reducible refine ks_t ?_); rfl) | ((with_reducible refine pk_t ?_); rfl) | skip
  all_goals (try dsimp only at *)
  all_goals (try simp only [decide_eq_true_eq, decide_eq_false_iff_not, Bool.or_eq_true, Bool.or_eq_false_iff, Bool.and_eq_true, Bool.and_eq_false_iff, Bool.not_eq_true', Bool.not_eq_false', bne_iff_ne, ne_eq, beq_iff_eq, bne_eq_false_iff_eq, beq_eq_false_iff_ne, Int.not_lt, Int.not_le, gt_iff_lt, ge_iff_le] at *)
  all_goals (try simp only [mulN1, Nat.add_zero, Nat.zero_add, Nat.mul_one, Int.toNat_natCast, avInt_int, intF_mk, Tab.b5, u8_255, u8_0] at *)
  all_goals (try simp only [catI_some] at *)
  all_goals first | with_reducible rfl | with_reducible exact nums_N | omega | ((with_reducible refine by_le 1 rfl ?_); omega) | ((with_reducible refine by_le 8 rfl ?_); omega) | (rw [wrapI (by omega) (by omega)] <;> omega) | skip
  all_goals first | (with_reducible exact wrap_in _) | skip
  all_goals first | (with_reducible refine by_le 1 rfl ?_; omega) | grind [toneE, ifz, ifn] | skip
  all_goals have hf : filmE w h n L m S = 0 := by with_reducible assumption
  all_goals obtain ⟨hs, hn, hm, hL, hS⟩ := filmE_ok hf
  all_goals have hy := hs.wh
  all_goals have hbr : 0 ≤ br ∧ br ≤ 1000000 := by omega
  all_goals first | omega | (rw [toneE_a hf hbr]; done) | (unfold ifz; rw [toneE_a hf hbr]; done) | (unfold ifn; rw [toneE_a hf hbr, if_pos rfl]; omega) | skip
  all_goals have him : i < m := by omega
  all_goals (have t0 : (3 * (i : Int)).toNat = 3 * i := (by omega); have t1 : (3 * (i : Int) + 1).toNat = 3 * i + 1 := (by omega); have t2 : (3 * (i : Int) + 2).toNat = 3 * i + 2 := (by omega))
  all_goals (have z0 : IntKind.i64.wrap (3 * (i : Int)) = 3 * (i : Int) := wrapI (by omega) (by omega); have z1 : IntKind.i64.wrap (3 * (i : Int) + 1) = 3 * (i : Int) + 1 := wrapI (by omega) (by omega); have z2 : IntKind.i64.wrap (3 * (i : Int) + 2) = 3 * (i : Int) + 2 := wrapI (by omega) (by omega))
  all_goals have l0 := okIn_at hL (show 3 * i < n by omega)
  all_goals have l1 := okIn_at hL (show 3 * i + 1 < n by omega)
  all_goals have l2 := okIn_at hL (show 3 * i + 2 < n by omega)
  all_goals have ls := okIn_at hS him
  all_goals simp only [Int.add_zero, z0, z1, z2, t0, t1, t2] at *
  all_goals first | omega | skip
  all_goals first | (refine tone_step 1 (by rw [if_pos (by assumption)]) (by rw [if_pos (by assumption)]) ?_ ?_ ?_ (by assumption) <;> rw [tone_val (by omega) (by omega) hbr]; done) | (refine tone_step (S i) (by rw [if_neg (by assumption)]) (by rw [if_neg (by assumption)]) ?_ ?_ ?_ (by assumption) <;> rw [tone_val (by omega) (by omega) hbr]; done)
def tone_r (w h : Int) (n : Nat) (L : Nat → Int) (m : Nat) (S : Nat → Int) (br : Int) : AV := .tup [.agg [.int .i64 (ifz (toneE w h n L m S br) w), .int .i64 (ifz (toneE w h n L m S br) h), ints .u8 (ifn (toneE w h n L m S br) (4 * m)) (toneF L S br)], .int .i64 (toneE w h n L m S br)]
def tone_k : Con Try.prog := ⟨17, fun args => match args with | [.agg [.int .i64 w, .int .i64 h, .sl n 1 g_L, .sl m 1 g_S], .int .i64 br] => .ok (some (IsI .i64 g_L ∧ IsI .i64 g_S)) (tone_r w h n (intF g_L) m (intF g_S) br) | _ => .no, by
  intro args p r h hp
  split at h
  · cases h; obtain ⟨h_L, h_S⟩ := hp; have e_L := h_L.eq; have e_S := h_S.eq; rw [e_L, e_S]; exact tone_a _ _ _ _ _ _ _
  · cases h⟩
theorem toneR_f : FnOk Try.prog 18 Try.f18 := ⟨Try.func18, by kernel_rfl⟩
theorem toneR_a (w h : Int) (n : Nat) (L : Nat → Int) (m : Nat) (S : Nat → Int) (br : Int) : ACalls Try.prog 18 [.agg [.int .i64 w, .int .i64 h, ints .i64 n L, ints .i64 m S], .int .i64 br] (.tup [.agg [.int .i64 (ifz (toneE w h n L m S br) w), .int .i64 (ifz (toneE w h n L m S br) h), ints .u8 (ifn (toneE w h n L m S br) (4 * m)) (toneF L S br)], .int .i64 (toneE w h n L m S br)]) := by
  refine acalls_len fun hlen => ?_
  simp only [lenV, len1, lenV0, len0, and_true, true_and] at hlen
  refine acalls_of (inl := hasI (P := Try.prog) [] []) (base [mayFR_k, shadeR_k] [] []) 0 toneR_f (And.intro (by kernel_rfl) ?_)
  repeat' (first | refine And.intro ?_ ?_ | (with_reducible exact ff_elim) | (with_reducible exact tf_elim) | refine num_elim ?_ | intro _ | (with_reducible rfl) | ((with_reducible refine lk_t ?_); exact rfl) | refine tell ?_ | exact True.intro | (refine IsT.of ?_; kernel_rfl))
  all_goals (try (refine loop_keep [1, 2, 4, 7] [0, 1] ?_; refine LoopI.mk ({i : Nat // i ≤ m}) (fun i => [(8, .int .i64 i.1)]) (fun i => [(19, .row [.int .i64 w, .int .i64 h, .os 2 1 0 (4 * i.1)]), (2, .nums .u8 (4 * i.1) (toneF L S br))]) (fun i => m - i.1) (⟨0, Nat.zero_le _⟩) (wk_mk [some 19, none, some 0, some 1] ?_) (fun ⟨i, hi⟩ => ?_)))
  repeat' (first | refine And.intro ?_ ?_ | (with_reducible exact ff_elim) | (with_reducible exact tf_elim) | refine' stp_mk [some 19, some _, some 0, some 1] (⟨i + 1, ?_⟩) ?_ ?_ | refine Or.inl ⟨4, ?_⟩ | refine num_lit 0 (by decide) ?_ | refine num_lit 1 (by decide) ?_ | refine num_lit 2 (by decide) ?_ | refine num_lit 3 (by decide) ?_ | refine num_lit 4 (by decide) ?_ | refine num_lit 5 (by decide) ?_ | refine num_lit 6 (by decide) ?_ | refine num_lit 7 (by decide) ?_ | refine num_lit 8 (by decide) ?_ | (intro h; exact absurd h (by decide)) | refine num_elim ?_ | intro _ | (with_reducible rfl) | ((with_reducible refine lk_t ?_); exact rfl) | refine tell ?_ | exact True.intro | (refine IsT.of ?_; kernel_rfl))
  all_goals (try refine Tell.mk ?_)
  all_goals first | with_reducible rfl | with_reducible exact isI_mk | with_reducible assumption | (with_reducible refine gb_t ?_; with_reducible assumption) | (with_reducible refine gb_f ?_; with_reducible assumption) | ((with_reducible refine lk_t ?_); rfl) | ((with_reducible refine okF_t ?_); kernel_rfl) | ((with_reducible refine ks_t ?_); rfl) | ((with_reducible refine pk_t ?_); rfl) | skip
  all_goals (try dsimp only at *)
  all_goals (try simp only [decide_eq_true_eq, decide_eq_false_iff_not, Bool.or_eq_true, Bool.or_eq_false_iff, Bool.and_eq_true, Bool.and_eq_false_iff, Bool.not_eq_true', Bool.not_eq_false', bne_iff_ne, ne_eq, beq_iff_eq, bne_eq_false_iff_eq, beq_eq_false_iff_ne, Int.not_lt, Int.not_le, gt_iff_lt, ge_iff_le] at *)
  all_goals (try simp only [mulN1, Nat.add_zero, Nat.zero_add, Nat.mul_one, Int.toNat_natCast, avInt_int, intF_mk, Tab.b5, u8_255, u8_0] at *)
  all_goals (try simp only [catI_some] at *)
  all_goals first | with_reducible rfl | with_reducible exact nums_N | omega | ((with_reducible refine by_le 1 rfl ?_); omega) | ((with_reducible refine by_le 8 rfl ?_); omega) | (rw [wrapI (by omega) (by omega)] <;> omega) | skip
  all_goals first | (with_reducible exact wrap_in _) | skip
  all_goals first | (with_reducible refine by_le 1 rfl ?_; omega) | grind [toneE, ifz, ifn] | skip
  all_goals have hf : filmE w h n L m S = 0 := by with_reducible assumption
  all_goals obtain ⟨hs, hn, hm, hL, hS⟩ := filmE_ok hf
  all_goals have hy := hs.wh
  all_goals have hbr : 0 ≤ br ∧ br ≤ 1000000 := by omega
  all_goals first | omega | (rw [toneE_a hf hbr]; done) | (unfold ifz; rw [toneE_a hf hbr]; done) | (unfold ifn; rw [toneE_a hf hbr, if_pos rfl]; omega) | skip
  all_goals have him : i < m := by omega
  all_goals (have t0 : (3 * (i : Int)).toNat = 3 * i := (by omega); have t1 : (3 * (i : Int) + 1).toNat = 3 * i + 1 := (by omega); have t2 : (3 * (i : Int) + 2).toNat = 3 * i + 2 := (by omega))
  all_goals (have z0 : IntKind.i64.wrap (3 * (i : Int)) = 3 * (i : Int) := wrapI (by omega) (by omega); have z1 : IntKind.i64.wrap (3 * (i : Int) + 1) = 3 * (i : Int) + 1 := wrapI (by omega) (by omega); have z2 : IntKind.i64.wrap (3 * (i : Int) + 2) = 3 * (i : Int) + 2 := wrapI (by omega) (by omega))
  all_goals have l0 := okIn_at hL (show 3 * i < n by omega)
  all_goals have l1 := okIn_at hL (show 3 * i + 1 < n by omega)
  all_goals have l2 := okIn_at hL (show 3 * i + 2 < n by omega)
  all_goals have ls := okIn_at hS him
  all_goals simp only [Int.add_zero, z0, z1, z2, t0, t1, t2] at *
  all_goals first | omega | skip
  all_goals first | (refine tone_step 1 (by rw [if_pos (by assumption)]) (by rw [if_pos (by assumption)]) ?_ ?_ ?_ (by assumption) <;> rw [tone_val (by omega) (by omega) hbr]; done) | (refine tone_step (S i) (by rw [if_neg (by assumption)]) (by rw [if_neg (by assumption)]) ?_ ?_ ?_ (by assumption) <;> rw [tone_val (by omega) (by omega) hbr]; done)
def toneR_r (w h : Int) (n : Nat) (L : Nat → Int) (m : Nat) (S : Nat → Int) (br : Int) : AV := .tup [.agg [.int .i64 (ifz (toneE w h n L m S br) w), .int .i64 (ifz (toneE w h n L m S br) h), ints .u8 (ifn (toneE w h n L m S br) (4 * m)) (toneF L S br)], .int .i64 (toneE w h n L m S br)]
def toneR_k : Con Try.prog := ⟨18, fun args => match args with | [.agg [.int .i64 w, .int .i64 h, .sl n 1 g_L, .sl m 1 g_S], .int .i64 br] => .ok (some (IsI .i64 g_L ∧ IsI .i64 g_S)) (toneR_r w h n (intF g_L) m (intF g_S) br) | _ => .no, by
  intro args p r h hp
  split at h
  · cases h; obtain ⟨h_L, h_S⟩ := hp; have e_L := h_L.eq; have e_S := h_S.eq; rw [e_L, e_S]; exact toneR_a _ _ _ _ _ _ _
  · cases h⟩
end Go.Proofs.Ytoaghdmhapcgiaa
