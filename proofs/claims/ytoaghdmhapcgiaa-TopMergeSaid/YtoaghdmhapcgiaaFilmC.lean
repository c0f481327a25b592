/- Films: new ones, a shot more. -/
import Derived.Test.YtoaghdmhapcgiaaFilmB
namespace Go.Proofs.Ytoaghdmhapcgiaa
open Go.RowKit Ev
set_option linter.unusedVariables false
set_option linter.unusedSimpArgs false
set_option maxRecDepth 20000
set_option maxHeartbeats 4000000

@[irreducible] def newE (w h : Int) : Int := if Side w h then 0 else 4
theorem newE0 {w h : Int} (e : Side w h) : newE w h = 0 := by unfold newE; exact if_pos e
theorem newE4 {w h : Int} (e : ¬ Side w h) : newE w h = 4 := by unfold newE; exact if_neg e
theorem by_leI {n M : Int} {b : Nat} (c : Nat) (h : b = c) (h' : (c : Int) * n ≤ M) : (b : Int) * n ≤ M := by rw [h]; exact h'
theorem newF_f : FnOk Try.prog 20 Try.f20 := ⟨Try.func20, by kernel_rfl⟩
theorem newF_a (w h : Int) : ACalls Try.prog 20 [.int .i64 w, .int .i64 h] (.tup [.agg [.int .i64 (ifz (newE w h) w), .int .i64 (ifz (newE w h) h), ints .i64 (ifn (newE w h) (3 * (w * h)).toNat) (fun _ => 0), ints .i64 (ifn (newE w h) (w * h).toNat) (fun _ => 0)], .int .i64 (newE w h)]) := by
  refine acalls_of (inl := hasI (P := Try.prog) [] []) (base [] [] []) 0 newF_f (And.intro (by kernel_rfl) ?_)
  repeat' (first | refine And.intro ?_ ?_ | (with_reducible exact ff_elim) | (with_reducible exact tf_elim) | refine num_elim ?_ | intro _ | (with_reducible rfl) | ((with_reducible refine lk_t ?_); exact rfl) | refine tell ?_ | exact True.intro | (refine IsT.of ?_; kernel_rfl))
  all_goals (try refine Tell.mk ?_)
  all_goals first | with_reducible rfl | with_reducible exact isI_mk | with_reducible assumption | (with_reducible refine gb_t ?_; with_reducible assumption) | (with_reducible refine gb_f ?_; with_reducible assumption) | ((with_reducible refine lk_t ?_); rfl) | ((with_reducible refine okF_t ?_); kernel_rfl) | ((with_reducible refine ks_t ?_); rfl) | ((with_reducible refine pk_t ?_); rfl) | skip
  all_goals (try dsimp only at *)
  all_goals (try simp only [decide_eq_true_eq, decide_eq_false_iff_not, Bool.or_eq_true, Bool.or_eq_false_iff, Bool.and_eq_true, Bool.and_eq_false_iff, Bool.not_eq_true', Bool.not_eq_false', bne_iff_ne, ne_eq, beq_iff_eq, bne_eq_false_iff_eq, beq_eq_false_iff_ne, Int.not_lt, Int.not_le, gt_iff_lt, ge_iff_le] at *)
  all_goals (try simp only [mulN1, Nat.add_zero, Nat.zero_add, Nat.mul_one, Int.toNat_natCast, avInt_int, Tab.s3, Tab.b3] at *)
  all_goals first | with_reducible rfl | with_reducible exact nums_N | omega | ((with_reducible refine by_le 1 rfl ?_); omega) | ((with_reducible refine by_le 8 rfl ?_); omega) | (rw [wrapI (by omega) (by omega)] <;> omega) | skip
  all_goals rcases Decidable.em (Side w h) with hs | hs
  all_goals first | (exfalso; unfold Side at hs; omega) | skip
  all_goals first | (simp only [ifz, ifn, newE4 hs]; done) | grind [newE4, ifz, ifn] | skip
  all_goals (have hz := hs.wraps; have hy := hs.wh; obtain ⟨z1, z2, z3⟩ := hz; simp only [z1, z2, z3, hs.wh.2.2] at *)
  all_goals first | omega | (simp only [ifz, ifn, newE0 hs, if_true]; done) | grind [newE0, ifz, ifn]
def newF_k : Con Try.prog := ⟨20, fun args => match args with | [.int .i64 w, .int .i64 h] => .ok (none) (.tup [.agg [.int .i64 (ifz (newE w h) w), .int .i64 (ifz (newE w h) h), ints .i64 (ifn (newE w h) (3 * (w * h)).toNat) (fun _ => 0), ints .i64 (ifn (newE w h) (w * h).toNat) (fun _ => 0)], .int .i64 (newE w h)]) | _ => .no, by
  intro args p r h hp
  split at h
  · cases h; exact newF_a _ _
  · cases h⟩
theorem no_side {K : Prop} {w h : Int} {n : Nat} {L : Nat → Int} {m : Nat} {S : Nat → Int} (h0 : (filmE w h n L m S != 0) = false) : (decide (w < 1) || decide (h < 1) || decide (w > 64) || decide (h > 64)) = true → K := by
  intro h1
  have := (filmE_ok (by simpa using h0)).1
  unfold Side at this
  simp at h1
  omega
def oneL (k l0 l1 l2 : Int) (j : Nat) : Int := if (j : Int) = 3 * k then l0 else if (j : Int) = 3 * k + 1 then l1 else if (j : Int) = 3 * k + 2 then l2 else 0
def oneS (k : Int) (j : Nat) : Int := if (j : Int) = k then 1 else 0
def inL (l : Int) : Prop := 0 ≤ l ∧ l ≤ 1099511627776
instance (l : Int) : Decidable (inL l) := inferInstanceAs (Decidable (0 ≤ l ∧ l ≤ 1099511627776))
@[irreducible] def putE (w h : Int) (n : Nat) (L : Nat → Int) (m : Nat) (S : Nat → Int) (x y l0 l1 l2 : Int) : Int :=
  if filmE w h n L m S = 0 then (if 0 ≤ x ∧ 0 ≤ y ∧ x < w ∧ y < h then (if inL l0 ∧ inL l1 ∧ inL l2 then (if filmE w h n (addF L (oneL (y * w + x) l0 l1 l2)) m (addF S (oneS (y * w + x))) = 0 then 0 else 4) else 6) else 6) else filmE w h n L m S
theorem place_bd {w h x y : Int} (e : Side w h) (a : 0 ≤ x) (b : 0 ≤ y) (c : x < w) (d : y < h) : 0 ≤ y * w ∧ y * w ≤ 4096 ∧ y * w + x < w * h := by
  have hw := e.wh
  obtain ⟨e1, e2, e3, e4⟩ := e
  have h0 : 0 ≤ y * w := Int.mul_nonneg b (by omega)
  have h1 : y * w ≤ (h - 1) * w := Int.mul_le_mul_of_nonneg_right (by omega) (by omega)
  have h2 : (h - 1) * w = w * h - w := by rw [Int.sub_mul, Int.one_mul, Int.mul_comm]
  omega
theorem oneG_eq {k l0 l1 l2 : Int} (hk : 0 ≤ k) : (fun j => if (3 * k).toNat ≤ j ∧ j < (3 * k).toNat + 3 then avInt ([AV.int .i64 l0, .int .i64 l1, .int .i64 l2].getD (j - (3 * k).toNat) .any) else 0) = oneL k l0 l1 l2 := by
  funext j
  unfold oneL
  by_cases h : (3 * k).toNat ≤ j ∧ j < (3 * k).toNat + 3
  · rw [if_pos h]
    have : j = (3 * k).toNat ∨ j = (3 * k).toNat + 1 ∨ j = (3 * k).toNat + 2 := by omega
    rcases this with rfl | rfl | rfl
    · rw [if_pos (by omega), Nat.sub_self]; rfl
    · rw [if_neg (by omega), if_pos (by omega), Nat.add_sub_cancel_left]; rfl
    · rw [if_neg (by omega), if_neg (by omega), if_pos (by omega), Nat.add_sub_cancel_left]; rfl
  · rw [if_neg h, if_neg (by omega), if_neg (by omega), if_neg (by omega)]
theorem oneS_eq {k : Int} (hk : 0 ≤ k) : (fun j : Nat => if j = k.toNat then (1 : Int) else 0) = oneS k := by
  funext j
  unfold oneS
  by_cases h : j = k.toNat
  · rw [if_pos h, if_pos (by omega)]
  · rw [if_neg h, if_neg (by omega)]
theorem oneE {w h k l0 l1 l2 : Int} (e : Side w h) (h0 : 0 ≤ k) (h1 : k < w * h) : filmE w h (3 * (w * h)).toNat (oneL k l0 l1 l2) (w * h).toNat (oneS k) = if inL l0 ∧ inL l1 ∧ inL l2 then 0 else 6 := by
  have hw := e.wh
  have hn : (((3 * (w * h)).toNat : Nat) : Int) = 3 * (w * h) ∧ (((w * h).toNat : Nat) : Int) = w * h := by omega
  split
  · rename_i hl
    obtain ⟨a, b, c⟩ := hl
    refine filmE0 e hn (okIn_iff.2 fun i hi => ?_) (okIn_iff.2 fun i hi => ?_)
    · unfold oneL; unfold inL at a b c; split
      · exact a
      · split
        · exact b
        · split
          · exact c
          · omega
    · unfold oneS; split <;> omega
  · rename_i hl
    have : ∃ i : Nat, i < (3 * (w * h)).toNat ∧ ¬ (0 ≤ oneL k l0 l1 l2 i ∧ oneL k l0 l1 l2 i ≤ 1099511627776) := by
      by_cases a : inL l0
      · by_cases b : inL l1
        · refine ⟨(3 * k + 2).toNat, by omega, fun hc => hl ⟨a, b, ?_⟩⟩
          unfold oneL at hc
          rw [if_neg (by omega), if_neg (by omega), if_pos (by omega)] at hc
          exact hc
        · refine ⟨(3 * k + 1).toNat, by omega, fun hc => b ?_⟩
          unfold oneL at hc
          rw [if_neg (by omega), if_pos (by omega)] at hc
          exact hc
      · refine ⟨(3 * k).toNat, by omega, fun hc => a ?_⟩
        unfold oneL at hc
        rw [if_pos (by omega)] at hc
        exact hc
    obtain ⟨i, hi, hc⟩ := this
    exact filmE6a e hn i hi hc
theorem put_f : FnOk Try.prog 8 Try.f8 := ⟨Try.func8, by kernel_rfl⟩
theorem put_a (w h : Int) (n : Nat) (L : Nat → Int) (m : Nat) (S : Nat → Int) (x y l0 l1 l2 : Int) : ACalls Try.prog 8 [.agg [.int .i64 w, .int .i64 h, ints .i64 n L, ints .i64 m S], .int .i64 x, .int .i64 y, .agg [.int .i64 l0, .int .i64 l1, .int .i64 l2]] (.tup [.agg [.int .i64 (ifz (putE w h n L m S x y l0 l1 l2) w), .int .i64 (ifz (putE w h n L m S x y l0 l1 l2) h), ints .i64 (ifn (putE w h n L m S x y l0 l1 l2) n) (addF L (oneL (y * w + x) l0 l1 l2)), ints .i64 (ifn (putE w h n L m S x y l0 l1 l2) m) (addF S (oneS (y * w + x)))], .int .i64 (putE w h n L m S x y l0 l1 l2)]) := by
  refine acalls_of (inl := hasI (P := Try.prog) [⟨20, Try.f20, Try.func20, by kernel_rfl⟩] []) (base [mayF_k, merge_k] [⟨20, Try.f20, Try.func20, by kernel_rfl⟩] []) 4 put_f (And.intro (by kernel_rfl) ?_)
  repeat' (first | refine And.intro ?_ ?_ | (with_reducible exact ff_elim) | (with_reducible exact tf_elim) | with_reducible exact no_side (by assumption) | refine num_elim ?_ | intro _ | (with_reducible rfl) | ((with_reducible refine lk_t ?_); exact rfl) | refine tell ?_ | exact True.intro | (refine IsT.of ?_; kernel_rfl))
  all_goals (try refine Tell.mk ?_)
  all_goals first | with_reducible rfl | with_reducible exact isI_mk | with_reducible assumption | (with_reducible refine gb_t ?_; with_reducible assumption) | (with_reducible refine gb_f ?_; with_reducible assumption) | ((with_reducible refine lk_t ?_); rfl) | ((with_reducible refine okF_t ?_); kernel_rfl) | ((with_reducible refine ks_t ?_); rfl) | ((with_reducible refine pk_t ?_); rfl) | skip
  all_goals (try dsimp only at *)
  all_goals (try simp only [decide_eq_true_eq, decide_eq_false_iff_not, Bool.or_eq_true, Bool.or_eq_false_iff, Bool.and_eq_true, Bool.and_eq_false_iff, Bool.not_eq_true', Bool.not_eq_false', bne_iff_ne, ne_eq, beq_iff_eq, bne_eq_false_iff_eq, beq_eq_false_iff_ne, Int.not_lt, Int.not_le, gt_iff_lt, ge_iff_le] at *)
  all_goals (try simp only [mulN1, Nat.add_zero, Nat.zero_add, Nat.mul_one, Int.toNat_natCast, avInt_int, intF_mk, Tab.s3, Tab.b3, lenN_none, lenN_some, offA_none, offA_some] at *)
  all_goals first | with_reducible rfl | with_reducible exact nums_N | omega | ((with_reducible refine by_le 1 rfl ?_); omega) | ((with_reducible refine by_le 8 rfl ?_); omega) | (rw [wrapI (by omega) (by omega)] <;> omega) | skip
  all_goals first | grind [putE, ifz, ifn] | skip
  all_goals have hf : filmE w h n L m S = 0 := by with_reducible assumption
  all_goals have hs := (filmE_ok hf).1
  all_goals have hp := place_bd (x := x) (y := y) hs (by omega) (by omega) (by omega) (by omega)
  all_goals (have hy := hs.wh; obtain ⟨z1, z2, z3⟩ := hs.wraps; have z4 : IntKind.i64.wrap (y * w) = y * w := wrapI (by omega) (by omega); have z5 : IntKind.i64.wrap (y * w + x) = y * w + x := wrapI (by omega) (by omega); have z6 : IntKind.i64.wrap (3 * (y * w + x)) = 3 * (y * w + x) := wrapI (by omega) (by omega); have z7 : IntKind.i64.wrap (3 * (y * w + x) + 3) = 3 * (y * w + x) + 3 := wrapI (by omega) (by omega); have z8 := hs.wh.2.2)
  all_goals (have hk0 : 0 ≤ y * w + x := by omega)
  all_goals (have hk1 : y * w + x < w * h := by omega)
  all_goals have hx : 0 ≤ x ∧ 0 ≤ y ∧ x < w ∧ y < h := by omega
  all_goals simp only [z1, z2, z3, z4, z5, z6, z7, z8, oneG_eq hk0, oneS_eq hk0, oneE hs hk0 hk1] at *
  all_goals have e1 := oneE (l0 := l0) (l1 := l1) (l2 := l2) hs hk0 hk1
  all_goals first | omega | grind [putE, mergeE, ifz, ifn] | exact Nat.le_refl 3
def put_r (w h : Int) (n : Nat) (L : Nat → Int) (m : Nat) (S : Nat → Int) (x y l0 l1 l2 : Int) : AV := .tup [.agg [.int .i64 (ifz (putE w h n L m S x y l0 l1 l2) w), .int .i64 (ifz (putE w h n L m S x y l0 l1 l2) h), ints .i64 (ifn (putE w h n L m S x y l0 l1 l2) n) (addF L (oneL (y * w + x) l0 l1 l2)), ints .i64 (ifn (putE w h n L m S x y l0 l1 l2) m) (addF S (oneS (y * w + x)))], .int .i64 (putE w h n L m S x y l0 l1 l2)]
def put_k : Con Try.prog := ⟨8, fun args => match args with | [.agg [.int .i64 w, .int .i64 h, .sl n 1 g_L, .sl m 1 g_S], .int .i64 x, .int .i64 y, .agg [.int .i64 l0, .int .i64 l1, .int .i64 l2]] => .ok (some (IsI .i64 g_L ∧ IsI .i64 g_S)) (put_r w h n (intF g_L) m (intF g_S) x y l0 l1 l2) | _ => .no, by
  intro args p r h hp
  split at h
  · cases h; obtain ⟨h_L, h_S⟩ := hp; have e_L := h_L.eq; have e_S := h_S.eq; rw [e_L, e_S]; exact put_a _ _ _ _ _ _ _ _ _ _ _
  · cases h⟩
theorem okIn_at {L : Nat → Int} {top : Int} {n i : Nat} (h : okIn L top n = true) (hi : i < n) : 0 ≤ L i ∧ L i ≤ top := okIn_iff.1 h i hi
theorem filmE_congr {w h : Int} {n : Nat} {L L' : Nat → Int} {m : Nat} {S S' : Nat → Int} (h1 : ∀ j, j < n → L j = L' j) (h2 : ∀ j, j < m → S j = S' j) : filmE w h n L m S = filmE w h n L' m S' := by
  have e : ∀ {L L' : Nat → Int} {top : Int} {n : Nat}, (∀ j, j < n → L j = L' j) → okIn L top n = okIn L' top n := fun {L L' top n} h => by
    rw [Bool.eq_iff_iff, okIn_iff, okIn_iff]
    exact ⟨fun g i hi => by rw [← h i hi]; exact g i hi, fun g i hi => by rw [h i hi]; exact g i hi⟩
  unfold filmE; rw [e h1, e h2]
theorem ifn_lt {e : Int} {n j : Nat} (h : j < ifn e n) : j < n := by unfold ifn at h; split at h <;> omega
theorem putE_0 {w h : Int} {n : Nat} {L : Nat → Int} {m : Nat} {S : Nat → Int} {x y l0 l1 l2 : Int} (h1 : filmE w h n L m S = 0) (h2 : 0 ≤ x ∧ 0 ≤ y ∧ x < w ∧ y < h) (h3 : inL l0 ∧ inL l1 ∧ inL l2) (h4 : filmE w h n (addF L (oneL (y * w + x) l0 l1 l2)) m (addF S (oneS (y * w + x))) = 0) : putE w h n L m S x y l0 l1 l2 = 0 := by
  unfold putE; rw [if_pos h1, if_pos h2, if_pos h3, if_pos h4]
theorem putE_4 {w h : Int} {n : Nat} {L : Nat → Int} {m : Nat} {S : Nat → Int} {x y l0 l1 l2 : Int} (h1 : filmE w h n L m S = 0) (h2 : 0 ≤ x ∧ 0 ≤ y ∧ x < w ∧ y < h) (h3 : inL l0 ∧ inL l1 ∧ inL l2) (h4 : ¬ filmE w h n (addF L (oneL (y * w + x) l0 l1 l2)) m (addF S (oneS (y * w + x))) = 0) : putE w h n L m S x y l0 l1 l2 = 4 := by
  unfold putE; rw [if_pos h1, if_pos h2, if_pos h3, if_neg h4]
theorem putG {L : Nat → Int} {n : Nat} {k l0 l1 l2 : Int} (hk : 0 ≤ k) (hL : okIn L 1099511627776 n = true) {j : Nat} (hj : j < n) :
    addF L (oneL k l0 l1 l2) j = if j = (3 * k + 2).toNat then IntKind.i64.wrap ((if (3 * k + 2).toNat = (3 * k + 1).toNat then IntKind.i64.wrap ((if (3 * k + 1).toNat = (3 * k).toNat then IntKind.i64.wrap (L (3 * k).toNat + l0) else L (3 * k + 1).toNat) + l1) else if (3 * k + 2).toNat = (3 * k).toNat then IntKind.i64.wrap (L (3 * k).toNat + l0) else L (3 * k + 2).toNat) + l2) else if j = (3 * k + 1).toNat then IntKind.i64.wrap ((if (3 * k + 1).toNat = (3 * k).toNat then IntKind.i64.wrap (L (3 * k).toNat + l0) else L (3 * k + 1).toNat) + l1) else if j = (3 * k).toNat then IntKind.i64.wrap (L (3 * k).toNat + l0) else L j := by
  have hb := okIn_at hL hj
  rw [if_neg (show ¬ (3 * k + 2).toNat = (3 * k + 1).toNat by omega), if_neg (show ¬ (3 * k + 2).toNat = (3 * k).toNat by omega), if_neg (show ¬ (3 * k + 1).toNat = (3 * k).toNat by omega)]
  unfold addF oneL
  by_cases h2 : j = (3 * k + 2).toNat
  · rw [if_pos h2, if_neg (by omega), if_neg (by omega), if_pos (by omega), h2]
  · rw [if_neg h2]
    by_cases h1 : j = (3 * k + 1).toNat
    · rw [if_pos h1, if_neg (by omega), if_pos (by omega), h1]
    · rw [if_neg h1]
      by_cases h0 : j = (3 * k).toNat
      · rw [if_pos h0, if_pos (by omega), h0]
      · rw [if_neg h0, if_neg (by omega), if_neg (by omega), if_neg (by omega), Int.add_zero]
        exact wrapI (by omega) (by omega)
theorem putH {S : Nat → Int} {m : Nat} {k : Int} (hk : 0 ≤ k) (hS : okIn S 1048576 m = true) {j : Nat} (hj : j < m) : addF S (oneS k) j = if j = k.toNat then IntKind.i64.wrap (S k.toNat + 1) else S j := by
  have hb := okIn_at hS hj
  unfold addF oneS
  by_cases h0 : j = k.toNat
  · rw [if_pos h0, if_pos (by omega), h0]
  · rw [if_neg h0, if_neg (by omega), Int.add_zero]
    exact wrapI (by omega) (by omega)
theorem putR_f : FnOk Try.prog 9 Try.f9 := ⟨Try.func9, by kernel_rfl⟩
theorem putR_a (w h : Int) (n : Nat) (L : Nat → Int) (m : Nat) (S : Nat → Int) (x y l0 l1 l2 : Int) : ACalls Try.prog 9 [.agg [.int .i64 w, .int .i64 h, ints .i64 n L, ints .i64 m S], .int .i64 x, .int .i64 y, .agg [.int .i64 l0, .int .i64 l1, .int .i64 l2]] (.tup [.agg [.int .i64 (ifz (putE w h n L m S x y l0 l1 l2) w), .int .i64 (ifz (putE w h n L m S x y l0 l1 l2) h), ints .i64 (ifn (putE w h n L m S x y l0 l1 l2) n) (addF L (oneL (y * w + x) l0 l1 l2)), ints .i64 (ifn (putE w h n L m S x y l0 l1 l2) m) (addF S (oneS (y * w + x)))], .int .i64 (putE w h n L m S x y l0 l1 l2)]) := by
  refine acalls_of (inl := hasI (P := Try.prog) [] []) (base [mayFR_k] [] []) 0 putR_f (And.intro (by kernel_rfl) ?_)
  repeat' (first | refine And.intro ?_ ?_ | refine num_lit 0 (by decide) ?_ | refine num_lit 1 (by decide) ?_ | refine num_lit 2 (by decide) ?_ | refine num_lit 3 (by decide) ?_ | refine num_lit 4 (by decide) ?_ | refine num_lit 5 (by decide) ?_ | refine num_lit 6 (by decide) ?_ | refine num_lit 7 (by decide) ?_ | refine num_lit 8 (by decide) ?_ | refine num_elim ?_ | (with_reducible exact ff_elim) | (with_reducible exact tf_elim) | (intro h; exact absurd h (by decide)) | intro _ | (with_reducible rfl) | refine Or.inl ⟨4, ?_⟩ | refine tell ?_ | exact True.intro | (refine IsT.of ?_; kernel_rfl))
  all_goals (try refine Tell.mk ?_)
  all_goals first | with_reducible rfl | with_reducible exact isI_mk | with_reducible assumption | (with_reducible refine gb_t ?_; with_reducible assumption) | (with_reducible refine gb_f ?_; with_reducible assumption) | ((with_reducible refine lk_t ?_); rfl) | ((with_reducible refine okF_t ?_); kernel_rfl) | ((with_reducible refine ks_t ?_); rfl) | ((with_reducible refine pk_t ?_); rfl) | skip
  all_goals (try dsimp only at *)
  all_goals (try simp only [decide_eq_true_eq, decide_eq_false_iff_not, Bool.or_eq_true, Bool.or_eq_false_iff, Bool.and_eq_true, Bool.and_eq_false_iff, Bool.not_eq_true', Bool.not_eq_false', bne_iff_ne, ne_eq, beq_iff_eq, bne_eq_false_iff_eq, beq_eq_false_iff_ne, Int.not_lt, Int.not_le, gt_iff_lt, ge_iff_le] at *)
  all_goals (try simp only [mulN1, Nat.add_zero, Nat.zero_add, Nat.mul_one, Int.toNat_natCast, avInt_int, intF_mk, Tab.s3, Tab.b3, lenN_none, lenN_some, offA_none, offA_some, catI_zero] at *)
  all_goals first | with_reducible rfl | with_reducible exact nums_N | omega | ((with_reducible refine by_le 1 rfl ?_); omega) | ((with_reducible refine by_le 8 rfl ?_); omega) | (rw [wrapI (by omega) (by omega)] <;> omega) | skip
  all_goals first | grind [putE, ifz, ifn, inL] | skip
  all_goals have hf : filmE w h n L m S = 0 := by with_reducible assumption
  all_goals obtain ⟨hs, hn, hm, hL, hS⟩ := filmE_ok hf
  all_goals have hp := place_bd (x := x) (y := y) hs (by omega) (by omega) (by omega) (by omega)
  all_goals (have hy := hs.wh; have z4 : IntKind.i64.wrap (y * w) = y * w := wrapI (by omega) (by omega); have z5 : IntKind.i64.wrap (y * w + x) = y * w + x := wrapI (by omega) (by omega); have z6 : IntKind.i64.wrap (3 * (y * w + x)) = 3 * (y * w + x) := wrapI (by omega) (by omega); have z7 : IntKind.i64.wrap (3 * (y * w + x) + 2) = 3 * (y * w + x) + 2 := wrapI (by omega) (by omega); have z8 : IntKind.i64.wrap (3 * (y * w + x) + 1) = 3 * (y * w + x) + 1 := wrapI (by omega) (by omega))
  all_goals (have hk0 : 0 ≤ y * w + x := by omega)
  all_goals have hx : 0 ≤ x ∧ 0 ≤ y ∧ x < w ∧ y < h := by omega
  all_goals simp only [z4, z5, z6, z7, z8, Int.add_zero] at *
  all_goals first | omega | exact congrArg (AV.int .i64) (putG hk0 hL (by first | assumption | exact ifn_lt (by assumption))) | exact congrArg (AV.int .i64) (putH hk0 hS (by first | assumption | exact ifn_lt (by assumption))) | skip
  all_goals (have hl : inL l0 ∧ inL l1 ∧ inL l2 := by (unfold inL; omega))
  all_goals clear hf
  all_goals first | (rw [putE_0 (by assumption) hx hl (Eq.trans (filmE_congr (fun j hj => putG hk0 hL hj) (fun j hj => putH hk0 hS hj)) (by with_reducible assumption))] <;> grind [ifz, ifn]) | (rw [putE_4 (by assumption) hx hl (fun hc => (by with_reducible assumption : ¬ _) (Eq.trans (filmE_congr (fun j hj => putG hk0 hL hj) (fun j hj => putH hk0 hS hj)).symm hc))] <;> grind [ifz, ifn])
def putR_r (w h : Int) (n : Nat) (L : Nat → Int) (m : Nat) (S : Nat → Int) (x y l0 l1 l2 : Int) : AV := .tup [.agg [.int .i64 (ifz (putE w h n L m S x y l0 l1 l2) w), .int .i64 (ifz (putE w h n L m S x y l0 l1 l2) h), ints .i64 (ifn (putE w h n L m S x y l0 l1 l2) n) (addF L (oneL (y * w + x) l0 l1 l2)), ints .i64 (ifn (putE w h n L m S x y l0 l1 l2) m) (addF S (oneS (y * w + x)))], .int .i64 (putE w h n L m S x y l0 l1 l2)]
def putR_k : Con Try.prog := ⟨9, fun args => match args with | [.agg [.int .i64 w, .int .i64 h, .sl n 1 g_L, .sl m 1 g_S], .int .i64 x, .int .i64 y, .agg [.int .i64 l0, .int .i64 l1, .int .i64 l2]] => .ok (some (IsI .i64 g_L ∧ IsI .i64 g_S)) (putR_r w h n (intF g_L) m (intF g_S) x y l0 l1 l2) | _ => .no, by
  intro args p r h hp
  split at h
  · cases h; obtain ⟨h_L, h_S⟩ := hp; have e_L := h_L.eq; have e_S := h_S.eq; rw [e_L, e_S]; exact putR_a _ _ _ _ _ _ _ _ _ _ _
  · cases h⟩
end Go.Proofs.Ytoaghdmhapcgiaa
