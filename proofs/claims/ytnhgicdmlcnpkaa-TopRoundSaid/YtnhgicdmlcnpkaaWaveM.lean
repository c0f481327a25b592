/- What is spread by waves is what is spread number by number. -/
import Derived.Test.YtnhgicdmlcnpkaaWaveL
import Derived.Test.YtnhgicdmlcnpkaaMade
namespace Go.Proofs.Ytnhgicdmlcnpkaa
open Go.RowKit Ev
set_option linter.unusedVariables false
set_option linter.unusedSimpArgs false
set_option maxRecDepth 20000
set_option maxHeartbeats 4000000

structure UpTo (n : Nat) where
  v : Nat
  le : v ≤ n
structure UpJ (n : Nat) where
  v : Nat
  le : v ≤ n
def rowF (n : Nat) (F : Nat → Int) (j : Nat) : Int := pickF (rawF n F j) 256
@[irreducible] def convP (n : Nat) (A B : Nat → Int) (i j : Nat) : Int := sumZ j fun j => A j * B ((i + n - j) % n)
theorem roundM_f : FnOk Try.prog 6 Try.f6 := ⟨Try.func6, by kernel_rfl⟩
theorem roundM_a (n m : Nat) (A B : Nat → Int) (hpre : roundE n m A B = 0) : MCalls Try.prog 6 ([.os 0 1 0 n, .os 1 1 0 m]) [.nums .i64 n A, .nums .i64 m B] (.tup [.os 2 1 0 n, .int .i64 0]) [.nums .i64 n A, .nums .i64 m B, .nums .i64 n (rndV n A B)] := by
  refine mcallsF_of (inl := hasI (P := Try.prog) [] [waves_m]) (base [timesC_k, floorC_k] [] [waves_m]) 0 roundM_f (And.intro (by kernel_rfl) ?_)
  have hrr := round_ok hpre
  have he5 : ¬ roundE n m A B = 5 := by omega
  have he6 : ¬ roundE n m A B = 6 := by omega
  obtain ⟨hk1, hk2, hk3⟩ := roundE_ok hpre
  have hk4 := pwB_le hk2
  repeat' (first | refine And.intro ?_ ?_ | (with_reducible exact ff_elim) | (with_reducible exact tf_elim) | refine' rho_mk [_] ?_ | refine num_elim ?_ | intro _ | (with_reducible rfl) | ((with_reducible refine lk_t ?_); exact rfl) | ((with_reducible refine pf_t ?_); exact rfl) | refine tell ?_ | exact True.intro | (refine IsT.of ?_; kernel_rfl))
  all_goals (try (refine loop_keep [0, 1, 6, 36] [0, 1] ?_; refine LoopI.mk ({i : Nat // i ≤ n ∧ ∀ k, k < i → okI A B k = true}) (fun i => [(37, .int .i64 i.1), (7, .os 3 1 0 i.1), (8, .os 4 1 0 i.1)]) (fun i => [(3, .arr i.1 (cpF (inC A))), (4, .arr i.1 (cpF (inC B)))]) (fun i => n - i.1) (⟨0, Nat.zero_le _, fun k hk => (by omega)⟩) (wk_mk [none, none, none, none] ?_) (fun ⟨i, hi, ho⟩ => ?_)))
  repeat' (first | refine And.intro ?_ ?_ | (with_reducible exact ff_elim) | (with_reducible exact tf_elim) | refine' stp_mk [some _, some _, none, none] (⟨i + 1, ?_, ?_⟩) ?_ ?_ | refine' rho_mk [_] ?_ | refine num_elim ?_ | intro _ | (with_reducible rfl) | ((with_reducible refine lk_t ?_); exact rfl) | ((with_reducible refine pf_t ?_); exact rfl) | refine tell ?_ | exact True.intro | (refine IsT.of ?_; kernel_rfl))
  all_goals (try (refine loop_keep [6, 7, 8, 89, 90] [34, 0, 1] ?_; refine LoopI.mk ({j : Nat // j ≤ n}) (fun j => [(91, .int .i64 j.1)]) (fun j => [(32, .arr n (cpF (mixC (prdC n A B) (wvN false n (inC A)) j.1)))]) (fun j => n - j.1) (⟨0, Nat.zero_le _⟩) (wk_mk [some 32, some 34, none, none] ?_) (fun ⟨j, hj⟩ => ?_)))
  repeat' (first | refine And.intro ?_ ?_ | (with_reducible exact ff_elim) | (with_reducible exact tf_elim) | refine stp_mk [some 32, some 34, none, none] (⟨j + 1, ?_⟩) ?_ ?_ | refine' rho_mk [_] ?_ | refine num_elim ?_ | intro _ | (with_reducible rfl) | ((with_reducible refine lk_t ?_); exact rfl) | ((with_reducible refine pf_t ?_); exact rfl) | refine tell ?_ | exact True.intro | (refine IsT.of ?_; kernel_rfl))
  all_goals (try (refine loop_keep [6, 107, 108] [43, 0, 1] ?_; refine LoopI.mk ({l : Nat // l ≤ n}) (fun l => [(109, .int .i64 l.1), (12, .os 3 1 0 l.1)]) (fun l => [(3, .nums .i64 l.1 (rndV n A B))]) (fun l => n - l.1) (⟨0, Nat.zero_le _⟩) (wk_mk [none, some 43, none, none] ?_) (fun ⟨l, hl⟩ => ?_)))
  repeat' (first | refine And.intro ?_ ?_ | (with_reducible exact ff_elim) | (with_reducible exact tf_elim) | refine' stp_mk [some _, some 43, none, none] (⟨l + 1, ?_⟩) ?_ ?_ | refine' rho_mk [_] ?_ | refine num_elim ?_ | intro _ | (with_reducible rfl) | ((with_reducible refine lk_t ?_); exact rfl) | ((with_reducible refine pf_t ?_); exact rfl) | refine tell ?_ | exact True.intro | (refine IsT.of ?_; kernel_rfl))
  all_goals (try exact (2 : Nat))
  all_goals (try refine Tell.mk ?_)
  all_goals first | with_reducible rfl | with_reducible exact isI_mk | with_reducible assumption | (with_reducible refine gb_t ?_; with_reducible assumption) | (with_reducible refine gb_f ?_; with_reducible assumption) | ((with_reducible refine lk_t ?_); rfl) | ((with_reducible refine okF_t ?_); kernel_rfl) | ((with_reducible refine ks_t ?_); rfl) | ((with_reducible refine pk_t ?_); rfl) | ((with_reducible refine pf_t ?_); rfl) | skip
  all_goals (try dsimp only at *)
  all_goals (try simp only [decide_eq_true_eq, decide_eq_false_iff_not, Bool.or_eq_true, Bool.or_eq_false_iff, Bool.and_eq_true, Bool.and_eq_false_iff, Bool.not_eq_true', Bool.not_eq_false', bne_iff_ne, ne_eq, beq_iff_eq, bne_eq_false_iff_eq, beq_eq_false_iff_ne, Int.not_lt, Int.not_le, gt_iff_lt, ge_iff_le] at *)
  all_goals (try simp only [mulN1, Nat.add_zero, Nat.zero_add, Nat.mul_one, Int.toNat_natCast, avInt_int, intF_mk] at *)
  all_goals first | with_reducible rfl | with_reducible exact nums_N | omega | ((with_reducible refine by_le 1 rfl ?_); omega) | ((with_reducible refine by_le 8 rfl ?_); omega) | (rw [wrapI (by omega) (by omega)] <;> omega) | skip
  all_goals first | exact absurd (roundE_5 (by assumption)) he5 | skip
  all_goals (have s1 : (Tab.cx.ti 29).size = 1 := rfl)
  all_goals (have b1 : (Tab.cx.ti 29).bytes = 16 := rfl)
  all_goals (try simp only [s1, b1, Nat.mul_one, gX_cp] at *)
  all_goals first | omega | rfl | exact one_le _ | (refine cat1 (by omega) rfl) | exact okI_s ho (by assumption) (by assumption) | skip
  all_goals first | exact absurd (roundE_6 (by omega) hk2 (by assumption) (by assumption)) he6 | skip
  all_goals (have hP := pwB_iff.1 hk2)
  all_goals (obtain rfl : i = n := (by omega))
  all_goals first | exact hP | (unfold cpF; rw [mix_0]) | (refine mix_s (prd_v ?_); rfl) | skip
  all_goals (have hmx := wvN_mix (b := true) (P := prdC i A B) (W := wvN false i (inC A)) (i := i) (j := j) hP (Int.le_refl _) (Nat.le_refl _) (by assumption) (l := l) (by omega); try simp only [hmx])
  all_goals first | exact hrr.num l (by omega) | exact hrr.fit l (by omega) | exact catI_s (by assumption) rfl
def roundM_p (n m : Nat) (A B : Nat → Int) : Prop := roundE n m A B = 0
def roundM_r (n m : Nat) (A B : Nat → Int) : AV := .tup [.os 2 1 0 n, .int .i64 0]
def roundM_rows (n m : Nat) (A B : Nat → Int) : List OB := [.nums .i64 n A, .nums .i64 m B]
def roundM_rows2 (n m : Nat) (A B : Nat → Int) : List OB := [.nums .i64 n A, .nums .i64 m B, .nums .i64 n (rndV n A B)]
def roundM_m : MCon Try.prog := ⟨6, fun args own => match args with | [.os k0_ 1 0 n, .os k1_ 1 0 m] => (match own k0_ with | .nums .i64 n_ A => (match own k1_ with | .nums .i64 m_ B => .ok [k0_, k1_] ([.os 0 1 0 n, .os 1 1 0 m]) (roundM_rows n m A B) (some (n_ = n ∧ m_ = m ∧ roundM_p n m A B)) (roundM_r n m A B) (roundM_rows2 n m A B) | _ => .no) | _ => .no) | _ => .no, by
  intro args own ks cargs rows p r rows2 h hp
  split at h
  · split at h
    · split at h
      · cases h; obtain ⟨rfl, rfl, hq⟩ := hp; exact roundM_a _ _ _ _ hq
      · cases h
    · cases h
  · cases h⟩
theorem rowF_bd (n : Nat) (F : Nat → Int) (j : Nat) : 0 ≤ rowF n F j ∧ rowF n F j ≤ 255 := by
  have := pickF_bd (rawF n F j) 256 (by omega)
  unfold rowF; omega
theorem row_ok (n m : Nat) (F G : Nat → Int) (j : Nat) : okI (rowF n F) (rowF m G) j = true := by
  have h1 := rowF_bd n F j
  have h2 := rowF_bd m G j
  unfold okI; rw [decide_eq_true_eq]; omega
theorem two_shl {c : Int} (h : 0 ≤ c ∧ c < 7) : ∃ N : Nat, 2 ^ c.toNat = N ∧ IntKind.i64.wrap (1 * 2 ^ min c.toNat IntKind.i64.bits) = (N : Int) ∧ pwB N = true ∧ 1 ≤ N ∧ N ≤ 64 := by
  have h' : c = 0 ∨ c = 1 ∨ c = 2 ∨ c = 3 ∨ c = 4 ∨ c = 5 ∨ c = 6 := by omega
  rcases h' with rfl | rfl | rfl | rfl | rfl | rfl | rfl <;> exact ⟨_, rfl, by decide, by decide, by decide, by decide⟩
theorem convP_0 {n : Nat} {A B : Nat → Int} {i : Nat} : convP n A B i 0 = 0 := by unfold convP; rfl
theorem convP_bd {n : Nat} {A B : Nat → Int} {i : Nat} (hA : ∀ j, 0 ≤ A j ∧ A j ≤ 255) (hB : ∀ j, 0 ≤ B j ∧ B j ≤ 255) : ∀ j : Nat, 0 ≤ convP n A B i j ∧ convP n A B i j ≤ 65025 * j
  | 0 => by rw [convP_0]; omega
  | j + 1 => by
    have ih := convP_bd (n := n) (i := i) hA hB j
    have e : convP n A B i (j + 1) = convP n A B i j + A j * B ((i + n - j) % n) := by unfold convP; rfl
    have p0 := Int.mul_nonneg (hA j).1 (hB ((i + n - j) % n)).1
    have p1 := Int.mul_le_mul (hA j).2 (hB ((i + n - j) % n)).2 (hB ((i + n - j) % n)).1 (show (0 : Int) ≤ 255 by decide)
    rw [e]; omega
theorem idx_ok {n l j : Nat} (hl : (l : Int) < n) (hj : (j : Int) < n) (hn : n ≤ 64) : (IntKind.i64.wrap (IntKind.i64.wrap ((l : Int) - j) + n)).tmod n = (((l + n - j) % n : Nat) : Int) ∧ (l + n - j) % n < n := by
  rw [wrapI (x := (l : Int) - j) (by omega) (by omega), wrapI (by omega) (by omega), show (l : Int) - j + n = ((l + n - j : Nat) : Int) by omega]
  exact ⟨(Int.ofNat_tmod _ _).symm, Nat.mod_lt _ (by omega)⟩
theorem convP_s {n l j : Nat} {A B : Nat → Int} (hA : ∀ j, 0 ≤ A j ∧ A j ≤ 255) (hB : ∀ j, 0 ≤ B j ∧ B j ≤ 255) (hn : n ≤ 64) (hj : (j : Int) < n) {x : Nat} (hx : x = (l + n - j) % n) :
    convP n A B l (j + 1) = IntKind.i64.wrap (convP n A B l j + IntKind.i64.wrap (A j * B x)) := by
  have e : convP n A B l (j + 1) = convP n A B l j + A j * B ((l + n - j) % n) := by unfold convP; rfl
  have b := convP_bd (n := n) (i := l) hA hB j
  have p0 := Int.mul_nonneg (hA j).1 (hB ((l + n - j) % n)).1
  have p1 := Int.mul_le_mul (hA j).2 (hB ((l + n - j) % n)).2 (hB ((l + n - j) % n)).1 (show (0 : Int) ≤ 255 by decide)
  rw [hx, e, wrapI (x := A j * B ((l + n - j) % n)) (by omega) (by omega), wrapI (by omega) (by omega)]
theorem conv_yes {n l j i : Nat} {A B : Nat → Int} (hi : i = n) (hp : pwB n = true) (ho : ∀ k, okI A B k = true) (hl : (l : Int) < n) (hj : j = n) : rndV i A B l = convP n A B l j := by
  subst hi hj
  rw [(rnd_all hp fun k _ => ho k).2 l (by omega)]
  unfold convP convI; rfl
theorem topRound_f : FnOk Try.prog 5 Try.f5 := ⟨Try.func5, by kernel_rfl⟩
theorem topRound_a (n : Nat) (F : Nat → Int) (m : Nat) (G : Nat → Int) (k : Int) (hpre : (∀ j, In64 (F j)) ∧ (∀ j, In64 (G j)) ∧ In64 k) : ACalls Try.prog 5 [ints .i64 n F, ints .i64 m G, .int .i64 k] (.bool true) := by
  refine acalls_len fun hlen => ?_
  simp only [lenV, len1, lenV0, len0, and_true, true_and] at hlen
  refine acalls_of (inl := hasI (P := Try.prog) [] [roundM_m]) (base [pick_k, raw_k] [] [roundM_m]) 0 topRound_f (And.intro (by kernel_rfl) ?_)
  repeat' (first | refine And.intro ?_ ?_ | (with_reducible exact ff_elim) | (with_reducible exact tf_elim) | refine num_elim ?_ | intro _ | (with_reducible rfl) | ((with_reducible refine lk_t ?_); exact rfl) | ((with_reducible refine pf_t ?_); exact rfl) | refine tell ?_ | exact True.intro | (refine IsT.of ?_; kernel_rfl))
  all_goals (try (refine loop_keep [0, 1, 7] [] ?_; refine LoopI.mk (UpTo (2 ^ (pickF k 7).toNat)) (fun i => [(10, .int .i64 i.1), (8, .os 1 1 0 i.1), (9, .os 2 1 0 i.1)]) (fun i => [(1, .nums .i64 i.1 (rowF n F)), (2, .nums .i64 i.1 (rowF m G))]) (fun i => 2 ^ (pickF k 7).toNat - i.1) (⟨0, Nat.zero_le _⟩) (wk_mk [none, none] ?_) (fun ⟨i, hi⟩ => ?_)))
  repeat' (first | refine And.intro ?_ ?_ | (with_reducible exact ff_elim) | (with_reducible exact tf_elim) | refine' stp_mk [some _, some _] ((⟨i + 1, ?_⟩ : UpTo (2 ^ (pickF k 7).toNat))) ?_ ?_ | refine num_elim ?_ | intro _ | (with_reducible rfl) | ((with_reducible refine lk_t ?_); exact rfl) | ((with_reducible refine pf_t ?_); exact rfl) | refine tell ?_ | exact True.intro | (refine IsT.of ?_; kernel_rfl))
  all_goals (try (refine loop_keep [7, 8, 9, 11] [1, 2, 19] ?_; refine LoopI.mk (UpTo (2 ^ (pickF k 7).toNat)) (fun l => [(13, .int .i64 l.1)]) (fun l => []) (fun l => 2 ^ (pickF k 7).toNat - l.1) (⟨0, Nat.zero_le _⟩) (wk_mk [some 1, some 2, some 19] ?_) (fun ⟨l, hl⟩ => ?_)))
  repeat' (first | refine And.intro ?_ ?_ | (with_reducible exact ff_elim) | (with_reducible exact tf_elim) | refine stp_mk [some 1, some 2, some 19] ((⟨l + 1, ?_⟩ : UpTo (2 ^ (pickF k 7).toNat))) ?_ ?_ | refine num_elim ?_ | intro _ | (with_reducible rfl) | ((with_reducible refine lk_t ?_); exact rfl) | ((with_reducible refine pf_t ?_); exact rfl) | refine tell ?_ | exact True.intro | (refine IsT.of ?_; kernel_rfl))
  all_goals (try (refine loop_keep [7, 8, 9, 11, 13] [1, 2, 19] ?_; refine LoopI.mk (UpJ (2 ^ (pickF k 7).toNat)) (fun j => [(15, .int .i64 j.1), (14, .int .i64 (convP (2 ^ (pickF k 7).toNat) (rowF n F) (rowF m G) l j.1))]) (fun j => []) (fun j => 2 ^ (pickF k 7).toNat - j.1) (⟨0, Nat.zero_le _⟩) (wk_mk [some 1, some 2, some 19] ?_) (fun ⟨j, hj⟩ => ?_)))
  repeat' (first | refine And.intro ?_ ?_ | (with_reducible exact ff_elim) | (with_reducible exact tf_elim) | refine stp_mk [some 1, some 2, some 19] ((⟨j + 1, ?_⟩ : UpJ (2 ^ (pickF k 7).toNat))) ?_ ?_ | refine stp_mk [some 1, some 2, some 19] (⟨l + 1, ?_⟩ : UpTo (2 ^ (pickF k 7).toNat)) ?_ ?_ | refine num_elim ?_ | intro _ | (with_reducible rfl) | ((with_reducible refine lk_t ?_); exact rfl) | ((with_reducible refine pf_t ?_); exact rfl) | refine tell ?_ | exact True.intro | (refine IsT.of ?_; kernel_rfl))
  all_goals (try refine Tell.mk ?_)
  all_goals first | with_reducible rfl | with_reducible exact isI_mk | with_reducible assumption | (with_reducible refine gb_t ?_; with_reducible assumption) | (with_reducible refine gb_f ?_; with_reducible assumption) | ((with_reducible refine lk_t ?_); rfl) | ((with_reducible refine okF_t ?_); kernel_rfl) | ((with_reducible refine ks_t ?_); rfl) | ((with_reducible refine pk_t ?_); rfl) | ((with_reducible refine pf_t ?_); rfl) | skip
  all_goals (try dsimp only at *)
  all_goals (try simp only [decide_eq_true_eq, decide_eq_false_iff_not, Bool.or_eq_true, Bool.or_eq_false_iff, Bool.and_eq_true, Bool.and_eq_false_iff, Bool.not_eq_true', Bool.not_eq_false', bne_iff_ne, ne_eq, beq_iff_eq, bne_eq_false_iff_eq, beq_eq_false_iff_ne, Int.not_lt, Int.not_le, gt_iff_lt, ge_iff_le] at *)
  all_goals (try simp only [mulN1, Nat.add_zero, Nat.zero_add, Nat.mul_one, Int.toNat_natCast, avInt_int, intF_mk] at *)
  all_goals first | with_reducible rfl | with_reducible exact nums_N | omega | ((with_reducible refine by_le 1 rfl ?_); omega) | ((with_reducible refine by_le 8 rfl ?_); omega) | (rw [wrapI (by omega) (by omega)] <;> omega) | skip
  all_goals obtain ⟨N, e1, e2, hN, hN1, hN2⟩ := two_shl (pickF_bd k 7 (by omega))
  all_goals (have sA := rowF_bd n F; have sB := rowF_bd m G; have sO := row_ok n m F G)
  all_goals obtain ⟨hF, hG, hK⟩ := hpre
  all_goals first | exact hK | exact (pickF_bd k 7 (by omega)).1 | exact rawF_in hF | exact rawF_in hG | (unfold raw_p; omega) | exact catI_s (by assumption) rfl | exact convP_0 | skip
  all_goals simp only [e1, e2] at *
  all_goals (have b1 : (Tab.cx.ti 3).bytes = 8 := rfl)
  all_goals (try simp only [b1] at *)
  all_goals first | omega | (rw [wrapI (by omega) (by omega)]; omega) | skip
  all_goals (obtain rfl : i = N := (by omega))
  all_goals first | exact roundE_0 (i := i) rfl hN (Int.le_refl _) (fun k _ => sO k) | (unfold posR; exact hN1) | (rename_i hc; exact absurd rfl (hc.resolve_left (fun h => h trivial))) | (rename_i hc; exact absurd (conv_yes rfl hN sO (by assumption) (by omega)) hc) | skip
  all_goals (have hx := idx_ok (n := i) (l := l) (j := j) (by assumption) (by assumption) hN2)
  all_goals first | (rw [hx.1]; omega) | (refine convP_s sA sB hN2 (by assumption) ?_; rw [hx.1]; omega)
def topRound_r (n : Nat) (F : Nat → Int) (m : Nat) (G : Nat → Int) (k : Int) : AV := .bool true
def topRound_p (n : Nat) (F : Nat → Int) (m : Nat) (G : Nat → Int) (k : Int) : Prop := (∀ j, In64 (F j)) ∧ (∀ j, In64 (G j)) ∧ In64 k
def topRound_k : Con Try.prog := ⟨5, fun args => match args with | [.sl n 1 g_F, .sl m 1 g_G, .int .i64 k] => .ok (some (IsI .i64 g_F ∧ IsI .i64 g_G ∧ topRound_p n (intF g_F) m (intF g_G) k)) (topRound_r n (intF g_F) m (intF g_G) k) | _ => .no, by
  intro args p r h hp
  split at h
  · cases h; obtain ⟨h_F, h_G, hp⟩ := hp; have e_F := h_F.eq; have e_G := h_G.eq; rw [e_F, e_G]; exact topRound_a _ _ _ _ _ hp
  · cases h⟩
end Go.Proofs.Ytnhgicdmlcnpkaa
