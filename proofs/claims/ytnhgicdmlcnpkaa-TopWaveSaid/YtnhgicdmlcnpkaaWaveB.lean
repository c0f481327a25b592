/- Waves: the program's recursion. -/
import Derived.Test.YtnhgicdmlcnpkaaWaveA
namespace Go.Proofs.Ytnhgicdmlcnpkaa
open Go.RowKit Ev
set_option linter.unusedVariables false
set_option linter.unusedSimpArgs false
set_option maxRecDepth 20000
set_option maxHeartbeats 4000000

@[reducible] def cpF (X : Nat → Nat × Nat) : Nat → AV := fun j => .cpx (X j).1 (X j).2
def reA : AV → Nat
  | .cpx a _ => a
  | _ => 0
def imA : AV → Nat
  | .cpx _ b => b
  | _ => 0
@[reducible] def gX (g : Nat → AV) : Nat → Nat × Nat := fun j => (reA (g j), imA (g j))
def rtB (b : Bool) (m : Nat) : Nat × Nat := bif b then ((rtA m).1, Fneg (rtA m).2) else rtA m
/-- Powers, one multiplied by one. -/
def pwC (w : Nat × Nat) : Nat → Nat × Nat
  | 0 => (4607182418800017408, 0)
  | k + 1 => (cm1 (pwC w k).1 (pwC w k).2 w.1 w.2, cm2 (pwC w k).1 (pwC w k).2 w.1 w.2)
/-- What comes out of even and odd places. -/
def lowC (w : Nat × Nat) (E O : Nat → Nat × Nat) (k : Nat) : Nat × Nat :=
  (F .add (E k).1 (cm1 (pwC w k).1 (pwC w k).2 (O k).1 (O k).2), F .add (E k).2 (cm2 (pwC w k).1 (pwC w k).2 (O k).1 (O k).2))
def highC (w : Nat × Nat) (E O : Nat → Nat × Nat) (k : Nat) : Nat × Nat :=
  (F .sub (E k).1 (cm1 (pwC w k).1 (pwC w k).2 (O k).1 (O k).2), F .sub (E k).2 (cm2 (pwC w k).1 (pwC w k).2 (O k).1 (O k).2))
def wv (b : Bool) : Nat → (Nat → Nat × Nat) → Nat → Nat × Nat
  | 0, X => X
  | m + 1, X => fun k => if k < 2 ^ m then lowC (rtB b (m + 1)) (wv b m fun j => X (2 * j)) (wv b m fun j => X (2 * j + 1)) k else highC (rtB b (m + 1)) (wv b m fun j => X (2 * j)) (wv b m fun j => X (2 * j + 1)) (k - 2 ^ m)
def wvN (b : Bool) (n : Int) (X : Nat → Nat × Nat) : Nat → Nat × Nat := wv b (lg n) X
def wavesIH (N : Nat) (ih : ∀ (n : Nat) (b : Bool) (X : Nat → Nat × Nat), n < N → Pw n → MCalls Try.prog 13 [.sl n 1 (cpF X), .bool b] [] (.os 0 1 0 n) [.arr n (cpF (wvN b n X))]) : MCon Try.prog :=
  ⟨13, fun args own => match args with | [.sl n 1 g, .bool b] => .ok [] [.sl n 1 (cpF (gX g)), .bool b] [] (some (n < N ∧ Pw n)) (.os 0 1 0 n) [.arr n (cpF (wvN b n (gX g)))] | _ => .no, by
  intro args own ks cargs rows p r rows2 h hp
  split at h
  · cases h; exact ih _ _ _ hp.1 hp.2
  · cases h⟩
theorem no_true {x y : Int} (h : (x == y) = true) (h1 : ¬ x = y) : False := h1 (eq_of_beq h)
theorem wavesS1_f : FnOk Try.prog 13 Try.f13 := ⟨Try.func13, by kernel_rfl⟩
theorem wavesS1_a (X : Nat → Nat × Nat) (b : Bool) : MCalls Try.prog 13 ([.sl 1 1 (cpF X), .bool b]) [] (.os 0 1 0 1) [.arr 1 (cpF X)] := by
  refine mcallsF_of (inl := hasI (P := Try.prog) [] []) (base [] [] []) 0 wavesS1_f (And.intro (by kernel_rfl) ?_)
  repeat' (first | refine And.intro ?_ ?_ | (with_reducible exact ff_elim) | (with_reducible exact tf_elim) | refine' rho_mk [_] ?_ | refine num_lit 0 (by decide) ?_ | refine num_lit 1 (by decide) ?_ | refine num_lit 2 (by decide) ?_ | refine num_lit 3 (by decide) ?_ | refine num_lit 4 (by decide) ?_ | refine num_lit 5 (by decide) ?_ | refine num_lit 6 (by decide) ?_ | refine num_lit 7 (by decide) ?_ | refine num_lit 8 (by decide) ?_ | (intro h; exact absurd h (by decide)) | refine num_elim ?_ | intro _ | (with_reducible rfl) | ((with_reducible refine lk_t ?_); exact rfl) | ((with_reducible refine pf_t ?_); exact rfl) | refine tell ?_ | exact True.intro | (refine IsT.of ?_; kernel_rfl))
  all_goals (try refine Tell.mk ?_)
  all_goals first | with_reducible rfl | with_reducible exact isI_mk | with_reducible assumption | (with_reducible refine gb_t ?_; with_reducible assumption) | (with_reducible refine gb_f ?_; with_reducible assumption) | ((with_reducible refine lk_t ?_); rfl) | ((with_reducible refine okF_t ?_); kernel_rfl) | ((with_reducible refine ks_t ?_); rfl) | ((with_reducible refine pk_t ?_); rfl) | ((with_reducible refine pf_t ?_); rfl) | skip
  all_goals (try dsimp only at *)
  all_goals (try simp only [decide_eq_true_eq, decide_eq_false_iff_not, Bool.or_eq_true, Bool.or_eq_false_iff, Bool.and_eq_true, Bool.and_eq_false_iff, Bool.not_eq_true', Bool.not_eq_false', bne_iff_ne, ne_eq, beq_iff_eq, bne_eq_false_iff_eq, beq_eq_false_iff_ne, Int.not_lt, Int.not_le, gt_iff_lt, ge_iff_le] at *)
  all_goals (try simp only [mulN1, Nat.add_zero, Nat.zero_add, Nat.mul_one, Int.toNat_natCast, avInt_int] at *)
  all_goals first | with_reducible rfl | with_reducible exact nums_N | omega | ((with_reducible refine by_le 1 rfl ?_); omega) | ((with_reducible refine by_le 8 rfl ?_); omega) | (rw [wrapI (by omega) (by omega)] <;> omega) | skip
  all_goals first | rfl | decide | exact Nat.le_refl 1 | (obtain rfl : _ = 0 := Nat.lt_one_iff.1 (by assumption); rfl)
def outC (b : Bool) (N : Nat) (E O : Nat → Nat × Nat) (k : Nat) : Nat → Nat × Nat := fun j => if j < k then lowC (rtB b (lg N)) E O j else if N / 2 ≤ j ∧ j < N / 2 + k then highC (rtB b (lg N)) E O (j - N / 2) else (0, 0)
theorem tm2 (i : Nat) : (i : Int).tmod 2 = ((i % 2 : Nat) : Int) := (Int.ofNat_tmod i 2).symm
theorem td2 (i : Nat) : (i : Int).tdiv 2 = ((i / 2 : Nat) : Int) := (Int.ofNat_tdiv i 2).symm
theorem cat1 {X Y : Nat → Nat × Nat} {n j i : Nat} (h : j < n + 1) (hv : X i = Y n) : cpF Y j = catA n (cpF Y) (fun j => [AV.cpx (X i).1 (X i).2].getD j .any) j := by
  unfold catA
  by_cases g : j < n
  · rw [if_pos g]
  · obtain rfl : j = n := by omega
    rw [if_neg g, Nat.sub_self]
    show cpF Y j = AV.cpx (X i).1 (X i).2
    rw [hv]
theorem one_le (v : AV) : 1 * 1 ≤ [v].length := Nat.le_refl 1
theorem out_0 {b : Bool} {N : Nat} {E O : Nat → Nat × Nat} {j : Nat} : cpF (outC b N E O 0) j = ofV0 (.complex .f64 0 0) := by
  have e : ofV0 (.complex .f64 0 0) = .cpx 0 0 := rfl
  rw [e]
  unfold cpF outC
  rw [if_neg (by omega), if_neg (by omega)]
theorem out_s {b : Bool} {N : Nat} {E O : Nat → Nat × Nat} {k j a c : Nat} {v1 v2 : AV} (hN : 2 * (N / 2) = N) (hk : k < N / 2) (ha : a = N / 2 + k) (hc : c = k)
    (h1 : v1 = .cpx (highC (rtB b (lg N)) E O k).1 (highC (rtB b (lg N)) E O k).2) (h2 : v2 = .cpx (lowC (rtB b (lg N)) E O k).1 (lowC (rtB b (lg N)) E O k).2) :
    cpF (outC b N E O (k + 1)) j = if j = a then v1 else if j = c then v2 else cpF (outC b N E O k) j := by
  subst ha hc h1 h2
  unfold cpF outC
  by_cases e1 : j = N / 2 + c
  · subst e1
    rw [if_neg (by omega), if_pos (by omega), if_pos rfl, show N / 2 + c - N / 2 = c by omega]
  · rw [if_neg e1]
    by_cases e2 : j = c
    · subst e2
      rw [if_pos (by omega), if_pos rfl]
    · rw [if_neg e2]
      by_cases e3 : j < c
      · rw [if_pos (by omega), if_pos e3]
      · rw [if_neg (by omega), if_neg e3]
        by_cases e4 : N / 2 ≤ j ∧ j < N / 2 + c
        · rw [if_pos (by omega), if_pos e4]
        · rw [if_neg (by omega), if_neg e4]
theorem lg_pow {n : Int} (h : Pw n) : n = ((2 ^ lg n : Nat) : Int) := by
  rcases h.cases with ⟨rfl, e⟩ | ⟨rfl, e⟩ | ⟨rfl, e⟩ | ⟨rfl, e⟩ | ⟨rfl, e⟩ | ⟨rfl, e⟩ | ⟨rfl, e⟩ <;> rw [e] <;> decide
theorem wv_end {b : Bool} {N i k j : Nat} {X : Nat → Nat × Nat} (hN : Pw N) (h1 : ¬ (N : Int) = 1) (hi : i ≤ N) (hi' : (N : Int) ≤ i) (hk : k ≤ N / 2) (hk' : (((i + 1) / 2 : Nat) : Int) ≤ k) (hj : j < N) :
    cpF (wvN b N X) j = cpF (outC b N (wvN b ((i + 1) / 2 : Nat) fun j => X (2 * j)) (wvN b (i / 2 : Nat) fun j => X (2 * j + 1)) k) j := by
  obtain ⟨hP, hl, h2⟩ := hN.half h1
  obtain rfl : i = N := by omega
  have ek : k = i / 2 := by omega
  have ei : (((i + 1) / 2 : Nat) : Int) = (i : Int) / 2 := by omega
  have ei' : ((i / 2 : Nat) : Int) = (i : Int) / 2 := by omega
  have hp := lg_pow hP
  have hpn : i / 2 = 2 ^ lg ((i : Int) / 2) := by omega
  rw [ei, ei', ek]
  unfold cpF
  have e : wvN b i X j = outC b i (wvN b ((i : Int) / 2) fun j => X (2 * j)) (wvN b ((i : Int) / 2) fun j => X (2 * j + 1)) (i / 2) j := by
    unfold wvN outC
    rw [hl]
    show (if j < 2 ^ lg ((i : Int) / 2) then lowC (rtB b (lg ((i : Int) / 2) + 1)) (wv b (lg ((i : Int) / 2)) fun j => X (2 * j)) (wv b (lg ((i : Int) / 2)) fun j => X (2 * j + 1)) j
      else highC (rtB b (lg ((i : Int) / 2) + 1)) (wv b (lg ((i : Int) / 2)) fun j => X (2 * j)) (wv b (lg ((i : Int) / 2)) fun j => X (2 * j + 1)) (j - 2 ^ lg ((i : Int) / 2))) = _
    rw [← hpn]
    by_cases g : j < i / 2
    · rw [if_pos g, if_pos g]
    · rw [if_neg g, if_neg g, if_pos (by omega)]
  rw [e]
theorem Pw.to {n m : Int} (h : Pw n) (e : m = n) : Pw m := e ▸ h
theorem wavesT_f : FnOk Try.prog 13 Try.f13 := ⟨Try.func13, by kernel_rfl⟩
theorem wavesT_a (N : Nat) (X : Nat → Nat × Nat) (ih : ∀ (n : Nat) (b : Bool) (X : Nat → Nat × Nat), n < N → Pw n → MCalls Try.prog 13 [.sl n 1 (cpF X), .bool b] [] (.os 0 1 0 n) [.arr n (cpF (wvN b n X))]) (hN : Pw N) (h1 : ¬ (N : Int) = 1) : MCalls Try.prog 13 ([.sl N 1 (cpF X), .bool true]) [] (.os 0 1 0 N) [.arr N (cpF (wvN true N X))] := by
  refine mcallsF_of (inl := hasI (P := Try.prog) [] [(wavesIH N ih)]) (base [root_k, timesC_k] [] [(wavesIH N ih)]) 0 wavesT_f (And.intro (by kernel_rfl) ?_)
  repeat' (first | refine And.intro ?_ ?_ | (with_reducible exact ff_elim) | (with_reducible exact tf_elim) | refine' rho_mk [_] ?_ | (intro h; exact (no_true h h1).elim) | refine num_elim ?_ | intro _ | (with_reducible rfl) | ((with_reducible refine lk_t ?_); exact rfl) | ((with_reducible refine pf_t ?_); exact rfl) | refine tell ?_ | exact True.intro | (refine IsT.of ?_; kernel_rfl))
  all_goals (try (refine loop_keep [1, 5, 23, 24] [] ?_; refine LoopI.mk ({i : Nat // i ≤ N}) (fun i => [(25, .int .i64 i.1), (6, .os 1 1 0 ((i.1 + 1) / 2)), (7, .os 2 1 0 (i.1 / 2))]) (fun i => [(1, .arr ((i.1 + 1) / 2) (cpF fun j => X (2 * j))), (2, .arr (i.1 / 2) (cpF fun j => X (2 * j + 1)))]) (fun i => N - i.1) (⟨0, Nat.zero_le _⟩) (wk_mk [none, none] ?_) (fun ⟨i, hi⟩ => ?_)))
  repeat' (first | refine And.intro ?_ ?_ | (with_reducible exact ff_elim) | (with_reducible exact tf_elim) | refine' stp_mk [some _, some _] (⟨i + 1, ?_⟩) ?_ ?_ | (intro h; exact (no_true h h1).elim) | refine' rho_mk [_] ?_ | refine num_elim ?_ | intro _ | (with_reducible rfl) | ((with_reducible refine lk_t ?_); exact rfl) | ((with_reducible refine pf_t ?_); exact rfl) | refine tell ?_ | exact True.intro | (refine IsT.of ?_; kernel_rfl))
  all_goals (try (refine loop_keep [5, 6, 7, 10, 12, 60] [14, 17] ?_; refine LoopI.mk ({k : Nat // k ≤ N / 2}) (fun k => [(61, .int .i64 k.1), (11, .cpx (pwC (rtB true (lg N)) k.1).1 (pwC (rtB true (lg N)) k.1).2)]) (fun k => [(33, .arr N (cpF (outC true N (wvN true ((i + 1) / 2 : Nat) fun j => X (2 * j)) (wvN true (i / 2 : Nat) fun j => X (2 * j + 1)) k.1)))]) (fun k => N / 2 - k.1) (⟨0, Nat.zero_le _⟩) (wk_mk [some 33, some 14, some 17] ?_) (fun ⟨k, hk⟩ => ?_)))
  repeat' (first | refine And.intro ?_ ?_ | (with_reducible exact ff_elim) | (with_reducible exact tf_elim) | refine stp_mk [some 33, some 14, some 17] (⟨k + 1, ?_⟩) ?_ ?_ | refine' rho_mk [_] ?_ | refine num_elim ?_ | intro _ | (with_reducible rfl) | ((with_reducible refine lk_t ?_); exact rfl) | ((with_reducible refine pf_t ?_); exact rfl) | refine tell ?_ | exact True.intro | (refine IsT.of ?_; kernel_rfl))
  all_goals (try refine Tell.mk ?_)
  all_goals first | with_reducible rfl | with_reducible exact isI_mk | with_reducible assumption | (with_reducible refine gb_t ?_; with_reducible assumption) | (with_reducible refine gb_f ?_; with_reducible assumption) | ((with_reducible refine lk_t ?_); rfl) | ((with_reducible refine okF_t ?_); kernel_rfl) | ((with_reducible refine ks_t ?_); rfl) | ((with_reducible refine pk_t ?_); rfl) | ((with_reducible refine pf_t ?_); rfl) | skip
  all_goals (try dsimp only at *)
  all_goals (try simp only [decide_eq_true_eq, decide_eq_false_iff_not, Bool.or_eq_true, Bool.or_eq_false_iff, Bool.and_eq_true, Bool.and_eq_false_iff, Bool.not_eq_true', Bool.not_eq_false', bne_iff_ne, ne_eq, beq_iff_eq, bne_eq_false_iff_eq, beq_eq_false_iff_ne, Int.not_lt, Int.not_le, gt_iff_lt, ge_iff_le] at *)
  all_goals (try simp only [mulN1, Nat.add_zero, Nat.zero_add, Nat.mul_one, Int.toNat_natCast, avInt_int] at *)
  all_goals first | with_reducible rfl | with_reducible exact nums_N | omega | ((with_reducible refine by_le 1 rfl ?_); omega) | ((with_reducible refine by_le 8 rfl ?_); omega) | (rw [wrapI (by omega) (by omega)] <;> omega) | skip
  all_goals (have hw := hN.wide; obtain ⟨hP, hl, h2⟩ := hN.half h1; have s1 : (Tab.cx.ti 29).size = 1 := rfl; have b1 : (Tab.cx.ti 29).bytes = 16 := rfl)
  all_goals (try simp only [s1, b1, mulN1, tm2, td2, Nat.mul_one] at *)
  all_goals first | omega | rfl | exact one_le _ | exact out_0 | (refine Pw.to hP ?_; omega) | (refine cat1 (by omega) (congrArg X (by omega))) | exact wv_end hN h1 hi (by with_reducible assumption) hk (by with_reducible assumption) (by with_reducible assumption) | (rw [wrapI (by omega) (by omega)]; omega) | skip
  all_goals (have e1 : IntKind.i64.wrap ((N / 2 : Nat) : Int) = ((N / 2 : Nat) : Int) := wrapI (by omega) (by omega))
  all_goals (have e2 : IntKind.i64.wrap ((k : Int) + ((N / 2 : Nat) : Int)) = ((N / 2 + k : Nat) : Int) := (by rw [wrapI (by omega) (by omega)]; omega))
  all_goals (try simp only [e1, e2, Int.toNat_natCast] at *)
  all_goals first | omega | (refine out_s (by omega) (by omega) rfl rfl rfl rfl)
theorem wavesF_f : FnOk Try.prog 13 Try.f13 := ⟨Try.func13, by kernel_rfl⟩
theorem wavesF_a (N : Nat) (X : Nat → Nat × Nat) (ih : ∀ (n : Nat) (b : Bool) (X : Nat → Nat × Nat), n < N → Pw n → MCalls Try.prog 13 [.sl n 1 (cpF X), .bool b] [] (.os 0 1 0 n) [.arr n (cpF (wvN b n X))]) (hN : Pw N) (h1 : ¬ (N : Int) = 1) : MCalls Try.prog 13 ([.sl N 1 (cpF X), .bool false]) [] (.os 0 1 0 N) [.arr N (cpF (wvN false N X))] := by
  refine mcallsF_of (inl := hasI (P := Try.prog) [] [(wavesIH N ih)]) (base [root_k, timesC_k] [] [(wavesIH N ih)]) 0 wavesF_f (And.intro (by kernel_rfl) ?_)
  repeat' (first | refine And.intro ?_ ?_ | (with_reducible exact ff_elim) | (with_reducible exact tf_elim) | refine' rho_mk [_] ?_ | (intro h; exact (no_true h h1).elim) | refine num_elim ?_ | intro _ | (with_reducible rfl) | ((with_reducible refine lk_t ?_); exact rfl) | ((with_reducible refine pf_t ?_); exact rfl) | refine tell ?_ | exact True.intro | (refine IsT.of ?_; kernel_rfl))
  all_goals (try (refine loop_keep [1, 5, 23, 24] [] ?_; refine LoopI.mk ({i : Nat // i ≤ N}) (fun i => [(25, .int .i64 i.1), (6, .os 1 1 0 ((i.1 + 1) / 2)), (7, .os 2 1 0 (i.1 / 2))]) (fun i => [(1, .arr ((i.1 + 1) / 2) (cpF fun j => X (2 * j))), (2, .arr (i.1 / 2) (cpF fun j => X (2 * j + 1)))]) (fun i => N - i.1) (⟨0, Nat.zero_le _⟩) (wk_mk [none, none] ?_) (fun ⟨i, hi⟩ => ?_)))
  repeat' (first | refine And.intro ?_ ?_ | (with_reducible exact ff_elim) | (with_reducible exact tf_elim) | refine' stp_mk [some _, some _] (⟨i + 1, ?_⟩) ?_ ?_ | (intro h; exact (no_true h h1).elim) | refine' rho_mk [_] ?_ | refine num_elim ?_ | intro _ | (with_reducible rfl) | ((with_reducible refine lk_t ?_); exact rfl) | ((with_reducible refine pf_t ?_); exact rfl) | refine tell ?_ | exact True.intro | (refine IsT.of ?_; kernel_rfl))
  all_goals (try (refine loop_keep [5, 6, 7, 10, 12, 60] [14, 17] ?_; refine LoopI.mk ({k : Nat // k ≤ N / 2}) (fun k => [(61, .int .i64 k.1), (11, .cpx (pwC (rtB false (lg N)) k.1).1 (pwC (rtB false (lg N)) k.1).2)]) (fun k => [(26, .arr N (cpF (outC false N (wvN false ((i + 1) / 2 : Nat) fun j => X (2 * j)) (wvN false (i / 2 : Nat) fun j => X (2 * j + 1)) k.1)))]) (fun k => N / 2 - k.1) (⟨0, Nat.zero_le _⟩) (wk_mk [some 26, some 14, some 17] ?_) (fun ⟨k, hk⟩ => ?_)))
  repeat' (first | refine And.intro ?_ ?_ | (with_reducible exact ff_elim) | (with_reducible exact tf_elim) | refine stp_mk [some 26, some 14, some 17] (⟨k + 1, ?_⟩) ?_ ?_ | refine' rho_mk [_] ?_ | refine num_elim ?_ | intro _ | (with_reducible rfl) | ((with_reducible refine lk_t ?_); exact rfl) | ((with_reducible refine pf_t ?_); exact rfl) | refine tell ?_ | exact True.intro | (refine IsT.of ?_; kernel_rfl))
  all_goals (try refine Tell.mk ?_)
  all_goals first | with_reducible rfl | with_reducible exact isI_mk | with_reducible assumption | (with_reducible refine gb_t ?_; with_reducible assumption) | (with_reducible refine gb_f ?_; with_reducible assumption) | ((with_reducible refine lk_t ?_); rfl) | ((with_reducible refine okF_t ?_); kernel_rfl) | ((with_reducible refine ks_t ?_); rfl) | ((with_reducible refine pk_t ?_); rfl) | ((with_reducible refine pf_t ?_); rfl) | skip
  all_goals (try dsimp only at *)
  all_goals (try simp only [decide_eq_true_eq, decide_eq_false_iff_not, Bool.or_eq_true, Bool.or_eq_false_iff, Bool.and_eq_true, Bool.and_eq_false_iff, Bool.not_eq_true', Bool.not_eq_false', bne_iff_ne, ne_eq, beq_iff_eq, bne_eq_false_iff_eq, beq_eq_false_iff_ne, Int.not_lt, Int.not_le, gt_iff_lt, ge_iff_le] at *)
  all_goals (try simp only [mulN1, Nat.add_zero, Nat.zero_add, Nat.mul_one, Int.toNat_natCast, avInt_int] at *)
  all_goals first | with_reducible rfl | with_reducible exact nums_N | omega | ((with_reducible refine by_le 1 rfl ?_); omega) | ((with_reducible refine by_le 8 rfl ?_); omega) | (rw [wrapI (by omega) (by omega)] <;> omega) | skip
  all_goals (have hw := hN.wide; obtain ⟨hP, hl, h2⟩ := hN.half h1; have s1 : (Tab.cx.ti 29).size = 1 := rfl; have b1 : (Tab.cx.ti 29).bytes = 16 := rfl)
  all_goals (try simp only [s1, b1, mulN1, tm2, td2, Nat.mul_one] at *)
  all_goals first | omega | rfl | exact one_le _ | exact out_0 | (refine Pw.to hP ?_; omega) | (refine cat1 (by omega) (congrArg X (by omega))) | exact wv_end hN h1 hi (by with_reducible assumption) hk (by with_reducible assumption) (by with_reducible assumption) | (rw [wrapI (by omega) (by omega)]; omega) | skip
  all_goals (have e1 : IntKind.i64.wrap ((N / 2 : Nat) : Int) = ((N / 2 : Nat) : Int) := wrapI (by omega) (by omega))
  all_goals (have e2 : IntKind.i64.wrap ((k : Int) + ((N / 2 : Nat) : Int)) = ((N / 2 + k : Nat) : Int) := (by rw [wrapI (by omega) (by omega)]; omega))
  all_goals (try simp only [e1, e2, Int.toNat_natCast] at *)
  all_goals first | omega | (refine out_s (by omega) (by omega) rfl rfl rfl rfl)
theorem waves_i : ∀ (k n : Nat), n = k → Pw n → ∀ (b : Bool) (X : Nat → Nat × Nat), MCalls Try.prog 13 [.sl n 1 (cpF X), .bool b] [] (.os 0 1 0 n) [.arr n (cpF (wvN b n X))] := by
  intro k
  induction k using Nat.strongRecOn with
  | _ k ih =>
    intro n hk hn b X
    have ih' : ∀ (m : Nat) (b : Bool) (X : Nat → Nat × Nat), m < n → Pw m → MCalls Try.prog 13 [.sl m 1 (cpF X), .bool b] [] (.os 0 1 0 m) [.arr m (cpF (wvN b m X))] := fun m b X hm hp => ih m (by omega) m rfl hp b X
    by_cases h1 : (n : Int) = 1
    · obtain rfl : n = 1 := by omega
      exact wavesS1_a X b
    · cases b with
      | true => exact wavesT_a n X ih' hn h1
      | false => exact wavesF_a n X ih' hn h1
def waves_m : MCon Try.prog :=
  ⟨13, fun args own => match args with | [.sl n 1 g, .bool b] => .ok [] [.sl n 1 (cpF (gX g)), .bool b] [] (some (Pw n)) (.os 0 1 0 n) [.arr n (cpF (wvN b n (gX g)))] | _ => .no, by
  intro args own ks cargs rows p r rows2 h hp
  split at h
  · cases h; exact waves_i _ _ rfl hp _ _
  · cases h⟩
end Go.Proofs.Ytnhgicdmlcnpkaa
