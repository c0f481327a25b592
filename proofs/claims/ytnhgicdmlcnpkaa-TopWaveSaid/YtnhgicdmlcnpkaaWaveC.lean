/- Waves: the document's recursion. -/
import Derived.Test.YtnhgicdmlcnpkaaWaveB
namespace Go.Proofs.Ytnhgicdmlcnpkaa
open Go.RowKit Ev
set_option linter.unusedVariables false
set_option linter.unusedSimpArgs false
set_option maxRecDepth 20000
set_option maxHeartbeats 4000000

/-- A row of which every so-manieth number is meant. -/
structure Sp (L : Nat) (f s : Int) : Prop where
  s1 : 1 ≤ s
  f0 : 0 ≤ f
  fs : f < s
  pw : Pw ((L : Int) / s)
  mul : (L : Int) = (L : Int) / s * s
  le : L ≤ 64
theorem Sp.two {L : Nat} {f s : Int} (h : Sp L f s) (h1 : ¬ (L : Int) / s = 1) : Sp L f (2 * s) ∧ Sp L (f + s) (2 * s) ∧ (L : Int) / (2 * s) = (L : Int) / s / 2 ∧ 2 * ((L : Int) / s / 2) = (L : Int) / s := by
  obtain ⟨q1, q2, q3⟩ := h.pw.half h1
  have e : (L : Int) / (2 * s) = (L : Int) / s / 2 := by
    have hs := h.s1
    obtain ⟨r, hr⟩ : ∃ r, r = (L : Int) / s := ⟨_, rfl⟩
    rw [← hr] at q3 ⊢
    have hm := h.mul
    rw [← hr, ← q3] at hm
    rw [hm, show 2 * (r / 2) * s = r / 2 * (2 * s) by rw [Int.mul_comm 2, Int.mul_assoc], Int.mul_ediv_cancel _ (by omega)]
  have m : (L : Int) = (L : Int) / (2 * s) * (2 * s) := by
    rw [e]
    have := h.mul
    have e2 : (L : Int) / s / 2 * (2 * s) = 2 * ((L : Int) / s / 2) * s := by rw [Int.mul_comm 2, ← Int.mul_assoc, Int.mul_assoc _ s, Int.mul_comm s 2, ← Int.mul_assoc, Int.mul_comm _ 2]
    rw [e2, q3]; exact this
  have a := h.s1
  have b := h.f0
  have c := h.fs
  exact ⟨⟨by omega, b, by omega, by rw [e]; exact q1, m, h.le⟩, ⟨by omega, by omega, by omega, by rw [e]; exact q1, m, h.le⟩, e, q3⟩
theorem Sp.wide {L : Nat} {f s : Int} (h : Sp L f s) : (1 ≤ (L : Int) / s ∧ (L : Int) / s ≤ 64) ∧ f < L ∧ s ≤ L ∧ L ≤ 64 := by
  have w := h.pw.wide
  have m := h.mul
  have a := h.s1
  have c := h.fs
  have := Int.mul_le_mul_of_nonneg_right w.1 (show 0 ≤ s by omega)
  have := h.le
  omega
def strX (X : Nat → Nat × Nat) (f s : Int) : Nat → Nat × Nat := fun j => X (f + s * j).toNat
theorem strX_0 {X : Nat → Nat × Nat} {f s : Int} : (fun j => strX X f s (2 * j)) = strX X f (2 * s) := by
  funext j; unfold strX; congr 2
  have : ((2 * j : Nat) : Int) = 2 * (j : Int) := by omega
  rw [this, ← Int.mul_assoc, Int.mul_comm s 2]
theorem strX_1 {X : Nat → Nat × Nat} {f s : Int} : (fun j => strX X f s (2 * j + 1)) = strX X (f + s) (2 * s) := by
  funext j; unfold strX; congr 2
  have : ((2 * j + 1 : Nat) : Int) = 2 * (j : Int) + 1 := by omega
  rw [this, Int.mul_add, Int.mul_one, ← Int.mul_assoc, Int.mul_comm s 2]; omega
def wrIH (N : Nat) (ih : ∀ (L : Nat) (f s : Int) (b : Bool) (X : Nat → Nat × Nat), ((L : Int) / s).toNat < N → Sp L f s → ACalls Try.prog 16 [.sl L 1 (cpF X), .int .i64 f, .int .i64 s, .bool b] (.sl ((L : Int) / s).toNat 1 (cpF (wvN b ((L : Int) / s) (strX X f s))))) : Con Try.prog :=
  ⟨16, fun args => match args with | [.sl L 1 g, .int .i64 f, .int .i64 s, .bool b] => .ok (some (g = cpF (gX g) ∧ ((L : Int) / s).toNat < N ∧ Sp L f s)) (.sl ((L : Int) / s).toNat 1 (cpF (wvN b ((L : Int) / s) (strX (gX g) f s)))) | _ => .no, by
  intro args p r h hp
  split at h
  · cases h
    obtain ⟨hg, h1, h2⟩ := hp
    rw [hg]
    exact ih _ _ _ _ _ h1 h2
  · cases h⟩
theorem tdiv_one {L : Nat} {f s : Int} (h1 : (L : Int) / s = 1) (h : Sp L f s) : IntKind.i64.wrap ((L : Int).tdiv s) = 1 := by
  rw [Int.tdiv_eq_ediv_of_nonneg (by omega), h1]; rfl
theorem no_eq {x y : Int} (h : (x == y) = false) (h1 : x = y) : False := by rw [h1, beq_self_eq_true] at h; cases h
theorem str_1 {X : Nat → Nat × Nat} {f s : Int} {j : Nat} (h : j < 1) (hf : 0 ≤ f) : cpF (strX X f s) j = [AV.cpx (X f.toNat).1 (X f.toNat).2].getD j .any := by
  obtain rfl : j = 0 := by omega
  show AV.cpx (strX X f s 0).1 (strX X f s 0).2 = AV.cpx (X f.toNat).1 (X f.toNat).2
  unfold strX
  rw [show f + s * ((0 : Nat) : Int) = f by simp]
theorem tdiv_n {L : Nat} {f s : Int} (h : Sp L f s) : IntKind.i64.wrap ((L : Int).tdiv s) = (L : Int) / s := by
  have := h.wide
  rw [Int.tdiv_eq_ediv_of_nonneg (by omega)]; exact wrapI (by omega) (by omega)
theorem wavesR1_f : FnOk Try.prog 16 Try.f16 := ⟨Try.func16, by kernel_rfl⟩
theorem wavesR1_a (L : Nat) (X : Nat → Nat × Nat) (f s : Int) (b : Bool) (hs : Sp L f s) (h1 : (L : Int) / s = 1) : ACalls Try.prog 16 [.sl L 1 (cpF X), .int .i64 f, .int .i64 s, .bool b] (.sl 1 1 (cpF (strX X f s))) := by
  refine acalls_of (inl := hasI (P := Try.prog) [] []) (base [] [] []) 0 wavesR1_f (And.intro (by kernel_rfl) ?_)
  repeat' (first | refine And.intro ?_ ?_ | (with_reducible exact ff_elim) | (with_reducible exact tf_elim) | (intro h; exact (no_eq h (tdiv_one h1 hs)).elim) | refine num_elim ?_ | intro _ | (with_reducible rfl) | ((with_reducible refine lk_t ?_); exact rfl) | ((with_reducible refine pf_t ?_); exact rfl) | refine tell ?_ | exact True.intro | (refine IsT.of ?_; kernel_rfl))
  all_goals (try refine Tell.mk ?_)
  all_goals first | with_reducible rfl | with_reducible exact isI_mk | with_reducible assumption | (with_reducible refine gb_t ?_; with_reducible assumption) | (with_reducible refine gb_f ?_; with_reducible assumption) | ((with_reducible refine lk_t ?_); rfl) | ((with_reducible refine okF_t ?_); kernel_rfl) | ((with_reducible refine ks_t ?_); rfl) | ((with_reducible refine pk_t ?_); rfl) | ((with_reducible refine pf_t ?_); rfl) | skip
  all_goals (try dsimp only at *)
  all_goals (try simp only [decide_eq_true_eq, decide_eq_false_iff_not, Bool.or_eq_true, Bool.or_eq_false_iff, Bool.and_eq_true, Bool.and_eq_false_iff, Bool.not_eq_true', Bool.not_eq_false', bne_iff_ne, ne_eq, beq_iff_eq, bne_eq_false_iff_eq, beq_eq_false_iff_ne, Int.not_lt, Int.not_le, gt_iff_lt, ge_iff_le] at *)
  all_goals (try simp only [mulN1, Nat.add_zero, Nat.zero_add, Nat.mul_one, Int.toNat_natCast, avInt_int] at *)
  all_goals first | with_reducible rfl | with_reducible exact nums_N | omega | ((with_reducible refine by_le 1 rfl ?_); omega) | ((with_reducible refine by_le 8 rfl ?_); omega) | (rw [wrapI (by omega) (by omega)] <;> omega) | skip
  all_goals (have hw := hs.wide; have a1 := hs.s1; have a2 := hs.f0; have s1 : (Tab.cx.ti 29).size = 1 := rfl)
  all_goals (try simp only [s1] at *)
  all_goals first | omega | exact one_le _ | rfl | exact str_1 (by assumption) a2
theorem gX_cp (X : Nat → Nat × Nat) : gX (cpF X) = X := rfl
theorem wr_end {b : Bool} {N k j : Nat} {X : Nat → Nat × Nat} {f s : Int} (hP : Pw N) (h1 : ¬ (N : Int) = 1) (hk : k = N / 2) (hj : j < N) :
    cpF (wvN b N (strX X f s)) j = catA k (cpF (lowC (rtB b (lg N)) (wvN b (N / 2 : Nat) (strX X f (2 * s))) (wvN b (N / 2 : Nat) (strX X (f + s) (2 * s)))))
      (cpF (highC (rtB b (lg N)) (wvN b (N / 2 : Nat) (strX X f (2 * s))) (wvN b (N / 2 : Nat) (strX X (f + s) (2 * s))))) j := by
  subst hk
  obtain ⟨hP', hl, h2⟩ := hP.half h1
  have ei : ((N / 2 : Nat) : Int) = (N : Int) / 2 := by omega
  have hp := lg_pow hP'
  have hpn : N / 2 = 2 ^ lg ((N : Int) / 2) := by omega
  rw [ei]
  have e : wvN b N (strX X f s) j = if j < N / 2 then lowC (rtB b (lg N)) (wvN b ((N : Int) / 2) (strX X f (2 * s))) (wvN b ((N : Int) / 2) (strX X (f + s) (2 * s))) j else highC (rtB b (lg N)) (wvN b ((N : Int) / 2) (strX X f (2 * s))) (wvN b ((N : Int) / 2) (strX X (f + s) (2 * s))) (j - N / 2) := by
    unfold wvN
    rw [hl, ← strX_0, ← strX_1]
    show (if j < 2 ^ lg ((N : Int) / 2) then lowC (rtB b (lg ((N : Int) / 2) + 1)) (wv b (lg ((N : Int) / 2)) fun j => strX X f s (2 * j)) (wv b (lg ((N : Int) / 2)) fun j => strX X f s (2 * j + 1)) j
      else highC (rtB b (lg ((N : Int) / 2) + 1)) (wv b (lg ((N : Int) / 2)) fun j => strX X f s (2 * j)) (wv b (lg ((N : Int) / 2)) fun j => strX X f s (2 * j + 1)) (j - 2 ^ lg ((N : Int) / 2))) = _
    rw [← hpn]
  unfold catA
  by_cases g : j < N / 2
  · rw [if_pos g]; unfold cpF; rw [e, if_pos g]
  · rw [if_neg g]; unfold cpF; rw [e, if_neg g]
theorem wavesR2_f : FnOk Try.prog 16 Try.f16 := ⟨Try.func16, by kernel_rfl⟩
theorem wavesR2_a (N : Nat) (L : Nat) (X : Nat → Nat × Nat) (f s : Int) (b : Bool) (ih : ∀ (L : Nat) (f s : Int) (b : Bool) (X : Nat → Nat × Nat), ((L : Int) / s).toNat < N → Sp L f s → ACalls Try.prog 16 [.sl L 1 (cpF X), .int .i64 f, .int .i64 s, .bool b] (.sl ((L : Int) / s).toNat 1 (cpF (wvN b ((L : Int) / s) (strX X f s))))) (hs : Sp L f s) (h1 : ¬ (L : Int) / s = 1) (hN : ((L : Int) / s).toNat = N) : ACalls Try.prog 16 [.sl L 1 (cpF X), .int .i64 f, .int .i64 s, .bool b] (.sl N 1 (cpF (wvN b ((L : Int) / s) (strX X f s)))) := by
  refine acalls_of (inl := hasI (P := Try.prog) [] []) (base [(wrIH N ih), rootR_k, product_k] [] []) 0 wavesR2_f (And.intro (by kernel_rfl) ?_)
  repeat' (first | refine And.intro ?_ ?_ | (with_reducible exact ff_elim) | (with_reducible exact tf_elim) | (intro h; exact (no_true h (by rw [tdiv_n hs]; exact h1)).elim) | refine num_elim ?_ | intro _ | (with_reducible rfl) | ((with_reducible refine lk_t ?_); exact rfl) | ((with_reducible refine pf_t ?_); exact rfl) | refine tell ?_ | exact True.intro | (refine IsT.of ?_; kernel_rfl))
  all_goals (try (refine loop_keep [9, 10, 11, 12] [] ?_; refine LoopI.mk ({k : Nat // k ≤ N / 2}) (fun k => [(16, .int .i64 k.1), (13, .os 1 1 0 k.1), (14, .os 2 1 0 k.1), (15, .cpx (pwC (rtB b (lg N)) k.1).1 (pwC (rtB b (lg N)) k.1).2)]) (fun k => [(1, .arr k.1 (cpF (lowC (rtB b (lg N)) (wvN b ((L : Int) / (2 * s)) (strX X f (2 * s))) (wvN b ((L : Int) / (2 * s)) (strX X (f + s) (2 * s)))))), (2, .arr k.1 (cpF (highC (rtB b (lg N)) (wvN b ((L : Int) / (2 * s)) (strX X f (2 * s))) (wvN b ((L : Int) / (2 * s)) (strX X (f + s) (2 * s))))))]) (fun k => N / 2 - k.1) (⟨0, Nat.zero_le _⟩) (wk_mk [none, none] ?_) (fun ⟨k, hk⟩ => ?_)))
  repeat' (first | refine And.intro ?_ ?_ | (with_reducible exact ff_elim) | (with_reducible exact tf_elim) | refine' stp_mk [some _, some _] (⟨k + 1, ?_⟩) ?_ ?_ | refine num_elim ?_ | intro _ | (with_reducible rfl) | ((with_reducible refine lk_t ?_); exact rfl) | ((with_reducible refine pf_t ?_); exact rfl) | refine tell ?_ | exact True.intro | (refine IsT.of ?_; kernel_rfl))
  all_goals (try refine Tell.mk ?_)
  all_goals first | with_reducible rfl | with_reducible exact isI_mk | with_reducible assumption | (with_reducible refine gb_t ?_; with_reducible assumption) | (with_reducible refine gb_f ?_; with_reducible assumption) | ((with_reducible refine lk_t ?_); rfl) | ((with_reducible refine okF_t ?_); kernel_rfl) | ((with_reducible refine ks_t ?_); rfl) | ((with_reducible refine pk_t ?_); rfl) | ((with_reducible refine pf_t ?_); rfl) | skip
  all_goals (try dsimp only at *)
  all_goals (try simp only [decide_eq_true_eq, decide_eq_false_iff_not, Bool.or_eq_true, Bool.or_eq_false_iff, Bool.and_eq_true, Bool.and_eq_false_iff, Bool.not_eq_true', Bool.not_eq_false', bne_iff_ne, ne_eq, beq_iff_eq, bne_eq_false_iff_eq, beq_eq_false_iff_ne, Int.not_lt, Int.not_le, gt_iff_lt, ge_iff_le] at *)
  all_goals (try simp only [mulN1, Nat.add_zero, Nat.zero_add, Nat.mul_one, Int.toNat_natCast, avInt_int] at *)
  all_goals first | with_reducible rfl | with_reducible exact nums_N | omega | ((with_reducible refine by_le 1 rfl ?_); omega) | ((with_reducible refine by_le 8 rfl ?_); omega) | (rw [wrapI (by omega) (by omega)] <;> omega) | skip
  all_goals (have hw := hs.wide; have a1 := hs.s1; have a2 := hs.f0; have a3 := hs.fs; obtain ⟨t1, t2, t3, t4⟩ := hs.two h1; have s1 : (Tab.cx.ti 29).size = 1 := rfl; have b1 : (Tab.cx.ti 29).bytes = 16 := rfl)
  all_goals (have eN : (L : Int) / s = (N : Int) := by omega)
  all_goals (have hP : Pw N := eN ▸ hs.pw)
  all_goals (have e1 : IntKind.i64.wrap (2 * s) = 2 * s := wrapI (by omega) (by omega))
  all_goals (have e2 : IntKind.i64.wrap (f + s) = f + s := wrapI (by omega) (by omega))
  all_goals (have e3 : IntKind.i64.wrap ((L : Int).tdiv s) = (N : Int) := (tdiv_n hs).trans eN)
  all_goals (have e4 : (L : Int) / (2 * s) = ((N / 2 : Nat) : Int) := by omega)
  all_goals (have e5 : IntKind.i64.wrap ((N : Int).tdiv 2) = ((N / 2 : Nat) : Int) := (by rw [td2]; exact wrapI (by omega) (by omega)))
  all_goals first | exact t1 | exact t2 | skip
  all_goals simp only [e1, e2, e3, eN, e4, e5, gX_cp, s1, b1, Nat.mul_one, Int.toNat_natCast] at *
  all_goals first | omega | rfl | exact one_le _ | exact t1 | exact t2 | exact ⟨hP, h1⟩ | (refine cat1 (by omega) rfl) | (rw [wrapI (by omega) (by omega)]; omega) | exact wr_end hP h1 (by omega) (by assumption) | (cases b <;> first | rfl | cases (by assumption : _ = _)) | skip
theorem wavesR_i : ∀ (k L : Nat) (f s : Int), ((L : Int) / s).toNat = k → Sp L f s → ∀ (b : Bool) (X : Nat → Nat × Nat), ACalls Try.prog 16 [.sl L 1 (cpF X), .int .i64 f, .int .i64 s, .bool b] (.sl ((L : Int) / s).toNat 1 (cpF (wvN b ((L : Int) / s) (strX X f s)))) := by
  intro k
  induction k using Nat.strongRecOn with
  | _ k ih =>
    intro L f s hk hs b X
    by_cases h1 : (L : Int) / s = 1
    · have := wavesR1_a L X f s b hs h1
      rw [h1]
      exact this
    · have := wavesR2_a k L X f s b (fun L f s b X hm hs => ih _ (by omega) L f s rfl hs b X) hs h1 hk
      rw [hk]
      exact this
def wavesR_k : Con Try.prog :=
  ⟨16, fun args => match args with | [.sl L 1 g, .int .i64 f, .int .i64 s, .bool b] => .ok (some (g = cpF (gX g) ∧ Sp L f s)) (.sl ((L : Int) / s).toNat 1 (cpF (wvN b ((L : Int) / s) (strX (gX g) f s)))) | _ => .no, by
  intro args p r h hp
  split at h
  · cases h
    obtain ⟨hg, h1⟩ := hp
    rw [hg]
    exact wavesR_i _ _ _ _ rfl h1 _ _
  · cases h⟩
end Go.Proofs.Ytnhgicdmlcnpkaa
