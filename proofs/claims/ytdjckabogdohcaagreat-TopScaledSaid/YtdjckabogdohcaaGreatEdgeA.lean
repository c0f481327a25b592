/- Greatest axes of directions. -/
import Derived.Test.YtdjckabogdohcaaGreatSame
namespace Go.Proofs.YtdjckabogdohcaaGreat
open Go.RowKit Ev
set_option linter.unusedVariables false
set_option linter.unusedSimpArgs false
set_option maxRecDepth 20000
set_option maxHeartbeats 4000000

def absF (x : Nat) : Nat := cn (x % 9223372036854775808)
def deepV (d e f : Nat) : Int := bif fgt (absF e) (absF d) then (bif fgt (absF f) (absF e) then 2 else 1) else (bif fgt (absF f) (absF d) then 2 else 0)
theorem deepV_or (d e f : Nat) : deepV d e f = 0 ∨ deepV d e f = 1 ∨ deepV d e f = 2 := by
  unfold deepV; cases fgt (absF e) (absF d) <;> cases fgt (absF f) (absF e) <;> cases fgt (absF f) (absF d) <;> simp
theorem axis0_f : FnOk Tryz.prog 78 Tryz.f78 := ⟨Tryz.func78, by kernel_rfl⟩
theorem axis0_a (a b c : Nat) : ACalls Tryz.prog 78 [.agg [.flt a, .flt b, .flt c], .int .i64 0] (.flt a) := by
  refine acalls_of (inl := hasI (P := Tryz.prog) [] []) (base [] [] []) 0 axis0_f (And.intro (by kernel_rfl) ?_)
  repeat' (first | refine And.intro ?_ ?_ | (with_reducible exact ff_elim) | (with_reducible exact tf_elim) | intro _ | (with_reducible rfl) | ((with_reducible refine lk_t ?_); exact rfl) | ((with_reducible refine pf_t ?_); exact rfl) | refine tell ?_ | exact True.intro | (refine IsT.of ?_; kernel_rfl))
  all_goals ((try refine Tell.mk ?_); first | with_reducible rfl | ((show (_ : Int) ≤ _); decide) | ((show (_ : Int) < _); decide) | (with_reducible refine gb_t ?_; with_reducible assumption) | with_reducible assumption | (with_reducible refine gb_f ?_; with_reducible assumption) | (simp only [gb, *, cond_true, cond_false]; done) | ((with_reducible refine ks_t ?_); rfl) | ((with_reducible refine pk_t ?_); rfl) | ((with_reducible refine pf_t ?_); rfl) | ((with_reducible refine lk_t ?_); rfl) | ((with_reducible refine okF_t ?_); kernel_rfl) | grind [gb])
def axis0_k : Con Tryz.prog := ⟨78, fun args => match args with | [.agg [.flt a, .flt b, .flt c], .int .i64 0] => .ok (none) (.flt a) | _ => .no, by
  intro args p r h hp
  split at h
  · cases h; exact axis0_a _ _ _
  · cases h⟩
theorem axis1_f : FnOk Tryz.prog 78 Tryz.f78 := ⟨Tryz.func78, by kernel_rfl⟩
theorem axis1_a (a b c : Nat) : ACalls Tryz.prog 78 [.agg [.flt a, .flt b, .flt c], .int .i64 1] (.flt b) := by
  refine acalls_of (inl := hasI (P := Tryz.prog) [] []) (base [] [] []) 0 axis1_f (And.intro (by kernel_rfl) ?_)
  repeat' (first | refine And.intro ?_ ?_ | (with_reducible exact ff_elim) | (with_reducible exact tf_elim) | intro _ | (with_reducible rfl) | ((with_reducible refine lk_t ?_); exact rfl) | ((with_reducible refine pf_t ?_); exact rfl) | refine tell ?_ | exact True.intro | (refine IsT.of ?_; kernel_rfl))
  all_goals ((try refine Tell.mk ?_); first | with_reducible rfl | ((show (_ : Int) ≤ _); decide) | ((show (_ : Int) < _); decide) | (with_reducible refine gb_t ?_; with_reducible assumption) | with_reducible assumption | (with_reducible refine gb_f ?_; with_reducible assumption) | (simp only [gb, *, cond_true, cond_false]; done) | ((with_reducible refine ks_t ?_); rfl) | ((with_reducible refine pk_t ?_); rfl) | ((with_reducible refine pf_t ?_); rfl) | ((with_reducible refine lk_t ?_); rfl) | ((with_reducible refine okF_t ?_); kernel_rfl) | grind [gb])
def axis1_k : Con Tryz.prog := ⟨78, fun args => match args with | [.agg [.flt a, .flt b, .flt c], .int .i64 1] => .ok (none) (.flt b) | _ => .no, by
  intro args p r h hp
  split at h
  · cases h; exact axis1_a _ _ _
  · cases h⟩
theorem axis2_f : FnOk Tryz.prog 78 Tryz.f78 := ⟨Tryz.func78, by kernel_rfl⟩
theorem axis2_a (a b c : Nat) : ACalls Tryz.prog 78 [.agg [.flt a, .flt b, .flt c], .int .i64 2] (.flt c) := by
  refine acalls_of (inl := hasI (P := Tryz.prog) [] []) (base [] [] []) 0 axis2_f (And.intro (by kernel_rfl) ?_)
  repeat' (first | refine And.intro ?_ ?_ | (with_reducible exact ff_elim) | (with_reducible exact tf_elim) | intro _ | (with_reducible rfl) | ((with_reducible refine lk_t ?_); exact rfl) | ((with_reducible refine pf_t ?_); exact rfl) | refine tell ?_ | exact True.intro | (refine IsT.of ?_; kernel_rfl))
  all_goals ((try refine Tell.mk ?_); first | with_reducible rfl | ((show (_ : Int) ≤ _); decide) | ((show (_ : Int) < _); decide) | (with_reducible refine gb_t ?_; with_reducible assumption) | with_reducible assumption | (with_reducible refine gb_f ?_; with_reducible assumption) | (simp only [gb, *, cond_true, cond_false]; done) | ((with_reducible refine ks_t ?_); rfl) | ((with_reducible refine pk_t ?_); rfl) | ((with_reducible refine pf_t ?_); rfl) | ((with_reducible refine lk_t ?_); rfl) | ((with_reducible refine okF_t ?_); kernel_rfl) | grind [gb])
def axis2_k : Con Tryz.prog := ⟨78, fun args => match args with | [.agg [.flt a, .flt b, .flt c], .int .i64 2] => .ok (none) (.flt c) | _ => .no, by
  intro args p r h hp
  split at h
  · cases h; exact axis2_a _ _ _
  · cases h⟩
theorem axisS0_f : FnOk Tryz.prog 71 Tryz.f71 := ⟨Tryz.func71, by kernel_rfl⟩
theorem axisS0_a (a b c : Nat) : ACalls Tryz.prog 71 [.agg [.flt a, .flt b, .flt c], .int .i64 0] (.flt a) := by
  refine acalls_of (inl := hasI (P := Tryz.prog) [] []) (base [] [] []) 0 axisS0_f (And.intro (by kernel_rfl) ?_)
  repeat' (first | refine And.intro ?_ ?_ | (with_reducible exact ff_elim) | (with_reducible exact tf_elim) | intro _ | (with_reducible rfl) | ((with_reducible refine lk_t ?_); exact rfl) | ((with_reducible refine pf_t ?_); exact rfl) | refine tell ?_ | exact True.intro | (refine IsT.of ?_; kernel_rfl))
  all_goals ((try refine Tell.mk ?_); first | with_reducible rfl | ((show (_ : Int) ≤ _); decide) | ((show (_ : Int) < _); decide) | (with_reducible refine gb_t ?_; with_reducible assumption) | with_reducible assumption | (with_reducible refine gb_f ?_; with_reducible assumption) | (simp only [gb, *, cond_true, cond_false]; done) | ((with_reducible refine ks_t ?_); rfl) | ((with_reducible refine pk_t ?_); rfl) | ((with_reducible refine pf_t ?_); rfl) | ((with_reducible refine lk_t ?_); rfl) | ((with_reducible refine okF_t ?_); kernel_rfl) | grind [gb])
def axisS0_k : Con Tryz.prog := ⟨71, fun args => match args with | [.agg [.flt a, .flt b, .flt c], .int .i64 0] => .ok (none) (.flt a) | _ => .no, by
  intro args p r h hp
  split at h
  · cases h; exact axisS0_a _ _ _
  · cases h⟩
theorem axisS1_f : FnOk Tryz.prog 71 Tryz.f71 := ⟨Tryz.func71, by kernel_rfl⟩
theorem axisS1_a (a b c : Nat) : ACalls Tryz.prog 71 [.agg [.flt a, .flt b, .flt c], .int .i64 1] (.flt b) := by
  refine acalls_of (inl := hasI (P := Tryz.prog) [] []) (base [] [] []) 0 axisS1_f (And.intro (by kernel_rfl) ?_)
  repeat' (first | refine And.intro ?_ ?_ | (with_reducible exact ff_elim) | (with_reducible exact tf_elim) | intro _ | (with_reducible rfl) | ((with_reducible refine lk_t ?_); exact rfl) | ((with_reducible refine pf_t ?_); exact rfl) | refine tell ?_ | exact True.intro | (refine IsT.of ?_; kernel_rfl))
  all_goals ((try refine Tell.mk ?_); first | with_reducible rfl | ((show (_ : Int) ≤ _); decide) | ((show (_ : Int) < _); decide) | (with_reducible refine gb_t ?_; with_reducible assumption) | with_reducible assumption | (with_reducible refine gb_f ?_; with_reducible assumption) | (simp only [gb, *, cond_true, cond_false]; done) | ((with_reducible refine ks_t ?_); rfl) | ((with_reducible refine pk_t ?_); rfl) | ((with_reducible refine pf_t ?_); rfl) | ((with_reducible refine lk_t ?_); rfl) | ((with_reducible refine okF_t ?_); kernel_rfl) | grind [gb])
def axisS1_k : Con Tryz.prog := ⟨71, fun args => match args with | [.agg [.flt a, .flt b, .flt c], .int .i64 1] => .ok (none) (.flt b) | _ => .no, by
  intro args p r h hp
  split at h
  · cases h; exact axisS1_a _ _ _
  · cases h⟩
theorem axisS2_f : FnOk Tryz.prog 71 Tryz.f71 := ⟨Tryz.func71, by kernel_rfl⟩
theorem axisS2_a (a b c : Nat) : ACalls Tryz.prog 71 [.agg [.flt a, .flt b, .flt c], .int .i64 2] (.flt c) := by
  refine acalls_of (inl := hasI (P := Tryz.prog) [] []) (base [] [] []) 0 axisS2_f (And.intro (by kernel_rfl) ?_)
  repeat' (first | refine And.intro ?_ ?_ | (with_reducible exact ff_elim) | (with_reducible exact tf_elim) | intro _ | (with_reducible rfl) | ((with_reducible refine lk_t ?_); exact rfl) | ((with_reducible refine pf_t ?_); exact rfl) | refine tell ?_ | exact True.intro | (refine IsT.of ?_; kernel_rfl))
  all_goals ((try refine Tell.mk ?_); first | with_reducible rfl | ((show (_ : Int) ≤ _); decide) | ((show (_ : Int) < _); decide) | (with_reducible refine gb_t ?_; with_reducible assumption) | with_reducible assumption | (with_reducible refine gb_f ?_; with_reducible assumption) | (simp only [gb, *, cond_true, cond_false]; done) | ((with_reducible refine ks_t ?_); rfl) | ((with_reducible refine pk_t ?_); rfl) | ((with_reducible refine pf_t ?_); rfl) | ((with_reducible refine lk_t ?_); rfl) | ((with_reducible refine okF_t ?_); kernel_rfl) | grind [gb])
def axisS2_k : Con Tryz.prog := ⟨71, fun args => match args with | [.agg [.flt a, .flt b, .flt c], .int .i64 2] => .ok (none) (.flt c) | _ => .no, by
  intro args p r h hp
  split at h
  · cases h; exact axisS2_a _ _ _
  · cases h⟩
theorem find_bits : Extern.find Tryz.f86 = some Extern.MathFloatBits.float64bits := by kernel_rfl
theorem find_from : Extern.find Tryz.f85 = some Extern.MathFloatBits.float64frombits := by kernel_rfl
theorem callbits (x : Nat) (w : World) : (callFunc 86 #[.float .f64 x]).run Tryz.prog w = .ok (.value (.int .u64 x)) w := by
  rw [run_callFunc_extern Tryz.func86 (by kernel_rfl) (by kernel_rfl) (by kernel_rfl) find_bits]
  rfl
theorem callfrom (n : Int) (w : World) : (callFunc 85 #[.int .u64 n]).run Tryz.prog w = .ok (.value (.float .f64 n.toNat)) w := by
  rw [run_callFunc_extern Tryz.func85 (by kernel_rfl) (by kernel_rfl) (by kernel_rfl) find_from]
  rfl
theorem abs_bits (x : Nat) : (bits .andNot .u64 (x : Int) 9223372036854775808).toNat = x % 9223372036854775808 := by
  have h : (BitVec.ofInt 64 (x : Int) &&& ~~~(BitVec.ofInt 64 9223372036854775808)).toNat = x % 9223372036854775808 := by
    have e : (~~~(BitVec.ofInt 64 9223372036854775808)).toNat = 2 ^ 63 - 1 := by decide +kernel
    rw [BitVec.toNat_and, e, Nat.and_two_pow_sub_one_eq_mod, BitVec.ofInt_natCast, BitVec.toNat_ofNat]
    omega
  have e : bits .andNot .u64 (x : Int) 9223372036854775808 = IntKind.u64.wrap ((BitVec.ofInt 64 (x : Int) &&& ~~~(BitVec.ofInt 64 9223372036854775808)).toNat : Nat) := rfl
  rw [e, h]
  simp only [IntKind.wrap, IntKind.signed, IntKind.bits]
  simp
  omega
theorem abs_cn (x : Nat) : cn (x % 9223372036854775808) = absF (cn x) := by
  unfold absF
  have m : ∀ y : Nat, isN (y % 9223372036854775808) = isN y := fun y => isN_mod (by omega)
  by_cases h : isN x = true
  · have e : cn x = nanC := by unfold cn; rw [if_pos h]
    rw [e]
    unfold cn
    rw [if_pos (by rw [m]; exact h), if_pos (by rw [m]; exact isN_nanC)]
  · have e : cn x = x := by unfold cn; rw [if_neg h]
    rw [e]
theorem abs_any (x : Nat) (w : World) : Calls Tryz.prog 70 #[.float .f64 x] w fun e w' => ∃ y, e = .returned (.float .f64 y) ∧ cn y = absF (cn x) ∧ w' = w := by
  have hq := callbits
  have hf := callfrom
  go_enter Tryz.func70, Tryz.ntmps70
  go_wp2_with fail
  go_ret
  refine ⟨_, rfl, ?_, rfl⟩
  rw [abs_bits]
  exact abs_cn x
theorem abs_f : FnOk Tryz.prog 70 Tryz.f70 := ⟨Tryz.func70, by kernel_rfl⟩
theorem abs_a (x : Nat) : ACalls Tryz.prog 70 [.flt x] (.flt (absF x)) := by
  intro w Im vals hIm ht
  cases ht with
  | cons h t =>
    cases t
    obtain ⟨b, rfl, hb⟩ := h.inv_flt
    have e : (callFunc 70 [Value.float .f64 b].toArray).run Tryz.prog w = .ok (.enter 70 [Value.float .f64 b].toArray) w := by
      have hne : ¬ Tryz.f70.name = "runtime.NumGoroutine" := by simpa using abs_f.nm
      have hb : ∃ c, Tryz.f70.body = some c := ⟨_, rfl⟩
      obtain ⟨c, hb⟩ := hb
      simp [callFunc, abs_f.at_, hb, hne]
    rw [e]
    refine (abs_any b w).mono ?_
    rintro e w' ⟨y, rfl, hy, rfl⟩
    exact ⟨_, rfl, Below.refl _ _, .flt _ _ (by rw [hy, hb])⟩
def abs_k : Con Tryz.prog := ⟨70, fun args => match args with | [.flt x] => .ok none (.flt (absF x)) | _ => .no, by
  intro args p r h hp
  split at h
  · cases h; exact abs_a _
  · cases h⟩
theorem deep0_f : FnOk Tryz.prog 109 Tryz.f109 := ⟨Tryz.func109, by kernel_rfl⟩
theorem deep0_a (d e f : Nat) (hpre : deepV d e f = 0) : ACalls Tryz.prog 109 [.agg [.flt d, .flt e, .flt f]] (.int .i64 0) := by
  refine acalls_of (inl := hasI (P := Tryz.prog) [] []) (base [axis0_k, axis1_k, axis2_k, abs_k] [] []) 0 deep0_f (And.intro (by kernel_rfl) ?_)
  repeat' (first | refine And.intro ?_ ?_ | refine num_lit 0 (by decide) ?_ | refine num_lit 1 (by decide) ?_ | refine num_lit 2 (by decide) ?_ | refine num_lit 3 (by decide) ?_ | refine num_lit 4 (by decide) ?_ | refine num_lit 5 (by decide) ?_ | refine num_lit 6 (by decide) ?_ | refine num_lit 7 (by decide) ?_ | refine num_lit 8 (by decide) ?_ | refine num_elim ?_ | (with_reducible exact ff_elim) | (with_reducible exact tf_elim) | (intro h; exact absurd h (by decide)) | intro _ | (with_reducible rfl) | refine Or.inl ⟨3, ?_⟩ | refine tell ?_ | exact True.intro | (refine IsT.of ?_; kernel_rfl))
  all_goals (try refine Tell.mk ?_)
  all_goals first | with_reducible rfl | with_reducible assumption | (with_reducible refine gb_t ?_; with_reducible assumption) | (with_reducible refine gb_f ?_; with_reducible assumption) | ((with_reducible refine lk_t ?_); rfl) | ((with_reducible refine ks_t ?_); rfl) | ((with_reducible refine pk_t ?_); rfl) | ((with_reducible refine pf_t ?_); rfl) | (exfalso; simp_all [deepV]; done)
def deep0_k : Con Tryz.prog := ⟨109, fun args => match args with | [.agg [.flt d, .flt e, .flt f]] => .ok (some (deepV d e f = 0)) (.int .i64 0) | _ => .no, by
  intro args p r h hp
  split at h
  · cases h; exact deep0_a _ _ _ hp
  · cases h⟩
theorem deep1_f : FnOk Tryz.prog 109 Tryz.f109 := ⟨Tryz.func109, by kernel_rfl⟩
theorem deep1_a (d e f : Nat) (hpre : deepV d e f = 1) : ACalls Tryz.prog 109 [.agg [.flt d, .flt e, .flt f]] (.int .i64 1) := by
  refine acalls_of (inl := hasI (P := Tryz.prog) [] []) (base [axis0_k, axis1_k, axis2_k, abs_k] [] []) 0 deep1_f (And.intro (by kernel_rfl) ?_)
  repeat' (first | refine And.intro ?_ ?_ | refine num_lit 0 (by decide) ?_ | refine num_lit 1 (by decide) ?_ | refine num_lit 2 (by decide) ?_ | refine num_lit 3 (by decide) ?_ | refine num_lit 4 (by decide) ?_ | refine num_lit 5 (by decide) ?_ | refine num_lit 6 (by decide) ?_ | refine num_lit 7 (by decide) ?_ | refine num_lit 8 (by decide) ?_ | refine num_elim ?_ | (with_reducible exact ff_elim) | (with_reducible exact tf_elim) | (intro h; exact absurd h (by decide)) | intro _ | (with_reducible rfl) | refine Or.inl ⟨3, ?_⟩ | refine tell ?_ | exact True.intro | (refine IsT.of ?_; kernel_rfl))
  all_goals (try refine Tell.mk ?_)
  all_goals first | with_reducible rfl | with_reducible assumption | (with_reducible refine gb_t ?_; with_reducible assumption) | (with_reducible refine gb_f ?_; with_reducible assumption) | ((with_reducible refine lk_t ?_); rfl) | ((with_reducible refine ks_t ?_); rfl) | ((with_reducible refine pk_t ?_); rfl) | ((with_reducible refine pf_t ?_); rfl) | (exfalso; simp_all [deepV]; done)
def deep1_k : Con Tryz.prog := ⟨109, fun args => match args with | [.agg [.flt d, .flt e, .flt f]] => .ok (some (deepV d e f = 1)) (.int .i64 1) | _ => .no, by
  intro args p r h hp
  split at h
  · cases h; exact deep1_a _ _ _ hp
  · cases h⟩
theorem deep2_f : FnOk Tryz.prog 109 Tryz.f109 := ⟨Tryz.func109, by kernel_rfl⟩
theorem deep2_a (d e f : Nat) (hpre : deepV d e f = 2) : ACalls Tryz.prog 109 [.agg [.flt d, .flt e, .flt f]] (.int .i64 2) := by
  refine acalls_of (inl := hasI (P := Tryz.prog) [] []) (base [axis0_k, axis1_k, axis2_k, abs_k] [] []) 0 deep2_f (And.intro (by kernel_rfl) ?_)
  repeat' (first | refine And.intro ?_ ?_ | refine num_lit 0 (by decide) ?_ | refine num_lit 1 (by decide) ?_ | refine num_lit 2 (by decide) ?_ | refine num_lit 3 (by decide) ?_ | refine num_lit 4 (by decide) ?_ | refine num_lit 5 (by decide) ?_ | refine num_lit 6 (by decide) ?_ | refine num_lit 7 (by decide) ?_ | refine num_lit 8 (by decide) ?_ | refine num_elim ?_ | (with_reducible exact ff_elim) | (with_reducible exact tf_elim) | (intro h; exact absurd h (by decide)) | intro _ | (with_reducible rfl) | refine Or.inl ⟨3, ?_⟩ | refine tell ?_ | exact True.intro | (refine IsT.of ?_; kernel_rfl))
  all_goals (try refine Tell.mk ?_)
  all_goals first | with_reducible rfl | with_reducible assumption | (with_reducible refine gb_t ?_; with_reducible assumption) | (with_reducible refine gb_f ?_; with_reducible assumption) | ((with_reducible refine lk_t ?_); rfl) | ((with_reducible refine ks_t ?_); rfl) | ((with_reducible refine pk_t ?_); rfl) | ((with_reducible refine pf_t ?_); rfl) | (exfalso; simp_all [deepV]; done)
def deep2_k : Con Tryz.prog := ⟨109, fun args => match args with | [.agg [.flt d, .flt e, .flt f]] => .ok (some (deepV d e f = 2)) (.int .i64 2) | _ => .no, by
  intro args p r h hp
  split at h
  · cases h; exact deep2_a _ _ _ hp
  · cases h⟩
end Go.Proofs.YtdjckabogdohcaaGreat
