/- Greatest axes of directions. -/
import Derived.Test.YtgbcnfcgljbbgaaGreatSame
import Derived.Test.YtgbcnfcgljbbgaaGreatSpnAllB
import Derived.Test.YtgbcnfcgljbbgaaGreatEvArg
namespace Go.Proofs.YtgbcnfcgljbbgaaGreat
open Go.RowKit Ev
set_option linter.unusedVariables false
set_option linter.unusedSimpArgs false
set_option maxRecDepth 20000
set_option maxHeartbeats 4000000

def absF (x : Nat) : Nat := cn (x % 9223372036854775808)
def deepV (d e f : Nat) : Int := bif fgt (absF e) (absF d) then (bif fgt (absF f) (absF e) then 2 else 1) else (bif fgt (absF f) (absF d) then 2 else 0)
theorem deepV_or (d e f : Nat) : deepV d e f = 0 ∨ deepV d e f = 1 ∨ deepV d e f = 2 := by
  unfold deepV; cases fgt (absF e) (absF d) <;> cases fgt (absF f) (absF e) <;> cases fgt (absF f) (absF d) <;> simp
theorem axis0_f : FnOk Tryz.prog 62 Tryz.f62 := ⟨Tryz.func62, by kernel_rfl⟩
theorem axis0_a (a b c : Nat) : ACalls Tryz.prog 62 [.agg [.flt a, .flt b, .flt c], .int .i64 0] (.flt a) := by
  refine acalls_of (inl := hasI (P := Tryz.prog) [] []) (base [] [] []) 0 axis0_f (And.intro (by kernel_rfl) ?_)
  repeat' (first | refine And.intro ?_ ?_ | (with_reducible exact ff_elim) | (with_reducible exact tf_elim) | intro _ | (with_reducible rfl) | ((with_reducible refine lk_t ?_); exact rfl) | ((with_reducible refine pf_t ?_); exact rfl) | refine tell ?_ | exact True.intro | (refine IsT.of ?_; kernel_rfl))
  all_goals ((try refine Tell.mk ?_); first | with_reducible rfl | ((show (_ : Int) ≤ _); decide) | ((show (_ : Int) < _); decide) | (with_reducible refine gb_t ?_; with_reducible assumption) | with_reducible assumption | (with_reducible refine gb_f ?_; with_reducible assumption) | (simp only [gb, *, cond_true, cond_false]; done) | ((with_reducible refine ks_t ?_); rfl) | ((with_reducible refine pk_t ?_); rfl) | ((with_reducible refine pf_t ?_); rfl) | ((with_reducible refine lk_t ?_); rfl) | ((with_reducible refine okF_t ?_); kernel_rfl) | grind [gb])
def axis0_k : Con Tryz.prog := ⟨62, fun args => match args with | [.agg [.flt a, .flt b, .flt c], .int .i64 0] => .ok (none) (.flt a) | _ => .no, by
  intro args p r h hp
  split at h
  · cases h; exact axis0_a _ _ _
  · cases h⟩
theorem axis1_f : FnOk Tryz.prog 62 Tryz.f62 := ⟨Tryz.func62, by kernel_rfl⟩
theorem axis1_a (a b c : Nat) : ACalls Tryz.prog 62 [.agg [.flt a, .flt b, .flt c], .int .i64 1] (.flt b) := by
  refine acalls_of (inl := hasI (P := Tryz.prog) [] []) (base [] [] []) 0 axis1_f (And.intro (by kernel_rfl) ?_)
  repeat' (first | refine And.intro ?_ ?_ | (with_reducible exact ff_elim) | (with_reducible exact tf_elim) | intro _ | (with_reducible rfl) | ((with_reducible refine lk_t ?_); exact rfl) | ((with_reducible refine pf_t ?_); exact rfl) | refine tell ?_ | exact True.intro | (refine IsT.of ?_; kernel_rfl))
  all_goals ((try refine Tell.mk ?_); first | with_reducible rfl | ((show (_ : Int) ≤ _); decide) | ((show (_ : Int) < _); decide) | (with_reducible refine gb_t ?_; with_reducible assumption) | with_reducible assumption | (with_reducible refine gb_f ?_; with_reducible assumption) | (simp only [gb, *, cond_true, cond_false]; done) | ((with_reducible refine ks_t ?_); rfl) | ((with_reducible refine pk_t ?_); rfl) | ((with_reducible refine pf_t ?_); rfl) | ((with_reducible refine lk_t ?_); rfl) | ((with_reducible refine okF_t ?_); kernel_rfl) | grind [gb])
def axis1_k : Con Tryz.prog := ⟨62, fun args => match args with | [.agg [.flt a, .flt b, .flt c], .int .i64 1] => .ok (none) (.flt b) | _ => .no, by
  intro args p r h hp
  split at h
  · cases h; exact axis1_a _ _ _
  · cases h⟩
theorem axis2_f : FnOk Tryz.prog 62 Tryz.f62 := ⟨Tryz.func62, by kernel_rfl⟩
theorem axis2_a (a b c : Nat) : ACalls Tryz.prog 62 [.agg [.flt a, .flt b, .flt c], .int .i64 2] (.flt c) := by
  refine acalls_of (inl := hasI (P := Tryz.prog) [] []) (base [] [] []) 0 axis2_f (And.intro (by kernel_rfl) ?_)
  repeat' (first | refine And.intro ?_ ?_ | (with_reducible exact ff_elim) | (with_reducible exact tf_elim) | intro _ | (with_reducible rfl) | ((with_reducible refine lk_t ?_); exact rfl) | ((with_reducible refine pf_t ?_); exact rfl) | refine tell ?_ | exact True.intro | (refine IsT.of ?_; kernel_rfl))
  all_goals ((try refine Tell.mk ?_); first | with_reducible rfl | ((show (_ : Int) ≤ _); decide) | ((show (_ : Int) < _); decide) | (with_reducible refine gb_t ?_; with_reducible assumption) | with_reducible assumption | (with_reducible refine gb_f ?_; with_reducible assumption) | (simp only [gb, *, cond_true, cond_false]; done) | ((with_reducible refine ks_t ?_); rfl) | ((with_reducible refine pk_t ?_); rfl) | ((with_reducible refine pf_t ?_); rfl) | ((with_reducible refine lk_t ?_); rfl) | ((with_reducible refine okF_t ?_); kernel_rfl) | grind [gb])
def axis2_k : Con Tryz.prog := ⟨62, fun args => match args with | [.agg [.flt a, .flt b, .flt c], .int .i64 2] => .ok (none) (.flt c) | _ => .no, by
  intro args p r h hp
  split at h
  · cases h; exact axis2_a _ _ _
  · cases h⟩
theorem axisS0_f : FnOk Tryz.prog 149 Tryz.f149 := ⟨Tryz.func149, by kernel_rfl⟩
theorem axisS0_a (a b c : Nat) : ACalls Tryz.prog 149 [.agg [.flt a, .flt b, .flt c], .int .i64 0] (.flt a) := by
  refine acalls_of (inl := hasI (P := Tryz.prog) [] []) (base [] [] []) 0 axisS0_f (And.intro (by kernel_rfl) ?_)
  repeat' (first | refine And.intro ?_ ?_ | (with_reducible exact ff_elim) | (with_reducible exact tf_elim) | intro _ | (with_reducible rfl) | ((with_reducible refine lk_t ?_); exact rfl) | ((with_reducible refine pf_t ?_); exact rfl) | refine tell ?_ | exact True.intro | (refine IsT.of ?_; kernel_rfl))
  all_goals ((try refine Tell.mk ?_); first | with_reducible rfl | ((show (_ : Int) ≤ _); decide) | ((show (_ : Int) < _); decide) | (with_reducible refine gb_t ?_; with_reducible assumption) | with_reducible assumption | (with_reducible refine gb_f ?_; with_reducible assumption) | (simp only [gb, *, cond_true, cond_false]; done) | ((with_reducible refine ks_t ?_); rfl) | ((with_reducible refine pk_t ?_); rfl) | ((with_reducible refine pf_t ?_); rfl) | ((with_reducible refine lk_t ?_); rfl) | ((with_reducible refine okF_t ?_); kernel_rfl) | grind [gb])
def axisS0_k : Con Tryz.prog := ⟨149, fun args => match args with | [.agg [.flt a, .flt b, .flt c], .int .i64 0] => .ok (none) (.flt a) | _ => .no, by
  intro args p r h hp
  split at h
  · cases h; exact axisS0_a _ _ _
  · cases h⟩
theorem axisS1_f : FnOk Tryz.prog 149 Tryz.f149 := ⟨Tryz.func149, by kernel_rfl⟩
theorem axisS1_a (a b c : Nat) : ACalls Tryz.prog 149 [.agg [.flt a, .flt b, .flt c], .int .i64 1] (.flt b) := by
  refine acalls_of (inl := hasI (P := Tryz.prog) [] []) (base [] [] []) 0 axisS1_f (And.intro (by kernel_rfl) ?_)
  repeat' (first | refine And.intro ?_ ?_ | (with_reducible exact ff_elim) | (with_reducible exact tf_elim) | intro _ | (with_reducible rfl) | ((with_reducible refine lk_t ?_); exact rfl) | ((with_reducible refine pf_t ?_); exact rfl) | refine tell ?_ | exact True.intro | (refine IsT.of ?_; kernel_rfl))
  all_goals ((try refine Tell.mk ?_); first | with_reducible rfl | ((show (_ : Int) ≤ _); decide) | ((show (_ : Int) < _); decide) | (with_reducible refine gb_t ?_; with_reducible assumption) | with_reducible assumption | (with_reducible refine gb_f ?_; with_reducible assumption) | (simp only [gb, *, cond_true, cond_false]; done) | ((with_reducible refine ks_t ?_); rfl) | ((with_reducible refine pk_t ?_); rfl) | ((with_reducible refine pf_t ?_); rfl) | ((with_reducible refine lk_t ?_); rfl) | ((with_reducible refine okF_t ?_); kernel_rfl) | grind [gb])
def axisS1_k : Con Tryz.prog := ⟨149, fun args => match args with | [.agg [.flt a, .flt b, .flt c], .int .i64 1] => .ok (none) (.flt b) | _ => .no, by
  intro args p r h hp
  split at h
  · cases h; exact axisS1_a _ _ _
  · cases h⟩
theorem axisS2_f : FnOk Tryz.prog 149 Tryz.f149 := ⟨Tryz.func149, by kernel_rfl⟩
theorem axisS2_a (a b c : Nat) : ACalls Tryz.prog 149 [.agg [.flt a, .flt b, .flt c], .int .i64 2] (.flt c) := by
  refine acalls_of (inl := hasI (P := Tryz.prog) [] []) (base [] [] []) 0 axisS2_f (And.intro (by kernel_rfl) ?_)
  repeat' (first | refine And.intro ?_ ?_ | (with_reducible exact ff_elim) | (with_reducible exact tf_elim) | intro _ | (with_reducible rfl) | ((with_reducible refine lk_t ?_); exact rfl) | ((with_reducible refine pf_t ?_); exact rfl) | refine tell ?_ | exact True.intro | (refine IsT.of ?_; kernel_rfl))
  all_goals ((try refine Tell.mk ?_); first | with_reducible rfl | ((show (_ : Int) ≤ _); decide) | ((show (_ : Int) < _); decide) | (with_reducible refine gb_t ?_; with_reducible assumption) | with_reducible assumption | (with_reducible refine gb_f ?_; with_reducible assumption) | (simp only [gb, *, cond_true, cond_false]; done) | ((with_reducible refine ks_t ?_); rfl) | ((with_reducible refine pk_t ?_); rfl) | ((with_reducible refine pf_t ?_); rfl) | ((with_reducible refine lk_t ?_); rfl) | ((with_reducible refine okF_t ?_); kernel_rfl) | grind [gb])
def axisS2_k : Con Tryz.prog := ⟨149, fun args => match args with | [.agg [.flt a, .flt b, .flt c], .int .i64 2] => .ok (none) (.flt c) | _ => .no, by
  intro args p r h hp
  split at h
  · cases h; exact axisS2_a _ _ _
  · cases h⟩
theorem find_bits : Extern.find Tryz.f108 = some Extern.MathFloatBits.float64bits := by kernel_rfl
theorem find_from : Extern.find Tryz.f107 = some Extern.MathFloatBits.float64frombits := by kernel_rfl
theorem callbits (x : Nat) (w : World) : (callFunc 108 #[.float .f64 x]).run Tryz.prog w = .ok (.value (.int .u64 x)) w := by
  rw [run_callFunc_extern Tryz.func108 (by kernel_rfl) (by kernel_rfl) (by kernel_rfl) find_bits]
  rfl
theorem callfrom (n : Int) (w : World) : (callFunc 107 #[.int .u64 n]).run Tryz.prog w = .ok (.value (.float .f64 n.toNat)) w := by
  rw [run_callFunc_extern Tryz.func107 (by kernel_rfl) (by kernel_rfl) (by kernel_rfl) find_from]
  rfl
theorem abs_bits (x : Nat) : (bits .andNot .u64 (x : Int) 9223372036854775808).toNat = x % 9223372036854775808 := by
  have h : (BitVec.ofInt 64 (x : Int) &&& ~~~(BitVec.ofInt 64 9223372036854775808)).toNat = x % 9223372036854775808 := by
    have e : (~~~(BitVec.ofInt 64 9223372036854775808)).toNat = 2 ^ 63 - 1 := by decide +kernel
    rw [BitVec.toNat_and, e, Nat.and_two_pow_sub_one_eq_mod, BitVec.ofInt_natCast, BitVec.toNat_ofNat]
    omega
  have e : bits .andNot .u64 (x : Int) 9223372036854775808 = IntKind.u64.wrap ((BitVec.ofInt 64 (x : Int) &&& ~~~(BitVec.ofInt 64 9223372036854775808)).toNat : Nat) := rfl
  rw [e, h]
  simp only [IntKind.wrap, IntKind.signed, IntKind.bits]
  simp
  omega
theorem abs_cn (x : Nat) : cn (x % 9223372036854775808) = absF (cn x) := by
  unfold absF
  have m : ∀ y : Nat, isN (y % 9223372036854775808) = isN y := fun y => isN_mod (by omega)
  by_cases h : isN x = true
  · have e : cn x = nanC := by unfold cn; rw [if_pos h]
    rw [e]
    unfold cn
    rw [if_pos (by rw [m]; exact h), if_pos (by rw [m]; exact isN_nanC)]
  · have e : cn x = x := by unfold cn; rw [if_neg h]
    rw [e]
theorem abs_any (x : Nat) (w : World) : Calls Tryz.prog 98 #[.float .f64 x] w fun e w' => ∃ y, e = .returned (.float .f64 y) ∧ cn y = absF (cn x) ∧ w' = w := by
  have hq := callbits
  have hf := callfrom
  go_enter Tryz.func98, Tryz.ntmps98
  go_wp2_with fail
  go_ret
  refine ⟨_, rfl, ?_, rfl⟩
  rw [abs_bits]
  exact abs_cn x
theorem abs_f : FnOk Tryz.prog 98 Tryz.f98 := ⟨Tryz.func98, by kernel_rfl⟩
theorem abs_a (x : Nat) : ACalls Tryz.prog 98 [.flt x] (.flt (absF x)) := by
  intro w Im vals hIm ht
  cases ht with
  | cons h t =>
    cases t
    obtain ⟨b, rfl, hb⟩ := h.inv_flt
    have e : (callFunc 98 [Value.float .f64 b].toArray).run Tryz.prog w = .ok (.enter 98 [Value.float .f64 b].toArray) w := by
      have hne : ¬ Tryz.f98.name = "runtime.NumGoroutine" := by simpa using abs_f.nm
      have hb : ∃ c, Tryz.f98.body = some c := ⟨_, rfl⟩
      obtain ⟨c, hb⟩ := hb
      simp [callFunc, abs_f.at_, hb, hne]
    rw [e]
    refine (abs_any b w).mono ?_
    rintro e w' ⟨y, rfl, hy, rfl⟩
    exact ⟨_, rfl, Below.refl _ _, .flt _ _ (by rw [hy, hb])⟩
def abs_k : Con Tryz.prog := ⟨98, fun args => match args with | [.flt x] => .ok none (.flt (absF x)) | _ => .no, by
  intro args p r h hp
  split at h
  · cases h; exact abs_a _
  · cases h⟩
end Go.Proofs.YtgbcnfcgljbbgaaGreat
/- Bodies: what stands on them. -/
namespace Go.Proofs.YtgbcnfcgljbbgaaGreat
open Go.RowKit Ev Flt
set_option linter.unusedVariables false
set_option linter.unusedSimpArgs false
set_option maxRecDepth 20000
set_option maxHeartbeats 4000000

/-- A vector's number in an axis. -/
def axN (k : Int) (a b c : Nat) : Nat := bif k == 0 then a else bif k == 1 then b else c
theorem axisS_f : FnOk Tryz.prog 149 Tryz.f149 := ⟨Tryz.func149, by kernel_rfl⟩
theorem axisS_a (a b c : Nat) (k : Int) (hpre : 0 ≤ k ∧ k ≤ 2) : ACalls Tryz.prog 149 [.agg [.flt a, .flt b, .flt c], .int .i64 k] (.flt (axN k a b c)) := by
  have h : k = 0 ∨ k = 1 ∨ k = 2 := by omega
  rcases h with rfl | rfl | rfl
  · exact axisS0_a a b c
  · exact axisS1_a a b c
  · exact axisS2_a a b c
def axisS_k : Con Tryz.prog := ⟨149, fun args => match args with | [.agg [.flt a, .flt b, .flt c], .int .i64 k] => .ok (some (0 ≤ k ∧ k ≤ 2)) (.flt (axN k a b c)) | _ => .no, by
  intro args p r h hp
  split at h
  · cases h; exact axisS_a _ _ _ _ hp
  · cases h⟩
theorem axisR_f : FnOk Tryz.prog 62 Tryz.f62 := ⟨Tryz.func62, by kernel_rfl⟩
theorem axisR_a (a b c : Nat) (k : Int) (hpre : 0 ≤ k ∧ k ≤ 2) : ACalls Tryz.prog 62 [.agg [.flt a, .flt b, .flt c], .int .i64 k] (.flt (axN k a b c)) := by
  have h : k = 0 ∨ k = 1 ∨ k = 2 := by omega
  rcases h with rfl | rfl | rfl
  · exact ax0_a a b c
  · exact ax1_a a b c
  · exact ax2_a a b c
def axisR_k : Con Tryz.prog := ⟨62, fun args => match args with | [.agg [.flt a, .flt b, .flt c], .int .i64 k] => .ok (some (0 ≤ k ∧ k ≤ 2)) (.flt (axN k a b c)) | _ => .no, by
  intro args p r h hp
  split at h
  · cases h; exact axisR_a _ _ _ _ hp
  · cases h⟩
theorem stands0_f : FnOk Tryz.prog 99 Tryz.f99 := ⟨Tryz.func99, by kernel_rfl⟩
theorem stands0_a (x : Nat) : ACalls Tryz.prog 99 [.int .i64 0, .flt x] (.agg [.flt x, .flt 0, .flt 0]) := by
  refine acalls_of (inl := hasI (P := Tryz.prog) [⟨102, Tryz.f102, Tryz.func102, by kernel_rfl⟩] []) (base [] [⟨102, Tryz.f102, Tryz.func102, by kernel_rfl⟩] []) 4 stands0_f (And.intro (by kernel_rfl) ?_)
  repeat' (first | refine And.intro ?_ ?_ | (with_reducible exact ff_elim) | (with_reducible exact tf_elim) | intro _ | (with_reducible rfl) | ((with_reducible refine lk_t ?_); exact rfl) | ((with_reducible refine pf_t ?_); exact rfl) | refine tell ?_ | exact True.intro | (refine IsT.of ?_; kernel_rfl))
  all_goals ((try refine Tell.mk ?_); first | with_reducible rfl | ((show (_ : Int) ≤ _); decide) | ((show (_ : Int) < _); decide) | (with_reducible refine gb_t ?_; with_reducible assumption) | with_reducible assumption | (with_reducible refine gb_f ?_; with_reducible assumption) | (simp only [gb, *, cond_true, cond_false]; done) | ((with_reducible refine ks_t ?_); rfl) | ((with_reducible refine pk_t ?_); rfl) | ((with_reducible refine pf_t ?_); rfl) | ((with_reducible refine lk_t ?_); rfl) | ((with_reducible refine okF_t ?_); kernel_rfl) | grind [gb])
def stands0_k : Con Tryz.prog := ⟨99, fun args => match args with | [.int .i64 0, .flt x] => .ok (none) (.agg [.flt x, .flt 0, .flt 0]) | _ => .no, by
  intro args p r h hp
  split at h
  · cases h; exact stands0_a _
  · cases h⟩
theorem stands1_f : FnOk Tryz.prog 99 Tryz.f99 := ⟨Tryz.func99, by kernel_rfl⟩
theorem stands1_a (x : Nat) : ACalls Tryz.prog 99 [.int .i64 1, .flt x] (.agg [.flt 0, .flt x, .flt 0]) := by
  refine acalls_of (inl := hasI (P := Tryz.prog) [⟨102, Tryz.f102, Tryz.func102, by kernel_rfl⟩] []) (base [] [⟨102, Tryz.f102, Tryz.func102, by kernel_rfl⟩] []) 4 stands1_f (And.intro (by kernel_rfl) ?_)
  repeat' (first | refine And.intro ?_ ?_ | (with_reducible exact ff_elim) | (with_reducible exact tf_elim) | intro _ | (with_reducible rfl) | ((with_reducible refine lk_t ?_); exact rfl) | ((with_reducible refine pf_t ?_); exact rfl) | refine tell ?_ | exact True.intro | (refine IsT.of ?_; kernel_rfl))
  all_goals ((try refine Tell.mk ?_); first | with_reducible rfl | ((show (_ : Int) ≤ _); decide) | ((show (_ : Int) < _); decide) | (with_reducible refine gb_t ?_; with_reducible assumption) | with_reducible assumption | (with_reducible refine gb_f ?_; with_reducible assumption) | (simp only [gb, *, cond_true, cond_false]; done) | ((with_reducible refine ks_t ?_); rfl) | ((with_reducible refine pk_t ?_); rfl) | ((with_reducible refine pf_t ?_); rfl) | ((with_reducible refine lk_t ?_); rfl) | ((with_reducible refine okF_t ?_); kernel_rfl) | grind [gb])
def stands1_k : Con Tryz.prog := ⟨99, fun args => match args with | [.int .i64 1, .flt x] => .ok (none) (.agg [.flt 0, .flt x, .flt 0]) | _ => .no, by
  intro args p r h hp
  split at h
  · cases h; exact stands1_a _
  · cases h⟩
theorem stands2_f : FnOk Tryz.prog 99 Tryz.f99 := ⟨Tryz.func99, by kernel_rfl⟩
theorem stands2_a (x : Nat) : ACalls Tryz.prog 99 [.int .i64 2, .flt x] (.agg [.flt 0, .flt 0, .flt x]) := by
  refine acalls_of (inl := hasI (P := Tryz.prog) [⟨102, Tryz.f102, Tryz.func102, by kernel_rfl⟩] []) (base [] [⟨102, Tryz.f102, Tryz.func102, by kernel_rfl⟩] []) 4 stands2_f (And.intro (by kernel_rfl) ?_)
  repeat' (first | refine And.intro ?_ ?_ | (with_reducible exact ff_elim) | (with_reducible exact tf_elim) | intro _ | (with_reducible rfl) | ((with_reducible refine lk_t ?_); exact rfl) | ((with_reducible refine pf_t ?_); exact rfl) | refine tell ?_ | exact True.intro | (refine IsT.of ?_; kernel_rfl))
  all_goals ((try refine Tell.mk ?_); first | with_reducible rfl | ((show (_ : Int) ≤ _); decide) | ((show (_ : Int) < _); decide) | (with_reducible refine gb_t ?_; with_reducible assumption) | with_reducible assumption | (with_reducible refine gb_f ?_; with_reducible assumption) | (simp only [gb, *, cond_true, cond_false]; done) | ((with_reducible refine ks_t ?_); rfl) | ((with_reducible refine pk_t ?_); rfl) | ((with_reducible refine pf_t ?_); rfl) | ((with_reducible refine lk_t ?_); rfl) | ((with_reducible refine okF_t ?_); kernel_rfl) | grind [gb])
def stands2_k : Con Tryz.prog := ⟨99, fun args => match args with | [.int .i64 2, .flt x] => .ok (none) (.agg [.flt 0, .flt 0, .flt x]) | _ => .no, by
  intro args p r h hp
  split at h
  · cases h; exact stands2_a _
  · cases h⟩
theorem ballNm_f : FnOk Tryz.prog 125 Tryz.f125 := ⟨Tryz.func125, by kernel_rfl⟩
theorem ballNm_a (a b c r x y z : Nat) : ACalls Tryz.prog 125 [.agg [.flt a, .flt b, .flt c, .flt r], .agg [.flt x, .flt y, .flt z]] (.agg [.flt (F .sub x a), .flt (F .sub y b), .flt (F .sub z c)]) := by
  refine acalls_of (inl := hasI (P := Tryz.prog) [] []) (base [sub_k] [] []) 0 ballNm_f (And.intro (by kernel_rfl) ?_)
  repeat' (first | refine And.intro ?_ ?_ | (with_reducible exact ff_elim) | (with_reducible exact tf_elim) | intro _ | (with_reducible rfl) | ((with_reducible refine lk_t ?_); exact rfl) | ((with_reducible refine pf_t ?_); exact rfl) | refine tell ?_ | exact True.intro | (refine IsT.of ?_; kernel_rfl))
  all_goals ((try refine Tell.mk ?_); first | with_reducible rfl | ((show (_ : Int) ≤ _); decide) | ((show (_ : Int) < _); decide) | (with_reducible refine gb_t ?_; with_reducible assumption) | with_reducible assumption | (with_reducible refine gb_f ?_; with_reducible assumption) | (simp only [gb, *, cond_true, cond_false]; done) | ((with_reducible refine ks_t ?_); rfl) | ((with_reducible refine pk_t ?_); rfl) | ((with_reducible refine pf_t ?_); rfl) | ((with_reducible refine lk_t ?_); rfl) | ((with_reducible refine okF_t ?_); kernel_rfl) | grind [gb])
def ballNm_k : Con Tryz.prog := ⟨125, fun args => match args with | [.agg [.flt a, .flt b, .flt c, .flt r], .agg [.flt x, .flt y, .flt z]] => .ok (none) (.agg [.flt (F .sub x a), .flt (F .sub y b), .flt (F .sub z c)]) | _ => .no, by
  intro args p r h hp
  split at h
  · cases h; exact ballNm_a _ _ _ _ _ _ _
  · cases h⟩
/-- The least of six, and the first of several. -/
def lsB (d m : Nat) : Bool := flt d m
def lsM (d m : Nat) : Nat := bif flt d m then d else m
def lsI (i : Int) (d m : Nat) (j : Int) : Int := bif flt d m then i else j
def six (p q r s t u : Nat) : Int := lsI 5 u (lsM t (lsM s (lsM r (lsM q p)))) (lsI 4 t (lsM s (lsM r (lsM q p))) (lsI 3 s (lsM r (lsM q p)) (lsI 2 r (lsM q p) (lsI 1 q p 0))))
def sixX (i : Int) : Nat := bif i == 0 then 13830554455654793216 else bif i == 1 then 4607182418800017408 else 0
def sixY (i : Int) : Nat := bif i == 2 then 13830554455654793216 else bif i == 3 then 4607182418800017408 else 0
def sixZ (i : Int) : Nat := bif i == 4 then 13830554455654793216 else bif i == 5 then 4607182418800017408 else 0
def blI (a b c d e f x y z : Nat) : Int := six (absF (F .sub x a)) (absF (F .sub d x)) (absF (F .sub y b)) (absF (F .sub e y)) (absF (F .sub z c)) (absF (F .sub f z))
theorem blockNm_f : FnOk Tryz.prog 133 Tryz.f133 := ⟨Tryz.func133, by kernel_rfl⟩
theorem blockNm_a (a b c d e f x y z : Nat) : ACalls Tryz.prog 133 [.agg [.flt a, .flt b, .flt c, .flt d, .flt e, .flt f], .agg [.flt x, .flt y, .flt z]] (.agg [.flt (sixX (blI a b c d e f x y z)), .flt (sixY (blI a b c d e f x y z)), .flt (sixZ (blI a b c d e f x y z))]) := by
  refine acalls_of (inl := hasI (P := Tryz.prog) [] []) (base [sub_k, abs_k] [] []) 0 blockNm_f (And.intro (by kernel_rfl) ?_)
  repeat' (first | refine And.intro ?_ ?_ | refine num_lit 0 (by decide) ?_ | refine num_lit 1 (by decide) ?_ | refine num_lit 2 (by decide) ?_ | refine num_lit 3 (by decide) ?_ | refine num_lit 4 (by decide) ?_ | refine num_lit 5 (by decide) ?_ | refine num_lit 6 (by decide) ?_ | refine num_lit 7 (by decide) ?_ | refine num_lit 8 (by decide) ?_ | refine num_elim ?_ | (with_reducible exact ff_elim) | (with_reducible exact tf_elim) | (intro h; exact absurd h (by decide)) | intro _ | (with_reducible rfl) | refine Or.inl ⟨7, ?_⟩ | refine tell ?_ | exact True.intro | (refine IsT.of ?_; kernel_rfl))
  all_goals (try refine Tell.mk ?_)
  all_goals first | with_reducible rfl | ((show (_ : Int) ≤ _); decide) | ((show (_ : Int) < _); decide) | ((show (_ : Nat) ≤ _); decide) | ((show (_ : Nat) < _); decide) | (with_reducible refine gb_t ?_; with_reducible assumption) | (with_reducible refine gb_f ?_; with_reducible assumption) | (simp only [blI, six, lsI, lsM, *, cond_true, cond_false]; done) | (simp only [blI, six, lsI, lsM, *, cond_true, cond_false]; rfl) | trace_state
def blockNm_k : Con Tryz.prog := ⟨133, fun args => match args with | [.agg [.flt a, .flt b, .flt c, .flt d, .flt e, .flt f], .agg [.flt x, .flt y, .flt z]] => .ok (none) (.agg [.flt (sixX (blI a b c d e f x y z)), .flt (sixY (blI a b c d e f x y z)), .flt (sixZ (blI a b c d e f x y z))]) | _ => .no, by
  intro args p r h hp
  split at h
  · cases h; exact blockNm_a _ _ _ _ _ _ _ _ _
  · cases h⟩
def tuK (d e f : Nat) : Int := aloneV d e f
def tuV (a b c d e f x y z : Nat) : Nat := axN (aloneV d e f) (F .sub x a) (F .sub y b) (F .sub z c)
def tuB (a b c d e f r x y z : Nat) : Nat := absF (F .sub (lenV (wo (aloneV d e f) 0 (F .sub x a)) (wo (aloneV d e f) 1 (F .sub y b)) (wz (aloneV d e f) (F .sub z c))) r)
def tuC1 (a b c d e f r x y z : Nat) : Bool := flt (absF (tuV a b c d e f x y z)) (tuB a b c d e f r x y z)
def tuB1 (a b c d e f r x y z : Nat) : Nat := bif tuC1 a b c d e f r x y z then absF (tuV a b c d e f x y z) else tuB a b c d e f r x y z
def tuC2 (a b c d e f r x y z : Nat) : Bool := flt (absF (F .sub (tuV a b c d e f x y z) (axN (aloneV d e f) d e f))) (tuB1 a b c d e f r x y z)
def tuX (a b c d e f r x y z : Nat) : Nat := bif tuC2 a b c d e f r x y z then d else bif tuC1 a b c d e f r x y z then F .mul d 13830554455654793216 else wo (aloneV d e f) 0 (F .sub x a)
def tuY (a b c d e f r x y z : Nat) : Nat := bif tuC2 a b c d e f r x y z then e else bif tuC1 a b c d e f r x y z then F .mul e 13830554455654793216 else wo (aloneV d e f) 1 (F .sub y b)
def tuZz (a b c d e f r x y z : Nat) : Nat := bif tuC2 a b c d e f r x y z then f else bif tuC1 a b c d e f r x y z then F .mul f 13830554455654793216 else wz (aloneV d e f) (F .sub z c)
theorem tubeNm_f : FnOk Tryz.prog 144 Tryz.f144 := ⟨Tryz.func144, by kernel_rfl⟩
theorem tubeNm_a (a b c d e f r x y z : Nat) (hpre : 0 ≤ aloneV d e f) : ACalls Tryz.prog 144 [.agg [.flt a, .flt b, .flt c, .flt d, .flt e, .flt f, .flt r], .agg [.flt x, .flt y, .flt z]] (.agg [.flt (tuX a b c d e f r x y z), .flt (tuY a b c d e f r x y z), .flt (tuZz a b c d e f r x y z)]) := by
  refine acalls_of (inl := hasI (P := Tryz.prog) [] []) (base [alone_k, sub_k, without_k, length_k, abs_k, axisS_k, scale_k] [] []) 0 tubeNm_f (And.intro (by kernel_rfl) ?_)
  repeat' (first | refine And.intro ?_ ?_ | (with_reducible exact ff_elim) | (with_reducible exact tf_elim) | intro _ | (with_reducible rfl) | ((with_reducible refine lk_t ?_); exact rfl) | ((with_reducible refine pf_t ?_); exact rfl) | refine tell ?_ | exact True.intro | (refine IsT.of ?_; kernel_rfl))
  all_goals (try refine Tell.mk ?_)
  all_goals (try simp only [show ∀ (k : Int) (x : Nat), (bif k == 0 || k == 1 then x else 0) = wz k x from fun _ _ => rfl] at *)
  all_goals first | with_reducible rfl | with_reducible assumption | exact alone_le _ _ _ | (with_reducible refine gb_t ?_; with_reducible assumption) | (with_reducible refine gb_f ?_; with_reducible assumption) | (simp only [tuX, tuY, tuZz, tuC2, tuC1, tuB1, tuV, tuB, *, cond_true, cond_false]; done) | trace_state
def tubeNm_k : Con Tryz.prog := ⟨144, fun args => match args with | [.agg [.flt a, .flt b, .flt c, .flt d, .flt e, .flt f, .flt r], .agg [.flt x, .flt y, .flt z]] => .ok (some (0 ≤ aloneV d e f)) (.agg [.flt (tuX a b c d e f r x y z), .flt (tuY a b c d e f r x y z), .flt (tuZz a b c d e f r x y z)]) | _ => .no, by
  intro args p r h hp
  split at h
  · cases h; exact tubeNm_a _ _ _ _ _ _ _ _ _ _ hp
  · cases h⟩
theorem nearSide_f : FnOk Tryz.prog 73 Tryz.f73 := ⟨Tryz.func73, by kernel_rfl⟩
theorem nearSide_a (a b c d e f g h i r q : Nat) (s : Int) (x y z : Nat) : ACalls Tryz.prog 73 [.agg [.int .i64 2, .flt a, .flt b, .flt c, .flt d, .flt e, .flt f, .flt g, .flt h, .flt i, .flt r, .flt q, .int .i64 s], .agg [.flt x, .flt y, .flt z]] (.agg [.flt (sixX (blI a b c d e f x y z)), .flt (sixY (blI a b c d e f x y z)), .flt (sixZ (blI a b c d e f x y z))]) := by
  refine acalls_of (inl := hasI (P := Tryz.prog) [] []) (base [abs_k, ax0_k, ax1_k, ax2_k, stands0_k, stands1_k, stands2_k] [] []) 0 nearSide_f (And.intro (by kernel_rfl) ?_)
  repeat' (first | refine And.intro ?_ ?_ | refine num_lit 0 (by decide) ?_ | refine num_lit 1 (by decide) ?_ | refine num_lit 2 (by decide) ?_ | refine num_lit 3 (by decide) ?_ | refine num_lit 4 (by decide) ?_ | refine num_lit 5 (by decide) ?_ | refine num_lit 6 (by decide) ?_ | refine num_lit 7 (by decide) ?_ | refine num_lit 8 (by decide) ?_ | refine num_elim ?_ | (with_reducible exact ff_elim) | (with_reducible exact tf_elim) | (intro h; exact absurd h (by decide)) | intro _ | (with_reducible rfl) | refine Or.inl ⟨4, ?_⟩ | refine tell ?_ | exact True.intro | (refine IsT.of ?_; kernel_rfl))
  all_goals (try refine Tell.mk ?_)
  all_goals first | with_reducible rfl | ((show (_ : Int) ≤ _); decide) | ((show (_ : Int) < _); decide) | ((show (_ : Nat) ≤ _); decide) | ((show (_ : Nat) < _); decide) | (with_reducible refine gb_t ?_; with_reducible assumption) | (with_reducible refine gb_f ?_; with_reducible assumption) | (simp only [blI, six, lsI, lsM, *, cond_true, cond_false]; done) | (simp only [blI, six, lsI, lsM, *, cond_true, cond_false]; rfl) | trace_state
def nearSide_k : Con Tryz.prog := ⟨73, fun args => match args with | [.agg [.int .i64 2, .flt a, .flt b, .flt c, .flt d, .flt e, .flt f, .flt g, .flt h, .flt i, .flt r, .flt q, .int .i64 s], .agg [.flt x, .flt y, .flt z]] => .ok (none) (.agg [.flt (sixX (blI a b c d e f x y z)), .flt (sixY (blI a b c d e f x y z)), .flt (sixZ (blI a b c d e f x y z))]) | _ => .no, by
  intro args p r h hp
  split at h
  · cases h; exact nearSide_a _ _ _ _ _ _ _ _ _ _ _ _ _ _ _
  · cases h⟩
theorem tubeSd_f : FnOk Tryz.prog 75 Tryz.f75 := ⟨Tryz.func75, by kernel_rfl⟩
theorem tubeSd_a (a b c d e f g h i r q : Nat) (s : Int) (x y z : Nat) (hpre : 0 ≤ aloneV d e f) : ACalls Tryz.prog 75 [.agg [.int .i64 5, .flt a, .flt b, .flt c, .flt d, .flt e, .flt f, .flt g, .flt h, .flt i, .flt r, .flt q, .int .i64 s], .agg [.flt x, .flt y, .flt z]] (.agg [.flt (tuX a b c d e f r x y z), .flt (tuY a b c d e f r x y z), .flt (tuZz a b c d e f r x y z)]) := by
  refine acalls_of (inl := hasI (P := Tryz.prog) [] []) (base [axisOf_k, subR_k, put_k, lengthR_k, abs_k, axisR_k, scaleR_k] [] []) 0 tubeSd_f (And.intro (by kernel_rfl) ?_)
  repeat' (first | refine And.intro ?_ ?_ | (with_reducible exact ff_elim) | (with_reducible exact tf_elim) | intro _ | (with_reducible rfl) | ((with_reducible refine lk_t ?_); exact rfl) | ((with_reducible refine pf_t ?_); exact rfl) | refine tell ?_ | exact True.intro | (refine IsT.of ?_; kernel_rfl))
  all_goals (try refine Tell.mk ?_)
  all_goals (try simp only [show ∀ (k : Int) (x : Nat), (bif k == 0 || k == 1 then x else 0) = wz k x from fun _ _ => rfl, show ∀ (k j : Int) (x : Nat), (bif k == j then 0 else x) = wo k j x from fun _ _ _ => rfl] at *)
  all_goals first | with_reducible rfl | with_reducible assumption | exact alone_le _ _ _ | (with_reducible refine gb_t ?_; with_reducible assumption) | (with_reducible refine gb_f ?_; with_reducible assumption) | (simp only [tuX, tuY, tuZz, tuC2, tuC1, tuB1, tuV, tuB, *, cond_true, cond_false]; done) | trace_state
def tubeSd_k : Con Tryz.prog := ⟨75, fun args => match args with | [.agg [.int .i64 5, .flt a, .flt b, .flt c, .flt d, .flt e, .flt f, .flt g, .flt h, .flt i, .flt r, .flt q, .int .i64 s], .agg [.flt x, .flt y, .flt z]] => .ok (some (0 ≤ aloneV d e f)) (.agg [.flt (tuX a b c d e f r x y z), .flt (tuY a b c d e f r x y z), .flt (tuZz a b c d e f r x y z)]) | _ => .no, by
  intro args p r h hp
  split at h
  · cases h; exact tubeSd_a _ _ _ _ _ _ _ _ _ _ _ _ _ _ _ hp
  · cases h⟩
/-- A vector made of the length 1, or nought; nought where the point is too far. -/
def nrE (x y z : Nat) : Int := bif fineB x y z then 0 else 1
def nrB (p q r : Nat) : Bool := fgt (lenV p q r) 0
def nrV (t x y z p q r : Nat) : Nat := bif fineB x y z then (bif nrB p q r then F .quo t (lenV p q r) else 0) else 0
theorem normal1_f : FnOk Tryz.prog 36 Tryz.f36 := ⟨Tryz.func36, by kernel_rfl⟩
theorem normal1_a (a b c d e f g h i r q : Nat) (s : Int) (x y z : Nat) (hpre : shapeE 1 a b c d e f g h i r q s = 0) : ACalls Tryz.prog 36 [.agg [.int .i64 1, .flt a, .flt b, .flt c, .flt d, .flt e, .flt f, .flt g, .flt h, .flt i, .flt r, .flt q, .int .i64 s], .agg [.flt x, .flt y, .flt z]] (.tup [.agg [.flt (nrV (F .sub x a) x y z (F .sub x a) (F .sub y b) (F .sub z c)), .flt (nrV (F .sub y b) x y z (F .sub x a) (F .sub y b) (F .sub z c)), .flt (nrV (F .sub z c) x y z (F .sub x a) (F .sub y b) (F .sub z c))], .int .i64 (nrE x y z)]) := by
  refine acalls_of (inl := hasI (P := Tryz.prog) [] []) (base [shapeMay_k, fine_k, solid1_k, ballNm_k, length_k, over_k] [] []) 0 normal1_f (And.intro (by kernel_rfl) ?_)
  repeat' (first | refine And.intro ?_ ?_ | (with_reducible exact ff_elim) | (with_reducible exact tf_elim) | (intro h; exact absurd h (by decide)) | (intro h; exact absurd hpre (bne_iff_ne.1 h)) | intro _ | (with_reducible rfl) | ((with_reducible refine lk_t ?_); exact rfl) | ((with_reducible refine pf_t ?_); exact rfl) | refine tell ?_ | exact True.intro | (refine IsT.of ?_; kernel_rfl))
  all_goals (try refine Tell.mk ?_)
  all_goals first | with_reducible rfl | with_reducible assumption | (with_reducible refine gb_t ?_; with_reducible assumption) | (with_reducible refine gb_f ?_; with_reducible assumption) | skip
  all_goals first | ((with_reducible refine lk_t ?_); rfl) | ((with_reducible refine okF_t ?_); kernel_rfl) | skip
  all_goals (try simp only [Bool.not_eq_true', Bool.not_eq_false'] at *)
  all_goals first | (simp only [nrE, nrV, nrB, *, cond_true, cond_false]; done) | trace_state
def normal1_k : Con Tryz.prog := ⟨36, fun args => match args with | [.agg [.int .i64 1, .flt a, .flt b, .flt c, .flt d, .flt e, .flt f, .flt g, .flt h, .flt i, .flt r, .flt q, .int .i64 s], .agg [.flt x, .flt y, .flt z]] => .ok (some (shapeE 1 a b c d e f g h i r q s = 0)) (.tup [.agg [.flt (nrV (F .sub x a) x y z (F .sub x a) (F .sub y b) (F .sub z c)), .flt (nrV (F .sub y b) x y z (F .sub x a) (F .sub y b) (F .sub z c)), .flt (nrV (F .sub z c) x y z (F .sub x a) (F .sub y b) (F .sub z c))], .int .i64 (nrE x y z)]) | _ => .no, by
  intro args p r h hp
  split at h
  · cases h; exact normal1_a _ _ _ _ _ _ _ _ _ _ _ _ _ _ _ hp
  · cases h⟩
theorem normalR1_f : FnOk Tryz.prog 38 Tryz.f38 := ⟨Tryz.func38, by kernel_rfl⟩
theorem normalR1_a (a b c d e f g h i r q : Nat) (s : Int) (x y z : Nat) (hpre : shapeE 1 a b c d e f g h i r q s = 0) : ACalls Tryz.prog 38 [.agg [.int .i64 1, .flt a, .flt b, .flt c, .flt d, .flt e, .flt f, .flt g, .flt h, .flt i, .flt r, .flt q, .int .i64 s], .agg [.flt x, .flt y, .flt z]] (.tup [.agg [.flt (nrV (F .sub x a) x y z (F .sub x a) (F .sub y b) (F .sub z c)), .flt (nrV (F .sub y b) x y z (F .sub x a) (F .sub y b) (F .sub z c)), .flt (nrV (F .sub z c) x y z (F .sub x a) (F .sub y b) (F .sub z c))], .int .i64 (nrE x y z)]) := by
  refine acalls_of (inl := hasI (P := Tryz.prog) [] []) (base [shapeMayR_k, fineR_k, subR_k, nearSide_k, tubeSd_k, lengthR_k, overR_k] [] []) 0 normalR1_f (And.intro (by kernel_rfl) ?_)
  repeat' (first | refine And.intro ?_ ?_ | (with_reducible exact ff_elim) | (with_reducible exact tf_elim) | (intro h; exact absurd h (by decide)) | (intro h; exact absurd hpre (bne_iff_ne.1 h)) | intro _ | (with_reducible rfl) | ((with_reducible refine lk_t ?_); exact rfl) | ((with_reducible refine pf_t ?_); exact rfl) | refine tell ?_ | exact True.intro | (refine IsT.of ?_; kernel_rfl))
  all_goals (try refine Tell.mk ?_)
  all_goals first | with_reducible rfl | with_reducible assumption | (with_reducible refine gb_t ?_; with_reducible assumption) | (with_reducible refine gb_f ?_; with_reducible assumption) | skip
  all_goals first | ((with_reducible refine lk_t ?_); rfl) | ((with_reducible refine okF_t ?_); kernel_rfl) | skip
  all_goals (try simp only [Bool.not_eq_true', Bool.not_eq_false'] at *)
  all_goals first | (simp only [nrE, nrV, nrB, *, cond_true, cond_false]; done) | trace_state
def normalR1_k : Con Tryz.prog := ⟨38, fun args => match args with | [.agg [.int .i64 1, .flt a, .flt b, .flt c, .flt d, .flt e, .flt f, .flt g, .flt h, .flt i, .flt r, .flt q, .int .i64 s], .agg [.flt x, .flt y, .flt z]] => .ok (some (shapeE 1 a b c d e f g h i r q s = 0)) (.tup [.agg [.flt (nrV (F .sub x a) x y z (F .sub x a) (F .sub y b) (F .sub z c)), .flt (nrV (F .sub y b) x y z (F .sub x a) (F .sub y b) (F .sub z c)), .flt (nrV (F .sub z c) x y z (F .sub x a) (F .sub y b) (F .sub z c))], .int .i64 (nrE x y z)]) | _ => .no, by
  intro args p r h hp
  split at h
  · cases h; exact normalR1_a _ _ _ _ _ _ _ _ _ _ _ _ _ _ _ hp
  · cases h⟩
theorem normal2_f : FnOk Tryz.prog 36 Tryz.f36 := ⟨Tryz.func36, by kernel_rfl⟩
theorem normal2_a (a b c d e f g h i r q : Nat) (s : Int) (x y z : Nat) (hpre : shapeE 2 a b c d e f g h i r q s = 0) : ACalls Tryz.prog 36 [.agg [.int .i64 2, .flt a, .flt b, .flt c, .flt d, .flt e, .flt f, .flt g, .flt h, .flt i, .flt r, .flt q, .int .i64 s], .agg [.flt x, .flt y, .flt z]] (.tup [.agg [.flt (nrV (sixX (blI a b c d e f x y z)) x y z (sixX (blI a b c d e f x y z)) (sixY (blI a b c d e f x y z)) (sixZ (blI a b c d e f x y z))), .flt (nrV (sixY (blI a b c d e f x y z)) x y z (sixX (blI a b c d e f x y z)) (sixY (blI a b c d e f x y z)) (sixZ (blI a b c d e f x y z))), .flt (nrV (sixZ (blI a b c d e f x y z)) x y z (sixX (blI a b c d e f x y z)) (sixY (blI a b c d e f x y z)) (sixZ (blI a b c d e f x y z)))], .int .i64 (nrE x y z)]) := by
  refine acalls_of (inl := hasI (P := Tryz.prog) [] []) (base [shapeMay_k, fine_k, solid2_k, blockNm_k, length_k, over_k] [] []) 0 normal2_f (And.intro (by kernel_rfl) ?_)
  repeat' (first | refine And.intro ?_ ?_ | (with_reducible exact ff_elim) | (with_reducible exact tf_elim) | (intro h; exact absurd h (by decide)) | (intro h; exact absurd hpre (bne_iff_ne.1 h)) | intro _ | (with_reducible rfl) | ((with_reducible refine lk_t ?_); exact rfl) | ((with_reducible refine pf_t ?_); exact rfl) | refine tell ?_ | exact True.intro | (refine IsT.of ?_; kernel_rfl))
  all_goals (try refine Tell.mk ?_)
  all_goals first | with_reducible rfl | with_reducible assumption | (with_reducible refine gb_t ?_; with_reducible assumption) | (with_reducible refine gb_f ?_; with_reducible assumption) | skip
  all_goals first | ((with_reducible refine lk_t ?_); rfl) | ((with_reducible refine okF_t ?_); kernel_rfl) | skip
  all_goals (try simp only [Bool.not_eq_true', Bool.not_eq_false'] at *)
  all_goals first | (simp only [nrE, nrV, nrB, *, cond_true, cond_false]; done) | trace_state
def normal2_k : Con Tryz.prog := ⟨36, fun args => match args with | [.agg [.int .i64 2, .flt a, .flt b, .flt c, .flt d, .flt e, .flt f, .flt g, .flt h, .flt i, .flt r, .flt q, .int .i64 s], .agg [.flt x, .flt y, .flt z]] => .ok (some (shapeE 2 a b c d e f g h i r q s = 0)) (.tup [.agg [.flt (nrV (sixX (blI a b c d e f x y z)) x y z (sixX (blI a b c d e f x y z)) (sixY (blI a b c d e f x y z)) (sixZ (blI a b c d e f x y z))), .flt (nrV (sixY (blI a b c d e f x y z)) x y z (sixX (blI a b c d e f x y z)) (sixY (blI a b c d e f x y z)) (sixZ (blI a b c d e f x y z))), .flt (nrV (sixZ (blI a b c d e f x y z)) x y z (sixX (blI a b c d e f x y z)) (sixY (blI a b c d e f x y z)) (sixZ (blI a b c d e f x y z)))], .int .i64 (nrE x y z)]) | _ => .no, by
  intro args p r h hp
  split at h
  · cases h; exact normal2_a _ _ _ _ _ _ _ _ _ _ _ _ _ _ _ hp
  · cases h⟩
theorem normalR2_f : FnOk Tryz.prog 38 Tryz.f38 := ⟨Tryz.func38, by kernel_rfl⟩
theorem normalR2_a (a b c d e f g h i r q : Nat) (s : Int) (x y z : Nat) (hpre : shapeE 2 a b c d e f g h i r q s = 0) : ACalls Tryz.prog 38 [.agg [.int .i64 2, .flt a, .flt b, .flt c, .flt d, .flt e, .flt f, .flt g, .flt h, .flt i, .flt r, .flt q, .int .i64 s], .agg [.flt x, .flt y, .flt z]] (.tup [.agg [.flt (nrV (sixX (blI a b c d e f x y z)) x y z (sixX (blI a b c d e f x y z)) (sixY (blI a b c d e f x y z)) (sixZ (blI a b c d e f x y z))), .flt (nrV (sixY (blI a b c d e f x y z)) x y z (sixX (blI a b c d e f x y z)) (sixY (blI a b c d e f x y z)) (sixZ (blI a b c d e f x y z))), .flt (nrV (sixZ (blI a b c d e f x y z)) x y z (sixX (blI a b c d e f x y z)) (sixY (blI a b c d e f x y z)) (sixZ (blI a b c d e f x y z)))], .int .i64 (nrE x y z)]) := by
  refine acalls_of (inl := hasI (P := Tryz.prog) [] []) (base [shapeMayR_k, fineR_k, subR_k, nearSide_k, tubeSd_k, lengthR_k, overR_k] [] []) 0 normalR2_f (And.intro (by kernel_rfl) ?_)
  repeat' (first | refine And.intro ?_ ?_ | (with_reducible exact ff_elim) | (with_reducible exact tf_elim) | (intro h; exact absurd h (by decide)) | (intro h; exact absurd hpre (bne_iff_ne.1 h)) | intro _ | (with_reducible rfl) | ((with_reducible refine lk_t ?_); exact rfl) | ((with_reducible refine pf_t ?_); exact rfl) | refine tell ?_ | exact True.intro | (refine IsT.of ?_; kernel_rfl))
  all_goals (try refine Tell.mk ?_)
  all_goals first | with_reducible rfl | with_reducible assumption | (with_reducible refine gb_t ?_; with_reducible assumption) | (with_reducible refine gb_f ?_; with_reducible assumption) | skip
  all_goals first | ((with_reducible refine lk_t ?_); rfl) | ((with_reducible refine okF_t ?_); kernel_rfl) | skip
  all_goals (try simp only [Bool.not_eq_true', Bool.not_eq_false'] at *)
  all_goals first | (simp only [nrE, nrV, nrB, *, cond_true, cond_false]; done) | trace_state
def normalR2_k : Con Tryz.prog := ⟨38, fun args => match args with | [.agg [.int .i64 2, .flt a, .flt b, .flt c, .flt d, .flt e, .flt f, .flt g, .flt h, .flt i, .flt r, .flt q, .int .i64 s], .agg [.flt x, .flt y, .flt z]] => .ok (some (shapeE 2 a b c d e f g h i r q s = 0)) (.tup [.agg [.flt (nrV (sixX (blI a b c d e f x y z)) x y z (sixX (blI a b c d e f x y z)) (sixY (blI a b c d e f x y z)) (sixZ (blI a b c d e f x y z))), .flt (nrV (sixY (blI a b c d e f x y z)) x y z (sixX (blI a b c d e f x y z)) (sixY (blI a b c d e f x y z)) (sixZ (blI a b c d e f x y z))), .flt (nrV (sixZ (blI a b c d e f x y z)) x y z (sixX (blI a b c d e f x y z)) (sixY (blI a b c d e f x y z)) (sixZ (blI a b c d e f x y z)))], .int .i64 (nrE x y z)]) | _ => .no, by
  intro args p r h hp
  split at h
  · cases h; exact normalR2_a _ _ _ _ _ _ _ _ _ _ _ _ _ _ _ hp
  · cases h⟩
theorem normal5_f : FnOk Tryz.prog 36 Tryz.f36 := ⟨Tryz.func36, by kernel_rfl⟩
theorem normal5_a (a b c d e f g h i r q : Nat) (s : Int) (x y z : Nat) (hpre : shapeE 5 a b c d e f g h i r q s = 0) : ACalls Tryz.prog 36 [.agg [.int .i64 5, .flt a, .flt b, .flt c, .flt d, .flt e, .flt f, .flt g, .flt h, .flt i, .flt r, .flt q, .int .i64 s], .agg [.flt x, .flt y, .flt z]] (.tup [.agg [.flt (nrV (tuX a b c d e f r x y z) x y z (tuX a b c d e f r x y z) (tuY a b c d e f r x y z) (tuZz a b c d e f r x y z)), .flt (nrV (tuY a b c d e f r x y z) x y z (tuX a b c d e f r x y z) (tuY a b c d e f r x y z) (tuZz a b c d e f r x y z)), .flt (nrV (tuZz a b c d e f r x y z) x y z (tuX a b c d e f r x y z) (tuY a b c d e f r x y z) (tuZz a b c d e f r x y z))], .int .i64 (nrE x y z)]) := by
  refine acalls_of (inl := hasI (P := Tryz.prog) [] []) (base [shapeMay_k, fine_k, solid5_k, tubeNm_k, length_k, over_k] [] []) 0 normal5_f (And.intro (by kernel_rfl) ?_)
  repeat' (first | refine And.intro ?_ ?_ | (with_reducible exact ff_elim) | (with_reducible exact tf_elim) | (intro h; exact absurd h (by decide)) | (intro h; exact absurd hpre (bne_iff_ne.1 h)) | intro _ | (with_reducible rfl) | ((with_reducible refine lk_t ?_); exact rfl) | ((with_reducible refine pf_t ?_); exact rfl) | refine tell ?_ | exact True.intro | (refine IsT.of ?_; kernel_rfl))
  all_goals (try refine Tell.mk ?_)
  all_goals first | with_reducible rfl | with_reducible assumption | exact tube_al hpre | (with_reducible refine gb_t ?_; with_reducible assumption) | (with_reducible refine gb_f ?_; with_reducible assumption) | skip
  all_goals first | ((with_reducible refine lk_t ?_); rfl) | ((with_reducible refine okF_t ?_); kernel_rfl) | skip
  all_goals (try simp only [Bool.not_eq_true', Bool.not_eq_false'] at *)
  all_goals first | (simp only [nrE, nrV, nrB, *, cond_true, cond_false]; done) | trace_state
def normal5_k : Con Tryz.prog := ⟨36, fun args => match args with | [.agg [.int .i64 5, .flt a, .flt b, .flt c, .flt d, .flt e, .flt f, .flt g, .flt h, .flt i, .flt r, .flt q, .int .i64 s], .agg [.flt x, .flt y, .flt z]] => .ok (some (shapeE 5 a b c d e f g h i r q s = 0)) (.tup [.agg [.flt (nrV (tuX a b c d e f r x y z) x y z (tuX a b c d e f r x y z) (tuY a b c d e f r x y z) (tuZz a b c d e f r x y z)), .flt (nrV (tuY a b c d e f r x y z) x y z (tuX a b c d e f r x y z) (tuY a b c d e f r x y z) (tuZz a b c d e f r x y z)), .flt (nrV (tuZz a b c d e f r x y z) x y z (tuX a b c d e f r x y z) (tuY a b c d e f r x y z) (tuZz a b c d e f r x y z))], .int .i64 (nrE x y z)]) | _ => .no, by
  intro args p r h hp
  split at h
  · cases h; exact normal5_a _ _ _ _ _ _ _ _ _ _ _ _ _ _ _ hp
  · cases h⟩
theorem normalR5_f : FnOk Tryz.prog 38 Tryz.f38 := ⟨Tryz.func38, by kernel_rfl⟩
theorem normalR5_a (a b c d e f g h i r q : Nat) (s : Int) (x y z : Nat) (hpre : shapeE 5 a b c d e f g h i r q s = 0) : ACalls Tryz.prog 38 [.agg [.int .i64 5, .flt a, .flt b, .flt c, .flt d, .flt e, .flt f, .flt g, .flt h, .flt i, .flt r, .flt q, .int .i64 s], .agg [.flt x, .flt y, .flt z]] (.tup [.agg [.flt (nrV (tuX a b c d e f r x y z) x y z (tuX a b c d e f r x y z) (tuY a b c d e f r x y z) (tuZz a b c d e f r x y z)), .flt (nrV (tuY a b c d e f r x y z) x y z (tuX a b c d e f r x y z) (tuY a b c d e f r x y z) (tuZz a b c d e f r x y z)), .flt (nrV (tuZz a b c d e f r x y z) x y z (tuX a b c d e f r x y z) (tuY a b c d e f r x y z) (tuZz a b c d e f r x y z))], .int .i64 (nrE x y z)]) := by
  refine acalls_of (inl := hasI (P := Tryz.prog) [] []) (base [shapeMayR_k, fineR_k, subR_k, nearSide_k, tubeSd_k, lengthR_k, overR_k] [] []) 0 normalR5_f (And.intro (by kernel_rfl) ?_)
  repeat' (first | refine And.intro ?_ ?_ | (with_reducible exact ff_elim) | (with_reducible exact tf_elim) | (intro h; exact absurd h (by decide)) | (intro h; exact absurd hpre (bne_iff_ne.1 h)) | intro _ | (with_reducible rfl) | ((with_reducible refine lk_t ?_); exact rfl) | ((with_reducible refine pf_t ?_); exact rfl) | refine tell ?_ | exact True.intro | (refine IsT.of ?_; kernel_rfl))
  all_goals (try refine Tell.mk ?_)
  all_goals first | with_reducible rfl | with_reducible assumption | exact tube_al hpre | (with_reducible refine gb_t ?_; with_reducible assumption) | (with_reducible refine gb_f ?_; with_reducible assumption) | skip
  all_goals first | ((with_reducible refine lk_t ?_); rfl) | ((with_reducible refine okF_t ?_); kernel_rfl) | skip
  all_goals (try simp only [Bool.not_eq_true', Bool.not_eq_false'] at *)
  all_goals first | (simp only [nrE, nrV, nrB, *, cond_true, cond_false]; done) | trace_state
def normalR5_k : Con Tryz.prog := ⟨38, fun args => match args with | [.agg [.int .i64 5, .flt a, .flt b, .flt c, .flt d, .flt e, .flt f, .flt g, .flt h, .flt i, .flt r, .flt q, .int .i64 s], .agg [.flt x, .flt y, .flt z]] => .ok (some (shapeE 5 a b c d e f g h i r q s = 0)) (.tup [.agg [.flt (nrV (tuX a b c d e f r x y z) x y z (tuX a b c d e f r x y z) (tuY a b c d e f r x y z) (tuZz a b c d e f r x y z)), .flt (nrV (tuY a b c d e f r x y z) x y z (tuX a b c d e f r x y z) (tuY a b c d e f r x y z) (tuZz a b c d e f r x y z)), .flt (nrV (tuZz a b c d e f r x y z) x y z (tuX a b c d e f r x y z) (tuY a b c d e f r x y z) (tuZz a b c d e f r x y z))], .int .i64 (nrE x y z)]) | _ => .no, by
  intro args p r h hp
  split at h
  · cases h; exact normalR5_a _ _ _ _ _ _ _ _ _ _ _ _ _ _ _ hp
  · cases h⟩
end Go.Proofs.YtgbcnfcgljbbgaaGreat
/- Solids: what stands on them. -/
namespace Go.Proofs.YtgbcnfcgljbbgaaGreat
open Go.RowKit Ev Flt
set_option linter.unusedVariables false
set_option linter.unusedSimpArgs false
set_option maxRecDepth 20000
set_option maxHeartbeats 4000000

def vecA (x y z : Nat) : AV := .agg [.flt x, .flt y, .flt z]
def pnX (p : Shp) (x y z : Nat) : Nat := if p.k = 1 then F .sub x p.a else if p.k = 2 then sixX (blI p.a p.b p.c p.d p.e p.f x y z) else tuX p.a p.b p.c p.d p.e p.f p.r x y z
def pnY (p : Shp) (x y z : Nat) : Nat := if p.k = 1 then F .sub y p.b else if p.k = 2 then sixY (blI p.a p.b p.c p.d p.e p.f x y z) else tuY p.a p.b p.c p.d p.e p.f p.r x y z
def pnZ (p : Shp) (x y z : Nat) : Nat := if p.k = 1 then F .sub z p.c else if p.k = 2 then sixZ (blI p.a p.b p.c p.d p.e p.f x y z) else tuZz p.a p.b p.c p.d p.e p.f p.r x y z
def pnV (t : Nat) (p : Shp) (x y z : Nat) : Nat := nrV t x y z (pnX p x y z) (pnY p x y z) (pnZ p x y z)
def pnR (p : Shp) (x y z : Nat) : AV := .tup [.agg [.flt (pnV (pnX p x y z) p x y z), .flt (pnV (pnY p x y z) p x y z), .flt (pnV (pnZ p x y z) p x y z)], .int .i64 (nrE x y z)]
theorem normal_p (p : Shp) (x y z : Nat) (h : p.bod) : ACalls Tryz.prog 36 [shpA p, vecA x y z] (pnR p x y z) := by
  obtain ⟨hk, he⟩ := h
  obtain ⟨k, a, b, c, d, e, f, g, hh, i, rr, q, s⟩ := p
  unfold Shp.err at he
  unfold shpA vecA pnR pnV pnX pnY pnZ
  dsimp only at *
  rcases hk with rfl | rfl | rfl
  · exact normal1_a a b c d e f g hh i rr q s x y z he
  · exact normal2_a a b c d e f g hh i rr q s x y z he
  · exact normal5_a a b c d e f g hh i rr q s x y z he
theorem normalR_p (p : Shp) (x y z : Nat) (h : p.bod) : ACalls Tryz.prog 38 [shpA p, vecA x y z] (pnR p x y z) := by
  obtain ⟨hk, he⟩ := h
  obtain ⟨k, a, b, c, d, e, f, g, hh, i, rr, q, s⟩ := p
  unfold Shp.err at he
  unfold shpA vecA pnR pnV pnX pnY pnZ
  dsimp only at *
  rcases hk with rfl | rfl | rfl
  · exact normalR1_a a b c d e f g hh i rr q s x y z he
  · exact normalR2_a a b c d e f g hh i rr q s x y z he
  · exact normalR5_a a b c d e f g hh i rr q s x y z he
def normal_k (x y z : Nat) : Con Tryz.prog := ⟨36, fun args => match args with
    | [.agg l, _] => .ok (some (args = [shpA (shpOf l), vecA x y z] ∧ (shpOf l).bod)) (.tup [.agg [.flt (pnV (pnX (shpOf l) x y z) (shpOf l) x y z), .flt (pnV (pnY (shpOf l) x y z) (shpOf l) x y z), .flt (pnV (pnZ (shpOf l) x y z) (shpOf l) x y z)], .int .i64 (nrE x y z)])
    | _ => .no, by
  intro args q u h hp
  split at h
  · cases h
    obtain ⟨h1, h2⟩ := hp
    rw [h1]
    exact normal_p _ x y z h2
  · cases h⟩
def normalR_k (x y z : Nat) : Con Tryz.prog := ⟨38, fun args => match args with
    | [.agg l, _] => .ok (some (args = [shpA (shpOf l), vecA x y z] ∧ (shpOf l).bod)) (.tup [.agg [.flt (pnV (pnX (shpOf l) x y z) (shpOf l) x y z), .flt (pnV (pnY (shpOf l) x y z) (shpOf l) x y z), .flt (pnV (pnZ (shpOf l) x y z) (shpOf l) x y z)], .int .i64 (nrE x y z)])
    | _ => .no, by
  intro args q u h hp
  split at h
  · cases h
    obtain ⟨h1, h2⟩ := hp
    rw [h1]
    exact normalR_p _ x y z h2
  · cases h⟩
theorem view_shpE {nm : Bool} {P : Nat → Prt} {e : Int} {K : AV → Prop} (h : nameE nm (shpA (P e.toNat).p) K) :
    nameE nm (.agg (List.map (fun j => partF P (mulN e.toNat 16 + (3 + j))) (List.range (Tab.cx.ti 59).size))) K := by
  have := view_shp (i := e.toNat) h
  rwa [Int.toNat_natCast] at this
theorem view1_op {P : Nat → Prt} {e : Int} {K : AV → Prop} (h : force1 (.int .i64 (P e.toNat).op) K) : force1 (partF P (mulN e.toNat 16 + (0 + 0))) K := by
  have : partF P (mulN e.toNat 16 + (0 + 0)) = .int .i64 (P e.toNat).op := by rw [mulN_eq]; exact part_at P e.toNat 0 (by decide)
  rw [this]; exact h
/-- Whether a leaf is named. -/
def snB (n : Nat) (P : Nat → Prt) (l : Int) : Prop := 0 ≤ l ∧ l < (n : Int) ∧ (P l.toNat).op = 0
theorem sn_no {n : Nat} {P : Nat → Prt} {l : Int} (h : (decide (l < 0) || decide (l ≥ (n : Int)) || (P l.toNat).op != 0) = true) : ¬ snB n P l := fun ⟨a, b, c⟩ => by
  rw [Bool.or_eq_true, Bool.or_eq_true, decide_eq_true_eq, decide_eq_true_eq, bne_iff_ne] at h
  omega
theorem sn_yes {n : Nat} {P : Nat → Prt} {l : Int} (h : (decide (l < 0) || decide (l ≥ (n : Int)) || (P l.toNat).op != 0) = false) : snB n P l := by
  rw [Bool.or_eq_false_iff, Bool.or_eq_false_iff, decide_eq_false_iff_not, decide_eq_false_iff_not, bne_eq_false_iff_eq] at h
  exact ⟨by omega, by omega, h.2⟩
theorem sn_bod {n : Nat} {P : Nat → Prt} {s l : Int} (hS : solidE n P s = 0) (h : snB n P l) : (P l.toNat).p.bod := by
  obtain ⟨h1, h2, h3⟩ := h
  rcases part_op ((solid_ok hS).2 l.toNat (by omega)) with g | g
  · exact ⟨g.2.2, g.2.1⟩
  · omega
instance (n : Nat) (P : Nat → Prt) (l : Int) : Decidable (snB n P l) := inferInstanceAs (Decidable (0 ≤ l ∧ l < (n : Int) ∧ (P l.toNat).op = 0))
def snE (n : Nat) (P : Nat → Prt) (s l : Int) (x y z : Nat) : Int := if solidE n P s = 0 then (if snB n P l then nrE x y z else 9) else solidE n P s
def snX (n : Nat) (P : Nat → Prt) (s l : Int) (u : Bool) (x y z : Nat) : Nat := if solidE n P s = 0 ∧ snB n P l then (bif nrE x y z == 0 && u then F .mul (pnV (pnX (P l.toNat).p x y z) (P l.toNat).p x y z) 13830554455654793216 else pnV (pnX (P l.toNat).p x y z) (P l.toNat).p x y z) else 0
def snY (n : Nat) (P : Nat → Prt) (s l : Int) (u : Bool) (x y z : Nat) : Nat := if solidE n P s = 0 ∧ snB n P l then (bif nrE x y z == 0 && u then F .mul (pnV (pnY (P l.toNat).p x y z) (P l.toNat).p x y z) 13830554455654793216 else pnV (pnY (P l.toNat).p x y z) (P l.toNat).p x y z) else 0
def snZ (n : Nat) (P : Nat → Prt) (s l : Int) (u : Bool) (x y z : Nat) : Nat := if solidE n P s = 0 ∧ snB n P l then (bif nrE x y z == 0 && u then F .mul (pnV (pnZ (P l.toNat).p x y z) (P l.toNat).p x y z) 13830554455654793216 else pnV (pnZ (P l.toNat).p x y z) (P l.toNat).p x y z) else 0
theorem normS_f : FnOk Tryz.prog 15 Tryz.f15 := ⟨Tryz.func15, by kernel_rfl⟩
theorem normS_a (n : Nat) (P : Nat → Prt) (s : Int) (t : Nat) (l : Int) (u : Bool) (x y z : Nat) : ACalls Tryz.prog 15 [.agg [.sl n 16 (partF P), .int .i64 s], .agg [.flt t, .int .i64 l, .bool u], .agg [.flt x, .flt y, .flt z]] (.tup [.agg [.flt (snX n P s l u x y z), .flt (snY n P s l u x y z), .flt (snZ n P s l u x y z)], .int .i64 (snE n P s l x y z)]) := by
  refine acalls_of (inl := hasI (P := Tryz.prog) [] [(solidMay_mc n P s)]) (base [(normal_k x y z), scale_k] [] [(solidMay_mc n P s)]) 0 normS_f (And.intro (by kernel_rfl) ?_)
  repeat' (first | refine And.intro ?_ ?_ | (with_reducible exact ff_elim) | (with_reducible exact tf_elim) | refine view_shpE ?_ | refine view1_op ?_ | refine num_elim ?_ | intro _ | (with_reducible rfl) | ((with_reducible refine lk_t ?_); exact rfl) | ((with_reducible refine pf_t ?_); exact rfl) | refine tell ?_ | exact True.intro | (refine IsT.of ?_; kernel_rfl))
  all_goals (try refine Tell.mk ?_)
  all_goals first | with_reducible rfl | with_reducible assumption | (with_reducible refine gb_t ?_; with_reducible assumption) | (with_reducible refine gb_f ?_; with_reducible assumption) | skip
  all_goals first | (show (_ : List AV) = [AV.agg _, AV.agg _]; rfl) | skip
  all_goals first | (have hB := sn_no (n := n) (P := P) (l := l) (by assumption)) | (have hB := sn_yes (n := n) (P := P) (l := l) (by assumption)) | skip
  all_goals (try simp only [shpOf_eta, bne_iff_ne, ne_eq, bne_eq_false_iff_eq, gbT, gbF, Bool.not_eq_true', Bool.not_eq_false'] at *)
  all_goals first | (have hb := sn_bod (by assumption : solidE n P s = 0) hB; exact hb.1) | (have hb := sn_bod (by assumption : solidE n P s = 0) hB; exact hb.2) | exact hB.1 | exact hB.2.1 | (simp only [Bool.or_eq_false_iff, decide_eq_false_iff_not] at *; omega) | omega | (simp [snE, snX, snY, snZ, *]; done) | (show 13 ≤ _; decide) | trace_state
theorem normR_f : FnOk Tryz.prog 16 Tryz.f16 := ⟨Tryz.func16, by kernel_rfl⟩
theorem normR_a (n : Nat) (P : Nat → Prt) (s : Int) (t : Nat) (l : Int) (u : Bool) (x y z : Nat) : ACalls Tryz.prog 16 [.agg [.sl n 16 (partF P), .int .i64 s], .agg [.flt t, .int .i64 l, .bool u], .agg [.flt x, .flt y, .flt z]] (.tup [.agg [.flt (snX n P s l u x y z), .flt (snY n P s l u x y z), .flt (snZ n P s l u x y z)], .int .i64 (snE n P s l x y z)]) := by
  refine acalls_of (inl := hasI (P := Tryz.prog) [] [(solidMayR_mc n P s)]) (base [(normalR_k x y z), scaleR_k] [] [(solidMayR_mc n P s)]) 0 normR_f (And.intro (by kernel_rfl) ?_)
  repeat' (first | refine And.intro ?_ ?_ | (with_reducible exact ff_elim) | (with_reducible exact tf_elim) | refine view_shpE ?_ | refine view1_op ?_ | refine num_elim ?_ | intro _ | (with_reducible rfl) | ((with_reducible refine lk_t ?_); exact rfl) | ((with_reducible refine pf_t ?_); exact rfl) | refine tell ?_ | exact True.intro | (refine IsT.of ?_; kernel_rfl))
  all_goals (try refine Tell.mk ?_)
  all_goals first | with_reducible rfl | with_reducible assumption | (with_reducible refine gb_t ?_; with_reducible assumption) | (with_reducible refine gb_f ?_; with_reducible assumption) | skip
  all_goals first | (show (_ : List AV) = [AV.agg _, AV.agg _]; rfl) | skip
  all_goals first | (have hB := sn_no (n := n) (P := P) (l := l) (by assumption)) | (have hB := sn_yes (n := n) (P := P) (l := l) (by assumption)) | skip
  all_goals (try simp only [shpOf_eta, bne_iff_ne, ne_eq, bne_eq_false_iff_eq, gbT, gbF, Bool.not_eq_true', Bool.not_eq_false'] at *)
  all_goals first | (have hb := sn_bod (by assumption : solidE n P s = 0) hB; exact hb.1) | (have hb := sn_bod (by assumption : solidE n P s = 0) hB; exact hb.2) | exact hB.1 | exact hB.2.1 | (simp only [Bool.or_eq_false_iff, decide_eq_false_iff_not] at *; omega) | omega | (simp [snE, snX, snY, snZ, *]; done) | (show 13 ≤ _; decide) | trace_state
end Go.Proofs.YtgbcnfcgljbbgaaGreat
/- Solids: their law, on arguments opened. -/
namespace Go.Proofs.YtgbcnfcgljbbgaaGreat
open Go.RowKit Ev Flt
set_option linter.unusedVariables false
set_option linter.unusedSimpArgs false
set_option maxRecDepth 20000
set_option maxHeartbeats 4000000

def boxO (n : Nat) (P : Nat → Prt) (s : Int) : Bx := if solidE n P s = 0 then solB P n else ⟨0, 0, 0, 0, 0, 0⟩
theorem boundS_f : FnOk Tryz.prog 5 Tryz.f5 := ⟨Tryz.func5, by kernel_rfl⟩
theorem boundS_a (n : Nat) (P : Nat → Prt) (s : Int) : ACalls Tryz.prog 5 [.agg [.sl n 16 (partF P), .int .i64 s]] (.tup [.agg [.flt (boxO n P s).a, .flt (boxO n P s).b, .flt (boxO n P s).c, .flt (boxO n P s).d, .flt (boxO n P s).e, .flt (boxO n P s).f], .int .i64 (solidE n P s)]) := by
  refine acalls_of (inl := hasI (P := Tryz.prog) [] [(solidMay_mc n P s)]) (base [(bndsP_k n P s)] [] [(solidMay_mc n P s)]) 0 boundS_f (And.intro (by kernel_rfl) ?_)
  repeat' (first | refine And.intro ?_ ?_ | (with_reducible exact ff_elim) | (with_reducible exact tf_elim) | intro _ | (with_reducible rfl) | ((with_reducible refine lk_t ?_); exact rfl) | ((with_reducible refine pf_t ?_); exact rfl) | refine tell ?_ | exact True.intro | (refine IsT.of ?_; kernel_rfl))
  all_goals (try refine Tell.mk ?_)
  all_goals first | with_reducible rfl | with_reducible assumption | (with_reducible refine gb_t ?_; with_reducible assumption) | (with_reducible refine gb_f ?_; with_reducible assumption) | skip
  all_goals first | (show (_ : List AV) = [AV.sl _ _ _]; rfl) | skip
  all_goals (try simp only [bne_iff_ne, ne_eq, bne_eq_false_iff_eq, beq_iff_eq, beq_eq_false_iff_ne, Decidable.not_not] at *)
  all_goals first | assumption | contradiction | (simp [boxO, *]; done) | trace_state
theorem boundR_f : FnOk Tryz.prog 6 Tryz.f6 := ⟨Tryz.func6, by kernel_rfl⟩
theorem boundR_a (n : Nat) (P : Nat → Prt) (s : Int) : ACalls Tryz.prog 6 [.agg [.sl n 16 (partF P), .int .i64 s]] (.tup [.agg [.flt (boxO n P s).a, .flt (boxO n P s).b, .flt (boxO n P s).c, .flt (boxO n P s).d, .flt (boxO n P s).e, .flt (boxO n P s).f], .int .i64 (solidE n P s)]) := by
  refine acalls_of (inl := hasI (P := Tryz.prog) [] [(solidMayR_mc n P s)]) (base [(boxRf_k n P s)] [] [(solidMayR_mc n P s)]) 0 boundR_f (And.intro (by kernel_rfl) ?_)
  repeat' (first | refine And.intro ?_ ?_ | (with_reducible exact ff_elim) | (with_reducible exact tf_elim) | intro _ | (with_reducible rfl) | ((with_reducible refine lk_t ?_); exact rfl) | ((with_reducible refine pf_t ?_); exact rfl) | refine tell ?_ | exact True.intro | (refine IsT.of ?_; kernel_rfl))
  all_goals (try refine Tell.mk ?_)
  all_goals first | with_reducible rfl | with_reducible assumption | (with_reducible refine gb_t ?_; with_reducible assumption) | (with_reducible refine gb_f ?_; with_reducible assumption) | skip
  all_goals first | (show (_ : List AV) = [AV.sl _ _ _]; rfl) | skip
  all_goals (try simp only [bne_iff_ne, ne_eq, bne_eq_false_iff_eq, beq_iff_eq, beq_eq_false_iff_ne, Decidable.not_not] at *)
  all_goals first | assumption | contradiction | (simp [boxO, *]; done) | trace_state
theorem sameCr_f : FnOk Tryz.prog 12 Tryz.f12 := ⟨Tryz.func12, by kernel_rfl⟩
theorem sameCr_a (a : Nat) (l : Int) (u : Bool) (b : Nat) (m : Int) (v : Bool) : ACalls Tryz.prog 12 [.agg [.flt a, .int .i64 l, .bool u], .agg [.flt b, .int .i64 m, .bool v]] (.bool ((sameV a b && (l == m)) && (u == v))) := by
  refine acalls_of (inl := hasI (P := Tryz.prog) [] []) (base [same_k] [] []) 0 sameCr_f (And.intro (by kernel_rfl) ?_)
  repeat' (first | refine And.intro ?_ ?_ | (with_reducible exact ff_elim) | (with_reducible exact tf_elim) | intro _ | (with_reducible rfl) | ((with_reducible refine lk_t ?_); exact rfl) | ((with_reducible refine pf_t ?_); exact rfl) | refine tell ?_ | exact True.intro | (refine IsT.of ?_; kernel_rfl))
  all_goals ((try refine Tell.mk ?_); first | with_reducible rfl | ((show (_ : Int) ≤ _); decide) | ((show (_ : Int) < _); decide) | (with_reducible refine gb_t ?_; with_reducible assumption) | with_reducible assumption | (with_reducible refine gb_f ?_; with_reducible assumption) | (simp only [gb, *, cond_true, cond_false]; done) | ((with_reducible refine ks_t ?_); rfl) | ((with_reducible refine pk_t ?_); rfl) | ((with_reducible refine pf_t ?_); rfl) | ((with_reducible refine lk_t ?_); rfl) | ((with_reducible refine okF_t ?_); kernel_rfl) | grind [gb])
def sameCr_k : Con Tryz.prog := ⟨12, fun args => match args with | [.agg [.flt a, .int .i64 l, .bool u], .agg [.flt b, .int .i64 m, .bool v]] => .ok (none) (.bool ((sameV a b && (l == m)) && (u == v))) | _ => .no, by
  intro args p r h hp
  split at h
  · cases h; exact sameCr_a _ _ _ _ _ _
  · cases h⟩
def boundS_k (n : Nat) (P : Nat → Prt) (s : Int) : Con Tryz.prog := ⟨5, fun args => .ok (some (args = [solA n P s])) (.tup [.agg [.flt (boxO n P s).a, .flt (boxO n P s).b, .flt (boxO n P s).c, .flt (boxO n P s).d, .flt (boxO n P s).e, .flt (boxO n P s).f], .int .i64 (solidE n P s)]), by
  intro args p u h hp
  cases h
  have hp : args = [solA n P s] := hp
  rw [hp]
  exact boundS_a n P s⟩
def boundR_k (n : Nat) (P : Nat → Prt) (s : Int) : Con Tryz.prog := ⟨6, fun args => .ok (some (args = [solA n P s])) (.tup [.agg [.flt (boxO n P s).a, .flt (boxO n P s).b, .flt (boxO n P s).c, .flt (boxO n P s).d, .flt (boxO n P s).e, .flt (boxO n P s).f], .int .i64 (solidE n P s)]), by
  intro args p u h hp
  cases h
  have hp : args = [solA n P s] := hp
  rw [hp]
  exact boundR_a n P s⟩
def strikeS_k (n : Nat) (P : Nat → Prt) (s : Int) (r : Ray) : Con Tryz.prog := ⟨13, fun args => .ok (some (args = [solA n P s, rayA r])) (.tup [.agg [.flt (strC n P s r).t, .int .i64 (strC n P s r).l, .bool (strC n P s r).u], .bool (strO n P s r), .int .i64 (spE n P s r)]), by
  intro args p u h hp
  cases h
  have hp : args = [solA n P s, rayA r] := hp
  rw [hp]
  exact strikeS_a n P s r⟩
def strikeR_k (n : Nat) (P : Nat → Prt) (s : Int) (r : Ray) : Con Tryz.prog := ⟨14, fun args => .ok (some (args = [solA n P s, rayA r])) (.tup [.agg [.flt (strC n P s r).t, .int .i64 (strC n P s r).l, .bool (strC n P s r).u], .bool (strO n P s r), .int .i64 (spE n P s r)]), by
  intro args p u h hp
  cases h
  have hp : args = [solA n P s, rayA r] := hp
  rw [hp]
  exact strikeR_a n P s r⟩
def normS_k (n : Nat) (P : Nat → Prt) (s : Int) (t : Nat) (l : Int) (u : Bool) (x y z : Nat) : Con Tryz.prog := ⟨15, fun args => .ok (some (args = [solA n P s, .agg [.flt t, .int .i64 l, .bool u], vecA x y z])) (.tup [.agg [.flt (snX n P s l u x y z), .flt (snY n P s l u x y z), .flt (snZ n P s l u x y z)], .int .i64 (snE n P s l x y z)]), by
  intro args p q h hp
  cases h
  have hp : args = [solA n P s, .agg [.flt t, .int .i64 l, .bool u], vecA x y z] := hp
  rw [hp]
  exact normS_a n P s t l u x y z⟩
def normR_k (n : Nat) (P : Nat → Prt) (s : Int) (t : Nat) (l : Int) (u : Bool) (x y z : Nat) : Con Tryz.prog := ⟨16, fun args => .ok (some (args = [solA n P s, .agg [.flt t, .int .i64 l, .bool u], vecA x y z])) (.tup [.agg [.flt (snX n P s l u x y z), .flt (snY n P s l u x y z), .flt (snZ n P s l u x y z)], .int .i64 (snE n P s l x y z)]), by
  intro args p q h hp
  cases h
  have hp : args = [solA n P s, .agg [.flt t, .int .i64 l, .bool u], vecA x y z] := hp
  rw [hp]
  exact normR_a n P s t l u x y z⟩
theorem view1_d {sz sz' o : Nat} {row : Nat → List AV} {i : Nat} {K : AV → Prop} (hs : Nat.ble (o + sz') sz = true) (hl : (row i).length = sz) (h : force1 (.agg (((row i).drop o).take sz')) K) :
    force1 (.agg (List.map (fun j => flatF sz row (mulN (i : Int).toNat sz + (o + j))) (List.range sz'))) K := by
  have e : List.map (fun j => flatF sz row (mulN (i : Int).toNat sz + (o + j))) (List.range sz') = ((row i).drop o).take sz' := by
    have hs := Nat.le_of_ble_eq_true hs
    rw [mulN_eq, Int.toNat_natCast]
    apply List.ext_getElem
    · simp [hl]; omega
    · intro c h1 h2
      simp only [List.getElem_map, List.getElem_range, List.getElem_take, List.getElem_drop]
      have hc : c < sz' := by simpa using h1
      rw [flat_at (by omega), List.getD_eq_getElem?_getD, List.getElem?_eq_getElem (by omega)]; rfl
  rw [e]; exact h
structure SLI (m : Nat) where
  k : Nat
  hk : k ≤ m
theorem solidSays_f : FnOk Tryz.prog 3 Tryz.f3 := ⟨Tryz.func3, by kernel_rfl⟩
theorem solidSays_a (n : Nat) (P : Nat → Prt) (s : Int) (r : Ray) (t : Nat) (l : Int) (u : Bool) (x y z : Nat) : ACalls Tryz.prog 3 [.agg [.sl n 16 (partF P), .int .i64 s], .agg [.flt r.x, .flt r.y, .flt r.z, .flt r.u, .flt r.v, .flt r.w, .flt r.l], .agg [.flt t, .int .i64 l, .bool u], .agg [.flt x, .flt y, .flt z]] (.bool true) := by
  refine acalls_of (inl := hasI (P := Tryz.prog) [] [(solidMay_mc n P s), (solidMayR_mc n P s)]) (base [samebox_k, samevec_k, sameCr_k, (boundS_k n P s), (boundR_k n P s), (spansP_k n P s r), (spansR_k n P s r), (strikeS_k n P s r), (strikeR_k n P s r), (normS_k n P s t l u x y z), (normR_k n P s t l u x y z)] [] [(solidMay_mc n P s), (solidMayR_mc n P s)]) 0 solidSays_f (And.intro (by kernel_rfl) ?_)
  have hl := spV_len n P s r
  repeat' (first | refine And.intro ?_ ?_ | (with_reducible exact ff_elim) | (with_reducible exact tf_elim) | refine num_elim ?_ | intro _ | (with_reducible rfl) | ((with_reducible refine lk_t ?_); exact rfl) | ((with_reducible refine pf_t ?_); exact rfl) | refine tell ?_ | exact True.intro | (refine IsT.of ?_; kernel_rfl))
  all_goals (try (refine loop_keep [4, 5, 6, 7, 13, 14] [0, 1, 2, 3] ?_; refine LoopI.mk (SLI (spV n P s r).length) (fun j => [(15, .int .i64 j.k)]) (fun j => []) (fun j => (spV n P s r).length - j.k) (⟨0, Nat.zero_le _⟩) (wk_mk [some 0, some 1, some 2, some 3] ?_) (fun ⟨k, hk⟩ => ?_)))
  repeat' (first | refine And.intro ?_ ?_ | (with_reducible exact ff_elim) | (with_reducible exact tf_elim) | refine stp_mk [some 0, some 1, some 2, some 3] ((⟨k + 1, ?_⟩ : SLI (spV n P s r).length)) ?_ ?_ | refine view_flat rfl rfl ?_ | refine view_take (by rfl) rfl ?_ | refine view_drop (by rfl) rfl ?_ | refine view_cell (by rfl) ?_ | refine view_rd (by rfl) rfl ?_ | refine view_rc (by rfl) ?_ | refine view1_c (by rfl) ?_ | refine view1_0 (by rfl) ?_ | refine view_f0 rfl rfl ?_ | refine view1_d (by rfl) rfl ?_ | refine num_elim ?_ | intro _ | (with_reducible rfl) | ((with_reducible refine lk_t ?_); exact rfl) | ((with_reducible refine pf_t ?_); exact rfl) | refine tell ?_ | exact True.intro | (refine IsT.of ?_; kernel_rfl))
  all_goals (try refine Tell.mk ?_)
  all_goals (try dsimp only at *)
  all_goals first | with_reducible rfl | with_reducible assumption | (with_reducible refine gb_t ?_; with_reducible assumption) | (with_reducible refine gb_f ?_; with_reducible assumption) | skip
  all_goals first | (show (_ : List AV) = [AV.agg _, AV.agg _, AV.agg _]; rfl) | (show (_ : List AV) = [AV.agg _, AV.agg _]; rfl) | (show (_ : List AV) = [AV.agg _]; rfl) | skip
  all_goals (try simp only [bne_self_eq_false, sameV_refl, beq_self_eq_true, Bool.and_self, Bool.not_true, Bool.or_self, Bool.false_eq_true, reduceCtorEq, cond_true, cond_false, bne_iff_ne, ne_eq, not_true_eq_false] at *)
  all_goals (try (have hlt : k < (spV n P s r).length := lt_of (by assumption)))
  all_goals first | contradiction | assumption | (show 3 ≤ _; decide) | rfl | omega | (rw [wrapI (by omega) (by omega)]; omega) | trace_state
end Go.Proofs.YtgbcnfcgljbbgaaGreat
/- The law of solids, as the arguments of a law are opened. -/
namespace Go.Proofs.YtgbcnfcgljbbgaaGreat
open Go.RowKit Ev
set_option linter.unusedVariables false
set_option linter.unusedSimpArgs false
set_option maxRecDepth 20000
set_option maxHeartbeats 4000000

def iOf : AV → Int
  | .int _ n => n
  | _ => 0
def fOf : AV → Nat
  | .flt x => x
  | _ => 0
def prtOf (g : Nat → AV) (i : Nat) : Prt := ⟨iOf (g (i * 16 + 0)), iOf (g (i * 16 + 1)), iOf (g (i * 16 + 2)), ⟨iOf (g (i * 16 + 3)), fOf (g (i * 16 + 4)), fOf (g (i * 16 + 5)), fOf (g (i * 16 + 6)), fOf (g (i * 16 + 7)), fOf (g (i * 16 + 8)), fOf (g (i * 16 + 9)), fOf (g (i * 16 + 10)), fOf (g (i * 16 + 11)), fOf (g (i * 16 + 12)), fOf (g (i * 16 + 13)), fOf (g (i * 16 + 14)), iOf (g (i * 16 + 15))⟩⟩
theorem shS_at {m : Nat} {cs : List CS} {g : Nat → AV} (h : ∀ j, Shape (cs.getD (j % m) .other) (g j)) (i c : Nat) (hc : Nat.blt c m = true) : Shape (cs.getD c .other) (g (i * m + c)) := by
  have hc := Nat.le_of_ble_eq_true hc
  have := h (i * m + c)
  rwa [Nat.mul_comm, Nat.mul_add_mod, Nat.mod_eq_of_lt hc, Nat.mul_comm] at this
theorem flatS_of {m : Nat} (hm : 0 < m) {g : Nat → AV} {row : Nat → List AV} (h : ∀ i c, c < m → (row i).getD c .any = g (i * m + c)) : g = flatF m row := by
  funext j
  unfold flatF
  rw [h (j / m) (j % m) (Nat.mod_lt _ hm)]
  congr 1
  rw [Nat.mul_comm]; exact (Nat.div_add_mod j m).symm
theorem shS_int {k : IntKind} {v : AV} (h : Shape (.int k) v) : AV.int k (iOf v) = v := by obtain ⟨n, rfl, _⟩ := h; rfl
theorem shS_flt {v : AV} (h : Shape .flt v) : AV.flt (fOf v) = v := by obtain ⟨n, rfl, _⟩ := h; rfl
theorem partS_of {g : Nat → AV} (w : ∀ j, Shape (List.getD [.int .i64, .int .i64, .int .i64, .int .i64, .flt, .flt, .flt, .flt, .flt, .flt, .flt, .flt, .flt, .flt, .flt, .int .i64] (j % 16) .other) (g j)) : partF (prtOf g) = g := by
  have e : g = flatF 16 fun i => (prtOf g i).row := by
    refine flatS_of (by decide) fun i c hc => ?_
    match c, hc with
    | 0, _ => exact shS_int (shS_at w i 0 rfl)
    | 1, _ => exact shS_int (shS_at w i 1 rfl)
    | 2, _ => exact shS_int (shS_at w i 2 rfl)
    | 3, _ => exact shS_int (shS_at w i 3 rfl)
    | 4, _ => exact shS_flt (shS_at w i 4 rfl)
    | 5, _ => exact shS_flt (shS_at w i 5 rfl)
    | 6, _ => exact shS_flt (shS_at w i 6 rfl)
    | 7, _ => exact shS_flt (shS_at w i 7 rfl)
    | 8, _ => exact shS_flt (shS_at w i 8 rfl)
    | 9, _ => exact shS_flt (shS_at w i 9 rfl)
    | 10, _ => exact shS_flt (shS_at w i 10 rfl)
    | 11, _ => exact shS_flt (shS_at w i 11 rfl)
    | 12, _ => exact shS_flt (shS_at w i 12 rfl)
    | 13, _ => exact shS_flt (shS_at w i 13 rfl)
    | 14, _ => exact shS_flt (shS_at w i 14 rfl)
    | 15, _ => exact shS_int (shS_at w i 15 rfl)
    | c + 16, hc => omega
  funext j
  have e1 := congrFun e j
  rw [e1]
  unfold partF flatF
  have : j % 16 < 16 := Nat.mod_lt _ (by decide)
  generalize j % 16 = c at *
  match c, this with
  | 0, _ => rfl
  | 1, _ => rfl
  | 2, _ => rfl
  | 3, _ => rfl
  | 4, _ => rfl
  | 5, _ => rfl
  | 6, _ => rfl
  | 7, _ => rfl
  | 8, _ => rfl
  | 9, _ => rfl
  | 10, _ => rfl
  | 11, _ => rfl
  | 12, _ => rfl
  | 13, _ => rfl
  | 14, _ => rfl
  | 15, _ => rfl
  | c + 16, hc => omega
theorem solidSaysG_f : FnOk Tryz.prog 3 Tryz.f3 := solidSays_f
theorem solidSaysG_a (n : Nat) (g : Nat → AV) (w : ∀ j, Shape (List.getD [.int .i64, .int .i64, .int .i64, .int .i64, .flt, .flt, .flt, .flt, .flt, .flt, .flt, .flt, .flt, .flt, .flt, .int .i64] (j % 16) .other) (g j)) (s : Int) (a0 a1 a2 a3 a4 a5 a6 t : Nat) (l : Int) (u : Bool) (x y z : Nat) :
    ACalls Tryz.prog 3 [.agg [.sl n 16 g, .int .i64 s], .agg [.flt a0, .flt a1, .flt a2, .flt a3, .flt a4, .flt a5, .flt a6], .agg [.flt t, .int .i64 l, .bool u], .agg [.flt x, .flt y, .flt z]] (.bool true) := by
  have := solidSays_a n (prtOf g) s ⟨a0, a1, a2, a3, a4, a5, a6⟩ t l u x y z
  rwa [partS_of w] at this
end Go.Proofs.YtgbcnfcgljbbgaaGreat
