/- Films as bytes: numbers and checks. -/
import Derived.Test.YtehjhfifldefiaaFilmA
namespace Go.Proofs.Ytehjhfifldefiaa
open Go.RowKit Ev
set_option linter.unusedVariables false
set_option linter.unusedSimpArgs false
set_option maxRecDepth 20000
set_option maxHeartbeats 4000000

def U8s (B : Nat → Int) : Prop := ∀ j, 0 ≤ B j ∧ B j < 256
def getW (B : Nat → Int) : Nat → Int
  | 0 => 0
  | n + 1 => getW B n * 256 + B n
@[irreducible] def getV (B : Nat → Int) (n : Nat) : Int := getW B n
theorem getV_0 (B : Nat → Int) : getV B 0 = 0 := by unfold getV; rfl
theorem getV_s (B : Nat → Int) (n : Nat) : getV B (n + 1) = getV B n * 256 + B n := by unfold getV; rfl
theorem getV_bd {B : Nat → Int} (h : U8s B) : ∀ n, 0 ≤ getV B n ∧ getV B n < ((256 ^ n : Nat) : Int)
  | 0 => by rw [getV_0]; decide
  | n + 1 => by
    have a := getV_bd h n
    have b := h n
    rw [getV_s, Nat.pow_succ]
    omega
theorem getV_lt {B : Nat → Int} (h : U8s B) {n : Nat} (hn : n ≤ 6) : 0 ≤ getV B n ∧ getV B n < 281474976710656 := by
  have a := getV_bd h n
  have b : 256 ^ n ≤ 256 ^ 6 := Nat.pow_le_pow_right (by decide) hn
  have c : (256 : Nat) ^ 6 = 281474976710656 := by decide
  omega
theorem or_add {x c : Int} (h0 : 0 ≤ x) (h1 : x < 281474976710656) (c0 : 0 ≤ c) (c1 : c < 256) : bitsA .or .i64 (x * 256) c = x * 256 + c := by
  obtain ⟨a, rfl⟩ := Int.eq_ofNat_of_zero_le h0
  obtain ⟨d, rfl⟩ := Int.eq_ofNat_of_zero_le c0
  have ha : a < 281474976710656 := by omega
  have hd : d < 256 := by omega
  have e : (a * 256) ||| d = a * 256 + d := by
    have := Nat.shiftLeft_add_eq_or_of_lt (i := 8) (b := d) (by omega) a
    rw [Nat.shiftLeft_eq, show (2 : Nat) ^ 8 = 256 by decide] at this
    omega
  have e1 : (BitVec.ofInt IntKind.i64.bits ((a : Int) * 256) ||| BitVec.ofInt IntKind.i64.bits (d : Int)).toNat = a * 256 + d := by
    have f1 : (BitVec.ofInt IntKind.i64.bits ((a : Int) * 256)).toNat = a * 256 := by
      have : ((a : Int) * 256) = ((a * 256 : Nat) : Int) := by omega
      rw [this, BitVec.ofInt_natCast, BitVec.toNat_ofNat]
      exact Nat.mod_eq_of_lt (by show a * 256 < 2 ^ 64; omega)
    have f2 : (BitVec.ofInt IntKind.i64.bits (d : Int)).toNat = d := by
      rw [BitVec.ofInt_natCast, BitVec.toNat_ofNat]
      exact Nat.mod_eq_of_lt (by show d < 2 ^ 64; omega)
    rw [BitVec.toNat_or, f1, f2, e]
  show IntKind.i64.wrap ((BitVec.ofInt IntKind.i64.bits ((a : Int) * 256) ||| BitVec.ofInt IntKind.i64.bits (d : Int)).toNat : Nat) = _
  rw [e1, wrapI (by omega) (by omega)]
  omega
theorem getV_or {B : Nat → Int} (h : U8s B) {n : Nat} (hn : n ≤ 6) : bitsA .or .i64 (IntKind.i64.wrap (getV B n * 256)) (IntKind.i64.wrap (B n)) = getV B (n + 1) := by
  have a := getV_lt h hn
  have b := h n
  rw [wrapI (by omega) (by omega), wrapI (by omega) (by omega), or_add a.1 a.2 b.1 b.2, getV_s]
theorem getV_add {B : Nat → Int} (h : U8s B) {n : Nat} (hn : n ≤ 6) : IntKind.i64.wrap (IntKind.i64.wrap (getV B n * 256) + IntKind.i64.wrap (B n)) = getV B (n + 1) := by
  have a := getV_lt h hn
  have b := h n
  rw [wrapI (x := getV B n * 256) (by omega) (by omega), wrapI (x := B n) (by omega) (by omega), wrapI (by omega) (by omega), getV_s]
def sumW (B : Nat → Int) : Nat → Int
  | 0 => 1
  | n + 1 => IntKind.u32.wrap (bitsA .xor .u32 (sumW B n) (IntKind.u32.wrap (B n)) * 16777619)
@[irreducible] def sumV (B : Nat → Int) (n : Nat) : Int := sumW B n
theorem sumV_0 (B : Nat → Int) : sumV B 0 = 1 := by unfold sumV; rfl
theorem sumV_s (B : Nat → Int) (n : Nat) : sumV B (n + 1) = IntKind.u32.wrap (bitsA .xor .u32 (sumV B n) (IntKind.u32.wrap (B n)) * 16777619) := by unfold sumV; rfl
theorem get_f : FnOk Try.prog 20 Try.f20 := ⟨Try.func20, by kernel_rfl⟩
theorem get_a (n : Nat) (B : Nat → Int) (hpre : n ≤ 7 ∧ U8s B) : ACalls Try.prog 20 [ints .u8 n B] (.int .i64 (getV B n)) := by
  refine acalls_of (inl := hasI (P := Try.prog) [] []) (base [] [] []) 0 get_f (And.intro (by kernel_rfl) ?_)
  repeat' (first | refine And.intro ?_ ?_ | (with_reducible exact ff_elim) | (with_reducible exact tf_elim) | refine num_elim ?_ | intro _ | (with_reducible rfl) | ((with_reducible refine lk_t ?_); exact rfl) | ((with_reducible refine pf_t ?_); exact rfl) | refine tell ?_ | exact True.intro | (refine IsT.of ?_; kernel_rfl))
  all_goals (try (refine loop_keep [6, 7] [] ?_; refine LoopI.mk ({i : Nat // i ≤ n}) (fun i => [(8, .int .i64 i.1), (3, .int .i64 (getV B i.1))]) (fun _ => []) (fun i => n - i.1) (⟨0, Nat.zero_le _⟩) (wk_mk [] ?_) (fun ⟨i, hi⟩ => ?_)))
  repeat' (first | refine And.intro ?_ ?_ | (with_reducible exact ff_elim) | (with_reducible exact tf_elim) | refine stp_mk [] (⟨i + 1, ?_⟩) ?_ ?_ | refine num_elim ?_ | intro _ | (with_reducible rfl) | ((with_reducible refine lk_t ?_); exact rfl) | ((with_reducible refine pf_t ?_); exact rfl) | refine tell ?_ | exact True.intro | (refine IsT.of ?_; kernel_rfl))
  all_goals (try refine Tell.mk ?_)
  all_goals first | with_reducible rfl | with_reducible exact isI_mk | with_reducible assumption | (with_reducible refine gb_t ?_; with_reducible assumption) | (with_reducible refine gb_f ?_; with_reducible assumption) | ((with_reducible refine lk_t ?_); rfl) | ((with_reducible refine okF_t ?_); kernel_rfl) | ((with_reducible refine ks_t ?_); rfl) | ((with_reducible refine pk_t ?_); rfl) | ((with_reducible refine pf_t ?_); rfl) | skip
  all_goals (try dsimp only at *)
  all_goals (try simp only [decide_eq_true_eq, decide_eq_false_iff_not, Bool.or_eq_true, Bool.or_eq_false_iff, Bool.and_eq_true, Bool.and_eq_false_iff, Bool.not_eq_true', Bool.not_eq_false', bne_iff_ne, ne_eq, beq_iff_eq, bne_eq_false_iff_eq, beq_eq_false_iff_ne, Int.not_lt, Int.not_le, gt_iff_lt, ge_iff_le] at *)
  all_goals (try simp only [mulN1, Nat.add_zero, Nat.zero_add, Nat.mul_one, Int.toNat_natCast, avInt_int] at *)
  all_goals first | with_reducible rfl | with_reducible exact nums_N | omega | ((with_reducible refine by_le 1 rfl ?_); omega) | ((with_reducible refine by_le 8 rfl ?_); omega) | (rw [wrapI (by omega) (by omega)] <;> omega) | skip
  all_goals first | with_reducible rfl | exact (getV_or hpre.2 (by omega)).symm | exact (getV_add hpre.2 (by omega)).symm | exact getV_0 _ | exact sumV_0 _ | exact sumV_s _ _ | exact (getV_0 _).symm | exact (sumV_0 _).symm | exact (sumV_s _ _).symm | ((obtain rfl : i = n := (by omega)); rfl)
def get_r (n : Nat) (B : Nat → Int) : AV := .int .i64 (getV B n)
def get_p (n : Nat) (B : Nat → Int) : Prop := n ≤ 7 ∧ U8s B
def get_k : Con Try.prog := ⟨20, fun args => match args with | [.sl n 1 g_B] => .ok (some (IsI .u8 g_B ∧ get_p n (intF g_B))) (get_r n (intF g_B)) | _ => .no, by
  intro args p r h hp
  split at h
  · cases h; obtain ⟨h_B, hp⟩ := hp; have e_B := h_B.eq; rw [e_B]; exact get_a _ _ hp
  · cases h⟩
theorem numberOf_f : FnOk Try.prog 23 Try.f23 := ⟨Try.func23, by kernel_rfl⟩
theorem numberOf_a (n : Nat) (B : Nat → Int) (hpre : n ≤ 7 ∧ U8s B) : ACalls Try.prog 23 [ints .u8 n B] (.int .i64 (getV B n)) := by
  refine acalls_of (inl := hasI (P := Try.prog) [] []) (base [] [] []) 0 numberOf_f (And.intro (by kernel_rfl) ?_)
  repeat' (first | refine And.intro ?_ ?_ | (with_reducible exact ff_elim) | (with_reducible exact tf_elim) | refine num_elim ?_ | intro _ | (with_reducible rfl) | ((with_reducible refine lk_t ?_); exact rfl) | ((with_reducible refine pf_t ?_); exact rfl) | refine tell ?_ | exact True.intro | (refine IsT.of ?_; kernel_rfl))
  all_goals (try (refine loop_keep [0] [] ?_; refine LoopI.mk ({i : Nat // i ≤ n}) (fun i => [(4, .int .i64 i.1), (3, .int .i64 (getV B i.1))]) (fun _ => []) (fun i => n - i.1) (⟨0, Nat.zero_le _⟩) (wk_mk [] ?_) (fun ⟨i, hi⟩ => ?_)))
  repeat' (first | refine And.intro ?_ ?_ | (with_reducible exact ff_elim) | (with_reducible exact tf_elim) | refine stp_mk [] (⟨i + 1, ?_⟩) ?_ ?_ | refine num_elim ?_ | intro _ | (with_reducible rfl) | ((with_reducible refine lk_t ?_); exact rfl) | ((with_reducible refine pf_t ?_); exact rfl) | refine tell ?_ | exact True.intro | (refine IsT.of ?_; kernel_rfl))
  all_goals (try refine Tell.mk ?_)
  all_goals first | with_reducible rfl | with_reducible exact isI_mk | with_reducible assumption | (with_reducible refine gb_t ?_; with_reducible assumption) | (with_reducible refine gb_f ?_; with_reducible assumption) | ((with_reducible refine lk_t ?_); rfl) | ((with_reducible refine okF_t ?_); kernel_rfl) | ((with_reducible refine ks_t ?_); rfl) | ((with_reducible refine pk_t ?_); rfl) | ((with_reducible refine pf_t ?_); rfl) | skip
  all_goals (try dsimp only at *)
  all_goals (try simp only [decide_eq_true_eq, decide_eq_false_iff_not, Bool.or_eq_true, Bool.or_eq_false_iff, Bool.and_eq_true, Bool.and_eq_false_iff, Bool.not_eq_true', Bool.not_eq_false', bne_iff_ne, ne_eq, beq_iff_eq, bne_eq_false_iff_eq, beq_eq_false_iff_ne, Int.not_lt, Int.not_le, gt_iff_lt, ge_iff_le] at *)
  all_goals (try simp only [mulN1, Nat.add_zero, Nat.zero_add, Nat.mul_one, Int.toNat_natCast, avInt_int] at *)
  all_goals first | with_reducible rfl | with_reducible exact nums_N | omega | ((with_reducible refine by_le 1 rfl ?_); omega) | ((with_reducible refine by_le 8 rfl ?_); omega) | (rw [wrapI (by omega) (by omega)] <;> omega) | skip
  all_goals first | with_reducible rfl | exact (getV_or hpre.2 (by omega)).symm | exact (getV_add hpre.2 (by omega)).symm | exact getV_0 _ | exact sumV_0 _ | exact sumV_s _ _ | exact (getV_0 _).symm | exact (sumV_0 _).symm | exact (sumV_s _ _).symm | ((obtain rfl : i = n := (by omega)); rfl)
def numberOf_r (n : Nat) (B : Nat → Int) : AV := .int .i64 (getV B n)
def numberOf_p (n : Nat) (B : Nat → Int) : Prop := n ≤ 7 ∧ U8s B
def numberOf_k : Con Try.prog := ⟨23, fun args => match args with | [.sl n 1 g_B] => .ok (some (IsI .u8 g_B ∧ numberOf_p n (intF g_B))) (numberOf_r n (intF g_B)) | _ => .no, by
  intro args p r h hp
  split at h
  · cases h; obtain ⟨h_B, hp⟩ := hp; have e_B := h_B.eq; rw [e_B]; exact numberOf_a _ _ hp
  · cases h⟩
theorem sumB_f : FnOk Try.prog 21 Try.f21 := ⟨Try.func21, by kernel_rfl⟩
theorem sumB_a (n : Nat) (B : Nat → Int) : ACalls Try.prog 21 [ints .u8 n B] (.int .u32 (sumV B n)) := by
  refine acalls_len fun hlen => ?_
  simp only [lenV, len1, lenV0, len0, and_true, true_and] at hlen
  refine acalls_of (inl := hasI (P := Try.prog) [] []) (base [] [] []) 0 sumB_f (And.intro (by kernel_rfl) ?_)
  repeat' (first | refine And.intro ?_ ?_ | (with_reducible exact ff_elim) | (with_reducible exact tf_elim) | refine num_elim ?_ | intro _ | (with_reducible rfl) | ((with_reducible refine lk_t ?_); exact rfl) | ((with_reducible refine pf_t ?_); exact rfl) | refine tell ?_ | exact True.intro | (refine IsT.of ?_; kernel_rfl))
  all_goals (try (refine loop_keep [6, 7] [] ?_; refine LoopI.mk ({i : Nat // i ≤ n}) (fun i => [(8, .int .i64 i.1), (3, .int .u32 (sumV B i.1))]) (fun _ => []) (fun i => n - i.1) (⟨0, Nat.zero_le _⟩) (wk_mk [] ?_) (fun ⟨i, hi⟩ => ?_)))
  repeat' (first | refine And.intro ?_ ?_ | (with_reducible exact ff_elim) | (with_reducible exact tf_elim) | refine stp_mk [] (⟨i + 1, ?_⟩) ?_ ?_ | refine num_elim ?_ | intro _ | (with_reducible rfl) | ((with_reducible refine lk_t ?_); exact rfl) | ((with_reducible refine pf_t ?_); exact rfl) | refine tell ?_ | exact True.intro | (refine IsT.of ?_; kernel_rfl))
  all_goals (try refine Tell.mk ?_)
  all_goals first | with_reducible rfl | with_reducible exact isI_mk | with_reducible assumption | (with_reducible refine gb_t ?_; with_reducible assumption) | (with_reducible refine gb_f ?_; with_reducible assumption) | ((with_reducible refine lk_t ?_); rfl) | ((with_reducible refine okF_t ?_); kernel_rfl) | ((with_reducible refine ks_t ?_); rfl) | ((with_reducible refine pk_t ?_); rfl) | ((with_reducible refine pf_t ?_); rfl) | skip
  all_goals (try dsimp only at *)
  all_goals (try simp only [decide_eq_true_eq, decide_eq_false_iff_not, Bool.or_eq_true, Bool.or_eq_false_iff, Bool.and_eq_true, Bool.and_eq_false_iff, Bool.not_eq_true', Bool.not_eq_false', bne_iff_ne, ne_eq, beq_iff_eq, bne_eq_false_iff_eq, beq_eq_false_iff_ne, Int.not_lt, Int.not_le, gt_iff_lt, ge_iff_le] at *)
  all_goals (try simp only [mulN1, Nat.add_zero, Nat.zero_add, Nat.mul_one, Int.toNat_natCast, avInt_int] at *)
  all_goals first | with_reducible rfl | with_reducible exact nums_N | omega | ((with_reducible refine by_le 1 rfl ?_); omega) | ((with_reducible refine by_le 8 rfl ?_); omega) | (rw [wrapI (by omega) (by omega)] <;> omega) | skip
  all_goals first | with_reducible rfl | exact (getV_or hpre.2 (by omega)).symm | exact (getV_add hpre.2 (by omega)).symm | exact getV_0 _ | exact sumV_0 _ | exact sumV_s _ _ | exact (getV_0 _).symm | exact (sumV_0 _).symm | exact (sumV_s _ _).symm | ((obtain rfl : i = n := (by omega)); rfl)
def sumB_r (n : Nat) (B : Nat → Int) : AV := .int .u32 (sumV B n)
def sumB_k : Con Try.prog := ⟨21, fun args => match args with | [.sl n 1 g_B] => .ok (some (IsI .u8 g_B)) (sumB_r n (intF g_B)) | _ => .no, by
  intro args p r h hp
  split at h
  · cases h; have h_B := hp; have e_B := h_B.eq; rw [e_B]; exact sumB_a _ _
  · cases h⟩
theorem sumOf_f : FnOk Try.prog 24 Try.f24 := ⟨Try.func24, by kernel_rfl⟩
theorem sumOf_a (n : Nat) (B : Nat → Int) : ACalls Try.prog 24 [ints .u8 n B] (.int .i64 (IntKind.i64.wrap (sumV B n))) := by
  refine acalls_len fun hlen => ?_
  simp only [lenV, len1, lenV0, len0, and_true, true_and] at hlen
  refine acalls_of (inl := hasI (P := Try.prog) [] []) (base [] [] []) 0 sumOf_f (And.intro (by kernel_rfl) ?_)
  repeat' (first | refine And.intro ?_ ?_ | (with_reducible exact ff_elim) | (with_reducible exact tf_elim) | refine num_elim ?_ | intro _ | (with_reducible rfl) | ((with_reducible refine lk_t ?_); exact rfl) | ((with_reducible refine pf_t ?_); exact rfl) | refine tell ?_ | exact True.intro | (refine IsT.of ?_; kernel_rfl))
  all_goals (try (refine loop_keep [0] [] ?_; refine LoopI.mk ({i : Nat // i ≤ n}) (fun i => [(4, .int .i64 i.1), (3, .int .u32 (sumV B i.1))]) (fun _ => []) (fun i => n - i.1) (⟨0, Nat.zero_le _⟩) (wk_mk [] ?_) (fun ⟨i, hi⟩ => ?_)))
  repeat' (first | refine And.intro ?_ ?_ | (with_reducible exact ff_elim) | (with_reducible exact tf_elim) | refine stp_mk [] (⟨i + 1, ?_⟩) ?_ ?_ | refine num_elim ?_ | intro _ | (with_reducible rfl) | ((with_reducible refine lk_t ?_); exact rfl) | ((with_reducible refine pf_t ?_); exact rfl) | refine tell ?_ | exact True.intro | (refine IsT.of ?_; kernel_rfl))
  all_goals (try refine Tell.mk ?_)
  all_goals first | with_reducible rfl | with_reducible exact isI_mk | with_reducible assumption | (with_reducible refine gb_t ?_; with_reducible assumption) | (with_reducible refine gb_f ?_; with_reducible assumption) | ((with_reducible refine lk_t ?_); rfl) | ((with_reducible refine okF_t ?_); kernel_rfl) | ((with_reducible refine ks_t ?_); rfl) | ((with_reducible refine pk_t ?_); rfl) | ((with_reducible refine pf_t ?_); rfl) | skip
  all_goals (try dsimp only at *)
  all_goals (try simp only [decide_eq_true_eq, decide_eq_false_iff_not, Bool.or_eq_true, Bool.or_eq_false_iff, Bool.and_eq_true, Bool.and_eq_false_iff, Bool.not_eq_true', Bool.not_eq_false', bne_iff_ne, ne_eq, beq_iff_eq, bne_eq_false_iff_eq, beq_eq_false_iff_ne, Int.not_lt, Int.not_le, gt_iff_lt, ge_iff_le] at *)
  all_goals (try simp only [mulN1, Nat.add_zero, Nat.zero_add, Nat.mul_one, Int.toNat_natCast, avInt_int] at *)
  all_goals first | with_reducible rfl | with_reducible exact nums_N | omega | ((with_reducible refine by_le 1 rfl ?_); omega) | ((with_reducible refine by_le 8 rfl ?_); omega) | (rw [wrapI (by omega) (by omega)] <;> omega) | skip
  all_goals first | with_reducible rfl | exact (getV_or hpre.2 (by omega)).symm | exact (getV_add hpre.2 (by omega)).symm | exact getV_0 _ | exact sumV_0 _ | exact sumV_s _ _ | exact (getV_0 _).symm | exact (sumV_0 _).symm | exact (sumV_s _ _).symm | ((obtain rfl : i = n := (by omega)); rfl)
def sumOf_r (n : Nat) (B : Nat → Int) : AV := .int .i64 (IntKind.i64.wrap (sumV B n))
def sumOf_k : Con Try.prog := ⟨24, fun args => match args with | [.sl n 1 g_B] => .ok (some (IsI .u8 g_B)) (sumOf_r n (intF g_B)) | _ => .no, by
  intro args p r h hp
  split at h
  · cases h; have h_B := hp; have e_B := h_B.eq; rw [e_B]; exact sumOf_a _ _
  · cases h⟩
end Go.Proofs.Ytehjhfifldefiaa
