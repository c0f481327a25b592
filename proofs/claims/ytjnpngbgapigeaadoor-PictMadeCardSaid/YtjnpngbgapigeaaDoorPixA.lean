/- Pictures: what may be; parts of pixels. -/
import Derived.Test.YtjnpngbgapigeaaDoorEvLoop
import Derived.Test.YtjnpngbgapigeaaDoorTab
namespace Go.Proofs.YtjnpngbgapigeaaDoor
open Go.RowKit Ev
set_option linter.unusedVariables false
set_option linter.unusedSimpArgs false
set_option maxRecDepth 20000
set_option maxHeartbeats 4000000

theorem base (l : List (Con Tryd.prog)) (m : List (Inl Tryd.prog)) (k : List (MCon Tryd.prog)) : Base Tryd.prog Tab.cx (conW l k) (inlL m) (mcL k) := ⟨Tab.cx_ok, conW_ok l k, by kernel_rfl, inlL_ok m, mcL_ok k⟩
def U8s (B : Nat → Int) : Prop := ∀ j, 0 ≤ B j ∧ B j < 256
theorem U8s.of_wf {F : Nat → Int} (h : ∀ j, (Lit.int .u8 (F j)).wf = true) : U8s F := fun j => by
  have a := h j
  simp [Lit.wf, IntKind.min, IntKind.max, IntKind.signed, IntKind.bits] at a
  omega
theorem u8w (y : Int) : IntKind.u8.wrap y = y % 256 := by
  simp only [IntKind.wrap, IntKind.signed, IntKind.bits]
  simp
/-- Sides of a picture. -/
def Side (w h : Int) : Prop := 1 ≤ w ∧ w ≤ 64 ∧ 1 ≤ h ∧ h ≤ 64
instance (w h : Int) : Decidable (Side w h) := inferInstanceAs (Decidable (1 ≤ w ∧ w ≤ 64 ∧ 1 ≤ h ∧ h ≤ 64))
theorem Side.wh {w h : Int} (e : Side w h) : 1 ≤ w * h ∧ w * h ≤ 4096 ∧ 4 * w * h = 4 * (w * h) := by
  obtain ⟨a, b, c, d⟩ := e
  have h0 : 1 * 1 ≤ w * h := Int.mul_le_mul a c (by omega) (by omega)
  have h1 : w * h ≤ 64 * 64 := Int.mul_le_mul b d (by omega) (by omega)
  exact ⟨by omega, by omega, Int.mul_assoc _ _ _⟩
theorem Side.wraps {w h : Int} (e : Side w h) : IntKind.i64.wrap (w * h) = w * h ∧ IntKind.i64.wrap (4 * (w * h)) = 4 * (w * h) ∧ IntKind.i64.wrap (4 * w) = 4 * w := by
  have := e.wh
  obtain ⟨a, b, c, d⟩ := e
  exact ⟨wrapI (by omega) (by omega), wrapI (by omega) (by omega), wrapI (by omega) (by omega)⟩
@[irreducible] def picE (w h : Int) (n : Nat) : Int := if Side w h then (if (n : Int) = 4 * (w * h) then 0 else 5) else 4
theorem picE4 {w h : Int} {n : Nat} (h1 : ¬ Side w h) : picE w h n = 4 := by unfold picE; exact if_neg h1
theorem picE5 {w h : Int} {n : Nat} (h1 : Side w h) (h2 : ¬ (n : Int) = 4 * (w * h)) : picE w h n = 5 := by unfold picE; rw [if_pos h1, if_neg h2]
theorem picE0 {w h : Int} {n : Nat} (h1 : Side w h) (h2 : (n : Int) = 4 * (w * h)) : picE w h n = 0 := by unfold picE; rw [if_pos h1, if_pos h2]
theorem picE_ok {w h : Int} {n : Nat} (h0 : picE w h n = 0) : Side w h ∧ (n : Int) = 4 * (w * h) := by
  unfold picE at h0
  split at h0
  · split at h0
    · exact ⟨‹_›, ‹_›⟩
    · omega
  · omega
theorem mayP_f : FnOk Tryd.prog 28 Tryd.f28 := ⟨Tryd.func28, by kernel_rfl⟩
theorem mayP_a (w h : Int) (n : Nat) (A : Nat → Int) : ACalls Tryd.prog 28 [.agg [.int .i64 w, .int .i64 h, ints .u8 n A]] (.int .i64 (picE w h n)) := by
  refine acalls_len fun hlen => ?_
  simp only [lenV, len1, lenV0, len0, and_true, true_and] at hlen
  refine acalls_of (inl := hasI (P := Tryd.prog) [] []) (base [] [] []) 0 mayP_f (And.intro (by kernel_rfl) ?_)
  repeat' (first | refine And.intro ?_ ?_ | (with_reducible exact ff_elim) | (with_reducible exact tf_elim) | refine num_elim ?_ | intro _ | (with_reducible rfl) | ((with_reducible refine lk_t ?_); exact rfl) | ((with_reducible refine pf_t ?_); exact rfl) | refine tell ?_ | exact True.intro | (refine IsT.of ?_; kernel_rfl))
  all_goals (try refine Tell.mk ?_)
  all_goals first | with_reducible rfl | with_reducible exact isI_mk | with_reducible assumption | (with_reducible refine gb_t ?_; with_reducible assumption) | (with_reducible refine gb_f ?_; with_reducible assumption) | ((with_reducible refine lk_t ?_); rfl) | ((with_reducible refine okF_t ?_); kernel_rfl) | ((with_reducible refine ks_t ?_); rfl) | ((with_reducible refine pk_t ?_); rfl) | ((with_reducible refine pf_t ?_); rfl) | skip
  all_goals (try dsimp only at *)
  all_goals (try simp only [decide_eq_true_eq, decide_eq_false_iff_not, Bool.or_eq_true, Bool.or_eq_false_iff, Bool.and_eq_true, Bool.and_eq_false_iff, Bool.not_eq_true', Bool.not_eq_false', bne_iff_ne, ne_eq, beq_iff_eq, bne_eq_false_iff_eq, beq_eq_false_iff_ne, Int.not_lt, Int.not_le, gt_iff_lt, ge_iff_le] at *)
  all_goals (try simp only [mulN1, Nat.add_zero, Nat.zero_add, Nat.mul_one, Int.toNat_natCast, avInt_int] at *)
  all_goals first | with_reducible rfl | with_reducible exact nums_N | omega | ((with_reducible refine by_le 1 rfl ?_); omega) | ((with_reducible refine by_le 8 rfl ?_); omega) | (rw [wrapI (by omega) (by omega)] <;> omega) | skip
  all_goals first | exact picE4 (by unfold Side; omega) | skip
  all_goals have hs : Side w h := by unfold Side; omega
  all_goals (have hz := hs.wraps; have hy := hs.wh; obtain ⟨z1, z2, z3⟩ := hz; simp only [z1, z2, z3, hs.wh.2.2] at *)
  all_goals first | exact picE5 hs (by omega) | exact picE0 hs (by omega)
def mayP_r (w h : Int) (n : Nat) (A : Nat → Int) : AV := .int .i64 (picE w h n)
def mayP_k : Con Tryd.prog := ⟨28, fun args => match args with | [.agg [.int .i64 w, .int .i64 h, .sl n 1 g_A]] => .ok (some (IsI .u8 g_A)) (mayP_r w h n (intF g_A)) | _ => .no, by
  intro args p r h hp
  split at h
  · cases h; have h_A := hp; have e_A := h_A.eq; rw [e_A]; exact mayP_a _ _ _ _
  · cases h⟩
theorem mayPR_f : FnOk Tryd.prog 30 Tryd.f30 := ⟨Tryd.func30, by kernel_rfl⟩
theorem mayPR_a (w h : Int) (n : Nat) (A : Nat → Int) : ACalls Tryd.prog 30 [.agg [.int .i64 w, .int .i64 h, ints .u8 n A]] (.int .i64 (picE w h n)) := by
  refine acalls_len fun hlen => ?_
  simp only [lenV, len1, lenV0, len0, and_true, true_and] at hlen
  refine acalls_of (inl := hasI (P := Tryd.prog) [] []) (base [] [] []) 0 mayPR_f (And.intro (by kernel_rfl) ?_)
  repeat' (first | refine And.intro ?_ ?_ | (with_reducible exact ff_elim) | (with_reducible exact tf_elim) | refine num_elim ?_ | intro _ | (with_reducible rfl) | ((with_reducible refine lk_t ?_); exact rfl) | ((with_reducible refine pf_t ?_); exact rfl) | refine tell ?_ | exact True.intro | (refine IsT.of ?_; kernel_rfl))
  all_goals (try refine Tell.mk ?_)
  all_goals first | with_reducible rfl | with_reducible exact isI_mk | with_reducible assumption | (with_reducible refine gb_t ?_; with_reducible assumption) | (with_reducible refine gb_f ?_; with_reducible assumption) | ((with_reducible refine lk_t ?_); rfl) | ((with_reducible refine okF_t ?_); kernel_rfl) | ((with_reducible refine ks_t ?_); rfl) | ((with_reducible refine pk_t ?_); rfl) | ((with_reducible refine pf_t ?_); rfl) | skip
  all_goals (try dsimp only at *)
  all_goals (try simp only [decide_eq_true_eq, decide_eq_false_iff_not, Bool.or_eq_true, Bool.or_eq_false_iff, Bool.and_eq_true, Bool.and_eq_false_iff, Bool.not_eq_true', Bool.not_eq_false', bne_iff_ne, ne_eq, beq_iff_eq, bne_eq_false_iff_eq, beq_eq_false_iff_ne, Int.not_lt, Int.not_le, gt_iff_lt, ge_iff_le] at *)
  all_goals (try simp only [mulN1, Nat.add_zero, Nat.zero_add, Nat.mul_one, Int.toNat_natCast, avInt_int] at *)
  all_goals first | with_reducible rfl | with_reducible exact nums_N | omega | ((with_reducible refine by_le 1 rfl ?_); omega) | ((with_reducible refine by_le 8 rfl ?_); omega) | (rw [wrapI (by omega) (by omega)] <;> omega) | skip
  all_goals first | exact picE4 (by unfold Side; omega) | skip
  all_goals have hs : Side w h := by unfold Side; omega
  all_goals (have hz := hs.wraps; have hy := hs.wh; obtain ⟨z1, z2, z3⟩ := hz; simp only [z1, z2, z3, hs.wh.2.2] at *)
  all_goals first | exact picE5 hs (by omega) | exact picE0 hs (by omega)
def mayPR_r (w h : Int) (n : Nat) (A : Nat → Int) : AV := .int .i64 (picE w h n)
def mayPR_k : Con Tryd.prog := ⟨30, fun args => match args with | [.agg [.int .i64 w, .int .i64 h, .sl n 1 g_A]] => .ok (some (IsI .u8 g_A)) (mayPR_r w h n (intF g_A)) | _ => .no, by
  intro args p r h hp
  split at h
  · cases h; have h_A := hp; have e_A := h_A.eq; rw [e_A]; exact mayPR_a _ _ _ _
  · cases h⟩
/-- No colour is above its cover. -/
def okP (A : Nat → Int) (q : Nat) : Prop := A (4 * q) ≤ A (4 * q + 3) ∧ A (4 * q + 1) ≤ A (4 * q + 3) ∧ A (4 * q + 2) ≤ A (4 * q + 3)
instance (A : Nat → Int) (q : Nat) : Decidable (okP A q) := inferInstanceAs (Decidable (_ ∧ _ ∧ _))
def okN (A : Nat → Int) : Nat → Bool
  | 0 => true
  | n + 1 => okN A n && decide (okP A n)
theorem okN_iff {A : Nat → Int} : ∀ {n : Nat}, okN A n = true ↔ ∀ i, i < n → okP A i
  | 0 => ⟨fun _ i h => by omega, fun _ => rfl⟩
  | n + 1 => by
    unfold okN
    rw [Bool.and_eq_true, decide_eq_true_eq, okN_iff (n := n)]
    refine ⟨fun h i hi => ?_, fun h => ⟨fun i hi => h i (by omega), h n (by omega)⟩⟩
    rcases Nat.lt_or_eq_of_le (Nat.le_of_lt_succ hi) with h' | h'
    · exact h.1 i h'
    · subst h'; exact h.2
@[irreducible] def okPs (A : Nat → Int) (n : Nat) : Prop := okN A n = true
theorem okPs_iff {A : Nat → Int} {n : Nat} : okPs A n ↔ ∀ i, i < n → okP A i := by unfold okPs; exact okN_iff
@[irreducible] def bmE (w h : Int) (n : Nat) (A : Nat → Int) : Int :=
  if picE w h n = 0 then (if okN A (n / 4) = true then 0 else 6) else picE w h n
theorem bmE_p {w h : Int} {n : Nat} {A : Nat → Int} (h1 : ¬ picE w h n = 0) : bmE w h n A = picE w h n := by unfold bmE; exact if_neg h1
theorem bmE_6 {w h : Int} {n : Nat} {A : Nat → Int} (h1 : picE w h n = 0) (q : Nat) (hq : 4 * q < n) (hb : ¬ okP A q) : bmE w h n A = 6 := by
  have := (picE_ok h1).2
  unfold bmE; rw [if_pos h1, if_neg fun h => hb (okN_iff.1 h q (by omega))]
theorem bmE_0 {w h : Int} {n : Nat} {A : Nat → Int} (h1 : picE w h n = 0) (hb : okPs A (n / 4)) : bmE w h n A = 0 := by
  unfold okPs at hb
  unfold bmE; rw [if_pos h1, if_pos hb]
theorem bmE_ok {w h : Int} {n : Nat} {A : Nat → Int} (h0 : bmE w h n A = 0) : picE w h n = 0 ∧ okPs A (n / 4) := by
  unfold bmE at h0
  split at h0
  · split at h0
    · exact ⟨‹_›, by unfold okPs; assumption⟩
    · omega
  · exact absurd h0 ‹_›
theorem okPs_0 (A : Nat → Int) : okPs A 0 := okPs_iff.2 fun _ h => by omega
theorem okPs_s {A : Nat → Int} {q : Nat} (h : okPs A q) (hb : okP A q) : okPs A (q + 1) := by
  rw [okPs_iff] at *
  intro i hi
  rcases Nat.lt_or_eq_of_le (Nat.le_of_lt_succ hi) with h' | h'
  · exact h i h'
  · subst h'; exact hb
theorem c4 (q : Nat) : ((4 * q : Nat) : Int) = 4 * (q : Int) := by omega
theorem t4 (q : Nat) : (4 * (q : Int)).toNat = 4 * q := by omega
theorem t41 (q : Nat) : (4 * (q : Int) + 1).toNat = 4 * q + 1 := by omega
theorem t42 (q : Nat) : (4 * (q : Int) + 2).toNat = 4 * q + 2 := by omega
theorem t43 (q : Nat) : (4 * (q : Int) + 3).toNat = 4 * q + 3 := by omega
end Go.Proofs.YtjnpngbgapigeaaDoor
