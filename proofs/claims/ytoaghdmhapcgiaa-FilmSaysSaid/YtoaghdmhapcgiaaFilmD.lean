/- Shades. -/
import Derived.Test.YtoaghdmhapcgiaaFilmC
import Derived.Test.YtoaghdmhapcgiaaFmShade
import Derived.Test.YtoaghdmhapcgiaaEvArg
namespace Go.Proofs.Ytoaghdmhapcgiaa
open Go.RowKit Ev
set_option linter.unusedVariables false
set_option linter.unusedSimpArgs false
set_option maxRecDepth 20000
set_option maxHeartbeats 4000000

theorem leastP_le (b l : Int) : leastP b ≤ l ↔ b * b * 65536 ≤ l * 65025 := by unfold leastP; omega
def shN (l : Int) : Nat → Nat
  | 0 => 0
  | b + 1 => if leastP ((b + 1 : Nat) : Int) ≤ l then b + 1 else shN l b
def shS (l : Int) : Int := if l < 0 then 0 else shN l 255
theorem shN_le (l : Int) : ∀ n, shN l n ≤ n
  | 0 => Nat.le_refl _
  | n + 1 => by unfold shN; split; exact Nat.le_refl _; exact Nat.le_succ_of_le (shN_le l n)
theorem shN_at (l : Int) (h : 0 ≤ l) : ∀ n, leastP (shN l n : Nat) ≤ l
  | 0 => by show leastP 0 ≤ l; rw [leastP_zero]; exact h
  | n + 1 => by unfold shN; split; assumption; exact shN_at l h n
theorem shN_up (l : Int) : ∀ n (b : Nat), shN l n < b → b ≤ n → l < leastP b
  | 0, b, h, h' => by omega
  | n + 1, b, h, h' => by
    unfold shN at h
    split at h
    · omega
    · rename_i hc
      rcases Nat.lt_or_eq_of_le h' with g | g
      · exact shN_up l n b h (by omega)
      · subst g; omega
theorem shN_eq {l : Int} (h : 0 ≤ l) {s : Nat} (hs : s ≤ 255) (h1 : leastP (s : Int) ≤ l) (h2 : ∀ b : Nat, s < b → b < 256 → l < leastP (b : Int)) : shN l 255 = s := by
  rcases Nat.lt_trichotomy (shN l 255) s with g | g | g
  · have := shN_up l 255 s g hs; omega
  · exact g
  · have a := h2 _ g (by have := shN_le l 255; omega)
    have b := shN_at l h 255
    omega
theorem IsShade.eq {l s : Int} (h : IsShade l s) : s = shS l := by
  rcases h with ⟨h, rfl⟩ | ⟨h, k, k1, k2, rfl, lo, hi⟩
  · unfold shS; rw [if_pos h]
  · unfold shS; rw [if_neg (by omega), shN_eq h (s := k - 1) (by omega) (lo _ (by omega)) (fun b hb hb' => hi b (by omega) hb')]
    omega
theorem shade_f : FnOk Try.prog 15 Try.f15 := ⟨Try.func15, by kernel_rfl⟩
theorem shade_a (l : Int) : ACalls Try.prog 15 [.int .i64 l] (.int .u8 (shS l)) := by
  intro w Im vals hIm ht
  cases ht with
  | cons h t =>
    cases t
    obtain rfl := h.inv_int
    have e : (callFunc 15 [Value.int .i64 l].toArray).run Try.prog w = .ok (.enter 15 [Value.int .i64 l].toArray) w := by
      have hne : ¬ Try.f15.name = "runtime.NumGoroutine" := by simpa using shade_f.nm
      have hb : ∃ c, Try.f15.body = some c := ⟨_, rfl⟩
      obtain ⟨c, hb⟩ := hb
      simp [callFunc, shade_f.at_, hb, hne]
    rw [e]
    refine (shade_any l w).mono ?_
    rintro e w' ⟨s, rfl, hs, hb⟩
    exact ⟨_, rfl, hb, by rw [hs.out.eq]; exact .int _ _⟩
def shade_k : Con Try.prog := ⟨15, fun args => match args with | [.int .i64 l] => .ok none (.int .u8 (shS l)) | _ => .no, by
  intro args p r h hp
  split at h
  · cases h; exact shade_a _
  · cases h⟩
theorem sq_bd {b : Int} (h0 : 0 ≤ b) (h1 : b ≤ 255) : 0 ≤ b * b ∧ b * b ≤ 65025 := by
  have a : 0 ≤ b * b := Int.mul_nonneg h0 h0
  have c : b * b ≤ 255 * 255 := Int.mul_le_mul h1 h1 h0 (by omega)
  omega
theorem shS_big {l : Int} (h : 1000000 ≤ l) : shS l = 255 := by
  unfold shS
  rw [if_neg (by omega), shN_eq (s := 255) (by omega) (Nat.le_refl _) (by rw [leastP_le]; omega) (fun b hb hb' => by omega)]
  rfl
theorem shS_at {l b : Int} (h0 : 0 ≤ b) (h1 : b ≤ 255) (hl : 0 ≤ l) (hi : b * b * 65536 ≤ l * 65025) (hs : b = 255 ∨ l * 65025 < (b + 1) * (b + 1) * 65536) : shS l = b := by
  have hb : ((b.toNat : Nat) : Int) = b := by omega
  unfold shS
  rw [if_neg (by omega), shN_eq (s := b.toNat) hl (by omega) (by rw [leastP_le, hb]; exact hi) (fun c hc hc' => ?_)]
  · exact hb
  · have hn : ¬ leastP (c : Int) ≤ l := fun h => by
      rw [leastP_le] at h
      rcases hs with hs | hs
      · omega
      · have : (b + 1) * (b + 1) ≤ (c : Int) * c := Int.mul_le_mul (by omega) (by omega) (by omega) (by omega)
        omega
    omega
theorem shadeR_f : FnOk Try.prog 16 Try.f16 := ⟨Try.func16, by kernel_rfl⟩
theorem shadeR_a (l : Int) (hpre : In64 l) : ACalls Try.prog 16 [.int .i64 l] (.int .u8 (shS l)) := by
  refine acalls_of (inl := hasI (P := Try.prog) [] []) (base [] [] []) 0 shadeR_f (And.intro (by kernel_rfl) ?_)
  repeat' (first | refine And.intro ?_ ?_ | (with_reducible exact ff_elim) | (with_reducible exact tf_elim) | refine num_elim ?_ | intro _ | (with_reducible rfl) | ((with_reducible refine lk_t ?_); exact rfl) | refine tell ?_ | exact True.intro | (refine IsT.of ?_; kernel_rfl))
  all_goals (try (refine loop_keep [0] [] ?_; refine LoopI.mk ({b : Int // 0 ≤ b ∧ b ≤ 255 ∧ (b = 0 ∨ (0 ≤ l ∧ l < 1000000 ∧ b * b * 65536 ≤ l * 65025))}) (fun b => [(3, .int .i64 b.1)]) (fun _ => []) (fun b => (255 - b.1).toNat) (⟨0, by omega, by omega, .inl rfl⟩) (wk_mk [] ?_) (fun ⟨b, b0, b1, b2⟩ => ?_)))
  repeat' (first | refine And.intro ?_ ?_ | (with_reducible exact ff_elim) | (with_reducible exact tf_elim) | refine stp_mk [] (⟨b + 1, ?_, ?_, ?_⟩) ?_ ?_ | refine num_elim ?_ | intro _ | (with_reducible rfl) | ((with_reducible refine lk_t ?_); exact rfl) | refine tell ?_ | exact True.intro | (refine IsT.of ?_; kernel_rfl))
  all_goals (try refine Tell.mk ?_)
  all_goals first | with_reducible rfl | with_reducible exact isI_mk | with_reducible assumption | (with_reducible refine gb_t ?_; with_reducible assumption) | (with_reducible refine gb_f ?_; with_reducible assumption) | ((with_reducible refine lk_t ?_); rfl) | ((with_reducible refine okF_t ?_); kernel_rfl) | ((with_reducible refine ks_t ?_); rfl) | ((with_reducible refine pk_t ?_); rfl) | skip
  all_goals (try dsimp only at *)
  all_goals (try simp only [decide_eq_true_eq, decide_eq_false_iff_not, Bool.or_eq_true, Bool.or_eq_false_iff, Bool.and_eq_true, Bool.and_eq_false_iff, Bool.not_eq_true', Bool.not_eq_false', bne_iff_ne, ne_eq, beq_iff_eq, bne_eq_false_iff_eq, beq_eq_false_iff_ne, Int.not_lt, Int.not_le, gt_iff_lt, ge_iff_le] at *)
  all_goals (try simp only [mulN1, Nat.add_zero, Nat.zero_add, Nat.mul_one, Int.toNat_natCast, avInt_int] at *)
  all_goals first | with_reducible rfl | with_reducible exact nums_N | omega | ((with_reducible refine by_le 1 rfl ?_); omega) | ((with_reducible refine by_le 8 rfl ?_); omega) | (rw [wrapI (by omega) (by omega)] <;> omega) | skip
  all_goals first | exact shS_big (by assumption) | skip
  all_goals have w1 : IntKind.i64.wrap (b + 1) = b + 1 := wrapI (by omega) (by omega)
  all_goals simp only [w1] at *
  all_goals rcases Int.lt_or_le l 0 with hl | hl
  all_goals (try (have hb0 : b = 0 := by omega))
  all_goals first | omega | (subst hb0; unfold shS; rw [if_pos hl]; rfl) | skip
  all_goals rcases Int.lt_or_le b 255 with hb | hb
  all_goals first | (have hq := sq_bd (b := b + 1) (by omega) (by omega)) | skip
  all_goals first | (rw [wrapI (x := (b + 1) * (b + 1)) (by omega) (by omega), wrapI (x := (b + 1) * (b + 1) * 65536) (by omega) (by omega), wrapI (x := l * 65025) (by omega) (by omega)] at *) | skip
  all_goals first | omega | (rw [wrapU8 b0 (by omega)]; refine shS_at b0 b1 hl (b2.elim (fun e => by subst e; omega) fun e => e.2.2) ?_; omega)
def shadeR_k : Con Try.prog := ⟨16, fun args => match args with | [.int .i64 l] => .ok (some (In64 l)) (.int .u8 (shS l)) | _ => .no, by
  intro args p r h hp
  split at h
  · cases h; exact shadeR_a _ hp
  · cases h⟩
end Go.Proofs.Ytoaghdmhapcgiaa
