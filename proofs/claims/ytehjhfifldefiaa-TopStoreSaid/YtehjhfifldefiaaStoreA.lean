/- Stores of films: their parts. -/
import Derived.Test.YtehjhfifldefiaaWorkK
namespace Go.Proofs.Ytehjhfifldefiaa
open Go.RowKit Ev
set_option linter.unusedVariables false
set_option linter.unusedSimpArgs false
set_option maxRecDepth 20000
set_option maxHeartbeats 4000000

theorem loadO_f : FnOk Try.prog 7 Try.f7 := ⟨Try.func7, by kernel_rfl⟩
theorem loadO_a (n o N : Nat) (B : Nat → Int) (hpre : n ≤ 1000000 ∧ U8s B ∧ o + n ≤ N) : MCalls Try.prog 7 ([.os 0 1 o n]) [.nums .u8 N B] (.tup [.agg [.int .i64 (ifz (loadE n (shB B o)) (B (o + 4))), .int .i64 (ifz (loadE n (shB B o)) (B (o + 5))), ints .i64 (ifn (loadE n (shB B o)) (3 * (B (o + 4) * B (o + 5))).toNat) (lightB (shB B o)), ints .i64 (ifn (loadE n (shB B o)) (B (o + 4) * B (o + 5)).toNat) (shotB (shB B o) (B (o + 4) * B (o + 5)).toNat)], .int .i64 (loadE n (shB B o))]) [.nums .u8 N B] := by
  refine mcallsP_of (inl := hasI (P := Try.prog) [] []) (base [get_k, sumB_k, mayF_k] [] []) 0 loadO_f (And.intro (by kernel_rfl) ?_)
  have u4 : IntKind.i64.wrap (B (o + 4)) = B (o + 4) := wrapI (by have := hpre.2.1 (o + 4); omega) (by have := hpre.2.1 (o + 4); omega)
  have u5 : IntKind.i64.wrap (B (o + 5)) = B (o + 5) := wrapI (by have := hpre.2.1 (o + 5); omega) (by have := hpre.2.1 (o + 5); omega)
  have hq : 0 ≤ B (o + 4) * B (o + 5) := Int.mul_nonneg (hpre.2.1 (o + 4)).1 (hpre.2.1 (o + 5)).1
  repeat' (first | refine And.intro ?_ ?_ | (with_reducible exact ff_elim) | (with_reducible exact tf_elim) | refine num_elim ?_ | intro _ | (with_reducible rfl) | ((with_reducible refine lk_t ?_); exact rfl) | ((with_reducible refine pf_t ?_); exact rfl) | refine tell ?_ | exact True.intro | (refine IsT.of ?_; kernel_rfl))
  all_goals (try (refine loop_keep [2, 4, 5, 88] [1, 0] ?_; refine LoopI.mk ({i : Nat // (i : Int) ≤ 3 * (B (o + 4) * B (o + 5))}) (fun i => [(89, .int .i64 i.1), (6, .os 0 1 (o + 6 + 6 * i.1) (n - 6 - 6 * i.1))]) (fun i => [(21, .row [.int .i64 (B (o + 4)), .int .i64 (B (o + 5)), .os 2 1 0 i.1, .nils]), (2, .nums .i64 i.1 (lightB (shB B o)))]) (fun i => (3 * (B (o + 4) * B (o + 5))).toNat - i.1) (⟨0, by omega⟩) (wk_mk [some 21, none, some 1, none] ?_) (fun ⟨i, hi⟩ => ?_)))
  repeat' (first | refine And.intro ?_ ?_ | (with_reducible exact ff_elim) | (with_reducible exact tf_elim) | refine' stp_mk [some 21, some _, some 1, none] (⟨i + 1, ?_⟩) ?_ ?_ | refine num_elim ?_ | intro _ | (with_reducible rfl) | ((with_reducible refine lk_t ?_); exact rfl) | ((with_reducible refine pf_t ?_); exact rfl) | refine tell ?_ | exact True.intro | (refine IsT.of ?_; kernel_rfl))
  all_goals (try (refine loop_keep [2, 4, 102] [1, 2, 0] ?_; refine LoopI.mk ({k : Nat // (k : Int) ≤ B (o + 4) * B (o + 5)}) (fun k => [(103, .int .i64 k.1), (6, .os 0 1 (o + 6 + 6 * i + 3 * k.1) (n - 6 - 6 * i - 3 * k.1))]) (fun k => [(21, .row [.int .i64 (B (o + 4)), .int .i64 (B (o + 5)), .os 2 1 0 i, .os 3 1 0 k.1]), (3, .nums .i64 k.1 (fun j => getV (shB (shB B o) (6 + 6 * i + 3 * j)) 3))]) (fun k => (B (o + 4) * B (o + 5)).toNat - k.1) (⟨0, by omega⟩) (wk_mk [some 21, none, some 1, some 2, none] ?_) (fun ⟨k, hk⟩ => ?_)))
  repeat' (first | refine And.intro ?_ ?_ | (with_reducible exact ff_elim) | (with_reducible exact tf_elim) | refine' stp_mk [some 21, some _, some 1, some 2, none] (⟨k + 1, ?_⟩) ?_ ?_ | refine num_elim ?_ | intro _ | (with_reducible rfl) | ((with_reducible refine lk_t ?_); exact rfl) | ((with_reducible refine pf_t ?_); exact rfl) | refine tell ?_ | exact True.intro | (refine IsT.of ?_; kernel_rfl))
  all_goals (try refine Tell.mk ?_)
  all_goals first | with_reducible rfl | with_reducible exact isI_mk | with_reducible assumption | (with_reducible refine gb_t ?_; with_reducible assumption) | (with_reducible refine gb_f ?_; with_reducible assumption) | ((with_reducible refine lk_t ?_); rfl) | ((with_reducible refine okF_t ?_); kernel_rfl) | ((with_reducible refine ks_t ?_); rfl) | ((with_reducible refine pk_t ?_); rfl) | ((with_reducible refine pf_t ?_); rfl) | skip
  all_goals (try dsimp only at *)
  all_goals (try simp only [decide_eq_true_eq, decide_eq_false_iff_not, Bool.or_eq_true, Bool.or_eq_false_iff, Bool.and_eq_true, Bool.and_eq_false_iff, Bool.not_eq_true', Bool.not_eq_false', bne_iff_ne, ne_eq, beq_iff_eq, bne_eq_false_iff_eq, beq_eq_false_iff_ne, Int.not_lt, Int.not_le, gt_iff_lt, ge_iff_le] at *)
  all_goals (try simp only [mulN1, Nat.add_zero, Nat.zero_add, Nat.mul_one, Int.toNat_natCast, avInt_int, intF_mk, shiftA_none, shiftA_some, lenN_none, lenN_some, offA_none, offA_some] at *)
  all_goals first | with_reducible rfl | with_reducible exact nums_N | omega | ((with_reducible refine by_le 1 rfl ?_); omega) | ((with_reducible refine by_le 8 rfl ?_); omega) | (rw [wrapI (by omega) (by omega)] <;> omega) | skip
  all_goals obtain ⟨hn, hB, hO⟩ := hpre
  all_goals have hC : U8s (shB B o) := fun j => hB _
  all_goals simp only [Nat.add_assoc, tn3, tn4, tn5, tn6, u4, u5, head_iff hC] at *
  all_goals first | with_reducible exact isI_mk | exact (hB _).1 | exact (hB _).2 | skip
  all_goals first | (rw [loadE_8a (n := n) (B := (shB B o)) (by omega)] <;> first | exact ifz1 (by decide) | exact ifn1 (by decide)) | (rw [loadE_11 (n := n) (B := (shB B o)) (by omega) (by with_reducible assumption)] <;> first | exact ifz1 (by decide) | exact ifn1 (by decide)) | (rw [loadE_4 (n := n) (B := (shB B o)) (by omega) (by with_reducible assumption) (by (show ¬ Side (B (o + 4)) (B (o + 5))); unfold Side; omega)] <;> first | exact ifz1 (by decide) | exact ifn1 (by decide)) | exact congrArg (fun z => AV.int .u8 (B z)) (by omega) | skip
  all_goals have hs : Side (B (o + 4)) (B (o + 5)) := by unfold Side; omega
  all_goals (have hy := hs.wh; have y1 := hs.wraps.1; have y2 := hs.wraps.2.1; have y3 : IntKind.i64.wrap (21 * (B (o + 4) * B (o + 5))) = 21 * (B (o + 4) * B (o + 5)) := wrapI (by omega) (by omega); have y4 : IntKind.i64.wrap (10 + 21 * (B (o + 4) * B (o + 5))) = 10 + 21 * (B (o + 4) * B (o + 5)) := wrapI (by omega) (by omega))
  all_goals (have y5 : IntKind.i64.wrap ((n : Int) - 4) = (n : Int) - 4 := wrapI (by omega) (by omega))
  all_goals (have y6 : (n : Int) - ((n : Int) - 4) = 4 := by omega)
  all_goals simp only [y1, y2, y3, y4, y5, y6, tn4] at *
  all_goals first | (rw [loadE_8b (n := n) (B := (shB B o)) (by omega) (by with_reducible assumption) hs (by (show n < 10 + 21 * (B (o + 4) * B (o + 5)).toNat); omega)] <;> first | exact ifz1 (by decide) | exact ifn1 (by decide)) | (rw [loadE_5 (n := n) (B := (shB B o)) (by omega) (by with_reducible assumption) hs (by (show n > 10 + 21 * (B (o + 4) * B (o + 5)).toNat); omega)] <;> first | exact ifz1 (by decide) | exact ifn1 (by decide)) | skip
  all_goals have hN : n = 10 + 21 * (B (o + 4) * B (o + 5)).toNat := by omega
  all_goals (have y7 : ((n : Int) - 4).toNat = n - 4 := by omega)
  all_goals simp only [y7] at *
  all_goals first | omega | (rw [loadE_12 (n := n) (B := (shB B o)) (by with_reducible assumption) hs hN (by with_reducible assumption)] <;> first | exact ifz1 (by decide) | exact ifn1 (by decide)) | skip
  all_goals first | (refine cat_step (P := lightB (shB B o)) (by assumption) ?_; (show _ = getV (fun j => B (o + (6 + 6 * i + j))) 6); simp only [Nat.add_assoc]; done) | (refine cat_step (P := fun j => getV (shB (shB B o) (6 + (6 * i + 3 * j))) 3) (by assumption) ?_; (show _ = getV (fun j => B (o + (6 + (6 * i + 3 * k) + j))) 3); simp only [Nat.add_assoc]; done) | skip
  all_goals first | (with_reducible refine by_le 8 rfl ?_; omega) | (rw [wrapI (by omega) (by omega)]; omega) | skip
  all_goals obtain ⟨q1, q2, q3, q4⟩ := load_end (B := shB B o) (by with_reducible assumption) hs hN (by simp only [shB, Nat.add_assoc]; with_reducible assumption) hi (by (show 3 * (B (o + 4) * B (o + 5)) ≤ (i : Int)); omega) hk (by (show B (o + 4) * B (o + 5) ≤ (k : Int)); omega)
  all_goals simp only [Nat.add_assoc] at q1 q4
  all_goals first | exact q1 | (rw [q1]; with_reducible assumption) | (rw [q1]; first | exact ifz1 (by with_reducible assumption) | exact ifn1 (by with_reducible assumption) | exact ifz0 (by with_reducible assumption) | exact (ifn0 (by with_reducible assumption)).trans q2.symm | exact (ifn0 (by with_reducible assumption)).trans q3.symm) | rw [q4]
def loadO_p (n o N : Nat) (B : Nat → Int) : Prop := n ≤ 1000000 ∧ U8s B ∧ o + n ≤ N
def loadO_r (n o N : Nat) (B : Nat → Int) : AV := .tup [.agg [.int .i64 (ifz (loadE n (shB B o)) (B (o + 4))), .int .i64 (ifz (loadE n (shB B o)) (B (o + 5))), ints .i64 (ifn (loadE n (shB B o)) (3 * (B (o + 4) * B (o + 5))).toNat) (lightB (shB B o)), ints .i64 (ifn (loadE n (shB B o)) (B (o + 4) * B (o + 5)).toNat) (shotB (shB B o) (B (o + 4) * B (o + 5)).toNat)], .int .i64 (loadE n (shB B o))]
def loadO_m : MCon Try.prog := ⟨7, fun args own => match args with | [.os k_ 1 o n] => (match own k_ with | .nums .u8 N B => .ok [k_] ([.os 0 1 o n]) [.nums .u8 N B] (some (loadO_p n o N B)) (loadO_r n o N B) [.nums .u8 N B] | _ => .no) | _ => .no, by
  intro args own ks cargs rows p r rows2 h hp
  split at h
  · split at h
    · cases h; exact loadO_a _ _ _ _ hp
    · cases h
  · cases h⟩
end Go.Proofs.Ytehjhfifldefiaa
