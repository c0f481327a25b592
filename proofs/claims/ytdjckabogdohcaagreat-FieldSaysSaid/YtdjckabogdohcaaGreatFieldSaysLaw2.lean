/- Proved: law FieldSays returns true, and writes nothing that was there before. No conditions. -/
import Derived.Test.YtdjckabogdohcaaGreatRows
import Derived.Test.YtdjckabogdohcaaGreatFieldAll
import Derived.Test.YtdjckabogdohcaaGreatEvArg
import Derived.ProofKit
import Derived.OpenShut
import Derived.ShutString
import Derived.ChangeOld
import Derived.Laws.Cover2
namespace Go.Proofs.YtdjckabogdohcaaGreat.fieldSays
open Go.ChangeShapes Go.WideShapes Go.ChangeAt Go.RowKit Ev
set_option linter.unusedVariables false

theorem own : ownKnob Tryz.prog.godebug = none := by kernel_rfl
theorem laidOut : laidOutB Tryz.prog = true := by kernel_rfl

set_option maxRecDepth 100000 in
theorem lifted (os : Os) (started : os.Started) (H : Type) (enc : TypeId × Value → H) :
    ReturnsInHanded {} Tryz.checked os 6 .any (Rows.fieldSaysSpec.pre6 enc Tryz.prog Tryz.f6 Rows.fieldSaysRow.domain false) (Rows.fieldSaysSpec.post enc Tryz.prog Tryz.f6 false true false false) := by
  refine returnsInHanded_of_change (C := Tryz.checked) own started (by kernel_rfl) Tryz.func6
    (ChangeSpec.witness6 (enc := enc) (C := Tryz.checked) false ⟨#[], #[.agg #[.int .i64 0, .int .i64 0, .float .f64 0, .float .f64 0, .float .f64 0, .float .f64 0, .slice none 0 0, .int .i64 0], .agg #[.float .f64 0, .float .f64 0, .float .f64 0, .float .f64 0, .float .f64 0, .float .f64 0, .float .f64 0]], []⟩ 8 (by kernel_rfl) (by kernel_rfl) (by kernel_rfl) (by kernel_rfl)) ?_
  intro W base args ds gs before hval0 hW hcnd _
  have hval : ∀ (j : Nat) t v, Tryz.f6.params[j]? = some t → args[j]? = some v → Value.okWide Tryz.prog W .any base t v := hval0
  have hW' := hW
  obtain ⟨p, q, hA0, hV, rfl, hfz, hnd⟩ := hW
  have hA : DataW.TrodAll enc Tryz.prog W 0 (fun _ => true) true Tryz.f6.params.toList args.toList ds p := hA0
  rw [Tryz.params6] at hA hval
  obtain ⟨v0, vs0, d0, ds0, p0, q0, hargs, rfl, rfl, h0, r0⟩ := trodAll_cons hA
  obtain ⟨v1, vs1, d1, ds1, p1, q1, rfl, rfl, rfl, h1, r1⟩ := trodAll_cons r0
  obtain ⟨rfl, rfl, rfl⟩ := trodAll_nil r1
  obtain rfl : args = #[v0, v1] := by cases args; simp_all
  obtain ⟨rfl, rfl⟩ := trodVars_none hV
  have k0 := h0
  have lt0 : ∀ x ∈ p0, x.block < W.heap.size := by obtain ⟨m, hm⟩ := k0; exact DataW.trod_lt m _ _ _ hm
  obtain ⟨a0, s0, R0⟩ := open_row (S := [.int .i64, .int .i64, .flt, .flt, .flt, .flt, .sl 1 (fun i => List.getD [.int .i64] i .other), .int .i64]) (by kernel_rfl) (by kernel_rfl) (hval 0 61 v0 rfl rfl) h0
  obtain ⟨_, _, rfl, ⟨x0_0, rfl, w0_0⟩, t0_0⟩ := shL_cons s0
  obtain ⟨_, _, rfl, ⟨x0_1, rfl, w0_1⟩, t0_1⟩ := shL_cons t0_0
  obtain ⟨_, _, rfl, ⟨x0_2, rfl, w0_2⟩, t0_2⟩ := shL_cons t0_1
  obtain ⟨_, _, rfl, ⟨x0_3, rfl, w0_3⟩, t0_3⟩ := shL_cons t0_2
  obtain ⟨_, _, rfl, ⟨x0_4, rfl, w0_4⟩, t0_4⟩ := shL_cons t0_3
  obtain ⟨_, _, rfl, ⟨x0_5, rfl, w0_5⟩, t0_5⟩ := shL_cons t0_4
  obtain ⟨_, _, rfl, ⟨l0_6, g0_6, rfl, n0_6, s0_6⟩, t0_6⟩ := shL_cons t0_5
  obtain ⟨F0_6, rfl, w0_6⟩ := ints_of (cs := fun i => List.getD [.int .i64] i .other) rfl s0_6
  obtain ⟨_, _, rfl, ⟨x0_7, rfl, w0_7⟩, t0_7⟩ := shL_cons t0_6
  obtain rfl := shL_nil t0_7
  have k1 := h1
  have lt1 : ∀ x ∈ p1, x.block < W.heap.size := by obtain ⟨m, hm⟩ := k1; exact DataW.trod_lt m _ _ _ hm
  obtain ⟨a1, s1, R1⟩ := open_row (S := [.flt, .flt, .flt, .flt, .flt, .flt, .flt]) (by kernel_rfl) (by kernel_rfl) (hval 1 26 v1 rfl rfl) h1
  obtain ⟨_, _, rfl, ⟨x1_0, rfl, w1_0⟩, t1_0⟩ := shL_cons s1
  obtain ⟨_, _, rfl, ⟨x1_1, rfl, w1_1⟩, t1_1⟩ := shL_cons t1_0
  obtain ⟨_, _, rfl, ⟨x1_2, rfl, w1_2⟩, t1_2⟩ := shL_cons t1_1
  obtain ⟨_, _, rfl, ⟨x1_3, rfl, w1_3⟩, t1_3⟩ := shL_cons t1_2
  obtain ⟨_, _, rfl, ⟨x1_4, rfl, w1_4⟩, t1_4⟩ := shL_cons t1_3
  obtain ⟨_, _, rfl, ⟨x1_5, rfl, w1_5⟩, t1_5⟩ := shL_cons t1_4
  obtain ⟨_, _, rfl, ⟨x1_6, rfl, w1_6⟩, t1_6⟩ := shL_cons t1_5
  obtain rfl := shL_nil t1_6
  clear hA0 hval0
  refine (law_of fieldSays_f rfl (fieldSays_a x0_0 x0_1 x0_2 x0_3 x0_4 x0_5 l0_6 F0_6 x0_7 x1_0 x1_1 x1_2 x1_3 x1_4 x1_5 x1_6) (w := W) (.cons R0 (.cons R1 .nil))).mono fun e W' ⟨he, bel⟩ => ?_
  subst he
  exact ⟨_, rfl, _, _, _, [], _, [], hW', trodAll_mk1 (shut_bool Tryz.underlying4 _), (trodAll_cons_mk (Below.trod laidOut (by kernel_rfl) (of_decide_eq_true (by kernel_rfl)) k0 bel lt0) (trodAll_cons_mk (Below.trod laidOut (by kernel_rfl) (of_decide_eq_true (by kernel_rfl)) k1 bel lt1) trodAll_mk0)), rfl, bel.frame _, fun h => by cases h⟩

theorem and_mk {a b : Bool} (h : a = true) (k : b = true) : (a && b) = true := by rw [h, k]; rfl
set_option maxRecDepth 100000 in
set_option maxHeartbeats 8000000 in
theorem facts : joinedFacts Tryz.pinned.checked.prog 6 Tryz.f6 Rows.fieldSaysSpec Rows.fieldSaysRow = true := by
  unfold joinedFacts
  repeat' (with_reducible refine and_mk ?_ ?_)
  all_goals (as_aux_lemma => kernel_rfl)
theorem named : Tryz.pinned.checked.prog.funcNamed Rows.fieldSaysRow.func = some 6 := by kernel_rfl
theorem over : Rows.fieldSaysRow.holds Tryz.pinned (OpenSpec.ofChange Rows.fieldSaysSpec) :=
  OpenClaim.holds_of_wide 6 Tryz.f6 rfl rfl rfl rfl rfl rfl rfl ⟨rfl, rfl, rfl, rfl, rfl⟩ rfl rfl rfl rfl rfl named Tryz.func6 facts
    (of_decide_eq_true (by kernel_rfl)) (by unfold Func.isWrapper; first | (rw [if_pos (by decide +kernel)]; kernel_rfl) | (rw [if_neg (by decide +kernel)]; exact ⟨rfl, rfl⟩))
    (fun os started H enc _ => lifted os started H enc)

theorem proved : Rows.FieldSaysSaid := over
#print axioms proved
end Go.Proofs.YtdjckabogdohcaaGreat.fieldSays
