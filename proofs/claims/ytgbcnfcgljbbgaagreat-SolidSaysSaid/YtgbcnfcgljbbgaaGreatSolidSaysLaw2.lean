/- Proved: law SolidSays returns true, and writes nothing that was there before. No conditions. -/
import Derived.Test.YtgbcnfcgljbbgaaGreatRows
import Derived.Test.YtgbcnfcgljbbgaaGreatSpnAllC
import Derived.Test.YtgbcnfcgljbbgaaGreatEvArg
import Derived.ProofKit
import Derived.OpenShut
import Derived.ShutString
import Derived.ChangeOld
import Derived.Laws.Cover2
namespace Go.Proofs.YtgbcnfcgljbbgaaGreat.solidSays
open Go.ChangeShapes Go.WideShapes Go.ChangeAt Go.RowKit Ev
set_option linter.unusedVariables false

theorem own : ownKnob Tryz.prog.godebug = none := by kernel_rfl
theorem laidOut : laidOutB Tryz.prog = true := by kernel_rfl

set_option maxRecDepth 100000 in
theorem lifted (os : Os) (started : os.Started) (H : Type) (enc : TypeId × Value → H) :
    ReturnsInHanded {} Tryz.checked os 3 .any (Rows.solidSaysSpec.pre6 enc Tryz.prog Tryz.f3 Rows.solidSaysRow.domain false) (Rows.solidSaysSpec.post enc Tryz.prog Tryz.f3 false true false false) := by
  refine returnsInHanded_of_change (C := Tryz.checked) own started (by kernel_rfl) Tryz.func3
    (ChangeSpec.witness6 (enc := enc) (C := Tryz.checked) false ⟨#[], #[.agg #[.slice none 0 0, .int .i64 0], .agg #[.float .f64 0, .float .f64 0, .float .f64 0, .float .f64 0, .float .f64 0, .float .f64 0, .float .f64 0], .agg #[.float .f64 0, .int .i64 0, .bool false], .agg #[.float .f64 0, .float .f64 0, .float .f64 0]], []⟩ 8 (by kernel_rfl) (by kernel_rfl) (by kernel_rfl) (by kernel_rfl)) ?_
  intro W base args ds gs before hval0 hW hcnd _
  have hval : ∀ (j : Nat) t v, Tryz.f3.params[j]? = some t → args[j]? = some v → Value.okWide Tryz.prog W .any base t v := hval0
  have hW' := hW
  obtain ⟨p, q, hA0, hV, rfl, hfz, hnd⟩ := hW
  have hA : DataW.TrodAll enc Tryz.prog W 0 (fun _ => true) true Tryz.f3.params.toList args.toList ds p := hA0
  rw [Tryz.params3] at hA hval
  obtain ⟨v0, vs0, d0, ds0, p0, q0, hargs, rfl, rfl, h0, r0⟩ := trodAll_cons hA
  obtain ⟨v1, vs1, d1, ds1, p1, q1, rfl, rfl, rfl, h1, r1⟩ := trodAll_cons r0
  obtain ⟨v2, vs2, d2, ds2, p2, q2, rfl, rfl, rfl, h2, r2⟩ := trodAll_cons r1
  obtain ⟨v3, vs3, d3, ds3, p3, q3, rfl, rfl, rfl, h3, r3⟩ := trodAll_cons r2
  obtain ⟨rfl, rfl, rfl⟩ := trodAll_nil r3
  obtain rfl : args = #[v0, v1, v2, v3] := by cases args; simp_all
  obtain ⟨rfl, rfl⟩ := trodVars_none hV
  have k0 := h0
  have lt0 : ∀ x ∈ p0, x.block < W.heap.size := by obtain ⟨m, hm⟩ := k0; exact DataW.trod_lt m _ _ _ hm
  obtain ⟨a0, s0, R0⟩ := open_row (S := [.sl 16 (fun i => List.getD [.int .i64, .int .i64, .int .i64, .int .i64, .flt, .flt, .flt, .flt, .flt, .flt, .flt, .flt, .flt, .flt, .flt, .int .i64] i .other), .int .i64]) (by kernel_rfl) (by kernel_rfl) (hval 0 24 v0 rfl rfl) h0
  obtain ⟨_, _, rfl, ⟨l0_0, g0_0, rfl, n0_0, w0_0⟩, t0_0⟩ := shL_cons s0
  obtain ⟨_, _, rfl, ⟨x0_1, rfl, w0_1⟩, t0_1⟩ := shL_cons t0_0
  obtain rfl := shL_nil t0_1
  have k1 := h1
  have lt1 : ∀ x ∈ p1, x.block < W.heap.size := by obtain ⟨m, hm⟩ := k1; exact DataW.trod_lt m _ _ _ hm
  obtain ⟨a1, s1, R1⟩ := open_row (S := [.flt, .flt, .flt, .flt, .flt, .flt, .flt]) (by kernel_rfl) (by kernel_rfl) (hval 1 29 v1 rfl rfl) h1
  obtain ⟨_, _, rfl, ⟨x1_0, rfl, w1_0⟩, t1_0⟩ := shL_cons s1
  obtain ⟨_, _, rfl, ⟨x1_1, rfl, w1_1⟩, t1_1⟩ := shL_cons t1_0
  obtain ⟨_, _, rfl, ⟨x1_2, rfl, w1_2⟩, t1_2⟩ := shL_cons t1_1
  obtain ⟨_, _, rfl, ⟨x1_3, rfl, w1_3⟩, t1_3⟩ := shL_cons t1_2
  obtain ⟨_, _, rfl, ⟨x1_4, rfl, w1_4⟩, t1_4⟩ := shL_cons t1_3
  obtain ⟨_, _, rfl, ⟨x1_5, rfl, w1_5⟩, t1_5⟩ := shL_cons t1_4
  obtain ⟨_, _, rfl, ⟨x1_6, rfl, w1_6⟩, t1_6⟩ := shL_cons t1_5
  obtain rfl := shL_nil t1_6
  have k2 := h2
  have lt2 : ∀ x ∈ p2, x.block < W.heap.size := by obtain ⟨m, hm⟩ := k2; exact DataW.trod_lt m _ _ _ hm
  obtain ⟨a2, s2, R2⟩ := open_row (S := [.flt, .int .i64, .bool]) (by kernel_rfl) (by kernel_rfl) (hval 2 31 v2 rfl rfl) h2
  obtain ⟨_, _, rfl, ⟨x2_0, rfl, w2_0⟩, t2_0⟩ := shL_cons s2
  obtain ⟨_, _, rfl, ⟨x2_1, rfl, w2_1⟩, t2_1⟩ := shL_cons t2_0
  obtain ⟨_, _, rfl, ⟨x2_2, rfl⟩, t2_2⟩ := shL_cons t2_1
  obtain rfl := shL_nil t2_2
  have k3 := h3
  have lt3 : ∀ x ∈ p3, x.block < W.heap.size := by obtain ⟨m, hm⟩ := k3; exact DataW.trod_lt m _ _ _ hm
  obtain ⟨a3, s3, R3⟩ := open_row (S := [.flt, .flt, .flt]) (by kernel_rfl) (by kernel_rfl) (hval 3 27 v3 rfl rfl) h3
  obtain ⟨_, _, rfl, ⟨x3_0, rfl, w3_0⟩, t3_0⟩ := shL_cons s3
  obtain ⟨_, _, rfl, ⟨x3_1, rfl, w3_1⟩, t3_1⟩ := shL_cons t3_0
  obtain ⟨_, _, rfl, ⟨x3_2, rfl, w3_2⟩, t3_2⟩ := shL_cons t3_1
  obtain rfl := shL_nil t3_2
  clear hA0 hval0
  refine (law_of solidSaysG_f rfl (solidSaysG_a l0_0 g0_0 w0_0 x0_1 x1_0 x1_1 x1_2 x1_3 x1_4 x1_5 x1_6 x2_0 x2_1 x2_2 x3_0 x3_1 x3_2) (w := W) (.cons R0 (.cons R1 (.cons R2 (.cons R3 .nil))))).mono fun e W' ⟨he, bel⟩ => ?_
  subst he
  exact ⟨_, rfl, _, _, _, [], _, [], hW', trodAll_mk1 (shut_bool Tryz.underlying4 _), (trodAll_cons_mk (Below.trod laidOut (by kernel_rfl) (of_decide_eq_true (by kernel_rfl)) k0 bel lt0) (trodAll_cons_mk (Below.trod laidOut (by kernel_rfl) (of_decide_eq_true (by kernel_rfl)) k1 bel lt1) (trodAll_cons_mk (Below.trod laidOut (by kernel_rfl) (of_decide_eq_true (by kernel_rfl)) k2 bel lt2) (trodAll_cons_mk (Below.trod laidOut (by kernel_rfl) (of_decide_eq_true (by kernel_rfl)) k3 bel lt3) trodAll_mk0)))), rfl, bel.frame _, fun h => by cases h⟩

theorem and_mk {a b : Bool} (h : a = true) (k : b = true) : (a && b) = true := by rw [h, k]; rfl
set_option maxRecDepth 100000 in
set_option maxHeartbeats 8000000 in
theorem facts : joinedFacts Tryz.pinned.checked.prog 3 Tryz.f3 Rows.solidSaysSpec Rows.solidSaysRow = true := by
  unfold joinedFacts
  repeat' (with_reducible refine and_mk ?_ ?_)
  all_goals (as_aux_lemma => kernel_rfl)
theorem named : Tryz.pinned.checked.prog.funcNamed Rows.solidSaysRow.func = some 3 := by kernel_rfl
theorem over : Rows.solidSaysRow.holds Tryz.pinned (OpenSpec.ofChange Rows.solidSaysSpec) :=
  OpenClaim.holds_of_wide 3 Tryz.f3 rfl rfl rfl rfl rfl rfl rfl ⟨rfl, rfl, rfl, rfl, rfl⟩ rfl rfl rfl rfl rfl named Tryz.func3 facts
    (of_decide_eq_true (by kernel_rfl)) (by unfold Func.isWrapper; first | (rw [if_pos (by decide +kernel)]; kernel_rfl) | (rw [if_neg (by decide +kernel)]; exact ⟨rfl, rfl⟩))
    (fun os started H enc _ => lifted os started H enc)

theorem proved : Rows.SolidSaysSaid := over
#print axioms proved
end Go.Proofs.YtgbcnfcgljbbgaaGreat.solidSays
