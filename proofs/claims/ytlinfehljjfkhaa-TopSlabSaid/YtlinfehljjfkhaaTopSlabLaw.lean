/- Proved: law TopSlab returns true, and writes nothing that was there before. No conditions. -/
import Derived.Test.YtlinfehljjfkhaaRows
import Derived.Test.YtlinfehljjfkhaaSlabU
import Derived.Test.YtlinfehljjfkhaaEvArg
import Derived.ProofKit
import Derived.OpenShut
import Derived.ShutString
import Derived.ChangeOld
import Derived.Laws.Cover2
namespace Go.Proofs.Ytlinfehljjfkhaa.topSlab
open Go.ChangeShapes Go.WideShapes Go.ChangeAt Go.RowKit Ev
set_option linter.unusedVariables false

theorem own : ownKnob Try.prog.godebug = none := by kernel_rfl
theorem laidOut : laidOutB Try.prog = true := by kernel_rfl

set_option maxRecDepth 100000 in
theorem lifted (os : Os) (started : os.Started) (H : Type) (enc : TypeId × Value → H) :
    ReturnsInHanded {} Try.checked os 5 .any (Rows.topSlabSpec.pre6 enc Try.prog Try.f5 Rows.topSlabRow.domain false) (Rows.topSlabSpec.post enc Try.prog Try.f5 false true false false) := by
  refine returnsInHanded_of_change (C := Try.checked) own started (by kernel_rfl) Try.func5
    (ChangeSpec.witness6 (enc := enc) (C := Try.checked) false ⟨#[], #[.agg #[.float .f64 0, .float .f64 0, .float .f64 0, .float .f64 0, .float .f64 0, .float .f64 0], .agg #[.float .f64 0, .float .f64 0, .float .f64 0, .float .f64 0, .float .f64 0, .float .f64 0], .agg #[.float .f64 0, .float .f64 0, .float .f64 0, .float .f64 0, .float .f64 0, .float .f64 0, .float .f64 0]], []⟩ 8 (by kernel_rfl) (by kernel_rfl) (by kernel_rfl) (by kernel_rfl)) ?_
  intro W base args ds gs before hval0 hW hcnd _
  have hval : ∀ (j : Nat) t v, Try.f5.params[j]? = some t → args[j]? = some v → Value.okWide Try.prog W .any base t v := hval0
  have hW' := hW
  obtain ⟨p, q, hA0, hV, rfl, hfz, hnd⟩ := hW
  have hA : DataW.TrodAll enc Try.prog W 0 (fun _ => true) true Try.f5.params.toList args.toList ds p := hA0
  rw [Try.params5] at hA hval
  obtain ⟨v0, vs0, d0, ds0, p0, q0, hargs, rfl, rfl, h0, r0⟩ := trodAll_cons hA
  obtain ⟨v1, vs1, d1, ds1, p1, q1, rfl, rfl, rfl, h1, r1⟩ := trodAll_cons r0
  obtain ⟨v2, vs2, d2, ds2, p2, q2, rfl, rfl, rfl, h2, r2⟩ := trodAll_cons r1
  obtain ⟨rfl, rfl, rfl⟩ := trodAll_nil r2
  obtain rfl : args = #[v0, v1, v2] := by cases args; simp_all
  obtain ⟨rfl, rfl⟩ := trodVars_none hV
  have k0 := h0
  have lt0 : ∀ x ∈ p0, x.block < W.heap.size := by obtain ⟨m, hm⟩ := k0; exact DataW.trod_lt m _ _ _ hm
  obtain ⟨a0, s0, R0⟩ := open_row (S := [.flt, .flt, .flt, .flt, .flt, .flt]) (by kernel_rfl) (by kernel_rfl) (hval 0 28 v0 rfl rfl) h0
  obtain ⟨_, _, rfl, ⟨x0_0, rfl, w0_0⟩, t0_0⟩ := shL_cons s0
  obtain ⟨_, _, rfl, ⟨x0_1, rfl, w0_1⟩, t0_1⟩ := shL_cons t0_0
  obtain ⟨_, _, rfl, ⟨x0_2, rfl, w0_2⟩, t0_2⟩ := shL_cons t0_1
  obtain ⟨_, _, rfl, ⟨x0_3, rfl, w0_3⟩, t0_3⟩ := shL_cons t0_2
  obtain ⟨_, _, rfl, ⟨x0_4, rfl, w0_4⟩, t0_4⟩ := shL_cons t0_3
  obtain ⟨_, _, rfl, ⟨x0_5, rfl, w0_5⟩, t0_5⟩ := shL_cons t0_4
  obtain rfl := shL_nil t0_5
  have k1 := h1
  have lt1 : ∀ x ∈ p1, x.block < W.heap.size := by obtain ⟨m, hm⟩ := k1; exact DataW.trod_lt m _ _ _ hm
  obtain ⟨a1, s1, R1⟩ := open_row (S := [.flt, .flt, .flt, .flt, .flt, .flt]) (by kernel_rfl) (by kernel_rfl) (hval 1 28 v1 rfl rfl) h1
  obtain ⟨_, _, rfl, ⟨x1_0, rfl, w1_0⟩, t1_0⟩ := shL_cons s1
  obtain ⟨_, _, rfl, ⟨x1_1, rfl, w1_1⟩, t1_1⟩ := shL_cons t1_0
  obtain ⟨_, _, rfl, ⟨x1_2, rfl, w1_2⟩, t1_2⟩ := shL_cons t1_1
  obtain ⟨_, _, rfl, ⟨x1_3, rfl, w1_3⟩, t1_3⟩ := shL_cons t1_2
  obtain ⟨_, _, rfl, ⟨x1_4, rfl, w1_4⟩, t1_4⟩ := shL_cons t1_3
  obtain ⟨_, _, rfl, ⟨x1_5, rfl, w1_5⟩, t1_5⟩ := shL_cons t1_4
  obtain rfl := shL_nil t1_5
  have k2 := h2
  have lt2 : ∀ x ∈ p2, x.block < W.heap.size := by obtain ⟨m, hm⟩ := k2; exact DataW.trod_lt m _ _ _ hm
  obtain ⟨a2, s2, R2⟩ := open_row (S := [.flt, .flt, .flt, .flt, .flt, .flt, .flt]) (by kernel_rfl) (by kernel_rfl) (hval 2 26 v2 rfl rfl) h2
  obtain ⟨_, _, rfl, ⟨x2_0, rfl, w2_0⟩, t2_0⟩ := shL_cons s2
  obtain ⟨_, _, rfl, ⟨x2_1, rfl, w2_1⟩, t2_1⟩ := shL_cons t2_0
  obtain ⟨_, _, rfl, ⟨x2_2, rfl, w2_2⟩, t2_2⟩ := shL_cons t2_1
  obtain ⟨_, _, rfl, ⟨x2_3, rfl, w2_3⟩, t2_3⟩ := shL_cons t2_2
  obtain ⟨_, _, rfl, ⟨x2_4, rfl, w2_4⟩, t2_4⟩ := shL_cons t2_3
  obtain ⟨_, _, rfl, ⟨x2_5, rfl, w2_5⟩, t2_5⟩ := shL_cons t2_4
  obtain ⟨_, _, rfl, ⟨x2_6, rfl, w2_6⟩, t2_6⟩ := shL_cons t2_5
  obtain rfl := shL_nil t2_6
  clear hA0 hval0
  refine (law_of topSlab_f rfl (topSlab_a x0_0 x0_1 x0_2 x0_3 x0_4 x0_5 x1_0 x1_1 x1_2 x1_3 x1_4 x1_5 x2_0 x2_1 x2_2 x2_3 x2_4 x2_5 x2_6) (w := W) (.cons R0 (.cons R1 (.cons R2 .nil)))).mono fun e W' ⟨he, bel⟩ => ?_
  subst he
  exact ⟨_, rfl, _, _, _, [], _, [], hW', trodAll_mk1 (shut_bool Try.underlying4 _), (trodAll_cons_mk (Below.trod laidOut (by kernel_rfl) (of_decide_eq_true (by kernel_rfl)) k0 bel lt0) (trodAll_cons_mk (Below.trod laidOut (by kernel_rfl) (of_decide_eq_true (by kernel_rfl)) k1 bel lt1) (trodAll_cons_mk (Below.trod laidOut (by kernel_rfl) (of_decide_eq_true (by kernel_rfl)) k2 bel lt2) trodAll_mk0))), rfl, bel.frame _, fun h => by cases h⟩

theorem over : Rows.topSlabRow.holds Try.pinned (OpenSpec.ofChange Rows.topSlabSpec) :=
  OpenClaim.holds_of_wide 5 Try.f5 rfl rfl rfl rfl rfl rfl rfl ⟨rfl, rfl, rfl, rfl, rfl⟩ rfl rfl rfl rfl rfl (by kernel_rfl) Try.func5 (by kernel_rfl)
    (of_decide_eq_true (by kernel_rfl)) (by unfold Func.isWrapper; first | (rw [if_pos (by decide +kernel)]; kernel_rfl) | (rw [if_neg (by decide +kernel)]; exact ⟨rfl, rfl⟩))
    (fun os started H enc _ => lifted os started H enc)

theorem proved : Rows.TopSlabSaid := over
#print axioms proved
end Go.Proofs.Ytlinfehljjfkhaa.topSlab
