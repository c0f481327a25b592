/- Proved: law BlendSays returns true, and writes nothing that was there before. No conditions. -/
import Derived.Test.YtlcdaoljfclliaaRows
import Derived.Test.YtlcdaoljfclliaaPixF
import Derived.Test.YtlcdaoljfclliaaEvArg
import Derived.ProofKit
import Derived.OpenShut
import Derived.ShutString
import Derived.ChangeOld
import Derived.Laws.Cover2
namespace Go.Proofs.Ytlcdaoljfclliaa.blendSays
open Go.ChangeShapes Go.WideShapes Go.ChangeAt Go.RowKit Ev
set_option linter.unusedVariables false

theorem own : ownKnob Try.prog.godebug = none := by kernel_rfl
theorem laidOut : laidOutB Try.prog = true := by kernel_rfl

set_option maxRecDepth 100000 in
theorem lifted (os : Os) (started : os.Started) (H : Type) (enc : TypeId × Value → H) :
    ReturnsInHanded {} Try.checked os 7 .any (Rows.blendSaysSpec.pre6 enc Try.prog Try.f7 Rows.blendSaysRow.domain false) (Rows.blendSaysSpec.post enc Try.prog Try.f7 false true false false) := by
  refine returnsInHanded_of_change (C := Try.checked) own started (by kernel_rfl) Try.func7
    (ChangeSpec.witness6 (enc := enc) (C := Try.checked) false ⟨#[], #[.int .i64 0, .agg #[.int .i64 0, .int .i64 0, .slice none 0 0], .agg #[.int .i64 0, .int .i64 0, .slice none 0 0], .int .u8 0, .int .u8 0], []⟩ 8 (by kernel_rfl) (by kernel_rfl) (by kernel_rfl) (by kernel_rfl)) ?_
  intro W base args ds gs before hval0 hW hcnd _
  have hval : ∀ (j : Nat) t v, Try.f7.params[j]? = some t → args[j]? = some v → Value.okWide Try.prog W .any base t v := hval0
  have hW' := hW
  obtain ⟨p, q, hA0, hV, rfl, hfz, hnd⟩ := hW
  have hA : DataW.TrodAll enc Try.prog W 0 (fun _ => true) true Try.f7.params.toList args.toList ds p := hA0
  rw [Try.params7] at hA hval
  obtain ⟨v0, vs0, d0, ds0, p0, q0, hargs, rfl, rfl, h0, r0⟩ := trodAll_cons hA
  obtain ⟨v1, vs1, d1, ds1, p1, q1, rfl, rfl, rfl, h1, r1⟩ := trodAll_cons r0
  obtain ⟨v2, vs2, d2, ds2, p2, q2, rfl, rfl, rfl, h2, r2⟩ := trodAll_cons r1
  obtain ⟨v3, vs3, d3, ds3, p3, q3, rfl, rfl, rfl, h3, r3⟩ := trodAll_cons r2
  obtain ⟨v4, vs4, d4, ds4, p4, q4, rfl, rfl, rfl, h4, r4⟩ := trodAll_cons r3
  obtain ⟨rfl, rfl, rfl⟩ := trodAll_nil r4
  obtain rfl : args = #[v0, v1, v2, v3, v4] := by cases args; simp_all
  obtain ⟨rfl, rfl⟩ := trodVars_none hV
  have k0 := h0
  have lt0 : ∀ x ∈ p0, x.block < W.heap.size := by obtain ⟨m, hm⟩ := k0; exact DataW.trod_lt m _ _ _ hm
  obtain ⟨a0, s0, R0⟩ := open_cell (s := .int .i64) (by kernel_rfl) (by kernel_rfl) (hval 0 3 v0 rfl rfl) h0
  obtain ⟨x0_0, rfl, w0_0⟩ := s0
  have k1 := h1
  have lt1 : ∀ x ∈ p1, x.block < W.heap.size := by obtain ⟨m, hm⟩ := k1; exact DataW.trod_lt m _ _ _ hm
  obtain ⟨a1, s1, R1⟩ := open_row (S := [.int .i64, .int .i64, .sl 1 (fun i => List.getD [.int .u8] i .other)]) (by kernel_rfl) (by kernel_rfl) (hval 1 24 v1 rfl rfl) h1
  obtain ⟨_, _, rfl, ⟨x1_0, rfl, w1_0⟩, t1_0⟩ := shL_cons s1
  obtain ⟨_, _, rfl, ⟨x1_1, rfl, w1_1⟩, t1_1⟩ := shL_cons t1_0
  obtain ⟨_, _, rfl, ⟨l1_2, g1_2, rfl, n1_2, s1_2⟩, t1_2⟩ := shL_cons t1_1
  obtain ⟨F1_2, rfl, w1_2⟩ := ints_of (cs := fun i => List.getD [.int .u8] i .other) rfl s1_2
  obtain rfl := shL_nil t1_2
  have k2 := h2
  have lt2 : ∀ x ∈ p2, x.block < W.heap.size := by obtain ⟨m, hm⟩ := k2; exact DataW.trod_lt m _ _ _ hm
  obtain ⟨a2, s2, R2⟩ := open_row (S := [.int .i64, .int .i64, .sl 1 (fun i => List.getD [.int .u8] i .other)]) (by kernel_rfl) (by kernel_rfl) (hval 2 24 v2 rfl rfl) h2
  obtain ⟨_, _, rfl, ⟨x2_0, rfl, w2_0⟩, t2_0⟩ := shL_cons s2
  obtain ⟨_, _, rfl, ⟨x2_1, rfl, w2_1⟩, t2_1⟩ := shL_cons t2_0
  obtain ⟨_, _, rfl, ⟨l2_2, g2_2, rfl, n2_2, s2_2⟩, t2_2⟩ := shL_cons t2_1
  obtain ⟨F2_2, rfl, w2_2⟩ := ints_of (cs := fun i => List.getD [.int .u8] i .other) rfl s2_2
  obtain rfl := shL_nil t2_2
  have k3 := h3
  have lt3 : ∀ x ∈ p3, x.block < W.heap.size := by obtain ⟨m, hm⟩ := k3; exact DataW.trod_lt m _ _ _ hm
  obtain ⟨a3, s3, R3⟩ := open_cell (s := .int .u8) (by kernel_rfl) (by kernel_rfl) (hval 3 5 v3 rfl rfl) h3
  obtain ⟨x3_0, rfl, w3_0⟩ := s3
  have k4 := h4
  have lt4 : ∀ x ∈ p4, x.block < W.heap.size := by obtain ⟨m, hm⟩ := k4; exact DataW.trod_lt m _ _ _ hm
  obtain ⟨a4, s4, R4⟩ := open_cell (s := .int .u8) (by kernel_rfl) (by kernel_rfl) (hval 4 5 v4 rfl rfl) h4
  obtain ⟨x4_0, rfl, w4_0⟩ := s4
  clear hA0 hval0
  refine (law_of blendSays_f rfl (blendSays_a x0_0 x1_0 x1_1 l1_2 F1_2 x2_0 x2_1 l2_2 F2_2 x3_0 x4_0 (⟨⟨U8s.of_wf w1_2, U8s.of_wf w2_2⟩, u8_of_wf w3_0, u8_of_wf w4_0⟩)) (w := W) (.cons R0 (.cons R1 (.cons R2 (.cons R3 (.cons R4 .nil)))))).mono fun e W' ⟨he, bel⟩ => ?_
  subst he
  exact ⟨_, rfl, _, _, _, [], _, [], hW', trodAll_mk1 (shut_bool Try.underlying4 _), (trodAll_cons_mk (Below.trod laidOut (by kernel_rfl) (of_decide_eq_true (by kernel_rfl)) k0 bel lt0) (trodAll_cons_mk (Below.trod laidOut (by kernel_rfl) (of_decide_eq_true (by kernel_rfl)) k1 bel lt1) (trodAll_cons_mk (Below.trod laidOut (by kernel_rfl) (of_decide_eq_true (by kernel_rfl)) k2 bel lt2) (trodAll_cons_mk (Below.trod laidOut (by kernel_rfl) (of_decide_eq_true (by kernel_rfl)) k3 bel lt3) (trodAll_cons_mk (Below.trod laidOut (by kernel_rfl) (of_decide_eq_true (by kernel_rfl)) k4 bel lt4) trodAll_mk0))))), rfl, bel.frame _, fun h => by cases h⟩

theorem over : Rows.blendSaysRow.holds Try.pinned (OpenSpec.ofChange Rows.blendSaysSpec) :=
  OpenClaim.holds_of_wide 7 Try.f7 rfl rfl rfl rfl rfl rfl rfl ⟨rfl, rfl, rfl, rfl, rfl⟩ rfl rfl rfl rfl rfl (by kernel_rfl) Try.func7 (by kernel_rfl)
    (of_decide_eq_true (by kernel_rfl)) (by unfold Func.isWrapper; first | (rw [if_pos (by decide +kernel)]; kernel_rfl) | (rw [if_neg (by decide +kernel)]; exact ⟨rfl, rfl⟩))
    (fun os started H enc _ => lifted os started H enc)

theorem proved : Rows.BlendSaysSaid := over
#print axioms proved
end Go.Proofs.Ytlcdaoljfclliaa.blendSays
