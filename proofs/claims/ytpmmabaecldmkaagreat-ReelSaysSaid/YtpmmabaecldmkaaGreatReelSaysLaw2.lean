/- Proved: law ReelSays returns true, and writes nothing that was there before. No conditions. -/
import Derived.Test.YtpmmabaecldmkaaGreatRows
import Derived.Test.YtpmmabaecldmkaaGreatReelAllB
import Derived.Test.YtpmmabaecldmkaaGreatEvArg
import Derived.ProofKit
import Derived.OpenShut
import Derived.ShutString
import Derived.ChangeOld
import Derived.Laws.Cover2
namespace Go.Proofs.YtpmmabaecldmkaaGreat.reelSays
open Go.ChangeShapes Go.WideShapes Go.ChangeAt Go.RowKit Ev
set_option linter.unusedVariables false

theorem own : ownKnob Tryz.prog.godebug = none := by kernel_rfl
theorem laidOut : laidOutB Tryz.prog = true := by kernel_rfl

set_option maxRecDepth 100000 in
theorem lifted (os : Os) (started : os.Started) (H : Type) (enc : TypeId × Value → H) :
    ReturnsInHanded {} Tryz.checked os 3 .any (Rows.reelSaysSpec.pre6 enc Tryz.prog Tryz.f3 Rows.reelSaysRow.domain false) (Rows.reelSaysSpec.post enc Tryz.prog Tryz.f3 false true false false) := by
  refine returnsInHanded_of_change (C := Tryz.checked) own started (by kernel_rfl) Tryz.func3
    (ChangeSpec.witness6 (enc := enc) (C := Tryz.checked) false ⟨#[], #[.agg #[.slice none 0 0, .slice none 0 0, .slice none 0 0, .slice none 0 0, .slice none 0 0, .int .i64 0, .int .i64 0, .int .i64 0, .float .f64 0, .float .f64 0, .float .f64 0, .float .f64 0, .float .f64 0, .float .f64 0, .float .f64 0, .float .f64 0, .float .f64 0, .float .f64 0], .int .i64 0, .slice none 0 0, .int .i64 0], []⟩ 8 (by kernel_rfl) (by kernel_rfl) (by kernel_rfl) (by kernel_rfl)) ?_
  intro W base args ds gs before hval0 hW hcnd _
  have hval : ∀ (j : Nat) t v, Tryz.f3.params[j]? = some t → args[j]? = some v → Value.okWide Tryz.prog W .any base t v := hval0
  have hW' := hW
  obtain ⟨p, q, hA0, hV, rfl, hfz, hnd⟩ := hW
  have hA : DataW.TrodAll enc Tryz.prog W 0 (fun _ => true) true Tryz.f3.params.toList args.toList ds p := hA0
  rw [Tryz.params3] at hA hval
  obtain ⟨v0, vs0, d0, ds0, p0, q0, hargs, rfl, rfl, h0, r0⟩ := trodAll_cons hA
  obtain ⟨v1, vs1, d1, ds1, p1, q1, rfl, rfl, rfl, h1, r1⟩ := trodAll_cons r0
  obtain ⟨v2, vs2, d2, ds2, p2, q2, rfl, rfl, rfl, h2, r2⟩ := trodAll_cons r1
  obtain ⟨v3, vs3, d3, ds3, p3, q3, rfl, rfl, rfl, h3, r3⟩ := trodAll_cons r2
  obtain ⟨rfl, rfl, rfl⟩ := trodAll_nil r3
  obtain rfl : args = #[v0, v1, v2, v3] := by cases args; simp_all
  obtain ⟨rfl, rfl⟩ := trodVars_none hV
  have k0 := h0
  have lt0 : ∀ x ∈ p0, x.block < W.heap.size := by obtain ⟨m, hm⟩ := k0; exact DataW.trod_lt m _ _ _ hm
  obtain ⟨a0, s0, R0⟩ := open_row (S := [.sl 13 (fun i => List.getD [.int .i64, .flt, .flt, .flt, .flt, .flt, .flt, .flt, .flt, .flt, .flt, .flt, .int .i64] i .other), .sl 2 (fun i => List.getD [.sl 16 (fun i => List.getD [.int .i64, .int .i64, .int .i64, .int .i64, .flt, .flt, .flt, .flt, .flt, .flt, .flt, .flt, .flt, .flt, .flt, .int .i64] i .other), .int .i64] i .other), .sl 8 (fun i => List.getD [.int .i64, .int .i64, .flt, .flt, .flt, .flt, .sl 1 (fun i => List.getD [.int .i64] i .other), .int .i64] i .other), .sl 10 (fun i => List.getD [.int .i64, .int .i64, .int .i64, .int .i64, .int .i64, .int .i64, .int .i64, .int .i64, .int .i64, .int .i64] i .other), .sl 6 (fun i => List.getD [.flt, .flt, .flt, .int .i64, .int .i64, .int .i64] i .other), .int .i64, .int .i64, .int .i64, .flt, .flt, .flt, .flt, .flt, .flt, .flt, .flt, .flt, .flt]) (by kernel_rfl) (by kernel_rfl) (hval 0 34 v0 rfl rfl) h0
  obtain ⟨_, _, rfl, ⟨l0_0, g0_0, rfl, n0_0, w0_0⟩, t0_0⟩ := shL_cons s0
  obtain ⟨_, _, rfl, ⟨l0_1, g0_1, rfl, n0_1, w0_1⟩, t0_1⟩ := shL_cons t0_0
  obtain ⟨_, _, rfl, ⟨l0_2, g0_2, rfl, n0_2, w0_2⟩, t0_2⟩ := shL_cons t0_1
  obtain ⟨_, _, rfl, ⟨l0_3, g0_3, rfl, n0_3, s0_3⟩, t0_3⟩ := shL_cons t0_2
  obtain ⟨F0_3, rfl, w0_3⟩ := ints_ofN (k := .i64) (m := 10) (cs := fun i => List.getD [.int .i64, .int .i64, .int .i64, .int .i64, .int .i64, .int .i64, .int .i64, .int .i64, .int .i64, .int .i64] i .other) (fun j => by have h := Nat.mod_lt j (show 0 < 10 by decide); generalize j % 10 = r at *; rcases r with _ | _ | _ | _ | _ | _ | _ | _ | _ | _ | r <;> first | rfl | omega) s0_3
  obtain ⟨_, _, rfl, ⟨l0_4, g0_4, rfl, n0_4, w0_4⟩, t0_4⟩ := shL_cons t0_3
  obtain ⟨_, _, rfl, ⟨x0_5, rfl, w0_5⟩, t0_5⟩ := shL_cons t0_4
  obtain ⟨_, _, rfl, ⟨x0_6, rfl, w0_6⟩, t0_6⟩ := shL_cons t0_5
  obtain ⟨_, _, rfl, ⟨x0_7, rfl, w0_7⟩, t0_7⟩ := shL_cons t0_6
  obtain ⟨_, _, rfl, ⟨x0_8, rfl, w0_8⟩, t0_8⟩ := shL_cons t0_7
  obtain ⟨_, _, rfl, ⟨x0_9, rfl, w0_9⟩, t0_9⟩ := shL_cons t0_8
  obtain ⟨_, _, rfl, ⟨x0_10, rfl, w0_10⟩, t0_10⟩ := shL_cons t0_9
  obtain ⟨_, _, rfl, ⟨x0_11, rfl, w0_11⟩, t0_11⟩ := shL_cons t0_10
  obtain ⟨_, _, rfl, ⟨x0_12, rfl, w0_12⟩, t0_12⟩ := shL_cons t0_11
  obtain ⟨_, _, rfl, ⟨x0_13, rfl, w0_13⟩, t0_13⟩ := shL_cons t0_12
  obtain ⟨_, _, rfl, ⟨x0_14, rfl, w0_14⟩, t0_14⟩ := shL_cons t0_13
  obtain ⟨_, _, rfl, ⟨x0_15, rfl, w0_15⟩, t0_15⟩ := shL_cons t0_14
  obtain ⟨_, _, rfl, ⟨x0_16, rfl, w0_16⟩, t0_16⟩ := shL_cons t0_15
  obtain ⟨_, _, rfl, ⟨x0_17, rfl, w0_17⟩, t0_17⟩ := shL_cons t0_16
  obtain rfl := shL_nil t0_17
  have k1 := h1
  have lt1 : ∀ x ∈ p1, x.block < W.heap.size := by obtain ⟨m, hm⟩ := k1; exact DataW.trod_lt m _ _ _ hm
  obtain ⟨a1, s1, R1⟩ := open_cell (s := .int .i64) (by kernel_rfl) (by kernel_rfl) (hval 1 3 v1 rfl rfl) h1
  obtain ⟨x1_0, rfl, w1_0⟩ := s1
  have k2 := h2
  have lt2 : ∀ x ∈ p2, x.block < W.heap.size := by obtain ⟨m, hm⟩ := k2; exact DataW.trod_lt m _ _ _ hm
  obtain ⟨a2, s2, R2⟩ := open_cell (s := .sl 4 (fun i => List.getD [.int .i64, .int .i64, .int .i64, .int .i64] i .other)) (by kernel_rfl) (by kernel_rfl) (hval 2 35 v2 rfl rfl) h2
  obtain ⟨l2_0, g2_0, rfl, n2_0, s2_0⟩ := s2
  obtain ⟨F2_0, rfl, w2_0⟩ := ints_ofN (k := .i64) (m := 4) (cs := fun i => List.getD [.int .i64, .int .i64, .int .i64, .int .i64] i .other) (fun j => by have h := Nat.mod_lt j (show 0 < 4 by decide); generalize j % 4 = r at *; rcases r with _ | _ | _ | _ | r <;> first | rfl | omega) s2_0
  have k3 := h3
  have lt3 : ∀ x ∈ p3, x.block < W.heap.size := by obtain ⟨m, hm⟩ := k3; exact DataW.trod_lt m _ _ _ hm
  obtain ⟨a3, s3, R3⟩ := open_cell (s := .int .i64) (by kernel_rfl) (by kernel_rfl) (hval 3 3 v3 rfl rfl) h3
  obtain ⟨x3_0, rfl, w3_0⟩ := s3
  clear hA0 hval0
  refine (law_of reelSaysG_f rfl (reelSaysG_a l0_0 g0_0 w0_0 l0_1 g0_1 w0_1 l0_2 g0_2 w0_2 l0_3 F0_3 l0_4 g0_4 w0_4 x0_5 x0_6 x0_7 x0_8 x0_9 x0_10 x0_11 x0_12 x0_13 x0_14 x0_15 x0_16 x0_17 x1_0 l2_0 F2_0 x3_0 (⟨fun j => In64.of_wf (w2_0 j), In64.of_wf w3_0⟩)) (w := W) (.cons R0 (.cons R1 (.cons R2 (.cons R3 .nil))))).mono fun e W' ⟨he, bel⟩ => ?_
  subst he
  exact ⟨_, rfl, _, _, _, [], _, [], hW', trodAll_mk1 (shut_bool Tryz.underlying4 _), (trodAll_cons_mk (Below.trod laidOut (by kernel_rfl) (of_decide_eq_true (by kernel_rfl)) k0 bel lt0) (trodAll_cons_mk (Below.trod laidOut (by kernel_rfl) (of_decide_eq_true (by kernel_rfl)) k1 bel lt1) (trodAll_cons_mk (Below.trod laidOut (by kernel_rfl) (of_decide_eq_true (by kernel_rfl)) k2 bel lt2) (trodAll_cons_mk (Below.trod laidOut (by kernel_rfl) (of_decide_eq_true (by kernel_rfl)) k3 bel lt3) trodAll_mk0)))), rfl, bel.frame _, fun h => by cases h⟩

theorem and_mk {a b : Bool} (h : a = true) (k : b = true) : (a && b) = true := by rw [h, k]; rfl
set_option maxRecDepth 100000 in
set_option maxHeartbeats 8000000 in
theorem facts : joinedFacts Tryz.pinned.checked.prog 3 Tryz.f3 Rows.reelSaysSpec Rows.reelSaysRow = true := by
  unfold joinedFacts
  repeat' (with_reducible refine and_mk ?_ ?_)
  all_goals (as_aux_lemma => kernel_rfl)
theorem named : Tryz.pinned.checked.prog.funcNamed Rows.reelSaysRow.func = some 3 := by kernel_rfl
theorem over : Rows.reelSaysRow.holds Tryz.pinned (OpenSpec.ofChange Rows.reelSaysSpec) :=
  OpenClaim.holds_of_wide 3 Tryz.f3 rfl rfl rfl rfl rfl rfl rfl ⟨rfl, rfl, rfl, rfl, rfl⟩ rfl rfl rfl rfl rfl named Tryz.func3 facts
    (of_decide_eq_true (by kernel_rfl)) (by unfold Func.isWrapper; first | (rw [if_pos (by decide +kernel)]; kernel_rfl) | (rw [if_neg (by decide +kernel)]; exact ⟨rfl, rfl⟩))
    (fun os started H enc _ => lifted os started H enc)

theorem proved : Rows.ReelSaysSaid := over
#print axioms proved
end Go.Proofs.YtpmmabaecldmkaaGreat.reelSays
