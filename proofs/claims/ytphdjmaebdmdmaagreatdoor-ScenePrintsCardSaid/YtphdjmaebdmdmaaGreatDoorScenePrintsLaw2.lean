/- Proved: law ScenePrints returns true, and writes nothing that was there before. No conditions of its own; the listed package-level variables begin as the program's text lays them (tied). -/
import Derived.Test.YtphdjmaebdmdmaaGreatDoorRows
import Derived.Test.YtphdjmaebdmdmaaGreatDoorScnF
import Derived.Test.YtphdjmaebdmdmaaGreatDoorEvArg
import Derived.Test.YtphdjmaebdmdmaaGreatDoorTie
import Derived.Test.YtphdjmaebdmdmaaGreatDoorCards
import Derived.ProofKit
import Derived.LaidMore
import Derived.Lay
import Derived.SevenTiedAt
import Derived.Stop.Joined
import Derived.OpenShut
import Derived.ShutString
import Derived.ChangeOld
import Derived.Laws.Cover2
namespace Go.Proofs.YtphdjmaebdmdmaaGreatDoor.scenePrints
open Go.ChangeShapes Go.WideShapes Go.ChangeAt Go.RowKit Ev
set_option linter.unusedVariables false

theorem own : ownKnob Tryz.prog.godebug = none := by kernel_rfl
theorem laidOut : laidOutB Tryz.prog = true := by kernel_rfl

set_option maxRecDepth 100000 in
theorem lifted (os : Os) (started : os.Started) (H : Type) (enc : TypeId × Value → H) :
    ReturnsInHanded {} Tryz.checked os 3 .any (fun w args => (Rows.scenePrintsSpec.pre enc Tryz.prog Tryz.f3 Rows.scenePrintsRow.domain false w args ∧ laidMetH Tryz.prog Rows.scenePrintsRow.laid w) ∧ sizedMet enc Tryz.prog Tryz.f3 (OpenSpec.ofChange Rows.scenePrintsSpec) false w args) (Rows.scenePrintsSpec.post enc Tryz.prog Tryz.f3 false true false false) := by
  refine returnsInHanded_of_change_and (C := Tryz.checked) (X := fun w _ => laidMetH Tryz.prog Rows.scenePrintsRow.laid w) (fun _ _ _ hh h => h.of_heap hh) own started (by kernel_rfl) Tryz.func3
    (ChangeSpec.witness_shaped (enc := enc) (C := Tryz.checked) (os := os) (X := fun w _ => laidMetH Tryz.prog Rows.scenePrintsRow.laid w) false (World.laidAll Tryz.prog os Rows.scenePrintsRow.laid) #[.agg #[.slice none 0 0, .slice none 0 0, .slice none 0 0, .slice none 0 0, .slice none 0 0, .int .i64 0, .int .i64 0, .int .i64 0, .float .f64 0, .float .f64 0, .float .f64 0, .float .f64 0, .float .f64 0, .float .f64 0, .float .f64 0, .float .f64 0, .float .f64 0, .float .f64 0]] 8 (World.laidAll_os _ _ _)
      (World.shaped_of_ZipB (by kernel_rfl) (by kernel_rfl)) (by kernel_rfl) (by kernel_rfl) (by kernel_rfl)
      (by rw [MakeChecks.laidMetH_plain _ _ _ (by kernel_rfl)]; exact laidMet_laidAll _ (by kernel_rfl) (by kernel_rfl))) ?_
  intro W base args ds gs before hval0 hW hcnd hsz hL _
  have hval : ∀ (j : Nat) t v, Tryz.f3.params[j]? = some t → args[j]? = some v → Value.okWide Tryz.prog W .any base t v := hval0
  have hW' := hW
  obtain ⟨p, q, hA0, hV, rfl, hfz, hnd⟩ := hW
  have hA : DataW.TrodAll enc Tryz.prog W 0 (fun _ => true) true Tryz.f3.params.toList args.toList ds p := hA0
  rw [Tryz.params3] at hA hval hsz
  obtain ⟨v0, vs0, d0, ds0, p0, q0, hargs, rfl, rfl, h0, r0⟩ := trodAll_cons hA
  obtain ⟨rfl, rfl, rfl⟩ := trodAll_nil r0
  obtain rfl : args = #[v0] := by cases args; simp_all
  obtain ⟨rfl, rfl⟩ := trodVars_none hV
  have k0 := h0
  have lt0 : ∀ x ∈ p0, x.block < W.heap.size := by obtain ⟨m, hm⟩ := k0; exact DataW.trod_lt m _ _ _ hm
  obtain ⟨a0, s0, R0⟩ := Ev.open_row (S := [.sl 13 (fun i => List.getD [.int .i64, .flt, .flt, .flt, .flt, .flt, .flt, .flt, .flt, .flt, .flt, .flt, .int .i64] i .other), .sl 2 (fun i => List.getD [.sl 16 (fun i => List.getD [.int .i64, .int .i64, .int .i64, .int .i64, .flt, .flt, .flt, .flt, .flt, .flt, .flt, .flt, .flt, .flt, .flt, .int .i64] i .other), .int .i64] i .other), .sl 8 (fun i => List.getD [.int .i64, .int .i64, .flt, .flt, .flt, .flt, .sl 1 (fun i => List.getD [.int .i64] i .other), .int .i64] i .other), .sl 10 (fun i => List.getD [.int .i64, .int .i64, .int .i64, .int .i64, .int .i64, .int .i64, .int .i64, .int .i64, .int .i64, .int .i64] i .other), .sl 6 (fun i => List.getD [.flt, .flt, .flt, .int .i64, .int .i64, .int .i64] i .other), .int .i64, .int .i64, .int .i64, .flt, .flt, .flt, .flt, .flt, .flt, .flt, .flt, .flt, .flt]) (by kernel_rfl) (by kernel_rfl) (hval 0 34 v0 rfl rfl) h0
  obtain ⟨_, _, rfl, ⟨l0_0, g0_0, rfl, n0_0, w0_0⟩, t0_0⟩ := shL_cons s0
  obtain ⟨_, _, rfl, ⟨l0_1, g0_1, rfl, n0_1, w0_1⟩, t0_1⟩ := shL_cons t0_0
  obtain ⟨_, _, rfl, ⟨l0_2, g0_2, rfl, n0_2, w0_2⟩, t0_2⟩ := shL_cons t0_1
  obtain ⟨_, _, rfl, ⟨l0_3, g0_3, rfl, n0_3, s0_3⟩, t0_3⟩ := shL_cons t0_2
  obtain ⟨F0_3, rfl, w0_3⟩ := ints_ofN (k := .i64) (m := 10) (cs := fun i => List.getD [.int .i64, .int .i64, .int .i64, .int .i64, .int .i64, .int .i64, .int .i64, .int .i64, .int .i64, .int .i64] i .other) (fun j => by have h := Nat.mod_lt j (show 0 < 10 by decide); generalize j % 10 = r at *; rcases r with _ | _ | _ | _ | _ | _ | _ | _ | _ | _ | r <;> first | rfl | omega) s0_3
  obtain ⟨_, _, rfl, ⟨l0_4, g0_4, rfl, n0_4, w0_4⟩, t0_4⟩ := shL_cons t0_3
  obtain ⟨_, _, rfl, ⟨x0_5, rfl, w0_5⟩, t0_5⟩ := shL_cons t0_4
  obtain ⟨_, _, rfl, ⟨x0_6, rfl, w0_6⟩, t0_6⟩ := shL_cons t0_5
  obtain ⟨_, _, rfl, ⟨x0_7, rfl, w0_7⟩, t0_7⟩ := shL_cons t0_6
  obtain ⟨_, _, rfl, ⟨x0_8, rfl, w0_8⟩, t0_8⟩ := shL_cons t0_7
  obtain ⟨_, _, rfl, ⟨x0_9, rfl, w0_9⟩, t0_9⟩ := shL_cons t0_8
  obtain ⟨_, _, rfl, ⟨x0_10, rfl, w0_10⟩, t0_10⟩ := shL_cons t0_9
  obtain ⟨_, _, rfl, ⟨x0_11, rfl, w0_11⟩, t0_11⟩ := shL_cons t0_10
  obtain ⟨_, _, rfl, ⟨x0_12, rfl, w0_12⟩, t0_12⟩ := shL_cons t0_11
  obtain ⟨_, _, rfl, ⟨x0_13, rfl, w0_13⟩, t0_13⟩ := shL_cons t0_12
  obtain ⟨_, _, rfl, ⟨x0_14, rfl, w0_14⟩, t0_14⟩ := shL_cons t0_13
  obtain ⟨_, _, rfl, ⟨x0_15, rfl, w0_15⟩, t0_15⟩ := shL_cons t0_14
  obtain ⟨_, _, rfl, ⟨x0_16, rfl, w0_16⟩, t0_16⟩ := shL_cons t0_15
  obtain ⟨_, _, rfl, ⟨x0_17, rfl, w0_17⟩, t0_17⟩ := shL_cons t0_16
  obtain rfl := shL_nil t0_17
  clear hA0 hval0
  have htw : TW W := tw_of (laid := Rows.scenePrintsRow.laid) (.tail _ (.tail _ (.head _))) (by kernel_rfl) hL
  refine (law_of scenePrintsG_f rfl (scenePrintsG_a l0_0 g0_0 w0_0 l0_1 g0_1 w0_1 l0_2 g0_2 w0_2 l0_3 F0_3 l0_4 g0_4 w0_4 x0_5 x0_6 x0_7 x0_8 x0_9 x0_10 x0_11 x0_12 x0_13 x0_14 x0_15 x0_16 x0_17) (w := W) (.cons R0 .nil)).mono fun e W' ⟨he, bel⟩ => ?_
  subst he
  exact ⟨_, rfl, _, _, _, [], _, [], hW', trodAll_mk1 (shut_bool Tryz.underlying4 _), (trodAll_cons_mk (Below.trod laidOut (by kernel_rfl) (of_decide_eq_true (by kernel_rfl)) k0 bel lt0) trodAll_mk0), rfl, bel.frame _, fun h => by cases h⟩

theorem and_mk {a b : Bool} (h : a = true) (k : b = true) : (a && b) = true := by rw [h, k]; rfl
set_option maxRecDepth 100000 in
set_option maxHeartbeats 8000000 in
theorem facts : joinedFacts Tryz.pinned.checked.prog 3 Tryz.f3 Rows.scenePrintsSpec Rows.scenePrintsRow = true := by
  unfold joinedFacts
  repeat' (with_reducible refine and_mk ?_ ?_)
  all_goals (as_aux_lemma => kernel_rfl)
theorem named : Tryz.pinned.checked.prog.funcNamed Rows.scenePrintsRow.func = some 3 := by kernel_rfl
theorem over : Rows.scenePrintsRow.holds Tryz.pinned (OpenSpec.ofChange Rows.scenePrintsSpec) :=
  OpenClaim.holds_of_wide 3 Tryz.f3 rfl rfl rfl rfl rfl rfl rfl ⟨rfl, rfl, rfl, rfl, rfl⟩ rfl rfl rfl rfl rfl named Tryz.func3 facts
    (of_decide_eq_true (by kernel_rfl)) (by unfold Func.isWrapper; first | (rw [if_pos (by decide +kernel)]; kernel_rfl) | (rw [if_neg (by decide +kernel)]; exact ⟨rfl, rfl⟩))
    (fun os started H enc _ => lifted os started H enc)

theorem proved : Rows.ScenePrintsCardSaid :=
  Claim7.holds_tied_plain_at .later [] [.data, .data, .data, .data, .pinned] true (true, "e55ee1e925726c232d0447a58671bc9401cdb08f0a59b4377790dfc5a4f43c0f") true over (fun _ h => by cases h) (by kernel_rfl) (fun _ h => by cases h) scenePrints_row_tie rfl ⟨rfl, rfl⟩ (by kernel_rfl) rfl
    (fun f fn hf hfn => by
      obtain rfl : f = 3 := Option.some.inj ((show Tryz.prog.funcNamed Rows.scenePrintsRow.func = some 3 by kernel_rfl).symm.trans hf) |>.symm
      obtain rfl : fn = Tryz.f3 := (Option.some.inj (Tryz.func3.symm.trans hfn)).symm
      exact ⟨by kernel_rfl, fun j t ht => by
        rw [Tryz.params3] at ht
        have hm : t ∈ [34] := by simpa using Array.mem_of_getElem? ht
        have hall : ([34].all fun u => !Tryz.prog.wantsStandIn u) = true := by kernel_rfl
        exact (show Tryz.prog.wantsStandIn t = false by simpa using List.all_eq_true.1 hall t hm)⟩)
    (by kernel_rfl)
#print axioms proved
end Go.Proofs.YtphdjmaebdmdmaaGreatDoor.scenePrints
