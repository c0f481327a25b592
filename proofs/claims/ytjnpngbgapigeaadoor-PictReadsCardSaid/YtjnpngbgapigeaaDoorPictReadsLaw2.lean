/- Proved: law PictReads returns true, and writes nothing that was there before. No conditions of its own; the listed package-level variables begin as the program's text lays them (tied). -/
import Derived.Test.YtjnpngbgapigeaaDoorRows
import Derived.Test.YtjnpngbgapigeaaDoorPdtM
import Derived.Test.YtjnpngbgapigeaaDoorEvArg
import Derived.Test.YtjnpngbgapigeaaDoorSize
import Derived.Test.YtjnpngbgapigeaaDoorTie
import Derived.Test.YtjnpngbgapigeaaDoorCards
import Derived.ProofKit
import Derived.LaidMore
import Derived.Lay
import Derived.SevenTiedAt
import Derived.Stop.Joined
import Derived.OpenShut
import Derived.ShutString
import Derived.ChangeOld
import Derived.Laws.Cover2
namespace Go.Proofs.YtjnpngbgapigeaaDoor.pictReads
open Go.ChangeShapes Go.WideShapes Go.ChangeAt Go.RowKit Ev
set_option linter.unusedVariables false

theorem own : ownKnob Tryd.prog.godebug = none := by kernel_rfl
theorem laidOut : laidOutB Tryd.prog = true := by kernel_rfl

theorem arg_len1 {H : Type} {P : Program} {ts : List TypeId} {ds : List (DataW H)} {j : Nat} {t e : TypeId} {d : DataW H} {n : Nat} (hz : (DataW.weightsEach P ts ds).all (· ≤ reachBytes) = true) (ht : ts[j]? = some t) (hd : ds[j]? = some d) (hu : P.underlying t = some (.slice e)) (hb : P.bytesOf e = 1)
    (h : n = 0 ∨ ∃ elems rest, d = .slice elems rest ∧ elems.length = n) : n ≤ 140737488355328 := by
  rcases h with h | ⟨elems, rest, rfl, rfl⟩
  · omega
  · have a := sized_slice hz ht hd hu
    rw [hb] at a
    have r : reachBytes < 140737488355328 := reachBytes_lt
    omega
theorem arg_lenS {H : Type} {enc : TypeId × Value → H} {P : Program} {W w : World} {base : Nat} {spare : Nat → Bool} {held : Bool} {σ : Nat → Option Nat} {Im : Nat → Prop} {ts : List TypeId} {ds : List (DataW H)} {j : Nat} {t : TypeId} {v : Value} {d : DataW H} {p : List MemPlace} {x : ByteArray} (hz : (DataW.weightsEach P ts ds).all (· ≤ reachBytes) = true) (ht : ts[j]? = some t) (hd : ds[j]? = some d)
    (hu : P.underlying t = some .string) (h : DataW.Trod enc P W base spare held t v d p) (hr : Rd w σ Im (.str x) v) : x.size ≤ 140737488355328 := by
  obtain rfl := hr.inv_str
  obtain ⟨fuel, hf⟩ := h
  obtain ⟨s, e1, e2, _⟩ := DataW.trod_string hu (show DataW.trod enc P W base spare held fuel t [.string x] = some (d, p) from hf)
  have e1 : x = s := by simpa using e1
  subst e1
  have e2 : d = .lit (.string x.data.toList) := (Prod.mk.inj e2).1
  subst e2
  have a := sized_string hz ht hd
  rw [Array.length_toList] at a
  have r : reachBytes < 140737488355328 := reachBytes_lt
  have : x.data.size = x.size := rfl
  omega
set_option maxRecDepth 100000 in
theorem lifted (os : Os) (started : os.Started) (H : Type) (enc : TypeId × Value → H) :
    ReturnsInHanded {} Tryd.checked os 3 .any (fun w args => (Rows.pictReadsSpec.pre enc Tryd.prog Tryd.f3 Rows.pictReadsRow.domain false w args ∧ laidMetH Tryd.prog Rows.pictReadsRow.laid w) ∧ sizedMet enc Tryd.prog Tryd.f3 (OpenSpec.ofChange Rows.pictReadsSpec) false w args) (Rows.pictReadsSpec.post enc Tryd.prog Tryd.f3 false true false false) := by
  refine returnsInHanded_of_change_and (C := Tryd.checked) (X := fun w _ => laidMetH Tryd.prog Rows.pictReadsRow.laid w) (fun _ _ _ hh h => h.of_heap hh) own started (by kernel_rfl) Tryd.func3
    (ChangeSpec.witness_shaped (enc := enc) (C := Tryd.checked) (os := os) (X := fun w _ => laidMetH Tryd.prog Rows.pictReadsRow.laid w) false (World.laidAll Tryd.prog os Rows.pictReadsRow.laid) #[.slice none 0 0, .string "".toUTF8] 8 (World.laidAll_os _ _ _)
      (World.shaped_of_ZipB (by kernel_rfl) (by kernel_rfl)) (by kernel_rfl) (by kernel_rfl) (by kernel_rfl)
      (by rw [MakeChecks.laidMetH_plain _ _ _ (by kernel_rfl)]; exact laidMet_laidAll _ (by kernel_rfl) (by kernel_rfl))) ?_
  intro W base args ds gs before hval0 hW hcnd hsz hL _
  have hval : ∀ (j : Nat) t v, Tryd.f3.params[j]? = some t → args[j]? = some v → Value.okWide Tryd.prog W .any base t v := hval0
  have hW' := hW
  obtain ⟨p, q, hA0, hV, rfl, hfz, hnd⟩ := hW
  have hA : DataW.TrodAll enc Tryd.prog W 0 (fun _ => true) true Tryd.f3.params.toList args.toList ds p := hA0
  rw [Tryd.params3] at hA hval hsz
  obtain ⟨v0, vs0, d0, ds0, p0, q0, hargs, rfl, rfl, h0, r0⟩ := trodAll_cons hA
  obtain ⟨v1, vs1, d1, ds1, p1, q1, rfl, rfl, rfl, h1, r1⟩ := trodAll_cons r0
  obtain ⟨rfl, rfl, rfl⟩ := trodAll_nil r1
  obtain rfl : args = #[v0, v1] := by cases args; simp_all
  obtain ⟨rfl, rfl⟩ := trodVars_none hV
  have k0 := h0
  have lt0 : ∀ x ∈ p0, x.block < W.heap.size := by obtain ⟨m, hm⟩ := k0; exact DataW.trod_lt m _ _ _ hm
  obtain ⟨a0, s0, R0⟩ := open_cell (s := .sl 1 (fun i => List.getD [.int .u8] i .other)) (by kernel_rfl) (by kernel_rfl) (hval 0 22 v0 rfl rfl) h0
  obtain ⟨l0_0, g0_0, rfl, n0_0, s0_0⟩ := s0
  obtain ⟨F0_0, rfl, w0_0⟩ := ints_of (cs := fun i => List.getD [.int .u8] i .other) rfl s0_0
  have z0 := arg_len1 hsz (j := 0) (t := 22) (e := 5) rfl rfl (by kernel_rfl) (by kernel_rfl) (trod_len (e := 5) (by kernel_rfl) k0 R0)
  have k1 := h1
  have lt1 : ∀ x ∈ p1, x.block < W.heap.size := by obtain ⟨m, hm⟩ := k1; exact DataW.trod_lt m _ _ _ hm
  obtain ⟨a1, s1, R1⟩ := open_cell (s := .str) (by kernel_rfl) (by kernel_rfl) (hval 1 9 v1 rfl rfl) h1
  obtain ⟨x1_0, rfl, w1_0⟩ := s1
  have z1 := arg_lenS hsz (j := 1) (t := 9) rfl rfl (by kernel_rfl) k1 R1
  clear hA0 hval0
  refine (law_of pictReads_f rfl (pictReads_a l0_0 F0_0 x1_0 ⟨U8s.of_wf w0_0, by omega, by omega⟩) (w := W) (.cons R0 (.cons R1 .nil))).mono fun e W' ⟨he, bel⟩ => ?_
  subst he
  exact ⟨_, rfl, _, _, _, [], _, [], hW', trodAll_mk1 (shut_bool Tryd.underlying4 _), (trodAll_cons_mk (Below.trod laidOut (by kernel_rfl) (of_decide_eq_true (by kernel_rfl)) k0 bel lt0) (trodAll_cons_mk (Below.trod laidOut (by kernel_rfl) (of_decide_eq_true (by kernel_rfl)) k1 bel lt1) trodAll_mk0)), rfl, bel.frame _, fun h => by cases h⟩

theorem and_mk {a b : Bool} (h : a = true) (k : b = true) : (a && b) = true := by rw [h, k]; rfl
set_option maxRecDepth 100000 in
set_option maxHeartbeats 8000000 in
theorem facts : joinedFacts Tryd.pinned.checked.prog 3 Tryd.f3 Rows.pictReadsSpec Rows.pictReadsRow = true := by
  unfold joinedFacts
  repeat' (with_reducible refine and_mk ?_ ?_)
  all_goals (as_aux_lemma => kernel_rfl)
theorem named : Tryd.pinned.checked.prog.funcNamed Rows.pictReadsRow.func = some 3 := by kernel_rfl
theorem over : Rows.pictReadsRow.holds Tryd.pinned (OpenSpec.ofChange Rows.pictReadsSpec) :=
  OpenClaim.holds_of_wide 3 Tryd.f3 rfl rfl rfl rfl rfl rfl rfl ⟨rfl, rfl, rfl, rfl, rfl⟩ rfl rfl rfl rfl rfl named Tryd.func3 facts
    (of_decide_eq_true (by kernel_rfl)) (by unfold Func.isWrapper; first | (rw [if_pos (by decide +kernel)]; kernel_rfl) | (rw [if_neg (by decide +kernel)]; exact ⟨rfl, rfl⟩))
    (fun os started H enc _ => lifted os started H enc)

theorem proved : Rows.PictReadsCardSaid :=
  Claim7.holds_tied_plain_at .later [] [.data, .data, .data, .data, .sentinel, .sentinel, .pinned] true (true, "45993d1e76270dd7cf414855848dee82434861f7bdb67a0574b73acd8ae3fb2f") true over (fun _ h => by cases h) (by kernel_rfl) (fun _ h => by cases h) pictReads_row_tie rfl ⟨rfl, rfl⟩ (by kernel_rfl) rfl
    (fun f fn hf hfn => by
      obtain rfl : f = 3 := Option.some.inj ((show Tryd.prog.funcNamed Rows.pictReadsRow.func = some 3 by kernel_rfl).symm.trans hf) |>.symm
      obtain rfl : fn = Tryd.f3 := (Option.some.inj (Tryd.func3.symm.trans hfn)).symm
      exact ⟨by kernel_rfl, fun j t ht => by
        rw [Tryd.params3] at ht
        have hm : t ∈ [22, 9] := by simpa using Array.mem_of_getElem? ht
        have hall : ([22, 9].all fun u => !Tryd.prog.wantsStandIn u) = true := by kernel_rfl
        exact (show Tryd.prog.wantsStandIn t = false by simpa using List.all_eq_true.1 hall t hm)⟩)
    (by kernel_rfl)
#print axioms proved
end Go.Proofs.YtjnpngbgapigeaaDoor.pictReads
