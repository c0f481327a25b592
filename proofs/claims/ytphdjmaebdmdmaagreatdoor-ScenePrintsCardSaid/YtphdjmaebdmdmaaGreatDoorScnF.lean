/- Scenes as text: the program's Print, from its second word on. -/
import Derived.Test.YtphdjmaebdmdmaaGreatDoorScnE
import Derived.Lib.AppendStr
import Derived.Test.YtphdjmaebdmdmaaGreatDoorEvArg
import Derived.Lay
import Derived.MakeChecks
import Derived.SizedLaws
namespace Go.Proofs.YtphdjmaebdmdmaaGreatDoor
open Go.RowKit Ev
set_option linter.unusedVariables false
set_option linter.unusedSimpArgs false
set_option maxRecDepth 20000
set_option maxHeartbeats 8000000

/-- A function's code from its k-th statement on. -/
def sndC : Code → Code
  | .seq _ y => y
  | c => c
def bodyC (f : Func) : Code := match f.body with | some c => c | none => .skip
def cutC (f : Func) (k : Nat) : Code := (List.range k).foldl (fun c _ => sndC c) (bodyC f)
def cutF (f : Func) (k : Nat) : Func := { f with body := some (cutC f k) }
/-- What the machine shows of the rest. -/
def EndS (P : Program) (fn : Func) (w0 : St0) (ds : List Deferred) (r : AV) : Exit → Act → World → Prop := fun e a w' => (e = .ret ∨ e = .normal) ∧ a.defers = ds ∧ Keep w0 w' ∧ ∃ v, (results fn a.tmps).run P w' = .ok v w' ∧ Rd w' (fun _ => none) (fun b => b < w'.heap.size ∧ (w0.im0 b ∨ ¬ w0.kp b)) r v
theorem rest_ofS {P : Program} {cx : Cx} {con : Nat → List AV → CR} {inl : Nat → Bool} {fns : Nat → Option Func} {mc : Nat → List AV → (Nat → OB) → MR} (hB : Base P cx con fns mc) (n : Nat) {fn : Func} {args : List AV} {own : Nat → OB} {nk : Nat} {r : AV}
    (h : runA 0 cx con inl (calT cx con inl fns mc n) fn args (outK r) own nk) {c : Code} (hb : fn.body = some c) {w0 : St0} {ds : List Deferred} {a : Act} {w : World} {σ : Nat → Option Nat} {Im : Nat → Prop} (hG : Gd w0 ds fn.ntmps (argE args) own nk a w σ Im) : c.wp P (EndS P fn w0 ds r) a w := by
  obtain ⟨h1, h2⟩ := h
  rw [hb] at h2
  replace h2 : wpR 0 cx con inl (calT cx con inl fns mc n) c (retK cx fn (outK r)) (argE args) own nk := h2
  rw [wpR_eq] at h2
  unfold okF at h1
  rw [hb] at h1
  rw [Bool.and_eq_true] at h1
  refine wp_mono (wpA_sound (w0 := w0) hB.cx hB.con (calT_ok hB.cx hB.con hB.mix hB.fns hB.mc n) hB.mix (lo := 0) c h1.1 _ _ _ _ h2 _ w σ Im w σ Im hG (GoL.refl _ _ _ _)) fun e a w' hF => ?_
  have fin : ∀ e env own nk σ' Im', (match e with | AE.exit _ => False | _ => True) → retK cx fn (outK r) e env own nk → Gd w0 ds fn.ntmps env own nk a w' σ' Im' → a.defers = ds ∧ Keep w0 w' ∧ ∃ v, (results fn a.tmps).run P w' = .ok v w' ∧ Rd w' (fun _ => none) (fun b => b < w'.heap.size ∧ (w0.im0 b ∨ ¬ w0.kp b)) r v := by
    intro e env own nk σ' Im' he hk' hG
    refine ⟨hG.df, hG.sat.bel, ?_⟩
    have hk' : match resA cx fn.ntmps env own fn.results.toList with | .ok p u => preE p (force u fun u => outK r u own nk) | .no => False := by
      cases e <;> first | exact hk' | exact he.elim
    split at hk'
    · rename_i p u hr
      obtain ⟨hp, hk'⟩ := preE_iff hk'
      rw [force_eq] at hk'
      obtain ⟨v, hv, hrd⟩ := resA_sound (P := P) hB.cx hG.sat hr hp hG.sz hG.fr
      refine ⟨v, hv, ?_⟩
      unfold outK at hk'
      split at hk'
      · exact hk'.elim
      · rename_i u' ks p' e'
        obtain ⟨hp', hk'⟩ := preE_iff hk'
        rw [force_eq] at hk'
        have h3 := agr_rd hk' (pubT_sound hG.sat e' hp' hrd)
        refine Rd.wide h3 fun b hb => ?_
        rcases hb with hb | ⟨k, _, hb⟩
        · exact ⟨hG.sat.im b hb, hG.sat.imB b hb⟩
        · exact ⟨hG.sat.sg k b hb, .inr (hG.sat.sgB k b hb)⟩
    · exact hk'.elim
  cases e with
  | normal =>
    obtain ⟨env', own', nk', σ', Im', hk', hG', hg'⟩ := hF
    exact ⟨.inr rfl, fin _ _ _ _ _ _ trivial hk' hG'⟩
  | ret =>
    obtain ⟨env', own', nk', σ', Im', hk', hG', hg'⟩ := hF
    exact ⟨.inl rfl, fin _ _ _ _ _ _ trivial hk' hG'⟩
  | exit i =>
    obtain ⟨env', own', nk', σ', Im', hk', hG', hg'⟩ := hF
    exact hk'.elim
  | _ => exact hF.elim
structure IyB (s : Scn) where
  i : Nat
  h : i ≤ s.n5
structure IyC (s : Scn) where
  i : Nat
  h : i ≤ s.n1
structure IyD (s : Scn) where
  i : Nat
  h : i ≤ s.n2
structure IyE (s : Scn) where
  i : Nat
  h : i ≤ s.n3
theorem hdB_eq (s : Scn) : hdB s = (false || !thB s.e0 || !thB s.e1 || !thB s.e2 || !thB s.e3 || !thB s.e4 || !thB s.e5 || !thB s.e6 || !thB s.e7 || !thB s.e8 || !thB s.e9) := by
  unfold hdB v3B
  simp only [Bool.not_and, Bool.false_or, Bool.or_assoc]
theorem lmB_eq (s : Scn) (i : Nat) : bd2 s (i + 1) = (bd2 s i || !thB (s.L i).x || !thB (s.L i).y || !thB (s.L i).z) := by
  rw [bd2_s]
  unfold lmpB v3B
  simp only [Bool.not_and, Bool.or_assoc]
theorem shB_eq (s : Scn) (i : Nat) : bd3 s (i + 1) = fBT (bd3 s i) (s.S i) := by
  rw [bd3_s, fBT_or]
  unfold shpB
  rfl
theorem slB_or {Q : Nat → Prt} {m : Nat} (hS : SolP Q m) (h1 : 1 ≤ m) (b : Bool) : slB Q m b = (b || slB Q m false) := by
  unfold slB
  cases usOk Q m with
  | false => simp
  | true =>
    rw [if_pos rfl, if_pos rfl, tB_or hS.ord hS.m16 _ (by omega) 0 (b || decide (dp Q (m - 1) > 3)), tB_or hS.ord hS.m16 _ (by omega) 0 (false || decide (dp Q (m - 1) > 3))]
    simp only [Bool.false_or, Bool.or_assoc]
theorem soB_eq {s : Scn} {i : Nat} (h : solidE (s.T i).n (s.T i).P (s.T i).s = 0) : bd4 s (i + 1) = slB (s.T i).P (s.T i).n (bd4 s i) := by
  obtain ⟨hS, h1, _⟩ := solP_of h
  rw [bd4_s, slB_or hS h1]
  unfold solB'
  rfl
theorem flB_eq {s : Scn} {i : Nat} (hs : ScOk s) (hi : i < s.n3) : bd5 s (i + 1) = (fpB (bd5 s i) (s.G i).x (s.G i).y (s.G i).z (s.G i).d || hiB (s.G i).H (s.G i).n) := by
  rw [bd5_s, hi_told hs hi _ (Nat.le_refl _), Bool.or_false]
  unfold fldB fpB v3B
  simp only [Bool.not_and, Bool.or_assoc]
theorem skB_eq {s : Scn} {i : Nat} (hs : ScOk s) (hi : i < s.n4) : hdB s = (hdB s || !thB (milF (s.K i).n)) := by
  have := (hs.k i hi).n
  rw [mil_told (by omega), Bool.not_true, Bool.or_false]
theorem hd_pos (s : Scn) : 3 ≤ (hdS s).size := by
  unfold hdS
  rw [ByteArray.size_append, k_eye_sz]; omega
theorem tx1_pos (s : Scn) (i : Nat) : 0 < (tx1 s i).size := by
  have := hd_pos s
  unfold tx1; rw [ByteArray.size_append]; omega
theorem tx2_pos (s : Scn) (i : Nat) : 0 < (tx2 s i).size := by
  have := tx1_pos s s.n4
  unfold tx2; rw [ByteArray.size_append]; omega
theorem tx3_pos (s : Scn) (i : Nat) : 0 < (tx3 s i).size := by
  have := tx2_pos s s.n5
  unfold tx3; rw [ByteArray.size_append]; omega
theorem tx4_pos (s : Scn) (i : Nat) : 0 < (tx4 s i).size := by
  have := tx3_pos s s.n1
  unfold tx4; rw [ByteArray.size_append]; omega
theorem tx5_pos (s : Scn) (i : Nat) : 0 < (tx5 s i).size := by
  have := tx4_pos s s.n2
  unfold tx5; rw [ByteArray.size_append]; omega
theorem vc_u (a b c : Nat) : vcS a b c = nmS a ++ nmS b ++ nmS c := (vc_def a b c).symm
def eyeO (s : Scn) : Nat → OB := fun k => match k with | 0 => .row s.row | 1 => .row [.own 1 0, .os 2 1 0 3, .bool false] | 2 => .bts 3 (byteAt k_eye) | _ => .gone
def eyeA : List AV := [.any, .own 0 0, .any, .any, .any, .own 1 0, .any, .any, .any, .any, .any, .any, .any, .any, .any, .any, .any, .any, .any, .any, .any, .any, .any, .any, .any, .any, .any]
theorem print_rest (s : Scn) (h0 : sceneE s = 0) {w0 : St0} {ds : List Deferred} {a : Act} {w : World} {σ : Nat → Option Nat} {Im : Nat → Prop}
    (hG : Gd w0 ds (cutF Tryz.f9 4).ntmps (argE eyeA) (eyeO s) 3 a w σ Im) :
    (cutC Tryz.f9 4).wp Tryz.prog (EndS Tryz.prog (cutF Tryz.f9 4) w0 ds (.tup [.str (prT s), .int .i64 (prE' s)])) a w := by
  refine rest_ofS (inl := hasI (P := Tryz.prog) [⟨29, Tryz.f29, Tryz.func29, by kernel_rfl⟩] [wstr_m, pvec_m, pnum_m, pparts_m, pskin_m, pform_m, psolid_m, pfield_m, bstr_m]) (base [itoa_k] [⟨29, Tryz.f29, Tryz.func29, by kernel_rfl⟩] [wstr_m, pvec_m, pnum_m, pparts_m, pskin_m, pform_m, psolid_m, pfield_m, bstr_m]) 4 (fn := cutF Tryz.f9 4) (And.intro (by kernel_rfl) ?_) rfl hG
  clear hG
  show wpR 0 Tab.cx _ _ _ (cutC Tryz.f9 4) _ _ _ _
  repeat' (first | refine And.intro ?_ ?_ | (with_reducible exact ff_elim) | (with_reducible exact tf_elim) | refine view_flat rfl rfl ?_ | refine num_elim ?_ | intro _ | (with_reducible rfl) | ((with_reducible refine lk_t ?_); exact rfl) | ((with_reducible refine pf_t ?_); exact rfl) | refine tell ?_ | exact True.intro | (refine IsT.of ?_; kernel_rfl))
  all_goals (try (refine loop_keep [1, 5, 72, 73] [0] ?_; refine LoopI.mk (IxA s) (fun j => [(74, .int .i64 j.i)]) (fun j => [(1, .row [.own 1 0, .os 2 1 0 (tx1 s j.i).size, .bool (hdB s)]), (2, .bts (tx1 s j.i).size (byteAt (tx1 s j.i)))]) (fun j => s.n4 - j.i) (⟨0, Nat.zero_le _⟩) (wk_mk [some 1, some 46, some 0] ?_) (fun ⟨iA, hA⟩ => ?_)))
  repeat' (first | refine And.intro ?_ ?_ | (with_reducible exact ff_elim) | (with_reducible exact tf_elim) | refine stp_mk [some 1, some 102, some 0] ((⟨iA + 1, ?_⟩ : IxA s)) ?_ ?_ | refine view_flat rfl rfl ?_ | refine view_cell rfl ?_ | (refine view_sub ?_ ?_ ?_; exact rfl; exact rfl) | refine num_elim ?_ | intro _ | (with_reducible rfl) | ((with_reducible refine lk_t ?_); exact rfl) | ((with_reducible refine pf_t ?_); exact rfl) | refine tell ?_ | exact True.intro | (refine IsT.of ?_; kernel_rfl))
  all_goals (try (refine loop_keep [1, 5, 122, 123] [0] ?_; refine LoopI.mk (IyB s) (fun j => [(124, .int .i64 j.i)]) (fun j => [(1, .row [.own 1 0, .os 2 1 0 (tx2 s j.i).size, .bool (bd2 s j.i)]), (2, .bts (tx2 s j.i).size (byteAt (tx2 s j.i)))]) (fun j => s.n5 - j.i) (⟨0, Nat.zero_le _⟩) (wk_mk [some 1, some 2, some 0] ?_) (fun ⟨iB, hB⟩ => ?_)))
  repeat' (first | refine And.intro ?_ ?_ | (with_reducible exact ff_elim) | (with_reducible exact tf_elim) | refine stp_mk [some 1, some 80, some 0] ((⟨iB + 1, ?_⟩ : IyB s)) ?_ ?_ | refine view_flat rfl rfl ?_ | refine view_cell rfl ?_ | (refine view_sub ?_ ?_ ?_; exact rfl; exact rfl) | refine num_elim ?_ | intro _ | (with_reducible rfl) | ((with_reducible refine lk_t ?_); exact rfl) | ((with_reducible refine pf_t ?_); exact rfl) | refine tell ?_ | exact True.intro | (refine IsT.of ?_; kernel_rfl))
  all_goals (try (refine loop_keep [1, 5, 150, 151] [0] ?_; refine LoopI.mk (IyC s) (fun j => [(152, .int .i64 j.i)]) (fun j => [(1, .row [.own 1 0, .os 2 1 0 (tx3 s j.i).size, .bool (bd3 s j.i)]), (2, .bts (tx3 s j.i).size (byteAt (tx3 s j.i)))]) (fun j => s.n1 - j.i) (⟨0, Nat.zero_le _⟩) (wk_mk [some 1, some 2, some 0] ?_) (fun ⟨iC, hC⟩ => ?_)))
  repeat' (first | refine And.intro ?_ ?_ | (with_reducible exact ff_elim) | (with_reducible exact tf_elim) | refine stp_mk [some 1, some 72, some 0] ((⟨iC + 1, ?_⟩ : IyC s)) ?_ ?_ | refine view_flat rfl rfl ?_ | refine view_cell rfl ?_ | (refine view_sub ?_ ?_ ?_; exact rfl; exact rfl) | refine num_elim ?_ | intro _ | (with_reducible rfl) | ((with_reducible refine lk_t ?_); exact rfl) | ((with_reducible refine pf_t ?_); exact rfl) | refine tell ?_ | exact True.intro | (refine IsT.of ?_; kernel_rfl))
  all_goals (try (refine loop_keep [1, 5, 165, 166] [0] ?_; refine LoopI.mk (IyD s) (fun j => [(167, .int .i64 j.i)]) (fun j => [(1, .row [.own 1 0, .os 2 1 0 (tx4 s j.i).size, .bool (bd4 s j.i)]), (2, .bts (tx4 s j.i).size (byteAt (tx4 s j.i)))]) (fun j => s.n2 - j.i) (⟨0, Nat.zero_le _⟩) (wk_mk [some 1, some 2, some 0] ?_) (fun ⟨iD, hD⟩ => ?_)))
  repeat' (first | refine And.intro ?_ ?_ | (with_reducible exact ff_elim) | (with_reducible exact tf_elim) | refine stp_mk [some 1, some 73, some 0] ((⟨iD + 1, ?_⟩ : IyD s)) ?_ ?_ | refine view_flat rfl rfl ?_ | refine view_cell rfl ?_ | (refine view_sub ?_ ?_ ?_; exact rfl; exact rfl) | refine num_elim ?_ | intro _ | (with_reducible rfl) | ((with_reducible refine lk_t ?_); exact rfl) | ((with_reducible refine pf_t ?_); exact rfl) | refine tell ?_ | exact True.intro | (refine IsT.of ?_; kernel_rfl))
  all_goals (try (refine loop_keep [5, 176, 177] [0] ?_; refine LoopI.mk (IyE s) (fun j => [(178, .int .i64 j.i)]) (fun j => [(1, .row [.own 1 0, .os 2 1 0 (tx5 s j.i).size, .bool (bd5 s j.i)]), (2, .bts (tx5 s j.i).size (byteAt (tx5 s j.i)))]) (fun j => s.n3 - j.i) (⟨0, Nat.zero_le _⟩) (wk_mk [some 1, some 2, some 0] ?_) (fun ⟨iE, hE⟩ => ?_)))
  repeat' (first | refine And.intro ?_ ?_ | (with_reducible exact ff_elim) | (with_reducible exact tf_elim) | refine stp_mk [some 1, some 78, some 0] ((⟨iE + 1, ?_⟩ : IyE s)) ?_ ?_ | refine view_flat rfl rfl ?_ | refine view_cell rfl ?_ | (refine view_sub ?_ ?_ ?_; exact rfl; exact rfl) | refine num_elim ?_ | intro _ | (with_reducible rfl) | ((with_reducible refine lk_t ?_); exact rfl) | ((with_reducible refine pf_t ?_); exact rfl) | refine tell ?_ | exact True.intro | (refine IsT.of ?_; kernel_rfl))
  all_goals (try refine Tell.mk ?_)
  all_goals first | with_reducible rfl | with_reducible assumption | (with_reducible refine gb_t ?_; with_reducible assumption) | (with_reducible refine gb_f ?_; with_reducible assumption) | ((with_reducible refine ks_t ?_); rfl) | ((with_reducible refine okF_t ?_); kernel_rfl) | (show (_ : Int) ≤ _; decide) | (show (_ : Nat) ≤ _; decide) | (show (_ : Nat) < _; decide) | exact Nat.le_refl _ | (show 0 < _; omega) | skip
  all_goals (try dsimp only at *)
  all_goals (try simp only [un_part, shp_eta, mil_def, decide_eq_true_eq, decide_eq_false_iff_not, k_eye_def, k_to_def, k_up_def, k_wide_def, k_sky_def, k_end_def, k_skin_def, k_spread_def, k_mirror_def, k_glass_def, k_bend_def, k_lamp_def, k_light_def, intF_mk] at *)
  all_goals (have hs := sc_ok h0; have p1 := tx1_pos s; have p2 := tx2_pos s; have p3 := tx3_pos s; have p4 := tx4_pos s; have p5 := tx5_pos s)
  all_goals first | omega | exact hdB_eq s | exact lmB_eq s _ | exact shB_eq s _ | exact isI_mk | (rw [wrapI (by omega) (by omega)]; rfl) | exact p1 _ | exact p2 _ | exact p3 _ | exact p4 _ | exact p5 _ | exact byteAt_rng _ _ | exact (byteAt_rng _ _).1 | exact (byteAt_rng _ _).2 | skip
  all_goals first | (simp (disch := (simp only [ByteArray.size_append, k_eye_sz]; done)) only [catB_by]; rw [tx1_0]; unfold hdS; simp only [vc_u, pt3, ByteArray.append_assoc]; done) | (rw [tx1_0]; unfold hdS; simp only [vc_u, pt3, ByteArray.size_append, k_eye_sz, k_to_sz, k_up_sz, k_wide_sz, k_sky_sz, k_end_sz, k_skin_sz, k_spread_sz, k_mirror_sz, k_glass_sz, k_bend_sz, k_lamp_sz, k_light_sz]; omega) | (have e : iA = s.n4 := (by omega); rw [tx2_0, e]; done) | (have e : iA = s.n4 := (by omega); rw [tx2_0, e]; exact Nat.le_refl _) | (have e : iB = s.n5 := (by omega); rw [tx3_0, e]; done) | (have e : iB = s.n5 := (by omega); rw [tx3_0, e]; exact Nat.le_refl _) | (have e : iC = s.n1 := (by omega); rw [tx4_0, e]; done) | (have e : iC = s.n1 := (by omega); rw [tx4_0, e]; exact Nat.le_refl _) | (have e : iD = s.n2 := (by omega); rw [tx5_0, e]; done) | (have e : iD = s.n2 := (by omega); rw [tx5_0, e]; exact Nat.le_refl _) | exact bd2_0 s | (have e : iB = s.n5 := (by omega); rw [bd3_0, e]; done) | (have e : iC = s.n1 := (by omega); rw [bd4_0, e]; done) | (have e : iD = s.n2 := (by omega); rw [bd5_0, e]; done) | skip
  all_goals first | (have e : iE = s.n3 := (by omega); have q : bd5 s s.n3 = true := (by rw [← e]; assumption); first | exact (pr_2 h0 q).1 | exact (pr_2 h0 q).2) | (have e : iE = s.n3 := (by omega); have q : bd5 s s.n3 = false := (by rw [← e]; assumption); first | (rw [str_by, e]; exact (pr_3 h0 q).1) | exact (pr_3 h0 q).2) | skip
  all_goals first | (have y := hs.y; have i1 : In64 s.a := in64_iff.2 ⟨by omega, by omega⟩; have i2 : In64 s.b := in64_iff.2 ⟨by omega, by omega⟩; have i3 : In64 s.c := in64_iff.2 ⟨by omega, by omega⟩; have z0 := pt_sz i1; have z1 := pt_sz i2; have z2 := pt_sz i3; have y0 := nm_sz s.e0; have y1 := nm_sz s.e1; have y2 := nm_sz s.e2; have y3 := nm_sz s.e3; have y4 := nm_sz s.e4; have y5 := nm_sz s.e5; have y6 := nm_sz s.e6; have y7 := nm_sz s.e7; have y8 := nm_sz s.e8; have y9 := nm_sz s.e9; first | assumption | ((try simp only [ByteArray.size_append, k_eye_sz, k_to_sz, k_up_sz, k_wide_sz, k_sky_sz, k_end_sz, k_skin_sz, k_spread_sz, k_mirror_sz, k_glass_sz, k_bend_sz, k_lamp_sz, k_light_sz]); omega) | (show 0 < _; (try simp only [ByteArray.size_append, k_eye_sz, k_to_sz, k_up_sz, k_wide_sz, k_sky_sz, k_end_sz, k_skin_sz, k_spread_sz, k_mirror_sz, k_glass_sz, k_bend_sz, k_lamp_sz, k_light_sz]); omega)) | skip
  all_goals first | (have kA : iA < s.n4 := (by omega); obtain ⟨ka, kb, kc, kd, ke, kf, kg, kh, ki, kn⟩ := hs.k iA kA; have tz := tx1_sz hs hA; have q1 := p1 iA; have n4 := hs.n4; have il := it_len (n := (iA : Int)) ⟨by omega, by omega⟩; have p1 := pt_sz' (n := (s.K iA).a) ⟨by omega, by omega⟩; have p2 := pt_sz' (n := (s.K iA).b) ⟨by omega, by omega⟩; have p3 := pt_sz' (n := (s.K iA).c) ⟨by omega, by omega⟩; have p4 := pt_sz' (n := (s.K iA).d) ⟨by omega, by omega⟩; have p5 := pt_sz' (n := (s.K iA).e) ⟨by omega, by omega⟩; have p6 := pt_sz' (n := (s.K iA).f) ⟨by omega, by omega⟩; have p7 := pt_sz' (n := (s.K iA).g) ⟨by omega, by omega⟩; have p8 := pt_sz' (n := (s.K iA).h) ⟨by omega, by omega⟩; have p9 := pt_sz' (n := (s.K iA).i) ⟨by omega, by omega⟩; have z4 := nm_sz (milF (s.K iA).n); first | omega | exact in64_iff.2 ⟨by omega, by omega⟩ | exact skB_eq hs kA | ((try simp only [ByteArray.size_append, k_eye_sz, k_to_sz, k_up_sz, k_wide_sz, k_sky_sz, k_end_sz, k_skin_sz, k_spread_sz, k_mirror_sz, k_glass_sz, k_bend_sz, k_lamp_sz, k_light_sz]); omega) | (show 0 < _; (try simp only [ByteArray.size_append, k_eye_sz, k_to_sz, k_up_sz, k_wide_sz, k_sky_sz, k_end_sz, k_skin_sz, k_spread_sz, k_mirror_sz, k_glass_sz, k_bend_sz, k_lamp_sz, k_light_sz]); omega) | (simp (disch := (simp only [ByteArray.size_append, k_eye_sz]; done)) only [catB_by]; rw [tx1_s]; unfold sknT; simp only [vc_u, pt3, ByteArray.append_assoc]; done) | (rw [tx1_s]; unfold sknT; simp only [vc_u, pt3, ByteArray.size_append, k_eye_sz, k_to_sz, k_up_sz, k_wide_sz, k_sky_sz, k_end_sz, k_skin_sz, k_spread_sz, k_mirror_sz, k_glass_sz, k_bend_sz, k_lamp_sz, k_light_sz]; omega) | (rw [wrapI (by omega) (by omega)]; rfl)) | skip
  all_goals first | (have kB : iB < s.n5 := (by omega); obtain ⟨ka, kb, kc⟩ := hs.l iB kB; have tz := tx2_sz hs hB; have q1 := p2 iB; have n4 := hs.n5; have p1 := pt_sz' ka; have p2 := pt_sz' kb; have p3 := pt_sz' kc; have z1 := nm_sz (s.L iB).x; have z2 := nm_sz (s.L iB).y; have z3 := nm_sz (s.L iB).z; first | omega | exact in64_iff.2 ⟨by omega, by omega⟩ | ((try simp only [ByteArray.size_append, k_eye_sz, k_to_sz, k_up_sz, k_wide_sz, k_sky_sz, k_end_sz, k_skin_sz, k_spread_sz, k_mirror_sz, k_glass_sz, k_bend_sz, k_lamp_sz, k_light_sz]); omega) | (show 0 < _; (try simp only [ByteArray.size_append, k_eye_sz, k_to_sz, k_up_sz, k_wide_sz, k_sky_sz, k_end_sz, k_skin_sz, k_spread_sz, k_mirror_sz, k_glass_sz, k_bend_sz, k_lamp_sz, k_light_sz]); omega) | (simp (disch := (simp only [ByteArray.size_append, k_eye_sz]; done)) only [catB_by]; rw [tx2_s]; unfold lmpT; simp only [vc_u, pt3, ByteArray.append_assoc]; done) | (rw [tx2_s]; unfold lmpT; simp only [vc_u, pt3, ByteArray.size_append, k_eye_sz, k_to_sz, k_up_sz, k_wide_sz, k_sky_sz, k_end_sz, k_skin_sz, k_spread_sz, k_mirror_sz, k_glass_sz, k_bend_sz, k_lamp_sz, k_light_sz]; omega) | (rw [wrapI (by omega) (by omega)]; rfl)) | skip
  all_goals first | (have kC : iC < s.n1 := (by omega); obtain ⟨ka, kb⟩ := hs.p iC kC; have tz := tx3_sz hs hC; have q1 := p3 iC; have n4 := hs.n1; have z1 := fST_sz (s.S iC); have z2 := sk_sz (k := (s.S iC).s) (in64_iff.2 ⟨by omega, by omega⟩); first | omega | exact in64_iff.2 ⟨by omega, by omega⟩ | ((try simp only [ByteArray.size_append, k_eye_sz, k_to_sz, k_up_sz, k_wide_sz, k_sky_sz, k_end_sz, k_skin_sz, k_spread_sz, k_mirror_sz, k_glass_sz, k_bend_sz, k_lamp_sz, k_light_sz]); omega) | (show 0 < _; (try simp only [ByteArray.size_append, k_eye_sz, k_to_sz, k_up_sz, k_wide_sz, k_sky_sz, k_end_sz, k_skin_sz, k_spread_sz, k_mirror_sz, k_glass_sz, k_bend_sz, k_lamp_sz, k_light_sz]); omega) | (simp (disch := (simp only [ByteArray.size_append, k_eye_sz]; done)) only [catB_by]; rw [tx3_s]; unfold shpT; simp only [vc_u, pt3, ByteArray.append_assoc]; done) | (rw [tx3_s]; unfold shpT; simp only [vc_u, pt3, ByteArray.size_append, k_eye_sz, k_to_sz, k_up_sz, k_wide_sz, k_sky_sz, k_end_sz, k_skin_sz, k_spread_sz, k_mirror_sz, k_glass_sz, k_bend_sz, k_lamp_sz, k_light_sz]; omega) | (rw [wrapI (by omega) (by omega)]; rfl)) | skip
  all_goals first | (have kD : iD < s.n2 := (by omega); have ht := hs.t iD kD; obtain ⟨fP, fn, fs, fw, fm, fz⟩ := so_f' ht; have tz := tx4_sz hs hD; have q1 := p4 iD; have n4 := hs.n2; have z1 := soT_sz hs kD; first | omega | exact ht | exact soB_eq ht | ((try simp only [ByteArray.size_append, k_eye_sz, k_to_sz, k_up_sz, k_wide_sz, k_sky_sz, k_end_sz, k_skin_sz, k_spread_sz, k_mirror_sz, k_glass_sz, k_bend_sz, k_lamp_sz, k_light_sz]); omega) | (show 0 < _; (try simp only [ByteArray.size_append, k_eye_sz, k_to_sz, k_up_sz, k_wide_sz, k_sky_sz, k_end_sz, k_skin_sz, k_spread_sz, k_mirror_sz, k_glass_sz, k_bend_sz, k_lamp_sz, k_light_sz]); omega) | (simp (disch := (simp only [ByteArray.size_append, k_eye_sz]; done)) only [catB_by]; rw [tx4_s]; unfold solT; simp only [vc_u, pt3, ByteArray.append_assoc]; done) | (rw [tx4_s]; unfold solT; simp only [ByteArray.size_append]; done) | (rw [tx4_s]; unfold solT; simp only [vc_u, pt3, ByteArray.size_append, k_eye_sz, k_to_sz, k_up_sz, k_wide_sz, k_sky_sz, k_end_sz, k_skin_sz, k_spread_sz, k_mirror_sz, k_glass_sz, k_bend_sz, k_lamp_sz, k_light_sz]; omega) | (rw [wrapI (by omega) (by omega)]; rfl)) | skip
  all_goals first | (have kE : iE < s.n3 := (by omega); obtain ⟨k1, k2, k3, k4, k5⟩ := hs.g iE kE; have tz := tx5_sz hs hE; have q1 := p5 iE; have n4 := hs.n3; have z1 := flT_sz hs kE; first | omega | exact in64_iff.2 ⟨by omega, by omega⟩ | exact flB_eq hs kE | ((try simp only [ByteArray.size_append, k_eye_sz, k_to_sz, k_up_sz, k_wide_sz, k_sky_sz, k_end_sz, k_skin_sz, k_spread_sz, k_mirror_sz, k_glass_sz, k_bend_sz, k_lamp_sz, k_light_sz]); omega) | (show 0 < _; (try simp only [ByteArray.size_append, k_eye_sz, k_to_sz, k_up_sz, k_wide_sz, k_sky_sz, k_end_sz, k_skin_sz, k_spread_sz, k_mirror_sz, k_glass_sz, k_bend_sz, k_lamp_sz, k_light_sz]); omega) | (simp (disch := (simp only [ByteArray.size_append, k_eye_sz]; done)) only [catB_by]; rw [tx5_s]; unfold fldT; simp only [vc_u, pt3, ByteArray.append_assoc]; done) | (rw [tx5_s]; unfold fldT; simp only [ByteArray.size_append]; done) | (rw [tx5_s]; unfold fldT; simp only [vc_u, pt3, ByteArray.size_append, k_eye_sz, k_to_sz, k_up_sz, k_wide_sz, k_sky_sz, k_end_sz, k_skin_sz, k_spread_sz, k_mirror_sz, k_glass_sz, k_bend_sz, k_lamp_sz, k_light_sz]; omega) | (rw [wrapI (by omega) (by omega)]; rfl)) | skip
  trace_state
end Go.Proofs.YtphdjmaebdmdmaaGreatDoor
/- Scenes as text: the program's Print, its first word (by hand), and all of it. -/
namespace Go.Proofs.YtphdjmaebdmdmaaGreatDoor
open Go.RowKit Ev
set_option linter.unusedVariables false
set_option linter.unusedSimpArgs false
set_option maxRecDepth 20000
set_option maxHeartbeats 8000000

theorem ne_dead {a b : Int} (hn : ¬ a = b) (h : (a != b) = false) : False := by
  rw [bne_eq_false_iff_eq] at h; exact hn h
theorem print0_f : FnOk Tryz.prog 9 Tryz.f9 := ⟨Tryz.func9, by kernel_rfl⟩
theorem print0_a (s : Scn) (hpre : ¬ sceneE s = 0) : ACalls Tryz.prog 9 [.agg s.row] (.tup [.str (prT s), .int .i64 (prE' s)]) := by
  refine acalls_of (inl := hasI (P := Tryz.prog) [] []) (base [sceneMay_k] [] []) 0 print0_f (And.intro (by kernel_rfl) ?_)
  repeat' (first | refine And.intro ?_ ?_ | (with_reducible exact ff_elim) | (with_reducible exact tf_elim) | (intro h; rw [un_scn1] at h; exact (ne_dead hpre h).elim) | refine num_elim ?_ | intro _ | (with_reducible rfl) | ((with_reducible refine lk_t ?_); exact rfl) | ((with_reducible refine pf_t ?_); exact rfl) | refine tell ?_ | exact True.intro | (refine IsT.of ?_; kernel_rfl))
  all_goals (try refine Tell.mk ?_)
  all_goals (try simp only [un_scn1] at *)
  all_goals first | rfl | exact (pr_1 hpre).1 | exact (pr_1 hpre).2 | trace_state
/-- Out of a contract: what is called. -/
theorem calls_of {P : Program} {f : Nat} {fn : Func} (hf : FnOk P f fn) (hb : fn.body.isSome = true) {args : List AV} {r : AV} (h : ACalls P f args r) {w : World} {Im : Nat → Prop} (hIm : ∀ b, Im b → b < w.heap.size) {vals : List Value} (ht : Two (Rd w (fun _ => none) Im) args vals) (htw : TW w) :
    Calls P f vals.toArray w fun e w' => ∃ v, e = .returned v ∧ Below w.heap.size w w' ∧ Rd w' (fun _ => none) (fun b => Im b ∨ (w.heap.size ≤ b ∧ b < w'.heap.size)) r v := by
  have h1 := h w Im vals hIm ht htw
  have e : (callFunc f vals.toArray).run P w = .ok (.enter f vals.toArray) w := by
    have hne : ¬ fn.name = "runtime.NumGoroutine" := by simpa using hf.nm
    cases hbb : fn.body with
    | none => rw [hbb] at hb; cases hb
    | some c => simp [callFunc, hf.at_, hbb, hne]
  rw [e] at h1
  exact h1
theorem mayS_f : FnOk Tryz.prog 11 Tryz.f11 := ⟨Tryz.func11, by kernel_rfl⟩
set_option maxHeartbeats 1000000 in
set_option maxRecDepth 100000 in
theorem cc_fresh (b : Nat) (w : World) (h0 : w.cell? ⟨b, 0, none⟩ = some (.pointer none)) (hsh : w.shape? b = some (61, 3)) (hfz : w.frozen? ⟨b, 0, none⟩ = false) :
    Calls Tryz.prog 78 #[.pointer (some ⟨b, 0, none⟩)] w fun e w' => e = .returned (.tuple #[]) ∧ w' = w.setCell ⟨b, 0, none⟩ (.pointer (some ⟨b, 0, none⟩)) := by
  obtain ⟨j, hj, hjs⟩ := Option.map_eq_some_iff.1 (show (Tryz.prog.info? 59).map (·.size) = some 2 by kernel_rfl)
  go_enter Tryz.func78, Tryz.ntmps78
  go_wp2
  rw [Lib.run_to_unsafe w ⟨b, 0, none⟩ Tryz.underlying56 Tryz.underlying158 hj (by rw [hjs]; decide) hsh (Nat.zero_lt_succ 2)]
  simp only [Result.andThen]
  rw [Oper.upon_value]
  go_wp2
  rw [run_callFunc_extern Tryz.func133 (by kernel_rfl) (by kernel_rfl) (by kernel_rfl) (e := Extern.AbiNoEscape.same) (by kernel_rfl)]
  rw [Lib.run_noEscape]
  simp only [Result.andThen]
  rw [Oper.upon_value]
  go_wp2
  rw [Lib.run_from_unsafe w ⟨b, 0, none⟩ Tryz.underlying158 Tryz.underlying56 hj hsh (by kernel_rfl)]
  simp only [Result.andThen]
  rw [Oper.upon_value]
  go_wp2
  go_end0
  exact ⟨rfl, rfl⟩
theorem byte_info : (Tryz.prog.info? 5).map (fun i => (i.zero, i.size, i.bytes)) = some (some (.int .u8 0), 1, 1) := by kernel_rfl
/-- A printer's first text. -/
structure Fst (w w' : World) (b g cap : Nat) (bd : Value) (s : ByteArray) : Prop where
  hb : w'.heap[b]? = some (.cells #[.pointer (some ⟨b, 0, none⟩), .slice (some ⟨g, 0, none⟩) s.size cap, bd] 61 (0, 0))
  hg : w.heap.size ≤ g
  cap1 : s.size ≤ cap
  cap2 : cap ≤ maxLen
  cur : ∃ cur, w'.heap[g]? = some (.cells cur 5 (0, 0)) ∧ cap ≤ cur.size ∧ ∀ j, j < s.size → cur[j]? = some (.int .u8 (byteAt s j))
  old : ∀ k, k < w.heap.size → k ≠ b → w'.heap[k]? = w.heap[k]?
  os : w'.os = w.os
  tape : w'.tape = w.tape
  output : w'.output = w.output
  size : w.heap.size ≤ w'.heap.size
/-- The printer's first word is on it. -/
structure Cw (w w1 : World) (b : Nat) (bd : Value) : Prop where
  hb : w1.heap[b]? = some (.cells #[.pointer (some ⟨b, 0, none⟩), .slice none 0 0, bd] 61 (0, 0))
  size1 : w.heap.size ≤ w1.heap.size
  size2 : w1.heap.size ≤ w.heap.size
  old : ∀ k, k ≠ b → w1.heap[k]? = w.heap[k]?
  x : w1.os = w.os ∧ w1.tape = w.tape ∧ w1.output = w.output
theorem cw_of {w : World} {b : Nat} {bd : Value} (hbk : w.heap[b]? = some (.cells #[.pointer none, .slice none 0 0, bd] 61 (0, 0))) : Cw w (w.setCell ⟨b, 0, none⟩ (.pointer (some ⟨b, 0, none⟩))) b bd :=
  ⟨by simp [World.setCell, Array.getElem?_modify, hbk], by simp [World.setCell], by simp [World.setCell], fun k hk => Below.heap_setCell w ⟨b, 0, none⟩ _ k hk, ⟨rfl, rfl, rfl⟩⟩
theorem fst_of {w w1 w2 : World} {b : Nat} {bd : Value} {s : ByteArray} {xs : List Value} {v' : Value} (hbk : w.heap[b]? = some (.cells #[.pointer none, .slice none 0 0, bd] 61 (0, 0))) (hcw : Cw w w1 b bd) (hgrow : w1.grownBy w2 none)
    (hb2 : w2.heap[b]? = some (.cells #[.pointer (some ⟨b, 0, none⟩), .slice none 0 0, bd] 61 (0, 0))) (hl0 : xs.length < 1) (hown : w2.ownsRow w.heap.size 5 1 v' (xs.length + s.size) (xs ++ Lib.strCells s)) (h0 : 0 < s.size) :
    ∃ g cap, Fst w (w2.setCell ⟨b, 1, none⟩ v') b g cap bd s := by
  have hlt : b < w.heap.size := (Array.getElem?_eq_some_iff.1 hbk).1
  have hx : xs = [] := by
    cases xs with
    | nil => rfl
    | cons x r => simp at hl0
  subst hx
  have hn : ([] : List Value).length + s.size = s.size := by simp
  rw [hn] at hown
  rcases hown.2 with ⟨_, hz⟩ | ⟨g, cap, cur, rfl, hg, hh, h1, h2, h3, h4⟩
  · omega
  · have hgb : g ≠ b := by omega
    have hoth : ∀ k, k ≠ b → (w2.setCell ⟨b, 1, none⟩ (.slice (some ⟨g, 0, none⟩) s.size cap)).heap[k]? = w2.heap[k]? := fun k hk => Below.heap_setCell w2 ⟨b, 1, none⟩ _ k hk
    have hsz : (w2.setCell ⟨b, 1, none⟩ (.slice (some ⟨g, 0, none⟩) s.size cap)).heap.size = w2.heap.size := by simp [World.setCell]
    refine ⟨g, cap, ⟨by simp [World.setCell, Array.getElem?_modify, hb2], hg, h1, h2, ⟨cur, (hoth g hgb).trans hh, by omega, fun j hj => ?_⟩, fun k hk hkb => (hoth k hkb).trans ((hgrow.block k (by have := hcw.size1; omega) (by simp)).trans (hcw.old k hkb)), hgrow.os.trans hcw.x.1, hgrow.tape.trans hcw.x.2.1, hgrow.output.trans hcw.x.2.2, by rw [hsz]; exact Nat.le_trans hcw.size1 hgrow.size⟩⟩
    have e : (cur.toList.take (s.size * 1))[j]? = (Lib.strCells s)[j]? := by rw [h4]; rfl
    rw [List.getElem?_take, if_pos (by omega)] at e
    rw [← Array.getElem?_toList, e]
    unfold Lib.strCells byteAt
    have hj' : j < s.data.toList.length := by rw [Array.length_toList]; exact hj
    rw [List.getElem?_map, List.getElem?_eq_getElem hj']
    have hj2 : j < s.data.size := hj
    simp [hj2]
    rw [Array.getElem?_eq_getElem hj2]; rfl
set_option maxHeartbeats 2000000 in
set_option maxRecDepth 100000 in
theorem ws_fst (b : Nat) (bd : Value) (s : ByteArray) (w : World) (hbk : w.heap[b]? = some (.cells #[.pointer none, .slice none 0 0, bd] 61 (0, 0))) (h0 : 0 < s.size) (hlen : s.size ≤ 140737488355328) :
    Calls Tryz.prog 24 #[.pointer (some ⟨b, 0, none⟩), .string s] w fun e w' => e = .returned (.tuple #[.int .i64 s.size, .nilIface]) ∧ ∃ g cap, Fst w w' b g cap bd s := by
  obtain ⟨i0, hi, hz0, hz1, hz2⟩ := info_parts byte_info
  have hlt : b < w.heap.size := (Array.getElem?_eq_some_iff.1 hbk).1
  have c00 : w.cell? ⟨b, 0, none⟩ = some (.pointer none) := by rw [Lib.cell_of_heap hbk]; rfl
  have hsh0 : w.shape? b = some (61, 3) := by unfold World.shape?; rw [hbk]; rfl
  have hfz0 := Lib.frozen_of_heap hbk 0
  go_enter Tryz.func24, Tryz.ntmps24
  go_wp2_with (go_at_call 78; refine (cc_fresh b w c00 hsh0 hfz0).mono ?_)
  rintro e w1 ⟨rfl, h1⟩
  have hcw : Cw w w1 b bd := by rw [h1]; exact cw_of hbk
  clear h1
  obtain ⟨v, xs, c0, c1, hown, hl0, hvo⟩ : ∃ (v : Value) (xs : List Value), w1.cell? ⟨b, 0, none⟩ = some (.pointer (some ⟨b, 0, none⟩)) ∧ w1.cell? ⟨b, 1, none⟩ = some v ∧ w1.ownsRow w.heap.size 5 1 v xs.length xs ∧ xs.length < 1 ∧ v.ownBlock = none :=
    ⟨.slice none 0 0, [], by rw [Lib.cell_of_heap hcw.hb]; rfl, by rw [Lib.cell_of_heap hcw.hb]; rfl, World.ownsRow_nil _ _ _ _, Nat.zero_lt_one, rfl⟩
  have hs1 := hcw.size1
  go_wp2_with (at_builtin; refine Lib.wpList_append_own_string _ rfl _ _ 57 9 rfl w.heap.size 5 i0 Tryz.underlying57 Tryz.underlying9 hi hz0 hz1 hz2 _ _ _ rfl hown s rfl ?c3 ?c4 ?c5 ?_)
  case c3 => unfold maxLen; omega
  case c4 => omega
  case c5 => omega
  intro v' w2 hown' hgrow hx
  have hlt1 : b < w1.heap.size := (Array.getElem?_eq_some_iff.1 hcw.hb).1
  have hb2 : w2.heap[b]? = some (.cells #[.pointer (some ⟨b, 0, none⟩), .slice none 0 0, bd] 61 (0, 0)) := by
    rw [hgrow.block b hlt1 (by simp)]
    exact hcw.hb
  have d0 : w2.cell? ⟨b, 0, none⟩ = some (.pointer (some ⟨b, 0, none⟩)) := by rw [Lib.cell_of_heap hb2]; rfl
  have d1 : w2.cell? ⟨b, 1, none⟩ = some (.slice none 0 0) := by rw [Lib.cell_of_heap hb2]; rfl
  have f1 : w2.frozen? ⟨b, 1, none⟩ = false := Lib.frozen_of_heap hb2 1
  have hfst := fst_of hbk hcw hgrow hb2 hl0 hown' h0
  obtain ⟨ao, n', cap, rfl⟩ : ∃ ao n' cap, v' = .slice ao n' cap := by
    rcases hown'.2 with ⟨hv, _⟩ | ⟨g, cap, cur, hv, _⟩
    · exact ⟨_, _, _, hv⟩
    · exact ⟨_, _, _, hv⟩
  clear hb2 hcw hvo hx
  go_wp2
  go_ret2
  exact ⟨rfl, hfst⟩
def st0 (W w : World) (Im : Nat → Prop) (hsz : w.heap.size ≤ W.heap.size) (htw : ∀ w', Below w.heap.size W w' → TW w') : St0 := ⟨W, Im, fun b => b < w.heap.size, fun b hb => Nat.lt_of_lt_of_le hb hsz, w.heap.size, fun _ hb => hb, htw⟩
theorem blk_of {w : World} {b : Nat} {cs : Array Value} {t : TypeId} (hh : w.heap[b]? = some (.cells cs t (0, 0))) {n : Nat} {f : Nat → Value → Prop} {T : Option TypeId} (hT : ∀ t', T = some t' → t = t') (hn : n ≤ cs.size) (h : ∀ i, i < n → (cs.getD i undef).oneCell' = true ∧ f i (cs.getD i undef)) : Blk w b n f T := by
  have hl := blen_cells hh
  refine ⟨by omega, ⟨fun i _ => by unfold World.frozen?; simp only [hh]; simp, fun cs' t' lo hi h' => by
    rw [hh] at h'; cases h'; exact ⟨Nat.le_refl _, hT⟩⟩, fun i hi => ⟨cs.getD i undef, ?_, (h i hi).1, (h i hi).2⟩⟩
  have : i < cs.size := by omega
  unfold World.cell?
  simp only [hh]
  simp [this]
def sgE (b0 bp bg : Nat) : Nat → Option Nat := fun k => match k with | 0 => some b0 | 1 => some bp | 2 => some bg | _ => none
/-- Where the rest of Print begins. -/
theorem eye_gd {s : Scn} {w W : World} {Im : Nat → Prop} {cs : Array Value} {T0 b0 bp bg cap : Nat} (hsz : w.heap.size ≤ W.heap.size) (htw : ∀ w', Below w.heap.size W w' → TW w') (hIm : ∀ b, Im b → b < w.heap.size) (hcs : cs.size = s.row.length) (hc : ∀ i, i < s.row.length → (cs.getD i undef).oneCell' = true ∧ Rd W (fun _ => none) Im (s.row.getD i .any) (cs.getD i undef))
    (k0 : w.heap.size ≤ b0) (k1 : w.heap.size ≤ bp) (k2 : w.heap.size ≤ bg) (d01 : b0 ≠ bp) (d02 : b0 ≠ bg) (d12 : bp ≠ bg) (h0 : W.heap[b0]? = some (.cells cs T0 (0, 0)))
    (h1 : W.heap[bp]? = some (.cells #[.pointer (some ⟨bp, 0, none⟩), .slice (some ⟨bg, 0, none⟩) 3 cap, .bool false] 61 (0, 0))) (c1 : 3 ≤ cap) (c2 : cap ≤ maxLen) {cur : Array Value} (h2 : W.heap[bg]? = some (.cells cur 5 (0, 0))) (c3 : cap ≤ cur.size) (c4 : ∀ j, j < 3 → cur[j]? = some (.int .u8 (byteAt k_eye j)))
    {ds : List Deferred} {m : Nat} {tmps : Array Value} (hm : tmps.size = m) (k : Nat) (ht : tmps.toList = tmps.toList.take 27 ++ List.replicate k undef) (ht2 : Two (Rd W (sgE b0 bp bg) Im) eyeA (tmps.toList.take 27)) :
    Gd (st0 W w Im hsz htw) ds m (argE eyeA) (eyeO s) 3 ⟨tmps, ds⟩ W (sgE b0 bp bg) Im := by
  obtain ⟨vals, hvl⟩ : ∃ vals, vals = tmps.toList.take 27 := ⟨_, rfl⟩
  rw [← hvl] at ht ht2
  clear hvl
  replace ht : tmps = vals.toArray ++ Array.replicate k undef := by apply Array.ext'; rw [ht]; simp
  subst ht
  have lt : ∀ {b : Nat} {o : Obj}, W.heap[b]? = some o → b < W.heap.size := fun h => (Array.getElem?_eq_some_iff.1 h).1
  have g1 : Go1 W (fun _ => none) Im W (sgE b0 bp bg) Im := ⟨fun _ h => h, fun _ _ => rfl, fun _ _ h => (by cases h), fun _ _ h => (by cases h)⟩
  have ni : ∀ b, w.heap.size ≤ b → ¬ Im b := fun b hb hi => by have := hIm b hi; omega
  refine ⟨hm, rfl, ⟨⟨rfl, rfl, rfl, Nat.le_refl _, fun _ _ => rfl⟩, fun b hb => by have := hIm b hb; omega, ?_, ?_, ?_, fun b hb => .inl hb, ?_⟩, ?_, ?_, ?_⟩
  · intro k b e
    match k with
    | 0 => cases e; exact lt h0
    | 1 => cases e; exact lt h1
    | 2 => cases e; exact lt h2
    | k + 3 => cases e
  · intro k hl
    match k with
    | 0 =>
      refine .inr ⟨b0, rfl, ni _ k0, (fun c => by have c : b0 < w.heap.size := c; omega), blk_of h0 (fun _ h => (by cases h)) (Nat.le_of_eq hcs.symm) fun i hi => ⟨(hc i hi).1, (hc i hi).2.mono g1⟩⟩
    | 1 =>
      refine .inr ⟨bp, rfl, ni _ k1, (fun c => by have c : bp < w.heap.size := c; omega), blk_of h1 (fun _ h => (by cases h)) (Nat.le_refl _) fun i hi => ?_⟩
      have hi : i < 3 := hi
      match i, hi with
      | 0, _ => exact ⟨rfl, .own _ _ _ rfl⟩
      | 1, _ => exact ⟨rfl, .os _ _ _ _ _ _ rfl c1 c2 (by rw [blen_cells h2]; omega)⟩
      | 2, _ => exact ⟨rfl, .bool _⟩
    | 2 =>
      refine .inr ⟨bg, rfl, ni _ k2, (fun c => by have c : bg < w.heap.size := c; omega), blk_of h2 (fun t' h => (by cases h; rfl)) (show 3 ≤ cur.size by omega) fun i hi => ?_⟩
      have hi : i < 3 := hi
      have e : cur.getD i undef = .int .u8 (byteAt k_eye i) := by rw [Array.getD_eq_getD_getElem?, c4 i hi]; rfl
      rw [e]
      exact ⟨rfl, .int _ _⟩
    | k + 3 => exact hl.elim
  · intro k k' b hl hl' e e'
    match k, k' with
    | 0, 0 => rfl
    | 1, 1 => rfl
    | 2, 2 => rfl
    | 0, 1 => cases e; cases e'; exact absurd rfl d01
    | 1, 0 => cases e; cases e'; exact absurd rfl d01
    | 0, 2 => cases e; cases e'; exact absurd rfl d02
    | 2, 0 => cases e; cases e'; exact absurd rfl d02
    | 1, 2 => cases e; cases e'; exact absurd rfl d12
    | 2, 1 => cases e; cases e'; exact absurd rfl d12
    | k + 3, _ => exact hl.elim
    | _, k + 3 => exact hl'.elim
  · intro k b e c
    have c : b < w.heap.size := c
    match k with
    | 0 => cases e; omega
    | 1 => cases e; omega
    | 2 => cases e; omega
    | k + 3 => cases e
  · intro t' ht'
    exact arg_rd ht2 _ t' (by simp at ht' ⊢; omega)
  · intro k hk
    match k, hk with
    | k + 3, _ => rfl
  · intro k hk
    match k, hk with
    | k + 3, _ => exact fun e => e
theorem alloc_new (w : World) (o : Obj) : (w.alloc o).heap[w.heap.size]? = some o := by show (w.heap.push o)[w.heap.size]? = some o; exact Array.getElem?_push_size
def Stop (p : Prop) : Prop := p
theorem stop_mk {p : Prop} (h : Stop p) : p := h
theorem eye3 : (⟨#[101, 121, 101]⟩ : ByteArray).size = 3 := rfl
set_option maxRecDepth 100000 in
set_option maxHeartbeats 16000000 in
theorem print1_a (s : Scn) (h0 : sceneE s = 0) : ACalls Tryz.prog 9 [.agg s.row] (.tup [.str (prT s), .int .i64 (prE' s)]) := by
  intro w Im vals hIm ht htw
  obtain ⟨V, rfl, hV⟩ := one_of ht
  obtain ⟨cs, rfl, hcs, hone, hrd⟩ := hV.inv_agg
  refine enter_runs print0_f rfl ?_
  have hnew : (w.alloc (.cells cs 34)).heap[w.heap.size]? = some (.cells cs 34 (0, 0)) := alloc_new w _
  have h18 : (Tryz.prog.info? 34).map (·.size) = some cs.size := by rw [hcs]; kernel_rfl
  have hB0 : Below w.heap.size w (w.alloc (.cells cs 34)) := (Below.refl _ w).alloc (Nat.le_refl _) _
  have hV0 : Two (Rd (w.alloc (.cells cs 34)) (fun _ => none) Im) [.agg s.row] [.agg cs] := .cons (hV.mono ⟨fun _ h => h, fun b hb => Ev.heap_alloc_ne w _ (hIm b hb), fun _ _ h => (by cases h), fun _ _ h => (by cases h)⟩) .nil
  have hmay := calls_of mayS_f rfl (toA (sceneMay_a s)) (w := w.alloc (.cells cs 34)) (Im := Im) (fun b hb => by have := hIm b hb; simp; omega) hV0 (htw.below hB0)
  rw [h0] at hmay
  go_enter Tryz.func9, Tryz.ntmps9
  go_wp2_with (first | (refine wpList_load_row rfl _ _ rfl w.heap.size rfl _ cs (0, 0) _ hnew Tryz.underlying34 rfl h18 ?_) | (go_at_call 11; refine hmay.mono ?_; rintro e w1 ⟨v, rfl, hB1, hr⟩; rw [hr.inv_int]; clear hr) | (go_at_call 24; refine (ws_fst w1.heap.size (.bool false) _ _ (alloc_new w1 _) (by rw [eye3]; omega) (by rw [eye3]; omega)).mono ?_; rintro e W ⟨rfl, g, cap, hF⟩; refine stop_mk ?_))
  rename_i K1 hK1 K hK
  unfold Stop
  refine hK _ _ ?_
  apply wpList_nil
  simp only [Exit.then]
  refine hK1 _ _ ?_
  clear hK hK1 K K1 hmay hV0 h18
  obtain ⟨cur, hg1, hg2, hg3⟩ := hF.cur
  have hs0 : (w.alloc (.cells cs 34)).heap.size = w.heap.size + 1 := by simp
  have hs1 : w.heap.size + 1 ≤ w1.heap.size := by have := hB1.size; omega
  have hs2 : (w1.alloc (.cells #[.pointer none, .slice none 0 0, .bool false] 61)).heap.size = w1.heap.size + 1 := by simp
  have hgs := hF.hg
  have hws := hF.size
  rw [hs2] at hgs hws
  have old : ∀ k, k < w1.heap.size → W.heap[k]? = w1.heap[k]? := fun k hk => (hF.old k (by rw [hs2]; omega) (by omega)).trans (Ev.heap_alloc_ne w1 _ hk)
  have hBW : Below w.heap.size w W := ⟨hF.os.trans hB1.os, hF.tape.trans hB1.tape, hF.output.trans hB1.output, by omega, fun k hk => (old k (by omega)).trans ((hB1.block k (by omega)).trans (Ev.heap_alloc_ne w _ hk))⟩
  have hgo : Go1 w (fun _ => none) Im W (fun _ => none) Im := ⟨fun _ h => h, fun b hb => hBW.block b (hIm b hb), fun _ _ h => (by cases h), fun _ _ h => (by cases h)⟩
  show Code.wp _ (cutC Tryz.f9 4) _ _ _
  refine wp_mono (print_rest s h0 (eye_gd (s := s) (w := w) (W := W) (Im := Im) (cs := cs) (T0 := 34) (b0 := w.heap.size) (bp := w1.heap.size) (bg := g) (cap := cap) (by omega) (fun w' h => htw.below (hBW.trans h)) hIm hcs (fun i hi => ⟨hone i hi, (hrd i hi).mono hgo⟩) (Nat.le_refl _) (by omega) (by omega) (by omega) (by omega) (by omega) ((old _ (by omega)).trans ((hB1.block _ (by omega)).trans hnew)) hF.hb hF.cap1 hF.cap2 hg1 hg2 (fun j hj => by rw [hg3 j hj, k_eye_def]) (by kernel_rfl) 167 (by kernel_rfl) ?T2)) ?_
  case T2 => exact (.cons (.any _) (.cons (.own _ _ _ rfl) (.cons (.any _) (.cons (.any _) (.cons (.any _) (.cons (.own _ _ _ rfl) (.cons (.any _) (.cons (.any _) (.cons (.any _) (.cons (.any _) (.cons (.any _) (.cons (.any _) (.cons (.any _) (.cons (.any _) (.cons (.any _) (.cons (.any _) (.cons (.any _) (.cons (.any _) (.cons (.any _) (.cons (.any _) (.cons (.any _) (.cons (.any _) (.cons (.any _) (.cons (.any _) (.cons (.any _) (.cons (.any _) (.cons (.any _) .nil)))))))))))))))))))))))))))
  rintro e a W5 ⟨he, hdf, hkeep, v5, hv, hrd5⟩
  have hres : a.defers = [] ∧ ∃ v, (results Tryz.f9 a.tmps).run Tryz.prog W5 = .ok v W5 ∧ ∃ v', Ending.returned v = .returned v' ∧ Below w.heap.size w W5 ∧ Rd W5 (fun _ => none) (fun b => Im b ∨ (w.heap.size ≤ b ∧ b < W5.heap.size)) (.tup [.str (prT s), .int .i64 (prE' s)]) v' := by
    refine ⟨hdf, v5, hv, v5, rfl, hBW.trans ⟨hkeep.os, hkeep.tape, hkeep.output, hkeep.size, fun b hb => hkeep.block b hb⟩, Rd.wide hrd5 fun b hb => ?_⟩
    rcases hb.2 with q | q
    · exact .inl q
    · have q : ¬ b < w.heap.size := q
      exact .inr ⟨by omega, hb.1⟩
  rcases he with rfl | rfl
  · exact hres
  · exact hres
theorem print_a (s : Scn) : ACalls Tryz.prog 9 [.agg s.row] (.tup [.str (prT s), .int .i64 (prE' s)]) := by
  by_cases h : sceneE s = 0
  · exact print1_a s h
  · exact print0_a s h
def prtC : List AV → CR
  | [.agg l] => match scnB l with
    | true => .ok (some (l = (unScn l).row)) (.tup [.str (prT (unScn l)), .int .i64 (prE' (unScn l))])
    | false => .no
  | _ => .no
theorem prtC_ok {P : Program} {f : FuncId} (h : ∀ s : Scn, ACalls P f [.agg s.row] (.tup [.str (prT s), .int .i64 (prE' s)])) (args : List AV) (p : Option Prop) (r : AV) (e : prtC args = .ok p r) (hp : p.getD True) : ACalls P f args r := by
  unfold prtC at e
  split at e
  · rename_i l
    split at e
    · cases e
      have hp' : l = (unScn l).row := hp
      have := h (unScn l)
      rw [← hp'] at this
      exact this
    · cases e
  · cases e
def print_k : Con Tryz.prog := ⟨9, prtC, prtC_ok print_a⟩
def printR_k : Con Tryz.prog := ⟨10, prtC, prtC_ok sprintR_a⟩
end Go.Proofs.YtphdjmaebdmdmaaGreatDoor
/- The law of printing scenes: walked; and as the arguments of a law are opened. -/
namespace Go.Proofs.YtphdjmaebdmdmaaGreatDoor
open Go.RowKit Ev
set_option linter.unusedVariables false
set_option linter.unusedSimpArgs false
set_option maxRecDepth 20000
set_option maxHeartbeats 8000000

theorem ints_ofN {k : IntKind} {m : Nat} {cs : Nat → CS} {g : Nat → AV} (hcs : ∀ j, cs (j % m) = .int k) (h : ∀ j, Shape (cs (j % m)) (g j)) : ∃ F : Nat → Int, g = (fun j => .int k (F j)) ∧ ∀ j, (Lit.int k (F j)).wf = true := by
  have h' : ∀ j, ∃ n, g j = .int k n ∧ (Lit.int k n).wf = true := fun j => by
    have := h j
    rw [hcs] at this
    exact this
  obtain ⟨F, hF⟩ := Classical.axiomOfChoice h'
  exact ⟨F, funext fun j => (hF j).1, fun j => (hF j).2⟩
theorem sh_at {m : Nat} {cs : List CS} {g : Nat → AV} (h : ∀ j, Shape (cs.getD (j % m) .other) (g j)) (i c : Nat) (hc : Nat.blt c m = true) : Shape (cs.getD c .other) (g (i * m + c)) := by
  have hc := Nat.le_of_ble_eq_true hc
  have := h (i * m + c)
  rwa [Nat.mul_comm, Nat.mul_add_mod, Nat.mod_eq_of_lt hc, Nat.mul_comm] at this
theorem flat_of {m : Nat} (hm : 0 < m) {g : Nat → AV} {row : Nat → List AV} (h : ∀ i c, c < m → (row i).getD c .any = g (i * m + c)) : g = flatF m row := by
  funext j
  unfold flatF
  rw [h (j / m) (j % m) (Nat.mod_lt _ hm)]
  congr 1
  rw [Nat.mul_comm]; exact (Nat.div_add_mod j m).symm
theorem sh_int {k : IntKind} {v : AV} (h : Shape (.int k) v) : AV.int k (toI v) = v := by obtain ⟨n, rfl, _⟩ := h; rfl
theorem sh_flt {v : AV} (h : Shape .flt v) : AV.flt (toF v) = v := by obtain ⟨n, rfl, _⟩ := h; rfl
theorem part_of {g : Nat → AV} (w : ∀ j, Shape (List.getD [.int .i64, .int .i64, .int .i64, .int .i64, .flt, .flt, .flt, .flt, .flt, .flt, .flt, .flt, .flt, .flt, .flt, .int .i64] (j % 16) .other) (g j)) : partF (unPrt g) = g := by
  have e : g = flatF 16 fun i => (unPrt g i).row := by
    refine flat_of (by decide) fun i c hc => ?_
    match c, hc with
    | 0, _ => exact sh_int (sh_at w i 0 rfl)
    | 1, _ => exact sh_int (sh_at w i 1 rfl)
    | 2, _ => exact sh_int (sh_at w i 2 rfl)
    | 3, _ => exact sh_int (sh_at w i 3 rfl)
    | 4, _ => exact sh_flt (sh_at w i 4 rfl)
    | 5, _ => exact sh_flt (sh_at w i 5 rfl)
    | 6, _ => exact sh_flt (sh_at w i 6 rfl)
    | 7, _ => exact sh_flt (sh_at w i 7 rfl)
    | 8, _ => exact sh_flt (sh_at w i 8 rfl)
    | 9, _ => exact sh_flt (sh_at w i 9 rfl)
    | 10, _ => exact sh_flt (sh_at w i 10 rfl)
    | 11, _ => exact sh_flt (sh_at w i 11 rfl)
    | 12, _ => exact sh_flt (sh_at w i 12 rfl)
    | 13, _ => exact sh_flt (sh_at w i 13 rfl)
    | 14, _ => exact sh_flt (sh_at w i 14 rfl)
    | 15, _ => exact sh_int (sh_at w i 15 rfl)
    | c + 16, hc => omega
  funext j
  have e1 := congrFun e j
  rw [e1]
  unfold partF flatF
  have : j % 16 < 16 := Nat.mod_lt _ (by decide)
  generalize j % 16 = c at *
  match c, this with
  | 0, _ => rfl
  | 1, _ => rfl
  | 2, _ => rfl
  | 3, _ => rfl
  | 4, _ => rfl
  | 5, _ => rfl
  | 6, _ => rfl
  | 7, _ => rfl
  | 8, _ => rfl
  | 9, _ => rfl
  | 10, _ => rfl
  | 11, _ => rfl
  | 12, _ => rfl
  | 13, _ => rfl
  | 14, _ => rfl
  | 15, _ => rfl
  | c + 16, hc => omega
theorem shp_of {g : Nat → AV} (w : ∀ j, Shape (List.getD [.int .i64, .flt, .flt, .flt, .flt, .flt, .flt, .flt, .flt, .flt, .flt, .flt, .int .i64] (j % 13) .other) (g j)) : g = flatF 13 fun i => (unShp g i).row := by
  refine flat_of (by decide) fun i c hc => ?_
  match c, hc with
  | 0, _ => exact sh_int (sh_at w i 0 rfl)
  | 1, _ => exact sh_flt (sh_at w i 1 rfl)
  | 2, _ => exact sh_flt (sh_at w i 2 rfl)
  | 3, _ => exact sh_flt (sh_at w i 3 rfl)
  | 4, _ => exact sh_flt (sh_at w i 4 rfl)
  | 5, _ => exact sh_flt (sh_at w i 5 rfl)
  | 6, _ => exact sh_flt (sh_at w i 6 rfl)
  | 7, _ => exact sh_flt (sh_at w i 7 rfl)
  | 8, _ => exact sh_flt (sh_at w i 8 rfl)
  | 9, _ => exact sh_flt (sh_at w i 9 rfl)
  | 10, _ => exact sh_flt (sh_at w i 10 rfl)
  | 11, _ => exact sh_flt (sh_at w i 11 rfl)
  | 12, _ => exact sh_int (sh_at w i 12 rfl)
  | c + 13, hc => omega
theorem sol_of {g : Nat → AV} (w : ∀ j, Shape (List.getD [.sl 16 (fun i => List.getD [.int .i64, .int .i64, .int .i64, .int .i64, .flt, .flt, .flt, .flt, .flt, .flt, .flt, .flt, .flt, .flt, .flt, .int .i64] i .other), .int .i64] (j % 2) .other) (g j)) : g = flatF 2 fun i => (unSol g i).row := by
  refine flat_of (by decide) fun i c hc => ?_
  match c, hc with
  | 0, _ =>
    obtain ⟨n, g', e, _, w'⟩ := sh_at w i 0 rfl
    show AV.sl (slN (g (i * 2 + 0))) 16 (partF (unPrt (slG (g (i * 2 + 0))))) = _
    rw [e]
    show AV.sl n 16 (partF (unPrt g')) = _
    rw [part_of w']
  | 1, _ => exact sh_int (sh_at w i 1 rfl)
  | c + 2, hc => omega
theorem fld_of {g : Nat → AV} (w : ∀ j, Shape (List.getD [.int .i64, .int .i64, .flt, .flt, .flt, .flt, .sl 1 (fun i => List.getD [.int .i64] i .other), .int .i64] (j % 8) .other) (g j)) : g = flatF 8 fun i => (unFld g i).row := by
  refine flat_of (by decide) fun i c hc => ?_
  match c, hc with
  | 0, _ => exact sh_int (sh_at w i 0 rfl)
  | 1, _ => exact sh_int (sh_at w i 1 rfl)
  | 2, _ => exact sh_flt (sh_at w i 2 rfl)
  | 3, _ => exact sh_flt (sh_at w i 3 rfl)
  | 4, _ => exact sh_flt (sh_at w i 4 rfl)
  | 5, _ => exact sh_flt (sh_at w i 5 rfl)
  | 6, _ =>
    obtain ⟨n, g', e, _, w'⟩ := sh_at w i 6 rfl
    show AV.sl (slN (g (i * 8 + 6))) 1 (fun j => AV.int .i64 (toI (slG (g (i * 8 + 6)) j))) = _
    rw [e]
    show AV.sl n 1 (fun j => AV.int .i64 (toI (g' j))) = _
    congr 1
    funext j
    have := w' j
    rw [Nat.mod_one] at this
    exact sh_int this
  | 7, _ => exact sh_int (sh_at w i 7 rfl)
  | c + 8, hc => omega
theorem lmp_of {g : Nat → AV} (w : ∀ j, Shape (List.getD [.flt, .flt, .flt, .int .i64, .int .i64, .int .i64] (j % 6) .other) (g j)) : g = flatF 6 fun i => (unLmp g i).row := by
  refine flat_of (by decide) fun i c hc => ?_
  match c, hc with
  | 0, _ => exact sh_flt (sh_at w i 0 rfl)
  | 1, _ => exact sh_flt (sh_at w i 1 rfl)
  | 2, _ => exact sh_flt (sh_at w i 2 rfl)
  | 3, _ => exact sh_int (sh_at w i 3 rfl)
  | 4, _ => exact sh_int (sh_at w i 4 rfl)
  | 5, _ => exact sh_int (sh_at w i 5 rfl)
  | c + 6, hc => omega
theorem skn_of (F : Nat → Int) : (fun j => AV.int .i64 (F j)) = flatF 10 fun i => (unSkn (fun j => AV.int .i64 (F j)) i).row := by
  refine flat_of (by decide) fun i c hc => ?_
  match c, hc with
  | 0, _ => rfl
  | 1, _ => rfl
  | 2, _ => rfl
  | 3, _ => rfl
  | 4, _ => rfl
  | 5, _ => rfl
  | 6, _ => rfl
  | 7, _ => rfl
  | 8, _ => rfl
  | 9, _ => rfl
  | c + 10, hc => omega
theorem scenePrints_f : FnOk Tryz.prog 3 Tryz.f3 := ⟨Tryz.func3, by kernel_rfl⟩
theorem scenePrints_a (s : Scn) (hpre : s.n4 ≤ 9223372036854775807) : ACalls Tryz.prog 3 [.agg s.row] (.bool true) := by
  refine acalls_of (inl := hasI (P := Tryz.prog) [⟨8, Tryz.f8, Tryz.func8, by kernel_rfl⟩] []) (base [print_k, printR_k, sceneMay_k, sceneMayR_k, mayEye_k, mayEyeR_k, skinMay_k, skinMayR_k] [⟨8, Tryz.f8, Tryz.func8, by kernel_rfl⟩] []) 4 scenePrints_f (And.intro (by kernel_rfl) ?_)
  repeat' (first | refine And.intro ?_ ?_ | (with_reducible exact ff_elim) | (with_reducible exact tf_elim) | refine view_flat rfl rfl ?_ | refine view_cell rfl ?_ | (refine view_sub ?_ ?_ ?_; exact rfl; exact rfl) | refine num_elim ?_ | intro _ | (with_reducible rfl) | ((with_reducible refine lk_t ?_); exact rfl) | ((with_reducible refine pf_t ?_); exact rfl) | refine tell ?_ | exact True.intro | (refine IsT.of ?_; kernel_rfl))
  all_goals (try (refine loop_keep [1] [0] ?_; refine LoopI.mk (IxA s) (fun j => [(7, .int .i64 j.i)]) (fun j => []) (fun j => s.n4 - j.i) (⟨0, Nat.zero_le _⟩) (wk_mk [some 0] ?_) (fun ⟨iA, hA⟩ => ?_)))
  repeat' (first | refine And.intro ?_ ?_ | (with_reducible exact ff_elim) | (with_reducible exact tf_elim) | refine stp_mk [some 0] ((⟨iA + 1, ?_⟩ : IxA s)) ?_ ?_ | refine view_flat rfl rfl ?_ | refine view_cell rfl ?_ | (refine view_sub ?_ ?_ ?_; exact rfl; exact rfl) | refine num_elim ?_ | intro _ | (with_reducible rfl) | ((with_reducible refine lk_t ?_); exact rfl) | ((with_reducible refine pf_t ?_); exact rfl) | refine tell ?_ | exact True.intro | (refine IsT.of ?_; kernel_rfl))
  all_goals (try refine Tell.mk ?_)
  all_goals first | with_reducible rfl | with_reducible assumption | (with_reducible refine gb_t ?_; with_reducible assumption) | (with_reducible refine gb_f ?_; with_reducible assumption) | ((with_reducible refine okF_t ?_); kernel_rfl) | (show (_ : Int) ≤ _; decide) | (show (_ : Nat) ≤ _; decide) | skip
  all_goals (try dsimp only at *)
  all_goals (try simp only [un_scn1, eye_eq, decide_eq_true_eq, decide_eq_false_iff_not] at *)
  all_goals first | rfl | omega | (rw [wrapI (by omega) (by omega)]; rfl) | skip
  all_goals first | (exfalso; simp only [bne_self_eq_false, beq_self_eq_true, Bool.not_true, Bool.and_true, Bool.or_false, Bool.and_self, Bool.or_self, Bool.false_eq_true] at *; done) | trace_state
theorem scenePrintsG_f : FnOk Tryz.prog 3 Tryz.f3 := scenePrints_f
theorem scenePrintsG_a (n1 : Nat) (g1 : Nat → AV) (w1 : ∀ j, Shape (List.getD [.int .i64, .flt, .flt, .flt, .flt, .flt, .flt, .flt, .flt, .flt, .flt, .flt, .int .i64] (j % 13) .other) (g1 j)) (n2 : Nat) (g2 : Nat → AV) (w2 : ∀ j, Shape (List.getD [.sl 16 (fun i => List.getD [.int .i64, .int .i64, .int .i64, .int .i64, .flt, .flt, .flt, .flt, .flt, .flt, .flt, .flt, .flt, .flt, .flt, .int .i64] i .other), .int .i64] (j % 2) .other) (g2 j)) (n3 : Nat) (g3 : Nat → AV) (w3 : ∀ j, Shape (List.getD [.int .i64, .int .i64, .flt, .flt, .flt, .flt, .sl 1 (fun i => List.getD [.int .i64] i .other), .int .i64] (j % 8) .other) (g3 j)) (n4 : Nat) (F4 : Nat → Int) (n5 : Nat) (g5 : Nat → AV) (w5 : ∀ j, Shape (List.getD [.flt, .flt, .flt, .int .i64, .int .i64, .int .i64] (j % 6) .other) (g5 j)) (a b c : Int) (e0 e1 e2 e3 e4 e5 e6 e7 e8 e9 : Nat) :
    ACalls Tryz.prog 3 ([.agg [.sl n1 13 g1, .sl n2 2 g2, .sl n3 8 g3, .sl n4 10 (fun j => .int .i64 (F4 j)), .sl n5 6 g5, .int .i64 a, .int .i64 b, .int .i64 c, .flt e0, .flt e1, .flt e2, .flt e3, .flt e4, .flt e5, .flt e6, .flt e7, .flt e8, .flt e9]]) (.bool true) := by
  refine acalls_len fun hlen => ?_
  have hn4 : n4 ≤ 9223372036854775807 := hlen.1.2.2.2.1
  have := scenePrints_a ⟨n1, unShp g1, n2, unSol g2, n3, unFld g3, n4, unSkn (fun j => AV.int .i64 (F4 j)), n5, unLmp g5, a, b, c, e0, e1, e2, e3, e4, e5, e6, e7, e8, e9⟩ hn4
  unfold Scn.row at this
  rw [← shp_of w1, ← sol_of w2, ← fld_of w3, ← skn_of F4, ← lmp_of w5] at this
  exact this
end Go.Proofs.YtphdjmaebdmdmaaGreatDoor
/- The tables that a row lists are the tables that worlds have. -/
namespace Go.Proofs.YtphdjmaebdmdmaaGreatDoor
open Go.RowKit Go.Lib Go.ChangeShapes Go.WideShapes
set_option linter.unusedVariables false
theorem tab_in {P : Program} {W : World} {name : String} {k : IntKind} {zs : List Int} {g : Nat} {t e : TypeId} {n : Nat} (hg : P.globalNamed name = some g) (hty : (P.globals[g]?).map (·.type) = some t) (ht : P.underlying t = some (.array n e)) (he : P.underlying e = some (.int k)) (hce : P.cellsOf e = 1) (hct : P.cellsOf t = n) :
    ∀ {laid : List (String × DataW Unit)} {ps : List MemPlace}, (name, tabData k zs) ∈ laid → DataW.LaidVars P W laid ps → TabIs P W name k zs
  | [], ps, hm, h => by cases hm
  | (m, d) :: r, ps, hm, h => by
    obtain ⟨g', t', cs, fuel, p, q, hg', ht', hvar, hd, hr, _⟩ := h
    rcases List.mem_cons.1 hm with hm | hm
    · cases hm
      obtain rfl := Option.some.inj (hg.symm.trans hg')
      obtain rfl := Option.some.inj (hty.symm.trans ht')
      unfold TabIs
      rw [hvar, ← cells_of_tab ht he hce hct hd]
    · exact tab_in hg hty ht he hce hct hm hr
theorem tw_of {laid : List (String × DataW Unit)} {W : World} (hm : ("internal/strconv.uint64pow10", tabData .u64 pow10Tab) ∈ laid) (hp : (laid.all fun x => x.2.handleName?.isNone) = true) (hL : laidMetH Tryz.prog laid W) : TW W := by
  rw [MakeChecks.laidMetH_plain _ _ _ hp] at hL
  obtain ⟨ps, h, _⟩ := hL
  exact tab_in (P := Tryz.prog) (g := 1) (t := 236) (e := 205) (n := 20) (by kernel_rfl) (by kernel_rfl) (by kernel_rfl) (by kernel_rfl) (by kernel_rfl) (by kernel_rfl) hm h
end Go.Proofs.YtphdjmaebdmdmaaGreatDoor
/- How long an argument is that is a slice: what its reading tells. -/
namespace Go.Proofs.YtphdjmaebdmdmaaGreatDoor
open Go Go.RowKit Ev
set_option linter.unusedVariables false

theorem trod_len {H : Type} {enc : TypeId × Value → H} {P : Program} {W w : World} {base : Nat} {spare : Nat → Bool} {held : Bool} {σ : Nat → Option Nat} {Im : Nat → Prop} {t e : TypeId} {v : Value} {d : DataW H} {p : List MemPlace} {n sz : Nat} {g : Nat → AV}
    (hu : P.underlying t = some (.slice e)) (h : DataW.Trod enc P W base spare held t v d p) (hr : Rd w σ Im (.sl n sz g) v) : n = 0 ∨ ∃ elems rest, d = .slice elems rest ∧ elems.length = n := by
  rcases hr.inv_sl with ⟨h0, _⟩ | ⟨b, off, cap, U, rfl, _⟩
  · exact .inl h0
  · refine .inr ?_
    obtain ⟨fuel, hf⟩ := h
    cases fuel with
    | zero => simp [DataW.trod] at hf
    | succ fuel =>
      have hf' : DataW.trod enc P W base spare held (fuel + 1) t [.slice (some ⟨b, off, none⟩) n cap] = some (d, p) := hf
      unfold DataW.trod at hf'
      rw [hu] at hf'
      dsimp only at hf'
      split at hf'
      · simp only [Option.bind_eq_some_iff, Option.map_eq_some_iff] at hf'
        obtain ⟨elems, hel, rest, _, he⟩ := hf'
        have g1 := (mapM_get hel).1
        rw [List.length_range] at g1
        cases he
        exact ⟨_, _, rfl, by rw [List.length_map]; exact g1⟩
      · cases hf'
theorem arg_len {H : Type} {P : Program} {ts : List TypeId} {ds : List (DataW H)} {j : Nat} {t e : TypeId} {d : DataW H} {n : Nat} (hz : (DataW.weightsEach P ts ds).all (· ≤ reachBytes) = true) (ht : ts[j]? = some t) (hd : ds[j]? = some d) (hu : P.underlying t = some (.slice e)) (hb : P.bytesOf e = 8)
    (h : n = 0 ∨ ∃ elems rest, d = .slice elems rest ∧ elems.length = n) : n ≤ 17592186044416 := by
  rcases h with h | ⟨elems, rest, rfl, rfl⟩
  · omega
  · have a := sized_slice hz ht hd hu
    rw [hb] at a
    have r : reachBytes < 140737488355328 := reachBytes_lt
    omega
end Go.Proofs.YtphdjmaebdmdmaaGreatDoor
