/- The abstract machine: what it says holds. -/
import Derived.Test.YtphdjmaebdmdmaaGreatDoorEvWp
namespace Go.Proofs.YtphdjmaebdmdmaaGreatDoor
open Go.RowKit
set_option linter.unusedVariables false
set_option linter.unusedSimpArgs false
namespace Ev

/-- What a call that is stepped into hands on. -/
def CPost (w0 : St0) (w : World) (σ : Nat → Option Nat) (Im : Nat → Prop) (K : AV → (Nat → OB) → Nat → Prop) (v : Value) (w' : World) : Prop :=
  ∃ σ' Im' u own' nk', K u own' nk' ∧ Rd w' σ' Im' u v ∧ Sat w0 w' σ' Im' own' ∧ (∀ k, nk' ≤ k → σ' k = none) ∧ (∀ k, nk' ≤ k → ¬ (own' k).live) ∧ Go1 w σ Im w' σ' Im'
def CalOk (P : Program) (w0 : St0) (cal : Cal) : Prop :=
  ∀ f args K own nk, cal f args K own nk → ∀ w σ Im (vals : List Value), Sat w0 w σ Im own → (∀ k, nk ≤ k → σ k = none) → (∀ k, nk ≤ k → ¬ (own k).live) → Two (Rd w σ Im) args vals →
    Runs P ((callFunc f vals.toArray).run P w) (CPost w0 w σ Im K)

section
variable {P : Program} {w0 : St0} {ds : List Deferred}
theorem GoL.all {lo w σ Im w' σ' Im'} (h : GoL lo w σ Im w' σ' Im') (hn : ∀ k, lo ≤ k → σ k = none) : Go1 w σ Im w' σ' Im' := by
  have hk : ∀ k b, σ k = some b → k < lo := fun k b e => by
    rcases Nat.lt_or_ge k lo with h | h
    · exact h
    · rw [hn k h] at e; cases e
  exact ⟨h.im, h.blk, fun k b e => h.sg k b (hk k b e) e, fun k b e => h.len k b (hk k b e) e⟩
theorem exec_call {V : Operand → Value} {o : Oper} {c : Call} (hop : o.op = .call c) {f : Operand} (hc : c.callee = .value f) {fid : Nat} {cs : Array Value} (hV : V f = .func (.func fid) #[] cs) (w : World) :
    (execOp V o).run P w = (callFunc fid (c.args.toList.map V ++ cs.toList).toArray).run P w := by
  have ea : (c.args.toList.map V ++ cs.toList).toArray = c.args.map V ++ cs := by
    apply Array.ext'; simp
  rw [ea]
  unfold execOp
  simp only [hop, resolve, hc, hV, Deferred.ofValue]
  simp [invoke]
theorem inlF_some {mt : Nat → String → Option Nat} {inl : Nat → Bool} {env : Nat → AV} {o : Oper} {fid : Nat} {args : List AV} (h : inlF mt inl env o = some (fid, args)) :
    o.guard = none ∧ ((∃ c f caps, o.op = .call c ∧ c.callee = .value f ∧ evA env f = .fn fid caps ∧ args = c.args.toList.map (evA env) ++ caps) ∨
      ∃ c r m t v, o.op = .call c ∧ c.callee = .invoke r m ∧ evA env r = .ifc t v ∧ mt t m = some fid ∧ args = v :: c.args.toList.map (evA env)) := by
  unfold inlF at h
  split at h
  · cases h
  rename_i hg
  split at h
  · rename_i c hc
    split at h
    · rename_i f hf
      split at h
      · rename_i f' caps he
        split at h
        · cases h
          exact ⟨hg, .inl ⟨c, f, caps, hc, hf, he, rfl⟩⟩
        · cases h
      · cases h
    · rename_i r m hf
      split at h
      · rename_i t v he
        split at h
        · rename_i f' hm
          split at h
          · cases h
            exact ⟨hg, .inr ⟨c, r, m, t, v, hc, hf, he, hm, rfl⟩⟩
          · cases h
        · cases h
      · cases h
    · cases h
  · cases h
theorem seqC_sound {cx : Cx} (hcx : cx.ok P) {con : Nat → List AV → CR} (hcon : ConOk P con) {inl : Nat → Bool} {cal : Cal} (hcal : CalOk P w0 cal) {ops : Array Oper} {m : Nat} (hok : ∀ o ∈ ops, okT m ops o = true)
    {K : (Nat → AV) → (Nat → OB) → Nat → Prop} {Q : Exit → Act → World → Prop} {wS : World} {σS : Nat → Option Nat} {ImS : Nat → Prop}
    (hQ : ∀ env own nk a w σ Im, K env own nk → Gd w0 ds m env own nk a w σ Im → Go1 wS σS ImS w σ Im → Q .normal a w) :
    ∀ (l : List Oper), (∀ o ∈ l, o ∈ ops) → ∀ (env : Nat → AV) (own : Nat → OB) (nk : Nat) (a : Act) (w : World) (σ : Nat → Option Nat) (Im : Nat → Prop), seqC cx con inl cal ops l env own nk K → Gd w0 ds m env own nk a w σ Im → Go1 wS σS ImS w σ Im → wpList P ops Q l a w
  | [], _, env, own, nk, a, w, σ, Im, h, hG, hg => hQ _ _ _ _ _ _ _ h hG hg
  | o :: r, hl, env, own, nk, a, w, σ, Im, h, hG, hg => by
    have hmem := hl o (by simp)
    have hl' : ∀ x ∈ r, x ∈ ops := fun x hx => hl x (by simp [hx])
    unfold seqC at h
    split at h
    · rename_i fid args hin
      rw [forceL1_eq] at h
      obtain ⟨hgu, hcase⟩ := inlF_some hin
      have hread : ∀ x ∈ o.op.operands.toList, Rd w σ Im (evA env x) (a.eval x) := fun x hx => evA_rd hG.sz (hok o hmem) (fun _ _ => rfl) hG.fr x hx
      have hrun : Runs P ((execOp a.eval o).run P w) (CPost w0 w σ Im fun u own nk => putK env o.dst u fun env => seqC cx con inl cal ops r env own nk K) := by
        rcases hcase with ⟨c, f, caps, hop, hc, he, rfl⟩ | ⟨c, rc, mn, t, v, hop, hc, he, hm, rfl⟩
        · have hfr := hread f (by simp [hop, Op.operands, Call.operands, hc])
          rw [he] at hfr
          obtain ⟨cs, hVf, h1, h2⟩ := hfr.inv_fn
          have hargs : Two (Rd w σ Im) (c.args.toList.map (evA env) ++ caps) (c.args.toList.map a.eval ++ cs.toList) :=
            two_append (two_map _ _ fun x hx => hread x (by simp [hop, Op.operands, Call.operands, hc]; exact .inr (by simpa using hx))) (two_array h1 h2)
          have hrun := hcal _ _ _ _ _ h w σ Im _ hG.sat hG.new hG.dead hargs
          rwa [← exec_call hop hc hVf] at hrun
        · have hfr := hread rc (by simp [hop, Op.operands, Call.operands, hc])
          rw [he] at hfr
          obtain ⟨X, hX, hx0⟩ := hfr.inv_ifc
          have hargs : Two (Rd w σ Im) (v :: c.args.toList.map (evA env)) (X :: c.args.toList.map a.eval) :=
            .cons hx0.up (two_map _ _ fun x hx => hread x (by simp [hop, Op.operands, Call.operands, hc]; exact .inr (by simpa using hx)))
          have hrun := hcal _ _ _ _ _ h w σ Im _ hG.sat hG.new hG.dead hargs
          rwa [← exec_invoke hop hc hX (hcx.mt _ _ _ hm)] at hrun
      unfold wpList
      rw [if_pos (by simp [Region.wanted, hgu])]
      refine .inl (upon_runs hrun fun v w' ⟨σ', Im', u, own', nk', hk, hr, hS, hn, hd, hg1⟩ => ?_)
      have hk : putK env o.dst u (fun env => seqC cx con inl cal ops r env own' nk' K) := hk
      rw [putK_eq] at hk
      refine seqC_sound hcx hcon hcal hok hQ r hl' _ _ _ _ w' σ' Im' hk ⟨by rw [size_put]; exact hG.sz, by rw [← hG.df]; cases o.dst <;> rfl, hS, hG.fr.put hg1 hr, hn, hd⟩ (hg.trans hg1)
    · obtain ⟨rc, h1, h2⟩ := opE_sound (w0 := w0) hcx hcon (hok o hmem) h
      split at h2
      · exact h2.elim
      rename_i hkeys
      have hkeys : ∀ k ∈ keys rc.wr, k < nk := fun k hk => Nat.le_of_ble_eq_true (List.all_eq_true.1 hkeys k hk)
      rw [putK_eq, applyOK_eq, forceN_eq] at h2
      have hstep := h1 _ _ (fun _ _ => rfl) (fun _ _ => rfl) w σ Im a hG.sz hG.sat hG.fr (hG.new _ (Nat.le_refl _)) (hG.dead _ (Nat.le_refl _))
      have hnext : ∀ v w', Post w0 w σ Im own nk rc.u rc.wr rc.nw v w' → wpList P ops Q r (a.put o.dst v) w' := by
        rintro v w' ⟨σ', Im', g1, g2, g3, g4, g5⟩
        refine seqC_sound hcx hcon hcal hok hQ r hl' _ _ _ _ _ σ' Im' h2 ⟨by rw [size_put]; exact hG.sz, by rw [← hG.df]; cases o.dst <;> rfl, g5, hG.fr.put g1 g4, fun k hk => ?_, fun k hk => ?_⟩ (hg.trans g1)
        · rw [g2 k (by omega)]; exact hG.new k (by omega)
        · rw [applyO_other _ _ _ _ _ (fun hc => by have := hkeys k hc; omega) (by omega)]
          exact hG.dead k (by omega)
      unfold wpList
      split
      · rename_i hwn
        rw [if_pos hwn] at hstep
        exact .inl (upon_runs hstep hnext)
      · rename_i hwn
        rw [if_neg hwn] at hstep
        obtain ⟨r1, r2, r3⟩ := hstep
        refine hnext undef w ⟨σ, Im, Go1.refl _ _ _, fun _ _ => rfl, fun _ => rfl, r1, ?_⟩
        rw [r2, r3]
        exact hG.sat

def Fin (w0 : St0) (ds : List Deferred) (lo m : Nat) (K : AK) (w : World) (σ : Nat → Option Nat) (Im : Nat → Prop) : Exit → Act → World → Prop
  | .normal, a, w' => ∃ env own nk σ' Im', K .normal env own nk ∧ Gd w0 ds m env own nk a w' σ' Im' ∧ GoL lo w σ Im w' σ' Im'
  | .exit i, a, w' => ∃ env own nk σ' Im', K (.exit i) env own nk ∧ Gd w0 ds m env own nk a w' σ' Im' ∧ GoL lo w σ Im w' σ' Im'
  | .ret, a, w' => ∃ env own nk σ' Im', K .ret env own nk ∧ Gd w0 ds m env own nk a w' σ' Im' ∧ GoL lo w σ Im w' σ' Im'
  | _, _, _ => False
theorem sink_sound (hmix : P.follows .mixedOrders = true) {cx : Cx} (hcx : cx.ok P) {con : Nat → List AV → CR} (hcon : ConOk P con) {inl : Nat → Bool} {cal : Cal} (hcal : CalOk P w0 cal) {ops : Array Oper} {m nk id : Nat} (hok : ∀ o ∈ ops, okT m ops o = true) (hsb : sinkB inl ops = true) {env : Nat → AV} {own : Nat → OB} {K : (Nat → AV) → (Nat → OB) → Nat → Prop}
    (h : regS cx con inl cal ops env own nk K) {a : Act} {w : World} {σ : Nat → Option Nat} {Im : Nat → Prop} (hG : Gd w0 ds m env own nk a w σ Im) {Q : Exit → Act → World → Prop}
    (hQ : ∀ env own nk a w' σ' Im', K env own nk → Gd w0 ds m env own nk a w' σ' Im' → Go1 w σ Im w' σ' Im' → Q .normal a w') : (Code.region id ops true).wp P Q a w := by
  obtain ⟨oL, hoL, hgu, hbef⟩ : ∃ oL, ops[ops.size - 1]? = some oL ∧ oL.guard = none ∧ ∀ i, i < ops.size - 1 → befB ops ops.size i (ops.size - 1) = true := by
    unfold sinkB at hsb
    split at hsb
    · rename_i o ho
      split at hsb
      · cases hsb
      rename_i hg
      split at hsb
      · split at hsb
        · split at hsb
          · rw [Bool.and_eq_true] at hsb
            exact ⟨o, ho, hg, fun i hi => List.all_eq_true.1 hsb.2 i (by simpa using hi)⟩
          · cases hsb
        · cases hsb
      · cases hsb
    · cases hsb
  obtain ⟨n, hn⟩ : ∃ n, n = ops.size - 1 := ⟨_, rfl⟩
  have hpos : 0 < ops.size := by
    rcases Nat.eq_zero_or_pos ops.size with q | q
    · rw [Array.getElem?_eq_none (by omega)] at hoL; cases hoL
    · exact q
  have hsz1 : ops.size = n + 1 := by omega
  unfold regS at h
  rw [← hn] at h hoL hbef
  have htk : (ops.toList.take n).length = n := by rw [List.length_take, Array.length_toList]; omega
  obtain ⟨rec, -, h2, h3⟩ := runE_soundN (w0 := w0) (m := m) (n := n) hcx hcon (by omega) hok env own (ops.toList.take n) 0 (fun _ => ⟨.any, [], none, []⟩) (by rw [htk]; omega) (fun j hj => by rw [htk] at hj; rw [List.getElem?_take, if_pos hj, Nat.zero_add]; simp) h
  obtain ⟨hc, h3⟩ := h3
  rw [forceN_eq] at h3
  obtain ⟨R, hR⟩ : ∃ R : Nat → Rec, R = fun j => if j = n then ⟨.any, [], none, []⟩ else rec j := ⟨_, rfl⟩
  have hRlt : ∀ j, j < n → R j = rec j := fun j hj => by rw [hR]; exact if_neg (by omega)
  have hRn : R n = ⟨.any, [], none, []⟩ := by rw [hR]; exact if_pos rfl
  have eE : ∀ i, i ≤ n → itE ops R env i = itE ops rec env i := fun i hi => itE_same ops R rec env i fun j hj => hRlt j (by omega)
  have eO : ∀ i, i ≤ n → itO nk R own i = itO nk rec own i := fun i hi => itO_same nk R rec own i fun j hj => hRlt j (by omega)
  have eF : feet R n = feet rec n := feet_same R rec n hRlt
  have hc := hc.eq
  rw [← eF] at hc
  obtain ⟨c1, c3⟩ := confS_sound (by omega) hc
  have hk : ∀ (i : Nat) (o : Oper), ops[i]? = some o → ∀ k ∈ keys (R i).wr, k < nk + i := fun i o ho k hk => by
    have hi : i < ops.size := by
      rcases Nat.lt_or_ge i ops.size with q | q
      · exact q
      · rw [Array.getElem?_eq_none q] at ho; cases ho
    rcases Nat.lt_or_ge i n with q | q
    · rw [hRlt i q] at hk; exact (h2 i o (Nat.zero_le _) q ho).2 k hk
    · have : i = n := by omega
      subst this; rw [hRn] at hk; cases hk
  refine wp_region_any hmix ?_
  have hS1 : Sat w0 w.drew σ Im own := (hG.sat.go (w' := w.drew) (Im' := Im) ((Below.refl _ _).drew) (fun _ h => h) (fun _ h => .inl h)).2
  have hg0 : Go1 w σ Im w.drew σ Im := ⟨fun _ h => h, fun _ _ => rfl, fun _ _ h => h, fun _ _ _ => rfl⟩
  have hrep : ∀ i, (Array.replicate ops.size false).getD i false = false := fun i => by
    by_cases hi : i < ops.size <;> simp [hi]
  refine draw_sink (w0 := w0) (wS := w) (σS := σ) (ImS := Im) (ds := ds) (e0 := env) (o0 := own) (rec := R) (m := m) (base := nk) (n := n) hsz1 c1 c3 (fun i hi => befB_sound _ _ _ (hbef i hi)) (fun i hi => hk i ops[i] (by simp [show i < ops.size by omega])) (by rw [hRn]) hG.dead (fun i o hi ho => ?_) (fun o a' w' σ' Im' ho hI => ?_) ops.size _ _ _ σ Im ?_ (by simp) (hrep n) (fun i o ho hl => by rw [hrep] at hl; cases hl) ?_
  · rw [lexE_it ops R env i (by omega), lexO_it ops nk R own i (by omega), eE i (by omega), eO i (by omega), hRlt i hi]
    exact (h2 i o (Nat.zero_le _) hi ho).1
  · rw [hoL] at ho; cases ho
    refine ⟨by simp [Region.wanted, hgu], ?_⟩
    have fE : stE (dstOf ops) R (fun i => decide (i < n)) env ops.size = itE ops rec env n := (lexE_it ops R env n (by omega)).trans (eE n (Nat.le_refl _))
    have fO : stO nk R (fun i => decide (i < n)) own ops.size = itO nk rec own n := (lexO_it ops nk R own n (by omega)).trans (eO n (Nat.le_refl _))
    have hG' : Gd w0 ds m (itE ops rec env n) (itO nk rec own n) (nk + n) a' w' σ' Im' := by
      refine ⟨hI.sz, hI.df, by rw [← fO]; exact hI.sat, by rw [← fE]; exact hI.fr, fun k hk' => ?_, fun k hk' => ?_⟩
      · rcases Nat.lt_or_ge k (nk + ops.size) with q | q
        · have : k = nk + n := by omega
          subst this
          exact hI.new n (by omega) (by simp)
        · rw [hI.old k (.inr q)]; exact hG.new k (by omega)
      · rw [← eO n (Nat.le_refl _), dead_it hk k n (by omega) hk']
        exact hG.dead k (by omega)
    have hdr : ops.toList.drop n = [oL] := by
      have e1 : (ops.toList.drop n).length = 1 := by rw [List.length_drop, Array.length_toList]; omega
      obtain ⟨x, hx⟩ := List.length_eq_one_iff.1 e1
      have e2 : (ops.toList.drop n)[0]? = some oL := by rw [List.getElem?_drop, Nat.add_zero]; simpa using hoL
      rw [hx] at e2 ⊢
      simp at e2
      rw [e2]
    rw [hdr] at h3
    have hw := seqC_sound (ds := ds) (m := m) (Q := Q) (wS := w) (σS := σ) (ImS := Im) hcx hcon hcal hok (fun env own nk a w σ Im hk hG' hg' => hQ _ _ _ _ _ _ _ hk hG' hg') [oL] (fun o ho => by
      have : o = oL := by simpa using ho
      subst this; exact Array.mem_of_getElem? hoL) _ _ _ a' w' σ' Im' h3 hG' hI.go
    unfold wpList at hw
    rw [if_pos (by simp [Region.wanted, hgu])] at hw
    exact hw
  · have : ∀ n, unl (Array.replicate ops.size false) n ≤ n := fun n => by
      induction n with
      | zero => exact Nat.le_refl _
      | succ n ih => unfold unl; split <;> omega
    exact this _
  · have e1 : ∀ n, stE (dstOf ops) R (fun i => (Array.replicate ops.size false).getD i false) env n = env := fun n => by
      induction n with
      | zero => rfl
      | succ n ih => unfold stE; rw [hrep, ih]; rfl
    have e2 : ∀ n, stO nk R (fun i => (Array.replicate ops.size false).getD i false) own n = own := fun n => by
      induction n with
      | zero => rfl
      | succ n ih => unfold stO; rw [hrep, ih]; rfl
    exact ⟨hG.sz, hG.df, by rw [e2]; exact hS1, by rw [e1]; exact fun t ht => (hG.fr t ht).mono hg0, hg0, fun j _ _ => hG.new _ (by omega), fun _ _ => rfl⟩
theorem cond_rd {m : Nat} {env : Nat → AV} {own nk} {a : Act} {w σ Im} (hG : Gd w0 ds m env own nk a w σ Im) {c : Operand} (hc : okX m c = true) : Rd w σ Im (evA env c) (a.eval c) := by
  cases c with
  | tmp t =>
    have hlt : t < m := Nat.le_of_ble_eq_true hc
    exact hG.fr t (hG.sz.symm ▸ hlt)
  | const v => exact ofV_rd v
  | global g => exact .any _
  | func f => exact .fn _ _ _ rfl fun i hi => by simp at hi
theorem okC_ops {m : Nat} {ops : Array Oper} (h : (ops.toList.all fun o => okT m ops o) = true) : ∀ o ∈ ops, okT m ops o = true := fun o ho => List.all_eq_true.1 h o (by simpa using ho)
theorem wpA_sound {cx : Cx} (hcx : cx.ok P) {con : Nat → List AV → CR} (hcon : ConOk P con) {inl : Nat → Bool} {cal : Cal} (hcal : CalOk P w0 cal) (hmix : P.follows .mixedOrders = true) {lo m : Nat} :
    ∀ (c : Code), okC m c = true → ∀ (K : AK) (env : Nat → AV) (own : Nat → OB) (nk : Nat), wpA lo cx con inl cal c K env own nk → ∀ (a : Act) (w : World) (σ : Nat → Option Nat) (Im : Nat → Prop) (wS : World) (σS : Nat → Option Nat) (ImS : Nat → Prop), Gd w0 ds m env own nk a w σ Im → GoL lo wS σS ImS w σ Im → c.wp P (Fin w0 ds lo m K wS σS ImS) a w := by
  intro c
  induction c with
  | skip => exact fun _ K env own nk h a w σ Im wS σS ImS hG hg => wp_skip ⟨_, _, _, _, _, h, hG, hg⟩
  | label l => exact fun _ K env own nk h a w σ Im wS σS ImS hG hg => wp_label ⟨_, _, _, _, _, h, hG, hg⟩
  | ret => exact fun _ K env own nk h a w σ Im wS σS ImS hG hg => wp_ret ⟨_, _, _, _, _, h, hG, hg⟩
  | exit id => exact fun _ K env own nk h a w σ Im wS σS ImS hG hg => wp_exit ⟨_, _, _, _, _, h, hG, hg⟩
  | seq x y ihx ihy =>
    intro hok K env own nk h a w σ Im wS σS ImS hG hg
    unfold okC at hok
    rw [Bool.and_eq_true] at hok
    refine wp_seq (wp_mono (ihx hok.1 _ _ _ _ h a w σ Im wS σS ImS hG hg) fun e a' w' hF => ?_)
    cases e with
    | normal =>
      obtain ⟨env', own', nk', σ', Im', hk, hG', hg'⟩ := hF
      exact ihy hok.2 K env' own' nk' hk a' w' σ' Im' wS σS ImS hG' hg'
    | exit i => exact hF
    | ret => exact hF
    | _ => exact hF.elim
  | cond x c d ihc ihd =>
    intro hok K env own nk h a w σ Im wS σS ImS hG hg
    unfold okC at hok
    rw [Bool.and_eq_true, Bool.and_eq_true] at hok
    have hx := cond_rd hG hok.1
    unfold wpA at h
    split at h
    · rename_i b hb
      rw [hb] at hx
      exact wp_cond_split hx.inv_bool (fun e => ihc hok.2.1 K env own nk (h.1 e) a w σ Im wS σS ImS hG hg) (fun e => ihd hok.2.2 K env own nk (h.2 e) a w σ Im wS σS ImS hG hg)
    · exact h.elim
  | block id c ih =>
    intro hok K env own nk h a w σ Im wS σS ImS hG hg
    refine wp_block (wp_mono (ih hok _ _ _ _ h a w σ Im wS σS ImS hG hg) fun e a' w' hF => ?_)
    cases e with
    | normal => exact hF
    | exit i =>
      obtain ⟨env', own', nk', σ', Im', hk, hG', hg'⟩ := hF
      show if i = id then Fin w0 ds lo m K wS σS ImS .normal a' w' else Fin w0 ds lo m K wS σS ImS (.exit i) a' w'
      have hk : (bif Nat.beq i id then K .normal env' own' nk' else K (.exit i) env' own' nk') := hk
      split
      · rename_i e
        subst e
        rw [show Nat.beq i i = true from Nat.beq_refl i] at hk
        exact ⟨_, _, _, _, _, hk, hG', hg'⟩
      · rename_i hne
        have : Nat.beq i id = false := by
          cases hb : Nat.beq i id with
          | false => rfl
          | true => exact absurd (Nat.eq_of_beq_eq_true hb) hne
        rw [this] at hk
        exact ⟨_, _, _, _, _, hk, hG', hg'⟩
    | ret => exact hF
    | _ => exact hF.elim
  | scope c ih =>
    intro hok K env own nk h a w σ Im wS σS ImS hG hg
    refine wp_scope_straight (wp_mono (ih hok _ _ _ _ h a w σ Im wS σS ImS hG hg) fun e a' w' hF => ?_)
    cases e <;> first | exact hF | exact hF.elim
  | loop c ih =>
    intro hok K env own nk h a w σ Im wS σS ImS hG hg
    rcases h with ⟨n, h⟩ | ⟨ι, S, μ, ⟨i0, h0⟩, h⟩
    · have key : ∀ n env own nk a w σ Im, unrA (fun K env own nk => wpA lo cx con inl cal c K env own nk) K n env own nk → Gd w0 ds m env own nk a w σ Im → GoL lo wS σS ImS w σ Im → Code.rounds P c (Fin w0 ds lo m K wS σS ImS) n a w := by
        intro n
        induction n with
        | zero => exact fun _ _ _ _ _ _ _ h => h.elim
        | succ n ihn =>
          intro env own nk a w σ Im h hG hg
          refine wp_mono (ih hok _ _ _ _ h a w σ Im wS σS ImS hG hg) fun e a' w' hF => ?_
          cases e with
          | normal =>
            obtain ⟨env', own', nk', σ', Im', hk, hG', hg'⟩ := hF
            exact ihn env' own' nk' a' w' σ' Im' hk hG' hg'
          | exit i => exact hF
          | ret => exact hF
          | _ => exact hF.elim
      exact wp_loop_rounds n (key n env own nk a w σ Im h hG hg)
    · -- by what the rounds keep: of all that fits, what is least
      let I : Act → World → ι → Prop := fun a w i => ∃ σ Im, Gd w0 ds m (lkS (S i).slots) (lkO (S i).owns) (S i).nk a w σ Im ∧ GoL lo wS σS ImS w σ Im
      let L : Act → World → Nat → Prop := fun a w n => ∃ i, I a w i ∧ μ i = n
      have least : ∀ a w, (∃ n, L a w n) → ∃ n, L a w n ∧ ∀ k, L a w k → n ≤ k := fun a w ⟨n, hn⟩ => by
        induction n using Nat.strongRecOn with
        | _ n ihn =>
          by_cases hlt : ∃ k, k < n ∧ L a w k
          · obtain ⟨k, hk, hL⟩ := hlt
            exact ihn k hk hL
          · exact ⟨n, hn, fun k hk => by
              rcases Nat.lt_or_ge k n with h | h
              · exact absurd ⟨k, h, hk⟩ hlt
              · exact h⟩
      let M : Act → World → Nat := fun a w => Classical.epsilon fun n => L a w n ∧ ∀ k, L a w k → n ≤ k
      have hM : ∀ a w (h : ∃ n, L a w n), L a w (M a w) ∧ ∀ k, L a w k → M a w ≤ k := fun a w h => by
        exact Classical.epsilon_spec (least a w h)
      refine wp_loop (fun a w => ∃ n, L a w n) M ?_ fun a w hI => ?_
      · obtain ⟨σ', hG', hg'⟩ := h0.good hG
        exact ⟨_, i0, ⟨σ', Im, hG', hg.trans hg'⟩, rfl⟩
      · obtain ⟨⟨i, ⟨σ, Im, hG, hg⟩, hi⟩, hmin⟩ := hM a w hI
        refine wp_mono (ih hok _ _ _ _ (h i) a w σ Im wS σS ImS hG hg) fun e a' w' hF => ?_
        cases e with
        | normal =>
          obtain ⟨env', own', nk', σ', Im', ⟨j, hj, hw⟩, hG', hg'⟩ := hF
          obtain ⟨σ2, hG2, hg2⟩ := hw.good hG'
          have hL : L a' w' (μ j) := ⟨j, ⟨σ2, Im', hG2, hg'.trans hg2⟩, rfl⟩
          refine ⟨⟨_, hL⟩, ?_⟩
          have := (hM a' w' ⟨_, hL⟩).2 _ hL
          omega
        | exit i => exact hF
        | ret => exact hF
        | _ => exact hF.elim
  | region id ops draw =>
    intro hok K env own nk h a w σ Im wS σS ImS hG hg
    have hall : ∀ o ∈ ops, okT m ops o = true := okC_ops hok
    unfold wpA at h
    cases draw with
    | true =>
      have h : (match sinkB inl ops with | true => regS cx con inl cal ops env own nk (K .normal) | false => regA cx con ops true env own nk (K .normal)) := h
      cases hsb : sinkB inl ops with
      | true =>
        rw [hsb] at h
        exact sink_sound hmix hcx hcon hcal hall hsb h hG fun env own nk a w' σ' Im' hk hG' hg' => ⟨_, _, _, _, _, hk, hG', hg.trans (hg'.low lo)⟩
      | false =>
        rw [hsb] at h
        exact reg_sound hmix hcx hcon hall h hG fun env own nk a w' σ' Im' hk hG' hg' => ⟨_, _, _, _, _, hk, hG', hg.trans (hg'.low lo)⟩
    | false => exact wp_region_list (seqC_sound hcx hcon hcal hall (fun env own nk a w' σ' Im' hk hG' hg' => ⟨_, _, _, _, _, hk, hG', hg.trans (hg'.low lo)⟩) ops.toList (fun o ho => by simpa using ho) _ _ _ a w σ Im h hG (Go1.refl _ _ _))
  | _ => intro hok K env own nk h; exact h.elim
end
end Ev
end Go.Proofs.YtphdjmaebdmdmaaGreatDoor
