/- The abstract machine: code; functions. -/
import Derived.Test.YtphdjmaebdmdmaaGreatDoorEvRun
import Derived.Scope
import Derived.LoopN
namespace Go.Proofs.YtphdjmaebdmdmaaGreatDoor
open Go.RowKit
set_option linter.unusedVariables false
set_option linter.unusedSimpArgs false
namespace Ev

/-- The state, in a world. -/
structure Gd (w0 : St0) (ds : List Deferred) (m : Nat) (env : Nat → AV) (own : Nat → OB) (nk : Nat) (a : Act) (w : World) (σ : Nat → Option Nat) (Im : Nat → Prop) : Prop where
  sz : a.tmps.size = m
  df : a.defers = ds
  sat : Sat w0 w σ Im own
  fr : FR w σ Im env a
  new : ∀ k, nk ≤ k → σ k = none
  dead : ∀ k, nk ≤ k → ¬ (own k).live

section
variable {P : Program} {w0 : St0} {ds : List Deferred}
theorem seq_sound {ops : Array Oper} {m base : Nat} {rec : Nat → Rec} {e0 : Nat → AV} {o0 : Nat → OB} {Q : Exit → Act → World → Prop} {wS : World} {σS : Nat → Option Nat} {ImS : Nat → Prop}
    (hop : ∀ (i : Nat) (o : Oper), ops[i]? = some o → OpOk P w0 ops m o (base + i) (itE ops rec e0 i) (itO base rec o0 i) (rec i) ∧ ∀ k ∈ keys (rec i).wr, k < base + i)
    (hQ : ∀ a w σ Im, Gd w0 ds m (itE ops rec e0 ops.size) (itO base rec o0 ops.size) (base + ops.size) a w σ Im → Go1 wS σS ImS w σ Im → Q .normal a w) :
    ∀ (l : List Oper) (i : Nat) (a : Act) (w : World) (σ : Nat → Option Nat) (Im : Nat → Prop), i + l.length = ops.size → (∀ j, l[j]? = ops[i + j]?) → Gd w0 ds m (itE ops rec e0 i) (itO base rec o0 i) (base + i) a w σ Im → Go1 wS σS ImS w σ Im → wpList P ops Q l a w
  | [], i, a, w, σ, Im, hn, hl, h, hg => by
    have hn : i = ops.size := by simpa using hn
    subst hn
    exact hQ a w σ Im h hg
  | o :: r, i, a, w, σ, Im, hn, hl, h, hg => by
    have ho : ops[i]? = some o := by simpa using (hl 0).symm
    obtain ⟨h1, h2⟩ := hop i o ho
    have hstep := h1 _ _ (fun _ _ => rfl) (fun _ _ => rfl) w σ Im a h.sz h.sat h.fr (h.new _ (Nat.le_refl _)) (h.dead _ (Nat.le_refl _))
    have hd : o.dst = dstOf ops i := by unfold dstOf; rw [ho]; rfl
    have hnext : ∀ v w', Post w0 w σ Im (itO base rec o0 i) (base + i) (rec i).u (rec i).wr (rec i).nw v w' → wpList P ops Q r (a.put o.dst v) w' := by
      rintro v w' ⟨σ', Im', g1, g2, g3, g4, g5⟩
      refine seq_sound hop hQ r (i + 1) _ _ σ' Im' (by simp at hn; omega) (fun j => by have := hl (j + 1); simpa [Nat.add_assoc, Nat.add_comm 1 j] using this) ⟨by rw [size_put]; exact h.sz, by rw [← h.df]; cases o.dst <;> rfl, g5, ?_, fun k hk => ?_, fun k hk => ?_⟩ (hg.trans g1)
      · rw [hd]; exact h.fr.put g1 g4
      · rw [g2 k (by omega)]; exact h.new k (by omega)
      · show ¬ (applyO (itO base rec o0 i) (rec i).wr (rec i).nw (base + i) k).live
        rw [applyO_other _ _ _ _ _ (fun hc => by have := h2 k hc; omega) (by omega)]
        exact h.dead k (by omega)
    unfold wpList
    split
    · rename_i hwn
      rw [if_pos hwn] at hstep
      exact .inl (upon_runs hstep hnext)
    · rename_i hwn
      rw [if_neg hwn] at hstep
      obtain ⟨r1, r2, r3⟩ := hstep
      refine hnext undef w ⟨σ, Im, Go1.refl _ _ _, fun _ _ => rfl, fun _ => rfl, r1, ?_⟩
      rw [r2, r3]
      exact h.sat
theorem dead_it {ops : Array Oper} {base : Nat} {rec : Nat → Rec} {o0 : Nat → OB} (hk : ∀ (i : Nat) (o : Oper), ops[i]? = some o → ∀ k ∈ keys (rec i).wr, k < base + i) (k : Nat) : ∀ n, n ≤ ops.size → base + n ≤ k → itO base rec o0 n k = o0 k
  | 0, _, _ => rfl
  | n + 1, hn, h => by
    show applyO (itO base rec o0 n) (rec n).wr (rec n).nw (base + n) k = _
    have ho : ops[n]? = some ops[n] := by simp [show n < ops.size by omega]
    rw [applyO_other _ _ _ _ _ (fun hc => by have := hk n _ ho k hc; omega) (by omega)]
    exact dead_it hk k n (by omega) (by omega)
theorem reg_sound (hmix : P.follows .mixedOrders = true) {cx : Cx} (hcx : cx.ok P) {con : Nat → List AV → CR} (hcon : ConOk P con) {ops : Array Oper} {draw : Bool} {m nk id : Nat} (hok : ∀ o ∈ ops, okT m ops o = true) {env : Nat → AV} {own : Nat → OB} {K : (Nat → AV) → (Nat → OB) → Nat → Prop}
    (h : regA cx con ops draw env own nk K) {a : Act} {w : World} {σ : Nat → Option Nat} {Im : Nat → Prop} (hG : Gd w0 ds m env own nk a w σ Im) {Q : Exit → Act → World → Prop}
    (hQ : ∀ env own nk a w' σ' Im', K env own nk → Gd w0 ds m env own nk a w' σ' Im' → Go1 w σ Im w' σ' Im' → Q .normal a w') : (Code.region id ops draw).wp P Q a w := by
  unfold regA at h
  obtain ⟨rec, -, h2, h3⟩ := runE_sound (w0 := w0) (m := m) hcx hcon hok env own ops.toList 0 (fun _ => ⟨.any, [], none, []⟩) (by simp) (fun j => by simp) h
  have hop : ∀ (i : Nat) (o : Oper), ops[i]? = some o → OpOk P w0 ops m o (nk + i) (itE ops rec env i) (itO nk rec own i) (rec i) ∧ ∀ k ∈ keys (rec i).wr, k < nk + i := fun i o ho => h2 i o (Nat.zero_le _) ho
  cases draw with
  | false =>
    rw [forceN_eq] at h3
    refine wp_region_list (seq_sound hop (fun a w' σ' Im' hg h1 => hQ _ _ _ a w' σ' Im' h3 hg h1) ops.toList 0 a w σ Im (by simp) (fun j => by simp) hG (Go1.refl _ _ _))
  | true =>
    obtain ⟨hc, h3⟩ := h3
    have hc := hc.eq
    rw [forceN_eq] at h3
    obtain ⟨c1, c3⟩ := confB_sound hc
    refine wp_region_any hmix ?_
    have hS1 : Sat w0 w.drew σ Im own := (hG.sat.go (w' := w.drew) (Im' := Im) ((Below.refl _ _).drew) (fun _ h => h) (fun _ h => .inl h)).2
    have hg0 : Go1 w σ Im w.drew σ Im := ⟨fun _ h => h, fun _ _ => rfl, fun _ _ h => h, fun _ _ _ => rfl⟩
    obtain ⟨fe, fo⟩ := full_it ops nk rec env own
    have hrep : ∀ i, (Array.replicate ops.size false).getD i false = false := fun i => by
      by_cases hi : i < ops.size <;> simp [hi]
    refine draw_sound (w0 := w0) (wS := w) (σS := σ) (ImS := Im) (ds := ds) (e0 := env) (o0 := own) (rec := rec) (m := m) (base := nk) c1 c3 (fun i hi => (hop i ops[i] (by simp [hi])).2) hG.dead (fun i o ho => ?_) (fun a' w' σ' Im' hI => ?_) ops.size _ _ _ σ Im ?_ (by simp) (fun i o ho hl => by rw [hrep] at hl; cases hl) ?_
    · have hi : i < ops.size := by
        rcases Nat.lt_or_ge i ops.size with h | h
        · exact h
        · rw [Array.getElem?_eq_none h] at ho; cases ho
      rw [lexE_it ops rec env i (by omega), lexO_it ops nk rec own i (by omega)]
      exact (hop i o ho).1
    · refine hQ _ _ _ a' w' σ' Im' h3 ⟨hI.sz, hI.df, by rw [← fo]; exact hI.sat, by rw [← fe]; exact hI.fr, fun k hk => by rw [hI.old k (.inr hk)]; exact hG.new k (by omega), fun k hk => ?_⟩ hI.go
      rw [dead_it (fun i o ho => (hop i o ho).2) k ops.size (Nat.le_refl _) hk]
      exact hG.dead k (by omega)
    · have : ∀ n, unl (Array.replicate ops.size false) n ≤ n := fun n => by
        induction n with
        | zero => exact Nat.le_refl _
        | succ n ih => unfold unl; split <;> omega
      exact this _
    · have e1 : ∀ n, stE (dstOf ops) rec (fun i => (Array.replicate ops.size false).getD i false) env n = env := fun n => by
        induction n with
        | zero => rfl
        | succ n ih => unfold stE; rw [hrep, ih]; rfl
      have e2 : ∀ n, stO nk rec (fun i => (Array.replicate ops.size false).getD i false) own n = own := fun n => by
        induction n with
        | zero => rfl
        | succ n ih => unfold stO; rw [hrep, ih]; rfl
      exact ⟨hG.sz, hG.df, by rw [e2]; exact hS1, by rw [e1]; exact fun t ht => (hG.fr t ht).mono hg0, hg0, fun j _ _ => hG.new _ (by omega), fun _ _ => rfl⟩
end
end Ev
end Go.Proofs.YtphdjmaebdmdmaaGreatDoor
