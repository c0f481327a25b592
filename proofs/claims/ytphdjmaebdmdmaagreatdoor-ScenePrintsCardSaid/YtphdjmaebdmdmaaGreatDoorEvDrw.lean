/- The abstract machine: a statement whose order is open, whatever order is picked. -/
import Derived.Test.YtphdjmaebdmdmaaGreatDoorEvReg
namespace Go.Proofs.YtphdjmaebdmdmaaGreatDoor
open Go.RowKit
set_option linter.unusedVariables false
set_option linter.unusedSimpArgs false
namespace Ev

def dstOf (ops : Array Oper) (i : Nat) : Option Nat := (ops[i]?).bind (·.dst)
def looksOf (ops : Array Oper) (i : Nat) : List Nat := match ops[i]? with | some o => o.looksAt ops | none => []
/-- Two operations that may not change places. -/
def Conf (ops : Array Oper) (base : Nat) (rec : Nat → Rec) (i j : Nat) : Prop :=
  (∃ t, dstOf ops i = some t ∧ t ∈ looksOf ops j) ∨ (∃ t, dstOf ops j = some t ∧ t ∈ looksOf ops i) ∨ (∃ t, dstOf ops i = some t ∧ dstOf ops j = some t) ∨
  (∃ k, k ∈ touch base rec i ∧ k ∈ (rec j).foot) ∨ (∃ k, k ∈ touch base rec i ∧ k ∈ touch base rec j) ∨ ∃ k, k ∈ touch base rec j ∧ k ∈ (rec i).foot

section
variable {P : Program} {w0 : St0} {ops : Array Oper} {base m : Nat} {rec : Nat → Rec} {e0 : Nat → AV} {o0 : Nat → OB}
def lexE (ops : Array Oper) (rec : Nat → Rec) (e0 : Nat → AV) (i : Nat) : Nat → AV := stE (dstOf ops) rec (fun k => decide (k < i)) e0 ops.size
def lexO (ops : Array Oper) (base : Nat) (rec : Nat → Rec) (o0 : Nat → OB) (i : Nat) : Nat → OB := stO base rec (fun k => decide (k < i)) o0 ops.size

structure Inv (w0 : St0) (ops : Array Oper) (base m : Nat) (rec : Nat → Rec) (e0 : Nat → AV) (o0 : Nat → OB) (wS : World) (σS : Nat → Option Nat) (ImS : Nat → Prop) (ds : List Deferred) (D : Nat → Bool) (a : Act) (w : World) (σ : Nat → Option Nat) (Im : Nat → Prop) : Prop where
  sz : a.tmps.size = m
  df : a.defers = ds
  sat : Sat w0 w σ Im (stO base rec D o0 ops.size)
  fr : FR w σ Im (stE (dstOf ops) rec D e0 ops.size) a
  go : Go1 wS σS ImS w σ Im
  new : ∀ j, j < ops.size → D j = false → σ (base + j) = none
  old : ∀ k, k < base ∨ base + ops.size ≤ k → σ k = σS k

theorem draw_sound {Q : Exit → Act → World → Prop} {wS : World} {σS : Nat → Option Nat} {ImS : Nat → Prop} {ds : List Deferred}
    (hedge : ∀ (j : Nat) (o : Oper), ops[j]? = some o → ∀ e ∈ o.after, Region.binds .any e = true → e.on < j)
    (hconf : ∀ i j, i < j → j < ops.size → Conf ops base rec i j → Bef ops i j)
    (hkeys : ∀ i, i < ops.size → ∀ k ∈ keys (rec i).wr, k < base + i)
    (hnew : ∀ k, base ≤ k → ¬ (o0 k).live)
    (hop : ∀ (i : Nat) (o : Oper), ops[i]? = some o → OpOk P w0 ops m o (base + i) (lexE ops rec e0 i) (lexO ops base rec o0 i) (rec i))
    (hQ : ∀ a w σ Im, Inv w0 ops base m rec e0 o0 wS σS ImS ds (fun _ => true) a w σ Im → Q .normal a w) :
    ∀ (fuel : Nat) (listed : Array Bool) (a : Act) (w : World) (σ : Nat → Option Nat) (Im : Nat → Prop), unl listed ops.size ≤ fuel → listed.size = ops.size →
      (∀ (i : Nat) (o : Oper), ops[i]? = some o → listed.getD i false = true → ∀ e ∈ o.after, Region.binds .any e = true → listed.getD e.on false = true) →
      Inv w0 ops base m rec e0 o0 wS σS ImS ds (fun i => listed.getD i false) a w σ Im → wpAny P .any ops Q fuel listed a w := by
  -- all have been done
  have hall : ∀ (listed : Array Bool), listed.size = ops.size → Region.ready .any ops listed = [] → ∀ i, i < ops.size → listed.getD i true = true := by
    intro listed hsz hr i
    induction i using Nat.strongRecOn with
    | ind i ih =>
      intro hi
      cases hl : listed.getD i true with
      | true => rfl
      | false =>
        exfalso
        have : i ∈ Region.ready .any ops listed := by
          unfold Region.ready
          rw [List.mem_filter]
          refine ⟨by simpa using hi, ?_⟩
          have ho : ops[i]? = some ops[i] := by simp [hi]
          rw [ho]
          simp only [hl, Bool.not_false, Bool.true_and, Option.map_some, Option.getD_some]
          rw [Array.all_eq_true_iff_forall_mem]
          intro e he
          cases hb : Region.binds .any e with
          | false => rfl
          | true =>
            have hlt := hedge i ops[i] ho e he hb
            have := ih e.on hlt (by omega)
            have h2 : e.on < listed.size := by omega
            simp [h2] at this
            simp [h2, this]
        rw [hr] at this
        cases this
  have hfin : ∀ (listed : Array Bool) a w σ Im, listed.size = ops.size → (∀ i, i < ops.size → listed.getD i true = true) → Inv w0 ops base m rec e0 o0 wS σS ImS ds (fun i => listed.getD i false) a w σ Im → Q .normal a w := by
    intro listed a w σ Im hsz hl h
    have hD : ∀ i, i < ops.size → listed.getD i false = true := fun i hi => by
      have := hl i hi
      have h2 : i < listed.size := by omega
      simp [h2] at this ⊢; exact this
    refine hQ a w σ Im ⟨h.sz, h.df, ?_, ?_, h.go, (fun j _ hc => by cases hc), h.old⟩
    · have e : stO base rec (fun _ => true) o0 ops.size = stO base rec (fun i => listed.getD i false) o0 ops.size := by
        funext k; exact stO_agree base rec _ _ o0 k _ fun i hi _ => (hD i hi).symm
      rw [e]; exact h.sat
    · have e : stE (dstOf ops) rec (fun _ => true) e0 ops.size = stE (dstOf ops) rec (fun i => listed.getD i false) e0 ops.size := by
        funext k; exact stE_agree (dstOf ops) rec _ _ e0 k _ fun i hi _ => (hD i hi).symm
      rw [e]; exact h.fr
  intro fuel
  induction fuel with
  | zero =>
    intro listed a w σ Im hu hsz hcl h
    have hl := unl_zero listed ops.size (by omega)
    refine ⟨?_, hfin listed a w σ Im hsz hl h⟩
    unfold Region.ready
    rw [List.filter_eq_nil_iff]
    intro i hi
    rw [hl i (by simpa using hi)]
    simp
  | succ fuel ih =>
    intro listed a w σ Im hu hsz hcl h
    refine ⟨fun hr => hfin listed a w σ Im hsz (hall listed hsz hr) h, fun j hj => ?_⟩
    unfold Region.ready at hj
    rw [List.mem_filter] at hj
    obtain ⟨hj0, hj1⟩ := hj
    have hjn : j < ops.size := by simpa using hj0
    have ho : ops[j]? = some ops[j] := by simp [hjn]
    generalize ops[j] = o at ho
    rw [ho] at hj1
    simp only [Option.map_some, Option.getD_some, Bool.and_eq_true, Bool.not_eq_true'] at hj1
    obtain ⟨hjl, hje⟩ := hj1
    have hje : ∀ e ∈ o.after, Region.binds .any e = true → listed.getD e.on false = true := fun e he hb => by
      have := Array.all_eq_true_iff_forall_mem.1 hje e he
      rw [hb] at this
      simpa using this
    have hjs : j < listed.size := by omega
    have hDj : listed.getD j false = false := by simp [hjs] at hjl ⊢; exact hjl
    have hcl2 : ∀ {i k}, Bef ops i k → listed.getD k false = true → listed.getD i false = true := fun {i k} hb => by
      induction hb with
      | one ho he hbd hi => intro hk; rw [← hi]; exact hcl _ _ ho hk _ he hbd
      | trans _ _ ih1 ih2 => exact fun hk => ih1 (ih2 hk)
    have hready : ∀ {i k}, Bef ops i k → k = j → listed.getD i false = true := fun {i k} hb => by
      induction hb with
      | one ho' he hbd hi => rintro rfl; rw [← hi]; rw [ho] at ho'; cases ho'; exact hje _ he hbd
      | trans h1 _ _ ih2 => exact fun hk => hcl2 h1 (ih2 hk)
    have hD : ∀ i, i < ops.size → (i < j → Conf ops base rec i j) → (j < i → Conf ops base rec j i) → listed.getD i false = decide (i < j) := fun i hi h1 h2 => by
      rcases Nat.lt_trichotomy i j with hlt | rfl | hlt
      · rw [hready (hconf i j hlt hjn (h1 hlt)) rfl]; simp [hlt]
      · rw [hDj]; simp
      · have : decide (i < j) = false := by simp; omega
        rw [this]
        cases hc : listed.getD i false with
        | false => rfl
        | true =>
          have := hcl2 (hconf j i hlt hi (h2 hlt)) hc
          rw [hDj] at this; cases this
    have hafter : ∀ i, j < i → i < ops.size → listed.getD i false = true → ¬ Conf ops base rec j i := fun i h1 h2 h3 hc => by
      have := hcl2 (hconf j i h1 h2 hc) h3
      rw [hDj] at this; cases this
    have hlo : looksOf ops j = o.looksAt ops := by unfold looksOf; rw [ho]
    have hdo : dstOf ops j = o.dst := by unfold dstOf; rw [ho]; rfl
    have agreeE : ∀ t ∈ o.looksAt ops, stE (dstOf ops) rec (fun i => listed.getD i false) e0 ops.size t = lexE ops rec e0 j t := fun t ht => by
      refine stE_agree (dstOf ops) rec _ _ e0 t _ fun i hi hd => hD i hi (fun _ => .inl ⟨t, hd, by rw [hlo]; exact ht⟩) fun _ => .inr (.inl ⟨t, hd, by rw [hlo]; exact ht⟩)
    have agreeO : ∀ k ∈ (rec j).foot, stO base rec (fun i => listed.getD i false) o0 ops.size k = lexO ops base rec o0 j k := fun k hk => by
      refine stO_agree base rec _ _ o0 k _ fun i hi hd => hD i hi (fun _ => .inr (.inr (.inr (.inl ⟨k, hd, hk⟩)))) fun _ => .inr (.inr (.inr (.inr (.inr ⟨k, hd, hk⟩))))
    have hfresh : ¬ (stO base rec (fun i => listed.getD i false) o0 ops.size (base + j)).live := by
      have e : stO base rec (fun i => listed.getD i false) o0 ops.size (base + j) = stO base rec (fun _ => false) o0 ops.size (base + j) := stO_agree base rec _ _ o0 _ _ fun i hi hd => by
        rcases Nat.lt_trichotomy i j with hlt | rfl | hlt
        · exfalso
          rcases List.mem_cons.1 hd with h1 | h1
          · omega
          · have := hkeys i hi _ h1; omega
        · exact hDj
        · cases hc : listed.getD i false with
          | false => rfl
          | true => exact absurd (.inr (.inr (.inr (.inr (.inl ⟨base + j, List.mem_cons_self, hd⟩))))) (hafter i hlt hi hc)
      have e2 : ∀ n, stO base rec (fun _ => false) o0 n = o0 := fun n => by
        induction n with
        | zero => rfl
        | succ n ih => unfold stO; simp [ih]
      rw [e, e2]
      exact hnew _ (by omega)
    have hstep := hop j o ho _ _ agreeE agreeO w σ Im a h.sz h.sat h.fr (h.new j hjn hDj) hfresh
    -- what holds behind it
    have hlisted : ∀ i, i < ops.size → (listed.setIfInBounds j true).getD i false = (listed.getD i false || i == j) := fun i hi => by
      by_cases he : i = j
      · subst he; simp [hjs]
      · have : (i == j) = false := by simpa using he
        simp [Array.getElem?_setIfInBounds_ne (Ne.symm he), this]
    have eE : stE (dstOf ops) rec (fun i => (listed.setIfInBounds j true).getD i false) e0 ops.size = putE (stE (dstOf ops) rec (fun i => listed.getD i false) e0 ops.size) o.dst (rec j).u := by
      rw [← hdo, ← stE_more (dstOf ops) rec (fun i => listed.getD i false) e0 j ops.size hjn hDj fun i h1 h2 h3 t ht ht' => hafter i h1 h2 h3 (.inr (.inr (.inl ⟨t, ht', ht⟩)))]
      funext t
      exact stE_agree (dstOf ops) rec _ _ e0 t _ fun i hi _ => hlisted i hi
    have eO : stO base rec (fun i => (listed.setIfInBounds j true).getD i false) o0 ops.size = applyO (stO base rec (fun i => listed.getD i false) o0 ops.size) (rec j).wr (rec j).nw (base + j) := by
      rw [← stO_more base rec (fun i => listed.getD i false) o0 j ops.size hjn hDj fun i h1 h2 h3 k hk hk' => hafter i h1 h2 h3 (.inr (.inr (.inr (.inr (.inl ⟨k, hk', hk⟩)))))]
      funext t
      exact stO_agree base rec _ _ o0 t _ fun i hi _ => hlisted i hi
    have hnext : ∀ v w', Post w0 w σ Im (stO base rec (fun i => listed.getD i false) o0 ops.size) (base + j) (rec j).u (rec j).wr (rec j).nw v w' → wpAny P .any ops Q fuel (listed.setIfInBounds j true) (a.put o.dst v) w' := by
      rintro v w' ⟨σ', Im', g1, g2, g3, g4, g5⟩
      refine ih _ _ _ σ' Im' ?_ (by simpa using hsz) ?_ ⟨by rw [size_put]; exact h.sz, ?_, by rw [eO]; exact g5, by rw [eE]; exact h.fr.put g1 g4, h.go.trans g1, ?_, ?_⟩
      · have := unl_set listed j hjl ops.size hjn; omega
      · intro i oi hoi hi e he hb
        have hin : i < ops.size := by
          rcases Nat.lt_or_ge i ops.size with h' | h'
          · exact h'
          · rw [Array.getElem?_eq_none h'] at hoi; cases hoi
        have hlt := hedge i oi hoi e he hb
        rw [hlisted i hin] at hi
        rw [hlisted e.on (by omega)]
        rcases Bool.or_eq_true _ _ ▸ hi with hi | hi
        · rw [hcl i oi hoi hi e he hb]; rfl
        · have : i = j := by simpa using hi
          subst this
          rw [ho] at hoi; cases hoi
          rw [hje e he hb]; rfl
      · rw [← h.df]; cases o.dst <;> rfl
      · intro i hi hDi
        rw [hlisted i hi] at hDi
        have h1 := (Bool.or_eq_false_iff.1 hDi)
        have hne : i ≠ j := by simpa using h1.2
        rw [g2 _ (by omega)]
        exact h.new i hi h1.1
      · intro k hk
        rw [g2 k (by omega)]
        exact h.old k hk
    unfold wpOp
    rw [ho]
    simp only
    split
    · rename_i hwn
      rw [if_pos hwn] at hstep
      exact .inl (upon_runs hstep hnext)
    · rename_i hwn
      rw [if_neg hwn] at hstep
      obtain ⟨r1, r2, r3⟩ := hstep
      refine hnext undef w ⟨σ, Im, Go1.refl _ _ _, fun _ _ => rfl, fun _ => rfl, r1, ?_⟩
      rw [r2, r3]
      exact h.sat
theorem draw_sink {Q : Exit → Act → World → Prop} {n : Nat} {wS : World} {σS : Nat → Option Nat} {ImS : Nat → Prop} {ds : List Deferred}
    (hsz1 : ops.size = n + 1)
    (hedge : ∀ (j : Nat) (o : Oper), ops[j]? = some o → ∀ e ∈ o.after, Region.binds .any e = true → e.on < j)
    (hconf0 : ∀ i j, i < j → j < n → Conf ops base rec i j → Bef ops i j)
    (hbef : ∀ i, i < n → Bef ops i n)
    (hkeys0 : ∀ i, i < n → ∀ k ∈ keys (rec i).wr, k < base + i)
    (hr0 : (rec n).wr = [])
    (hnew : ∀ k, base ≤ k → ¬ (o0 k).live)
    (hop : ∀ (i : Nat) (o : Oper), i < n → ops[i]? = some o → OpOk P w0 ops m o (base + i) (lexE ops rec e0 i) (lexO ops base rec o0 i) (rec i))
    (hsink : ∀ o a w σ Im, ops[n]? = some o → Inv w0 ops base m rec e0 o0 wS σS ImS ds (fun i => decide (i < n)) a w σ Im → Region.wanted o (yielded ops a.tmps) = true ∧ (o.wp P a w (fun a w => Q .normal a w) Q ∨ (o.asks P a w ∧ LetsOut Q))) :
    ∀ (fuel : Nat) (listed : Array Bool) (a : Act) (w : World) (σ : Nat → Option Nat) (Im : Nat → Prop), unl listed ops.size ≤ fuel → listed.size = ops.size → listed.getD n false = false →
      (∀ (i : Nat) (o : Oper), ops[i]? = some o → listed.getD i false = true → ∀ e ∈ o.after, Region.binds .any e = true → listed.getD e.on false = true) →
      Inv w0 ops base m rec e0 o0 wS σS ImS ds (fun i => listed.getD i false) a w σ Im → wpAny P .any ops Q fuel listed a w := by
  -- all have been done
  have hall : ∀ (listed : Array Bool), listed.size = ops.size → Region.ready .any ops listed = [] → ∀ i, i < ops.size → listed.getD i true = true := by
    intro listed hsz hr i
    induction i using Nat.strongRecOn with
    | ind i ih =>
      intro hi
      cases hl : listed.getD i true with
      | true => rfl
      | false =>
        exfalso
        have : i ∈ Region.ready .any ops listed := by
          unfold Region.ready
          rw [List.mem_filter]
          refine ⟨by simpa using hi, ?_⟩
          have ho : ops[i]? = some ops[i] := by simp [hi]
          rw [ho]
          simp only [hl, Bool.not_false, Bool.true_and, Option.map_some, Option.getD_some]
          rw [Array.all_eq_true_iff_forall_mem]
          intro e he
          cases hb : Region.binds .any e with
          | false => rfl
          | true =>
            have hlt := hedge i ops[i] ho e he hb
            have := ih e.on hlt (by omega)
            have h2 : e.on < listed.size := by omega
            simp [h2] at this
            simp [h2, this]
        rw [hr] at this
        cases this
  have hconf : ∀ i j, i < j → j < ops.size → Conf ops base rec i j → Bef ops i j := fun i j hij hj hc => by
    rcases Nat.lt_or_ge j n with q | q
    · exact hconf0 i j hij q hc
    · have : j = n := by omega
      subst this; exact hbef i hij
  have hkeys : ∀ i, i < ops.size → ∀ k ∈ keys (rec i).wr, k < base + i := fun i hi k hk => by
    rcases Nat.lt_or_ge i n with q | q
    · exact hkeys0 i q k hk
    · have : i = n := by omega
      subst this; rw [hr0] at hk; cases hk
  have hdone : ∀ (fuel : Nat) (listed : Array Bool) a w, listed.size = ops.size → (∀ i, i < ops.size → listed.getD i true = true) → Q .normal a w → wpAny P .any ops Q fuel listed a w := by
    intro fuel listed a w hsz hl hq
    have hr : Region.ready .any ops listed = [] := by
      unfold Region.ready
      rw [List.filter_eq_nil_iff]
      intro i hi
      rw [hl i (by simpa using hi)]
      simp
    cases fuel with
    | zero => exact ⟨hr, hq⟩
    | succ fuel => exact ⟨fun _ => hq, fun j hj => by rw [hr] at hj; cases hj⟩
  intro fuel
  induction fuel with
  | zero =>
    intro listed a w σ Im hu hsz hns hcl h
    exfalso
    have hl := unl_zero listed ops.size (by omega) n (by omega)
    have h2 : n < listed.size := by omega
    simp [h2] at hl hns
    rw [hns] at hl; cases hl
  | succ fuel ih =>
    intro listed a w σ Im hu hsz hns hcl h
    have hnr : ¬ Region.ready .any ops listed = [] := fun hr => by
      have hl := hall listed hsz hr n (by omega)
      have h2 : n < listed.size := by omega
      simp [h2] at hl hns
      rw [hns] at hl; cases hl
    refine ⟨fun hr => absurd hr hnr, fun j hj => ?_⟩
    unfold Region.ready at hj
    rw [List.mem_filter] at hj
    obtain ⟨hj0, hj1⟩ := hj
    have hjn : j < ops.size := by simpa using hj0
    have ho : ops[j]? = some ops[j] := by simp [hjn]
    generalize ops[j] = o at ho
    rw [ho] at hj1
    simp only [Option.map_some, Option.getD_some, Bool.and_eq_true, Bool.not_eq_true'] at hj1
    obtain ⟨hjl, hje⟩ := hj1
    have hje : ∀ e ∈ o.after, Region.binds .any e = true → listed.getD e.on false = true := fun e he hb => by
      have := Array.all_eq_true_iff_forall_mem.1 hje e he
      rw [hb] at this
      simpa using this
    have hjs : j < listed.size := by omega
    have hDj : listed.getD j false = false := by simp [hjs] at hjl ⊢; exact hjl
    have hcl2 : ∀ {i k}, Bef ops i k → listed.getD k false = true → listed.getD i false = true := fun {i k} hb => by
      induction hb with
      | one ho he hbd hi => intro hk; rw [← hi]; exact hcl _ _ ho hk _ he hbd
      | trans _ _ ih1 ih2 => exact fun hk => ih1 (ih2 hk)
    have hready : ∀ {i k}, Bef ops i k → k = j → listed.getD i false = true := fun {i k} hb => by
      induction hb with
      | one ho' he hbd hi => rintro rfl; rw [← hi]; rw [ho] at ho'; cases ho'; exact hje _ he hbd
      | trans h1 _ _ ih2 => exact fun hk => hcl2 h1 (ih2 hk)
    have hD : ∀ i, i < ops.size → (i < j → Conf ops base rec i j) → (j < i → Conf ops base rec j i) → listed.getD i false = decide (i < j) := fun i hi h1 h2 => by
      rcases Nat.lt_trichotomy i j with hlt | rfl | hlt
      · rw [hready (hconf i j hlt hjn (h1 hlt)) rfl]; simp [hlt]
      · rw [hDj]; simp
      · have : decide (i < j) = false := by simp; omega
        rw [this]
        cases hc : listed.getD i false with
        | false => rfl
        | true =>
          have := hcl2 (hconf j i hlt hi (h2 hlt)) hc
          rw [hDj] at this; cases this
    have hafter : ∀ i, j < i → i < ops.size → listed.getD i false = true → ¬ Conf ops base rec j i := fun i h1 h2 h3 hc => by
      have := hcl2 (hconf j i h1 h2 hc) h3
      rw [hDj] at this; cases this
    have hlo : looksOf ops j = o.looksAt ops := by unfold looksOf; rw [ho]
    have hdo : dstOf ops j = o.dst := by unfold dstOf; rw [ho]; rfl
    have agreeE : ∀ t ∈ o.looksAt ops, stE (dstOf ops) rec (fun i => listed.getD i false) e0 ops.size t = lexE ops rec e0 j t := fun t ht => by
      refine stE_agree (dstOf ops) rec _ _ e0 t _ fun i hi hd => hD i hi (fun _ => .inl ⟨t, hd, by rw [hlo]; exact ht⟩) fun _ => .inr (.inl ⟨t, hd, by rw [hlo]; exact ht⟩)
    have agreeO : ∀ k ∈ (rec j).foot, stO base rec (fun i => listed.getD i false) o0 ops.size k = lexO ops base rec o0 j k := fun k hk => by
      refine stO_agree base rec _ _ o0 k _ fun i hi hd => hD i hi (fun _ => .inr (.inr (.inr (.inl ⟨k, hd, hk⟩)))) fun _ => .inr (.inr (.inr (.inr (.inr ⟨k, hd, hk⟩))))
    have hfresh : ¬ (stO base rec (fun i => listed.getD i false) o0 ops.size (base + j)).live := by
      have e : stO base rec (fun i => listed.getD i false) o0 ops.size (base + j) = stO base rec (fun _ => false) o0 ops.size (base + j) := stO_agree base rec _ _ o0 _ _ fun i hi hd => by
        rcases Nat.lt_trichotomy i j with hlt | rfl | hlt
        · exfalso
          rcases List.mem_cons.1 hd with h1 | h1
          · omega
          · have := hkeys i hi _ h1; omega
        · exact hDj
        · cases hc : listed.getD i false with
          | false => rfl
          | true => exact absurd (.inr (.inr (.inr (.inr (.inl ⟨base + j, List.mem_cons_self, hd⟩))))) (hafter i hlt hi hc)
      have e2 : ∀ n, stO base rec (fun _ => false) o0 n = o0 := fun n => by
        induction n with
        | zero => rfl
        | succ n ih => unfold stO; simp [ih]
      rw [e, e2]
      exact hnew _ (by omega)
    by_cases hjn1 : j = n
    · subst hjn1
      have hDn : ∀ i, i < ops.size → listed.getD i false = decide (i < j) := fun i hi => by
        rcases Nat.lt_or_ge i j with q | q
        · rw [hready (hbef i q) rfl]; simp [q]
        · have : i = j := by omega
          subst this; rw [hDj]; simp
      have hI : Inv w0 ops base m rec e0 o0 wS σS ImS ds (fun i => decide (i < j)) a w σ Im := by
        refine ⟨h.sz, h.df, ?_, ?_, h.go, fun i hi hd => h.new i hi ?_, h.old⟩
        · have e : stO base rec (fun i => decide (i < j)) o0 ops.size = stO base rec (fun i => listed.getD i false) o0 ops.size := by
            funext k; exact stO_agree base rec _ _ o0 k _ fun i hi _ => (hDn i hi).symm
          rw [e]; exact h.sat
        · have e : stE (dstOf ops) rec (fun i => decide (i < j)) e0 ops.size = stE (dstOf ops) rec (fun i => listed.getD i false) e0 ops.size := by
            funext k; exact stE_agree (dstOf ops) rec _ _ e0 k _ fun i hi _ => (hDn i hi).symm
          rw [e]; exact h.fr
        · rw [hDn i hi]; exact hd
      obtain ⟨hwn, hrun⟩ := hsink o a w σ Im ho hI
      unfold wpOp
      rw [ho]
      simp only
      rw [if_pos hwn]
      refine hrun.imp (fun hw => Oper.wp_mono (fun a' w' hq => hdone fuel _ _ _ (by simpa using hsz) (fun i hi => ?_) hq) hw) id
      by_cases he : i = j
      · subst he; simp [hjs]
      · have hi' := hDn i hi
        have hlt : i < j := by omega
        have h2 : i < listed.size := by omega
        rw [decide_eq_true hlt] at hi'
        have e1 : (listed.setIfInBounds j true).getD i true = listed.getD i true := by simp [Array.getElem?_setIfInBounds_ne (Ne.symm he)]
        rw [e1]
        have e2 : listed.getD i true = listed.getD i false := by simp [h2]
        rw [e2]; exact hi'
    have hjlt : j < n := by omega
    have hstep := hop j o hjlt ho _ _ agreeE agreeO w σ Im a h.sz h.sat h.fr (h.new j hjn hDj) hfresh
    -- what holds behind it
    have hlisted : ∀ i, i < ops.size → (listed.setIfInBounds j true).getD i false = (listed.getD i false || i == j) := fun i hi => by
      by_cases he : i = j
      · subst he; simp [hjs]
      · have : (i == j) = false := by simpa using he
        simp [Array.getElem?_setIfInBounds_ne (Ne.symm he), this]
    have eE : stE (dstOf ops) rec (fun i => (listed.setIfInBounds j true).getD i false) e0 ops.size = putE (stE (dstOf ops) rec (fun i => listed.getD i false) e0 ops.size) o.dst (rec j).u := by
      rw [← hdo, ← stE_more (dstOf ops) rec (fun i => listed.getD i false) e0 j ops.size hjn hDj fun i h1 h2 h3 t ht ht' => hafter i h1 h2 h3 (.inr (.inr (.inl ⟨t, ht', ht⟩)))]
      funext t
      exact stE_agree (dstOf ops) rec _ _ e0 t _ fun i hi _ => hlisted i hi
    have eO : stO base rec (fun i => (listed.setIfInBounds j true).getD i false) o0 ops.size = applyO (stO base rec (fun i => listed.getD i false) o0 ops.size) (rec j).wr (rec j).nw (base + j) := by
      rw [← stO_more base rec (fun i => listed.getD i false) o0 j ops.size hjn hDj fun i h1 h2 h3 k hk hk' => hafter i h1 h2 h3 (.inr (.inr (.inr (.inr (.inl ⟨k, hk', hk⟩)))))]
      funext t
      exact stO_agree base rec _ _ o0 t _ fun i hi _ => hlisted i hi
    have hnext : ∀ v w', Post w0 w σ Im (stO base rec (fun i => listed.getD i false) o0 ops.size) (base + j) (rec j).u (rec j).wr (rec j).nw v w' → wpAny P .any ops Q fuel (listed.setIfInBounds j true) (a.put o.dst v) w' := by
      rintro v w' ⟨σ', Im', g1, g2, g3, g4, g5⟩
      refine ih _ _ _ σ' Im' ?_ (by simpa using hsz) (by rw [hlisted n (by omega), hns]; simp; omega) ?_ ⟨by rw [size_put]; exact h.sz, ?_, by rw [eO]; exact g5, by rw [eE]; exact h.fr.put g1 g4, h.go.trans g1, ?_, ?_⟩
      · have := unl_set listed j hjl ops.size hjn; omega
      · intro i oi hoi hi e he hb
        have hin : i < ops.size := by
          rcases Nat.lt_or_ge i ops.size with h' | h'
          · exact h'
          · rw [Array.getElem?_eq_none h'] at hoi; cases hoi
        have hlt := hedge i oi hoi e he hb
        rw [hlisted i hin] at hi
        rw [hlisted e.on (by omega)]
        rcases Bool.or_eq_true _ _ ▸ hi with hi | hi
        · rw [hcl i oi hoi hi e he hb]; rfl
        · have : i = j := by simpa using hi
          subst this
          rw [ho] at hoi; cases hoi
          rw [hje e he hb]; rfl
      · rw [← h.df]; cases o.dst <;> rfl
      · intro i hi hDi
        rw [hlisted i hi] at hDi
        have h1 := (Bool.or_eq_false_iff.1 hDi)
        have hne : i ≠ j := by simpa using h1.2
        rw [g2 _ (by omega)]
        exact h.new i hi h1.1
      · intro k hk
        rw [g2 k (by omega)]
        exact h.old k hk
    unfold wpOp
    rw [ho]
    simp only
    split
    · rename_i hwn
      rw [if_pos hwn] at hstep
      exact .inl (upon_runs hstep hnext)
    · rename_i hwn
      rw [if_neg hwn] at hstep
      obtain ⟨r1, r2, r3⟩ := hstep
      refine hnext undef w ⟨σ, Im, Go1.refl _ _ _, fun _ _ => rfl, fun _ => rfl, r1, ?_⟩
      rw [r2, r3]
      exact h.sat
end
end Ev
end Go.Proofs.YtphdjmaebdmdmaaGreatDoor
