/- The abstract machine: a statement whose order is open. -/
import Derived.Test.YtphdjmaebdmdmaaGreatDoorEvLoc
import Derived.Orders
namespace Go.Proofs.YtphdjmaebdmdmaaGreatDoor
open Go.RowKit
set_option linter.unusedVariables false
set_option linter.unusedSimpArgs false
namespace Ev

structure Rec where
  u : AV
  wr : List (Nat × OB)
  nw : Option OB
  foot : List Nat
def putE (env : Nat → AV) (d : Option Nat) (u : AV) : Nat → AV := match d with | some d => upd env d u | none => env
/-- The frame, in a world. -/
def FR (w : World) (σ : Nat → Option Nat) (Im : Nat → Prop) (env : Nat → AV) (a : Act) : Prop := ∀ t, t < a.tmps.size → Rd w σ Im (env t) (a.tmps.getD t undef)
/-- An operation does what its record says, whatever else has been done. -/
def OpOk (P : Program) (w0 : St0) (ops : Array Oper) (m : Nat) (o : Oper) (ix : Nat) (env : Nat → AV) (own : Nat → OB) (r : Rec) : Prop :=
  ∀ env' own', (∀ t ∈ o.looksAt ops, env' t = env t) → (∀ k ∈ r.foot, own' k = own k) → ∀ w σ Im (a : Act), a.tmps.size = m → Sat w0 w σ Im own' → FR w σ Im env' a → σ ix = none → ¬ (own' ix).live →
    if Region.wanted o (yielded ops a.tmps) = true then Runs P ((execOp a.eval o).run P w) (fun v w' => Post w0 w σ Im own' ix r.u r.wr r.nw v w') else Rd w σ Im r.u undef ∧ r.wr = [] ∧ r.nw = none

section
variable {P : Program} {w0 : St0}
theorem size_put (a : Act) (d : Option Tmp) (v : Value) : (a.put d v).tmps.size = a.tmps.size := by cases d <;> simp [Act.put]
theorem FR.put {w σ Im env a w' σ' Im'} (h : FR w σ Im env a) (hg : Go1 w σ Im w' σ' Im') {d : Option Nat} {u : AV} {v : Value} (hr : Rd w' σ' Im' u v) : FR w' σ' Im' (putE env d u) (a.put d v) := by
  intro t ht
  rw [size_put] at ht
  cases d with
  | none => exact (h t ht).mono hg
  | some d =>
    rcases upd_cases env d u t with ⟨rfl, e⟩ | ⟨hne, e⟩
    · show Rd w' σ' Im' (upd env t u t) _
      rw [e]
      simpa [Act.put, ht] using hr
    · show Rd w' σ' Im' (upd env d u t) _
      rw [e]
      have := (h t ht).mono hg
      simpa [Act.put, Array.getElem?_setIfInBounds_ne (Ne.symm hne)] using this
theorem upon_runs {o : Oper} {a : Act} {w : World} {K : Act → World → Prop} {Q : Exit → Act → World → Prop} {Φ : Value → World → Prop} (h : Runs P ((execOp a.eval o).run P w) Φ) (hk : ∀ v w', Φ v w' → K (a.put o.dst v) w') : o.wp P a w K Q := by
  unfold Oper.wp
  generalize (execOp a.eval o).run P w = r at h
  unfold Runs at h
  split at h
  · exact hk _ _ h
  · exact hk _ _ h
  · exact h.mono fun e w' ⟨v, he, hv⟩ => by subst he; exact hk _ _ hv
  · exact h.elim

def keys (wr : List (Nat × OB)) : List Nat := wr.map (·.1)
theorem applyW_other (wr : List (Nat × OB)) : ∀ (own : Nat → OB) (k : Nat), k ∉ keys wr → applyW own wr k = own k := by
  induction wr with
  | nil => intro own k _; rfl
  | cons p r ih =>
    intro own k hk
    simp only [keys, List.map_cons, List.mem_cons, not_or] at hk
    show applyW (upd own p.1 p.2) r k = _
    rw [ih _ _ hk.2, upd_other _ _ _ hk.1]
theorem applyW_same (wr : List (Nat × OB)) : ∀ (own own' : Nat → OB) (k : Nat), k ∈ keys wr → applyW own wr k = applyW own' wr k := by
  induction wr with
  | nil => intro own own' k hk; simp [keys] at hk
  | cons p r ih =>
    intro own own' k hk
    show applyW (upd own p.1 p.2) r k = applyW (upd own' p.1 p.2) r k
    by_cases h : k ∈ keys r
    · exact ih _ _ k h
    · rw [applyW_other r _ k h, applyW_other r _ k h]
      have : k = p.1 := by simp only [keys, List.map_cons, List.mem_cons] at hk; exact hk.resolve_right h
      subst this
      rw [upd_same, upd_same]
theorem applyO_other (own : Nat → OB) (wr : List (Nat × OB)) (nw : Option OB) (ix k : Nat) (h : k ∉ keys wr) (h' : k ≠ ix) : applyO own wr nw ix k = own k := by
  cases nw with
  | none => exact applyW_other wr own k h
  | some ob => show upd (applyW own wr) ix ob k = _; rw [upd_other _ _ _ h', applyW_other wr own k h]
theorem applyO_agree (own own' : Nat → OB) (wr : List (Nat × OB)) (nw : Option OB) (ix k : Nat) (h : own k = own' k) : applyO own wr nw ix k = applyO own' wr nw ix k := by
  have hw : applyW own wr k = applyW own' wr k := by
    by_cases hk : k ∈ keys wr
    · exact applyW_same wr _ _ k hk
    · rw [applyW_other wr _ k hk, applyW_other wr _ k hk, h]
  cases nw with
  | none => exact hw
  | some ob =>
    show upd (applyW own wr) ix ob k = upd (applyW own' wr) ix ob k
    rcases upd_cases (applyW own wr) ix ob k with ⟨rfl, e⟩ | ⟨hne, e⟩
    · rw [e, upd_same]
    · rw [e, upd_other _ _ _ hne, hw]
theorem putE_agree (env env' : Nat → AV) (d : Option Nat) (u : AV) (t : Nat) (h : env t = env' t) : putE env d u t = putE env' d u t := by
  cases d with
  | none => exact h
  | some d =>
    show upd env d u t = upd env' d u t
    rcases upd_cases env d u t with ⟨rfl, e⟩ | ⟨hne, e⟩
    · rw [e, upd_same]
    · rw [e, upd_other _ _ _ hne, h]
theorem putE_other (env : Nat → AV) (d : Option Nat) (u : AV) (t : Nat) (h : d ≠ some t) : putE env d u t = env t := by
  cases d with
  | none => rfl
  | some d => exact upd_other _ _ _ (fun e => h (by rw [e]))

/-- The state when just the operations of D have been done. -/
def stE (dst : Nat → Option Nat) (rec : Nat → Rec) (D : Nat → Bool) (e0 : Nat → AV) : Nat → (Nat → AV)
  | 0 => e0
  | n + 1 => if D n then putE (stE dst rec D e0 n) (dst n) (rec n).u else stE dst rec D e0 n
def stO (base : Nat) (rec : Nat → Rec) (D : Nat → Bool) (o0 : Nat → OB) : Nat → (Nat → OB)
  | 0 => o0
  | n + 1 => if D n then applyO (stO base rec D o0 n) (rec n).wr (rec n).nw (base + n) else stO base rec D o0 n
/-- Which of the call's own blocks an operation touches. -/
def touch (base : Nat) (rec : Nat → Rec) (i : Nat) : List Nat := (base + i) :: keys (rec i).wr
theorem stE_agree (dst : Nat → Option Nat) (rec : Nat → Rec) (D D' : Nat → Bool) (e0 : Nat → AV) (t : Nat) : ∀ n, (∀ i, i < n → dst i = some t → D i = D' i) → stE dst rec D e0 n t = stE dst rec D' e0 n t
  | 0, _ => rfl
  | n + 1, h => by
    have ih := stE_agree dst rec D D' e0 t n fun i hi => h i (by omega)
    unfold stE
    by_cases hd : dst n = some t
    · rw [← h n (by omega) hd]
      split
      · exact putE_agree _ _ _ _ _ ih
      · exact ih
    · split <;> split <;> (try rw [putE_other _ _ _ _ hd]) <;> (try rw [putE_other _ _ _ _ hd]) <;> exact ih
theorem stO_agree (base : Nat) (rec : Nat → Rec) (D D' : Nat → Bool) (o0 : Nat → OB) (k : Nat) : ∀ n, (∀ i, i < n → k ∈ touch base rec i → D i = D' i) → stO base rec D o0 n k = stO base rec D' o0 n k
  | 0, _ => rfl
  | n + 1, h => by
    have ih := stO_agree base rec D D' o0 k n fun i hi => h i (by omega)
    unfold stO
    by_cases hd : k ∈ touch base rec n
    · rw [← h n (by omega) hd]
      split
      · exact applyO_agree _ _ _ _ _ _ ih
      · exact ih
    · have h1 : k ∉ keys (rec n).wr := fun hc => hd (List.mem_cons_of_mem _ hc)
      have h2 : k ≠ base + n := fun hc => hd (by rw [hc]; exact List.mem_cons_self)
      split <;> split <;> (try rw [applyO_other _ _ _ _ _ h1 h2]) <;> (try rw [applyO_other _ _ _ _ _ h1 h2]) <;> exact ih
/-- One more is done. -/
theorem stE_more (dst : Nat → Option Nat) (rec : Nat → Rec) (D : Nat → Bool) (e0 : Nat → AV) (j : Nat) : ∀ n, j < n → D j = false → (∀ i, j < i → i < n → D i = true → ∀ t, dst i = some t → dst j ≠ some t) →
    stE dst rec (fun i => D i || i == j) e0 n = putE (stE dst rec D e0 n) (dst j) (rec j).u
  | 0, hj, _, _ => by omega
  | n + 1, hj, hD, h => by
    funext t
    by_cases he : j = n
    · subst he
      unfold stE
      simp only [beq_self_eq_true, Bool.or_true, if_true, hD, Bool.false_eq_true, if_false]
      refine putE_agree _ _ _ _ _ ?_
      exact stE_agree dst rec _ _ e0 t j fun i hi _ => by
        have : (i == j) = false := by simp; omega
        simp [this]
    · have ih := stE_more dst rec D e0 j n (by omega) hD fun i h1 h2 => h i h1 (by omega)
      have hb : (D n || n == j) = D n := by
        have : (n == j) = false := by simp; omega
        simp [this]
      unfold stE
      rw [hb, ih]
      cases hDn : D n with
      | false => rfl
      | true =>
        simp only [if_true]
        by_cases hj' : dst j = some t
        · have hn : dst n ≠ some t := fun hc => h n (by omega) (by omega) hDn t hc hj'
          rw [putE_other _ _ _ _ hn, hj']
          show upd _ t _ t = upd _ t _ t
          rw [upd_same, upd_same]
        · rw [putE_other (putE (stE dst rec D e0 n) (dst n) (rec n).u) _ _ _ hj']
          exact putE_agree _ _ _ _ _ (putE_other _ _ _ _ hj')
theorem stO_more (base : Nat) (rec : Nat → Rec) (D : Nat → Bool) (o0 : Nat → OB) (j : Nat) : ∀ n, j < n → D j = false → (∀ i, j < i → i < n → D i = true → ∀ k, k ∈ touch base rec i → k ∉ touch base rec j) →
    stO base rec (fun i => D i || i == j) o0 n = applyO (stO base rec D o0 n) (rec j).wr (rec j).nw (base + j)
  | 0, hj, _, _ => by omega
  | n + 1, hj, hD, h => by
    funext t
    by_cases he : j = n
    · subst he
      unfold stO
      simp only [beq_self_eq_true, Bool.or_true, if_true, hD, Bool.false_eq_true, if_false]
      refine applyO_agree _ _ _ _ _ _ ?_
      exact stO_agree base rec _ _ o0 t j fun i hi _ => by
        have : (i == j) = false := by simp; omega
        simp [this]
    · have ih := stO_more base rec D o0 j n (by omega) hD fun i h1 h2 => h i h1 (by omega)
      have hb : (D n || n == j) = D n := by
        have : (n == j) = false := by simp; omega
        simp [this]
      have nt : ∀ i k, k ∉ touch base rec i → k ∉ keys (rec i).wr ∧ k ≠ base + i := fun i k hk => ⟨fun hc => hk (List.mem_cons_of_mem _ hc), fun hc => hk (by rw [hc]; exact List.mem_cons_self)⟩
      unfold stO
      rw [hb, ih]
      cases hDn : D n with
      | false => rfl
      | true =>
        simp only [if_true]
        by_cases hj' : t ∈ touch base rec j
        · have hn := nt n t fun hc => h n (by omega) (by omega) hDn t hc hj'
          rw [applyO_other _ _ _ _ _ hn.1 hn.2]
          exact applyO_agree _ _ _ _ _ _ (applyO_other _ _ _ _ _ hn.1 hn.2).symm
        · have hjt := nt j t hj'
          rw [applyO_other (applyO (stO base rec D o0 n) (rec n).wr (rec n).nw (base + n)) _ _ _ _ hjt.1 hjt.2]
          exact applyO_agree _ _ _ _ _ _ (applyO_other _ _ _ _ _ hjt.1 hjt.2)

/-- What must come before what. -/
inductive Bef (ops : Array Oper) : Nat → Nat → Prop
  | one {i j : Nat} {o : Oper} {e : Edge} (ho : ops[j]? = some o) (he : e ∈ o.after) (hb : Region.binds .any e = true) (hi : e.on = i) : Bef ops i j
  | trans {i j k : Nat} (h : Bef ops i j) (h' : Bef ops j k) : Bef ops i k
def unl (listed : Array Bool) : Nat → Nat
  | 0 => 0
  | n + 1 => unl listed n + (if listed.getD n true then 0 else 1)
theorem unl_set (listed : Array Bool) (i : Nat) (h : listed.getD i true = false) : ∀ n, i < n → unl (listed.setIfInBounds i true) n + 1 = unl listed n
  | 0, hi => by omega
  | n + 1, hi => by
    have hlt : i < listed.size := by
      rcases Nat.lt_or_ge i listed.size with h' | h'
      · exact h'
      · simp [Array.getElem?_eq_none h'] at h
    unfold unl
    by_cases he : i = n
    · subst he
      have h1 : (listed.setIfInBounds i true).getD i true = true := by simp [hlt]
      rw [h1, h]
      have : ∀ m, m ≤ i → unl (listed.setIfInBounds i true) m = unl listed m := by
        intro m
        induction m with
        | zero => intro _; rfl
        | succ m ih =>
          intro hm
          unfold unl
          have : (listed.setIfInBounds i true).getD m true = listed.getD m true := by
            simp [Array.getElem?_setIfInBounds_ne (show i ≠ m by omega)]
          rw [ih (by omega), this]
      rw [this i (Nat.le_refl _)]; simp
    · have ih := unl_set listed i h n (by omega)
      have : (listed.setIfInBounds i true).getD n true = listed.getD n true := by
        simp [Array.getElem?_setIfInBounds_ne he]
      rw [this]; omega
theorem unl_zero (listed : Array Bool) : ∀ n, unl listed n = 0 → ∀ i, i < n → listed.getD i true = true
  | 0, _, i, hi => by omega
  | n + 1, h, i, hi => by
    unfold unl at h
    by_cases he : i = n
    · subst he
      cases hl : listed.getD i true with
      | true => rfl
      | false => rw [hl] at h; simp at h
    · exact unl_zero listed n (by omega) i (by omega)
end
end Ev
end Go.Proofs.YtphdjmaebdmdmaaGreatDoor
