/- The abstract machine: functions, contracts. -/
import Derived.Test.YtphdjmaebdmdmaaGreatDoorEvMut
import Derived.Test.YtphdjmaebdmdmaaGreatDoorEvRec
namespace Go.Proofs.YtphdjmaebdmdmaaGreatDoor
open Go.RowKit
set_option linter.unusedVariables false
set_option linter.unusedSimpArgs false
namespace Ev

structure FnOk (P : Program) (f : Nat) (fn : Func) : Prop where
  at_ : P.funcs[f]? = some fn
  nm : (fn.name == "runtime.NumGoroutine") = false
def okF (fn : Func) (n : Nat) : Bool := match fn.body with | some c => okC fn.ntmps c && Nat.ble n fn.ntmps | none => false
inductive RV where
  | no
  | ok (p : Option Prop) (v : AV)
def res1 (cx : Cx) (m : Nat) (env : Nat → AV) (own : Nat → OB) (x : ResultVar) : RV :=
  match x with
  | .tmp a => match Nat.blt a m with
    | true => .ok none (env a)
    | false => .no
  | .cell a t => match Nat.blt a m with
    | true => match loadA (cx.ti t) own (env a) with
      | .ok p _ r _ _ _ => .ok p r
      | .no => .no
    | false => .no
def resA (cx : Cx) (m : Nat) (env : Nat → AV) (own : Nat → OB) (l : List ResultVar) : RV :=
  match l with
  | [] => .ok none (.tup [])
  | [x] => res1 cx m env own x
  | [x, y] => match res1 cx m env own x with
    | .no => .no
    | .ok p u => match res1 cx m env own y with
      | .no => .no
      | .ok q v => .ok (andP p q) (.tup [u, v])
  | [x, y, z] => match res1 cx m env own x with
    | .no => .no
    | .ok p u => match res1 cx m env own y with
      | .no => .no
      | .ok q v => match res1 cx m env own z with
        | .no => .no
        | .ok s t => .ok (andP p (andP q s)) (.tup [u, v, t])
  | [x, y, z, a] => match res1 cx m env own x with
    | .no => .no
    | .ok p u => match res1 cx m env own y with
      | .no => .no
      | .ok q v => match res1 cx m env own z with
        | .no => .no
        | .ok s t => match res1 cx m env own a with
          | .no => .no
          | .ok o b => .ok (andP p (andP q (andP s o))) (.tup [u, v, t, b])
  | _ => .no
def argE : List AV → Nat → AV
  | [], _ => .tup []
  | v :: _, 0 => v
  | _ :: r, t + 1 => argE r t
def retK (cx : Cx) (fn : Func) (K : AV → (Nat → OB) → Nat → Prop) : AK := fun e env own nk => match e with
  | .exit _ => False
  | _ => match resA cx fn.ntmps env own fn.results.toList with
    | .ok p r => preE p (force r fun r => K r own nk)
    | .no => False
def runA (lo : Nat) (cx : Cx) (con : Nat → List AV → CR) (inl : Nat → Bool) (cal : Cal) (fn : Func) (args : List AV) (K : AV → (Nat → OB) → Nat → Prop) (own : Nat → OB) (nk : Nat) : Prop :=
  okF fn args.length = true ∧ match fn.body with
    | some c => wpR lo cx con inl cal c (retK cx fn K) (argE args) own nk
    | none => False
def calT (cx : Cx) (con : Nat → List AV → CR) (inl : Nat → Bool) (fns : Nat → Option Func) (mc : Nat → List AV → (Nat → OB) → MR) : Nat → Cal
  | 0 => mcalP mc
  | n + 1 => fun f args K own nk => match fns f with
    | some fn => runA nk cx con inl (calT cx con inl fns mc n) fn args K own nk
    | none => mcalP mc f args K own nk
/-- What is handed back, of a call by itself: as what reads alone. -/
def pubT (own : Nat → OB) (v : AV) : PV :=
  match v with
  | .tup l => match pubL own l with
    | .no => .no
    | .ok l ks p => .ok (.tup l) ks p
  | v => pub1 own v
def outK (r : AV) : AV → (Nat → OB) → Nat → Prop := fun v own _ => match pubT own v with
  | .no => False
  | .ok u ks p => preE p (force u fun u => agr (fun _ => none) r u)

section
variable {P : Program} {w0 : St0}
def rvS (tmps : Array Value) (x : ResultVar) : Sem Value :=
  match x with
  | .tmp t => pure (tmps.getD t undef)
  | .cell a t => do loadVar t (← asAddr (tmps.getD a undef))
theorem results_eq (fn : Func) (tmps : Array Value) : results fn tmps = (do let vs ← fn.results.mapM (rvS tmps); pure (if h : vs.size = 1 then vs[0] else .tuple vs)) := by
  unfold results
  refine congrArg (fun g => (do let vs ← Array.mapM g fn.results; pure (if h : vs.size = 1 then vs[0] else .tuple vs) : Sem Value)) ?_
  funext x; cases x <;> rfl
theorem res1_sound {cx : Cx} (hcx : cx.ok P) {w σ Im own} (hS : Sat w0 w σ Im own) {m : Nat} {env : Nat → AV} {x : ResultVar} {p : Option Prop} {r : AV} {a : Act} (h : res1 cx m env own x = .ok p r) (hp : p.getD True) (hm : a.tmps.size = m) (hf : FR w σ Im env a) :
    ∃ v, (rvS a.tmps x).run P w = .ok v w ∧ Rd w σ Im r v := by
  have rd : ∀ t, Nat.blt t m = true → Rd w σ Im (env t) (a.tmps.getD t undef) := fun t ht => hf t (by have := Nat.le_of_ble_eq_true ht; omega)
  unfold res1 at h
  split at h
  · split at h
    · rename_i ht
      cases h
      exact ⟨_, rfl, rd _ ht⟩
    · cases h
  · rename_i t ty
    split at h
    · rename_i ht
      split at h
      · rename_i p' nm r' x1 x2 x3 e
        cases h
        have hr := rd _ ht
        have hl := load_sound0 (P := P) (t := ty) (hcx.ti ty) hS hr
        rw [e] at hl
        obtain ⟨_, _, hl⟩ := hl
        obtain ⟨v, hv, hrd⟩ := hl hp
        refine ⟨v, ?_, hrd⟩
        rw [← hv]
        show (do loadVar ty (← asAddr (a.tmps.getD t undef))).run P w = (do loadVar ty (← Instr.sureAddr (a.tmps.getD t undef))).run P w
        have : ∃ ad, a.tmps.getD t undef = .pointer (some ad) := by
          unfold loadA at e
          split at e
          · cases e
          · split at e
            · rename_i k off he
              rw [he] at hr
              obtain ⟨b, hb, _⟩ := hr.inv_own
              exact ⟨_, hb⟩
            · rename_i N g he
              rw [he] at hr
              obtain ⟨b, off, U, hb, _⟩ := hr.inv_ref
              exact ⟨_, hb⟩
            · cases e
        obtain ⟨ad, had⟩ := this
        rw [had]
        rfl
      · cases h
    · cases h
theorem resA_sound {cx : Cx} (hcx : cx.ok P) {w σ Im own} (hS : Sat w0 w σ Im own) {m : Nat} {env : Nat → AV} {fn : Func} {p : Option Prop} {r : AV} {a : Act} (h : resA cx m env own fn.results.toList = .ok p r) (hp : p.getD True) (hm : a.tmps.size = m) (hf : FR w σ Im env a) :
    ∃ v, (results fn a.tmps).run P w = .ok v w ∧ Rd w σ Im r v := by
  have two : ∀ (l : List AV) (vs : List Value), Two (Rd w σ Im) l vs → Rd w σ Im (.tup l) (.tuple vs.toArray) := fun l vs ht => by
    have key : l.length = vs.length ∧ ∀ i, i < l.length → Rd w σ Im (l.getD i .any) (vs.getD i undef) := by
      induction ht with
      | nil => exact ⟨rfl, fun i hi => by simp at hi⟩
      | cons h t ih =>
        refine ⟨by simp [ih.1], fun i hi => ?_⟩
        cases i with
        | zero => exact h
        | succ i => simpa using ih.2 i (by simpa using hi)
    exact .tup _ _ (by simp [key.1]) fun i hi => by simpa using key.2 i hi
  unfold resA at h
  split at h
  · rename_i hl
    cases h
    have hr : fn.results = #[] := by apply Array.ext'; rw [hl]
    exact ⟨_, results_none hr _ _ _, two [] [] .nil⟩
  · rename_i x hl
    have hr : fn.results = #[x] := by apply Array.ext'; rw [hl]
    obtain ⟨v, hv, hrd⟩ := res1_sound hcx hS h hp hm hf
    exact ⟨v, by rw [results_eq, hr]; simp [hv], hrd⟩
  · rename_i x y hl
    have hr : fn.results = #[x, y] := by apply Array.ext'; rw [hl]
    split at h
    · cases h
    rename_i e1
    split at h
    · cases h
    rename_i e2
    cases h
    obtain ⟨v, hv, hrd⟩ := res1_sound hcx hS e1 (andP_l hp) hm hf
    obtain ⟨v2, hv2, hrd2⟩ := res1_sound hcx hS e2 (andP_r hp) hm hf
    exact ⟨_, by rw [results_eq, hr]; simp [hv, hv2], two _ [v, v2] (.cons hrd (.cons hrd2 .nil))⟩
  · rename_i x y z hl
    have hr : fn.results = #[x, y, z] := by apply Array.ext'; rw [hl]
    split at h
    · cases h
    rename_i e1
    split at h
    · cases h
    rename_i e2
    split at h
    · cases h
    rename_i e3
    cases h
    obtain ⟨v, hv, hrd⟩ := res1_sound hcx hS e1 (andP_l hp) hm hf
    obtain ⟨v2, hv2, hrd2⟩ := res1_sound hcx hS e2 (andP_l (andP_r hp)) hm hf
    obtain ⟨v3, hv3, hrd3⟩ := res1_sound hcx hS e3 (andP_r (andP_r hp)) hm hf
    exact ⟨_, by rw [results_eq, hr]; simp [hv, hv2, hv3], two _ [v, v2, v3] (.cons hrd (.cons hrd2 (.cons hrd3 .nil)))⟩
  · rename_i x y z a hl
    have hr : fn.results = #[x, y, z, a] := by apply Array.ext'; rw [hl]
    split at h
    · cases h
    rename_i e1
    split at h
    · cases h
    rename_i e2
    split at h
    · cases h
    rename_i e3
    split at h
    · cases h
    rename_i e4
    cases h
    obtain ⟨v, hv, hrd⟩ := res1_sound hcx hS e1 (andP_l hp) hm hf
    obtain ⟨v2, hv2, hrd2⟩ := res1_sound hcx hS e2 (andP_l (andP_r hp)) hm hf
    obtain ⟨v3, hv3, hrd3⟩ := res1_sound hcx hS e3 (andP_l (andP_r (andP_r hp))) hm hf
    obtain ⟨v4, hv4, hrd4⟩ := res1_sound hcx hS e4 (andP_r (andP_r (andP_r hp))) hm hf
    exact ⟨_, by rw [results_eq, hr]; simp [hv, hv2, hv3, hv4], two _ [v, v2, v3, v4] (.cons hrd (.cons hrd2 (.cons hrd3 (.cons hrd4 .nil))))⟩
  · cases h
theorem arg_rd {w σ Im} {args : List AV} {vals : List Value} (ht : Two (Rd w σ Im) args vals) : ∀ (n t : Nat), t < vals.length + n → Rd w σ Im (argE args t) ((vals.toArray ++ Array.replicate n undef).getD t undef) := by
  intro n
  have key : ∀ t, t < vals.length + n → Rd w σ Im (argE args t) ((vals ++ List.replicate n undef).getD t undef) := by
    induction ht with
    | nil =>
      intro t ht
      have : (([] : List Value) ++ List.replicate n undef).getD t undef = undef := by
        simp only [List.nil_append, List.getD, List.getElem?_replicate]; split <;> rfl
      rw [this]
      exact undef_rd
    | cons h t ih =>
      intro t ht
      cases t with
      | zero => exact h
      | succ t =>
        have := ih t (by simp at ht; omega)
        simpa [argE] using this
  intro t ht
  have e : (vals.toArray ++ Array.replicate n undef).getD t undef = (vals ++ List.replicate n undef).getD t undef := by
    simp [Array.getD_eq_getD_getElem?, List.getD, Array.getElem?_append, List.getElem?_append, Array.getElem?_replicate, List.getElem?_replicate]
  rw [e]
  exact key t ht
theorem two_len {α β : Type} {R : α → β → Prop} {l : List α} {m : List β} (h : Two R l m) : l.length = m.length := by
  induction h with
  | nil => rfl
  | cons _ _ ih => simp [ih]
theorem run_sound {cx : Cx} (hcx : cx.ok P) {con : Nat → List AV → CR} (hcon : ConOk P con) {inl : Nat → Bool} {cal : Cal} (hcal : CalOk P w0 cal) (hmix : P.follows .mixedOrders = true) {lo : Nat} {f : Nat} {fn : Func} (hf : FnOk P f fn)
    {args : List AV} {K : AV → (Nat → OB) → Nat → Prop} {own : Nat → OB} {nk : Nat} (h : runA lo cx con inl cal fn args K own nk) {w : World} {σ : Nat → Option Nat} {Im : Nat → Prop} {vals : List Value} (hS : Sat w0 w σ Im own) (hn : ∀ k, nk ≤ k → σ k = none) (hd : ∀ k, nk ≤ k → ¬ (own k).live) (ht : Two (Rd w σ Im) args vals) :
    Runs P ((callFunc f vals.toArray).run P w) fun v w' => ∃ σ' Im' u own' nk', K u own' nk' ∧ Rd w' σ' Im' u v ∧ Sat w0 w' σ' Im' own' ∧ (∀ k, nk' ≤ k → σ' k = none) ∧ (∀ k, nk' ≤ k → ¬ (own' k).live) ∧ GoL lo w σ Im w' σ' Im' := by
  obtain ⟨h1, h2⟩ := h
  cases hb : fn.body with
  | none => rw [hb] at h2; exact h2.elim
  | some c =>
    rw [hb] at h2
    replace h2 : wpR lo cx con inl cal c (retK cx fn K) (argE args) own nk := h2
    rw [wpR_eq] at h2
    unfold okF at h1
    rw [hb] at h1
    rw [Bool.and_eq_true] at h1
    have hle := Nat.le_of_ble_eq_true h1.2
    have hlen := two_len ht
    have e : (callFunc f vals.toArray).run P w = .ok (.enter f vals.toArray) w := by
      have hne : ¬ fn.name = "runtime.NumGoroutine" := by simpa using hf.nm
      simp [callFunc, hf.at_, hb, hne]
    rw [e]
    have hsz : (vals.toArray ++ Array.replicate (fn.ntmps - vals.toArray.size) undef).size = fn.ntmps := by simp; omega
    refine calls_of_wp hf.at_ hb (wp_mono (wpA_sound (w0 := w0) hcx hcon hcal hmix (lo := lo) c h1.1 _ _ _ _ h2 _ w σ Im w σ Im ⟨hsz, rfl, hS, ?_, hn, hd⟩ (GoL.refl _ _ _ _)) fun e a w' hF => ?_)
    · intro t ht'
      exact arg_rd ht _ t (by simp at ht' ⊢; omega)
    · have fin : ∀ e env own nk σ' Im', (match e with | AE.exit _ => False | _ => True) → retK cx fn K e env own nk → Gd w0 [] fn.ntmps env own nk a w' σ' Im' → GoL lo w σ Im w' σ' Im' → a.defers = [] ∧ ∃ v, (results fn a.tmps).run P w' = .ok v w' ∧ ∃ v', Ending.returned v = .returned v' ∧ ∃ σ' Im' u own' nk', K u own' nk' ∧ Rd w' σ' Im' u v' ∧ Sat w0 w' σ' Im' own' ∧ (∀ k, nk' ≤ k → σ' k = none) ∧ (∀ k, nk' ≤ k → ¬ (own' k).live) ∧ GoL lo w σ Im w' σ' Im' := by
        intro e env own nk σ' Im' he hk hG hg
        refine ⟨hG.df, ?_⟩
        have hk : match resA cx fn.ntmps env own fn.results.toList with | .ok p r => preE p (force r fun r => K r own nk) | .no => False := by
          cases e <;> first | exact hk | exact he.elim
        split at hk
        · rename_i p r hr
          obtain ⟨hp, hk⟩ := preE_iff hk
          rw [force_eq] at hk
          obtain ⟨v, hv, hrd⟩ := resA_sound (P := P) hcx hG.sat hr hp hG.sz hG.fr
          exact ⟨v, hv, v, rfl, σ', Im', r, own, nk, hk, hrd, hG.sat, hG.new, hG.dead, hg⟩
        · exact hk.elim
      cases e with
      | normal =>
        obtain ⟨env', own', nk', σ', Im', hk, hG', hg'⟩ := hF
        exact fin _ _ _ _ _ _ trivial hk hG' hg'
      | ret =>
        obtain ⟨env', own', nk', σ', Im', hk, hG', hg'⟩ := hF
        exact fin _ _ _ _ _ _ trivial hk hG' hg'
      | exit i =>
        obtain ⟨env', own', nk', σ', Im', hk, hG', hg'⟩ := hF
        exact hk.elim
      | _ => exact hF.elim
theorem Runs.mono' {r : Result Next} {Φ Ψ : Value → World → Prop} (h : Runs P r Φ) (hp : ∀ v w, Φ v w → Ψ v w) : Runs P r Ψ := h.mono hp
theorem calT_ok {cx : Cx} (hcx : cx.ok P) {con : Nat → List AV → CR} (hcon : ConOk P con) (hmix : P.follows .mixedOrders = true) {inl : Nat → Bool} {fns : Nat → Option Func} (hfns : ∀ f fn, fns f = some fn → FnOk P f fn) {mc : Nat → List AV → (Nat → OB) → MR} (hmc : MConOk P mc) : ∀ n, CalOk P w0 (calT cx con inl fns mc n)
  | 0 => mcalP_ok hmc
  | n + 1 => fun f args K own nk h w σ Im vals hS hn hd ht => by
    unfold calT at h
    split at h
    · rename_i fn hfn
      exact (run_sound hcx hcon (calT_ok hcx hcon hmix hfns hmc n) hmix (hfns f fn hfn) h hS hn hd ht).mono fun v w' ⟨σ', Im', u, own', nk', h1, h2, h3, h4, h5, h6⟩ => ⟨σ', Im', u, own', nk', h1, h2, h3, h4, h5, h6.all hn⟩
    · exact mcalP_ok hmc f args K own nk h w σ Im vals hS hn hd ht
/-- What is told of a program, of the steps that may be stepped into. -/
structure Base (P : Program) (cx : Cx) (con : Nat → List AV → CR) (fns : Nat → Option Func) (mc : Nat → List AV → (Nat → OB) → MR) : Prop where
  cx : cx.ok P
  con : ConOk P con
  mix : P.follows .mixedOrders = true
  fns : ∀ f fn, fns f = some fn → FnOk P f fn
  mc : MConOk P mc
def first0 (w : World) (Im : Nat → Prop) (htw : TW w) : St0 := ⟨w, Im, fun b => b < w.heap.size, fun _ h => h, w.heap.size, fun _ h => h, fun _ hb => htw.below hb⟩
theorem Sat.first (w : World) (Im : Nat → Prop) (h : ∀ b, Im b → b < w.heap.size) (htw : TW w) : Sat (first0 w Im htw) w (fun _ => none) Im (fun _ => .gone) :=
  ⟨⟨rfl, rfl, rfl, Nat.le_refl _, fun _ _ => rfl⟩, h, (fun _ _ e => by cases e), fun _ e => e.elim, (fun _ _ _ e => e.elim), fun _ e => .inl e, (fun _ _ e => by cases e)⟩
theorem pubT_sound {w σ Im own} (hS : Sat w0 w σ Im own) {v u : AV} {V : Value} {ks : List Nat} {p : Option Prop} (h : pubT own v = .ok u ks p) (hp : p.getD True) (hv : Rd w σ Im v V) :
    Rd w (fun _ => none) (Lent σ Im ks) u V := by
  unfold pubT at h
  split at h
  · rename_i l
    split at h
    · cases h
    rename_i l' ks' p' e
    cases h
    obtain ⟨cs, rfl, h1, h3⟩ := hv.inv_tup
    have ht := (pubL_sound hS cs.toList e hp (two_array h1 h3)).1
    have key : ∀ {l : List AV} {vs : List Value}, Two (Rd w (fun _ => none) (Lent σ Im ks)) l vs → vs.length = l.length ∧ ∀ i, i < l.length → Rd w (fun _ => none) (Lent σ Im ks) (l.getD i .any) (vs.getD i undef) := fun ht => by
      induction ht with
      | nil => exact ⟨rfl, fun i hi => by simp at hi⟩
      | cons h t ih =>
        refine ⟨by simp [ih.1], fun i hi => ?_⟩
        cases i with
        | zero => exact h
        | succ i => simpa using ih.2 i (by simpa using hi)
    obtain ⟨a1, a2⟩ := key ht
    exact .tup _ _ (by simpa using a1) fun i hi => by simpa using a2 i hi
  · exact (pub1_sound hS h hp hv).1
theorem acalls_of {cx : Cx} {con : Nat → List AV → CR} {inl : Nat → Bool} {fns : Nat → Option Func} {mc : Nat → List AV → (Nat → OB) → MR} (hB : Base P cx con fns mc) (n : Nat) {f : Nat} {fn : Func} (hf : FnOk P f fn) {args : List AV} {r : AV}
    (h : runA 0 cx con inl (calT cx con inl fns mc n) fn args (outK r) (fun _ => .gone) 0) : ACalls P f args r := by
  intro w Im vals hIm ht htw
  refine (run_sound hB.cx hB.con (calT_ok (w0 := first0 w Im htw) hB.cx hB.con hB.mix hB.fns hB.mc n) hB.mix hf h (Sat.first w Im hIm htw) (fun _ _ => rfl) (fun _ _ e => e.elim) ht).mono fun v w' ⟨σ', Im', u, own', nk', hk, hr, hS, hn, hd, hg⟩ => ⟨⟨hS.bel.os, hS.bel.tape, hS.bel.output, hS.bel.size, hS.bel.block⟩, ?_⟩
  unfold outK at hk
  split at hk
  · exact hk.elim
  · rename_i u' ks p e
    obtain ⟨hp, hk⟩ := preE_iff hk
    rw [force_eq] at hk
    have h1 := agr_rd hk (pubT_sound hS e hp hr)
    refine Rd.wide h1 fun b hb => ?_
    rcases hb with hb | ⟨k, _, hb⟩
    · rcases hS.imB b hb with h | h
      · exact .inl h
      · exact .inr ⟨Nat.le_of_not_lt h, hS.im b hb⟩
    · exact .inr ⟨Nat.le_of_not_lt (hS.sgB k b hb), hS.sg k b hb⟩
theorem mcalls_of {cx : Cx} {con : Nat → List AV → CR} {inl : Nat → Bool} {fns : Nat → Option Func} {mc : Nat → List AV → (Nat → OB) → MR} (hB : Base P cx con fns mc) (n : Nat) {f : Nat} {fn : Func} (hf : FnOk P f fn) {args : List AV} {rows : List OB} {r : AV} {rows' : List OB}
    (h : runA rows.length cx con inl (calT cx con inl fns mc n) fn args (outM rows.length r rows') (rowsO rows) rows.length) : MCalls P f args rows r rows' := by
  intro w0 w σ Im vals hS hn ht
  refine (run_sound hB.cx hB.con (calT_ok (w0 := w0) hB.cx hB.con hB.mix hB.fns hB.mc n) hB.mix hf h hS hn (fun k hk => by rw [rowsO_ge rows k hk]; exact fun e => e) ht).mono fun v w' ⟨σ', Im', u, own', nk', hk, hr, hS', hn', hd, hg⟩ => ?_
  obtain ⟨h1, h2, h3⟩ := hk
  refine ⟨fun k => (pinK rows.length k).bind σ', Im', agr_rd h1 hr, hS'.pin (Nat.le_of_ble_eq_true h2.eq) h3, fun k hk _ => ?_, ⟨hg.im, hg.blk, fun k b hk e => ?_, hg.len⟩⟩
  · cases hp : pinK rows.length k with
    | none => simp only [hp, Option.bind_none]
    | some k' => have := (pinK_some hp).2; omega
  · simp only [pinK_lt hk, Option.bind_some]
    exact hg.sg k b hk e
theorem mcallsF_of {cx : Cx} {con : Nat → List AV → CR} {inl : Nat → Bool} {fns : Nat → Option Func} {mc : Nat → List AV → (Nat → OB) → MR} (hB : Base P cx con fns mc) (n : Nat) {f : Nat} {fn : Func} (hf : FnOk P f fn) {args : List AV} {rows : List OB} {r : AV} {rows' : List OB}
    (h : runA rows.length cx con inl (calT cx con inl fns mc n) fn args (outF rows.length r rows') (rowsO rows) rows.length) : MCalls P f args rows r rows' := by
  intro w0 w σ Im vals hS hn ht
  refine (run_sound hB.cx hB.con (calT_ok (w0 := w0) hB.cx hB.con hB.mix hB.fns hB.mc n) hB.mix hf h hS hn (fun k hk => by rw [rowsO_ge rows k hk]; exact fun e => e) ht).mono fun v w' ⟨σ', Im', u, own', nk', hk, hr, hS', hn', hd, hg⟩ => ?_
  obtain ⟨ρ, h1, h3, h2⟩ := hk
  have h2 := h2.eq
  rw [Bool.and_eq_true, Bool.and_eq_true] at h2
  have hlen := Nat.eq_of_beq_eq_true h2.1
  refine ⟨fun k => (pinF rows.length ρ k).bind σ', Im', agr_rd h1 hr, hS'.pinF h2.2.1 h2.2.2 h3, fun k hk hk' => ?_, ⟨hg.im, hg.blk, fun k b hk e => ?_, hg.len⟩⟩
  · cases hp : pinF rows.length ρ k with
    | none => simp only [hp, Option.bind_none]
    | some k' =>
      rcases pinF_cases hp with ⟨c1, _⟩ | ⟨_, c2⟩
      · omega
      · have := (nthO_lt c2).1; omega
  · simp only [pinF_lt hk, Option.bind_some]
    exact hg.sg k b hk e
end
end Ev
end Go.Proofs.YtphdjmaebdmdmaaGreatDoor
