/- The abstract machine: what is to be shown of one operation, of a statement. -/
import Derived.Test.YtphdjmaebdmdmaaGreatDoorEvDrw
namespace Go.Proofs.YtphdjmaebdmdmaaGreatDoor
open Go.RowKit
set_option linter.unusedVariables false
set_option linter.unusedSimpArgs false
namespace Ev

/-! Values are worked out before they are kept. -/
def force0 (v : AV) (K : AV → Prop) : Prop :=
  match v with
  | .any => K .any
  | .int k n => K (.int k n)
  | .bool b => K (.bool b)
  | .flt x => K (.flt x)
  | .cpx x y => K (.cpx x y)
  | .str s => K (.str s)
  | .nilp => K .nilp
  | .nils => K .nils
  | .nilf => K .nilf
  | .nili => K .nili
  | .ifc t v => K (.ifc t v)
  | .own k o => K (.own k o)
  | .os k s o n => K (.os k s o n)
  | .ref n g => K (.ref n g)
  | .sl n s g => K (.sl n s g)
  | .agg l => K (.agg l)
  | .tup l => K (.tup l)
  | .fn f l => K (.fn f l)
  | .gd c r => K (.gd c r)
def forceL : List AV → (List AV → Prop) → Prop
  | [], K => K []
  | v :: r, K => force0 v fun v => forceL r fun r => K (v :: r)
def force1 (v : AV) (K : AV → Prop) : Prop :=
  match v with
  | .agg l => forceL l fun l => K (.agg l)
  | .fn f l => forceL l fun l => K (.fn f l)
  | v => force0 v K
def forceL1 : List AV → (List AV → Prop) → Prop
  | [], K => K []
  | v :: r, K => force1 v fun v => forceL1 r fun r => K (v :: r)
def force (v : AV) (K : AV → Prop) : Prop :=
  match v with
  | .tup l => forceL1 l fun l => K (.tup l)
  | .gd c r => force1 r fun r => K (.gd c r)
  | v => force1 v K
def forceOB (o : OB) (K : OB → Prop) : Prop :=
  match o with
  | .row l => forceL l fun l => K (.row l)
  | .nums k N P => K (.nums k N P)
  | .arr N g => K (.arr N g)
  | .gone => K .gone
  | .bts N P => K (.bts N P)
def forceW : List (Nat × OB) → (List (Nat × OB) → Prop) → Prop
  | [], K => K []
  | (k, o) :: r, K => forceOB o fun o => forceW r fun r => K ((k, o) :: r)
def forceO (o : Option OB) (K : Option OB → Prop) : Prop :=
  match o with
  | none => K none
  | some o => forceOB o fun o => K (some o)
def forceN (n : Nat) (K : Nat → Prop) : Prop :=
  match n with
  | 0 => K 0
  | n + 1 => K (n + 1)
theorem force0_eq (v : AV) (K : AV → Prop) : force0 v K = K v := by cases v <;> rfl
theorem forceL_eq : ∀ (l : List AV) (K : List AV → Prop), forceL l K = K l
  | [], _ => rfl
  | v :: r, K => by unfold forceL; rw [force0_eq, forceL_eq r]
theorem force1_eq (v : AV) (K : AV → Prop) : force1 v K = K v := by
  unfold force1; split
  · rw [forceL_eq]
  · rw [forceL_eq]
  · rw [force0_eq]
theorem forceL1_eq : ∀ (l : List AV) (K : List AV → Prop), forceL1 l K = K l
  | [], _ => rfl
  | v :: r, K => by unfold forceL1; rw [force1_eq, forceL1_eq r]
theorem force_eq (v : AV) (K : AV → Prop) : force v K = K v := by
  unfold force; split
  · rw [forceL1_eq]
  · rw [force1_eq]
  · rw [force1_eq]
theorem forceOB_eq (o : OB) (K : OB → Prop) : forceOB o K = K o := by
  unfold forceOB; split <;> first | rfl | rw [forceL_eq]
theorem forceW_eq : ∀ (l : List (Nat × OB)) (K : List (Nat × OB) → Prop), forceW l K = K l
  | [], _ => rfl
  | (k, o) :: r, K => by unfold forceW; rw [forceOB_eq, forceW_eq r]
theorem forceO_eq (o : Option OB) (K : Option OB → Prop) : forceO o K = K o := by
  unfold forceO; split
  · rfl
  · rw [forceOB_eq]
theorem forceN_eq (n : Nat) (K : Nat → Prop) : forceN n K = K n := by cases n <;> rfl

def preE (p : Option Prop) (q : Prop) : Prop := match p with | none => q | some p => p ∧ q
def nameE (nm : Bool) (r : AV) (K : AV → Prop) : Prop :=
  match nm with
  | true => match r with
    | .int k e => ∀ n, n = e → K (.int k n)
    | r => force r K
  | false => force r K
def emit (s : SR) (K : AV → List (Nat × OB) → Option OB → Prop) : Prop :=
  match s with
  | .no => False
  | .ok p nm r _ wr nw => preE p (nameE nm r fun r => forceW wr fun wr => forceO nw fun nw => K r wr nw)
/-- Under a guard: nothing is made or written. -/
def emitG (c : Bool) (s : SR) (K : AV → Prop) : Prop :=
  match s with
  | .no => False
  | .ok p _ r _ wr nw => match wr, nw with
    | [], none => match p with
      | none => force1 r fun r => K (.gd c r)
      | some p => (c = true → p) ∧ force1 r fun r => K (.gd c r)
    | _, _ => False
theorem preE_iff {p : Option Prop} {q : Prop} (h : preE p q) : p.getD True ∧ q := by
  unfold preE at h; split at h
  · exact ⟨trivial, h⟩
  · exact h
theorem nameE_sound {nm : Bool} {r : AV} {K : AV → Prop} (h : nameE nm r K) : K r := by
  unfold nameE at h
  split at h
  · split at h
    · exact h _ rfl
    · rwa [force_eq] at h
  · rwa [force_eq] at h
theorem emit_sound {s : SR} {K : AV → List (Nat × OB) → Option OB → Prop} (h : emit s K) : ∃ p nm r rd wr nw, s = .ok p nm r rd wr nw ∧ p.getD True ∧ K r wr nw := by
  unfold emit at h
  split at h
  · exact h.elim
  · obtain ⟨h1, h2⟩ := preE_iff h
    have h3 := nameE_sound h2
    rw [forceW_eq, forceO_eq] at h3
    exact ⟨_, _, _, _, _, _, rfl, h1, h3⟩
theorem emitG_sound {c : Bool} {s : SR} {K : AV → Prop} (h : emitG c s K) : ∃ p nm r rd, s = .ok p nm r rd [] none ∧ (c = true → p.getD True) ∧ K (.gd c r) := by
  unfold emitG at h
  split at h
  · exact h.elim
  · split at h
    · split at h
      · rw [force1_eq] at h; exact ⟨_, _, _, _, rfl, fun _ => trivial, h⟩
      · obtain ⟨h1, h2⟩ := h
        rw [force1_eq] at h2; exact ⟨_, _, _, _, rfl, h1, h2⟩
    · exact h.elim

def ugd (v : AV) : AV := match v with | .gd _ r => r | v => v
def evA (env : Nat → AV) (x : Operand) : AV :=
  match x with
  | .tmp t => env t
  | .const v => ofV v
  | .func f => .fn f []
  | .global _ => .any
def evU (env : Nat → AV) (x : Operand) : AV := ugd (evA env x)
def needs0 (c : Bool) (env : Nat → AV) : List Operand → Prop → Prop
  | [], p => p
  | x :: r, p => match x with
    | .tmp t => match env t with
      | .gd c2 _ => (c = true → c2 = true) ∧ needs0 c env r p
      | _ => needs0 c env r p
    | _ => needs0 c env r p
/-- The same by a recursor: so the kernel meets what it works out itself. -/
def needs (c : Bool) (env : Nat → AV) (l : List Operand) : Prop → Prop :=
  List.rec (motive := fun _ => Prop → Prop) (fun p => p)
    (fun x _ ih p => match x with
      | .tmp t => match env t with
        | .gd c2 _ => (c = true → c2 = true) ∧ ih p
        | _ => ih p
      | _ => ih p) l
theorem needs_eq (c : Bool) (env : Nat → AV) : ∀ l, needs c env l = needs0 c env l
  | [] => rfl
  | x :: r => by
    funext p
    show (match x with
      | .tmp t => match env t with
        | .gd c2 _ => (c = true → c2 = true) ∧ needs c env r p
        | _ => needs c env r p
      | _ => needs c env r p) = _
    rw [needs_eq c env r]
    rfl
def gb (x b : Bool) : Bool := match b with | true => x | false => !x
def gv (v : AV) (b : Bool) : Option Bool :=
  match v with
  | .bool x => some (gb x b)
  | .gd c r => match r with
    | .bool x => some (c && gb x b)
    | _ => none
  | _ => none
/-- Steps that make or write memory. -/
def effB : Op → Bool
  | .alloc _ | .box _ _ | .buildSlice _ _ _ | .store _ _ _ | .makeSlice _ _ _ => true
  | .call c => match c.callee with
    | .builtin .append | .builtin .copy => true
    | _ => false
  | _ => false
def opE (cx : Cx) (con : Nat → List AV → CR) (ops : Array Oper) (o : Oper) (ix : Nat) (env : Nat → AV) (own : Nat → OB) (K : AV → List (Nat × OB) → Option OB → List Nat → Prop) : Prop :=
  match o.guard with
  | none => emit (stp cx con own (evA env) (evA env) o.op ix) fun u wr nw => K u wr nw (footOf own (evA env) o.op)
  | some (g, b) => match (ops[g]?).bind (·.dst) with
    | none => False
    | some d => match gv (env d) b with
      | none => False
      | some c => match effB o.op with
        | false => needs c env (readsOf o.op) (emitG c (stp cx con own (evU env) (evA env) o.op ix) fun u => K u [] none (footOf own (evU env) o.op))
        | true => (c = true → needs c env (readsOf o.op) (emit (stp cx con own (evU env) (evA env) o.op ix) fun u wr nw => K u wr nw (footOf own (evU env) o.op))) ∧ (c = false → K (.tup []) [] none [])

section
variable {P : Program} {w : World} {w0 : St0} {σ : Nat → Option Nat} {Im : Nat → Prop} {own : Nat → OB}
def okT (m : Nat) (ops : Array Oper) (o : Oper) : Bool := (o.looksAt ops).all fun t => Nat.blt t m
theorem looks_op {ops : Array Oper} {o : Oper} {t : Nat} (h : Operand.tmp t ∈ o.op.operands.toList) : t ∈ o.looksAt ops := by
  unfold Oper.looksAt
  exact List.mem_append_left _ (List.mem_filterMap.2 ⟨_, h, rfl⟩)
theorem reads_sub {op : Op} {x : Operand} (h : x ∈ readsOf op) : x ∈ op.operands.toList := by
  unfold readsOf at h
  split at h
  · simp at h; subst h; simp [Op.operands]
  · exact h
theorem evA_rd {env env' : Nat → AV} {a : Act} {m : Nat} {ops : Array Oper} {o : Oper} (hm : a.tmps.size = m) (hok : okT m ops o = true) (hag : ∀ t ∈ o.looksAt ops, env' t = env t) (hf : FR w σ Im env' a) (x : Operand) (hx : x ∈ o.op.operands.toList) : Rd w σ Im (evA env x) (a.eval x) := by
  cases x with
  | tmp t =>
    have ht := looks_op (ops := ops) hx
    have hlt : t < m := by
      have := List.all_eq_true.1 hok t ht
      exact Nat.le_of_ble_eq_true this
    show Rd w σ Im (env t) (a.tmps.getD t undef)
    rw [← hag t ht]
    exact hf t (hm.symm ▸ hlt)
  | const v => exact ofV_rd v
  | global g => exact .any _
  | func f => exact .fn _ _ _ rfl fun i hi => by simp at hi
theorem ofV0_ngd (v : Value) (c : Bool) (r : AV) : ofV0 v ≠ .gd c r := by
  intro e
  unfold ofV0 at e
  split at e
  all_goals first
    | (cases e; done)
    | (revert e; cases Nat.ble _ _ <;> first | (intro e; cases e; done) | (cases Nat.ble _ _ <;> (intro e; cases e)))
theorem ofV_ngd (v : Value) (c : Bool) (r : AV) : ofV v ≠ .gd c r := by
  intro e
  unfold ofV at e
  split at e
  · split at e <;> cases e
  · split at e <;> cases e
  · exact ofV0_ngd _ _ _ e
theorem needs0_sound {c : Bool} {env : Nat → AV} {p : Prop} : ∀ {l : List Operand}, needs0 c env l p → p ∧ (c = true → ∀ x ∈ l, ∀ V, Rd w σ Im (evA env x) V → Rd w σ Im (evU env x) V)
  | [], h => ⟨h, fun _ x hx => by simp at hx⟩
  | x :: r, h => by
    have trivialU : ∀ y : Operand, (∀ c2 r2, evA env y ≠ .gd c2 r2) → ∀ V, Rd w σ Im (evA env y) V → Rd w σ Im (evU env y) V := fun y hy V hV => by
      unfold evU ugd
      split
      · rename_i c2 r2 e; exact absurd e (hy c2 r2)
      · exact hV
    unfold needs0 at h
    split at h
    · rename_i t
      split at h
      · rename_i c2 r2 e
        obtain ⟨h1, h2⟩ := h
        obtain ⟨a1, a2⟩ := needs0_sound h2
        refine ⟨a1, fun hc y hy V hV => ?_⟩
        rcases List.mem_cons.1 hy with rfl | hy
        · have e1 : evA env (.tmp t) = .gd c2 r2 := e
          unfold evU
          rw [e1] at hV ⊢
          exact hV.inv_gd (h1 hc)
        · exact a2 hc y hy V hV
      · rename_i hne
        obtain ⟨a1, a2⟩ := needs0_sound h
        refine ⟨a1, fun hc y hy V hV => ?_⟩
        rcases List.mem_cons.1 hy with rfl | hy
        · exact trivialU (.tmp t) (fun c2 r2 e => hne c2 r2 e) V hV
        · exact a2 hc y hy V hV
    · rename_i hnt
      obtain ⟨a1, a2⟩ := needs0_sound h
      refine ⟨a1, fun hc y hy V hV => ?_⟩
      rcases List.mem_cons.1 hy with rfl | hy
      · refine trivialU _ (fun c2 r2 e => ?_) V hV
        cases y with
        | tmp t => exact hnt t rfl
        | const v => exact ofV_ngd v c2 r2 e
        | global g => cases e
        | func f => cases e
      · exact a2 hc y hy V hV
theorem needs_sound {c : Bool} {env : Nat → AV} {p : Prop} {l : List Operand} (h : needs c env l p) : p ∧ (c = true → ∀ x ∈ l, ∀ V, Rd w σ Im (evA env x) V → Rd w σ Im (evU env x) V) := by
  rw [needs_eq] at h
  exact needs0_sound h
def asB (V : Value) : Option Bool := match V with | .bool x => some x | _ => none
theorem gv_wanted {v : AV} {b c : Bool} {V : Value} (h : gv v b = some c) (hr : Rd w σ Im v V) : (asB V == some b) = c := by
  unfold gv at h
  split at h
  · cases h
    rw [hr.inv_bool]
    rename_i x
    cases x <;> cases b <;> rfl
  · split at h
    · cases h
      rename_i c1 _ x
      cases hc : c1 with
      | true =>
        rw [(hr.inv_gd hc).inv_bool]
        cases x <;> cases b <;> rfl
      | false =>
        rw [hr.inv_gd0 hc]
        rfl
    · cases h
  · cases h
theorem opE_sound {cx : Cx} (hcx : cx.ok P) {con : Nat → List AV → CR} (hcon : ConOk P con) {ops : Array Oper} {m : Nat} {o : Oper} {ix : Nat} {env : Nat → AV} (hok : okT m ops o = true) {K : AV → List (Nat × OB) → Option OB → List Nat → Prop} (h : opE cx con ops o ix env own K) :
    ∃ r, OpOk P w0 ops m o ix env own r ∧ K r.u r.wr r.nw r.foot := by
  unfold opE at h
  split at h
  case h_1 hg =>
    obtain ⟨p, nm, u, rd, wr, nw, e, hp, hk⟩ := emit_sound h
    refine ⟨⟨u, wr, nw, footOf own (evA env) o.op⟩, fun env' own' hE hO w σ Im a hm hS hF hs hx => ?_, hk⟩
    rw [if_pos (by simp [Region.wanted, hg])]
    have := stp_sound (ix := ix) hcx hcon hS hs hx a.eval (fun _ => rfl) (evA env) (evA env) o (fun x hx => evA_rd hm hok hE hF x (reads_sub hx)) (fun x hx => evA_rd hm hok hE hF x hx)
    rw [stp_loc cx con (evA env) (evA env) o.op ix hO, e] at this
    exact this hp
  case h_2 g b hg =>
    split at h
    · exact h.elim
    rename_i d hd
    split at h
    · exact h.elim
    rename_i c hc
    have hdl : d ∈ o.looksAt ops := by
      unfold Oper.looksAt
      rw [hg]
      simp only [hd]
      simp
    have hdm : d < m := by
      have := List.all_eq_true.1 hok d hdl
      exact Nat.le_of_ble_eq_true this
    have hwant : ∀ (env' : Nat → AV) (w : World) (σ : Nat → Option Nat) (Im : Nat → Prop) (a : Act), (∀ t ∈ o.looksAt ops, env' t = env t) → a.tmps.size = m → FR w σ Im env' a → Region.wanted o (yielded ops a.tmps) = c := fun env' w σ Im a hE hm hF => by
      have hr := hF d (hm.symm ▸ hdm)
      rw [hE d hdl] at hr
      have hlt : d < a.tmps.size := hm.symm ▸ hdm
      have e1 : a.tmps.getD d undef = a.tmps[d] := by simp [hlt]
      rw [e1] at hr
      rw [← gv_wanted hc hr]
      unfold Region.wanted yielded
      rw [hg]
      simp only [hd]
      have e2 : a.tmps[d]? = some a.tmps[d] := by simp [hlt]
      simp only [Option.bind_some, e2]
      generalize a.tmps[d] = V
      cases V <;> rfl
    split at h
    · obtain ⟨h1, _⟩ := needs_sound (w := default) (σ := fun _ => none) (Im := fun _ => True) h
      obtain ⟨p, nm, u, rd, e, hp, hk⟩ := emitG_sound h1
      refine ⟨⟨.gd c u, [], none, footOf own (evU env) o.op⟩, fun env' own' hE hO w σ Im a hm hS hF hs hx => ?_, hk⟩
      rw [hwant env' w σ Im a hE hm hF]
      cases hcc : c with
      | false => exact ⟨.gd _ _ _ (fun h => by cases h) fun _ => rfl, rfl, rfl⟩
      | true =>
        rw [if_pos rfl]
        have hn := (needs_sound (w := w) (σ := σ) (Im := Im) h).2 hcc
        have := stp_sound (ix := ix) hcx hcon hS hs hx a.eval (fun _ => rfl) (evU env) (evA env) o (fun x hx => hn x hx _ (evA_rd hm hok hE hF x (reads_sub hx))) (fun x hx => evA_rd hm hok hE hF x hx)
        rw [stp_loc cx con (evU env) (evA env) o.op ix hO, e] at this
        exact (this (hp hcc)).mono fun v w' ⟨σ', Im', g1, g2, g3, g4, g5⟩ => ⟨σ', Im', g1, g2, g3, .gd _ _ _ (fun _ => g4) (fun h => by cases h), g5⟩
    · obtain ⟨h1, h0⟩ := h
      cases hcc : c with
      | false =>
        refine ⟨⟨.tup [], [], none, []⟩, fun env' own' hE hO w σ Im a hm hS hF hs hx => ?_, h0 hcc⟩
        rw [hwant env' w σ Im a hE hm hF, hcc]
        exact ⟨undef_rd, rfl, rfl⟩
      | true =>
        have h1 := h1 hcc
        obtain ⟨h2, _⟩ := needs_sound (w := default) (σ := fun _ => none) (Im := fun _ => True) h1
        obtain ⟨p, nm, u, rd, wr, nw, e, hp, hk⟩ := emit_sound h2
        refine ⟨⟨u, wr, nw, footOf own (evU env) o.op⟩, fun env' own' hE hO w σ Im a hm hS hF hs hx => ?_, hk⟩
        rw [hwant env' w σ Im a hE hm hF, hcc, if_pos rfl]
        have hn := (needs_sound (w := w) (σ := σ) (Im := Im) h1).2 hcc
        have := stp_sound (ix := ix) hcx hcon hS hs hx a.eval (fun _ => rfl) (evU env) (evA env) o (fun x hx => hn x hx _ (evA_rd hm hok hE hF x (reads_sub hx))) (fun x hx => evA_rd hm hok hE hF x hx)
        rw [stp_loc cx con (evU env) (evA env) o.op ix hO, e] at this
        exact this hp
end
end Ev
end Go.Proofs.YtphdjmaebdmdmaaGreatDoor
