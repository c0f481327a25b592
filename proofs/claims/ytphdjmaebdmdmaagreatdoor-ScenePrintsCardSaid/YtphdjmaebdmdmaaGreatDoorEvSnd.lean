/- The abstract machine: one step, of whatever kind, runs as it says. -/
import Derived.Test.YtphdjmaebdmdmaaGreatDoorEvOne
namespace Go.Proofs.YtphdjmaebdmdmaaGreatDoor
open Go.RowKit
set_option linter.unusedVariables false
set_option linter.unusedSimpArgs false
namespace Ev

section
variable {P : Program} {w : World} {w0 : St0} {σ : Nat → Option Nat} {Im : Nat → Prop} {own : Nat → OB} {ix : Nat}
theorem call_builtin (V : Operand → Value) (o : Oper) (c : Call) (b : Builtin) (ho : o.op = .call c) (hc : c.callee = .builtin b) :
    (execOp V o).run P w = (builtin b c.argTypes o.type (c.args.map fun | .const _ => true | _ => false) (c.args.map V)).run P w := by
  unfold execOp
  simp only [ho, resolve, hc]
  rfl
theorem builtin_sound {cx : Cx} (hcx : cx.ok P) (hS : Sat w0 w σ Im own) (hs : σ ix = none) (hx : ¬ (own ix).live) (V : Operand → Value) (ρ : Operand → AV) (o : Oper) (c : Call) (b : Builtin) (ho : o.op = .call c) (hc : c.callee = .builtin b)
    (hr : ∀ x ∈ c.args.toList, Rd w σ Im (ρ x) (V x)) :
    (builtinA cx own ix b c.argTypes.toList (c.args.toList.map ρ)).runs fun r wr nw => Runs P ((execOp V o).run P w) fun v w' => Post w0 w σ Im own ix r wr nw v w' := by
  rw [call_builtin V o c b ho hc]
  obtain ⟨callee, args, ats⟩ := c
  obtain ⟨args⟩ := args
  obtain ⟨ats⟩ := ats
  simp only at hr ⊢
  have two : ∀ {x y : AV}, args.map ρ = [x, y] → ∃ a b, args = [a, b] ∧ x = ρ a ∧ y = ρ b := fun {x y} h => by
    match args, h with
    | [a, b], h => simp at h; exact ⟨a, b, rfl, h.1.symm, h.2.symm⟩
  unfold builtinA
  split
  case h_1 =>
    split
    case h_2 => trivial
    rename_i t x e2
    match args, e2 with
    | [a], e2 =>
      simp at e2
      subst e2
      have ea : Array.map V { toList := [a] } = #[V a] := by simp
      rw [ea]
      refine runs_pure hS (sem := Builtin.len_ #[t] o.type #[V a]) rfl ?_
      exact len_sound (hcx.ti t) (hr a (by simp))
  case h_2 =>
    split
    case h_2 => trivial
    rename_i t u x y e2
    obtain ⟨a, b, rfl, rfl, rfl⟩ := two e2
    have ea : Array.map V { toList := [a, b] } = #[V a, V b] := by simp
    rw [ea]
    refine runs_eff (sem := Builtin.append_ #[t, u] o.type #[V a, V b]) rfl ?_
    exact appendA_sound hcx hS hs hx (hr a (by simp)) (hr b (by simp))
  case h_3 =>
    split
    case h_2 => trivial
    rename_i t u x y e2
    obtain ⟨a, b, rfl, rfl, rfl⟩ := two e2
    have ea : Array.map V { toList := [a, b] } = #[V a, V b] := by simp
    rw [ea]
    refine runs_eff (sem := Builtin.copy_ #[t, u] o.type #[V a, V b]) rfl ?_
    exact copy_sound hcx hS (hr a (by simp)) (hr b (by simp))
  case h_4 =>
    split
    case h_2 => trivial
    rename_i x y e2
    obtain ⟨a, b, rfl, rfl, rfl⟩ := two e2
    have ea : Array.map V { toList := [a, b] } = #[V a, V b] := by simp
    rw [ea]
    refine runs_eff (sem := Builtin.max_ ⟨ats⟩ o.type #[V a, V b]) rfl ?_
    exact minmax_sound hS true ⟨ats⟩ o.type (hr a (by simp)) (hr b (by simp))
  case h_5 =>
    split
    case h_2 => trivial
    rename_i x y e2
    obtain ⟨a, b, rfl, rfl, rfl⟩ := two e2
    have ea : Array.map V { toList := [a, b] } = #[V a, V b] := by simp
    rw [ea]
    refine runs_eff (sem := Builtin.min_ ⟨ats⟩ o.type #[V a, V b]) rfl ?_
    exact minmax_sound hS false ⟨ats⟩ o.type (hr a (by simp)) (hr b (by simp))
  case h_6 =>
    split
    case h_2 => trivial
    rename_i x e2
    match args, e2 with
    | [a], e2 =>
      simp at e2
      subst e2
      have ha := hr a (by simp)
      split
      case h_2 => trivial
      rename_i x y e
      rw [e] at ha
      obtain ⟨A, B, hA, h1, h2⟩ := ha.inv_cpx
      have ea : Array.map V { toList := [a] } = #[.complex .f64 A B] := by simp [hA]
      rw [ea]
      refine runs_pure hS (sem := Builtin.real_ ⟨ats⟩ o.type #[.complex .f64 A B]) rfl ?_
      exact ⟨rfl, rfl, fun _ => pure_of (v := .float .f64 A) rfl (.flt _ _ h1)⟩
  case h_7 =>
    split
    case h_2 => trivial
    rename_i x e2
    match args, e2 with
    | [a], e2 =>
      simp at e2
      subst e2
      have ha := hr a (by simp)
      split
      case h_2 => trivial
      rename_i x y e
      rw [e] at ha
      obtain ⟨A, B, hA, h1, h2⟩ := ha.inv_cpx
      have ea : Array.map V { toList := [a] } = #[.complex .f64 A B] := by simp [hA]
      rw [ea]
      refine runs_pure hS (sem := Builtin.imag_ ⟨ats⟩ o.type #[.complex .f64 A B]) rfl ?_
      exact ⟨rfl, rfl, fun _ => pure_of (v := .float .f64 B) rfl (.flt _ _ h2)⟩
  case h_8 =>
    split
    case h_2 => trivial
    rename_i x y e2
    obtain ⟨a, b, rfl, rfl, rfl⟩ := two e2
    have ha := hr a (by simp)
    have hb := hr b (by simp)
    split
    case h_2 => trivial
    rename_i x y e e'
    rw [e] at ha
    rw [e'] at hb
    obtain ⟨A, hA, h1⟩ := ha.inv_flt
    obtain ⟨B, hB, h2⟩ := hb.inv_flt
    have ea : Array.map V { toList := [a, b] } = #[.float .f64 A, .float .f64 B] := by simp [hA, hB]
    rw [ea]
    refine runs_pure hS (sem := Builtin.complex_ ⟨ats⟩ o.type #[.float .f64 A, .float .f64 B]) rfl ?_
    exact ⟨rfl, rfl, fun _ => pure_of (v := .complex .f64 A B) rfl (.cpx _ _ _ _ h1 h2)⟩
  case h_9 => trivial
theorem tdOf_ifc {d : TypeDesc} (h : tdOf d ≠ .ifc) : ∀ m, d ≠ .interface m := fun m e => by subst e; exact h rfl
theorem iface_sound {cx : Cx} (hcx : cx.ok P) {t : Nat} {x : AV} {X : Value} (hx : Rd w σ Im x X) : (ifaceA (cx.ti t) t x).pure fun r => Pure1 P w σ Im (Instr.makeInterface t X) r := by
  unfold ifaceA
  split
  · trivial
  · trivial
  rename_i h1 h2
  obtain ⟨desc, i, z, hu, hd, _⟩ := (hcx.ti t h1).ex
  split
  case h_2 => trivial
  rename_i hi
  refine ⟨rfl, rfl, fun _ => pure_of (v := .iface t X) ?_ (.ifc _ _ _ (Rd.imm hi hx))⟩
  unfold Instr.makeInterface
  rw [Sem.run_bind, run_underlying hu, Result.andThen_ok]
  have := tdOf_ifc (d := desc) (by rw [hd]; exact h2)
  cases desc <;> first | rfl | exact absurd rfl (this _)
theorem zeroV_sound {cx : Cx} (hcx : cx.ok P) {t : Nat} (h : (cx.ti t).d ≠ .other) : ∃ v, (zeroValue t).run P w = .ok v w ∧ Rd w σ Im (zeroV (cx.ti t)) v := by
  obtain ⟨desc, i, z, hu, hd, hi, hs, hby, hz, hzc, hzs, h1, hrow, hone⟩ := (hcx.ti t h).ex
  refine ⟨z, by simp [zeroValue, typeInfo, hi, hz], ?_⟩
  have hr := oneCell_isAgg (hcx.ti t h)
  obtain ⟨desc', i', hu', hi', _, hag⟩ := hr
  rw [hu] at hu'
  cases hu'
  unfold zeroV
  split
  · rename_i e
    rw [e] at hag
    obtain ⟨cs, rfl⟩ := hrow hag
    have := zero_rd (w := w) (σ := σ) (Im := Im) (cx.ti t).zero h1 cs hzc
    exact .agg _ _ this.1 this.2.1 this.2.2
  · rename_i e
    rw [e] at hag
    have h1z := hone hag
    split
    · rename_i z' ez
      have : z.cells = #[z] := by cases z <;> first | rfl | cases h1z
      rw [this, ez] at hzc
      cases hzc
      exact ofV0_rd _
    · exact .any _
theorem assert_sound {cx : Cx} (hcx : cx.ok P) {t xt : Nat} {ok : Bool} {x : AV} {X : Value} (hx : Rd w σ Im x X) : (assertA cx.im (cx.ti t) t ok x).pure fun r => Pure1 P w σ Im (Instr.typeAssert X xt t ok) r := by
  unfold assertA
  split
  · trivial
  · split
    case h_2 => trivial
    rename_i u v
    obtain ⟨V, rfl, hv⟩ := hx.inv_ifc
    split
    case h_2 => trivial
    rename_i hi
    have hb := hcx.im t u hi
    unfold impB at hb
    split at hb
    case h_2 => cases hb
    rename_i want hu
    split at hb
    case h_2 => cases hb
    rename_i i hinf
    have hm : Instr.missingMethod want i.methods = none := by
      cases e : Instr.missingMethod want i.methods
      · rfl
      · rw [e] at hb; cases hb
    have hrun : ∀ ok, (Instr.typeAssert (.iface u V) xt t ok).run P w = .ok (if ok then .tuple #[.iface u V, .bool true] else .iface u V) w := fun ok => by
      unfold Instr.typeAssert
      rw [Sem.run_bind, run_underlying hu, Result.andThen_ok]
      have hti : (typeInfo u).run P w = .ok i w := by simp [typeInfo, hinf]
      simp only [Sem.run_bind, hti, Result.andThen_ok, hm, Sem.run_pure]
    split
    · refine ⟨rfl, rfl, fun _ => pure_of (v := .tuple #[.iface u V, .bool true]) (hrun true) (.tup _ _ rfl fun j hj => ?_)⟩
      match j, hj with
      | 0, _ => exact hx
      | 1, _ => exact .bool _
    · exact ⟨rfl, rfl, fun _ => pure_of (v := .iface u V) (hrun false) hx⟩
  rename_i h1 h2
  obtain ⟨desc, i, z, hu, hd, _⟩ := (hcx.ti t h1).ex
  have hni := tdOf_ifc (d := desc) (by rw [hd]; exact h2)
  obtain ⟨z0, hz0, hzr⟩ := zeroV_sound (w := w) (σ := σ) (Im := Im) hcx h1
  have run : ∀ (V : Value) (s : Sem Value), (∀ m, desc ≠ .interface m → True) → ((match desc, V with
    | .interface _, .nilIface => s
    | _, _ => s) = s) := fun V s _ => by split <;> rfl
  split
  case h_1 u v =>
    obtain ⟨V, rfl, hv⟩ := hx.inv_ifc
    have hrun : Instr.typeAssert (.iface u V) xt t ok = Instr.typeAssert (.iface u V) xt t ok := rfl
    split
    case h_1 e =>
      have e := Nat.eq_of_beq_eq_true e
      subst e
      split
      · refine ⟨rfl, rfl, fun _ => pure_of (v := .tuple #[V, .bool true]) ?_ (.tup _ _ rfl fun i hi => ?_)⟩
        · unfold Instr.typeAssert
          rw [Sem.run_bind, run_underlying hu, Result.andThen_ok]
          cases desc <;> first | exact absurd rfl (hni _) | simp
        · match i, hi with
          | 0, _ => exact hv.up
          | 1, _ => exact .bool _
      · refine ⟨rfl, rfl, fun _ => pure_of (v := V) ?_ hv.up⟩
        unfold Instr.typeAssert
        rw [Sem.run_bind, run_underlying hu, Result.andThen_ok]
        cases desc <;> first | exact absurd rfl (hni _) | simp
    case h_2 e =>
      have e : ¬ u = t := fun h => by subst h; rw [show Nat.beq u u = true from Nat.beq_refl u] at e; cases e
      split
      · refine ⟨rfl, rfl, fun _ => pure_of (v := .tuple #[z0, .bool false]) ?_ (.tup _ _ rfl fun i hi => ?_)⟩
        · unfold Instr.typeAssert
          rw [Sem.run_bind, run_underlying hu, Result.andThen_ok]
          cases desc <;> first | exact absurd rfl (hni _) | simp [e, hz0]
        · match i, hi with
          | 0, _ => exact hzr
          | 1, _ => exact .bool _
      · trivial
  case h_2 =>
    have := hx.inv_nili
    subst this
    split
    · refine ⟨rfl, rfl, fun _ => pure_of (v := .tuple #[z0, .bool false]) ?_ (.tup _ _ rfl fun i hi => ?_)⟩
      · unfold Instr.typeAssert
        rw [Sem.run_bind, run_underlying hu, Result.andThen_ok]
        cases desc <;> first | exact absurd rfl (hni _) | simp [hz0]
      · match i, hi with
        | 0, _ => exact hzr
        | 1, _ => exact .bool _
    · trivial
  case h_3 => trivial
theorem two_append {α β : Type} {R : α → β → Prop} {l : List α} {m : List β} (h : Two R l m) {l' : List α} {m' : List β} (h' : Two R l' m') : Two R (l ++ l') (m ++ m') := by
  induction h with
  | nil => exact h'
  | cons a t ih => exact .cons a ih
theorem two_array {l : List AV} {cs : Array Value} (h : cs.size = l.length) (hr : ∀ i, i < l.length → Rd w σ Im (l.getD i .any) (cs.getD i undef)) : Two (Rd w σ Im) l cs.toList := by
  obtain ⟨cs⟩ := cs
  simp only [List.size_toArray] at h
  induction l generalizing cs with
  | nil => cases cs <;> first | exact .nil | cases h
  | cons a l ih =>
    cases cs with
    | nil => cases h
    | cons c cs =>
      refine .cons (by simpa using hr 0 (by simp)) (ih cs (fun i hi => ?_) (by simpa using h))
      have := hr (i + 1) (by simp; omega)
      simpa using this
theorem exec_invoke {V : Operand → Value} {o : Oper} {c : Call} (hop : o.op = .call c) {r : Operand} {m : String} (hc : c.callee = .invoke r m) {t f : Nat} {X : Value} (hV : V r = .iface t X) (hm : methB P t m f = true) :
    (execOp V o).run P w = (callFunc f (X :: c.args.toList.map V).toArray).run P w := by
  have ea : (X :: c.args.toList.map V).toArray = #[X] ++ c.args.map V := by
    apply Array.ext'; simp
  rw [ea]
  unfold execOp
  simp only [hop, resolve, hc, hV]
  have e1 : (#[Value.iface t X] ++ Array.map V c.args).extract 1 (#[Value.iface t X] ++ Array.map V c.args).size = Array.map V c.args := by
    apply Array.ext'; simp [List.take_of_length_le]
  have e0 : (#[Value.iface t X] ++ Array.map V c.args)[0]? = some (.iface t X) := by rw [Array.getElem?_append_left (by simp)]; rfl
  simp only [Sem.run_bind, Sem.run_pure, Result.andThen_ok, invoke, e0, e1, callMethod, run_program]
  have := meth_run (w := w) hm (P.types.size + 99) X
  rw [show P.types.size + Made.depth = P.types.size + 99 + 1 from rfl, this]
  rfl
theorem stp_sound {cx : Cx} (hcx : cx.ok P) {con : Nat → List AV → CR} (hcon : ConOk P con) (hS : Sat w0 w σ Im own) (hs : σ ix = none) (hx : ¬ (own ix).live) (V : Operand → Value) (hV : ∀ v, V (.const v) = v) (ρ ρr : Operand → AV) (o : Oper)
    (hr : ∀ x ∈ readsOf o.op, Rd w σ Im (ρ x) (V x)) (hrr : ∀ x ∈ o.op.operands.toList, Rd w σ Im (ρr x) (V x)) :
    (stp cx con own ρ ρr o.op ix).runs fun r wr nw => Runs P ((execOp V o).run P w) fun v w' => Post w0 w σ Im own ix r wr nw v w' := by
  have mv : ∀ x, (∀ y, (execOp V o).run P w = .ok (.value (V x)) w) → Rd w σ Im (ρ x) (V x) → (sv (ρ x)).runs fun r wr nw => Runs P ((execOp V o).run P w) fun v w' => Post w0 w σ Im own ix r wr nw v w' := fun x h hx => by
    intro _
    rw [h 0]
    exact post_pure (n := 0) hS hx
  generalize hop : o.op = op at hr hrr
  unfold stp
  split
  case h_1 x => exact mv x (fun _ => by unfold execOp; simp only [hop]; rfl) (hr x (by simp [readsOf, Op.operands]))
  case h_2 x => exact mv x (fun _ => by unfold execOp; simp only [hop]; rfl) (hr x (by simp [readsOf, Op.operands]))
  case h_3 c a b =>
    have := pick_sound (P := P) (ix := ix) hS (hr c (by simp [readsOf])) (hrr a (by simp [Op.operands])) (hrr b (by simp [Op.operands])) hV
    have e : execOp V o = (do pure (.value (if ← asBool (V c) then V a else V b)) : Sem Next) := by unfold execOp; simp only [hop]
    rw [e]; exact this
  case h_4 t =>
    refine runs_eff (sem := Instr.alloc t true (.tuple #[])) (by unfold execOp; simp only [hop]) ?_
    exact alloc_sound hS hs hx (hcx.ti t)
  case h_5 t x =>
    refine runs_eff (sem := Instr.box t (V x)) (by unfold execOp; simp only [hop]) ?_
    exact box_sound hS hs hx (hr x (by simp [readsOf, Op.operands]))
  case h_6 t parts =>
    refine runs_pure hS (sem := Instr.build t (parts.map fun (i, x) => (i, V x))) (by unfold execOp; simp only [hop]) ?_
    refine build_sound hcx ?_
    have : (parts.map fun (i, x) => (i, V x)).toList = parts.toList.map fun p => (p.1, V p.2) := by simp
    rw [this]
    refine two_map _ _ fun p hp => ⟨rfl, hr p.2 ?_⟩
    simp only [readsOf, Op.operands]
    simp
    exact ⟨p.1, by simpa using hp⟩
  case h_7 t len parts =>
    refine runs_eff (sem := Instr.buildSlice t len (parts.map fun (i, x) => (i, V x))) (by unfold execOp; simp only [hop]) ?_
    refine buildSlice_sound hcx hS hs hx ?_
    have : (parts.map fun (i, x) => (i, V x)).toList = parts.toList.map fun p => (p.1, V p.2) := by simp
    rw [this]
    refine two_map _ _ fun p hp => ⟨rfl, hr p.2 ?_⟩
    simp only [readsOf, Op.operands]
    simp
    exact ⟨p.1, by simpa using hp⟩
  case h_8 t a =>
    refine runs_pure hS (sem := Instr.loadAt t (V a)) (by unfold execOp; simp only [hop]) ?_
    have := load_sound (P := P) (hcx.ti t) hS (hr a (by simp [readsOf, Op.operands]))
    exact this
  case h_9 t a v =>
    have := store_sound (P := P) (ix := ix) hS (hcx.ti t) (hr a (by simp [readsOf, Op.operands])) (hr v (by simp [readsOf, Op.operands]))
    revert this
    cases storeA (cx.ti t) own (ρ a) (ρ v) with
    | no => exact fun _ => trivial
    | ok p nm r rd wr nw =>
      intro h hp
      obtain ⟨w', h1, h2⟩ := h hp
      have e : (execOp V o).run P w = .ok .skip w' := by
        unfold execOp; simp only [hop, Sem.run_bind, h1, Result.andThen_ok, Sem.run_pure]
      rw [e]; exact h2
  case h_10 x =>
    have := nil_sound (P := P) (hr x (by simp [readsOf, Op.operands])) o x V hop rfl
    revert this
    cases nilA (ρ x) with
    | no => exact fun _ => trivial
    | ok p nm r rd wr nw =>
      rintro ⟨rfl, rfl, h⟩ hp
      obtain ⟨v, h1, h2⟩ := h hp
      rw [h1]
      exact post_pure (n := 0) hS h2
  case h_11 op t x y u =>
    split
    · trivial
    · refine runs_pure hS (sem := do eqGuard op t x y (V x) (V y); binOp op t (V x) (V y)) (by unfold execOp; simp only [hop]) ?_
      exact eqS_sound (hcx.eq t) op _ _ _ _ x y (hr x (by simp [readsOf, Op.operands])) (hr y (by simp [readsOf, Op.operands]))
    · refine runs_pure hS (sem := do eqGuard op t x y (V x) (V y); binOp op t (V x) (V y)) (by unfold execOp; simp only [hop]) ?_
      exact eqS_sound (hcx.eq t) op _ _ _ _ x y (hr x (by simp [readsOf, Op.operands])) (hr y (by simp [readsOf, Op.operands]))
    rename_i hne _ _
    refine runs_pure hS (sem := do eqGuard op t x y (V x) (V y); binOp op t (V x) (V y)) (by unfold execOp; simp only [hop]) ?_
    exact bin_sound op t (cx.ti t) (hcx.ti t hne) _ _ _ _ x y (hr x (by simp [readsOf, Op.operands])) (hr y (by simp [readsOf, Op.operands]))
  case h_12 op t x =>
    refine runs_pure hS (sem := Op.unary op (V x)) (by unfold execOp; simp only [hop]) ?_
    exact un_sound op _ _ (hr x (by simp [readsOf, Op.operands]))
  case h_13 t x =>
    refine runs_pure hS (sem := Instr.arrayAt t (V x)) (by unfold execOp; simp only [hop]) ?_
    exact arrPtr_sound hcx (hr x (by simp [readsOf, Op.operands]))
  case h_14 s d x =>
    refine runs_eff (sem := convert s d (V x)) (by unfold execOp; simp only [hop]) ?_
    exact convert_sound hcx hS hs hx (hr x (by simp [readsOf, Op.operands]))
  case h_15 t l c =>
    refine runs_eff (sem := Instr.makeSlice t (V l) (V c)) (by unfold execOp; simp only [hop]) ?_
    exact make_sound hcx hS hs hx (hr l (by simp [readsOf, Op.operands])) (hr c (by simp [readsOf, Op.operands]))
  case h_16 t x lo hi mx =>
    refine runs_pure hS (sem := Instr.sliceAt t (V x) (lo.map V) (hi.map V) (mx.map V)) (by unfold execOp; simp only [hop]) ?_
    exact sliceN_pure (slice_sound hcx hS (hr x (by simp [readsOf, Op.operands])) (optRd_map fun y hy => hr y (by subst hy; simp [readsOf, Op.operands])) (optRd_map fun y hy => hr y (by subst hy; simp [readsOf, Op.operands])) (optRd_map fun y hy => hr y (by subst hy; simp [readsOf, Op.operands])))
  case h_17 t x f =>
    refine runs_pure hS (sem := Instr.fieldAt t (V x) f) (by unfold execOp; simp only [hop]) ?_
    exact fieldAddr_sound hcx f (hr x (by simp [readsOf, Op.operands]))
  case h_18 t x f =>
    refine runs_pure hS (sem := Instr.field t (V x) f) (by unfold execOp; simp only [hop]) ?_
    exact fieldv_sound hcx f (hr x (by simp [readsOf, Op.operands]))
  case h_19 t x i =>
    refine runs_pure hS (sem := Instr.indexAt t (V x) (V i)) (by unfold execOp; simp only [hop]) ?_
    exact idx_sound hcx (hr x (by simp [readsOf, Op.operands])) (hr i (by simp [readsOf, Op.operands]))
  case h_20 t x i =>
    refine runs_pure hS (sem := Instr.index t (V x) (V i)) (by unfold execOp; simp only [hop]) ?_
    exact index_sound hcx (hr x (by simp [readsOf, Op.operands])) (hr i (by simp [readsOf, Op.operands]))
  case h_21 x i =>
    refine runs_pure hS (sem := Instr.extract (V x) i) (by unfold execOp; simp only [hop]) ?_
    exact extract_sound i (hr x (by simp [readsOf, Op.operands]))
  case h_22 t x =>
    refine runs_pure hS (sem := Instr.makeInterface t (V x)) (by unfold execOp; simp only [hop]) ?_
    exact iface_sound hcx (hr x (by simp [readsOf, Op.operands]))
  case h_23 x xt t ok =>
    refine runs_pure hS (sem := Instr.typeAssert (V x) xt t ok) (by unfold execOp; simp only [hop]) ?_
    exact assert_sound hcx (hr x (by simp [readsOf, Op.operands]))
  case h_24 fn first caps =>
    split
    case h_2 => trivial
    rename_i f
    split
    case h_2 => trivial
    rename_i hf
    intro _
    have hfirst : first = #[] := by cases first; simp at hf; subst hf; rfl
    subst hfirst
    have e : (execOp V o).run P w = .ok (.value (.func (.func f) #[] (caps.map V))) w := by
      unfold execOp; simp [hop, Instr.makeFunc]
    rw [e]
    refine post_pure (n := 0) hS (.fn _ _ _ (by simp) fun i hi => ?_)
    simp only [List.length_map, Array.length_toList] at hi
    have h1 : (caps.toList.map ρ).getD i .any = ρ caps[i] := by simp [List.getD, hi]
    have h2 : (caps.map V).getD i undef = V caps[i] := by simp [hi]
    rw [h1, h2]
    exact hr _ (by simp [readsOf, Op.operands])
  case h_25 c =>
    split
    case h_1 b hc =>
      exact builtin_sound hcx hS hs hx V ρ o c b hop hc fun x hx => hr x (by simp [readsOf, Op.operands, Call.operands, hc]; simpa using hx)
    case h_2 f hc =>
      split
      case h_2 => trivial
      rename_i fid caps hf
      have hfr := hr f (by simp [readsOf, Op.operands, Call.operands, hc])
      rw [hf] at hfr
      obtain ⟨cs, hVf, h1, h2⟩ := hfr.inv_fn
      have hargs : Two (Rd w σ Im) (c.args.toList.map ρ ++ caps) (c.args.toList.map V ++ cs.toList) :=
        two_append (two_map _ _ fun x hx => hr x (by simp [readsOf, Op.operands, Call.operands, hc]; exact .inr (by simpa using hx))) (two_array h1 h2)
      have := call_sound (ix := ix) hcon hS hs (f := fid) hargs
      revert this
      cases callA con own ix fid (c.args.toList.map ρ ++ caps) with
      | no => exact fun _ => trivial
      | ok p nm r rd wr nw =>
        intro h hp
        have h2 := h hp
        have e : (execOp V o).run P w = (callFunc fid (c.args.toList.map V ++ cs.toList).toArray).run P w := by
          have ea : (c.args.toList.map V ++ cs.toList).toArray = c.args.map V ++ cs := by
            apply Array.ext'; simp
          rw [ea]
          unfold execOp
          simp only [hop, resolve, hc, hVf, Deferred.ofValue]
          simp [invoke]
        rw [e]
        exact h2
    case h_3 r m hc =>
      split
      case h_2 => trivial
      rename_i t v hv
      have hrr := hr r (by simp [readsOf, Op.operands, Call.operands, hc])
      rw [hv] at hrr
      obtain ⟨X, hX, hx0⟩ := hrr.inv_ifc
      split
      case h_2 => trivial
      rename_i f hf
      have hargs : Two (Rd w σ Im) (v :: c.args.toList.map ρ) (X :: c.args.toList.map V) :=
        .cons hx0.up (two_map _ _ fun x hx => hr x (by simp [readsOf, Op.operands, Call.operands, hc]; exact .inr (by simpa using hx)))
      have := call_sound (ix := ix) hcon hS hs (f := f) hargs
      revert this
      cases callA con own ix f (v :: c.args.toList.map ρ) with
      | no => exact fun _ => trivial
      | ok p nm r rd wr nw =>
        intro h hp
        have h2 := h hp
        rw [exec_invoke hop hc hX (hcx.mt _ _ _ hf)]
        exact h2
  case h_26 => trivial
end
end Ev
end Go.Proofs.YtphdjmaebdmdmaaGreatDoor
