/- The abstract machine once more, by recursors: so the kernel meets what it works out itself. -/
import Derived.Test.YtphdjmaebdmdmaaGreatDoorEvWp
namespace Go.Proofs.YtphdjmaebdmdmaaGreatDoor
open Go.RowKit
set_option linter.unusedVariables false
namespace Ev

def runER (cx : Cx) (con : Nat → List AV → CR) (ops : Array Oper) (base : Nat) (l : List Oper) : Nat → (Nat → AV) → (Nat → OB) → List (List Nat × List Nat) → (Nat → (Nat → AV) → (Nat → OB) → List (List Nat × List Nat) → Prop) → Prop :=
  List.rec (motive := fun _ => Nat → (Nat → AV) → (Nat → OB) → List (List Nat × List Nat) → (Nat → (Nat → AV) → (Nat → OB) → List (List Nat × List Nat) → Prop) → Prop)
    (fun i env own fs K => K i env own fs)
    (fun o r ih i env own fs K => opE cx con ops o (base + i) env own fun u wr nw foot =>
      match (keys wr).all fun k => Nat.blt k (base + i) with
      | false => False
      | true => putK env o.dst u fun env => applyOK wr nw (base + i) own fun own => forceN (i + 1) fun i => ih i env own ((keys wr, foot) :: fs) K) l
theorem runER_eq (cx : Cx) (con : Nat → List AV → CR) (ops : Array Oper) (base : Nat) : ∀ l, runER cx con ops base l = runE cx con ops base l
  | [] => rfl
  | o :: r => by
    funext i env own fs K
    show (opE cx con ops o (base + i) env own fun u wr nw foot =>
      match (keys wr).all fun k => Nat.blt k (base + i) with
      | false => False
      | true => putK env o.dst u fun env => applyOK wr nw (base + i) own fun own => forceN (i + 1) fun i => runER cx con ops base r i env own ((keys wr, foot) :: fs) K) = _
    rw [runER_eq cx con ops base r]
    rfl
def regR (cx : Cx) (con : Nat → List AV → CR) (ops : Array Oper) (draw : Bool) (env : Nat → AV) (own : Nat → OB) (nk : Nat) (K : (Nat → AV) → (Nat → OB) → Nat → Prop) : Prop :=
  runER cx con ops nk ops.toList 0 env own [] fun i env own fs => match draw with
    | true => IsT (confB ops nk fs) ∧ forceN (nk + i) fun nk => K env own nk
    | false => forceN (nk + i) fun nk => K env own nk
theorem regR_eq (cx : Cx) (con : Nat → List AV → CR) (ops : Array Oper) (draw : Bool) : regR cx con ops draw = regA cx con ops draw := by
  funext env own nk K
  unfold regR regA
  rw [runER_eq]
  rfl
def unrR (T : AK → (Nat → AV) → (Nat → OB) → Nat → Prop) (K : AK) (n : Nat) : (Nat → AV) → (Nat → OB) → Nat → Prop :=
  Nat.rec (motive := fun _ => (Nat → AV) → (Nat → OB) → Nat → Prop) (fun _ _ _ => False)
    (fun _ ih env own nk => T (fun e env own nk => match e with | .normal => ih env own nk | .exit i => K (.exit i) env own nk | .ret => K .ret env own nk) env own nk) n
theorem unrR_eq (T : AK → (Nat → AV) → (Nat → OB) → Nat → Prop) (K : AK) : ∀ n, unrR T K n = unrA T K n
  | 0 => rfl
  | n + 1 => by
    funext env own nk
    show T (fun e env own nk => match e with | .normal => unrR T K n env own nk | .exit i => K (.exit i) env own nk | .ret => K .ret env own nk) env own nk = _
    rw [unrR_eq T K n]
    rfl
def loopR (lo : Nat) (T : AK → (Nat → AV) → (Nat → OB) → Nat → Prop) (K : AK) (env : Nat → AV) (own : Nat → OB) (nk : Nat) : Prop :=
  (∃ n, unrR T K n env own nk) ∨
  ∃ (ι : Type) (S : ι → LS) (μ : ι → Nat), (∃ i, Wk lo env own (S i)) ∧
    ∀ i, T (fun e env own nk => match e with | .normal => ∃ j, μ j < μ i ∧ Wk lo env own (S j) | .exit id => K (.exit id) env own nk | .ret => K .ret env own nk) (lkS (S i).slots) (lkO (S i).owns) (S i).nk
theorem loopR_eq (lo : Nat) (T : AK → (Nat → AV) → (Nat → OB) → Nat → Prop) : loopR lo T = loopA lo T := by
  funext K env own nk
  unfold loopR loopA
  have e : (fun n => unrR T K n env own nk) = fun n => unrA T K n env own nk := funext fun n => by rw [unrR_eq]
  rw [e]
  rfl
def seqR (cx : Cx) (con : Nat → List AV → CR) (inl : Nat → Bool) (cal : Cal) (ops : Array Oper) (l : List Oper) : (Nat → AV) → (Nat → OB) → Nat → ((Nat → AV) → (Nat → OB) → Nat → Prop) → Prop :=
  List.rec (motive := fun _ => (Nat → AV) → (Nat → OB) → Nat → ((Nat → AV) → (Nat → OB) → Nat → Prop) → Prop)
    (fun env own nk K => K env own nk)
    (fun o r ih env own nk K => match inlF cx.mt inl env o with
    | some (f, args) => forceL1 args fun args => cal f args (fun u own nk => putK env o.dst u fun env => ih env own nk K) own nk
    | none => opE cx con ops o nk env own fun u wr nw foot =>
      match (keys wr).all fun k => Nat.blt k nk with
      | false => False
      | true => putK env o.dst u fun env => applyOK wr nw nk own fun own => forceN (nk + 1) fun nk => ih env own nk K) l
theorem seqR_eq (cx : Cx) (con : Nat → List AV → CR) (inl : Nat → Bool) (cal : Cal) (ops : Array Oper) : ∀ l, seqR cx con inl cal ops l = seqC cx con inl cal ops l
  | [] => rfl
  | o :: r => by
    funext env own nk K
    show (match inlF cx.mt inl env o with
    | some (f, args) => forceL1 args fun args => cal f args (fun u own nk => putK env o.dst u fun env => seqR cx con inl cal ops r env own nk K) own nk
    | none => opE cx con ops o nk env own fun u wr nw foot =>
      match (keys wr).all fun k => Nat.blt k nk with
      | false => False
      | true => putK env o.dst u fun env => applyOK wr nw nk own fun own => forceN (nk + 1) fun nk => seqR cx con inl cal ops r env own nk K) = _
    rw [seqR_eq cx con inl cal ops r]
    rfl
def regSR (cx : Cx) (con : Nat → List AV → CR) (inl : Nat → Bool) (cal : Cal) (ops : Array Oper) (env : Nat → AV) (own : Nat → OB) (nk : Nat) (K : (Nat → AV) → (Nat → OB) → Nat → Prop) : Prop :=
  runER cx con ops nk (ops.toList.take (ops.size - 1)) 0 env own [] fun i env own fs => IsT (confS ops nk (ops.size - 1) fs) ∧ forceN (nk + i) fun nk => seqR cx con inl cal ops (ops.toList.drop (ops.size - 1)) env own nk K
theorem regSR_eq (cx : Cx) (con : Nat → List AV → CR) (inl : Nat → Bool) (cal : Cal) (ops : Array Oper) : regSR cx con inl cal ops = regS cx con inl cal ops := by
  funext env own nk K
  unfold regSR regS
  rw [runER_eq, seqR_eq]
abbrev WT := AK → (Nat → AV) → (Nat → OB) → Nat → Prop
def wpR (lo : Nat) (cx : Cx) (con : Nat → List AV → CR) (inl : Nat → Bool) (cal : Cal) (c : Code) : WT :=
  Code.rec (motive := fun _ => WT)
    (fun K env own nk => K .normal env own nk)
    (fun _ ops draw K env own nk => match draw with
      | true => match sinkB inl ops with
        | true => regSR cx con inl cal ops env own nk (K .normal)
        | false => regR cx con ops true env own nk (K .normal)
      | false => seqR cx con inl cal ops ops.toList env own nk (K .normal))
    (fun _ _ a b K env own nk => a (fun e env own nk => match e with | .normal => b K env own nk | .exit i => K (.exit i) env own nk | .ret => K .ret env own nk) env own nk)
    (fun c _ _ a b K env own nk => match evA env c with
      | .bool x => (x = true → a K env own nk) ∧ (x = false → b K env own nk)
      | _ => False)
    (fun id _ c K env own nk => c (fun e env own nk => match e with | .normal => K .normal env own nk | .exit i => (bif Nat.beq i id then K .normal env own nk else K (.exit i) env own nk) | .ret => K .ret env own nk) env own nk)
    (fun _ c K env own nk => loopR lo (fun K env own nk => c K env own nk) K env own nk)
    (fun _ _ _ _ _ _ _ _ _ _ => False)
    (fun id K env own nk => K (.exit id) env own nk)
    (fun _ c K env own nk => c K env own nk)
    (fun _ K env own nk => K .normal env own nk)
    (fun _ _ _ _ _ => False)
    (fun K env own nk => K .ret env own nk)
    (fun _ _ _ _ _ => False) c
theorem wpR_eq (lo : Nat) (cx : Cx) (con : Nat → List AV → CR) (inl : Nat → Bool) (cal : Cal) (c : Code) : wpR lo cx con inl cal c = wpA lo cx con inl cal c := by
  induction c with
  | skip => rfl
  | region id ops draw =>
    cases draw with
    | true => funext K env own nk; show (match sinkB inl ops with | true => regSR cx con inl cal ops env own nk (K .normal) | false => regR cx con ops true env own nk (K .normal)) = _; rw [regR_eq, regSR_eq]; rfl
    | false => funext K env own nk; show seqR cx con inl cal ops ops.toList env own nk (K .normal) = _; rw [seqR_eq]; rfl
  | seq a b iha ihb =>
    funext K env own nk
    show wpR lo cx con inl cal a (fun e env own nk => match e with | .normal => wpR lo cx con inl cal b K env own nk | .exit i => K (.exit i) env own nk | .ret => K .ret env own nk) env own nk = _
    rw [iha, ihb]
    rfl
  | cond c a b iha ihb =>
    funext K env own nk
    show (match evA env c with
      | .bool x => (x = true → wpR lo cx con inl cal a K env own nk) ∧ (x = false → wpR lo cx con inl cal b K env own nk)
      | _ => False) = _
    rw [iha, ihb]
    rfl
  | block id c ih =>
    funext K env own nk
    show wpR lo cx con inl cal c (fun e env own nk => match e with | .normal => K .normal env own nk | .exit i => (bif Nat.beq i id then K .normal env own nk else K (.exit i) env own nk) | .ret => K .ret env own nk) env own nk = _
    rw [ih]
    rfl
  | loop c ih =>
    funext K env own nk
    show loopR lo (fun K env own nk => wpR lo cx con inl cal c K env own nk) K env own nk = _
    rw [ih, loopR_eq]
    rfl
  | rangeFunc f p a b iha ihb => rfl
  | exit id => rfl
  | scope c ih =>
    funext K env own nk
    show wpR lo cx con inl cal c K env own nk = _
    rw [ih]
    rfl
  | label l => rfl
  | goto l => rfl
  | ret => rfl
  | refuse w => rfl
end Ev
end Go.Proofs.YtphdjmaebdmdmaaGreatDoor
