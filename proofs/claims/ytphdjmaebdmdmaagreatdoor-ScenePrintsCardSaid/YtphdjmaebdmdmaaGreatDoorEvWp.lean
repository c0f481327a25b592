/- The abstract machine: code. -/
import Derived.Test.YtphdjmaebdmdmaaGreatDoorEvCode
namespace Go.Proofs.YtphdjmaebdmdmaaGreatDoor
open Go.RowKit
set_option linter.unusedVariables false
set_option linter.unusedSimpArgs false
namespace Ev

inductive AE where
  | normal
  | exit (id : Nat)
  | ret
abbrev AK := AE → (Nat → AV) → (Nat → OB) → Nat → Prop

/-- What a loop keeps: slots, blocks of the call's own. -/
structure LS where
  slots : List (Nat × AV)
  owns : List (Nat × OB)
  nk : Nat
def lkS : List (Nat × AV) → Nat → AV
  | [], _ => .any
  | (k, v) :: r, t => bif Nat.beq t k then v else lkS r t
def lkO : List (Nat × OB) → Nat → OB
  | [], _ => .gone
  | (k, v) :: r, t => bif Nat.beq t k then v else lkO r t
def lk : List (Nat × OB) → List (Option Nat) → Nat → Option Nat
  | (k, _) :: r, x :: xs, t => bif Nat.beq t k then x else lk r xs t
  | _, _, _ => none
def lkR (lo : Nat) (owns : List (Nat × OB)) (ren : List (Option Nat)) (k : Nat) : Option Nat := bif Nat.blt k lo then some k else lk owns ren k
def agr0 (f : Nat → Option Nat) (v u : AV) : Prop :=
  match v with
  | .any => True
  | .int k n => match u with | .int k' n' => k = k' ∧ n = n' | _ => False
  | .bool b => match u with | .bool b' => b = b' | _ => False
  | .flt x => match u with | .flt x' => x = x' | _ => False
  | .cpx x y => match u with | .cpx x' y' => x = x' ∧ y = y' | _ => False
  | .str s => match u with | .str s' => s = s' | _ => False
  | .own k off => match u with | .own k' off' => f k = some k' ∧ off = off' | _ => False
  | .os k sz off n => match u with | .os k' sz' off' n' => f k = some k' ∧ sz = sz' ∧ off = off' ∧ n = n' | .nils => n = 0 | _ => False
  | .sl n sz g => match u with | .sl n' sz' g' => n = n' ∧ sz = sz' ∧ ∀ j, j < n * sz → g j = g' j | .nils => n = 0 | .os _ _ _ n' => n = 0 ∧ n' = 0 | _ => False
  | .ref n g => match u with | .ref n' g' => n ≤ n' ∧ ∀ j, j < n → g j = g' j | _ => False
  | .nilp => match u with | .nilp => True | _ => False
  | .nils => match u with | .nils => True | _ => False
  | .nilf => match u with | .nilf => True | _ => False
  | .nili => match u with | .nili => True | _ => False
  | .ifc t a => match u with | .ifc t' a' => t = t' ∧ a = a' | _ => False
  | _ => False
def agrL (f : Nat → Option Nat) : List AV → List AV → Prop
  | [], [] => True
  | v :: r, u :: s => agr0 f v u ∧ agrL f r s
  | _, _ => False
def agr1 (f : Nat → Option Nat) (v u : AV) : Prop :=
  match v with
  | .agg l => match u with | .agg l' => agrL f l l' | _ => False
  | .fn g l => match u with | .fn g' l' => g = g' ∧ agrL f l l' | _ => False
  | v => agr0 f v u
def agrL1 (f : Nat → Option Nat) : List AV → List AV → Prop
  | [], [] => True
  | v :: r, u :: s => agr1 f v u ∧ agrL1 f r s
  | _, _ => False
def agr (f : Nat → Option Nat) (v u : AV) : Prop :=
  match v with
  | .tup l => match u with | .tup l' => agrL1 f l l' | _ => False
  | v => agr1 f v u
def agrB (f : Nat → Option Nat) (b o : OB) : Prop :=
  match b with
  | .row l => match o with | .row l' => agrL f l l' | _ => False
  | .nums k N P => match o with
    | .nums k' N' P' => k = k' ∧ N ≤ N' ∧ ∀ j, j < N → P j = P' j
    | .row l => N ≤ l.length ∧ ∀ j, j < N → l.getD j .any = .int k (P j)
    | _ => False
  | .arr N g => match o with
    | .arr N' g' => N ≤ N' ∧ ∀ j, j < N → g j = g' j
    | .row l => (N ≤ l.length ∧ l.all imm0 = true) ∧ ∀ j, j < N → g j = l.getD j .any
    | _ => False
  | .gone => True
  | .bts N P => match o with
    | .bts N' P' => N ≤ N' ∧ ∀ j, j < N → P j = P' j
    | _ => False
def agrS (f : Nat → Option Nat) (env : Nat → AV) : List (Nat × AV) → Prop
  | [] => True
  | (t, v) :: r => agr f v (env t) ∧ agrS f env r
def agrO (f : Nat → Option Nat) (own : Nat → OB) : List (Nat × OB) → Prop
  | [] => True
  | (k, b) :: r => (match f k with | some k' => agrB f b (own k') | none => b.N = 0) ∧ agrO f own r
/-- Like agrB, but rows of cells may be told more weakly. -/
def agrBW (f : Nat → Option Nat) (b o : OB) : Prop :=
  match b with
  | .arr N g => match o with
    | .arr N' g' => N ≤ N' ∧ ∀ j, j < N → g j = g' j ∨ agr0 (fun _ => none) (g j) (g' j)
    | o => agrB f (.arr N g) o
  | b => agrB f b o
def agrOW (f : Nat → Option Nat) (own : Nat → OB) : List (Nat × OB) → Prop
  | [] => True
  | (k, b) :: r => (match f k with | some k' => agrBW f b (own k') | none => b.N = 0) ∧ agrOW f own r
theorem agrB_w {f : Nat → Option Nat} {b o : OB} (h : agrB f b o) : agrBW f b o := by
  unfold agrBW
  split
  · split
    · unfold agrB at h
      exact ⟨h.1, fun j hj => .inl (h.2 j hj)⟩
    · exact h
  · exact h
theorem agrO_w {f : Nat → Option Nat} {own : Nat → OB} : ∀ {l : List (Nat × OB)}, agrO f own l → agrOW f own l
  | [], _ => True.intro
  | (k, b) :: r, ⟨h1, h2⟩ => by
    refine ⟨?_, agrO_w h2⟩
    cases e : f k with
    | none => simp only [e] at h1; exact h1
    | some k' => simp only [e] at h1; exact agrB_w h1
def somesB : List (Option Nat) → List Nat → Bool
  | [], _ => true
  | none :: r, l => somesB r l
  | some k :: r, l => !memB l k && somesB r (k :: l)
def geB (lo : Nat) : List (Option Nat) → Bool
  | [] => true
  | none :: r => geB lo r
  | some k :: r => Nat.ble lo k && geB lo r
def keysLt : List (Nat × OB) → Nat → Bool
  | [], _ => true
  | (k, _) :: r, n => Nat.blt k n && keysLt r n
/-- What is known is at least what the loop keeps. -/
def Wk (lo : Nat) (env : Nat → AV) (own : Nat → OB) (S : LS) : Prop :=
  ∃ ren : List (Option Nat), agrS (lkR lo S.owns ren) env S.slots ∧ agrOW (lkR lo S.owns ren) own S.owns ∧ somesB ren [] = true ∧ keysLt S.owns S.nk = true ∧ geB lo ren = true ∧ Nat.ble lo S.nk = true
def unrA (T : AK → (Nat → AV) → (Nat → OB) → Nat → Prop) (K : AK) : Nat → (Nat → AV) → (Nat → OB) → Nat → Prop
  | 0, _, _, _ => False
  | n + 1, env, own, nk => T (fun e env own nk => match e with | .normal => unrA T K n env own nk | .exit i => K (.exit i) env own nk | .ret => K .ret env own nk) env own nk
def loopA (lo : Nat) (T : AK → (Nat → AV) → (Nat → OB) → Nat → Prop) (K : AK) (env : Nat → AV) (own : Nat → OB) (nk : Nat) : Prop :=
  (∃ n, unrA T K n env own nk) ∨
  ∃ (ι : Type) (S : ι → LS) (μ : ι → Nat), (∃ i, Wk lo env own (S i)) ∧
    ∀ i, T (fun e env own nk => match e with | .normal => ∃ j, μ j < μ i ∧ Wk lo env own (S j) | .exit id => K (.exit id) env own nk | .ret => K .ret env own nk) (lkS (S i).slots) (lkO (S i).owns) (S i).nk
/-- A call that is stepped into. -/
abbrev Cal := Nat → List AV → (AV → (Nat → OB) → Nat → Prop) → (Nat → OB) → Nat → Prop
def inlF (mt : Nat → String → Option Nat) (inl : Nat → Bool) (env : Nat → AV) (o : Oper) : Option (Nat × List AV) :=
  match o.guard with
  | some _ => none
  | none => match o.op with
    | .call c => match c.callee with
      | .value f => match evA env f with
        | .fn f caps => match inl f with
          | true => some (f, c.args.toList.map (evA env) ++ caps)
          | false => none
        | _ => none
      | .invoke r m => match evA env r with
        | .ifc t v => match mt t m with
          | some f => match inl f with
            | true => some (f, v :: c.args.toList.map (evA env))
            | false => none
          | none => none
        | _ => none
      | _ => none
    | _ => none
/-- A statement in order: calls may be stepped into. -/
def seqC (cx : Cx) (con : Nat → List AV → CR) (inl : Nat → Bool) (cal : Cal) (ops : Array Oper) : List Oper → (Nat → AV) → (Nat → OB) → Nat → ((Nat → AV) → (Nat → OB) → Nat → Prop) → Prop
  | [], env, own, nk, K => K env own nk
  | o :: r, env, own, nk, K => match inlF cx.mt inl env o with
    | some (f, args) => forceL1 args fun args => cal f args (fun u own nk => putK env o.dst u fun env => seqC cx con inl cal ops r env own nk K) own nk
    | none => opE cx con ops o nk env own fun u wr nw foot =>
      match (keys wr).all fun k => Nat.blt k nk with
      | false => False
      | true => putK env o.dst u fun env => applyOK wr nw nk own fun own => forceN (nk + 1) fun nk => seqC cx con inl cal ops r env own nk K
/-- A statement in any order, whose last operation, a call that is stepped into, waits for all others. -/
def sinkB (inl : Nat → Bool) (ops : Array Oper) : Bool :=
  match ops[ops.size - 1]? with
  | some o => match o.guard with
    | some _ => false
    | none => match o.op with
      | .call c => match c.callee with
        | .value f => match f with
          | .func g => inl g && ((List.range (ops.size - 1)).all fun i => befB ops ops.size i (ops.size - 1))
          | _ => false
        | _ => false
      | _ => false
  | none => false
def regS (cx : Cx) (con : Nat → List AV → CR) (inl : Nat → Bool) (cal : Cal) (ops : Array Oper) (env : Nat → AV) (own : Nat → OB) (nk : Nat) (K : (Nat → AV) → (Nat → OB) → Nat → Prop) : Prop :=
  runE cx con ops nk (ops.toList.take (ops.size - 1)) 0 env own [] fun i env own fs => IsT (confS ops nk (ops.size - 1) fs) ∧ forceN (nk + i) fun nk => seqC cx con inl cal ops (ops.toList.drop (ops.size - 1)) env own nk K
def wpA (lo : Nat) (cx : Cx) (con : Nat → List AV → CR) (inl : Nat → Bool) (cal : Cal) : Code → AK → (Nat → AV) → (Nat → OB) → Nat → Prop
  | .skip, K, env, own, nk => K .normal env own nk
  | .seq a b, K, env, own, nk => wpA lo cx con inl cal a (fun e env own nk => match e with | .normal => wpA lo cx con inl cal b K env own nk | .exit i => K (.exit i) env own nk | .ret => K .ret env own nk) env own nk
  | .cond c a b, K, env, own, nk => match evA env c with
    | .bool x => (x = true → wpA lo cx con inl cal a K env own nk) ∧ (x = false → wpA lo cx con inl cal b K env own nk)
    | _ => False
  | .block id c, K, env, own, nk => wpA lo cx con inl cal c (fun e env own nk => match e with | .normal => K .normal env own nk | .exit i => (bif Nat.beq i id then K .normal env own nk else K (.exit i) env own nk) | .ret => K .ret env own nk) env own nk
  | .loop c, K, env, own, nk => loopA lo (fun K env own nk => wpA lo cx con inl cal c K env own nk) K env own nk
  | .scope c, K, env, own, nk => wpA lo cx con inl cal c K env own nk
  | .exit id, K, env, own, nk => K (.exit id) env own nk
  | .label _, K, env, own, nk => K .normal env own nk
  | .ret, K, env, own, nk => K .ret env own nk
  | .region _ ops draw, K, env, own, nk => match draw with
    | true => match sinkB inl ops with
      | true => regS cx con inl cal ops env own nk (K .normal)
      | false => regA cx con ops true env own nk (K .normal)
    | false => seqC cx con inl cal ops ops.toList env own nk (K .normal)
  | _, _, _, _, _ => False
def okX (m : Nat) (x : Operand) : Bool := match x with | .tmp t => Nat.blt t m | _ => true
def okC (m : Nat) : Code → Bool
  | .seq a b => okC m a && okC m b
  | .cond c a b => okX m c && (okC m a && okC m b)
  | .block _ c => okC m c
  | .loop c => okC m c
  | .scope c => okC m c
  | .region _ ops _ => ops.toList.all fun o => okT m ops o
  | _ => true

structure GoL (lo : Nat) (w : World) (σ : Nat → Option Nat) (Im : Nat → Prop) (w' : World) (σ' : Nat → Option Nat) (Im' : Nat → Prop) : Prop where
  im : ∀ b, Im b → Im' b
  blk : ∀ b, Im b → w'.heap[b]? = w.heap[b]?
  sg : ∀ k b, k < lo → σ k = some b → σ' k = some b
  len : ∀ k b, k < lo → σ k = some b → blen w' b = blen w b

section
variable {P : Program} {w0 : St0} {ds : List Deferred}
theorem Go1.low {w σ Im w' σ' Im'} (h : Go1 w σ Im w' σ' Im') (lo : Nat) : GoL lo w σ Im w' σ' Im' := ⟨h.im, h.blk, fun k b _ => h.sg k b, fun k b _ => h.len k b⟩
theorem GoL.refl (lo w σ Im) : GoL lo w σ Im w σ Im := ⟨fun _ h => h, fun _ _ => rfl, fun _ _ _ h => h, fun _ _ _ _ => rfl⟩
theorem GoL.trans {lo w σ Im w1 σ1 Im1 w2 σ2 Im2} (h : GoL lo w σ Im w1 σ1 Im1) (k : GoL lo w1 σ1 Im1 w2 σ2 Im2) : GoL lo w σ Im w2 σ2 Im2 :=
  ⟨fun b hb => k.im b (h.im b hb), fun b hb => (k.blk b (h.im b hb)).trans (h.blk b hb), fun i b hi hb => k.sg i b hi (h.sg i b hi hb), fun i b hi hb => (k.len i b hi (h.sg i b hi hb)).trans (h.len i b hi hb)⟩

theorem agr0_rd {w : World} {σ : Nat → Option Nat} {Im : Nat → Prop} {f : Nat → Option Nat} {v u : AV} {V : Value} (h : agr0 f v u) (hr : Rd w σ Im u V) : Rd w (fun k => (f k).bind σ) Im v V := by
  unfold agr0 at h
  split at h
  · exact .any _
  · split at h <;> first | exact h.elim | (obtain ⟨rfl, rfl⟩ := h; rw [hr.inv_int]; exact .int _ _)
  · split at h <;> first | exact h.elim | (subst h; rw [hr.inv_bool]; exact .bool _)
  · split at h <;> first | exact h.elim | (subst h; obtain ⟨b, rfl, hb⟩ := hr.inv_flt; exact .flt _ _ hb)
  · split at h
    · obtain ⟨rfl, rfl⟩ := h; cases hr; exact .cpx _ _ _ _ ‹_› ‹_›
    · exact h.elim
  · split at h <;> first | exact h.elim | (subst h; rw [hr.inv_str]; exact .str _)
  · split at h
    · obtain ⟨h1, rfl⟩ := h
      obtain ⟨b, rfl, hb⟩ := hr.inv_own
      exact .own _ _ _ (by simp only [h1, Option.bind_some, hb])
    · exact h.elim
  · split at h
    · obtain ⟨h1, rfl, rfl, rfl⟩ := h
      rcases hr.inv_os with ⟨rfl, a, rfl⟩ | ⟨b, cap, rfl, hb, h2, h3, h4⟩
      · exact .os0 _ _ _ _
      · exact .os _ _ _ _ _ _ (by simp only [h1, Option.bind_some, hb]) h2 h3 h4
    · subst h; rw [hr.inv_nils]; exact .os0 _ _ _ _
    · exact h.elim
  · split at h
    · obtain ⟨rfl, rfl, h1⟩ := h
      rcases hr.inv_sl with ⟨rfl, a, cap, rfl, hc⟩ | ⟨b, off, cap, U, rfl, him, h2, h3, hc, hu, hrr⟩
      · exact .sl0 _ _ _ _ hc
      · exact .sl _ _ _ _ _ _ U him h2 h3 hc hu fun j hj => by rw [h1 j hj]; exact hrr j hj
    · subst h; rw [hr.inv_nils]; exact .sl0 _ _ _ _ (Nat.zero_le _)
    · obtain ⟨rfl, rfl⟩ := h
      rcases hr.inv_os with ⟨_, a, rfl⟩ | ⟨b, cap, rfl, _, _, h3, _⟩
      · exact .sl0 _ _ _ _ (Nat.zero_le _)
      · exact .sl0 _ _ _ _ h3
    · exact h.elim
  · split at h
    · obtain ⟨h1, h2⟩ := h
      obtain ⟨b, off, U, rfl, him, hc, hu, hrr⟩ := hr.inv_ref
      exact .ref _ _ _ _ U him (fun j hj => hc j (by omega)) (fun j hj => hu j (by omega)) fun j hj => by rw [h2 j hj]; exact hrr j (by omega)
    · exact h.elim
  · split at h
    · cases hr; exact .nilp
    · exact h.elim
  · split at h
    · cases hr; exact .nils
    · exact h.elim
  · split at h
    · cases hr; exact .nilf
    · exact h.elim
  · split at h
    · cases hr; exact .nili
    · exact h.elim
  · split at h
    · obtain ⟨rfl, rfl⟩ := h
      obtain ⟨V, rfl, hv⟩ := hr.inv_ifc
      exact .ifc _ _ _ hv
    · exact h.elim
  · exact h.elim
theorem agrL_len {f : Nat → Option Nat} : ∀ {l m : List AV}, agrL f l m → l.length = m.length
  | [], [], _ => rfl
  | _ :: _, _ :: _, h => by simp [agrL_len h.2]
  | [], _ :: _, h => h.elim
  | _ :: _, [], h => h.elim
theorem agrL_get {f : Nat → Option Nat} : ∀ {l m : List AV}, agrL f l m → ∀ i, i < l.length → agr0 f (l.getD i .any) (m.getD i .any)
  | [], _, _, i, hi => by simp at hi
  | v :: r, u :: s, h, i, hi => by
    cases i with
    | zero => exact h.1
    | succ i => exact agrL_get h.2 i (by simpa using hi)
  | _ :: _, [], h, _, _ => h.elim
theorem agr1_rd {w : World} {σ : Nat → Option Nat} {Im : Nat → Prop} {f : Nat → Option Nat} {v u : AV} {V : Value} (h : agr1 f v u) (hr : Rd w σ Im u V) : Rd w (fun k => (f k).bind σ) Im v V := by
  unfold agr1 at h
  split at h
  · split at h
    · obtain ⟨cs, rfl, h1, h2, h3⟩ := hr.inv_agg
      have hl := agrL_len h
      exact .agg _ _ (by omega) (fun i hi => h2 i (by omega)) fun i hi => agr0_rd (agrL_get h i hi) (h3 i (by omega))
    · exact h.elim
  · split at h
    · obtain ⟨rfl, h⟩ := h
      obtain ⟨cs, rfl, h1, h3⟩ := hr.inv_fn
      have hl := agrL_len h
      exact .fn _ _ _ (by omega) fun i hi => agr0_rd (agrL_get h i hi) (h3 i (by omega))
    · exact h.elim
  · exact agr0_rd h hr
theorem agrL1_len {f : Nat → Option Nat} : ∀ {l m : List AV}, agrL1 f l m → l.length = m.length
  | [], [], _ => rfl
  | _ :: _, _ :: _, h => by simp [agrL1_len h.2]
  | [], _ :: _, h => h.elim
  | _ :: _, [], h => h.elim
theorem agrL1_get {f : Nat → Option Nat} : ∀ {l m : List AV}, agrL1 f l m → ∀ i, i < l.length → agr1 f (l.getD i .any) (m.getD i .any)
  | [], _, _, i, hi => by simp at hi
  | v :: r, u :: s, h, i, hi => by
    cases i with
    | zero => exact h.1
    | succ i => exact agrL1_get h.2 i (by simpa using hi)
  | _ :: _, [], h, _, _ => h.elim
theorem agr_rd {w : World} {σ : Nat → Option Nat} {Im : Nat → Prop} {f : Nat → Option Nat} {v u : AV} {V : Value} (h : agr f v u) (hr : Rd w σ Im u V) : Rd w (fun k => (f k).bind σ) Im v V := by
  unfold agr at h
  split at h
  · split at h
    · obtain ⟨cs, rfl, h1, h3⟩ := hr.inv_tup
      have hl := agrL1_len h
      exact .tup _ _ (by omega) fun i hi => agr1_rd (agrL1_get h i hi) (h3 i (by omega))
    · exact h.elim
  · exact agr1_rd h hr
theorem agrS_get {f : Nat → Option Nat} {env : Nat → AV} : ∀ {l : List (Nat × AV)}, agrS f env l → ∀ t, agr f (lkS l t) (env t)
  | [], _, t => by show agr f .any (env t); exact trivial
  | (k, v) :: r, h, t => by
    unfold lkS
    cases hb : Nat.beq t k with
    | true => have := Nat.eq_of_beq_eq_true hb; subst this; exact h.1
    | false => exact agrS_get h.2 t
theorem agrB_held {w : World} {σ : Nat → Option Nat} {Im : Nat → Prop} {B0 : Nat → Prop} {f : Nat → Option Nat} {b o : OB} {k k' : Nat} (hf : f k = some k') (h : agrB f b o) (hb : b.live) (ho : Held B0 w σ Im k' o) : Held B0 w (fun k => (f k).bind σ) Im k b := by
  have key : b.N ≤ o.N ∧ ∀ i V, i < b.N → Rd w (o.sg σ) Im (o.at i) V → Rd w (b.sg fun k => (f k).bind σ) Im (b.at i) V := by
    unfold agrB at h
    split at h
    · split at h
      · have hl := agrL_len h
        exact ⟨by show _ ≤ _; simp only [OB.N]; omega, fun i V hi hr => agr0_rd (agrL_get h i hi) hr⟩
      · exact h.elim
    · split at h
      · obtain ⟨rfl, h1, h2⟩ := h
        refine ⟨h1, fun i V hi hr => ?_⟩
        show Rd w _ Im (.int _ _) V
        rw [h2 i hi]
        have hr : Rd w σ Im (.int _ _) V := hr
        rw [hr.inv_int]; exact .int _ _
      · obtain ⟨h1, h2⟩ := h
        refine ⟨h1, fun i V hi hr => ?_⟩
        have hr : Rd w σ Im (List.getD _ i .any) V := hr
        rw [h2 i hi] at hr
        rw [hr.inv_int]; exact .int _ _
      · exact h.elim
    · split at h
      · obtain ⟨h1, h2⟩ := h
        refine ⟨h1, fun i V hi hr => ?_⟩
        simp only [OB.at, OB.sg] at hr ⊢
        rw [h2 i hi]; exact hr
      · obtain ⟨⟨h1, h3⟩, h2⟩ := h
        refine ⟨h1, fun i V hi hr => ?_⟩
        simp only [OB.at, OB.sg] at hr ⊢
        rw [h2 i hi]
        exact Rd.imm0 (all_getD h3 i (Nat.lt_of_lt_of_le hi h1)) hr
      · exact h.elim
    · exact hb.elim
    · split at h
      · obtain ⟨h1, h2⟩ := h
        refine ⟨h1, fun i V hi hr => ?_⟩
        show Rd w _ Im (.int _ _) V
        rw [h2 i hi]
        have hr : Rd w σ Im (.int _ _) V := hr
        rw [hr.inv_int]; exact .int _ _
      · exact h.elim
  have hty : ∀ t', b.ty = some t' → o.ty = some t' := fun t' ht => by
    cases b with
    | bts N P => cases o <;> first | exact ht | exact (show False from h).elim
    | row l => cases ht
    | nums k N P => cases ht
    | arr N g => cases ht
    | gone => cases ht
  rcases ho with ⟨h1, h2⟩ | ⟨c, h1, h2, h3, h4⟩
  · exact .inl ⟨by omega, by simp only [hf, Option.bind_some, h2]⟩
  · refine .inr ⟨c, by simp only [hf, Option.bind_some, h1], h2, h3, ?_⟩
    obtain ⟨g1, g2, g3⟩ := h4
    refine ⟨by omega, ⟨g2.1, fun cs t lo hi hh => ⟨(g2.2 cs t lo hi hh).1, fun t' ht => (g2.2 cs t lo hi hh).2 t' (hty t' ht)⟩⟩, fun i hi => ?_⟩
    obtain ⟨v, e1, e2, e3⟩ := g3 i (by omega)
    exact ⟨v, e1, e2, key.2 i v hi e3⟩
theorem agrO_get {f : Nat → Option Nat} {own : Nat → OB} : ∀ {l : List (Nat × OB)}, agrO f own l → ∀ k, (lkO l k).live → match f k with | some k' => agrB f (lkO l k) (own k') | none => (lkO l k).N = 0
  | [], _, k, h => h.elim
  | (k', b) :: r, h, k, hl => by
    unfold lkO at hl ⊢
    cases hb : Nat.beq k k' with
    | true => have := Nat.eq_of_beq_eq_true hb; subst this; exact h.1
    | false =>
      rw [hb] at hl
      exact agrO_get h.2 k hl
theorem agrB_live {f : Nat → Option Nat} {b o : OB} (h : agrB f b o) (hb : b.live) : o.live := by
  unfold agrB at h
  split at h
  · split at h <;> first | trivial | exact h.elim
  · split at h <;> first | trivial | exact h.elim
  · split at h <;> first | trivial | exact h.elim
  · exact hb.elim
  · split at h <;> first | trivial | exact h.elim
theorem agrBW_held {w : World} {σ : Nat → Option Nat} {Im : Nat → Prop} {B0 : Nat → Prop} {f : Nat → Option Nat} {b o : OB} {k k' : Nat} (hf : f k = some k') (h : agrBW f b o) (hb : b.live) (ho : Held B0 w σ Im k' o) : Held B0 w (fun k => (f k).bind σ) Im k b := by
  unfold agrBW at h
  split at h
  · split at h
    · rename_i N g o' N' g'
      obtain ⟨h1, h2⟩ := h
      rcases ho with ⟨e1, e2⟩ | ⟨c, e1, e2, e3, e4⟩
      · have e1 : N' = 0 := e1
        exact .inl ⟨by show N = 0; omega, by simp only [hf, Option.bind_some, e2]⟩
      · refine .inr ⟨c, by simp only [hf, Option.bind_some, e1], e2, e3, ?_⟩
        obtain ⟨g1, g2, g3⟩ := e4
        have g1 : N' ≤ blen w c := g1
        refine ⟨by show N ≤ _; omega, g2, fun i hi => ?_⟩
        have hi : i < N := hi
        obtain ⟨v, q1, q2, q3⟩ := g3 i (by show i < N'; omega)
        refine ⟨v, q1, q2, ?_⟩
        have q3 : Rd w (fun _ => none) Im (g' i) v := q3
        show Rd w (fun _ => none) Im (g i) v
        rcases h2 i hi with e | e
        · rw [e]; exact q3
        · exact agr0_rd (f := fun _ => none) e q3
    · exact agrB_held hf h hb ho
  · exact agrB_held hf h hb ho
theorem agrBW_live {f : Nat → Option Nat} {b o : OB} (h : agrBW f b o) (hb : b.live) : o.live := by
  unfold agrBW at h
  split at h
  · split at h
    · trivial
    · exact agrB_live h hb
  · exact agrB_live h hb
theorem agrOW_get {f : Nat → Option Nat} {own : Nat → OB} : ∀ {l : List (Nat × OB)}, agrOW f own l → ∀ k, (lkO l k).live → match f k with | some k' => agrBW f (lkO l k) (own k') | none => (lkO l k).N = 0
  | [], _, k, h => h.elim
  | (k', b) :: r, h, k, hl => by
    unfold lkO at hl ⊢
    cases hb : Nat.beq k k' with
    | true => have := Nat.eq_of_beq_eq_true hb; subst this; exact h.1
    | false =>
      rw [hb] at hl
      exact agrOW_get h.2 k hl
theorem memB_iff {l : List Nat} {k : Nat} : memB l k = true ↔ k ∈ l := by
  constructor
  · intro h
    obtain ⟨x, hx, he⟩ := List.any_eq_true.1 h
    rw [← Nat.eq_of_beq_eq_true he]; exact hx
  · exact memB_of
theorem lk_inj : ∀ {owns : List (Nat × OB)} {ren : List (Option Nat)} {l : List Nat}, somesB ren l = true → (∀ k a, lk owns ren k = some a → a ∉ l) ∧ ∀ k k2 a, lk owns ren k = some a → lk owns ren k2 = some a → k = k2
  | [], _, _, _ => ⟨fun _ _ h => (by unfold lk at h; cases h), fun _ _ _ h => (by unfold lk at h; cases h)⟩
  | _ :: _, [], _, _ => ⟨fun _ _ h => (by unfold lk at h; cases h), fun _ _ _ h => (by unfold lk at h; cases h)⟩
  | (k0, b) :: r, x :: xs, l, h => by
    cases x with
    | none =>
      obtain ⟨a1, a2⟩ := lk_inj (owns := r) (ren := xs) (l := l) h
      refine ⟨fun k a hk => ?_, fun k k2 a hk hk2 => ?_⟩
      · unfold lk at hk
        cases hb : Nat.beq k k0 <;> rw [hb] at hk
        · exact a1 k a hk
        · cases hk
      · unfold lk at hk hk2
        cases hb : Nat.beq k k0 <;> rw [hb] at hk <;> cases hb2 : Nat.beq k2 k0 <;> rw [hb2] at hk2 <;> first | exact a2 k k2 a hk hk2 | cases hk | cases hk2
    | some y =>
      unfold somesB at h
      rw [Bool.and_eq_true] at h
      obtain ⟨a1, a2⟩ := lk_inj (owns := r) (ren := xs) (l := y :: l) h.2
      have hy : y ∉ l := fun hc => by have := memB_iff.2 hc; rw [this] at h; cases h.1
      refine ⟨fun k a hk => ?_, fun k k2 a hk hk2 => ?_⟩
      · unfold lk at hk
        cases hb : Nat.beq k k0 <;> rw [hb] at hk
        · exact fun hc => a1 k a hk (List.mem_cons_of_mem _ hc)
        · cases hk; exact hy
      · unfold lk at hk hk2
        cases hb : Nat.beq k k0 <;> rw [hb] at hk <;> cases hb2 : Nat.beq k2 k0 <;> rw [hb2] at hk2
        · exact a2 k k2 a hk hk2
        · cases hk2; exact absurd List.mem_cons_self (a1 k _ hk)
        · cases hk; exact absurd List.mem_cons_self (a1 k2 _ hk2)
        · rw [Nat.eq_of_beq_eq_true hb, Nat.eq_of_beq_eq_true hb2]
theorem geB_lk {lo : Nat} : ∀ {owns : List (Nat × OB)} {ren : List (Option Nat)}, geB lo ren = true → ∀ k a, lk owns ren k = some a → lo ≤ a
  | [], _, _, _, _, h => (by unfold lk at h; cases h)
  | _ :: _, [], _, _, _, h => (by unfold lk at h; cases h)
  | (k0, b) :: r, x :: xs, h, k, a, hk => by
    have hr : geB lo xs = true := by
      cases x with
      | none => exact h
      | some y => unfold geB at h; rw [Bool.and_eq_true] at h; exact h.2
    unfold lk at hk
    cases hb : Nat.beq k k0 <;> rw [hb] at hk
    · exact geB_lk hr k a hk
    · cases x with
      | none => cases hk
      | some y =>
        cases hk
        unfold geB at h; rw [Bool.and_eq_true] at h; exact Nat.le_of_ble_eq_true h.1
theorem keysLt_lk : ∀ {owns : List (Nat × OB)} {n : Nat}, keysLt owns n = true → ∀ k, n ≤ k → lkO owns k = .gone ∧ ∀ ren, lk owns ren k = none
  | [], _, _, k, _ => ⟨rfl, fun ren => by unfold lk; rfl⟩
  | (k0, b) :: r, n, h, k, hk => by
    unfold keysLt at h
    rw [Bool.and_eq_true] at h
    have hlt := Nat.le_of_ble_eq_true h.1
    have hb : Nat.beq k k0 = false := by
      cases hb : Nat.beq k k0 with
      | false => rfl
      | true => have := Nat.eq_of_beq_eq_true hb; omega
    obtain ⟨a1, a2⟩ := keysLt_lk h.2 k hk
    refine ⟨by unfold lkO; rw [hb]; exact a1, fun ren => ?_⟩
    cases ren with
    | nil => unfold lk; rfl
    | cons x xs => unfold lk; rw [hb]; exact a2 xs
theorem Wk.good {lo m : Nat} {env : Nat → AV} {own : Nat → OB} {nk : Nat} {S : LS} (h : Wk lo env own S) {a : Act} {w : World} {σ : Nat → Option Nat} {Im : Nat → Prop} (hG : Gd w0 ds m env own nk a w σ Im) :
    ∃ σ', Gd w0 ds m (lkS S.slots) (lkO S.owns) S.nk a w σ' Im ∧ GoL lo w σ Im w σ' Im := by
  obtain ⟨ren, h1, h2, h3, h4, h5, h6⟩ := h
  have hlo : ∀ k, k < lo → lkR lo S.owns ren k = some k := fun k hk => by
    have : Nat.blt k lo = true := Nat.ble_eq_true_of_le hk
    unfold lkR; rw [this]; rfl
  have hhi : ∀ k, lo ≤ k → lkR lo S.owns ren k = lk S.owns ren k := fun k hk => by
    have : Nat.blt k lo = false := by
      cases hb : Nat.blt k lo with
      | false => rfl
      | true => have := Nat.le_of_ble_eq_true hb; omega
    unfold lkR; rw [this]; rfl
  have h6 := Nat.le_of_ble_eq_true h6
  have hinj : ∀ k k2 a, lkR lo S.owns ren k = some a → lkR lo S.owns ren k2 = some a → k = k2 := fun k k2 a e e2 => by
    rcases Nat.lt_or_ge k lo with hk | hk <;> rcases Nat.lt_or_ge k2 lo with hk2 | hk2
    · rw [hlo k hk] at e; rw [hlo k2 hk2] at e2; cases e; cases e2; rfl
    · rw [hlo k hk] at e; rw [hhi k2 hk2] at e2; cases e; have := geB_lk h5 _ _ e2; omega
    · rw [hlo k2 hk2] at e2; rw [hhi k hk] at e; cases e2; have := geB_lk h5 _ _ e; omega
    · rw [hhi k hk] at e; rw [hhi k2 hk2] at e2; exact (lk_inj (owns := S.owns) h3).2 k k2 a e e2
  refine ⟨fun k => (lkR lo S.owns ren k).bind σ, ⟨hG.sz, hG.df, ⟨hG.sat.bel, hG.sat.im, ?_, ?_, ?_, hG.sat.imB, ?_⟩, fun t ht => agr_rd (agrS_get h1 t) (hG.fr t ht), fun k hk => by simp only [hhi k (by omega), (keysLt_lk h4 k hk).2 ren, Option.bind_none], fun k hk => by rw [(keysLt_lk h4 k hk).1]; exact fun h => h⟩,
    ⟨fun _ h => h, fun _ _ => rfl, fun k b hk hb => by simp only [hlo k hk, Option.bind_some, hb], fun _ _ _ _ => rfl⟩⟩
  · intro k b hk
    simp only [Option.bind_eq_some_iff] at hk
    obtain ⟨k', _, hb⟩ := hk
    exact hG.sat.sg k' b hb
  · intro k hk
    have := agrOW_get h2 k hk
    cases hf : lkR lo S.owns ren k with
    | none =>
      simp only [hf] at this
      exact .inl ⟨this, by simp only [hf, Option.bind_none]⟩
    | some k' =>
      simp only [hf] at this
      have hlive : (own k').live := agrBW_live this hk
      exact agrBW_held hf this hk (hG.sat.held k' hlive)
  · intro k k2 b hk hk2 e e2
    simp only [Option.bind_eq_some_iff] at e e2
    obtain ⟨c, f1, g1⟩ := e
    obtain ⟨c2, f2, g2⟩ := e2
    have L : ∀ k c, (lkO S.owns k).live → lkR lo S.owns ren k = some c → (own c).live := fun k c hk hf => by
      have := agrOW_get h2 k hk
      simp only [hf] at this
      exact agrBW_live this hk
    have := hG.sat.inj c c2 b (L k c hk f1) (L k2 c2 hk2 f2) g1 g2
    subst this
    exact hinj k k2 c f1 f2
  · intro k b hk
    simp only [Option.bind_eq_some_iff] at hk
    obtain ⟨k', _, hb⟩ := hk
    exact hG.sat.sgB k' b hb
end
end Ev
end Go.Proofs.YtphdjmaebdmdmaaGreatDoor
