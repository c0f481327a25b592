/- The abstract machine: one step, of whatever kind. -/
import Derived.Test.YtphdjmaebdmdmaaGreatDoorEvCall
namespace Go.Proofs.YtphdjmaebdmdmaaGreatDoor
open Go.RowKit
set_option linter.unusedVariables false
set_option linter.unusedSimpArgs false
namespace Ev

def pickA (c : AV) (a b : Operand) (ra rb : AV) : SR :=
  match c with
  | .bool x => match b with
    | .const (.bool false) => match ra with
      | .gd c2 (.bool y) => svp (x = true → c2 = true) (.bool (x && y))
      | .bool y => sv (.bool (x && y))
      | _ => .no
    | _ => match a with
      | .const (.bool true) => match rb with
        | .gd c2 (.bool y) => svp (x = false → c2 = true) (.bool (x || y))
        | .bool y => sv (.bool (x || y))
        | _ => .no
      | _ => .no
  | _ => .no
def repA : Nat → List AV → List AV
  | 0, _ => []
  | n + 1, l => l ++ repA n l
def buildSlice0 (ti : Nat → TI) (d : TD) (ix len : Nat) (parts : List (Nat × AV)) (p : Option Prop) (wr : List (Nat × OB)) : SR :=
  match d with
  | .sl e => match (ti e).d with
    | .other => .no
    | _ => match Nat.ble (len * (ti e).size) 16777216 && Nat.ble len 16777216 with
      | false => .no
      | true => match fillA (fun i => some (i * (ti e).size, (ti e).size)) (repA len ((ti e).zero.map ofV0)) parts with
        | some l => .ok p false (.os ix (ti e).size 0 len) [] wr (some (.row l))
        | none => .no
  | _ => .no
/-- Slices of one's own that go into a slice are lent for good. -/
def pubV (own : Nat → OB) (v : AV) : PV :=
  match v with
  | .os k sz off n => pub0 own (.os k sz off n)
  | .agg l => pub1 own (.agg l)
  | _ => .no
def pubPs (own : Nat → OB) : List (Nat × AV) → List (Nat × AV) × List Nat × Option Prop
  | [] => ([], [], none)
  | (i, v) :: r => match pubPs own r with
    | (l, ks, p) => match pubV own v with
      | .ok u js q => ((i, u) :: l, js ++ ks, andP q p)
      | .no => ((i, v) :: l, ks, p)
def goneL : List Nat → List (Nat × OB)
  | [] => []
  | k :: r => (k, .gone) :: goneL r
theorem goneL_eq : ∀ ks : List Nat, goneL ks = ks.map fun k => (k, OB.gone)
  | [] => rfl
  | k :: r => by show (k, OB.gone) :: goneL r = _; rw [goneL_eq r]; rfl
def buildSliceA (ti : Nat → TI) (own : Nat → OB) (d : TD) (ix len : Nat) (parts : List (Nat × AV)) : SR :=
  match pubPs own parts with
  | (l, ks, p) => buildSlice0 ti d ix len l p (goneL ks)
def strI (n : Nat) (P : Nat → Int) : ByteArray := strOfNums ((List.range n).map P)
def convertA (ti : Nat → TI) (own : Nat → OB) (ix : Nat) (same : Bool) (s d : TI) (x : AV) : SR :=
  match s.d with
  | .other => .no
  | _ => match d.d with
    | .int k => match x with
      | .int _ n => sint k (k.wrap n)
      | .flt b => svp (∃ n, (FloatKind.f64.decode b).toInt .zero = some n ∧ k.min ≤ n ∧ n ≤ k.max) (.int k (((FloatKind.f64.decode b).toInt .zero).getD 0))
      | _ => .no
    | .flt => match x with
      | .int _ n => sv (.flt (cn (FloatKind.f64.nearest n)))
      | .flt b => sv (.flt b)
      | _ => .no
    | .str => match x with
      | .str t => sv (.str t)
      | x => match s.d with
        | .sl e => match (ti e).d with
          | .int .u8 => match viewI .u8 own x with
            | .ok m rd Q q => .ok (some q) false (.str (strI m Q)) rd [] none
            | .no => .no
          | _ => .no
        | _ => .no
    | .sl e => match (ti e).d with
      | .int .u8 => match x with
        | .str t => .ok (some (t.size ≤ 140737488355328)) false (.os ix 1 0 t.size) [] [] (some (.nums .u8 t.size (byteAt t)))
        | .os k sz off n => match same with
          | true => match own k with
            | .row l => .ok (some (0 < n)) false (.os k sz off n) [] [] none
            | .nums _ _ _ => .ok (some (0 < n)) false (.os k sz off n) [] [] none
            | _ => .no
          | false => .no
        | _ => .no
      | _ => .no
    | _ => .no
def minmaxA (mx : Bool) (x y : AV) : SR :=
  match x, y with
  | .int k a, .int _ b => match mx with
    | true => sv (.int k (if b > a then b else a))
    | false => sv (.int k (if b < a then b else a))
  | _, _ => .no
def copyE (ti : Nat → TI) (own : Nat → OB) (e : Nat) (x y : AV) : SR :=
  match (ti e).d with
  | .int kd => match x with
    | .os k sz off n => match Nat.beq sz 1 with
      | false => .no
      | true => match own k with
        | .nums kd' N P => match decide (kd = kd') with
          | false => .no
          | true => match viewI kd own y with
            | .ok m rd Q q => match Nat.beq (ti e).size 1 with
              | true => .ok (some (q ∧ m ≤ n ∧ off + n ≤ N)) false (.int .i64 m) rd [(k, .nums kd N fun j => if off ≤ j ∧ j < off + m then Q (j - off) else P j)] none
              | false => .no
            | .no => .no
        | _ => .no
    | _ => .no
  | _ => .no
def copyA (ti : Nat → TI) (own : Nat → OB) (d d2 : TD) (x y : AV) : SR :=
  match d2 with
  | .sl _ | .str => match d with
    | .sl e => copyE ti own e x y
    | _ => .no
  | _ => .no
def builtinA (cx : Cx) (own : Nat → OB) (ix : Nat) (b : Builtin) (ts : List TypeId) (l : List AV) : SR :=
  match b with
  | .len => match ts, l with
    | [t], [x] => lenA (cx.ti t).d x
    | _, _ => .no
  | .append => match ts, l with
    | [t, u], [x, y] => appendA cx.ti own ix (cx.ti t).d (cx.ti u).d x y
    | _, _ => .no
  | .copy => match ts, l with
    | [t, u], [x, y] => copyA cx.ti own (cx.ti t).d (cx.ti u).d x y
    | _, _ => .no
  | .max => match l with
    | [x, y] => minmaxA true x y
    | _ => .no
  | .min => match l with
    | [x, y] => minmaxA false x y
    | _ => .no
  | .real => match l with
    | [x] => (match x with | .cpx a _ => sv (.flt a) | _ => .no)
    | _ => .no
  | .imag => match l with
    | [x] => (match x with | .cpx _ b => sv (.flt b) | _ => .no)
    | _ => .no
  | .complex => match l with
    | [x, y] => (match x, y with | .flt a, .flt b => sv (.cpx a b) | _, _ => .no)
    | _ => .no
  | _ => .no
/-- A value of some type behind an interface. -/
def ifaceA (ti : TI) (t : Nat) (x : AV) : SR :=
  match ti.d with
  | .other => .no
  | .ifc => .no
  | _ => match imm x with
    | true => sv (.ifc t x)
    | false => .no
def zeroV (ti : TI) : AV :=
  match ti.d.isAgg with
  | true => .agg (ti.zero.map ofV0)
  | false => match ti.zero with
    | [z] => ofV0 z
    | _ => .any
/-- Is a value of some type behind an interface? -/
def assertA (im : Nat → Nat → Bool) (ti : TI) (t : Nat) (ok : Bool) (x : AV) : SR :=
  match ti.d with
  | .other => .no
  | .ifc => match x with
    | .ifc u v => match im t u with
      | true => match ok with
        | true => sv (.tup [.ifc u v, .bool true])
        | false => sv (.ifc u v)
      | false => .no
    | _ => .no
  | _ => match x with
    | .ifc u v => match Nat.beq u t with
      | true => match ok with
        | true => sv (.tup [v, .bool true])
        | false => sv v
      | false => match ok with
        | true => sv (.tup [zeroV ti, .bool false])
        | false => .no
    | .nili => match ok with
      | true => sv (.tup [zeroV ti, .bool false])
      | false => .no
    | _ => .no
def stp (cx : Cx) (con : Nat → List AV → CR) (own : Nat → OB) (ρ ρr : Operand → AV) (op : Op) (ix : Nat) : SR :=
  match op with
  | .move x => sv (ρ x)
  | .assign x => sv (ρ x)
  | .pick c a b => pickA (ρ c) a b (ρr a) (ρr b)
  | .alloc t => allocA (cx.ti t) ix
  | .box t x => boxA (ρ x) ix
  | .build t parts => buildA cx.ti (cx.ti t) (parts.toList.map fun p => (p.1, ρ p.2))
  | .buildSlice t len parts => buildSliceA cx.ti own (cx.ti t).d ix len (parts.toList.map fun p => (p.1, ρ p.2))
  | .load t a => loadA (cx.ti t) own (ρ a)
  | .store t a v => storeA (cx.ti t) own (ρ a) (ρ v)
  | .nilCheck x => nilA (ρ x)
  | .binOp op t x y _ => match (cx.ti t).d with
    | .other => .no
    | .struct _ => eqSA (cx.eq t) op (ρ x) (ρ y)
    | .arr _ _ => eqSA (cx.eq t) op (ρ x) (ρ y)
    | d => binA d op (ρ x) (ρ y)
  | .unOp op _ x => unA op (ρ x)
  | .sliceToArrayPointer t x => arrPtrA (cx.ti t).d (ρ x)
  | .convert s d x => convertA cx.ti own ix (Nat.beq s d) (cx.ti s) (cx.ti d) (ρ x)
  | .makeSlice t l c => makeA cx.ti (cx.ti t).d ix (ρ l) (ρ c)
  | .slice t x lo hi mx => sliceN cx.ti own (cx.ti t).d (ρ x) (lo.map ρ) (hi.map ρ) (mx.map ρ)
  | .fieldAddr t x f => fieldAddrA cx.ti (cx.ti t).d f (ρ x)
  | .field t x f => fieldvA cx.ti (cx.ti t).d (ρ x) f
  | .indexAddr t x i => idxA cx.ti (cx.ti t).d (ρ x) (ρ i)
  | .index t x i => indexA cx.ti (cx.ti t).d (ρ x) (ρ i)
  | .extract x i => extractA (ρ x) i
  | .makeInterface t x => ifaceA (cx.ti t) t (ρ x)
  | .typeAssert x _ t ok => assertA cx.im (cx.ti t) t ok (ρ x)
  | .makeFunc fn first caps => match fn with
    | .func f => match first.toList with
      | [] => sv (.fn f (caps.toList.map ρ))
      | _ => .no
    | _ => .no
  | .call c => match c.callee with
    | .builtin b => builtinA cx own ix b c.argTypes.toList (c.args.toList.map ρ)
    | .value f => match ρ f with
      | .fn f caps => callA con own ix f (c.args.toList.map ρ ++ caps)
      | _ => .no
    | .invoke r m => match ρ r with
      | .ifc t v => match cx.mt t m with
        | some f => callA con own ix f (v :: c.args.toList.map ρ)
        | none => .no
      | _ => .no
  | _ => .no
/-- The operands that a step reads. -/
def readsOf : Op → List Operand
  | .pick c _ _ => [c]
  | op => op.operands.toList

section
variable {P : Program} {w : World} {w0 : St0} {σ : Nat → Option Nat} {Im : Nat → Prop} {own : Nat → OB} {ix : Nat}
theorem post_pure (hS : Sat w0 w σ Im own) {r : AV} {v : Value} {n : Nat} (hr : Rd w σ Im r v) : Post w0 w σ Im own ix r [] none v (w.drewN n) := by
  have hb : Below w.heap.size w (w.drewN n) := below_drewN (Below.refl _ _) n
  obtain ⟨g1, g2⟩ := hS.go (Im' := Im) hb (fun _ h => h) (fun _ h => .inl h)
  exact ⟨σ, Im, g1, fun _ _ => rfl, fun _ => rfl, hr.mono g1, g2⟩
theorem runs_pure (hS : Sat w0 w σ Im own) {s : SR} {sem : Sem Value} {x : Sem Next} (hx : x = do let v ← sem; pure (.value v)) (h : s.pure fun r => Pure1 P w σ Im sem r) :
    s.runs fun r wr nw => Runs P (x.run P w) fun v w' => Post w0 w σ Im own ix r wr nw v w' := by
  cases s with
  | no => trivial
  | ok p nm r rd wr nw =>
    obtain ⟨rfl, rfl, h⟩ := h
    intro hp
    obtain ⟨v, n, hrun, hr⟩ := h hp
    subst hx
    simp only [Sem.run_bind, hrun, Result.andThen_ok, Sem.run_pure]
    exact post_pure hS hr
theorem runs_eff {s : SR} {sem : Sem Value} {x : Sem Next} (hx : x = do let v ← sem; pure (.value v))
    (h : s.runs fun r wr nw => ∃ v w', sem.run P w = .ok v w' ∧ Post w0 w σ Im own ix r wr nw v w') : s.runs fun r wr nw => Runs P (x.run P w) fun v w' => Post w0 w σ Im own ix r wr nw v w' := by
  cases s with
  | no => trivial
  | ok p nm r rd wr nw =>
    intro hp
    obtain ⟨v, w', hrun, hq⟩ := h hp
    subst hx
    simp only [Sem.run_bind, hrun, Result.andThen_ok, Sem.run_pure]
    exact hq
theorem two_map {α β γ : Type} {R : β → γ → Prop} (f : α → β) (g : α → γ) : ∀ {l : List α}, (∀ x ∈ l, R (f x) (g x)) → Two R (l.map f) (l.map g)
  | [], _ => .nil
  | x :: l, h => .cons (h x (by simp)) (two_map f g fun y hy => h y (by simp [hy]))
theorem optRd_map {ρ : Operand → AV} {V : Operand → Value} {o : Option Operand} (h : ∀ x, o = some x → Rd w σ Im (ρ x) (V x)) : OptRd w σ Im (o.map ρ) (o.map V) := by
  cases o with
  | none => trivial
  | some x => exact h x rfl
theorem pick_sound (hS : Sat w0 w σ Im own) {c : AV} {a b : Operand} {ra rb : AV} {V : Operand → Value} {C : Value} (hc : Rd w σ Im c C) (ha : Rd w σ Im ra (V a)) (hb : Rd w σ Im rb (V b)) (hconst : ∀ v, V (.const v) = v) :
    (pickA c a b ra rb).runs fun r wr nw => Runs P ((do pure (.value (if ← asBool C then V a else V b)) : Sem Next).run P w) fun v w' => Post w0 w σ Im own ix r wr nw v w' := by
  have go : ∀ (x : Bool) (r : AV), C = .bool x → Rd w σ Im r (if x then V a else V b) → Runs P ((do pure (.value (if ← asBool C then V a else V b)) : Sem Next).run P w) fun v w' => Post w0 w σ Im own ix r [] none v w' := fun x r hC hr => by
    subst hC
    have : (do pure (.value (if ← asBool (.bool x) then V a else V b)) : Sem Next).run P w = .ok (.value (if x then V a else V b)) w := by simp [asBool]
    rw [this]
    exact post_pure (n := 0) hS hr
  unfold pickA
  split
  case h_2 => trivial
  case h_1 x =>
  have hC := hc.inv_bool
  split
  case h_1 =>
    split
    case h_1 c2 y =>
      intro hp
      refine go x _ hC ?_
      cases x with
      | false => simp [hconst]; exact .bool _
      | true =>
        have := (ha.inv_gd (hp rfl)).inv_bool
        simp only [if_true, Bool.true_and, this]
        exact .bool _
    case h_2 y =>
      intro _
      refine go x _ hC ?_
      have := ha.inv_bool
      cases x <;> simp [this, hconst] <;> exact .bool _
    case h_3 => trivial
  case h_2 =>
    split
    case h_2 => trivial
    split
    case h_1 c2 y =>
      intro hp
      refine go x _ hC ?_
      cases x with
      | true => simp [hconst]; exact .bool _
      | false =>
        have := (hb.inv_gd (hp rfl)).inv_bool
        simp only [Bool.false_or, this]
        exact .bool _
    case h_2 y =>
      intro _
      refine go x _ hC ?_
      have := hb.inv_bool
      cases x <;> simp [this, hconst] <;> exact .bool _
    case h_3 => trivial

theorem rep_rd (zs : List Value) (h1 : ∀ v ∈ zs, v.oneCell' = true) : ∀ n, ∀ i, i < (repA n (zs.map ofV0)).length → 0 < zs.length ∧ (repA n (zs.map ofV0)).getD i .any = ofV0 (zs.getD (i % zs.length) undef)
  | 0, i, hi => by simp [repA] at hi
  | n + 1, i, hi => by
    simp only [repA, List.length_append, List.length_map] at hi
    by_cases hlt : i < zs.length
    · refine ⟨by omega, ?_⟩
      unfold repA
      rw [List.getD, List.getElem?_append_left (by simpa using hlt), Nat.mod_eq_of_lt hlt]
      simp [hlt]
    · obtain ⟨a1, a2⟩ := rep_rd zs h1 n (i - zs.length) (by omega)
      refine ⟨a1, ?_⟩
      unfold repA
      rw [List.getD, List.getElem?_append_right (by simp; omega)]
      have e : i - (zs.map ofV0).length = i - zs.length := by simp
      rw [e, ← List.getD, a2]
      congr 2
      rw [← Nat.mod_eq_sub_mod (by omega)]
theorem rep_len (zs : List AV) : ∀ n, (repA n zs).length = n * zs.length
  | 0 => by simp [repA]
  | n + 1 => by simp [repA, rep_len zs n, Nat.succ_mul]; omega
theorem map_range0 (f : Nat → Value) : (Array.range 0).map f = #[] := by apply Array.ext'; simp
theorem buildSlice0_sound {cx : Cx} (hcx : cx.ok P) (hS : Sat w0 w σ Im own) (hs : σ ix = none) (hx : ¬ (own ix).live) {t len : Nat} {parts : List (Nat × AV)} {vals : Array (Nat × Value)} (pp : Option Prop) (wr0 : List (Nat × OB)) (hp : Two (fun p q => p.1 = q.1 ∧ Rd w σ Im p.2 q.2) parts vals.toList) :
    (buildSlice0 cx.ti (cx.ti t).d ix len parts pp wr0).runs fun r wr nw => wr = wr0 ∧ ∃ v w', (Instr.buildSlice t len vals).run P w = .ok v w' ∧ Post w0 w σ Im own ix r [] nw v w' := by
  unfold buildSlice0
  split
  case h_2 => trivial
  case h_1 e hd =>
  obtain ⟨desc, _, _, hu, hd', _⟩ := (hcx.ti t (by rw [hd]; intro h; cases h)).ex
  rw [hd] at hd'
  have := tdOf_sl hd'
  subst this
  split
  · trivial
  rename_i hne
  obtain ⟨desc', i, z, hu', _, hi, hs', hby, hz, hzc, hzs, h1, _⟩ := (hcx.ti e hne).ex
  split
  · trivial
  rename_i hle
  rw [Bool.and_eq_true] at hle
  obtain ⟨hle, hle2⟩ := hle
  have hle := Nat.le_of_ble_eq_true hle
  have hle2 := Nat.le_of_ble_eq_true hle2
  split
  case h_2 => trivial
  rename_i l hl
  intro _
  have hzl : (cx.ti e).zero.length = (cx.ti e).size := by rw [← hzc, ← hzs]; simp
  have h0 : RdL w σ Im (repA len ((cx.ti e).zero.map ofV0)) ((Array.range (len * (cx.ti e).size)).map (z.cells[· % z.cells.size]!)) := by
    have hlen : (repA len ((cx.ti e).zero.map ofV0)).length = len * (cx.ti e).size := by rw [rep_len]; simp [hzl]
    have hg : ∀ j, j < len * (cx.ti e).size → 0 < z.cells.size ∧ ((Array.range (len * (cx.ti e).size)).map (z.cells[· % z.cells.size]!)).getD j undef = z.cells.getD (j % z.cells.size) undef := fun j hj => by
      have h0 : 0 < z.cells.size := by
        rw [hzs]
        rcases Nat.eq_zero_or_pos (cx.ti e).size with h | h
        · rw [h, Nat.mul_zero] at hj; omega
        · exact h
      have := Nat.mod_lt j h0
      exact ⟨h0, by simp [hj, this]⟩
    have hmem : ∀ j, 0 < z.cells.size → (z.cells.getD (j % z.cells.size) undef) = (cx.ti e).zero.getD (j % (cx.ti e).zero.length) undef := fun j h0 => by
      have e1 : z.cells.size = (cx.ti e).zero.length := by omega
      rw [e1, ← hzc]; simp [List.getD]
    refine ⟨by simp [hlen], fun j hj => ?_, fun j hj => ?_⟩
    · rw [hlen] at hj
      obtain ⟨h0, e1⟩ := hg j hj
      rw [e1]
      have hlt := Nat.mod_lt j h0
      have : z.cells.getD (j % z.cells.size) undef = z.cells[j % z.cells.size] := by simp [hlt]
      rw [this]
      exact h1 _ (by rw [← hzc]; simp)
    · have hj' := hj
      rw [hlen] at hj'
      obtain ⟨h0, e1⟩ := hg j hj'
      rw [(rep_rd _ h1 len j hj).2, e1, hmem j h0]
      exact ofV0_rd _
  obtain ⟨out, ho, hr⟩ := fill_sound _ _ _ _ _ _ hp h0 hl
  have hlo : out.size = len * (cx.ti e).size := by
    have : ∀ (ps : List (Nat × AV)) (place : Nat → Option (Nat × Nat)) (c l : List AV), fillA place c ps = some l → l.length = c.length := by
      intro ps
      induction ps with
      | nil => intro place c l h; cases h; rfl
      | cons p ps ih =>
        intro place c l h
        obtain ⟨i, v⟩ := p
        unfold fillA at h
        split at h
        · cases h
        split at h
        · cases h
        split at h
        · cases h
        split at h
        · cases h
        rename_i hfit
        rw [ih _ _ _ h, putA_length _ _ _ (Nat.le_of_ble_eq_true hfit)]
    rw [hr.1, this _ _ _ _ hl, rep_len]; simp [hzl]
  obtain ⟨g1, g2⟩ := hS.alloc hs hx out e (.row l) (by show l.length ≤ _; rw [hr.1]; exact Nat.le_refl _) (fun i hi => ⟨hr.2.1 i hi, hr.2.2 i hi⟩)
  refine ⟨rfl, .slice (some ⟨w.heap.size, 0, none⟩) len len, w.alloc (.cells out e), ?_, upd σ ix (some w.heap.size), Im, g1, fun j hj => upd_other _ _ _ hj, fun h => (nomatch h), ?_, g2⟩
  · have hle' : ¬ (16777216 < len * (cx.ti e).size) := by omega
    by_cases hz0 : len * (cx.ti e).size = 0
    · rw [hz0, map_range0] at ho
      simp [Instr.buildSlice, run_underlying hu, sizeOf, typeInfo, hi, hs', hle', hz0, map_range0, ho, newRow]
    · simp [Instr.buildSlice, run_underlying hu, sizeOf, typeInfo, zeroValue, hi, hz, hs', hle', hz0, ho, newRow]
  · refine .os _ _ _ _ _ _ (upd_same _ _ _) (Nat.le_refl _) (by unfold maxLen; omega) ?_
    rw [blen_cells (heap_alloc_new w _), hlo]; omega
theorem Two.mono {α β : Type} {R S : α → β → Prop} (hs : ∀ a b, R a b → S a b) : ∀ {l : List α} {m : List β}, Two R l m → Two S l m
  | _, _, .nil => .nil
  | _, _, .cons h t => .cons (hs _ _ h) (Two.mono hs t)
theorem pubPs_no {own : Nat → OB} {i : Nat} {v : AV} {r : List (Nat × AV)} (h : pubV own v = .no) : pubPs own ((i, v) :: r) = ((i, v) :: (pubPs own r).1, (pubPs own r).2.1, (pubPs own r).2.2) := by
  show (match pubV own v with | .ok u js q => ((i, u) :: (pubPs own r).1, js ++ (pubPs own r).2.1, andP q (pubPs own r).2.2) | .no => ((i, v) :: (pubPs own r).1, (pubPs own r).2.1, (pubPs own r).2.2)) = _
  rw [h]
theorem pubPs_ok {own : Nat → OB} {i : Nat} {v : AV} {r : List (Nat × AV)} {u : AV} {js : List Nat} {q : Option Prop} (h : pubV own v = .ok u js q) : pubPs own ((i, v) :: r) = ((i, u) :: (pubPs own r).1, js ++ (pubPs own r).2.1, andP q (pubPs own r).2.2) := by
  show (match pubV own v with | .ok u js q => ((i, u) :: (pubPs own r).1, js ++ (pubPs own r).2.1, andP q (pubPs own r).2.2) | .no => ((i, v) :: (pubPs own r).1, (pubPs own r).2.1, (pubPs own r).2.2)) = _
  rw [h]
theorem pubV_sound (hS : Sat w0 w σ Im own) {v u : AV} {V : Value} {ks : List Nat} {p : Option Prop} (h : pubV own v = .ok u ks p) (hp : p.getD True) (hv : Rd w σ Im v V) :
    Rd w (fun _ => none) (Lent σ Im ks) u V ∧ ∀ k ∈ ks, (own k).live := by
  unfold pubV at h
  split at h
  · exact pub0_sound hS h hp hv
  · exact pub1_sound hS h hp hv
  · cases h
theorem pubPs_sound (hS : Sat w0 w σ Im own) : ∀ {parts : List (Nat × AV)} {vals : List (Nat × Value)}, Two (fun p q => p.1 = q.1 ∧ Rd w σ Im p.2 q.2) parts vals → (pubPs own parts).2.2.getD True →
    Two (fun p q => p.1 = q.1 ∧ Rd w σ (Lent σ Im (pubPs own parts).2.1) p.2 q.2) (pubPs own parts).1 vals ∧ ∀ k ∈ (pubPs own parts).2.1, (own k).live
  | [], _, ht, _ => by cases ht; exact ⟨.nil, fun k hk => by simp [pubPs] at hk⟩
  | (i, v) :: r, _, ht, hp => by
    cases ht with
    | cons h1 h2 =>
    obtain ⟨he, hr⟩ := h1
    have keep : ∀ (ks : List Nat), Rd w σ (Lent σ Im ks) v _ := fun ks => hr.wide fun b hb => .inl hb
    cases hq : pubV own v with
    | no =>
      rw [pubPs_no hq] at hp ⊢
      obtain ⟨a1, a2⟩ := pubPs_sound hS h2 hp
      exact ⟨.cons ⟨he, keep _⟩ a1, a2⟩
    | ok u js q =>
      rw [pubPs_ok hq] at hp ⊢
      obtain ⟨b1, b2⟩ := pubV_sound hS hq (andP_l hp) hr
      obtain ⟨a1, a2⟩ := pubPs_sound hS h2 (andP_r hp)
      refine ⟨.cons ⟨he, (b1.up).wide fun b hb => hb.l⟩ (a1.mono fun p q ⟨e, hh⟩ => ⟨e, Rd.wide hh fun b hb => hb.r⟩), fun k hk => ?_⟩
      rcases List.mem_append.1 hk with h | h
      · exact b2 k h
      · exact a2 k h
theorem gone_dead {ix : Nat} : ∀ (ks : List Nat) (own : Nat → OB), ¬ (own ix).live → ¬ (applyW own (goneL ks) ix).live
  | [], _, h => h
  | k :: ks, own, h => gone_dead ks (upd own k .gone) (by
    rcases upd_cases own k .gone ix with ⟨_, e⟩ | ⟨_, e⟩
    · rw [e]; exact fun h => h
    · rw [e]; exact h)
theorem buildSlice_sound {cx : Cx} (hcx : cx.ok P) (hS : Sat w0 w σ Im own) (hs : σ ix = none) (hx : ¬ (own ix).live) {t len : Nat} {parts : List (Nat × AV)} {vals : Array (Nat × Value)} (hp : Two (fun p q => p.1 = q.1 ∧ Rd w σ Im p.2 q.2) parts vals.toList) :
    (buildSliceA cx.ti own (cx.ti t).d ix len parts).runs fun r wr nw => ∃ v w', (Instr.buildSlice t len vals).run P w = .ok v w' ∧ Post w0 w σ Im own ix r wr nw v w' := by
  unfold buildSliceA
  have hsnd := pubPs_sound hS hp
  generalize pubPs own parts = q at hsnd
  obtain ⟨l, ks, p⟩ := q
  show (buildSlice0 cx.ti (cx.ti t).d ix len l p (goneL ks)).runs _
  by_cases hpp : p.getD True
  · obtain ⟨a1, a2⟩ := hsnd hpp
    have hsh := shuts hS ks a2 Im own hS (fun _ _ => rfl) hS.im (fun k a b => absurd a b)
    have hx' : ¬ (applyW own (ks.map fun k => (k, OB.gone)) ix).live := by rw [← goneL_eq]; exact gone_dead ks own hx
    have h0 := buildSlice0_sound hcx (w0 := w0) (Im := Lent σ Im ks) (t := t) (len := len) hsh hs hx' p (goneL ks) a1
    revert h0
    cases buildSlice0 cx.ti (cx.ti t).d ix len l p (goneL ks) with
    | no => exact fun _ => trivial
    | ok p' nm r rd wr nw =>
      intro h hp'
      obtain ⟨rfl, v, w', h1, σ', Im', g1, g2, g3, g4, g5⟩ := h hp'
      refine ⟨v, w', h1, σ', Im', ⟨fun b hb => g1.im b (.inl hb), fun b hb => g1.blk b (.inl hb), g1.sg, g1.len⟩, g2, g3, g4, ?_⟩
      rw [goneL_eq]
      exact g5
  · have h0 := buildSlice0_sound hcx (w0 := w0) (t := t) (len := len) hS hs hx p (goneL ks) (parts := parts) hp
    unfold buildSlice0 at *
    split
    case h_2 => trivial
    split
    · trivial
    split
    · trivial
    split
    · exact fun h => absurd h hpp
    · trivial
end
end Ev
end Go.Proofs.YtphdjmaebdmdmaaGreatDoor
