/- The abstract machine's operations: what each yields, under which condition, and that it does. -/
import Derived.Test.YtphdjmaebdmdmaaGreatDoorEvRel
import Derived.Laws.StructEq
import Derived.Laws.Pointers
import Derived.Laws.Cover3
namespace Go.Proofs.YtphdjmaebdmdmaaGreatDoor
open Go.RowKit
set_option linter.unusedVariables false
set_option linter.unusedSimpArgs false
namespace Ev

/-- Types, as far as they matter. -/
inductive TD where
  | int (k : IntKind) | flt | cpx | bool | str | ptr | sl (e : Nat) | arr (n e : Nat) | struct (fs : List (Nat × Nat)) | fn | ifc | other
  deriving DecidableEq
structure TI where
  d : TD
  size : Nat
  bytes : Nat
  zero : List Value
def tdOf : TypeDesc → TD
  | .int k => .int k
  | .float .f64 => .flt
  | .complex .f64 => .cpx
  | .bool => .bool
  | .string => .str
  | .pointer _ => .ptr
  | .slice e => .sl e
  | .array n e => .arr n e
  | .struct fs => .struct (fs.toList.map fun f => (f.offset, f.type))
  | .func _ _ _ => .fn
  | .interface _ => .ifc
  | _ => .other
structure TIok (P : Program) (t : Nat) (ti : TI) : Prop where
  ex : ∃ desc i z, P.underlying t = some desc ∧ tdOf desc = ti.d ∧ P.info? t = some i ∧ i.size = ti.size ∧ i.bytes = ti.bytes ∧ i.zero = some z ∧ z.cells.toList = ti.zero ∧ z.cells.size = ti.size ∧ (∀ v ∈ ti.zero, v.oneCell' = true) ∧ (desc.isRow = true → ∃ cs, z = .agg cs) ∧ (desc.isRow = false → z.oneCell' = true)
def TD.isAgg : TD → Bool
  | .struct _ | .arr _ _ => true
  | _ => false

/-- What a step gives: a condition; is its number to be named?; its value; the call's own blocks that it reads; those that it writes; a new one. -/
inductive SR where
  | no
  | ok (p : Option Prop) (nm : Bool) (r : AV) (rd : List Nat) (wr : List (Nat × OB)) (nw : Option OB)
@[reducible] def sv (r : AV) : SR := .ok none false r [] [] none
@[reducible] def svp (p : Prop) (r : AV) : SR := .ok (some p) false r [] [] none
@[reducible] def sint (k : IntKind) (e : Int) : SR := .ok none true (.int k e) [] [] none
@[reducible] def sintp (p : Prop) (k : IntKind) (e : Int) : SR := .ok (some p) true (.int k e) [] [] none

def bitsA (op : BinOp) (k : IntKind) (x y : Int) : Int :=
  let a := BitVec.ofInt k.bits x
  let b := BitVec.ofInt k.bits y
  match op with
  | .and => k.wrap (a &&& b).toNat
  | .or => k.wrap (a ||| b).toNat
  | .xor => k.wrap (a ^^^ b).toNat
  | _ => k.wrap (a &&& ~~~b).toNat
def intA (op : BinOp) (k k' : IntKind) (a b : Int) : SR :=
  match op with
  | .shl => sintp (0 ≤ b) k (k.wrap (a * 2 ^ min b.toNat k.bits))
  | .shr => sintp (0 ≤ b) k (a.fdiv (2 ^ min b.toNat k.bits))
  | _ => match decide (k = k') with
    | false => .no
    | true => match op with
      | .add => sint k (k.wrap (a + b))
      | .sub => sint k (k.wrap (a - b))
      | .mul => sint k (k.wrap (a * b))
      | .quo => sintp (b ≠ 0) k (k.wrap (a.tdiv b))
      | .rem => sintp (b ≠ 0) k (a.tmod b)
      | .and => sint k (bitsA .and k a b)
      | .or => sint k (bitsA .or k a b)
      | .xor => sint k (bitsA .xor k a b)
      | .andNot => sint k (bitsA .andNot k a b)
      | .eql => sv (.bool (a == b))
      | .neq => sv (.bool (a != b))
      | .lss => sv (.bool (decide (a < b)))
      | .leq => sv (.bool (decide (a ≤ b)))
      | .gtr => sv (.bool (decide (a > b)))
      | .geq => sv (.bool (decide (a ≥ b)))
      | _ => .no
/-- Comparisons of floats. -/
def fgt (x y : Nat) : Bool := FloatKind.f64.format.order x y == some .gt
def flt (x y : Nat) : Bool := FloatKind.f64.format.order x y == some .lt
def feq (x y : Nat) : Bool := FloatKind.f64.format.order x y == some .eq
def fltA (op : BinOp) (a b : Nat) : SR :=
  match op with
  | .add => sv (.flt (F .add a b))
  | .sub => sv (.flt (F .sub a b))
  | .mul => sv (.flt (F .mul a b))
  | .quo => sv (.flt (F .quo a b))
  | .eql => sv (.bool (feq a b))
  | .neq => sv (.bool !(feq a b))
  | .lss => sv (.bool (flt a b))
  | .leq => sv (.bool (flt a b || feq a b))
  | .gtr => sv (.bool (fgt a b))
  | .geq => sv (.bool (fgt a b || feq a b))
  | _ => .no
def cpxA (op : BinOp) (a b c d : Nat) : SR :=
  match op with
  | .add => sv (.cpx (F .add a c) (F .add b d))
  | .sub => sv (.cpx (F .sub a c) (F .sub b d))
  | .eql => sv (.bool (feq a c && feq b d))
  | .neq => sv (.bool !(feq a c && feq b d))
  | _ => .no
def strA (op : BinOp) (a b : ByteArray) : SR :=
  match op with
  | .add => svp (a.size + b.size ≤ 9223372036854775807) (.str (a ++ b))
  | .eql => sv (.bool (a.toList == b.toList))
  | .neq => sv (.bool !(a.toList == b.toList))
  | _ => .no
/-- Nil? -/
def eqB (op : BinOp) (c : Bool) : SR :=
  match op with
  | .eql => sv (.bool c)
  | .neq => sv (.bool !c)
  | _ => .no
def binA (d : TD) (op : BinOp) (x y : AV) : SR :=
  match x, y with
  | .int k a, .int k' b => intA op k k' a b
  | .flt a, .flt b => fltA op a b
  | .cpx a b, .cpx c d => cpxA op a b c d
  | .str a, .str b => strA op a b
  | .bool a, .bool b => match d with
    | .bool => eqB op (a == b)
    | _ => .no
  | .nilp, .nilp => match d with
    | .ptr => eqB op true
    | _ => .no
  | .own _ _, .nilp | .ref _ _, .nilp => match d with
    | .ptr => eqB op false
    | _ => .no
  | .nils, .nils => match d with
    | .sl _ => eqB op true
    | _ => .no
  | .sl n sz g, .nils => match d with
    | .sl _ => match eqB op false with
      | .ok _ _ r _ _ _ => svp (0 < n) r
      | .no => .no
    | _ => .no
  | .os k sz off n, .nils => match d with
    | .sl _ => match eqB op false with
      | .ok _ _ r _ _ _ => svp (0 < n) r
      | .no => .no
    | _ => .no
  | .fn _ _, .nilf => match d with
    | .fn => eqB op false
    | _ => .no
  | .nilf, .nilf => match d with
    | .fn => eqB op true
    | _ => .no
  | _, _ => .no
def unA (op : UnOp) (x : AV) : SR :=
  match op, x with
  | .not, .bool b => sv (.bool !b)
  | .neg, .int k n => sint k (k.wrap (0 - n))
  | .neg, .flt b => sv (.flt (Fneg b))
  | .xor, .int k n => sint k (bitsA .xor k (if k.signed then -1 else k.max) n)
  | _, _ => .no

/-- A pure step: it runs, and draws at most. -/
def Pure1 (P : Program) (w : World) (σ : Nat → Option Nat) (Im : Nat → Prop) (s : Sem Value) (r : AV) : Prop := ∃ v n, s.run P w = .ok v (w.drewN n) ∧ Rd w σ Im r v
def SR.pure (s : SR) (Q : AV → Prop) : Prop :=
  match s with
  | .no => True
  | .ok p _ r _ wr nw => wr = [] ∧ nw = none ∧ (p.getD True → Q r)

section
variable {P : Program} {w : World} {σ : Nat → Option Nat} {Im : Nat → Prop}
theorem drewN0 (w : World) : w.drewN 0 = w := rfl
theorem pure_of {s : Sem Value} {r : AV} {v : Value} (h : s.run P w = .ok v w) (hr : Rd w σ Im r v) : Pure1 P w σ Im s r := ⟨v, 0, h, hr⟩

theorem int_sound (op : BinOp) (k k' : IntKind) (a b : Int) (t : TypeId) (x y : Operand) :
    (intA op k k' a b).pure fun r => Pure1 P w σ Im (do eqGuard op t x y (.int k a) (.int k' b); binOp op t (.int k a) (.int k' b)) r := by
  have h0 : eqGuard op t x y (.int k a) (.int k' b) = pure () := eqGuard_at_int op t x y (.int k' b) k a
  by_cases hk : k = k'
  · subst hk
    cases op <;> simp only [intA, decide_true, SR.pure, sint, sintp, sv, Option.getD_none, Option.getD_some, forall_const, true_and] <;> try (first | trivial | (refine ⟨trivial, trivial, ?_⟩))
    all_goals first
      | (refine pure_of (v := .int k _) ?_ (.int k _); rw [h0]; simp [binOp, Op.intArith, Op.intBits, bitsA]; done)
      | (refine pure_of (v := .bool _) ?_ (.bool _); rw [h0]; simp [binOp, Op.intCmp]; done)
      | (intro hb; refine pure_of (v := .int k _) ?_ (.int k _); rw [h0]; simp [binOp, Op.intDiv, hb]; done)
      | (intro hb; refine pure_of (v := .int k _) ?_ (.int k _); rw [h0]; simp [binOp, Op.shift, show ¬ b < 0 by omega]; done)
      | skip
  · have hd : decide (k = k') = false := by simpa using hk
    cases op <;> simp only [intA, hd, SR.pure, sint, sintp, sv, Option.getD_none, Option.getD_some, true_and] <;> try trivial
    all_goals
      intro hb; refine pure_of (v := .int k _) ?_ (.int k _); rw [h0]; simp [binOp, Op.shift, show ¬ b < 0 by omega]

theorem flt_sound (op : BinOp) (a b A B : Nat) (t : TypeId) (x y : Operand) (ha : cn A = a) (hb : cn B = b) :
    (fltA op a b).pure fun r => Pure1 P w σ Im (do eqGuard op t x y (.float .f64 A) (.float .f64 B); binOp op t (.float .f64 A) (.float .f64 B)) r := by
  have h0 : eqGuard op t x y (.float .f64 A) (.float .f64 B) = pure () := eqGuard_at_float op t x y (.float .f64 B) .f64 A
  have ho : ∀ A B, FloatKind.f64.format.order (cn A) (cn B) = FloatKind.f64.format.order A B := ord_cn
  subst ha hb
  cases op <;> simp only [fltA, fgt, flt, feq, SR.pure, sv, Option.getD_none, forall_const] <;> try (first | trivial | (refine ⟨trivial, trivial, ?_⟩))
  all_goals first
    | (refine ⟨.float .f64 (fval .add w A B), fdr .add A B, ?_, .flt _ _ (cn_fval' .add w A B)⟩; rw [h0]; simp [run_fadd]; done)
    | (refine ⟨.float .f64 (fval .sub w A B), fdr .sub A B, ?_, .flt _ _ (cn_fval' .sub w A B)⟩; rw [h0]; simp [run_fsub]; done)
    | (refine ⟨.float .f64 (fval .mul w A B), fdr .mul A B, ?_, .flt _ _ (cn_fval' .mul w A B)⟩; rw [h0]; simp [run_fmul]; done)
    | (refine ⟨.float .f64 (fval .quo w A B), fdr .quo A B, ?_, .flt _ _ (cn_fval' .quo w A B)⟩; rw [h0]; simp [run_fquo]; done)
    | (rw [ho]; refine pure_of (v := .bool _) ?_ (.bool _); rw [h0]; simp [binOp, Op.floatCmp, bne]; done)

theorem cpx_arith (w : World) (op : BinOp) (hop : op = .add ∨ op = .sub) (x y : Nat) : (Op.Complex.arith op .f64 x y).run P w = .ok (fval op w x y) (w.drewN (fdr op x y)) := by
  have h : (Op.floatArith op .f64 x y).run P w = .ok (.float .f64 (fval op w x y)) (w.drewN (fdr op x y)) := by
    rcases hop with rfl | rfl
    · exact run_fadd (P := P) w 0 x y
    · exact run_fsub (P := P) w 0 x y
  unfold Op.Complex.arith
  rw [Sem.run_bind, h]
  rfl
theorem cpx_cmp (w : World) (x y : Nat) : (Op.Complex.cmp .eql .f64 x y).run P w = .ok (FloatKind.f64.format.order x y == some .eq) w := by
  unfold Op.Complex.cmp
  simp [Op.floatCmp, asBool]
theorem cpx_sound (op : BinOp) (a b c d A B C D : Nat) (t : TypeId) (x y : Operand) (ha : cn A = a) (hb : cn B = b) (hc : cn C = c) (hd : cn D = d) :
    (cpxA op a b c d).pure fun r => Pure1 P w σ Im (do eqGuard op t x y (.complex .f64 A B) (.complex .f64 C D); binOp op t (.complex .f64 A B) (.complex .f64 C D)) r := by
  have h0 : eqGuard op t x y (.complex .f64 A B) (.complex .f64 C D) = pure () := by cases op <;> rfl
  have ho : ∀ A B, FloatKind.f64.format.order (cn A) (cn B) = FloatKind.f64.format.order A B := ord_cn
  have hbin : ∀ op, binOp op t (.complex .f64 A B) (.complex .f64 C D) = Op.complexOp op .f64 A B C D := fun op => by cases op <;> simp [binOp]
  subst ha hb hc hd
  have arith : ∀ op, op = .add ∨ op = .sub → Op.complexOp op .f64 A B C D = (do pure (.complex .f64 (← Op.Complex.arith op .f64 A C) (← Op.Complex.arith op .f64 B D))) →
      Pure1 P w σ Im (do eqGuard op t x y (.complex .f64 A B) (.complex .f64 C D); binOp op t (.complex .f64 A B) (.complex .f64 C D)) (.cpx (F op (cn A) (cn C)) (F op (cn B) (cn D))) := fun op hop e => by
    have h0 : eqGuard op t x y (.complex .f64 A B) (.complex .f64 C D) = pure () := by cases op <;> rfl
    refine ⟨.complex .f64 (fval op w A C) (fval op (w.drewN (fdr op A C)) B D), fdr op A C + fdr op B D, ?_, .cpx _ _ _ _ (cn_fval' op w A C) (cn_fval' op _ B D)⟩
    rw [h0, hbin, e]
    simp only [Sem.run_bind, Sem.run_pure, Result.andThen_ok, cpx_arith _ op hop]
    simp [World.drewN, Nat.add_assoc]
  cases op <;> simp only [cpxA, feq, SR.pure, sv, Option.getD_none, forall_const] <;> try (first | trivial | (refine ⟨trivial, trivial, ?_⟩))
  all_goals first
    | exact arith .add (.inl rfl) rfl
    | exact arith .sub (.inr rfl) rfl
    | (rw [ho, ho]; refine pure_of (v := .bool _) ?_ (.bool _); rw [h0, hbin]; simp [Op.complexOp, cpx_cmp]; done)
theorem str_sound (op : BinOp) (a b : ByteArray) (t : TypeId) (x y : Operand) :
    (strA op a b).pure fun r => Pure1 P w σ Im (do eqGuard op t x y (.string a) (.string b); binOp op t (.string a) (.string b)) r := by
  have h0 : eqGuard op t x y (.string a) (.string b) = pure () := eqGuard_at_string op t x y (.string b) a
  cases op <;> simp only [strA, SR.pure, sv, svp, Option.getD_none, Option.getD_some, forall_const] <;> try (first | trivial | (refine ⟨trivial, trivial, ?_⟩))
  all_goals first
    | (refine pure_of (v := .bool _) ?_ (.bool _); rw [h0]; simp [binOp, Op.stringOp]; done)
    | (intro hb; refine pure_of (v := .string _) ?_ (.str _); rw [h0]; simp [binOp, Op.stringOp, IntKind.max, IntKind.signed, IntKind.bits, show ¬ (9223372036854775807 : Int) < a.size + b.size by omega]; done)

theorem tdOf_bool {d : TypeDesc} (h : tdOf d = .bool) : d = .bool := by
  unfold tdOf at h; split at h <;> first | rfl | cases h
theorem tdOf_ptr {d : TypeDesc} (h : tdOf d = .ptr) : ∃ e, d = .pointer e := by
  unfold tdOf at h; split at h <;> first | exact ⟨_, rfl⟩ | cases h
theorem tdOf_sl {d : TypeDesc} {e : Nat} (h : tdOf d = .sl e) : d = .slice e := by
  unfold tdOf at h; split at h <;> first | (cases h; rfl) | cases h
theorem tdOf_arr {d : TypeDesc} {n e : Nat} (h : tdOf d = .arr n e) : d = .array n e := by
  unfold tdOf at h; split at h <;> first | (cases h; rfl) | cases h
theorem tdOf_fn {d : TypeDesc} (h : tdOf d = .fn) : ∃ a b c, d = .func a b c := by
  unfold tdOf at h; split at h <;> first | exact ⟨_, _, _, rfl⟩ | cases h
theorem tdOf_str {d : TypeDesc} (h : tdOf d = .str) : d = .string := by
  unfold tdOf at h; split at h <;> first | rfl | cases h
theorem tdOf_int {d : TypeDesc} {k : IntKind} (h : tdOf d = .int k) : d = .int k := by
  unfold tdOf at h; split at h <;> first | (cases h; rfl) | cases h
theorem tdOf_flt {d : TypeDesc} (h : tdOf d = .flt) : d = .float .f64 := by
  unfold tdOf at h; split at h <;> first | rfl | cases h
theorem tdOf_struct {d : TypeDesc} {fs : List (Nat × Nat)} (h : tdOf d = .struct fs) : ∃ gs, d = .struct gs ∧ fs = gs.toList.map fun f => (f.offset, f.type) := by
  unfold tdOf at h; split at h <;> first | (cases h; exact ⟨_, rfl, rfl⟩) | cases h

/-- Two values whose sameness is known. -/
theorem eqB_sound {op : BinOp} {c : Bool} {t : TypeId} {X Y : Value} (x y : Operand) (h0 : eqGuard op t x y X Y = pure ()) (h : (Op.equal t X Y).run P w = .ok c w)
    (he : binOp .eql t X Y = (do pure (.bool (← Op.equal t X Y)))) (hn : binOp .neq t X Y = (do pure (.bool (!(← Op.equal t X Y))))) :
    (eqB op c).pure fun r => Pure1 P w σ Im (do eqGuard op t x y X Y; binOp op t X Y) r := by
  cases op <;> simp only [eqB, SR.pure, sv, Option.getD_none, forall_const] <;> try (first | trivial | (refine ⟨trivial, trivial, ?_⟩))
  all_goals
    refine pure_of (v := .bool _) ?_ (.bool _); rw [h0]
    first | (rw [he]; simp [h]; done) | (rw [hn]; simp [h]; done)

theorem equal_unf (t : TypeId) (X Y : Value) : Op.equal t X Y = Op.equalIn (9999 + 1) t X Y := rfl
theorem eqB_pos {op : BinOp} {c : Bool} {p : Prop} {Q : AV → Prop} (h : p → (eqB op c).pure Q) : (match eqB op c with | .ok _ _ r _ _ _ => svp p r | .no => SR.no).pure Q := by
  cases op <;> simp only [eqB, sv, svp, SR.pure, Option.getD_none, Option.getD_some, forall_const, true_and] at h ⊢ <;> first | trivial | exact h
theorem bin_sound (op : BinOp) (t : TypeId) (ti : TI) (ht : TIok P t ti) (a b : AV) (A B : Value) (x y : Operand) (ha : Rd w σ Im a A) (hb : Rd w σ Im b B) :
    (binA ti.d op a b).pure fun r => Pure1 P w σ Im (do eqGuard op t x y A B; binOp op t A B) r := by
  obtain ⟨desc, i, z, hu, hd, _⟩ := ht.ex
  unfold binA
  split
  case h_1 => cases ha; cases hb; exact int_sound op _ _ _ _ t x y
  case h_2 => cases ha; cases hb; rename_i h1 _ h2; exact flt_sound op _ _ _ _ t x y h1 h2
  case h_3 => cases ha; cases hb; rename_i h1 h2 _ _ h3 h4; exact cpx_sound op _ _ _ _ _ _ _ _ t x y h1 h2 h3 h4
  case h_4 => cases ha; cases hb; exact str_sound op _ _ t x y
  case h_5 =>
    cases ha; cases hb
    split
    · rename_i hk
      rw [hk] at hd
      have := tdOf_bool hd
      subst this
      exact eqB_sound x y (eqGuard_at_bool op t x y _ _) (run_equal_bool w t _ _ hu) rfl rfl
    · trivial
  case h_6 =>
    cases ha; cases hb
    split
    · rename_i hk
      rw [hk] at hd
      obtain ⟨e, rfl⟩ := tdOf_ptr hd
      exact eqB_sound x y (eqGuard_at_pointer op t x y _ _) (by rw [equal_unf]; unfold Op.equalIn; simp only [Sem.run_bind, run_underlying hu, Result.andThen_ok]; rfl) rfl rfl
    · trivial
  case h_7 =>
    cases ha; cases hb
    split
    · rename_i hk
      rw [hk] at hd
      obtain ⟨e, rfl⟩ := tdOf_ptr hd
      exact eqB_sound x y (eqGuard_at_pointer op t x y _ _) (by rw [equal_unf]; unfold Op.equalIn; simp only [Sem.run_bind, run_underlying hu, Result.andThen_ok]; rfl) rfl rfl
    · trivial
  case h_8 =>
    cases ha; cases hb
    split
    · rename_i hk
      rw [hk] at hd
      obtain ⟨e, rfl⟩ := tdOf_ptr hd
      exact eqB_sound x y (eqGuard_at_pointer op t x y _ _) (by rw [equal_unf]; unfold Op.equalIn; simp only [Sem.run_bind, run_underlying hu, Result.andThen_ok]; rfl) rfl rfl
    · trivial
  case h_9 =>
    cases ha; cases hb
    split
    · rename_i hk
      rw [hk] at hd
      have := tdOf_sl hd
      subst this
      exact eqB_sound x y (eqGuard_at_slice op t x y _ _ _ _) (run_equal_slice_nil w t _ _ _ _ hu) rfl rfl
    · trivial
  case h_10 =>
    cases hb
    split
    · rename_i hk
      rw [hk] at hd
      have := tdOf_sl hd
      subst this
      refine eqB_pos fun h0 => ?_
      cases ha
      · omega
      · exact eqB_sound x y (eqGuard_at_slice op t x y _ _ _ _) (run_equal_slice_nil w t _ _ _ _ hu) rfl rfl
    · trivial
  case h_11 =>
    cases hb
    split
    · rename_i hk
      rw [hk] at hd
      have := tdOf_sl hd
      subst this
      refine eqB_pos fun h0 => ?_
      cases ha
      · exact eqB_sound x y (eqGuard_at_slice op t x y _ _ _ _) (run_equal_slice_nil w t _ _ _ _ hu) rfl rfl
      · omega
    · trivial
  case h_12 =>
    cases ha; cases hb
    split
    · rename_i hk
      rw [hk] at hd
      obtain ⟨_, _, _, rfl⟩ := tdOf_fn hd
      exact eqB_sound x y (eqGuard_at_func op t x y _ _ _ _) (by rw [equal_unf]; unfold Op.equalIn; simp only [Sem.run_bind, run_underlying hu, Result.andThen_ok]; rfl) rfl rfl
    · trivial
  case h_13 =>
    cases ha; cases hb
    split
    · rename_i hk
      rw [hk] at hd
      obtain ⟨_, _, _, rfl⟩ := tdOf_fn hd
      exact eqB_sound x y (eqGuard_at_nilFunc op t x y _) (by rw [equal_unf]; unfold Op.equalIn; simp only [Sem.run_bind, run_underlying hu, Result.andThen_ok]; rfl) rfl rfl
    · trivial
  case h_14 => trivial

theorem un_sound (op : UnOp) (a : AV) (A : Value) (ha : Rd w σ Im a A) : (unA op a).pure fun r => Pure1 P w σ Im (Op.unary op A) r := by
  unfold unA
  split
  case h_1 => cases ha; exact ⟨rfl, rfl, fun _ => pure_of (v := .bool _) rfl (.bool _)⟩
  case h_2 => cases ha; exact ⟨rfl, rfl, fun _ => pure_of (v := .int _ _) (by simp [Op.unary, Op.intArith]) (.int _ _)⟩
  case h_3 =>
    cases ha
    rename_i B h
    refine ⟨rfl, rfl, fun _ => pure_of (v := .float .f64 (fneg B)) (by rw [unary_fneg]; rfl) (.flt _ _ ?_)⟩
    rw [cn_fneg, h]
  case h_4 => cases ha; exact ⟨rfl, rfl, fun _ => pure_of (v := .int _ _) (by simp [Op.unary, Op.intBits, bitsA]) (.int _ _)⟩
  case h_5 => trivial
end
end Ev
end Go.Proofs.YtphdjmaebdmdmaaGreatDoor
