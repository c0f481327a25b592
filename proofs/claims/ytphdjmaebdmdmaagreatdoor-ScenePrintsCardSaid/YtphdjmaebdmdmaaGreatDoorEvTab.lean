/- The abstract machine: a table of types, checked. -/
import Derived.Test.YtphdjmaebdmdmaaGreatDoorEvFun
namespace Go.Proofs.YtphdjmaebdmdmaaGreatDoor
open Go.RowKit
set_option linter.unusedVariables false
set_option linter.unusedSimpArgs false
namespace Ev

inductive TT where
  | nil
  | node (k : Nat) (ti : TI) (l r : TT)
def TT.get : TT → Nat → TI
  | .nil, _ => ⟨.other, 0, 0, []⟩
  | .node k ti l r, t => bif Nat.beq t k then ti else bif Nat.blt t k then l.get t else r.get t
def eqV (a b : Value) : Bool :=
  match a with
  | .int k n => match b with | .int k' n' => decide (k = k') && decide (n = n') | _ => false
  | .bool x => match b with | .bool y => x == y | _ => false
  | .float k x => match b with | .float k' y => decide (k = k') && Nat.beq x y | _ => false
  | .complex k x x' => match b with | .complex k' y y' => decide (k = k') && (Nat.beq x y && Nat.beq x' y') | _ => false
  | .string s => match b with | .string t => Nat.beq s.data.size 0 && Nat.beq t.data.size 0 | _ => false
  | .pointer p => match b with | .pointer q => p.isNone && q.isNone | _ => false
  | .slice p x x' => match b with | .slice q y y' => p.isNone && (q.isNone && (Nat.beq x y && Nat.beq x' y')) | _ => false
  | .nilFunc => match b with | .nilFunc => true | _ => false
  | .nilIface => match b with | .nilIface => true | _ => false
  | _ => false
def eqVs : List Value → List Value → Bool
  | [], [] => true
  | a :: r, b :: s => eqV a b && eqVs r s
  | _, _ => false
def isAggV : Value → Bool
  | .agg _ => true
  | _ => false
def tiB (P : Program) (t : Nat) (ti : TI) : Bool :=
  match P.underlying t with
  | none => false
  | some d => match P.info? t with
    | none => false
    | some i => match i.zero with
      | none => false
      | some z => decide (tdOf d = ti.d) && (Nat.beq i.size ti.size && (Nat.beq i.bytes ti.bytes && (eqVs z.cells.toList ti.zero && (Nat.beq z.cells.size ti.size && (ti.zero.all Value.oneCell' && bif d.isRow then isAggV z else z.oneCell')))))
def TT.okB (P : Program) : TT → Bool
  | .nil => true
  | .node k ti l r => tiB P k ti && (l.okB P && r.okB P)
theorem eqV_eq {a b : Value} (h : eqV a b = true) : a = b := by
  unfold eqV at h
  split at h
  · split at h
    · simp at h; rw [h.1, h.2]
    · cases h
  · split at h
    · simp at h; rw [h]
    · cases h
  · split at h
    · rw [Bool.and_eq_true] at h; rw [of_decide_eq_true h.1, Nat.eq_of_beq_eq_true h.2]
    · cases h
  · split at h
    · rw [Bool.and_eq_true, Bool.and_eq_true] at h; rw [of_decide_eq_true h.1, Nat.eq_of_beq_eq_true h.2.1, Nat.eq_of_beq_eq_true h.2.2]
    · cases h
  · split at h
    · rename_i x _ y
      rw [Bool.and_eq_true] at h
      have h1 := Nat.eq_of_beq_eq_true h.1
      have h2 := Nat.eq_of_beq_eq_true h.2
      cases x; cases y
      simp only at h1 h2
      rw [Array.eq_empty_of_size_eq_zero h1, Array.eq_empty_of_size_eq_zero h2]
    · cases h
  · split at h
    · rename_i p _ q
      cases p <;> cases q <;> first | rfl | (simp at h; done)
    · cases h
  · split at h
    · rename_i p x x' _ q y y'
      rw [Bool.and_eq_true, Bool.and_eq_true, Bool.and_eq_true] at h
      rw [Nat.eq_of_beq_eq_true h.2.2.1, Nat.eq_of_beq_eq_true h.2.2.2]
      cases p <;> cases q <;> first | rfl | (have := h.1; cases this; done) | (have := h.2.1; cases this; done)
    · cases h
  · split at h
    · rfl
    · cases h
  · split at h
    · rfl
    · cases h
  · cases h
theorem eqVs_eq : ∀ {l m : List Value}, eqVs l m = true → l = m
  | [], [], _ => rfl
  | a :: r, b :: s, h => by
    unfold eqVs at h
    rw [Bool.and_eq_true] at h
    rw [eqV_eq h.1, eqVs_eq h.2]
  | [], _ :: _, h => by cases h
  | _ :: _, [], h => by cases h
theorem tiB_ok {P : Program} {t : Nat} {ti : TI} (h : tiB P t ti = true) : TIok P t ti := by
  unfold tiB at h
  split at h
  · cases h
  rename_i d hd
  split at h
  · cases h
  rename_i i hi
  split at h
  · cases h
  rename_i z hz
  rw [Bool.and_eq_true, Bool.and_eq_true, Bool.and_eq_true, Bool.and_eq_true, Bool.and_eq_true, Bool.and_eq_true] at h
  obtain ⟨h1, h2, h3, h4, h5, h6, h7⟩ := h
  refine ⟨d, i, z, hd, of_decide_eq_true h1, hi, Nat.eq_of_beq_eq_true h2, Nat.eq_of_beq_eq_true h3, hz, eqVs_eq h4, Nat.eq_of_beq_eq_true h5, fun v hv => List.all_eq_true.1 h6 v hv, fun hr => ?_, fun hr => ?_⟩
  · rw [hr] at h7
    cases z <;> first | exact ⟨_, rfl⟩ | cases h7
  · rw [hr] at h7
    exact h7
/-- Which structs are compared, and by which cells. -/
inductive ET where
  | nil
  | node (k : Nat) (S : List TD) (r : ET)
def ET.get : ET → Nat → List TD
  | .nil, _ => []
  | .node k S r, t => bif Nat.beq t k then S else r.get t
def ET.okB (P : Program) : ET → Bool
  | .nil => true
  | .node k S r => eqTok P k S && r.okB P
/-- Which methods types have. -/
inductive MT where
  | nil
  | node (t : Nat) (name : String) (f : Nat) (r : MT)
def MT.get : MT → Nat → String → Option Nat
  | .nil, _, _ => none
  | .node t m f r, u, n => bif Nat.beq u t && (m == n) then some f else r.get u n
def MT.okB (P : Program) : MT → Bool
  | .nil => true
  | .node t m f r => methB P t m f && r.okB P
theorem MT.ok {P : Program} : ∀ (T : MT), T.okB P = true → ∀ t n f, T.get t n = some f → methB P t n f = true
  | .nil, _, _, _, _, h => by cases h
  | .node t m f r, hb, u, n, g, h => by
    unfold MT.okB at hb
    rw [Bool.and_eq_true] at hb
    unfold MT.get at h
    cases he : (Nat.beq u t && (m == n)) with
    | true =>
      rw [he] at h
      cases h
      rw [Bool.and_eq_true] at he
      rw [Nat.eq_of_beq_eq_true he.1, ← eq_of_beq he.2]
      exact hb.1
    | false => rw [he] at h; exact MT.ok r hb.2 u n g h
/-- Which types have the methods of which interfaces. -/
inductive IT where
  | nil
  | node (t u : Nat) (r : IT)
def IT.get : IT → Nat → Nat → Bool
  | .nil, _, _ => false
  | .node t u r, a, b => bif Nat.beq a t && Nat.beq b u then true else r.get a b
def IT.okB (P : Program) : IT → Bool
  | .nil => true
  | .node t u r => impB P t u && r.okB P
theorem IT.ok {P : Program} : ∀ (T : IT), T.okB P = true → ∀ t u, T.get t u = true → impB P t u = true
  | .nil, _, _, _, h => by cases h
  | .node t u r, hb, a, b, h => by
    unfold IT.okB at hb
    rw [Bool.and_eq_true] at hb
    unfold IT.get at h
    cases he : (Nat.beq a t && Nat.beq b u) with
    | true =>
      rw [Bool.and_eq_true] at he
      rw [Nat.eq_of_beq_eq_true he.1, Nat.eq_of_beq_eq_true he.2]
      exact hb.1
    | false => rw [he] at h; exact IT.ok r hb.2 a b h
theorem ET.ok {P : Program} : ∀ (T : ET), T.okB P = true → ∀ t, T.get t ≠ [] → eqTok P t (T.get t) = true
  | .nil, _, t, h => absurd rfl h
  | .node k S r, hb, t, h => by
    unfold ET.okB at hb
    rw [Bool.and_eq_true] at hb
    unfold ET.get at h ⊢
    cases he : Nat.beq t k with
    | true => have := Nat.eq_of_beq_eq_true he; subst this; exact hb.1
    | false => rw [he] at h; exact ET.ok r hb.2 t h
theorem TT.ok {P : Program} : ∀ (T : TT), T.okB P = true → ∀ t, (T.get t).d ≠ .other → TIok P t (T.get t)
  | .nil, _, t, h => absurd rfl h
  | .node k ti l r, hb, t, h => by
    unfold TT.okB at hb
    rw [Bool.and_eq_true, Bool.and_eq_true] at hb
    unfold TT.get at h ⊢
    cases he : Nat.beq t k with
    | true =>
      have := Nat.eq_of_beq_eq_true he
      subst this
      exact tiB_ok hb.1
    | false =>
      rw [he] at h
      cases hl : Nat.blt t k with
      | true => rw [hl] at h; exact TT.ok l hb.2.1 t h
      | false => rw [hl] at h; exact TT.ok r hb.2.2 t h
end Ev
end Go.Proofs.YtphdjmaebdmdmaaGreatDoor
