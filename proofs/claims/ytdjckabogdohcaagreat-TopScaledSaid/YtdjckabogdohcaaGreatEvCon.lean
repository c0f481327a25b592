/- The abstract machine: contracts, gathered. -/
import Derived.Test.YtdjckabogdohcaaGreatEvTab
namespace Go.Proofs.YtdjckabogdohcaaGreat
open Go.RowKit
set_option linter.unusedVariables false
namespace Ev

/-- An equation that the machine leaves. -/
@[irreducible] def Tell (p : Prop) : Prop := p
theorem tell {α : Sort _} {a b : α} (h : Tell (a = b)) : a = b := by unfold Tell at h; exact h
theorem Tell.mk {p : Prop} (h : p) : Tell p := by unfold Tell; exact h
theorem num_lit {e : Int} {K : Int → Prop} (l : Int) (h : e = l) (hk : K l) : ∀ n, n = e → K n := by
  intro n hn; rw [hn, h]; exact hk
theorem num_elim {e : Int} {K : Int → Prop} (hk : K e) : ∀ n, n = e → K n := fun n h => h ▸ hk
theorem gb_t {x : Bool} (h : x = true) : gb x true = true := h
theorem ff_elim {K : Prop} : false = true → K := fun h => by cases h
theorem tf_elim {K : Prop} : true = false → K := fun h => by cases h
theorem okF_t {fn : Func} {n : Nat} (h : okF fn n = true) : okF fn n = true := h
theorem ks_t {l : List Nat} {i k : Nat} (h : ksO l i = some k) : ksO l i = some k := h
theorem pk_t {l i k : Nat} (h : pinK l i = some k) : pinK l i = some k := h
theorem pf_t {l : Nat} {ρ : List Nat} {i k : Nat} (h : pinF l ρ i = some k) : pinF l ρ i = some k := h
theorem lk_t {a : Nat} {l : List (Nat × OB)} {r : List (Option Nat)} {i k : Nat} (h : lkR a l r i = some k) : lkR a l r i = some k := h
theorem gb_f {x : Bool} (h : x = false) : gb x false = true := by rw [h]; rfl
/-- A contract of one function. -/
structure Con (P : Program) where
  f : Nat
  c : List AV → CR
  ok : ∀ args p r, c args = .ok p r → p.getD True → ACalls P f args r
def conL {P : Program} : List (Con P) → Nat → List AV → CR
  | [], _, _ => .no
  | k :: l, f, args => bif Nat.beq f k.f then (match k.c args with | .no => conL l f args | .ok p r => .ok p r) else conL l f args
theorem conL_ok {P : Program} : ∀ (l : List (Con P)), ConOk P (conL l)
  | [], f, args, p, r, h, _ => by cases h
  | k :: l, f, args, p, r, h, hp => by
    unfold conL at h
    cases hb : Nat.beq f k.f with
    | true =>
      rw [hb] at h
      cases hc : k.c args with
      | no => rw [hc] at h; exact conL_ok l f args p r h hp
      | ok q s => rw [hc] at h; cases h; rw [Nat.eq_of_beq_eq_true hb]; exact k.ok args p r hc hp
    | false => rw [hb] at h; exact conL_ok l f args p r h hp
/-- Functions that may be stepped into. -/
structure Inl (P : Program) where
  f : Nat
  fn : Func
  ok : FnOk P f fn
def inlL {P : Program} : List (Inl P) → Nat → Option Func
  | [], _ => none
  | k :: l, f => bif Nat.beq f k.f then some k.fn else inlL l f
theorem inlL_ok {P : Program} : ∀ (l : List (Inl P)) (f : Nat) (fn : Func), inlL l f = some fn → FnOk P f fn
  | [], f, fn, h => by cases h
  | k :: l, f, fn, h => by
    unfold inlL at h
    cases hb : Nat.beq f k.f with
    | true => rw [hb] at h; cases h; rw [Nat.eq_of_beq_eq_true hb]; exact k.ok
    | false => rw [hb] at h; exact inlL_ok l f fn h
/-- Contracts of functions that write. -/
structure MCon (P : Program) where
  f : Nat
  c : List AV → (Nat → OB) → MR
  ok : ∀ args own ks cargs rows p r rows', c args own = .ok ks cargs rows p r rows' → p.getD True → MCalls P f cargs rows r rows'
def mcL {P : Program} : List (MCon P) → Nat → List AV → (Nat → OB) → MR
  | [], _, _, _ => .no
  | k :: l, f, args, own => bif Nat.beq f k.f then k.c args own else mcL l f args own
theorem mcL_ok {P : Program} : ∀ (l : List (MCon P)), MConOk P (mcL l)
  | [], f, args, own, ks, cargs, rows, p, r, rows', h, _ => by cases h
  | k :: l, f, args, own, ks, cargs, rows, p, r, rows', h, hp => by
    unfold mcL at h
    cases hb : Nat.beq f k.f with
    | true => rw [hb] at h; rw [Nat.eq_of_beq_eq_true hb]; exact k.ok args own ks cargs rows p r rows' h hp
    | false => rw [hb] at h; exact mcL_ok l f args own ks cargs rows p r rows' h hp
def hasM {P : Program} : List (MCon P) → Nat → Bool
  | [], _ => false
  | k :: l, f => bif Nat.beq f k.f then true else hasM l f
def hasI {P : Program} : List (Inl P) → List (MCon P) → Nat → Bool
  | [], m, f => hasM m f
  | k :: l, m, f => bif Nat.beq f k.f then true else hasI l m f
end Ev
end Go.Proofs.YtdjckabogdohcaaGreat
