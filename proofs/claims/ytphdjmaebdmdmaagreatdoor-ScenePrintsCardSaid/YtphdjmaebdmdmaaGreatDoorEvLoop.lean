/- The abstract machine: loops by what their rounds keep. -/
import Derived.Test.YtphdjmaebdmdmaaGreatDoorEvNum
namespace Go.Proofs.YtphdjmaebdmdmaaGreatDoor
open Go.RowKit
set_option linter.unusedVariables false
namespace Ev

def keepK (env : Nat → AV) : List Nat → (List (Nat × AV) → Prop) → Prop
  | [], K => K []
  | t :: r, K => force (env t) fun v => keepK env r fun l => K ((t, v) :: l)
def keepO (own : Nat → OB) : List Nat → (List (Nat × OB) → Prop) → Prop
  | [], K => K []
  | k :: r, K => forceOB (own k) fun o => keepO own r fun l => K ((k, o) :: l)
theorem keepK_eq (env : Nat → AV) : ∀ (ts : List Nat) (K : List (Nat × AV) → Prop), keepK env ts K = K (ts.map fun t => (t, env t))
  | [], K => rfl
  | t :: r, K => by unfold keepK; rw [force_eq, keepK_eq env r]; rfl
theorem keepO_eq (own : Nat → OB) : ∀ (ks : List Nat) (K : List (Nat × OB) → Prop), keepO own ks K = K (ks.map fun k => (k, own k))
  | [], K => rfl
  | k :: r, K => by unfold keepO; rw [forceOB_eq, keepO_eq own r]; rfl
inductive LoopI (lo : Nat) (T : AK → (Nat → AV) → (Nat → OB) → Nat → Prop) (K : AK) (env : Nat → AV) (own : Nat → OB) (nk : Nat) (l : List (Nat × AV)) (m : List (Nat × OB)) : Prop
  | mk (ι : Type) (C : ι → List (Nat × AV)) (O : ι → List (Nat × OB)) (μ : ι → Nat) (i0 : ι) (h0 : Wk lo env own ⟨C i0 ++ l, O i0 ++ m, nk⟩)
      (hs : ∀ i, T (fun e env own nk' => match e with | .normal => ∃ j, μ j < μ i ∧ Wk lo env own ⟨C j ++ l, O j ++ m, nk⟩ | .exit id => K (.exit id) env own nk' | .ret => K .ret env own nk') (lkS (C i ++ l)) (lkO (O i ++ m)) nk)
theorem loop_keep {lo : Nat} {T : AK → (Nat → AV) → (Nat → OB) → Nat → Prop} {K : AK} {env : Nat → AV} {own : Nat → OB} {nk : Nat} (ts ks : List Nat)
    (h : keepK env ts fun l => keepO own ks fun m => LoopI lo T K env own nk l m) : loopR lo T K env own nk := by
  rw [loopR_eq]
  rw [keepK_eq, keepO_eq] at h
  obtain ⟨ι, C, O, μ, i0, h0, hs⟩ := h
  exact Or.inr ⟨ι, fun i => ⟨C i ++ _, O i ++ _, nk⟩, μ, ⟨i0, h0⟩, hs⟩
theorem wk_mk {lo : Nat} {env : Nat → AV} {own : Nat → OB} {S : LS} (ren : List (Option Nat))
    (h : agrS (lkR lo S.owns ren) env S.slots ∧ agrO (lkR lo S.owns ren) own S.owns ∧ IsT (somesB ren []) ∧ IsT (keysLt S.owns S.nk) ∧ IsT (geB lo ren) ∧ IsT (Nat.ble lo S.nk)) : Wk lo env own S :=
  ⟨ren, h.1, agrO_w h.2.1, h.2.2.1.eq, h.2.2.2.1.eq, h.2.2.2.2.1.eq, h.2.2.2.2.2.eq⟩
theorem wk_mkW {lo : Nat} {env : Nat → AV} {own : Nat → OB} {S : LS} (ren : List (Option Nat))
    (h : agrS (lkR lo S.owns ren) env S.slots ∧ agrOW (lkR lo S.owns ren) own S.owns ∧ IsT (somesB ren []) ∧ IsT (keysLt S.owns S.nk) ∧ IsT (geB lo ren) ∧ IsT (Nat.ble lo S.nk)) : Wk lo env own S :=
  ⟨ren, h.1, h.2.1, h.2.2.1.eq, h.2.2.2.1.eq, h.2.2.2.2.1.eq, h.2.2.2.2.2.eq⟩
theorem stp_mkW {lo : Nat} {env : Nat → AV} {own : Nat → OB} {ι : Type} {S : ι → LS} {μ : ι → Nat} {i : ι} (ren : List (Option Nat)) (j : ι) (hm : Tell (μ j < μ i))
    (h : agrS (lkR lo (S j).owns ren) env (S j).slots ∧ agrOW (lkR lo (S j).owns ren) own (S j).owns ∧ IsT (somesB ren []) ∧ IsT (keysLt (S j).owns (S j).nk) ∧ IsT (geB lo ren) ∧ IsT (Nat.ble lo (S j).nk)) : ∃ j, μ j < μ i ∧ Wk lo env own (S j) :=
  ⟨j, by unfold Tell at hm; exact hm, wk_mkW ren h⟩
theorem stp_mk {lo : Nat} {env : Nat → AV} {own : Nat → OB} {ι : Type} {S : ι → LS} {μ : ι → Nat} {i : ι} (ren : List (Option Nat)) (j : ι) (hm : Tell (μ j < μ i))
    (h : agrS (lkR lo (S j).owns ren) env (S j).slots ∧ agrO (lkR lo (S j).owns ren) own (S j).owns ∧ IsT (somesB ren []) ∧ IsT (keysLt (S j).owns (S j).nk) ∧ IsT (geB lo ren) ∧ IsT (Nat.ble lo (S j).nk)) : ∃ j, μ j < μ i ∧ Wk lo env own (S j) :=
  ⟨j, by unfold Tell at hm; exact hm, wk_mk ren h⟩
/-- A loop of a function that is stepped into is run round by round. -/
theorem unr_in {lo : Nat} {T : AK → (Nat → AV) → (Nat → OB) → Nat → Prop} {K : AK} {env : Nat → AV} {own : Nat → OB} {nk : Nat} (n : Nat) (h : unrR T K n env own nk) : loopR (lo + 1) T K env own nk := Or.inl ⟨n, h⟩
theorem by_le {n b M : Nat} (c : Nat) (h : b = c) (h' : n * c ≤ M) : n * b ≤ M := by rw [h]; exact h'
theorem catI_zero (k : Option Nat) (P Q : Nat → Int) : catI 0 k P Q = Q := by
  cases k
  · rfl
  · funext j; simp [catI]
theorem catI_some (n k : Nat) (P Q : Nat → Int) (j : Nat) : catI n (some k) P Q j = if j < n then P j else Q (j - n) := rfl
theorem nums_N {k : IntKind} {P : Nat → Int} : (OB.nums k 0 P).N = 0 := rfl
/-- Lengths that a machine has. -/
def len0 : AV → Prop
  | .sl n _ _ => n ≤ 9223372036854775807
  | _ => True
def lenV0 : List AV → Prop
  | [] => True
  | v :: r => len0 v ∧ lenV0 r
def len1 : AV → Prop
  | .agg l => lenV0 l
  | v => len0 v
def lenV : List AV → Prop
  | [] => True
  | v :: r => len1 v ∧ lenV r
theorem len0_of {w : World} {σ : Nat → Option Nat} {Im : Nat → Prop} {v : AV} {u : Value} (h : Rd w σ Im v u) : len0 v := by
  cases h <;> try exact True.intro
  · exact Nat.zero_le _
  · rename_i h1 h2 _ _ _ _; exact Nat.le_trans h1 h2
theorem lenV0_of {w : World} {σ : Nat → Option Nat} {Im : Nat → Prop} : ∀ (l : List AV) (cs : Nat → Value), (∀ i, i < l.length → Rd w σ Im (l.getD i .any) (cs i)) → lenV0 l
  | [], _, _ => True.intro
  | v :: r, cs, h => ⟨len0_of (h 0 (Nat.zero_lt_succ _)), lenV0_of r (fun i => cs (i + 1)) fun i hi => h (i + 1) (Nat.succ_lt_succ hi)⟩
theorem len1_of {w : World} {σ : Nat → Option Nat} {Im : Nat → Prop} {v : AV} {u : Value} (h : Rd w σ Im v u) : len1 v := by
  cases h <;> try exact True.intro
  · exact Nat.zero_le _
  · rename_i h1 h2 _ _ _ _; exact Nat.le_trans h1 h2
  · rename_i l cs hs h1 hr; exact lenV0_of l (fun i => cs.getD i undef) hr
theorem lenV_of {w : World} {σ : Nat → Option Nat} {Im : Nat → Prop} : ∀ {l : List AV} {vs : List Value}, Two (Rd w σ Im) l vs → lenV l
  | _, _, .nil => True.intro
  | _, _, .cons h t => ⟨len1_of h, lenV_of t⟩
theorem acalls_len {P : Program} {f : FuncId} {args : List AV} {r : AV} (h : lenV args → ACalls P f args r) : ACalls P f args r :=
  fun w Im vals hIm ht => h (lenV_of ht) w Im vals hIm ht
end Ev
end Go.Proofs.YtphdjmaebdmdmaaGreatDoor
