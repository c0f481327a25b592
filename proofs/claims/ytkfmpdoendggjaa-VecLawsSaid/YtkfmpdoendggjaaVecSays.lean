/- The walk of the law VecSays. -/
import Derived.Test.YtkfmpdoendggjaaVecUnit
import Derived.Test.YtkfmpdoendggjaaVecSame
import Derived.Test.YtkfmpdoendggjaaVecArg
namespace Go.Proofs.Ytkfmpdoendggjaa
open Go.RowKit
set_option linter.unusedVariables false
set_option linter.unusedSimpArgs false
attribute [local go_sem] run_stf

def SSame (args : Array Value) (v : Value) : Prop := ∀ a1 a2 a3 b1 b2 b3, args = #[.agg #[.float .f64 a1, .float .f64 a2, .float .f64 a3], .agg #[.float .f64 b1, .float .f64 b2, .float .f64 b3]] → Hid (cn a1 = cn b1) → Hid (cn a2 = cn b2) → Hid (cn a3 = cn b3) → v = .bool true
theorem S_same (a1 a2 a3 b1 b2 b3 : Nat) (w : World) (h1 : Hid (cn a1 = cn b1)) (h2 : Hid (cn a2 = cn b2)) (h3 : Hid (cn a3 = cn b3)) : Calls Try.prog 9 #[.agg #[.float .f64 a1, .float .f64 a2, .float .f64 a3], .agg #[.float .f64 b1, .float .f64 b2, .float .f64 b3]] w fun e w' => ∃ v, SSame #[.agg #[.float .f64 a1, .float .f64 a2, .float .f64 a3], .agg #[.float .f64 b1, .float .f64 b2, .float .f64 b3]] v ∧ e = .returned v ∧ Below w.heap.size w w' :=
  (samevec_true a1 a2 a3 b1 b2 b3 w h1 h2 h3).mono fun e w' ⟨he, hb⟩ => ⟨_, by intro _ _ _ _ _ _ _ _ _ _; rfl, he, hb⟩
def SSame1 (args : Array Value) (v : Value) : Prop := ∀ a b, args = #[.float .f64 a, .float .f64 b] → Hid (cn a = cn b) → v = .bool true
theorem S_same1 (a b : Nat) (w : World) (h1 : Hid (cn a = cn b)) : Calls Try.prog 11 #[.float .f64 a, .float .f64 b] w fun e w' => ∃ v, SSame1 #[.float .f64 a, .float .f64 b] v ∧ e = .returned v ∧ Below w.heap.size w w' :=
  (same_true a b w h1).mono fun e w' ⟨he, n, hb⟩ => ⟨_, by intro _ _ _ _; rfl, he, by rw [hb]; exact below_drewN (Below.refl _ _) _⟩
def SNear (args : Array Value) (v : Value) : Prop := ∀ a, args = #[.float .f64 a] → v = .bool (nearB a)
def SFine (args : Array Value) (v : Value) : Prop := ∀ a1 a2 a3, args = #[.agg #[.float .f64 a1, .float .f64 a2, .float .f64 a3]] → v = .bool (fineB a1 a2 a3)
def SLen (args : Array Value) (v : Value) : Prop := ∀ a1 a2 a3, args = #[.agg #[.float .f64 a1, .float .f64 a2, .float .f64 a3]] → ∃ x, v = .float .f64 x ∧ cn x = lenF (cn a1) (cn a2) (cn a3)
def SCln (args : Array Value) (v : Value) : Prop := ∀ a1 a2 a3, args = #[.agg #[.float .f64 a1, .float .f64 a2, .float .f64 a3]] → v = .agg #[.float .f64 (cleanV a1), .float .f64 (cleanV a2), .float .f64 (cleanV a3)]
def SCross (args : Array Value) (v : Value) : Prop := ∀ a1 a2 a3 b1 b2 b3, args = #[.agg #[.float .f64 a1, .float .f64 a2, .float .f64 a3], .agg #[.float .f64 b1, .float .f64 b2, .float .f64 b3]] → ∃ x y z, v = .agg #[.float .f64 x, .float .f64 y, .float .f64 z] ∧ cn x = F .sub (F .mul (cn a2) (cn b3)) (F .mul (cn a3) (cn b2)) ∧ cn y = F .sub (F .mul (cn a3) (cn b1)) (F .mul (cn a1) (cn b3)) ∧ cn z = F .sub (F .mul (cn a1) (cn b2)) (F .mul (cn a2) (cn b1))
theorem S_near_any (a : Nat) (w : World) : Calls Try.prog 20 #[.float .f64 a] w fun e w' => ∃ v, SNear #[.float .f64 a] v ∧ e = .returned v ∧ Below w.heap.size w w' :=
  (near_any a w).mono fun e w' ⟨he, hb⟩ => ⟨_, by intro c h; simp at h; subst h; rfl, he, by rw [hb]; exact Below.refl _ _⟩
theorem S_fine_any (a1 a2 a3 : Nat) (w : World) : Calls Try.prog 8 #[.agg #[.float .f64 a1, .float .f64 a2, .float .f64 a3]] w fun e w' => ∃ v, SFine #[.agg #[.float .f64 a1, .float .f64 a2, .float .f64 a3]] v ∧ e = .returned v ∧ Below w.heap.size w w' :=
  (fine_any a1 a2 a3 w).mono fun e w' ⟨he, hb⟩ => ⟨_, by intro c1 c2 c3 h; simp at h; obtain ⟨rfl, rfl, rfl⟩ := h; rfl, he, hb⟩
theorem S_len_any (a1 a2 a3 : Nat) (w : World) : Calls Try.prog 30 #[.agg #[.float .f64 a1, .float .f64 a2, .float .f64 a3]] w fun e w' => ∃ v, SLen #[.agg #[.float .f64 a1, .float .f64 a2, .float .f64 a3]] v ∧ e = .returned v ∧ Below w.heap.size w w' :=
  (length_any a1 a2 a3 w).mono fun e w' ⟨x, he, hx, hb⟩ => ⟨_, by intro c1 c2 c3 h; simp at h; obtain ⟨rfl, rfl, rfl⟩ := h; exact ⟨x, rfl, hx⟩, he, hb⟩
theorem S_cln_any (a1 a2 a3 : Nat) (w : World) : Calls Try.prog 15 #[.agg #[.float .f64 a1, .float .f64 a2, .float .f64 a3]] w fun e w' => ∃ v, SCln #[.agg #[.float .f64 a1, .float .f64 a2, .float .f64 a3]] v ∧ e = .returned v ∧ Below w.heap.size w w' :=
  (cleanv_any a1 a2 a3 w).mono fun e w' ⟨he, hb⟩ => ⟨_, by intro c1 c2 c3 h; simp at h; obtain ⟨rfl, rfl, rfl⟩ := h; rfl, he, hb⟩
theorem S_cross_any (a1 a2 a3 b1 b2 b3 : Nat) (w : World) : Calls Try.prog 12 #[.agg #[.float .f64 a1, .float .f64 a2, .float .f64 a3], .agg #[.float .f64 b1, .float .f64 b2, .float .f64 b3]] w fun e w' => ∃ v, SCross #[.agg #[.float .f64 a1, .float .f64 a2, .float .f64 a3], .agg #[.float .f64 b1, .float .f64 b2, .float .f64 b3]] v ∧ e = .returned v ∧ Below w.heap.size w w' :=
  (cross_any a1 a2 a3 b1 b2 b3 w).mono fun e w' ⟨x, y, z, he, hx, hy, hz, hb⟩ => ⟨_, by intro c1 c2 c3 d1 d2 d3 h; simp at h; obtain ⟨⟨rfl, rfl, rfl⟩, rfl, rfl, rfl⟩ := h; exact ⟨x, y, z, rfl, hx, hy, hz⟩, he, hb⟩
theorem S_near_ref (a : Nat) (w : World) : Calls Try.prog 21 #[.float .f64 a] w fun e w' => ∃ v, SNear #[.float .f64 a] v ∧ e = .returned v ∧ Below w.heap.size w w' :=
  (near_ref a w).mono fun e w' ⟨he, hb⟩ => ⟨_, by intro c h; simp at h; subst h; rfl, he, by rw [hb]; exact Below.refl _ _⟩
theorem S_fine_ref (a1 a2 a3 : Nat) (w : World) : Calls Try.prog 22 #[.agg #[.float .f64 a1, .float .f64 a2, .float .f64 a3]] w fun e w' => ∃ v, SFine #[.agg #[.float .f64 a1, .float .f64 a2, .float .f64 a3]] v ∧ e = .returned v ∧ Below w.heap.size w w' :=
  (fine_ref a1 a2 a3 w).mono fun e w' ⟨he, hb⟩ => ⟨_, by intro c1 c2 c3 h; simp at h; obtain ⟨rfl, rfl, rfl⟩ := h; rfl, he, hb⟩
theorem S_len_ref (a1 a2 a3 : Nat) (w : World) : Calls Try.prog 31 #[.agg #[.float .f64 a1, .float .f64 a2, .float .f64 a3]] w fun e w' => ∃ v, SLen #[.agg #[.float .f64 a1, .float .f64 a2, .float .f64 a3]] v ∧ e = .returned v ∧ Below w.heap.size w w' :=
  (length_ref a1 a2 a3 w).mono fun e w' ⟨x, he, hx, hb⟩ => ⟨_, by intro c1 c2 c3 h; simp at h; obtain ⟨rfl, rfl, rfl⟩ := h; exact ⟨x, rfl, hx⟩, he, hb⟩
theorem S_cln_ref (a1 a2 a3 : Nat) (w : World) : Calls Try.prog 32 #[.agg #[.float .f64 a1, .float .f64 a2, .float .f64 a3]] w fun e w' => ∃ v, SCln #[.agg #[.float .f64 a1, .float .f64 a2, .float .f64 a3]] v ∧ e = .returned v ∧ Below w.heap.size w w' :=
  (cleanv_ref a1 a2 a3 w).mono fun e w' ⟨he, hb⟩ => ⟨_, by intro c1 c2 c3 h; simp at h; obtain ⟨rfl, rfl, rfl⟩ := h; rfl, he, hb⟩
theorem S_cross_ref (a1 a2 a3 b1 b2 b3 : Nat) (w : World) : Calls Try.prog 29 #[.agg #[.float .f64 a1, .float .f64 a2, .float .f64 a3], .agg #[.float .f64 b1, .float .f64 b2, .float .f64 b3]] w fun e w' => ∃ v, SCross #[.agg #[.float .f64 a1, .float .f64 a2, .float .f64 a3], .agg #[.float .f64 b1, .float .f64 b2, .float .f64 b3]] v ∧ e = .returned v ∧ Below w.heap.size w w' :=
  (cross_ref a1 a2 a3 b1 b2 b3 w).mono fun e w' ⟨x, y, z, he, hx, hy, hz, hb⟩ => ⟨_, by intro c1 c2 c3 d1 d2 d3 h; simp at h; obtain ⟨⟨rfl, rfl, rfl⟩, rfl, rfl, rfl⟩ := h; exact ⟨x, y, z, rfl, hx, hy, hz⟩, he, hb⟩

set_option maxHeartbeats 4000000 in
theorem vecSays_walk (a1 a2 a3 b1 b2 b3 k : Nat) (w : World) :
    Calls Try.prog 6 #[.agg #[.float .f64 a1, .float .f64 a2, .float .f64 a3], .agg #[.float .f64 b1, .float .f64 b2, .float .f64 b3], .float .f64 k] w fun e w' => e = .returned (.bool true) ∧ Below w.heap.size w w' := by
  go_enter Try.func6, Try.ntmps6
  go_wp2_with fail
  obtain ⟨W, hWW⟩ : ∃ W, W = ((w.alloc (.cells #[.float .f64 a1, .float .f64 a2, .float .f64 a3] 25)).alloc (.cells #[.float .f64 b1, .float .f64 b2, .float .f64 b3] 25)) := ⟨_, rfl⟩
  have ra : Row W (w.heap.size) 25 #[.float .f64 a1, .float .f64 a2, .float .f64 a3] := by rw [hWW]; have := ((Row.new w 25 #[.float .f64 a1, .float .f64 a2, .float .f64 a3]).alloc (.cells #[.float .f64 b1, .float .f64 b2, .float .f64 b3] 25)); simpa using this
  have rb : Row W (w.heap.size + 1) 25 #[.float .f64 b1, .float .f64 b2, .float .f64 b3] := by rw [hWW]; have := (Row.new (w.alloc (.cells #[.float .f64 a1, .float .f64 a2, .float .f64 a3] 25)) 25 #[.float .f64 b1, .float .f64 b2, .float .f64 b3]); simpa using this
  have hbW : Below w.heap.size w W := by rw [hWW]; exact bel_alloc (bel_alloc (Below.refl _ _) _) _
  rw [← hWW]
  clear hWW
  have cela0 := fun w' (h : Below W.heap.size W w') => (ra.below h ra.lt).cell 0
  simp only [List.size_toArray, List.length_cons, List.getElem?_toArray, List.getElem?_cons_zero, List.getElem?_cons_succ] at cela0
  have cela1 := fun w' (h : Below W.heap.size W w') => (ra.below h ra.lt).cell 1
  simp only [List.size_toArray, List.length_cons, List.getElem?_toArray, List.getElem?_cons_zero, List.getElem?_cons_succ] at cela1
  have cela2 := fun w' (h : Below W.heap.size W w') => (ra.below h ra.lt).cell 2
  simp only [List.size_toArray, List.length_cons, List.getElem?_toArray, List.getElem?_cons_zero, List.getElem?_cons_succ] at cela2
  have celb0 := fun w' (h : Below W.heap.size W w') => (rb.below h rb.lt).cell 0
  simp only [List.size_toArray, List.length_cons, List.getElem?_toArray, List.getElem?_cons_zero, List.getElem?_cons_succ] at celb0
  have celb1 := fun w' (h : Below W.heap.size W w') => (rb.below h rb.lt).cell 1
  simp only [List.size_toArray, List.length_cons, List.getElem?_toArray, List.getElem?_cons_zero, List.getElem?_cons_succ] at celb1
  have celb2 := fun w' (h : Below W.heap.size W w') => (rb.below h rb.lt).cell 2
  simp only [List.size_toArray, List.length_cons, List.getElem?_toArray, List.getElem?_cons_zero, List.getElem?_cons_succ] at celb2
  refine wp_region_fair (n := 52) (C := fun w' => Below W.heap.size W w') (G := fun f args v => (f = 20 → SNear args v) ∧ (f = 21 → SNear args v) ∧ (f = 8 → SFine args v) ∧ (f = 22 → SFine args v) ∧ (f = 9 → SSame args v) ∧ (f = 10 → SBin .add args v) ∧ (f = 23 → SBin .add args v) ∧ (f = 24 → SBin .sub args v) ∧ (f = 25 → SBin .sub args v) ∧ (f = 13 → SKin .mul args v) ∧ (f = 26 → SKin .mul args v) ∧ (f = 14 → SKin .quo args v) ∧ (f = 27 → SKin .quo args v)) (by kernel_rfl) (by kernel_rfl) (below_drewN (Below.refl _ _) 1) ?_
  simp only [List.take_succ_cons, List.take_zero, List.drop_succ_cons, List.drop_zero]
  repeat (refine fair_val rfl (fun w' hw' => by go_simp; with_reducible rfl) ?_; simp only [Act.put, List.setIfInBounds_toArray, List.set_cons_zero, List.set_cons_succ])
  apply fair_call rfl
  · intro w' hw'
    go_simp
    exact ⟨rfl, rfl⟩
  · intro w' hw'
    refine (S_near_any _ w').mono ?_
    rintro e w'' ⟨v, hs, he, hb⟩
    exact ⟨v, by refine ⟨?_, ?_, ?_, ?_, ?_, ?_, ?_, ?_, ?_, ?_, ?_, ?_, ?_⟩ <;> intro h <;> first | exact hs | exact absurd h (by decide), he, hw'.trans (hb.mono hw'.size)⟩
  intro v hv
  obtain rfl := hv.1 rfl _ rfl
  clear hv
  simp only [Act.put, List.setIfInBounds_toArray, List.set_cons_zero, List.set_cons_succ]
  repeat (refine fair_val rfl (fun w' hw' => by go_simp; with_reducible rfl) ?_; simp only [Act.put, List.setIfInBounds_toArray, List.set_cons_zero, List.set_cons_succ])
  apply fair_call rfl
  · intro w' hw'
    go_simp
    exact ⟨rfl, rfl⟩
  · intro w' hw'
    refine (S_near_ref _ w').mono ?_
    rintro e w'' ⟨v, hs, he, hb⟩
    exact ⟨v, by refine ⟨?_, ?_, ?_, ?_, ?_, ?_, ?_, ?_, ?_, ?_, ?_, ?_, ?_⟩ <;> intro h <;> first | exact hs | exact absurd h (by decide), he, hw'.trans (hb.mono hw'.size)⟩
  intro v hv
  obtain rfl := hv.2.1 rfl _ rfl
  clear hv
  simp only [Act.put, List.setIfInBounds_toArray, List.set_cons_zero, List.set_cons_succ]
  repeat (refine fair_val rfl (fun w' hw' => by go_simp; with_reducible rfl) ?_; simp only [Act.put, List.setIfInBounds_toArray, List.set_cons_zero, List.set_cons_succ])
  apply fair_call rfl
  · intro w' hw'
    go_simp
    exact ⟨rfl, rfl⟩
  · intro w' hw'
    refine (S_fine_any _ _ _ w').mono ?_
    rintro e w'' ⟨v, hs, he, hb⟩
    exact ⟨v, by refine ⟨?_, ?_, ?_, ?_, ?_, ?_, ?_, ?_, ?_, ?_, ?_, ?_, ?_⟩ <;> intro h <;> first | exact hs | exact absurd h (by decide), he, hw'.trans (hb.mono hw'.size)⟩
  intro v hv
  obtain rfl := hv.2.2.1 rfl _ _ _ rfl
  clear hv
  simp only [Act.put, List.setIfInBounds_toArray, List.set_cons_zero, List.set_cons_succ]
  repeat (refine fair_val rfl (fun w' hw' => by go_simp; with_reducible rfl) ?_; simp only [Act.put, List.setIfInBounds_toArray, List.set_cons_zero, List.set_cons_succ])
  apply fair_call rfl
  · intro w' hw'
    go_simp
    exact ⟨rfl, rfl⟩
  · intro w' hw'
    refine (S_fine_ref _ _ _ w').mono ?_
    rintro e w'' ⟨v, hs, he, hb⟩
    exact ⟨v, by refine ⟨?_, ?_, ?_, ?_, ?_, ?_, ?_, ?_, ?_, ?_, ?_, ?_, ?_⟩ <;> intro h <;> first | exact hs | exact absurd h (by decide), he, hw'.trans (hb.mono hw'.size)⟩
  intro v hv
  obtain rfl := hv.2.2.2.1 rfl _ _ _ rfl
  clear hv
  simp only [Act.put, List.setIfInBounds_toArray, List.set_cons_zero, List.set_cons_succ]
  repeat (refine fair_val rfl (fun w' hw' => by go_simp; with_reducible rfl) ?_; simp only [Act.put, List.setIfInBounds_toArray, List.set_cons_zero, List.set_cons_succ])
  apply fair_call rfl
  · intro w' hw'
    go_simp
    exact ⟨rfl, rfl⟩
  · intro w' hw'
    refine (S_add_any _ _ _ _ _ _ w').mono ?_
    rintro e w'' ⟨v, hs, he, hb⟩
    exact ⟨v, by refine ⟨?_, ?_, ?_, ?_, ?_, ?_, ?_, ?_, ?_, ?_, ?_, ?_, ?_⟩ <;> intro h <;> first | exact hs | exact absurd h (by decide), he, hw'.trans (hb.mono hw'.size)⟩
  intro v hv
  obtain ⟨p1, p2, p3, rfl, hp1, hp2, hp3⟩ := hv.2.2.2.2.2.1 rfl _ _ _ _ _ _ rfl
  clear hv
  simp only [Act.put, List.setIfInBounds_toArray, List.set_cons_zero, List.set_cons_succ]
  repeat (refine fair_val rfl (fun w' hw' => by go_simp; with_reducible rfl) ?_; simp only [Act.put, List.setIfInBounds_toArray, List.set_cons_zero, List.set_cons_succ])
  apply fair_call rfl
  · intro w' hw'
    go_simp
    exact ⟨rfl, rfl⟩
  · intro w' hw'
    refine (S_add_ref _ _ _ _ _ _ w').mono ?_
    rintro e w'' ⟨v, hs, he, hb⟩
    exact ⟨v, by refine ⟨?_, ?_, ?_, ?_, ?_, ?_, ?_, ?_, ?_, ?_, ?_, ?_, ?_⟩ <;> intro h <;> first | exact hs | exact absurd h (by decide), he, hw'.trans (hb.mono hw'.size)⟩
  intro v hv
  obtain ⟨q1, q2, q3, rfl, hq1, hq2, hq3⟩ := hv.2.2.2.2.2.2.1 rfl _ _ _ _ _ _ rfl
  clear hv
  simp only [Act.put, List.setIfInBounds_toArray, List.set_cons_zero, List.set_cons_succ]
  have u1 : Hid (cn p1 = cn q1) := hid (hp1.trans hq1.symm)
  have u2 : Hid (cn p2 = cn q2) := hid (hp2.trans hq2.symm)
  have u3 : Hid (cn p3 = cn q3) := hid (hp3.trans hq3.symm)
  clear hp1 hp2 hp3 hq1 hq2 hq3
  repeat (refine fair_val rfl (fun w' hw' => by go_simp; with_reducible rfl) ?_; simp only [Act.put, List.setIfInBounds_toArray, List.set_cons_zero, List.set_cons_succ])
  apply fair_call rfl
  · intro w' hw'
    go_simp
    exact ⟨rfl, rfl⟩
  · intro w' hw'
    refine (S_same _ _ _ _ _ _ w' u1 u2 u3).mono ?_
    rintro e w'' ⟨v, hs, he, hb⟩
    exact ⟨v, by refine ⟨?_, ?_, ?_, ?_, ?_, ?_, ?_, ?_, ?_, ?_, ?_, ?_, ?_⟩ <;> intro h <;> first | exact hs | exact absurd h (by decide), he, hw'.trans (hb.mono hw'.size)⟩
  intro v hv
  obtain rfl := hv.2.2.2.2.1 rfl _ _ _ _ _ _ rfl u1 u2 u3
  clear hv
  simp only [Act.put, List.setIfInBounds_toArray, List.set_cons_zero, List.set_cons_succ]
  repeat (refine fair_val rfl (fun w' hw' => by go_simp; with_reducible rfl) ?_; simp only [Act.put, List.setIfInBounds_toArray, List.set_cons_zero, List.set_cons_succ])
  clear u1 u2 u3
  apply fair_call rfl
  · intro w' hw'
    go_simp
    exact ⟨rfl, rfl⟩
  · intro w' hw'
    refine (S_sub_any _ _ _ _ _ _ w').mono ?_
    rintro e w'' ⟨v, hs, he, hb⟩
    exact ⟨v, by refine ⟨?_, ?_, ?_, ?_, ?_, ?_, ?_, ?_, ?_, ?_, ?_, ?_, ?_⟩ <;> intro h <;> first | exact hs | exact absurd h (by decide), he, hw'.trans (hb.mono hw'.size)⟩
  intro v hv
  obtain ⟨p1, p2, p3, rfl, hp1, hp2, hp3⟩ := hv.2.2.2.2.2.2.2.1 rfl _ _ _ _ _ _ rfl
  clear hv
  simp only [Act.put, List.setIfInBounds_toArray, List.set_cons_zero, List.set_cons_succ]
  repeat (refine fair_val rfl (fun w' hw' => by go_simp; with_reducible rfl) ?_; simp only [Act.put, List.setIfInBounds_toArray, List.set_cons_zero, List.set_cons_succ])
  apply fair_call rfl
  · intro w' hw'
    go_simp
    exact ⟨rfl, rfl⟩
  · intro w' hw'
    refine (S_sub_ref _ _ _ _ _ _ w').mono ?_
    rintro e w'' ⟨v, hs, he, hb⟩
    exact ⟨v, by refine ⟨?_, ?_, ?_, ?_, ?_, ?_, ?_, ?_, ?_, ?_, ?_, ?_, ?_⟩ <;> intro h <;> first | exact hs | exact absurd h (by decide), he, hw'.trans (hb.mono hw'.size)⟩
  intro v hv
  obtain ⟨q1, q2, q3, rfl, hq1, hq2, hq3⟩ := hv.2.2.2.2.2.2.2.2.1 rfl _ _ _ _ _ _ rfl
  clear hv
  simp only [Act.put, List.setIfInBounds_toArray, List.set_cons_zero, List.set_cons_succ]
  have u1 : Hid (cn p1 = cn q1) := hid (hp1.trans hq1.symm)
  have u2 : Hid (cn p2 = cn q2) := hid (hp2.trans hq2.symm)
  have u3 : Hid (cn p3 = cn q3) := hid (hp3.trans hq3.symm)
  clear hp1 hp2 hp3 hq1 hq2 hq3
  repeat (refine fair_val rfl (fun w' hw' => by go_simp; with_reducible rfl) ?_; simp only [Act.put, List.setIfInBounds_toArray, List.set_cons_zero, List.set_cons_succ])
  apply fair_call rfl
  · intro w' hw'
    go_simp
    exact ⟨rfl, rfl⟩
  · intro w' hw'
    refine (S_same _ _ _ _ _ _ w' u1 u2 u3).mono ?_
    rintro e w'' ⟨v, hs, he, hb⟩
    exact ⟨v, by refine ⟨?_, ?_, ?_, ?_, ?_, ?_, ?_, ?_, ?_, ?_, ?_, ?_, ?_⟩ <;> intro h <;> first | exact hs | exact absurd h (by decide), he, hw'.trans (hb.mono hw'.size)⟩
  intro v hv
  obtain rfl := hv.2.2.2.2.1 rfl _ _ _ _ _ _ rfl u1 u2 u3
  clear hv
  simp only [Act.put, List.setIfInBounds_toArray, List.set_cons_zero, List.set_cons_succ]
  repeat (refine fair_val rfl (fun w' hw' => by go_simp; with_reducible rfl) ?_; simp only [Act.put, List.setIfInBounds_toArray, List.set_cons_zero, List.set_cons_succ])
  clear u1 u2 u3
  apply fair_call rfl
  · intro w' hw'
    go_simp
    exact ⟨rfl, rfl⟩
  · intro w' hw'
    refine (S_scale_any _ _ _ _ w').mono ?_
    rintro e w'' ⟨v, hs, he, hb⟩
    exact ⟨v, by refine ⟨?_, ?_, ?_, ?_, ?_, ?_, ?_, ?_, ?_, ?_, ?_, ?_, ?_⟩ <;> intro h <;> first | exact hs | exact absurd h (by decide), he, hw'.trans (hb.mono hw'.size)⟩
  intro v hv
  obtain ⟨p1, p2, p3, rfl, hp1, hp2, hp3⟩ := hv.2.2.2.2.2.2.2.2.2.1 rfl _ _ _ _ rfl
  clear hv
  simp only [Act.put, List.setIfInBounds_toArray, List.set_cons_zero, List.set_cons_succ]
  repeat (refine fair_val rfl (fun w' hw' => by go_simp; with_reducible rfl) ?_; simp only [Act.put, List.setIfInBounds_toArray, List.set_cons_zero, List.set_cons_succ])
  apply fair_call rfl
  · intro w' hw'
    go_simp
    exact ⟨rfl, rfl⟩
  · intro w' hw'
    refine (S_scale_ref _ _ _ _ w').mono ?_
    rintro e w'' ⟨v, hs, he, hb⟩
    exact ⟨v, by refine ⟨?_, ?_, ?_, ?_, ?_, ?_, ?_, ?_, ?_, ?_, ?_, ?_, ?_⟩ <;> intro h <;> first | exact hs | exact absurd h (by decide), he, hw'.trans (hb.mono hw'.size)⟩
  intro v hv
  obtain ⟨q1, q2, q3, rfl, hq1, hq2, hq3⟩ := hv.2.2.2.2.2.2.2.2.2.2.1 rfl _ _ _ _ rfl
  clear hv
  simp only [Act.put, List.setIfInBounds_toArray, List.set_cons_zero, List.set_cons_succ]
  have u1 : Hid (cn p1 = cn q1) := hid (hp1.trans hq1.symm)
  have u2 : Hid (cn p2 = cn q2) := hid (hp2.trans hq2.symm)
  have u3 : Hid (cn p3 = cn q3) := hid (hp3.trans hq3.symm)
  clear hp1 hp2 hp3 hq1 hq2 hq3
  repeat (refine fair_val rfl (fun w' hw' => by go_simp; with_reducible rfl) ?_; simp only [Act.put, List.setIfInBounds_toArray, List.set_cons_zero, List.set_cons_succ])
  apply fair_call rfl
  · intro w' hw'
    go_simp
    exact ⟨rfl, rfl⟩
  · intro w' hw'
    refine (S_same _ _ _ _ _ _ w' u1 u2 u3).mono ?_
    rintro e w'' ⟨v, hs, he, hb⟩
    exact ⟨v, by refine ⟨?_, ?_, ?_, ?_, ?_, ?_, ?_, ?_, ?_, ?_, ?_, ?_, ?_⟩ <;> intro h <;> first | exact hs | exact absurd h (by decide), he, hw'.trans (hb.mono hw'.size)⟩
  intro v hv
  obtain rfl := hv.2.2.2.2.1 rfl _ _ _ _ _ _ rfl u1 u2 u3
  clear hv
  simp only [Act.put, List.setIfInBounds_toArray, List.set_cons_zero, List.set_cons_succ]
  repeat (refine fair_val rfl (fun w' hw' => by go_simp; with_reducible rfl) ?_; simp only [Act.put, List.setIfInBounds_toArray, List.set_cons_zero, List.set_cons_succ])
  clear u1 u2 u3
  apply fair_call rfl
  · intro w' hw'
    go_simp
    exact ⟨rfl, rfl⟩
  · intro w' hw'
    refine (S_over_any _ _ _ _ w').mono ?_
    rintro e w'' ⟨v, hs, he, hb⟩
    exact ⟨v, by refine ⟨?_, ?_, ?_, ?_, ?_, ?_, ?_, ?_, ?_, ?_, ?_, ?_, ?_⟩ <;> intro h <;> first | exact hs | exact absurd h (by decide), he, hw'.trans (hb.mono hw'.size)⟩
  intro v hv
  obtain ⟨p1, p2, p3, rfl, hp1, hp2, hp3⟩ := hv.2.2.2.2.2.2.2.2.2.2.2.1 rfl _ _ _ _ rfl
  clear hv
  simp only [Act.put, List.setIfInBounds_toArray, List.set_cons_zero, List.set_cons_succ]
  repeat (refine fair_val rfl (fun w' hw' => by go_simp; with_reducible rfl) ?_; simp only [Act.put, List.setIfInBounds_toArray, List.set_cons_zero, List.set_cons_succ])
  apply fair_call rfl
  · intro w' hw'
    go_simp
    exact ⟨rfl, rfl⟩
  · intro w' hw'
    refine (S_over_ref _ _ _ _ w').mono ?_
    rintro e w'' ⟨v, hs, he, hb⟩
    exact ⟨v, by refine ⟨?_, ?_, ?_, ?_, ?_, ?_, ?_, ?_, ?_, ?_, ?_, ?_, ?_⟩ <;> intro h <;> first | exact hs | exact absurd h (by decide), he, hw'.trans (hb.mono hw'.size)⟩
  intro v hv
  obtain ⟨q1, q2, q3, rfl, hq1, hq2, hq3⟩ := hv.2.2.2.2.2.2.2.2.2.2.2.2 rfl _ _ _ _ rfl
  clear hv
  simp only [Act.put, List.setIfInBounds_toArray, List.set_cons_zero, List.set_cons_succ]
  have u1 : Hid (cn p1 = cn q1) := hid (hp1.trans hq1.symm)
  have u2 : Hid (cn p2 = cn q2) := hid (hp2.trans hq2.symm)
  have u3 : Hid (cn p3 = cn q3) := hid (hp3.trans hq3.symm)
  clear hp1 hp2 hp3 hq1 hq2 hq3
  repeat (refine fair_val rfl (fun w' hw' => by go_simp; with_reducible rfl) ?_; simp only [Act.put, List.setIfInBounds_toArray, List.set_cons_zero, List.set_cons_succ])
  apply fair_call rfl
  · intro w' hw'
    go_simp
    exact ⟨rfl, rfl⟩
  · intro w' hw'
    refine (S_same _ _ _ _ _ _ w' u1 u2 u3).mono ?_
    rintro e w'' ⟨v, hs, he, hb⟩
    exact ⟨v, by refine ⟨?_, ?_, ?_, ?_, ?_, ?_, ?_, ?_, ?_, ?_, ?_, ?_, ?_⟩ <;> intro h <;> first | exact hs | exact absurd h (by decide), he, hw'.trans (hb.mono hw'.size)⟩
  intro v hv
  obtain rfl := hv.2.2.2.2.1 rfl _ _ _ _ _ _ rfl u1 u2 u3
  clear hv
  simp only [Act.put, List.setIfInBounds_toArray, List.set_cons_zero, List.set_cons_succ]
  repeat (refine fair_val rfl (fun w' hw' => by go_simp; with_reducible rfl) ?_; simp only [Act.put, List.setIfInBounds_toArray, List.set_cons_zero, List.set_cons_succ])
  clear u1 u2 u3
  refine fair_nil ?_
  intro w1 hb1
  clear cela0 cela1 cela2 celb0 celb1 celb2
  replace ra := ra.below hb1 ra.lt
  replace rb := rb.below hb1 rb.lt
  replace hbW := hbW.trans (hb1.mono hbW.size)
  clear hb1
  go_wp2_with fail
  have cela0 := fun w' (h : Below w1.heap.size w1 w') => (ra.below h ra.lt).cell 0
  simp only [List.size_toArray, List.length_cons, List.getElem?_toArray, List.getElem?_cons_zero, List.getElem?_cons_succ] at cela0
  have cela1 := fun w' (h : Below w1.heap.size w1 w') => (ra.below h ra.lt).cell 1
  simp only [List.size_toArray, List.length_cons, List.getElem?_toArray, List.getElem?_cons_zero, List.getElem?_cons_succ] at cela1
  have cela2 := fun w' (h : Below w1.heap.size w1 w') => (ra.below h ra.lt).cell 2
  simp only [List.size_toArray, List.length_cons, List.getElem?_toArray, List.getElem?_cons_zero, List.getElem?_cons_succ] at cela2
  have celb0 := fun w' (h : Below w1.heap.size w1 w') => (rb.below h rb.lt).cell 0
  simp only [List.size_toArray, List.length_cons, List.getElem?_toArray, List.getElem?_cons_zero, List.getElem?_cons_succ] at celb0
  have celb1 := fun w' (h : Below w1.heap.size w1 w') => (rb.below h rb.lt).cell 1
  simp only [List.size_toArray, List.length_cons, List.getElem?_toArray, List.getElem?_cons_zero, List.getElem?_cons_succ] at celb1
  have celb2 := fun w' (h : Below w1.heap.size w1 w') => (rb.below h rb.lt).cell 2
  simp only [List.size_toArray, List.length_cons, List.getElem?_toArray, List.getElem?_cons_zero, List.getElem?_cons_succ] at celb2
  refine wp_region_fair (n := 34) (C := fun w' => Below w1.heap.size w1 w') (G := fun f args v => (f = 7 → SDot args v) ∧ (f = 28 → SDot args v) ∧ (f = 11 → SSame1 args v) ∧ (f = 12 → SCross args v) ∧ (f = 29 → SCross args v) ∧ (f = 9 → SSame args v) ∧ (f = 30 → SLen args v) ∧ (f = 31 → SLen args v) ∧ (f = 15 → SCln args v) ∧ (f = 32 → SCln args v)) (by kernel_rfl) (by kernel_rfl) (below_drewN (Below.refl _ _) 1) ?_
  simp only [List.take_succ_cons, List.take_zero, List.drop_succ_cons, List.drop_zero]
  repeat (refine fair_val rfl (fun w' hw' => by go_simp; with_reducible rfl) ?_; simp only [Act.put, List.setIfInBounds_toArray, List.set_cons_zero, List.set_cons_succ])
  apply fair_call rfl
  · intro w' hw'
    go_simp
    exact ⟨rfl, rfl⟩
  · intro w' hw'
    refine (S_dot_any _ _ _ _ _ _ w').mono ?_
    rintro e w'' ⟨v, hs, he, hb⟩
    exact ⟨v, by refine ⟨?_, ?_, ?_, ?_, ?_, ?_, ?_, ?_, ?_, ?_⟩ <;> intro h <;> first | exact hs | exact absurd h (by decide), he, hw'.trans (hb.mono hw'.size)⟩
  intro v hv
  obtain ⟨x, rfl, hx⟩ := hv.1 rfl _ _ _ _ _ _ rfl
  clear hv
  simp only [Act.put, List.setIfInBounds_toArray, List.set_cons_zero, List.set_cons_succ]
  repeat (refine fair_val rfl (fun w' hw' => by go_simp; with_reducible rfl) ?_; simp only [Act.put, List.setIfInBounds_toArray, List.set_cons_zero, List.set_cons_succ])
  apply fair_call rfl
  · intro w' hw'
    go_simp
    exact ⟨rfl, rfl⟩
  · intro w' hw'
    refine (S_dot_ref _ _ _ _ _ _ w').mono ?_
    rintro e w'' ⟨v, hs, he, hb⟩
    exact ⟨v, by refine ⟨?_, ?_, ?_, ?_, ?_, ?_, ?_, ?_, ?_, ?_⟩ <;> intro h <;> first | exact hs | exact absurd h (by decide), he, hw'.trans (hb.mono hw'.size)⟩
  intro v hv
  obtain ⟨y, rfl, hy⟩ := hv.2.1 rfl _ _ _ _ _ _ rfl
  clear hv
  simp only [Act.put, List.setIfInBounds_toArray, List.set_cons_zero, List.set_cons_succ]
  have u1 : Hid (cn x = cn y) := hid (hx.trans hy.symm)
  clear hx hy
  repeat (refine fair_val rfl (fun w' hw' => by go_simp; with_reducible rfl) ?_; simp only [Act.put, List.setIfInBounds_toArray, List.set_cons_zero, List.set_cons_succ])
  apply fair_call rfl
  · intro w' hw'
    go_simp
    exact ⟨rfl, rfl⟩
  · intro w' hw'
    refine (S_same1 _ _ w' u1).mono ?_
    rintro e w'' ⟨v, hs, he, hb⟩
    exact ⟨v, by refine ⟨?_, ?_, ?_, ?_, ?_, ?_, ?_, ?_, ?_, ?_⟩ <;> intro h <;> first | exact hs | exact absurd h (by decide), he, hw'.trans (hb.mono hw'.size)⟩
  intro v hv
  obtain rfl := hv.2.2.1 rfl _ _ rfl u1
  clear hv
  simp only [Act.put, List.setIfInBounds_toArray, List.set_cons_zero, List.set_cons_succ]
  repeat (refine fair_val rfl (fun w' hw' => by go_simp; with_reducible rfl) ?_; simp only [Act.put, List.setIfInBounds_toArray, List.set_cons_zero, List.set_cons_succ])
  clear u1
  apply fair_call rfl
  · intro w' hw'
    go_simp
    exact ⟨rfl, rfl⟩
  · intro w' hw'
    refine (S_cross_any _ _ _ _ _ _ w').mono ?_
    rintro e w'' ⟨v, hs, he, hb⟩
    exact ⟨v, by refine ⟨?_, ?_, ?_, ?_, ?_, ?_, ?_, ?_, ?_, ?_⟩ <;> intro h <;> first | exact hs | exact absurd h (by decide), he, hw'.trans (hb.mono hw'.size)⟩
  intro v hv
  obtain ⟨p1, p2, p3, rfl, hp1, hp2, hp3⟩ := hv.2.2.2.1 rfl _ _ _ _ _ _ rfl
  clear hv
  simp only [Act.put, List.setIfInBounds_toArray, List.set_cons_zero, List.set_cons_succ]
  repeat (refine fair_val rfl (fun w' hw' => by go_simp; with_reducible rfl) ?_; simp only [Act.put, List.setIfInBounds_toArray, List.set_cons_zero, List.set_cons_succ])
  apply fair_call rfl
  · intro w' hw'
    go_simp
    exact ⟨rfl, rfl⟩
  · intro w' hw'
    refine (S_cross_ref _ _ _ _ _ _ w').mono ?_
    rintro e w'' ⟨v, hs, he, hb⟩
    exact ⟨v, by refine ⟨?_, ?_, ?_, ?_, ?_, ?_, ?_, ?_, ?_, ?_⟩ <;> intro h <;> first | exact hs | exact absurd h (by decide), he, hw'.trans (hb.mono hw'.size)⟩
  intro v hv
  obtain ⟨q1, q2, q3, rfl, hq1, hq2, hq3⟩ := hv.2.2.2.2.1 rfl _ _ _ _ _ _ rfl
  clear hv
  simp only [Act.put, List.setIfInBounds_toArray, List.set_cons_zero, List.set_cons_succ]
  have u1 : Hid (cn p1 = cn q1) := hid (hp1.trans hq1.symm)
  have u2 : Hid (cn p2 = cn q2) := hid (hp2.trans hq2.symm)
  have u3 : Hid (cn p3 = cn q3) := hid (hp3.trans hq3.symm)
  clear hp1 hp2 hp3 hq1 hq2 hq3
  repeat (refine fair_val rfl (fun w' hw' => by go_simp; with_reducible rfl) ?_; simp only [Act.put, List.setIfInBounds_toArray, List.set_cons_zero, List.set_cons_succ])
  apply fair_call rfl
  · intro w' hw'
    go_simp
    exact ⟨rfl, rfl⟩
  · intro w' hw'
    refine (S_same _ _ _ _ _ _ w' u1 u2 u3).mono ?_
    rintro e w'' ⟨v, hs, he, hb⟩
    exact ⟨v, by refine ⟨?_, ?_, ?_, ?_, ?_, ?_, ?_, ?_, ?_, ?_⟩ <;> intro h <;> first | exact hs | exact absurd h (by decide), he, hw'.trans (hb.mono hw'.size)⟩
  intro v hv
  obtain rfl := hv.2.2.2.2.2.1 rfl _ _ _ _ _ _ rfl u1 u2 u3
  clear hv
  simp only [Act.put, List.setIfInBounds_toArray, List.set_cons_zero, List.set_cons_succ]
  repeat (refine fair_val rfl (fun w' hw' => by go_simp; with_reducible rfl) ?_; simp only [Act.put, List.setIfInBounds_toArray, List.set_cons_zero, List.set_cons_succ])
  clear u1 u2 u3
  apply fair_call rfl
  · intro w' hw'
    go_simp
    exact ⟨rfl, rfl⟩
  · intro w' hw'
    refine (S_len_any _ _ _ w').mono ?_
    rintro e w'' ⟨v, hs, he, hb⟩
    exact ⟨v, by refine ⟨?_, ?_, ?_, ?_, ?_, ?_, ?_, ?_, ?_, ?_⟩ <;> intro h <;> first | exact hs | exact absurd h (by decide), he, hw'.trans (hb.mono hw'.size)⟩
  intro v hv
  obtain ⟨x, rfl, hx⟩ := hv.2.2.2.2.2.2.1 rfl _ _ _ rfl
  clear hv
  simp only [Act.put, List.setIfInBounds_toArray, List.set_cons_zero, List.set_cons_succ]
  repeat (refine fair_val rfl (fun w' hw' => by go_simp; with_reducible rfl) ?_; simp only [Act.put, List.setIfInBounds_toArray, List.set_cons_zero, List.set_cons_succ])
  apply fair_call rfl
  · intro w' hw'
    go_simp
    exact ⟨rfl, rfl⟩
  · intro w' hw'
    refine (S_len_ref _ _ _ w').mono ?_
    rintro e w'' ⟨v, hs, he, hb⟩
    exact ⟨v, by refine ⟨?_, ?_, ?_, ?_, ?_, ?_, ?_, ?_, ?_, ?_⟩ <;> intro h <;> first | exact hs | exact absurd h (by decide), he, hw'.trans (hb.mono hw'.size)⟩
  intro v hv
  obtain ⟨y, rfl, hy⟩ := hv.2.2.2.2.2.2.2.1 rfl _ _ _ rfl
  clear hv
  simp only [Act.put, List.setIfInBounds_toArray, List.set_cons_zero, List.set_cons_succ]
  have u1 : Hid (cn x = cn y) := hid (hx.trans hy.symm)
  clear hx hy
  repeat (refine fair_val rfl (fun w' hw' => by go_simp; with_reducible rfl) ?_; simp only [Act.put, List.setIfInBounds_toArray, List.set_cons_zero, List.set_cons_succ])
  apply fair_call rfl
  · intro w' hw'
    go_simp
    exact ⟨rfl, rfl⟩
  · intro w' hw'
    refine (S_same1 _ _ w' u1).mono ?_
    rintro e w'' ⟨v, hs, he, hb⟩
    exact ⟨v, by refine ⟨?_, ?_, ?_, ?_, ?_, ?_, ?_, ?_, ?_, ?_⟩ <;> intro h <;> first | exact hs | exact absurd h (by decide), he, hw'.trans (hb.mono hw'.size)⟩
  intro v hv
  obtain rfl := hv.2.2.1 rfl _ _ rfl u1
  clear hv
  simp only [Act.put, List.setIfInBounds_toArray, List.set_cons_zero, List.set_cons_succ]
  repeat (refine fair_val rfl (fun w' hw' => by go_simp; with_reducible rfl) ?_; simp only [Act.put, List.setIfInBounds_toArray, List.set_cons_zero, List.set_cons_succ])
  clear u1
  apply fair_call rfl
  · intro w' hw'
    go_simp
    exact ⟨rfl, rfl⟩
  · intro w' hw'
    refine (S_cln_any _ _ _ w').mono ?_
    rintro e w'' ⟨v, hs, he, hb⟩
    exact ⟨v, by refine ⟨?_, ?_, ?_, ?_, ?_, ?_, ?_, ?_, ?_, ?_⟩ <;> intro h <;> first | exact hs | exact absurd h (by decide), he, hw'.trans (hb.mono hw'.size)⟩
  intro v hv
  obtain rfl := hv.2.2.2.2.2.2.2.2.1 rfl _ _ _ rfl
  clear hv
  simp only [Act.put, List.setIfInBounds_toArray, List.set_cons_zero, List.set_cons_succ]
  repeat (refine fair_val rfl (fun w' hw' => by go_simp; with_reducible rfl) ?_; simp only [Act.put, List.setIfInBounds_toArray, List.set_cons_zero, List.set_cons_succ])
  apply fair_call rfl
  · intro w' hw'
    go_simp
    exact ⟨rfl, rfl⟩
  · intro w' hw'
    refine (S_cln_ref _ _ _ w').mono ?_
    rintro e w'' ⟨v, hs, he, hb⟩
    exact ⟨v, by refine ⟨?_, ?_, ?_, ?_, ?_, ?_, ?_, ?_, ?_, ?_⟩ <;> intro h <;> first | exact hs | exact absurd h (by decide), he, hw'.trans (hb.mono hw'.size)⟩
  intro v hv
  obtain rfl := hv.2.2.2.2.2.2.2.2.2 rfl _ _ _ rfl
  clear hv
  simp only [Act.put, List.setIfInBounds_toArray, List.set_cons_zero, List.set_cons_succ]
  repeat (refine fair_val rfl (fun w' hw' => by go_simp; with_reducible rfl) ?_; simp only [Act.put, List.setIfInBounds_toArray, List.set_cons_zero, List.set_cons_succ])
  apply fair_call rfl
  · intro w' hw'
    go_simp
    exact ⟨rfl, rfl⟩
  · intro w' hw'
    refine (S_same _ _ _ _ _ _ w' (hid rfl) (hid rfl) (hid rfl)).mono ?_
    rintro e w'' ⟨v, hs, he, hb⟩
    exact ⟨v, by refine ⟨?_, ?_, ?_, ?_, ?_, ?_, ?_, ?_, ?_, ?_⟩ <;> intro h <;> first | exact hs | exact absurd h (by decide), he, hw'.trans (hb.mono hw'.size)⟩
  intro v hv
  obtain rfl := hv.2.2.2.2.2.1 rfl _ _ _ _ _ _ rfl (hid rfl) (hid rfl) (hid rfl)
  clear hv
  simp only [Act.put, List.setIfInBounds_toArray, List.set_cons_zero, List.set_cons_succ]
  repeat (refine fair_val rfl (fun w' hw' => by go_simp; with_reducible rfl) ?_; simp only [Act.put, List.setIfInBounds_toArray, List.set_cons_zero, List.set_cons_succ])
  refine fair_nil ?_
  intro w2 hb1
  clear cela0 cela1 cela2 celb0 celb1 celb2
  replace ra := ra.below hb1 ra.lt
  replace rb := rb.below hb1 rb.lt
  replace hbW := hbW.trans (hb1.mono hbW.size)
  clear hb1
  obtain ⟨xa0, xa1, xa2, _, _, _⟩ := ra.cells3
  go_wp2_with fail
  refine (unit_any _ _ _ _).mono ?_
  rintro e w3 ⟨⟨p1, p2, p3, c, rfl, hc, hp1, hp2, hp3⟩, hb⟩
  replace ra := ra.below hb ra.lt
  replace hbW := hbW.trans (hb.mono hbW.size)
  clear hb xa0 xa1 xa2
  obtain ⟨xa0, xa1, xa2, _, _, _⟩ := ra.cells3
  have l1 := ra.lt
  go_wp2_with fail
  have rp : Row (w3.alloc (.cells #[.float .f64 p1, .float .f64 p2, .float .f64 p3] 25)) w3.heap.size 25 #[.float .f64 p1, .float .f64 p2, .float .f64 p3] := Row.new _ _ _
  replace hbW := bel_alloc hbW (.cells #[.float .f64 p1, .float .f64 p2, .float .f64 p3] 25)
  clear xa0 xa1 xa2
  refine (unit_ref _ _ _ _).mono ?_
  rintro e w4 ⟨⟨q1, q2, q3, c', rfl, hc', hq1, hq2, hq3⟩, hb⟩
  obtain rfl : c' = c := hc'.out.trans hc.out.symm
  have u1 : Hid (cn p1 = cn q1) := hid (hp1.out.trans hq1.out.symm)
  have u2 : Hid (cn p2 = cn q2) := hid (hp2.out.trans hq2.out.symm)
  have u3 : Hid (cn p3 = cn q3) := hid (hp3.out.trans hq3.out.symm)
  clear hp1 hp2 hp3 hq1 hq2 hq3 hc hc'
  replace rp := rp.below hb rp.lt
  replace hbW := hbW.trans (hb.mono hbW.size)
  clear hb
  obtain ⟨xa0, xa1, xa2, _, _, _⟩ := rp.cells3
  have l2 := rp.lt
  go_wp2_with fail
  refine (samevec_true _ _ _ _ _ _ _ u1 u2 u3).mono ?_
  rintro e w5 ⟨rfl, hb⟩
  go_wp2_with fail
  go_ret
  exact ⟨rfl, (bel_alloc hbW _).trans (hb.mono (bel_alloc hbW _).size)⟩

theorem vecSays_law (v0 v1 : Value) (k : Nat) (w : World) (h0 : IsVec v0) (h1 : IsVec v1) (_ : (Lit.float .f64 k).wf = true) :
    Calls Try.prog 6 #[v0, v1, .float .f64 k] w fun e w' => e = .returned (.bool true) ∧ Below w.heap.size w w' := by
  obtain ⟨a1, a2, a3, rfl⟩ := h0
  obtain ⟨b1, b2, b3, rfl⟩ := h1
  exact vecSays_walk a1 a2 a3 b1 b2 b3 k w
end Go.Proofs.Ytkfmpdoendggjaa
