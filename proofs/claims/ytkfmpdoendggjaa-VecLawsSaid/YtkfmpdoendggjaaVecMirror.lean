/- What is known of the answers of small vector functions, in the form that a region's walk takes; the walks of Mirror. -/
import Derived.Test.YtkfmpdoendggjaaVecMore
import Derived.Test.YtkfmpdoendggjaaFair
namespace Go.Proofs.Ytkfmpdoendggjaa
open Go.RowKit
set_option linter.unusedVariables false
set_option linter.unusedSimpArgs false
attribute [local go_sem] run_fadd run_fsub run_fmul run_fquo run_stf

theorem below_of_drewN {B n : Nat} {w w' : World} (h : Below B (w.drewN n) w') : Below B w w' := ⟨h.os, h.tape, h.output, h.size, h.block⟩
def SDot (args : Array Value) (v : Value) : Prop := ∀ a1 a2 a3 b1 b2 b3, args = #[.agg #[.float .f64 a1, .float .f64 a2, .float .f64 a3], .agg #[.float .f64 b1, .float .f64 b2, .float .f64 b3]] → ∃ x, v = .float .f64 x ∧ cn x = dotF (cn a1) (cn a2) (cn a3) (cn b1) (cn b2) (cn b3)
def SKin (op : BinOp) (args : Array Value) (v : Value) : Prop := ∀ a1 a2 a3 k, args = #[.agg #[.float .f64 a1, .float .f64 a2, .float .f64 a3], .float .f64 k] → ∃ x y z, v = .agg #[.float .f64 x, .float .f64 y, .float .f64 z] ∧ cn x = F op (cn a1) (cn k) ∧ cn y = F op (cn a2) (cn k) ∧ cn z = F op (cn a3) (cn k)
def SBin (op : BinOp) (args : Array Value) (v : Value) : Prop := ∀ a1 a2 a3 b1 b2 b3, args = #[.agg #[.float .f64 a1, .float .f64 a2, .float .f64 a3], .agg #[.float .f64 b1, .float .f64 b2, .float .f64 b3]] → ∃ x y z, v = .agg #[.float .f64 x, .float .f64 y, .float .f64 z] ∧ cn x = F op (cn a1) (cn b1) ∧ cn y = F op (cn a2) (cn b2) ∧ cn z = F op (cn a3) (cn b3)
def STimes (args : Array Value) (v : Value) : Prop := ∀ a b, args = #[.float .f64 a, .float .f64 b] → ∃ x, v = .float .f64 x ∧ cn x = F .mul (cn a) (cn b)
def SSqrt (args : Array Value) (v : Value) : Prop := ∀ a, args = #[.float .f64 a] → ∃ x, v = .float .f64 x ∧ cn x = sq (cn a)
def SClean (args : Array Value) (v : Value) : Prop := ∀ a, args = #[.float .f64 a] → v = .float .f64 (cleanV a)

theorem S_times (a b : Nat) (w : World) : Calls Try.prog 37 #[.float .f64 a, .float .f64 b] w fun e w' => ∃ v, STimes #[.float .f64 a, .float .f64 b] v ∧ e = .returned v ∧ Below w.heap.size w w' :=
  (times_ref a b w).mono fun e w' ⟨x, he, hx, hb⟩ => ⟨_, by intro c d h; simp at h; obtain ⟨rfl, rfl⟩ := h; exact ⟨x, rfl, hx⟩, he, hb⟩
theorem S_sqrt (a : Nat) (w : World) : Calls Try.prog 36 #[.float .f64 a] w fun e w' => ∃ v, SSqrt #[.float .f64 a] v ∧ e = .returned v ∧ Below w.heap.size w w' :=
  (sqrt_any a w).mono fun e w' ⟨x, n, he, hx, hb⟩ => ⟨_, by intro c h; simp at h; subst h; exact ⟨x, rfl, hx⟩, he, by rw [hb]; exact below_drewN (Below.refl _ _) _⟩
theorem S_scale_any (a1 a2 a3 k : Nat) (w : World) : Calls Try.prog 13 #[.agg #[.float .f64 a1, .float .f64 a2, .float .f64 a3], .float .f64 k] w fun e w' => ∃ v, SKin .mul #[.agg #[.float .f64 a1, .float .f64 a2, .float .f64 a3], .float .f64 k] v ∧ e = .returned v ∧ Below w.heap.size w w' :=
  (scale_any a1 a2 a3 k w).mono fun e w' ⟨x, y, z, he, hx, hy, hz, hb⟩ => ⟨_, by intro c1 c2 c3 d h; simp at h; obtain ⟨⟨rfl, rfl, rfl⟩, rfl⟩ := h; exact ⟨x, y, z, rfl, hx, hy, hz⟩, he, hb⟩
theorem S_over_any (a1 a2 a3 k : Nat) (w : World) : Calls Try.prog 14 #[.agg #[.float .f64 a1, .float .f64 a2, .float .f64 a3], .float .f64 k] w fun e w' => ∃ v, SKin .quo #[.agg #[.float .f64 a1, .float .f64 a2, .float .f64 a3], .float .f64 k] v ∧ e = .returned v ∧ Below w.heap.size w w' :=
  (over_any a1 a2 a3 k w).mono fun e w' ⟨x, y, z, he, hx, hy, hz, hb⟩ => ⟨_, by intro c1 c2 c3 d h; simp at h; obtain ⟨⟨rfl, rfl, rfl⟩, rfl⟩ := h; exact ⟨x, y, z, rfl, hx, hy, hz⟩, he, hb⟩
theorem S_add_any (a1 a2 a3 b1 b2 b3 : Nat) (w : World) : Calls Try.prog 10 #[.agg #[.float .f64 a1, .float .f64 a2, .float .f64 a3], .agg #[.float .f64 b1, .float .f64 b2, .float .f64 b3]] w fun e w' => ∃ v, SBin .add #[.agg #[.float .f64 a1, .float .f64 a2, .float .f64 a3], .agg #[.float .f64 b1, .float .f64 b2, .float .f64 b3]] v ∧ e = .returned v ∧ Below w.heap.size w w' :=
  (add_any a1 a2 a3 b1 b2 b3 w).mono fun e w' ⟨x, y, z, he, hx, hy, hz, hb⟩ => ⟨_, by intro c1 c2 c3 d1 d2 d3 h; simp at h; obtain ⟨⟨rfl, rfl, rfl⟩, rfl, rfl, rfl⟩ := h; exact ⟨x, y, z, rfl, hx, hy, hz⟩, he, hb⟩
theorem S_sub_any (a1 a2 a3 b1 b2 b3 : Nat) (w : World) : Calls Try.prog 24 #[.agg #[.float .f64 a1, .float .f64 a2, .float .f64 a3], .agg #[.float .f64 b1, .float .f64 b2, .float .f64 b3]] w fun e w' => ∃ v, SBin .sub #[.agg #[.float .f64 a1, .float .f64 a2, .float .f64 a3], .agg #[.float .f64 b1, .float .f64 b2, .float .f64 b3]] v ∧ e = .returned v ∧ Below w.heap.size w w' :=
  (sub_any a1 a2 a3 b1 b2 b3 w).mono fun e w' ⟨x, y, z, he, hx, hy, hz, hb⟩ => ⟨_, by intro c1 c2 c3 d1 d2 d3 h; simp at h; obtain ⟨⟨rfl, rfl, rfl⟩, rfl, rfl, rfl⟩ := h; exact ⟨x, y, z, rfl, hx, hy, hz⟩, he, hb⟩
theorem S_clean_any (a : Nat) (w : World) : Calls Try.prog 35 #[.float .f64 a] w fun e w' => ∃ v, SClean #[.float .f64 a] v ∧ e = .returned v ∧ Below w.heap.size w w' :=
  (clean1_any a w).mono fun e w' ⟨he, hb⟩ => ⟨_, by intro c h; simp at h; subst h; rfl, he, by rw [hb]; exact Below.refl _ _⟩
theorem S_scale_ref (a1 a2 a3 k : Nat) (w : World) : Calls Try.prog 26 #[.agg #[.float .f64 a1, .float .f64 a2, .float .f64 a3], .float .f64 k] w fun e w' => ∃ v, SKin .mul #[.agg #[.float .f64 a1, .float .f64 a2, .float .f64 a3], .float .f64 k] v ∧ e = .returned v ∧ Below w.heap.size w w' :=
  (scale_ref a1 a2 a3 k w).mono fun e w' ⟨x, y, z, he, hx, hy, hz, hb⟩ => ⟨_, by intro c1 c2 c3 d h; simp at h; obtain ⟨⟨rfl, rfl, rfl⟩, rfl⟩ := h; exact ⟨x, y, z, rfl, hx, hy, hz⟩, he, hb⟩
theorem S_over_ref (a1 a2 a3 k : Nat) (w : World) : Calls Try.prog 27 #[.agg #[.float .f64 a1, .float .f64 a2, .float .f64 a3], .float .f64 k] w fun e w' => ∃ v, SKin .quo #[.agg #[.float .f64 a1, .float .f64 a2, .float .f64 a3], .float .f64 k] v ∧ e = .returned v ∧ Below w.heap.size w w' :=
  (over_ref a1 a2 a3 k w).mono fun e w' ⟨x, y, z, he, hx, hy, hz, hb⟩ => ⟨_, by intro c1 c2 c3 d h; simp at h; obtain ⟨⟨rfl, rfl, rfl⟩, rfl⟩ := h; exact ⟨x, y, z, rfl, hx, hy, hz⟩, he, hb⟩
theorem S_add_ref (a1 a2 a3 b1 b2 b3 : Nat) (w : World) : Calls Try.prog 23 #[.agg #[.float .f64 a1, .float .f64 a2, .float .f64 a3], .agg #[.float .f64 b1, .float .f64 b2, .float .f64 b3]] w fun e w' => ∃ v, SBin .add #[.agg #[.float .f64 a1, .float .f64 a2, .float .f64 a3], .agg #[.float .f64 b1, .float .f64 b2, .float .f64 b3]] v ∧ e = .returned v ∧ Below w.heap.size w w' :=
  (add_ref a1 a2 a3 b1 b2 b3 w).mono fun e w' ⟨x, y, z, he, hx, hy, hz, hb⟩ => ⟨_, by intro c1 c2 c3 d1 d2 d3 h; simp at h; obtain ⟨⟨rfl, rfl, rfl⟩, rfl, rfl, rfl⟩ := h; exact ⟨x, y, z, rfl, hx, hy, hz⟩, he, hb⟩
theorem S_sub_ref (a1 a2 a3 b1 b2 b3 : Nat) (w : World) : Calls Try.prog 25 #[.agg #[.float .f64 a1, .float .f64 a2, .float .f64 a3], .agg #[.float .f64 b1, .float .f64 b2, .float .f64 b3]] w fun e w' => ∃ v, SBin .sub #[.agg #[.float .f64 a1, .float .f64 a2, .float .f64 a3], .agg #[.float .f64 b1, .float .f64 b2, .float .f64 b3]] v ∧ e = .returned v ∧ Below w.heap.size w w' :=
  (sub_ref a1 a2 a3 b1 b2 b3 w).mono fun e w' ⟨x, y, z, he, hx, hy, hz, hb⟩ => ⟨_, by intro c1 c2 c3 d1 d2 d3 h; simp at h; obtain ⟨⟨rfl, rfl, rfl⟩, rfl, rfl, rfl⟩ := h; exact ⟨x, y, z, rfl, hx, hy, hz⟩, he, hb⟩
theorem S_clean_ref (a : Nat) (w : World) : Calls Try.prog 38 #[.float .f64 a] w fun e w' => ∃ v, SClean #[.float .f64 a] v ∧ e = .returned v ∧ Below w.heap.size w w' :=
  (clean1_ref a w).mono fun e w' ⟨he, hb⟩ => ⟨_, by intro c h; simp at h; subst h; rfl, he, by rw [hb]; exact Below.refl _ _⟩
theorem S_dot_any (a1 a2 a3 b1 b2 b3 : Nat) (w : World) : Calls Try.prog 7 #[.agg #[.float .f64 a1, .float .f64 a2, .float .f64 a3], .agg #[.float .f64 b1, .float .f64 b2, .float .f64 b3]] w fun e w' => ∃ v, SDot #[.agg #[.float .f64 a1, .float .f64 a2, .float .f64 a3], .agg #[.float .f64 b1, .float .f64 b2, .float .f64 b3]] v ∧ e = .returned v ∧ Below w.heap.size w w' :=
  (dot_any a1 a2 a3 b1 b2 b3 w).mono fun e w' ⟨x, he, hx, hb⟩ => ⟨_, by intro c1 c2 c3 d1 d2 d3 h; simp at h; obtain ⟨⟨rfl, rfl, rfl⟩, rfl, rfl, rfl⟩ := h; exact ⟨x, rfl, hx⟩, he, hb⟩

theorem dot_ref (a1 a2 a3 b1 b2 b3 : Nat) (w : World) :
    Calls Try.prog 28 #[.agg #[.float .f64 a1, .float .f64 a2, .float .f64 a3], .agg #[.float .f64 b1, .float .f64 b2, .float .f64 b3]] w fun e w' => ∃ x, e = .returned (.float .f64 x) ∧ cn x = dotF (cn a1) (cn a2) (cn a3) (cn b1) (cn b2) (cn b3) ∧ Below w.heap.size w w' := by
  go_enter Try.func28, Try.ntmps28
  go_wp2_with fail
  obtain ⟨W, hWW⟩ : ∃ W, W = ((w.alloc (.cells #[.float .f64 a1, .float .f64 a2, .float .f64 a3] 25)).alloc (.cells #[.float .f64 b1, .float .f64 b2, .float .f64 b3] 25)) := ⟨_, rfl⟩
  have ra : Row W (w.heap.size) 25 #[.float .f64 a1, .float .f64 a2, .float .f64 a3] := by rw [hWW]; have := ((Row.new w 25 #[.float .f64 a1, .float .f64 a2, .float .f64 a3]).alloc (.cells #[.float .f64 b1, .float .f64 b2, .float .f64 b3] 25)); simpa using this
  have rb : Row W (w.heap.size + 1) 25 #[.float .f64 b1, .float .f64 b2, .float .f64 b3] := by rw [hWW]; have := (Row.new (w.alloc (.cells #[.float .f64 a1, .float .f64 a2, .float .f64 a3] 25)) 25 #[.float .f64 b1, .float .f64 b2, .float .f64 b3]); simpa using this
  have hbW : Below w.heap.size w W := by rw [hWW]; exact bel_alloc (bel_alloc (Below.refl _ _) _) _
  rw [← hWW]
  clear hWW
  obtain ⟨xa00, xa01, xa02, _, _, _⟩ := ra.cells3
  obtain ⟨xb00, xb01, xb02, _, _, _⟩ := rb.cells3
  go_wp2_with fail
  refine (times_ref _ _ _).mono ?_
  rintro e w1 ⟨p, rfl, hp, hb1⟩
  replace hp := hid hp
  replace ra := ra.below hb1 ra.lt
  replace rb := rb.below hb1 rb.lt
  replace hbW := hbW.trans (hb1.mono hbW.size)
  clear hb1 xa00 xa01 xa02 xb00 xb01 xb02
  obtain ⟨xa10, xa11, xa12, _, _, _⟩ := ra.cells3
  obtain ⟨xb10, xb11, xb12, _, _, _⟩ := rb.cells3
  go_wp2_with fail
  refine (times_ref _ _ _).mono ?_
  rintro e w2 ⟨q, rfl, hq, hb2⟩
  replace hq := hid hq
  replace ra := ra.below hb2 ra.lt
  replace rb := rb.below hb2 rb.lt
  replace hbW := hbW.trans (hb2.mono hbW.size)
  clear hb2 xa10 xa11 xa12 xb10 xb11 xb12
  obtain ⟨xa20, xa21, xa22, _, _, _⟩ := ra.cells3
  obtain ⟨xb20, xb21, xb22, _, _, _⟩ := rb.cells3
  go_wp2_with fail
  refine (times_ref _ _ _).mono ?_
  rintro e w3 ⟨s, rfl, hs, hb3⟩
  replace hs := hid hs
  replace ra := ra.below hb3 ra.lt
  replace rb := rb.below hb3 rb.lt
  replace hbW := hbW.trans (hb3.mono hbW.size)
  clear hb3 xa20 xa21 xa22 xb20 xb21 xb22
  go_wp2_with fail
  go_ret
  exact ⟨_, rfl, by simp only [cn_fval', dotF]; rw [hp.out, hq.out, hs.out], by repeat (first | exact hbW | refine below_drewN ?_ _)⟩
theorem S_dot_ref (a1 a2 a3 b1 b2 b3 : Nat) (w : World) : Calls Try.prog 28 #[.agg #[.float .f64 a1, .float .f64 a2, .float .f64 a3], .agg #[.float .f64 b1, .float .f64 b2, .float .f64 b3]] w fun e w' => ∃ v, SDot #[.agg #[.float .f64 a1, .float .f64 a2, .float .f64 a3], .agg #[.float .f64 b1, .float .f64 b2, .float .f64 b3]] v ∧ e = .returned v ∧ Below w.heap.size w w' :=
  (dot_ref a1 a2 a3 b1 b2 b3 w).mono fun e w' ⟨x, he, hx, hb⟩ => ⟨_, by intro c1 c2 c3 d1 d2 d3 h; simp at h; obtain ⟨⟨rfl, rfl, rfl⟩, rfl, rfl, rfl⟩ := h; exact ⟨x, rfl, hx⟩, he, hb⟩

set_option maxHeartbeats 800000 in
theorem mirror_any (d1 d2 d3 n1 n2 n3 : Nat) (w : World) :
    Calls Try.prog 18 #[.agg #[.float .f64 d1, .float .f64 d2, .float .f64 d3], .agg #[.float .f64 n1, .float .f64 n2, .float .f64 n3]] w fun e w' => ∃ x y z, e = .returned (.agg #[.float .f64 x, .float .f64 y, .float .f64 z]) ∧ cn x = F .sub (cn d1) (F .mul (cn n1) (F .mul (cn 4611686018427387904) (dotF (cn d1) (cn d2) (cn d3) (cn n1) (cn n2) (cn n3)))) ∧ cn y = F .sub (cn d2) (F .mul (cn n2) (F .mul (cn 4611686018427387904) (dotF (cn d1) (cn d2) (cn d3) (cn n1) (cn n2) (cn n3)))) ∧ cn z = F .sub (cn d3) (F .mul (cn n3) (F .mul (cn 4611686018427387904) (dotF (cn d1) (cn d2) (cn d3) (cn n1) (cn n2) (cn n3)))) ∧ Below w.heap.size w w' := by
  go_enter Try.func18, Try.ntmps18
  go_wp2_with fail
  obtain ⟨W, hWW⟩ : ∃ W, W = (((w.alloc (.cells #[.float .f64 d1, .float .f64 d2, .float .f64 d3] 25)).alloc (.cells #[.float .f64 n1, .float .f64 n2, .float .f64 n3] 25)).alloc (.cells #[.float .f64 0, .float .f64 0, .float .f64 0] 25)) := ⟨_, rfl⟩
  have rd : Row W (w.heap.size) 25 #[.float .f64 d1, .float .f64 d2, .float .f64 d3] := by rw [hWW]; have := (((Row.new w 25 #[.float .f64 d1, .float .f64 d2, .float .f64 d3]).alloc (.cells #[.float .f64 n1, .float .f64 n2, .float .f64 n3] 25)).alloc (.cells #[.float .f64 0, .float .f64 0, .float .f64 0] 25)); simpa using this
  have rn : Row W (w.heap.size + 1) 25 #[.float .f64 n1, .float .f64 n2, .float .f64 n3] := by rw [hWW]; have := ((Row.new (w.alloc (.cells #[.float .f64 d1, .float .f64 d2, .float .f64 d3] 25)) 25 #[.float .f64 n1, .float .f64 n2, .float .f64 n3]).alloc (.cells #[.float .f64 0, .float .f64 0, .float .f64 0] 25)); simpa using this
  have rr : Row W (w.heap.size + 1 + 1) 25 #[.float .f64 0, .float .f64 0, .float .f64 0] := by rw [hWW]; have := (Row.new ((w.alloc (.cells #[.float .f64 d1, .float .f64 d2, .float .f64 d3] 25)).alloc (.cells #[.float .f64 n1, .float .f64 n2, .float .f64 n3] 25)) 25 #[.float .f64 0, .float .f64 0, .float .f64 0]); simpa using this
  have hbW : Below w.heap.size w W := by rw [hWW]; exact bel_alloc (bel_alloc (bel_alloc (Below.refl _ _) _) _) _
  rw [← hWW]
  clear hWW
  have celd0 := fun w' (h : Below W.heap.size W w') => (rd.below h rd.lt).cell 0
  simp only [List.size_toArray, List.length_cons, List.getElem?_toArray, List.getElem?_cons_zero, List.getElem?_cons_succ] at celd0
  have celd1 := fun w' (h : Below W.heap.size W w') => (rd.below h rd.lt).cell 1
  simp only [List.size_toArray, List.length_cons, List.getElem?_toArray, List.getElem?_cons_zero, List.getElem?_cons_succ] at celd1
  have celd2 := fun w' (h : Below W.heap.size W w') => (rd.below h rd.lt).cell 2
  simp only [List.size_toArray, List.length_cons, List.getElem?_toArray, List.getElem?_cons_zero, List.getElem?_cons_succ] at celd2
  have celn0 := fun w' (h : Below W.heap.size W w') => (rn.below h rn.lt).cell 0
  simp only [List.size_toArray, List.length_cons, List.getElem?_toArray, List.getElem?_cons_zero, List.getElem?_cons_succ] at celn0
  have celn1 := fun w' (h : Below W.heap.size W w') => (rn.below h rn.lt).cell 1
  simp only [List.size_toArray, List.length_cons, List.getElem?_toArray, List.getElem?_cons_zero, List.getElem?_cons_succ] at celn1
  have celn2 := fun w' (h : Below W.heap.size W w') => (rn.below h rn.lt).cell 2
  simp only [List.size_toArray, List.length_cons, List.getElem?_toArray, List.getElem?_cons_zero, List.getElem?_cons_succ] at celn2
  refine wp_region_fair (n := 8) (C := fun w' => Below W.heap.size W w') (G := fun f args v => (f = 7 → SDot args v) ∧ (f = 13 → SKin .mul args v) ∧ (f = 24 → SBin .sub args v)) (by kernel_rfl) (by kernel_rfl) (below_drewN (Below.refl _ _) 1) ?_
  simp only [List.take_succ_cons, List.take_zero, List.drop_succ_cons, List.drop_zero]
  repeat (refine fair_val rfl (fun w' hw' => by go_simp; with_reducible rfl) ?_; simp only [Act.put, List.setIfInBounds_toArray, List.set_cons_zero, List.set_cons_succ])
  apply fair_call rfl
  · intro w' hw'
    go_simp
    exact ⟨rfl, rfl⟩
  · intro w' hw'
    refine (S_dot_any _ _ _ _ _ _ w').mono ?_
    rintro e w'' ⟨v, hs, he, hb⟩
    exact ⟨v, by refine ⟨?_, ?_, ?_⟩ <;> intro h <;> first | exact hs | exact absurd h (by decide), he, hw'.trans (hb.mono hw'.size)⟩
  intro v hv
  obtain ⟨x, rfl, hx⟩ := hv.1 rfl _ _ _ _ _ _ rfl
  clear hv
  simp only [Act.put, List.setIfInBounds_toArray, List.set_cons_zero, List.set_cons_succ]
  replace hx := hid hx
  refine fair_flt .mul _ _ _ _ _ _ rfl rfl (by simp) rfl rfl (fun w n h => below_drewN h n) ?_
  intro k hk
  simp only [Act.put, List.setIfInBounds_toArray, List.set_cons_zero, List.set_cons_succ]
  replace hk := hid hk
  apply fair_call rfl
  · intro w' hw'
    go_simp
    exact ⟨rfl, rfl⟩
  · intro w' hw'
    refine (S_scale_any _ _ _ _ w').mono ?_
    rintro e w'' ⟨v, hs, he, hb⟩
    exact ⟨v, by refine ⟨?_, ?_, ?_⟩ <;> intro h <;> first | exact hs | exact absurd h (by decide), he, hw'.trans (hb.mono hw'.size)⟩
  intro v hv
  obtain ⟨s1, s2, s3, rfl, hs1, hs2, hs3⟩ := hv.2.1 rfl _ _ _ _ rfl
  clear hv
  simp only [Act.put, List.setIfInBounds_toArray, List.set_cons_zero, List.set_cons_succ]
  replace hs1 := hid hs1
  replace hs2 := hid hs2
  replace hs3 := hid hs3
  apply fair_call rfl
  · intro w' hw'
    go_simp
    exact ⟨rfl, rfl⟩
  · intro w' hw'
    refine (S_sub_any _ _ _ _ _ _ w').mono ?_
    rintro e w'' ⟨v, hs, he, hb⟩
    exact ⟨v, by refine ⟨?_, ?_, ?_⟩ <;> intro h <;> first | exact hs | exact absurd h (by decide), he, hw'.trans (hb.mono hw'.size)⟩
  intro v hv
  obtain ⟨t1, t2, t3, rfl, ht1, ht2, ht3⟩ := hv.2.2 rfl _ _ _ _ _ _ rfl
  clear hv
  simp only [Act.put, List.setIfInBounds_toArray, List.set_cons_zero, List.set_cons_succ]
  replace ht1 := hid ht1
  replace ht2 := hid ht2
  replace ht3 := hid ht3
  refine fair_nil ?_
  intro w' hw'
  obtain ⟨z0, z1, z2, f0, f1, f2⟩ := (rr.below hw' rr.lt).cells3
  clear celd0 celd1 celd2 celn0 celn1 celn2
  go_wp2_with fail
  refine bodyPost_ret (v := .agg #[.float .f64 t1, .float .f64 t2, .float .f64 t3]) (by simp [results, Try.results18, go_sem, *]) rfl ⟨t1, t2, t3, rfl, ?_, ?_, ?_, ?_⟩
  · rw [ht1.out, hs1.out, hk.out, hx.out]
  · rw [ht2.out, hs2.out, hk.out, hx.out]
  · rw [ht3.out, hs3.out, hk.out, hx.out]
  · repeat (refine Below.setCell ?_ (by simp <;> omega) _)
    exact hbW.trans (hw'.mono hbW.size)

set_option maxHeartbeats 800000 in
theorem mirror_ref (d1 d2 d3 n1 n2 n3 : Nat) (w : World) :
    Calls Try.prog 19 #[.agg #[.float .f64 d1, .float .f64 d2, .float .f64 d3], .agg #[.float .f64 n1, .float .f64 n2, .float .f64 n3]] w fun e w' => ∃ x y z, e = .returned (.agg #[.float .f64 x, .float .f64 y, .float .f64 z]) ∧ cn x = F .sub (cn d1) (F .mul (cn n1) (F .mul (cn 4611686018427387904) (dotF (cn d1) (cn d2) (cn d3) (cn n1) (cn n2) (cn n3)))) ∧ cn y = F .sub (cn d2) (F .mul (cn n2) (F .mul (cn 4611686018427387904) (dotF (cn d1) (cn d2) (cn d3) (cn n1) (cn n2) (cn n3)))) ∧ cn z = F .sub (cn d3) (F .mul (cn n3) (F .mul (cn 4611686018427387904) (dotF (cn d1) (cn d2) (cn d3) (cn n1) (cn n2) (cn n3)))) ∧ Below w.heap.size w w' := by
  go_enter Try.func19, Try.ntmps19
  go_wp2_with fail
  obtain ⟨W, hWW⟩ : ∃ W, W = (((w.alloc (.cells #[.float .f64 d1, .float .f64 d2, .float .f64 d3] 25)).alloc (.cells #[.float .f64 n1, .float .f64 n2, .float .f64 n3] 25)).alloc (.cells #[.float .f64 0, .float .f64 0, .float .f64 0] 25)) := ⟨_, rfl⟩
  have rd : Row W (w.heap.size) 25 #[.float .f64 d1, .float .f64 d2, .float .f64 d3] := by rw [hWW]; have := (((Row.new w 25 #[.float .f64 d1, .float .f64 d2, .float .f64 d3]).alloc (.cells #[.float .f64 n1, .float .f64 n2, .float .f64 n3] 25)).alloc (.cells #[.float .f64 0, .float .f64 0, .float .f64 0] 25)); simpa using this
  have rn : Row W (w.heap.size + 1) 25 #[.float .f64 n1, .float .f64 n2, .float .f64 n3] := by rw [hWW]; have := ((Row.new (w.alloc (.cells #[.float .f64 d1, .float .f64 d2, .float .f64 d3] 25)) 25 #[.float .f64 n1, .float .f64 n2, .float .f64 n3]).alloc (.cells #[.float .f64 0, .float .f64 0, .float .f64 0] 25)); simpa using this
  have rr : Row W (w.heap.size + 1 + 1) 25 #[.float .f64 0, .float .f64 0, .float .f64 0] := by rw [hWW]; have := (Row.new ((w.alloc (.cells #[.float .f64 d1, .float .f64 d2, .float .f64 d3] 25)).alloc (.cells #[.float .f64 n1, .float .f64 n2, .float .f64 n3] 25)) 25 #[.float .f64 0, .float .f64 0, .float .f64 0]); simpa using this
  have hbW : Below w.heap.size w W := by rw [hWW]; exact bel_alloc (bel_alloc (bel_alloc (Below.refl _ _) _) _) _
  rw [← hWW]
  clear hWW
  have celd0 := fun w' (h : Below W.heap.size W w') => (rd.below h rd.lt).cell 0
  simp only [List.size_toArray, List.length_cons, List.getElem?_toArray, List.getElem?_cons_zero, List.getElem?_cons_succ] at celd0
  have celd1 := fun w' (h : Below W.heap.size W w') => (rd.below h rd.lt).cell 1
  simp only [List.size_toArray, List.length_cons, List.getElem?_toArray, List.getElem?_cons_zero, List.getElem?_cons_succ] at celd1
  have celd2 := fun w' (h : Below W.heap.size W w') => (rd.below h rd.lt).cell 2
  simp only [List.size_toArray, List.length_cons, List.getElem?_toArray, List.getElem?_cons_zero, List.getElem?_cons_succ] at celd2
  have celn0 := fun w' (h : Below W.heap.size W w') => (rn.below h rn.lt).cell 0
  simp only [List.size_toArray, List.length_cons, List.getElem?_toArray, List.getElem?_cons_zero, List.getElem?_cons_succ] at celn0
  have celn1 := fun w' (h : Below W.heap.size W w') => (rn.below h rn.lt).cell 1
  simp only [List.size_toArray, List.length_cons, List.getElem?_toArray, List.getElem?_cons_zero, List.getElem?_cons_succ] at celn1
  have celn2 := fun w' (h : Below W.heap.size W w') => (rn.below h rn.lt).cell 2
  simp only [List.size_toArray, List.length_cons, List.getElem?_toArray, List.getElem?_cons_zero, List.getElem?_cons_succ] at celn2
  refine wp_region_fair (n := 8) (C := fun w' => Below W.heap.size W w') (G := fun f args v => (f = 28 → SDot args v) ∧ (f = 26 → SKin .mul args v) ∧ (f = 25 → SBin .sub args v)) (by kernel_rfl) (by kernel_rfl) (below_drewN (Below.refl _ _) 1) ?_
  simp only [List.take_succ_cons, List.take_zero, List.drop_succ_cons, List.drop_zero]
  repeat (refine fair_val rfl (fun w' hw' => by go_simp; with_reducible rfl) ?_; simp only [Act.put, List.setIfInBounds_toArray, List.set_cons_zero, List.set_cons_succ])
  apply fair_call rfl
  · intro w' hw'
    go_simp
    exact ⟨rfl, rfl⟩
  · intro w' hw'
    refine (S_dot_ref _ _ _ _ _ _ w').mono ?_
    rintro e w'' ⟨v, hs, he, hb⟩
    exact ⟨v, by refine ⟨?_, ?_, ?_⟩ <;> intro h <;> first | exact hs | exact absurd h (by decide), he, hw'.trans (hb.mono hw'.size)⟩
  intro v hv
  obtain ⟨x, rfl, hx⟩ := hv.1 rfl _ _ _ _ _ _ rfl
  clear hv
  simp only [Act.put, List.setIfInBounds_toArray, List.set_cons_zero, List.set_cons_succ]
  replace hx := hid hx
  refine fair_flt .mul _ _ _ _ _ _ rfl rfl (by simp) rfl rfl (fun w n h => below_drewN h n) ?_
  intro k hk
  simp only [Act.put, List.setIfInBounds_toArray, List.set_cons_zero, List.set_cons_succ]
  replace hk := hid hk
  apply fair_call rfl
  · intro w' hw'
    go_simp
    exact ⟨rfl, rfl⟩
  · intro w' hw'
    refine (S_scale_ref _ _ _ _ w').mono ?_
    rintro e w'' ⟨v, hs, he, hb⟩
    exact ⟨v, by refine ⟨?_, ?_, ?_⟩ <;> intro h <;> first | exact hs | exact absurd h (by decide), he, hw'.trans (hb.mono hw'.size)⟩
  intro v hv
  obtain ⟨s1, s2, s3, rfl, hs1, hs2, hs3⟩ := hv.2.1 rfl _ _ _ _ rfl
  clear hv
  simp only [Act.put, List.setIfInBounds_toArray, List.set_cons_zero, List.set_cons_succ]
  replace hs1 := hid hs1
  replace hs2 := hid hs2
  replace hs3 := hid hs3
  apply fair_call rfl
  · intro w' hw'
    go_simp
    exact ⟨rfl, rfl⟩
  · intro w' hw'
    refine (S_sub_ref _ _ _ _ _ _ w').mono ?_
    rintro e w'' ⟨v, hs, he, hb⟩
    exact ⟨v, by refine ⟨?_, ?_, ?_⟩ <;> intro h <;> first | exact hs | exact absurd h (by decide), he, hw'.trans (hb.mono hw'.size)⟩
  intro v hv
  obtain ⟨t1, t2, t3, rfl, ht1, ht2, ht3⟩ := hv.2.2 rfl _ _ _ _ _ _ rfl
  clear hv
  simp only [Act.put, List.setIfInBounds_toArray, List.set_cons_zero, List.set_cons_succ]
  replace ht1 := hid ht1
  replace ht2 := hid ht2
  replace ht3 := hid ht3
  refine fair_nil ?_
  intro w' hw'
  obtain ⟨z0, z1, z2, f0, f1, f2⟩ := (rr.below hw' rr.lt).cells3
  clear celd0 celd1 celd2 celn0 celn1 celn2
  go_wp2_with fail
  refine bodyPost_ret (v := .agg #[.float .f64 t1, .float .f64 t2, .float .f64 t3]) (by simp [results, Try.results19, go_sem, *]) rfl ⟨t1, t2, t3, rfl, ?_, ?_, ?_, ?_⟩
  · rw [ht1.out, hs1.out, hk.out, hx.out]
  · rw [ht2.out, hs2.out, hk.out, hx.out]
  · rw [ht3.out, hs3.out, hk.out, hx.out]
  · repeat (refine Below.setCell ?_ (by simp <;> omega) _)
    exact hbW.trans (hw'.mono hbW.size)
end Go.Proofs.Ytkfmpdoendggjaa
