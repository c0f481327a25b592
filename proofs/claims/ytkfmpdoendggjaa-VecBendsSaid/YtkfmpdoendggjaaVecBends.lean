/- The walk of the law VecBends. -/
import Derived.Test.YtkfmpdoendggjaaVecBend
import Derived.Test.YtkfmpdoendggjaaVecMirror
import Derived.Test.YtkfmpdoendggjaaVecSame
import Derived.Test.YtkfmpdoendggjaaVecArg
namespace Go.Proofs.Ytkfmpdoendggjaa
open Go.RowKit
set_option linter.unusedVariables false
set_option linter.unusedSimpArgs false
attribute [local go_sem] run_fadd run_fsub run_fmul run_fquo run_stf

def SSame (args : Array Value) (v : Value) : Prop := ∀ a1 a2 a3 b1 b2 b3, args = #[.agg #[.float .f64 a1, .float .f64 a2, .float .f64 a3], .agg #[.float .f64 b1, .float .f64 b2, .float .f64 b3]] → Hid (cn a1 = cn b1) → Hid (cn a2 = cn b2) → Hid (cn a3 = cn b3) → v = .bool true
theorem S_same (a1 a2 a3 b1 b2 b3 : Nat) (w : World) (h1 : Hid (cn a1 = cn b1)) (h2 : Hid (cn a2 = cn b2)) (h3 : Hid (cn a3 = cn b3)) : Calls Try.prog 9 #[.agg #[.float .f64 a1, .float .f64 a2, .float .f64 a3], .agg #[.float .f64 b1, .float .f64 b2, .float .f64 b3]] w fun e w' => ∃ v, SSame #[.agg #[.float .f64 a1, .float .f64 a2, .float .f64 a3], .agg #[.float .f64 b1, .float .f64 b2, .float .f64 b3]] v ∧ e = .returned v ∧ Below w.heap.size w w' :=
  (samevec_true a1 a2 a3 b1 b2 b3 w h1 h2 h3).mono fun e w' ⟨he, hb⟩ => ⟨_, by intro _ _ _ _ _ _ _ _ _ _; rfl, he, hb⟩
def mirF (d1 d2 d3 n1 n2 n3 d n : Nat) : Nat := F .sub d (F .mul n (F .mul (cn 4611686018427387904) (dotF d1 d2 d3 n1 n2 n3)))
def SMir (args : Array Value) (v : Value) : Prop := ∀ d1 d2 d3 n1 n2 n3, args = #[.agg #[.float .f64 d1, .float .f64 d2, .float .f64 d3], .agg #[.float .f64 n1, .float .f64 n2, .float .f64 n3]] → ∃ x y z, v = .agg #[.float .f64 x, .float .f64 y, .float .f64 z] ∧ cn x = mirF (cn d1) (cn d2) (cn d3) (cn n1) (cn n2) (cn n3) (cn d1) (cn n1) ∧ cn y = mirF (cn d1) (cn d2) (cn d3) (cn n1) (cn n2) (cn n3) (cn d2) (cn n2) ∧ cn z = mirF (cn d1) (cn d2) (cn d3) (cn n1) (cn n2) (cn n3) (cn d3) (cn n3)
theorem S_mir_any (d1 d2 d3 n1 n2 n3 : Nat) (w : World) : Calls Try.prog 18 #[.agg #[.float .f64 d1, .float .f64 d2, .float .f64 d3], .agg #[.float .f64 n1, .float .f64 n2, .float .f64 n3]] w fun e w' => ∃ v, SMir #[.agg #[.float .f64 d1, .float .f64 d2, .float .f64 d3], .agg #[.float .f64 n1, .float .f64 n2, .float .f64 n3]] v ∧ e = .returned v ∧ Below w.heap.size w w' :=
  (mirror_any d1 d2 d3 n1 n2 n3 w).mono fun e w' ⟨x, y, z, he, hx, hy, hz, hb⟩ => ⟨_, by intro c1 c2 c3 m1 m2 m3 h; simp at h; obtain ⟨⟨rfl, rfl, rfl⟩, rfl, rfl, rfl⟩ := h; exact ⟨x, y, z, rfl, hx, hy, hz⟩, he, hb⟩
theorem S_mir_ref (d1 d2 d3 n1 n2 n3 : Nat) (w : World) : Calls Try.prog 19 #[.agg #[.float .f64 d1, .float .f64 d2, .float .f64 d3], .agg #[.float .f64 n1, .float .f64 n2, .float .f64 n3]] w fun e w' => ∃ v, SMir #[.agg #[.float .f64 d1, .float .f64 d2, .float .f64 d3], .agg #[.float .f64 n1, .float .f64 n2, .float .f64 n3]] v ∧ e = .returned v ∧ Below w.heap.size w w' :=
  (mirror_ref d1 d2 d3 n1 n2 n3 w).mono fun e w' ⟨x, y, z, he, hx, hy, hz, hb⟩ => ⟨_, by intro c1 c2 c3 m1 m2 m3 h; simp at h; obtain ⟨⟨rfl, rfl, rfl⟩, rfl, rfl, rfl⟩ := h; exact ⟨x, y, z, rfl, hx, hy, hz⟩, he, hb⟩
theorem bendk_any (d1 d2 d3 n1 n2 n3 eta : Nat) (w : World) :
    Calls Try.prog 16 #[.agg #[.float .f64 d1, .float .f64 d2, .float .f64 d3], .agg #[.float .f64 n1, .float .f64 n2, .float .f64 n3], .float .f64 eta] w fun e w' => (∃ x y z k, e = .returned (.tuple #[.agg #[.float .f64 x, .float .f64 y, .float .f64 z], .bool k]) ∧ Hid (k = bendOk (cn d1) (cn d2) (cn d3) (cn n1) (cn n2) (cn n3) (cn eta)) ∧ Hid (cn x = bendR (cn d1) (cn d2) (cn d3) (cn n1) (cn n2) (cn n3) (cn eta) (cn d1) (cn n1)) ∧ Hid (cn y = bendR (cn d1) (cn d2) (cn d3) (cn n1) (cn n2) (cn n3) (cn eta) (cn d2) (cn n2)) ∧ Hid (cn z = bendR (cn d1) (cn d2) (cn d3) (cn n1) (cn n2) (cn n3) (cn eta) (cn d3) (cn n3))) ∧ Below w.heap.size w w' :=
  (bend_any d1 d2 d3 n1 n2 n3 eta w).mono fun e w' ⟨⟨x, y, z, he, hx, hy, hz⟩, hb⟩ => ⟨⟨x, y, z, _, he, hid rfl, hid hx, hid hy, hid hz⟩, hb⟩
theorem bendk_ref (d1 d2 d3 n1 n2 n3 eta : Nat) (w : World) :
    Calls Try.prog 17 #[.agg #[.float .f64 d1, .float .f64 d2, .float .f64 d3], .agg #[.float .f64 n1, .float .f64 n2, .float .f64 n3], .float .f64 eta] w fun e w' => (∃ x y z k, e = .returned (.tuple #[.agg #[.float .f64 x, .float .f64 y, .float .f64 z], .bool k]) ∧ Hid (k = bendOk (cn d1) (cn d2) (cn d3) (cn n1) (cn n2) (cn n3) (cn eta)) ∧ Hid (cn x = bendR (cn d1) (cn d2) (cn d3) (cn n1) (cn n2) (cn n3) (cn eta) (cn d1) (cn n1)) ∧ Hid (cn y = bendR (cn d1) (cn d2) (cn d3) (cn n1) (cn n2) (cn n3) (cn eta) (cn d2) (cn n2)) ∧ Hid (cn z = bendR (cn d1) (cn d2) (cn d3) (cn n1) (cn n2) (cn n3) (cn eta) (cn d3) (cn n3))) ∧ Below w.heap.size w w' :=
  (bend_ref d1 d2 d3 n1 n2 n3 eta w).mono fun e w' ⟨⟨x, y, z, he, hx, hy, hz⟩, hb⟩ => ⟨⟨x, y, z, _, he, hid rfl, hid hx, hid hy, hid hz⟩, hb⟩

theorem vecBends_walk (d1 d2 d3 n1 n2 n3 eta : Nat) (w : World) :
    Calls Try.prog 5 #[.agg #[.float .f64 d1, .float .f64 d2, .float .f64 d3], .agg #[.float .f64 n1, .float .f64 n2, .float .f64 n3], .float .f64 eta] w fun e w' => e = .returned (.bool true) ∧ Below w.heap.size w w' := by
  go_enter Try.func5, Try.ntmps5
  go_wp2_with fail
  obtain ⟨W, hWW⟩ : ∃ W, W = ((w.alloc (.cells #[.float .f64 d1, .float .f64 d2, .float .f64 d3] 25)).alloc (.cells #[.float .f64 n1, .float .f64 n2, .float .f64 n3] 25)) := ⟨_, rfl⟩
  have rd : Row W (w.heap.size) 25 #[.float .f64 d1, .float .f64 d2, .float .f64 d3] := by rw [hWW]; have := ((Row.new w 25 #[.float .f64 d1, .float .f64 d2, .float .f64 d3]).alloc (.cells #[.float .f64 n1, .float .f64 n2, .float .f64 n3] 25)); simpa using this
  have rn : Row W (w.heap.size + 1) 25 #[.float .f64 n1, .float .f64 n2, .float .f64 n3] := by rw [hWW]; have := (Row.new (w.alloc (.cells #[.float .f64 d1, .float .f64 d2, .float .f64 d3] 25)) 25 #[.float .f64 n1, .float .f64 n2, .float .f64 n3]); simpa using this
  have hbW : Below w.heap.size w W := by rw [hWW]; exact bel_alloc (bel_alloc (Below.refl _ _) _) _
  rw [← hWW]
  clear hWW
  obtain ⟨xa0, xa1, xa2, _, _, _⟩ := rd.cells3
  obtain ⟨xb0, xb1, xb2, _, _, _⟩ := rn.cells3
  go_wp2_with fail
  refine (bendk_any _ _ _ _ _ _ _ _).mono ?_
  rintro e w1 ⟨⟨p1, p2, p3, k, rfl, hk, hp1, hp2, hp3⟩, hb1⟩
  replace rd := rd.below hb1 rd.lt
  replace rn := rn.below hb1 rn.lt
  replace hbW := hbW.trans (hb1.mono hbW.size)
  clear hb1 xa0 xa1 xa2 xb0 xb1 xb2
  obtain ⟨xa0, xa1, xa2, _, _, _⟩ := rd.cells3
  obtain ⟨xb0, xb1, xb2, _, _, _⟩ := rn.cells3
  have l1 := rd.lt
  have l2 := rn.lt
  go_wp2_with fail
  have rp : Row (w1.alloc (.cells #[.float .f64 p1, .float .f64 p2, .float .f64 p3] 25)) w1.heap.size 25 #[.float .f64 p1, .float .f64 p2, .float .f64 p3] := Row.new _ _ _
  replace rd := rd.alloc (.cells #[.float .f64 p1, .float .f64 p2, .float .f64 p3] 25)
  replace rn := rn.alloc (.cells #[.float .f64 p1, .float .f64 p2, .float .f64 p3] 25)
  replace hbW := bel_alloc hbW (.cells #[.float .f64 p1, .float .f64 p2, .float .f64 p3] 25)
  clear xa0 xa1 xa2 xb0 xb1 xb2
  refine (bendk_ref _ _ _ _ _ _ _ _).mono ?_
  rintro e w2 ⟨⟨q1, q2, q3, k', rfl, hk', hq1, hq2, hq3⟩, hb1⟩
  obtain rfl : k' = k := hk'.out.trans hk.out.symm
  have g1 : Hid (cn p1 = cn q1) := hid (hp1.out.trans hq1.out.symm)
  have g2 : Hid (cn p2 = cn q2) := hid (hp2.out.trans hq2.out.symm)
  have g3 : Hid (cn p3 = cn q3) := hid (hp3.out.trans hq3.out.symm)
  clear hp1 hp2 hp3 hq1 hq2 hq3 hk hk'
  replace rd := rd.below hb1 rd.lt
  replace rn := rn.below hb1 rn.lt
  replace rp := rp.below hb1 rp.lt
  replace hbW := hbW.trans (hb1.mono hbW.size)
  clear hb1
  go_wp2_with fail
  have rq : Row (w2.alloc (.cells #[.float .f64 q1, .float .f64 q2, .float .f64 q3] 25)) w2.heap.size 25 #[.float .f64 q1, .float .f64 q2, .float .f64 q3] := Row.new _ _ _
  replace rd := rd.alloc (.cells #[.float .f64 q1, .float .f64 q2, .float .f64 q3] 25)
  replace rn := rn.alloc (.cells #[.float .f64 q1, .float .f64 q2, .float .f64 q3] 25)
  replace rp := rp.alloc (.cells #[.float .f64 q1, .float .f64 q2, .float .f64 q3] 25)
  replace hbW := bel_alloc hbW (.cells #[.float .f64 q1, .float .f64 q2, .float .f64 q3] 25)
  generalize w2.alloc (.cells #[.float .f64 q1, .float .f64 q2, .float .f64 q3] 25) = W2 at *
  have celd0 := fun w' (h : Below W2.heap.size W2 w') => (rd.below h rd.lt).cell 0
  simp only [List.size_toArray, List.length_cons, List.getElem?_toArray, List.getElem?_cons_zero, List.getElem?_cons_succ] at celd0
  have celd1 := fun w' (h : Below W2.heap.size W2 w') => (rd.below h rd.lt).cell 1
  simp only [List.size_toArray, List.length_cons, List.getElem?_toArray, List.getElem?_cons_zero, List.getElem?_cons_succ] at celd1
  have celd2 := fun w' (h : Below W2.heap.size W2 w') => (rd.below h rd.lt).cell 2
  simp only [List.size_toArray, List.length_cons, List.getElem?_toArray, List.getElem?_cons_zero, List.getElem?_cons_succ] at celd2
  have celn0 := fun w' (h : Below W2.heap.size W2 w') => (rn.below h rn.lt).cell 0
  simp only [List.size_toArray, List.length_cons, List.getElem?_toArray, List.getElem?_cons_zero, List.getElem?_cons_succ] at celn0
  have celn1 := fun w' (h : Below W2.heap.size W2 w') => (rn.below h rn.lt).cell 1
  simp only [List.size_toArray, List.length_cons, List.getElem?_toArray, List.getElem?_cons_zero, List.getElem?_cons_succ] at celn1
  have celn2 := fun w' (h : Below W2.heap.size W2 w') => (rn.below h rn.lt).cell 2
  simp only [List.size_toArray, List.length_cons, List.getElem?_toArray, List.getElem?_cons_zero, List.getElem?_cons_succ] at celn2
  have celp0 := fun w' (h : Below W2.heap.size W2 w') => (rp.below h rp.lt).cell 0
  simp only [List.size_toArray, List.length_cons, List.getElem?_toArray, List.getElem?_cons_zero, List.getElem?_cons_succ] at celp0
  have celp1 := fun w' (h : Below W2.heap.size W2 w') => (rp.below h rp.lt).cell 1
  simp only [List.size_toArray, List.length_cons, List.getElem?_toArray, List.getElem?_cons_zero, List.getElem?_cons_succ] at celp1
  have celp2 := fun w' (h : Below W2.heap.size W2 w') => (rp.below h rp.lt).cell 2
  simp only [List.size_toArray, List.length_cons, List.getElem?_toArray, List.getElem?_cons_zero, List.getElem?_cons_succ] at celp2
  have celq0 := fun w' (h : Below W2.heap.size W2 w') => (rq.below h rq.lt).cell 0
  simp only [List.size_toArray, List.length_cons, List.getElem?_toArray, List.getElem?_cons_zero, List.getElem?_cons_succ] at celq0
  have celq1 := fun w' (h : Below W2.heap.size W2 w') => (rq.below h rq.lt).cell 1
  simp only [List.size_toArray, List.length_cons, List.getElem?_toArray, List.getElem?_cons_zero, List.getElem?_cons_succ] at celq1
  have celq2 := fun w' (h : Below W2.heap.size W2 w') => (rq.below h rq.lt).cell 2
  simp only [List.size_toArray, List.length_cons, List.getElem?_toArray, List.getElem?_cons_zero, List.getElem?_cons_succ] at celq2
  refine wp_region_fair (n := 17) (C := fun w' => Below W2.heap.size W2 w') (G := fun f args v => (f = 9 → SSame args v) ∧ (f = 18 → SMir args v) ∧ (f = 19 → SMir args v)) (by kernel_rfl) (by kernel_rfl) (below_drewN (Below.refl _ _) 1) ?_
  simp only [List.take_succ_cons, List.take_zero, List.drop_succ_cons, List.drop_zero]
  repeat (refine fair_val rfl (fun w' hw' => by go_simp; with_reducible rfl) ?_; simp only [Act.put, List.setIfInBounds_toArray, List.set_cons_zero, List.set_cons_succ])
  apply fair_call rfl
  · intro w' hw'
    go_simp
    exact ⟨rfl, rfl⟩
  · intro w' hw'
    refine (S_same _ _ _ _ _ _ w' g1 g2 g3).mono ?_
    rintro e w'' ⟨v, hs, he, hb⟩
    exact ⟨v, by refine ⟨?_, ?_, ?_⟩ <;> intro h <;> first | exact hs | exact absurd h (by decide), he, hw'.trans (hb.mono hw'.size)⟩
  intro v hv
  obtain rfl := hv.1 rfl _ _ _ _ _ _ rfl g1 g2 g3
  clear hv
  simp only [Act.put, List.setIfInBounds_toArray, List.set_cons_zero, List.set_cons_succ]
  repeat (refine fair_val rfl (fun w' hw' => by go_simp; with_reducible rfl) ?_; simp only [Act.put, List.setIfInBounds_toArray, List.set_cons_zero, List.set_cons_succ])
  apply fair_call rfl
  · intro w' hw'
    go_simp
    exact ⟨rfl, rfl⟩
  · intro w' hw'
    refine (S_mir_any _ _ _ _ _ _ w').mono ?_
    rintro e w'' ⟨v, hs, he, hb⟩
    exact ⟨v, by refine ⟨?_, ?_, ?_⟩ <;> intro h <;> first | exact hs | exact absurd h (by decide), he, hw'.trans (hb.mono hw'.size)⟩
  intro v hv
  obtain ⟨s1, s2, s3, rfl, hs1, hs2, hs3⟩ := hv.2.1 rfl _ _ _ _ _ _ rfl
  clear hv
  simp only [Act.put, List.setIfInBounds_toArray, List.set_cons_zero, List.set_cons_succ]
  repeat (refine fair_val rfl (fun w' hw' => by go_simp; with_reducible rfl) ?_; simp only [Act.put, List.setIfInBounds_toArray, List.set_cons_zero, List.set_cons_succ])
  apply fair_call rfl
  · intro w' hw'
    go_simp
    exact ⟨rfl, rfl⟩
  · intro w' hw'
    refine (S_mir_ref _ _ _ _ _ _ w').mono ?_
    rintro e w'' ⟨v, hs, he, hb⟩
    exact ⟨v, by refine ⟨?_, ?_, ?_⟩ <;> intro h <;> first | exact hs | exact absurd h (by decide), he, hw'.trans (hb.mono hw'.size)⟩
  intro v hv
  obtain ⟨t1, t2, t3, rfl, ht1, ht2, ht3⟩ := hv.2.2 rfl _ _ _ _ _ _ rfl
  clear hv
  simp only [Act.put, List.setIfInBounds_toArray, List.set_cons_zero, List.set_cons_succ]
  have u1 : Hid (cn s1 = cn t1) := hid (hs1.trans ht1.symm)
  have u2 : Hid (cn s2 = cn t2) := hid (hs2.trans ht2.symm)
  have u3 : Hid (cn s3 = cn t3) := hid (hs3.trans ht3.symm)
  clear hs1 hs2 hs3 ht1 ht2 ht3
  repeat (refine fair_val rfl (fun w' hw' => by go_simp; with_reducible rfl) ?_; simp only [Act.put, List.setIfInBounds_toArray, List.set_cons_zero, List.set_cons_succ])
  apply fair_call rfl
  · intro w' hw'
    go_simp
    exact ⟨rfl, rfl⟩
  · intro w' hw'
    refine (S_same _ _ _ _ _ _ w' u1 u2 u3).mono ?_
    rintro e w'' ⟨v, hs, he, hb⟩
    exact ⟨v, by refine ⟨?_, ?_, ?_⟩ <;> intro h <;> first | exact hs | exact absurd h (by decide), he, hw'.trans (hb.mono hw'.size)⟩
  intro v hv
  obtain rfl := hv.1 rfl _ _ _ _ _ _ rfl u1 u2 u3
  clear hv
  simp only [Act.put, List.setIfInBounds_toArray, List.set_cons_zero, List.set_cons_succ]
  repeat (refine fair_val rfl (fun w' hw' => by go_simp; with_reducible rfl) ?_; simp only [Act.put, List.setIfInBounds_toArray, List.set_cons_zero, List.set_cons_succ])
  refine fair_nil ?_
  intro w' hw'
  go_wp2_with fail
  go_ret
  exact ⟨rfl, hbW.trans (hw'.mono hbW.size)⟩

theorem vecBends_law (v0 v1 : Value) (eta : Nat) (w : World) (h0 : IsVec v0) (h1 : IsVec v1) (_ : (Lit.float .f64 eta).wf = true) :
    Calls Try.prog 5 #[v0, v1, .float .f64 eta] w fun e w' => e = .returned (.bool true) ∧ Below w.heap.size w w' := by
  obtain ⟨d1, d2, d3, rfl⟩ := h0
  obtain ⟨n1, n2, n3, rfl⟩ := h1
  exact vecBends_walk d1 d2 d3 n1 n2 n3 eta w
end Go.Proofs.Ytkfmpdoendggjaa
