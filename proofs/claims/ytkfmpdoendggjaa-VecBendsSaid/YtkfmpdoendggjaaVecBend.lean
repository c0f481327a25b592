/- Walks of Bend: program and reference. -/
import Derived.Test.YtkfmpdoendggjaaVecMirror
namespace Go.Proofs.Ytkfmpdoendggjaa
open Go.RowKit
set_option linter.unusedVariables false
set_option linter.unusedSimpArgs false
attribute [local go_sem] run_stf unary_fneg

/-- What Bend computes: the cosine, what stands beneath the root, whether it can be. -/
def bendC (d1 d2 d3 n1 n2 n3 : Nat) : Nat := Fneg (dotF d1 d2 d3 n1 n2 n3)
def bendK (c e : Nat) : Nat := F .sub (cn 4607182418800017408) (F .mul (F .mul e e) (F .sub (cn 4607182418800017408) (F .mul c c)))
def ge0 (x : Nat) : Bool := FloatKind.f64.format.order x 0 == some .gt || FloatKind.f64.format.order x 0 == some .eq
theorem ge0_cn (x : Nat) : ge0 (cn x) = ge0 x := by unfold ge0; rw [order_cn_left]
def bendX (c e k d n : Nat) : Nat := F .add (F .mul d e) (F .mul n (F .sub (F .mul e c) (sq k)))
def bendOk (d1 d2 d3 n1 n2 n3 e : Nat) : Bool := ge0 (bendK (bendC d1 d2 d3 n1 n2 n3) e)
def bendR (d1 d2 d3 n1 n2 n3 e d n : Nat) : Nat := if bendOk d1 d2 d3 n1 n2 n3 e then bendX (bendC d1 d2 d3 n1 n2 n3) e (bendK (bendC d1 d2 d3 n1 n2 n3) e) d n else 0

set_option maxHeartbeats 1000000 in
theorem bend_any (d1 d2 d3 n1 n2 n3 eta : Nat) (w : World) :
    Calls Try.prog 16 #[.agg #[.float .f64 d1, .float .f64 d2, .float .f64 d3], .agg #[.float .f64 n1, .float .f64 n2, .float .f64 n3], .float .f64 eta] w fun e w' => (∃ x y z, e = .returned (.tuple #[.agg #[.float .f64 x, .float .f64 y, .float .f64 z], .bool (bendOk (cn d1) (cn d2) (cn d3) (cn n1) (cn n2) (cn n3) (cn eta))]) ∧ cn x = bendR (cn d1) (cn d2) (cn d3) (cn n1) (cn n2) (cn n3) (cn eta) (cn d1) (cn n1) ∧ cn y = bendR (cn d1) (cn d2) (cn d3) (cn n1) (cn n2) (cn n3) (cn eta) (cn d2) (cn n2) ∧ cn z = bendR (cn d1) (cn d2) (cn d3) (cn n1) (cn n2) (cn n3) (cn eta) (cn d3) (cn n3)) ∧ Below w.heap.size w w' := by
  go_enter Try.func16, Try.ntmps16
  go_wp2_with fail
  obtain ⟨W0, hWW0⟩ : ∃ W0, W0 = (((w.alloc (.cells #[.float .f64 d1, .float .f64 d2, .float .f64 d3] 25)).alloc (.cells #[.float .f64 n1, .float .f64 n2, .float .f64 n3] 25)).alloc (.cells #[.float .f64 0, .float .f64 0, .float .f64 0] 25)) := ⟨_, rfl⟩
  have rd : Row W0 (w.heap.size) 25 #[.float .f64 d1, .float .f64 d2, .float .f64 d3] := by rw [hWW0]; have := (((Row.new w 25 #[.float .f64 d1, .float .f64 d2, .float .f64 d3]).alloc (.cells #[.float .f64 n1, .float .f64 n2, .float .f64 n3] 25)).alloc (.cells #[.float .f64 0, .float .f64 0, .float .f64 0] 25)); simpa using this
  have rn : Row W0 (w.heap.size + 1) 25 #[.float .f64 n1, .float .f64 n2, .float .f64 n3] := by rw [hWW0]; have := ((Row.new (w.alloc (.cells #[.float .f64 d1, .float .f64 d2, .float .f64 d3] 25)) 25 #[.float .f64 n1, .float .f64 n2, .float .f64 n3]).alloc (.cells #[.float .f64 0, .float .f64 0, .float .f64 0] 25)); simpa using this
  have rr : Row W0 (w.heap.size + 1 + 1) 25 #[.float .f64 0, .float .f64 0, .float .f64 0] := by rw [hWW0]; have := (Row.new ((w.alloc (.cells #[.float .f64 d1, .float .f64 d2, .float .f64 d3] 25)).alloc (.cells #[.float .f64 n1, .float .f64 n2, .float .f64 n3] 25)) 25 #[.float .f64 0, .float .f64 0, .float .f64 0]); simpa using this
  have hbW : Below w.heap.size w W0 := by rw [hWW0]; exact bel_alloc (bel_alloc (bel_alloc (Below.refl _ _) _) _) _
  rw [← hWW0]
  clear hWW0
  refine (dot_any d1 d2 d3 n1 n2 n3 W0).mono ?_
  rintro e w1 ⟨x, rfl, hx, hb⟩
  have hc : Hid (cn (fneg x) = bendC (cn d1) (cn d2) (cn d3) (cn n1) (cn n2) (cn n3)) := hid (by rw [cn_fneg, hx]; rfl)
  clear hx
  replace rd := rd.below hb rd.lt
  replace rn := rn.below hb rn.lt
  replace rr := rr.below hb rr.lt
  replace hbW := hbW.trans (hb.mono hbW.size)
  clear hb
  obtain ⟨z0, z1, z2, f0, f1, f2⟩ := rr.cells3
  go_wp2_with (refine list_flt _ _ _ _ _ _ _ rfl rfl (by first | exact .inl rfl | exact .inr (.inl rfl) | exact .inr (.inr (.inl rfl)) | exact .inr (.inr (.inr rfl))) rfl rfl ?_; intro _ _ _)
  · rename_i v1 m1 e1 v2 m2 e2 v3 m3 e3 v4 m4 e4 v5 m5 e5 K aK ht
    have hk : cn v5 = bendK (bendC (cn d1) (cn d2) (cn d3) (cn n1) (cn n2) (cn n3)) (cn eta) := by rw [e5.out, e4.out, e3.out, e2.out, e1.out, hc.out]; rfl
    have hno : bendOk (cn d1) (cn d2) (cn d3) (cn n1) (cn n2) (cn n3) (cn eta) = false := by unfold bendOk; rw [← hk, ge0_cn]; unfold ge0; simpa using ht
    refine bodyPost_ret (v := .tuple #[.agg #[.float .f64 0, .float .f64 0, .float .f64 0], .bool false]) (by simp [results, Try.results16, go_sem, *]) rfl ⟨⟨0, 0, 0, by rw [hno], ?_, ?_, ?_⟩, ?_⟩
    · unfold bendR; rw [hno]; exact cn_zero
    · unfold bendR; rw [hno]; exact cn_zero
    · unfold bendR; rw [hno]; exact cn_zero
    · repeat (refine Below.setCell ?_ (by simp <;> omega) _)
      repeat (first | exact hbW | refine below_drewN ?_ _)
  · rename_i v1 m1 e1 v2 m2 e2 v3 m3 e3 v4 m4 e4 v5 m5 e5 ht K aK
    have hk : Hid (cn v5 = bendK (bendC (cn d1) (cn d2) (cn d3) (cn n1) (cn n2) (cn n3)) (cn eta)) := hid (by rw [e5.out, e4.out, e3.out, e2.out, e1.out, hc.out]; rfl)
    have hyes : bendOk (cn d1) (cn d2) (cn d3) (cn n1) (cn n2) (cn n3) (cn eta) = true := by unfold bendOk; rw [← hk.out, ge0_cn]; unfold ge0; simpa using ht
    clear z0 z1 z2 f0 f1 f2 ht e1 e2 e3 e4 e5
    replace hyes := hid hyes
    have celd0 := fun w' (h : Below w1.heap.size w1 w') => (rd.below h rd.lt).cell 0
    simp only [List.size_toArray, List.length_cons, List.getElem?_toArray, List.getElem?_cons_zero, List.getElem?_cons_succ] at celd0
    have celd1 := fun w' (h : Below w1.heap.size w1 w') => (rd.below h rd.lt).cell 1
    simp only [List.size_toArray, List.length_cons, List.getElem?_toArray, List.getElem?_cons_zero, List.getElem?_cons_succ] at celd1
    have celd2 := fun w' (h : Below w1.heap.size w1 w') => (rd.below h rd.lt).cell 2
    simp only [List.size_toArray, List.length_cons, List.getElem?_toArray, List.getElem?_cons_zero, List.getElem?_cons_succ] at celd2
    have celn0 := fun w' (h : Below w1.heap.size w1 w') => (rn.below h rn.lt).cell 0
    simp only [List.size_toArray, List.length_cons, List.getElem?_toArray, List.getElem?_cons_zero, List.getElem?_cons_succ] at celn0
    have celn1 := fun w' (h : Below w1.heap.size w1 w') => (rn.below h rn.lt).cell 1
    simp only [List.size_toArray, List.length_cons, List.getElem?_toArray, List.getElem?_cons_zero, List.getElem?_cons_succ] at celn1
    have celn2 := fun w' (h : Below w1.heap.size w1 w') => (rn.below h rn.lt).cell 2
    simp only [List.size_toArray, List.length_cons, List.getElem?_toArray, List.getElem?_cons_zero, List.getElem?_cons_succ] at celn2
    refine wp_region_fair (n := 12) (C := fun w' => Below w1.heap.size w1 w') (G := fun f args v => (f = 13 → SKin .mul args v) ∧ (f = 36 → SSqrt args v) ∧ (f = 10 → SBin .add args v)) (by kernel_rfl) (by kernel_rfl) (below_drewN (below_drewN (Below.refl _ _) _) 1) ?_
    simp only [List.take_succ_cons, List.take_zero, List.drop_succ_cons, List.drop_zero]
    repeat (refine fair_val rfl (fun w' hw' => by go_simp; with_reducible rfl) ?_; simp only [Act.put, List.setIfInBounds_toArray, List.set_cons_zero, List.set_cons_succ])
    apply fair_call rfl
    · intro w' hw'
      go_simp
      exact ⟨rfl, rfl⟩
    · intro w' hw'
      refine (S_scale_any _ _ _ _ w').mono ?_
      rintro e w'' ⟨v, hs, he, hb⟩
      exact ⟨v, by refine ⟨?_, ?_, ?_⟩ <;> intro h <;> first | exact hs | exact absurd h (by decide), he, hw'.trans (hb.mono hw'.size)⟩
    intro v hv
    obtain ⟨s1, s2, s3, rfl, hs1, hs2, hs3⟩ := hv.1 rfl _ _ _ _ rfl
    clear hv
    simp only [Act.put, List.setIfInBounds_toArray, List.set_cons_zero, List.set_cons_succ]
    replace hs1 := hid hs1
    replace hs2 := hid hs2
    replace hs3 := hid hs3
    repeat (refine fair_val rfl (fun w' hw' => by go_simp; with_reducible rfl) ?_; simp only [Act.put, List.setIfInBounds_toArray, List.set_cons_zero, List.set_cons_succ])
    refine fair_flt .mul _ _ _ _ _ _ rfl rfl (by simp) rfl rfl (fun w n h => below_drewN h n) ?_
    intro mm hm
    simp only [Act.put, List.setIfInBounds_toArray, List.set_cons_zero, List.set_cons_succ]
    replace hm := hid hm
    repeat (refine fair_val rfl (fun w' hw' => by go_simp; with_reducible rfl) ?_; simp only [Act.put, List.setIfInBounds_toArray, List.set_cons_zero, List.set_cons_succ])
    apply fair_call rfl
    · intro w' hw'
      go_simp
      exact ⟨rfl, rfl⟩
    · intro w' hw'
      refine (S_sqrt _ w').mono ?_
      rintro e w'' ⟨v, hs, he, hb⟩
      exact ⟨v, by refine ⟨?_, ?_, ?_⟩ <;> intro h <;> first | exact hs | exact absurd h (by decide), he, hw'.trans (hb.mono hw'.size)⟩
    intro v hv
    obtain ⟨qq, rfl, hq⟩ := hv.2.1 rfl _ rfl
    clear hv
    simp only [Act.put, List.setIfInBounds_toArray, List.set_cons_zero, List.set_cons_succ]
    replace hq := hid hq
    repeat (refine fair_val rfl (fun w' hw' => by go_simp; with_reducible rfl) ?_; simp only [Act.put, List.setIfInBounds_toArray, List.set_cons_zero, List.set_cons_succ])
    refine fair_flt .sub _ _ _ _ _ _ rfl rfl (by simp) rfl rfl (fun w n h => below_drewN h n) ?_
    intro uu hu
    simp only [Act.put, List.setIfInBounds_toArray, List.set_cons_zero, List.set_cons_succ]
    replace hu := hid hu
    repeat (refine fair_val rfl (fun w' hw' => by go_simp; with_reducible rfl) ?_; simp only [Act.put, List.setIfInBounds_toArray, List.set_cons_zero, List.set_cons_succ])
    apply fair_call rfl
    · intro w' hw'
      go_simp
      exact ⟨rfl, rfl⟩
    · intro w' hw'
      refine (S_scale_any _ _ _ _ w').mono ?_
      rintro e w'' ⟨v, hs, he, hb⟩
      exact ⟨v, by refine ⟨?_, ?_, ?_⟩ <;> intro h <;> first | exact hs | exact absurd h (by decide), he, hw'.trans (hb.mono hw'.size)⟩
    intro v hv
    obtain ⟨t1, t2, t3, rfl, ht1, ht2, ht3⟩ := hv.1 rfl _ _ _ _ rfl
    clear hv
    simp only [Act.put, List.setIfInBounds_toArray, List.set_cons_zero, List.set_cons_succ]
    replace ht1 := hid ht1
    replace ht2 := hid ht2
    replace ht3 := hid ht3
    repeat (refine fair_val rfl (fun w' hw' => by go_simp; with_reducible rfl) ?_; simp only [Act.put, List.setIfInBounds_toArray, List.set_cons_zero, List.set_cons_succ])
    apply fair_call rfl
    · intro w' hw'
      go_simp
      exact ⟨rfl, rfl⟩
    · intro w' hw'
      refine (S_add_any _ _ _ _ _ _ w').mono ?_
      rintro e w'' ⟨v, hs, he, hb⟩
      exact ⟨v, by refine ⟨?_, ?_, ?_⟩ <;> intro h <;> first | exact hs | exact absurd h (by decide), he, hw'.trans (hb.mono hw'.size)⟩
    intro v hv
    obtain ⟨r1, r2, r3, rfl, hr1, hr2, hr3⟩ := hv.2.2 rfl _ _ _ _ _ _ rfl
    clear hv
    simp only [Act.put, List.setIfInBounds_toArray, List.set_cons_zero, List.set_cons_succ]
    replace hr1 := hid hr1
    replace hr2 := hid hr2
    replace hr3 := hid hr3
    refine fair_nil ?_
    intro w' hw'
    obtain ⟨z0, z1, z2, f0, f1, f2⟩ := (rr.below hw' rr.lt).cells3
    clear celd0 celd1 celd2 celn0 celn1 celn2
    go_wp2_with fail
    refine bodyPost_ret (v := .tuple #[.agg #[.float .f64 r1, .float .f64 r2, .float .f64 r3], .bool true]) (by simp [results, Try.results16, go_sem, *]) rfl ⟨⟨r1, r2, r3, by rw [hyes.out], ?_, ?_, ?_⟩, ?_⟩
    · unfold bendR; rw [hyes.out, hr1.out, hs1.out, ht1.out, hu.out, hm.out, hq.out, hk.out, hc.out]; rfl
    · unfold bendR; rw [hyes.out, hr2.out, hs2.out, ht2.out, hu.out, hm.out, hq.out, hk.out, hc.out]; rfl
    · unfold bendR; rw [hyes.out, hr3.out, hs3.out, ht3.out, hu.out, hm.out, hq.out, hk.out, hc.out]; rfl
    · repeat (refine Below.setCell ?_ (by simp <;> omega) _)
      exact hbW.trans (hw'.mono hbW.size)

set_option maxHeartbeats 1000000 in
theorem bend_ref (d1 d2 d3 n1 n2 n3 eta : Nat) (w : World) :
    Calls Try.prog 17 #[.agg #[.float .f64 d1, .float .f64 d2, .float .f64 d3], .agg #[.float .f64 n1, .float .f64 n2, .float .f64 n3], .float .f64 eta] w fun e w' => (∃ x y z, e = .returned (.tuple #[.agg #[.float .f64 x, .float .f64 y, .float .f64 z], .bool (bendOk (cn d1) (cn d2) (cn d3) (cn n1) (cn n2) (cn n3) (cn eta))]) ∧ cn x = bendR (cn d1) (cn d2) (cn d3) (cn n1) (cn n2) (cn n3) (cn eta) (cn d1) (cn n1) ∧ cn y = bendR (cn d1) (cn d2) (cn d3) (cn n1) (cn n2) (cn n3) (cn eta) (cn d2) (cn n2) ∧ cn z = bendR (cn d1) (cn d2) (cn d3) (cn n1) (cn n2) (cn n3) (cn eta) (cn d3) (cn n3)) ∧ Below w.heap.size w w' := by
  go_enter Try.func17, Try.ntmps17
  go_wp2_with fail
  obtain ⟨W0, hWW0⟩ : ∃ W0, W0 = (((w.alloc (.cells #[.float .f64 d1, .float .f64 d2, .float .f64 d3] 25)).alloc (.cells #[.float .f64 n1, .float .f64 n2, .float .f64 n3] 25)).alloc (.cells #[.float .f64 0, .float .f64 0, .float .f64 0] 25)) := ⟨_, rfl⟩
  have rd : Row W0 (w.heap.size) 25 #[.float .f64 d1, .float .f64 d2, .float .f64 d3] := by rw [hWW0]; have := (((Row.new w 25 #[.float .f64 d1, .float .f64 d2, .float .f64 d3]).alloc (.cells #[.float .f64 n1, .float .f64 n2, .float .f64 n3] 25)).alloc (.cells #[.float .f64 0, .float .f64 0, .float .f64 0] 25)); simpa using this
  have rn : Row W0 (w.heap.size + 1) 25 #[.float .f64 n1, .float .f64 n2, .float .f64 n3] := by rw [hWW0]; have := ((Row.new (w.alloc (.cells #[.float .f64 d1, .float .f64 d2, .float .f64 d3] 25)) 25 #[.float .f64 n1, .float .f64 n2, .float .f64 n3]).alloc (.cells #[.float .f64 0, .float .f64 0, .float .f64 0] 25)); simpa using this
  have rr : Row W0 (w.heap.size + 1 + 1) 25 #[.float .f64 0, .float .f64 0, .float .f64 0] := by rw [hWW0]; have := (Row.new ((w.alloc (.cells #[.float .f64 d1, .float .f64 d2, .float .f64 d3] 25)).alloc (.cells #[.float .f64 n1, .float .f64 n2, .float .f64 n3] 25)) 25 #[.float .f64 0, .float .f64 0, .float .f64 0]); simpa using this
  have hbW : Below w.heap.size w W0 := by rw [hWW0]; exact bel_alloc (bel_alloc (bel_alloc (Below.refl _ _) _) _) _
  rw [← hWW0]
  clear hWW0
  refine (dot_ref d1 d2 d3 n1 n2 n3 W0).mono ?_
  rintro e w1 ⟨x, rfl, hx, hb⟩
  have hc : Hid (cn (fneg x) = bendC (cn d1) (cn d2) (cn d3) (cn n1) (cn n2) (cn n3)) := hid (by rw [cn_fneg, hx]; rfl)
  clear hx
  replace rd := rd.below hb rd.lt
  replace rn := rn.below hb rn.lt
  replace rr := rr.below hb rr.lt
  replace hbW := hbW.trans (hb.mono hbW.size)
  clear hb
  go_wp2_with (refine list_flt _ _ _ _ _ _ _ rfl rfl (by first | exact .inl rfl | exact .inr (.inl rfl) | exact .inr (.inr (.inl rfl)) | exact .inr (.inr (.inr rfl))) rfl rfl ?_; intro _ _ _)
  refine (times_ref _ _ _).mono ?_
  rintro e w2 ⟨x1, rfl, hx1, hb⟩
  replace hx1 := hid hx1
  replace rd := rd.below hb rd.lt
  replace rn := rn.below hb rn.lt
  replace rr := rr.below hb rr.lt
  replace hbW := hbW.trans (hb.mono hbW.size)
  clear hb
  go_wp2_with (refine list_flt _ _ _ _ _ _ _ rfl rfl (by first | exact .inl rfl | exact .inr (.inl rfl) | exact .inr (.inr (.inl rfl)) | exact .inr (.inr (.inr rfl))) rfl rfl ?_; intro _ _ _)
  refine (times_ref _ _ _).mono ?_
  rintro e w3 ⟨x2, rfl, hx2, hb⟩
  replace hx2 := hid hx2
  replace rd := rd.below hb rd.lt
  replace rn := rn.below hb rn.lt
  replace rr := rr.below hb rr.lt
  replace hbW := hbW.trans (hb.mono hbW.size)
  clear hb
  go_wp2_with (refine list_flt _ _ _ _ _ _ _ rfl rfl (by first | exact .inl rfl | exact .inr (.inl rfl) | exact .inr (.inr (.inl rfl)) | exact .inr (.inr (.inr rfl))) rfl rfl ?_; intro _ _ _)
  refine (times_ref _ _ _).mono ?_
  rintro e w4 ⟨x3, rfl, hx3, hb⟩
  replace hx3 := hid hx3
  replace hb := below_of_drewN hb
  replace rd := rd.below hb rd.lt
  replace rn := rn.below hb rn.lt
  replace rr := rr.below hb rr.lt
  replace hbW := hbW.trans (hb.mono hbW.size)
  clear hb
  obtain ⟨z0, z1, z2, f0, f1, f2⟩ := rr.cells3
  go_wp2_with (refine list_flt _ _ _ _ _ _ _ rfl rfl (by first | exact .inl rfl | exact .inr (.inl rfl) | exact .inr (.inr (.inl rfl)) | exact .inr (.inr (.inr rfl))) rfl rfl ?_; intro _ _ _)
  · rename_i v1 m1 e1 v2 m2 e2 K0 aK0 ht K1 aK1 K2 aK2
    have hk : Hid (cn v2 = bendK (bendC (cn d1) (cn d2) (cn d3) (cn n1) (cn n2) (cn n3)) (cn eta)) := hid (by rw [e2.out, hx3.out, e1.out, hx2.out, hx1.out, hc.out]; rfl)
    have hyes : bendOk (cn d1) (cn d2) (cn d3) (cn n1) (cn n2) (cn n3) (cn eta) = true := by unfold bendOk; rw [← hk.out, ge0_cn]; unfold ge0; simpa using ht
    clear z0 z1 z2 f0 f1 f2 ht e1 e2 hx1 hx2 hx3
    replace hyes := hid hyes
    refine (times_ref _ _ _).mono ?_
    rintro e w5 ⟨x4, rfl, hx4, hb⟩
    replace hx4 := hid hx4
    replace hb := below_of_drewN hb
    replace rd := rd.below hb rd.lt
    replace rn := rn.below hb rn.lt
    replace rr := rr.below hb rr.lt
    replace hbW := hbW.trans (hb.mono hbW.size)
    clear hb
    go_wp2_with (refine list_flt _ _ _ _ _ _ _ rfl rfl (by first | exact .inl rfl | exact .inr (.inl rfl) | exact .inr (.inr (.inl rfl)) | exact .inr (.inr (.inr rfl))) rfl rfl ?_; intro _ _ _)
    refine (sqrt_any _ _).mono ?_
    rintro e w6 ⟨qq, nq, rfl, hq, rfl⟩
    replace hq := hid hq
    go_wp2_with (refine list_flt _ _ _ _ _ _ _ rfl rfl (by first | exact .inl rfl | exact .inr (.inl rfl) | exact .inr (.inr (.inl rfl)) | exact .inr (.inr (.inr rfl))) rfl rfl ?_; intro _ _ _)
    rename_i v3 m3 e3 K3 aK3
    have celd0 := fun w' (h : Below w5.heap.size w5 w') => (rd.below h rd.lt).cell 0
    simp only [List.size_toArray, List.length_cons, List.getElem?_toArray, List.getElem?_cons_zero, List.getElem?_cons_succ] at celd0
    have celd1 := fun w' (h : Below w5.heap.size w5 w') => (rd.below h rd.lt).cell 1
    simp only [List.size_toArray, List.length_cons, List.getElem?_toArray, List.getElem?_cons_zero, List.getElem?_cons_succ] at celd1
    have celd2 := fun w' (h : Below w5.heap.size w5 w') => (rd.below h rd.lt).cell 2
    simp only [List.size_toArray, List.length_cons, List.getElem?_toArray, List.getElem?_cons_zero, List.getElem?_cons_succ] at celd2
    have celn0 := fun w' (h : Below w5.heap.size w5 w') => (rn.below h rn.lt).cell 0
    simp only [List.size_toArray, List.length_cons, List.getElem?_toArray, List.getElem?_cons_zero, List.getElem?_cons_succ] at celn0
    have celn1 := fun w' (h : Below w5.heap.size w5 w') => (rn.below h rn.lt).cell 1
    simp only [List.size_toArray, List.length_cons, List.getElem?_toArray, List.getElem?_cons_zero, List.getElem?_cons_succ] at celn1
    have celn2 := fun w' (h : Below w5.heap.size w5 w') => (rn.below h rn.lt).cell 2
    simp only [List.size_toArray, List.length_cons, List.getElem?_toArray, List.getElem?_cons_zero, List.getElem?_cons_succ] at celn2
    refine wp_region_fair (n := 7) (C := fun w' => Below w5.heap.size w5 w') (G := fun f args v => (f = 26 → SKin .mul args v) ∧ (f = 23 → SBin .add args v)) (by kernel_rfl) (by kernel_rfl) (below_drewN (below_drewN (Below.refl _ _) _) 1) ?_
    simp only [List.take_succ_cons, List.take_zero, List.drop_succ_cons, List.drop_zero]
    repeat (refine fair_val rfl (fun w' hw' => by go_simp; with_reducible rfl) ?_; simp only [Act.put, List.setIfInBounds_toArray, List.set_cons_zero, List.set_cons_succ])
    apply fair_call rfl
    · intro w' hw'
      go_simp
      exact ⟨rfl, rfl⟩
    · intro w' hw'
      refine (S_scale_ref _ _ _ _ w').mono ?_
      rintro e w'' ⟨v, hs, he, hb⟩
      exact ⟨v, by refine ⟨?_, ?_⟩ <;> intro h <;> first | exact hs | exact absurd h (by decide), he, hw'.trans (hb.mono hw'.size)⟩
    intro v hv
    obtain ⟨s1, s2, s3, rfl, hs1, hs2, hs3⟩ := hv.1 rfl _ _ _ _ rfl
    clear hv
    simp only [Act.put, List.setIfInBounds_toArray, List.set_cons_zero, List.set_cons_succ]
    replace hs1 := hid hs1
    replace hs2 := hid hs2
    replace hs3 := hid hs3
    repeat (refine fair_val rfl (fun w' hw' => by go_simp; with_reducible rfl) ?_; simp only [Act.put, List.setIfInBounds_toArray, List.set_cons_zero, List.set_cons_succ])
    apply fair_call rfl
    · intro w' hw'
      go_simp
      exact ⟨rfl, rfl⟩
    · intro w' hw'
      refine (S_scale_ref _ _ _ _ w').mono ?_
      rintro e w'' ⟨v, hs, he, hb⟩
      exact ⟨v, by refine ⟨?_, ?_⟩ <;> intro h <;> first | exact hs | exact absurd h (by decide), he, hw'.trans (hb.mono hw'.size)⟩
    intro v hv
    obtain ⟨t1, t2, t3, rfl, ht1, ht2, ht3⟩ := hv.1 rfl _ _ _ _ rfl
    clear hv
    simp only [Act.put, List.setIfInBounds_toArray, List.set_cons_zero, List.set_cons_succ]
    replace ht1 := hid ht1
    replace ht2 := hid ht2
    replace ht3 := hid ht3
    repeat (refine fair_val rfl (fun w' hw' => by go_simp; with_reducible rfl) ?_; simp only [Act.put, List.setIfInBounds_toArray, List.set_cons_zero, List.set_cons_succ])
    apply fair_call rfl
    · intro w' hw'
      go_simp
      exact ⟨rfl, rfl⟩
    · intro w' hw'
      refine (S_add_ref _ _ _ _ _ _ w').mono ?_
      rintro e w'' ⟨v, hs, he, hb⟩
      exact ⟨v, by refine ⟨?_, ?_⟩ <;> intro h <;> first | exact hs | exact absurd h (by decide), he, hw'.trans (hb.mono hw'.size)⟩
    intro v hv
    obtain ⟨r1, r2, r3, rfl, hr1, hr2, hr3⟩ := hv.2 rfl _ _ _ _ _ _ rfl
    clear hv
    simp only [Act.put, List.setIfInBounds_toArray, List.set_cons_zero, List.set_cons_succ]
    replace hr1 := hid hr1
    replace hr2 := hid hr2
    replace hr3 := hid hr3
    refine fair_nil ?_
    intro w' hw'
    obtain ⟨z0, z1, z2, f0, f1, f2⟩ := (rr.below hw' rr.lt).cells3
    clear celd0 celd1 celd2 celn0 celn1 celn2
    go_wp2_with fail
    refine bodyPost_ret (v := .tuple #[.agg #[.float .f64 r1, .float .f64 r2, .float .f64 r3], .bool true]) (by simp [results, Try.results17, go_sem, *]) rfl ⟨⟨r1, r2, r3, by rw [hyes.out], ?_, ?_, ?_⟩, ?_⟩
    · unfold bendR; rw [hyes.out, hr1.out, hs1.out, ht1.out, e3.out, hx4.out, hq.out, hk.out, hc.out]; rfl
    · unfold bendR; rw [hyes.out, hr2.out, hs2.out, ht2.out, e3.out, hx4.out, hq.out, hk.out, hc.out]; rfl
    · unfold bendR; rw [hyes.out, hr3.out, hs3.out, ht3.out, e3.out, hx4.out, hq.out, hk.out, hc.out]; rfl
    · repeat (refine Below.setCell ?_ (by simp <;> omega) _)
      exact hbW.trans (hw'.mono hbW.size)
  · rename_i v1 m1 e1 v2 m2 e2 ht
    have hk : cn v2 = bendK (bendC (cn d1) (cn d2) (cn d3) (cn n1) (cn n2) (cn n3)) (cn eta) := by rw [e2.out, hx3.out, e1.out, hx2.out, hx1.out, hc.out]; rfl
    have hno : bendOk (cn d1) (cn d2) (cn d3) (cn n1) (cn n2) (cn n3) (cn eta) = false := by unfold bendOk; rw [← hk, ge0_cn]; unfold ge0; simpa using ht
    refine bodyPost_ret (v := .tuple #[.agg #[.float .f64 0, .float .f64 0, .float .f64 0], .bool false]) (by simp [results, Try.results17, go_sem, *]) rfl ⟨⟨0, 0, 0, by rw [hno], ?_, ?_, ?_⟩, ?_⟩
    · unfold bendR; rw [hno]; exact cn_zero
    · unfold bendR; rw [hno]; exact cn_zero
    · unfold bendR; rw [hno]; exact cn_zero
    · repeat (refine Below.setCell ?_ (by simp <;> omega) _)
      repeat (first | exact hbW | refine below_drewN ?_ _)
end Go.Proofs.Ytkfmpdoendggjaa
