/- The walk of the law VecLaws. -/
import Derived.Test.YtkfmpdoendggjaaVecSays
import Derived.Test.YtkfmpdoendggjaaVecPlain
import Derived.Laws.StructEq
namespace Go.Proofs.Ytkfmpdoendggjaa
open Go.RowKit
set_option linter.unusedVariables false
set_option linter.unusedSimpArgs false
attribute [local go_sem] run_stf unary_fneg

theorem run_equalIn_float {P : Program} (w : World) (d : Nat) (t : TypeId) (k k' : FloatKind) (a b : Nat) (h : P.underlying t = some (.float k')) : (Op.equalIn (d + 1) t (.float k a) (.float k b)).run P w = .ok (k.format.order a b == some .eq) w := by
  simp [Op.equalIn, run_underlying h, Op.floatEq]
attribute [local go_sem] run_equalIn_float
theorem cn_const {x c : Nat} (h : cn x = c) (hc : isN c = false) : x = c := by
  have hx : isN x = false := by rw [← isN_cn, h]; exact hc
  rwa [cn_notN hx] at h
theorem order_of_cn {x y : Nat} (h : Ieee.double.order (cn x) (cn y) = some .eq) : FloatKind.f64.format.order x y = some .eq := by
  rw [ord_cn] at h; exact h
theorem cross_order {x y p1 p2 q1 q2 : Nat} (hx : cn x = F .sub (F .mul (cn p1) (cn p2)) (F .mul (cn q1) (cn q2))) (hy : cn y = F .sub (F .mul (cn q2) (cn q1)) (F .mul (cn p2) (cn p1))) (h1 : Small p1) (h2 : Small p2) (h3 : Small q1) (h4 : Small q2) :
    FloatKind.f64.format.order x (fneg y) = some .eq := by
  refine order_of_cn ?_
  rw [cn_fneg, hx, hy, F_mul_comm (cn q2), F_mul_comm (cn p2), h1.cn, h2.cn, h3.cn, h4.cn]
  obtain ⟨p, s, m, i, _, e, hp⟩ := prod_number h1 h2
  obtain ⟨q, t, n, j, _, e', hq⟩ := prod_number h3 h4
  rw [e, e']
  exact (sub_anti hp hq).1
theorem clean_order {x : Nat} (h : Small x) : FloatKind.f64.format.order (cleanV (cleanV x)) (cleanV x) = some .eq := by
  rw [cleanV_twice]
  refine ord_self ?_
  unfold cleanV
  split
  · decide +kernel
  · exact h.notN
def halfTwo (up : Bool) : Nat := if up then 4611686018427387904 else 4602678819172646912
theorem halfTwo_is (up : Bool) : halfTwo up = 4611686018427387904 ∨ halfTwo up = 4602678819172646912 := by cases up <;> simp [halfTwo]


set_option maxHeartbeats 4000000 in
theorem vecLaws_walk (a1 a2 a3 b1 b2 b3 : Nat) (up : Bool) (w : World) :
    Calls Try.prog 4 #[.agg #[.float .f64 a1, .float .f64 a2, .float .f64 a3], .agg #[.float .f64 b1, .float .f64 b2, .float .f64 b3], .bool up] w fun e w' => e = .returned (.bool true) ∧ Below w.heap.size w w' := by
  go_enter Try.func4, Try.ntmps4
  go_wp2_with fail
  obtain ⟨W, hWW⟩ : ∃ W, W = ((w.alloc (.cells #[.float .f64 a1, .float .f64 a2, .float .f64 a3] 25)).alloc (.cells #[.float .f64 b1, .float .f64 b2, .float .f64 b3] 25)) := ⟨_, rfl⟩
  have ra : Row W (w.heap.size) 25 #[.float .f64 a1, .float .f64 a2, .float .f64 a3] := by rw [hWW]; have := ((Row.new w 25 #[.float .f64 a1, .float .f64 a2, .float .f64 a3]).alloc (.cells #[.float .f64 b1, .float .f64 b2, .float .f64 b3] 25)); simpa using this
  have rb : Row W (w.heap.size + 1) 25 #[.float .f64 b1, .float .f64 b2, .float .f64 b3] := by rw [hWW]; have := (Row.new (w.alloc (.cells #[.float .f64 a1, .float .f64 a2, .float .f64 a3] 25)) 25 #[.float .f64 b1, .float .f64 b2, .float .f64 b3]); simpa using this
  have hbW : Below w.heap.size w W := by rw [hWW]; exact bel_alloc (bel_alloc (Below.refl _ _) _) _
  rw [← hWW]
  clear hWW
  refine (dot_any _ _ _ _ _ _ _).mono ?_
  rintro e w1 ⟨x, rfl, hx, hb⟩
  have hx' : x = 4629700416936869888 := cn_const (hx.trans (by decide +kernel)) (by decide +kernel)
  have o1 : FloatKind.f64.format.order x 4629700416936869888 = some .eq := by rw [hx']; decide +kernel
  clear hx hx'
  replace ra := ra.below hb ra.lt
  replace rb := rb.below hb rb.lt
  replace hbW := hbW.trans (hb.mono hbW.size)
  clear hb
  go_wp2_with fail
  clear o1
  refine (fine_any _ _ _ _).mono ?_
  rintro e w2 ⟨rfl, hb⟩
  have hf1 : fineB 4607182418800017408 0 0 = true := by decide +kernel
  replace ra := ra.below hb ra.lt
  replace rb := rb.below hb rb.lt
  replace hbW := hbW.trans (hb.mono hbW.size)
  clear hb
  obtain ⟨xa0, xa1, xa2, _, _, _⟩ := ra.cells3
  obtain ⟨xb0, xb1, xb2, _, _, _⟩ := rb.cells3
  go_wp2_with fail
  clear hf1
  refine (fine_any _ _ _ _).mono ?_
  rintro e w3 ⟨rfl, hb⟩
  clear xa0 xa1 xa2 xb0 xb1 xb2
  replace ra := ra.below hb ra.lt
  replace rb := rb.below hb rb.lt
  replace hbW := hbW.trans (hb.mono hbW.size)
  clear hb
  obtain ⟨xa0, xa1, xa2, _, _, _⟩ := ra.cells3
  obtain ⟨xb0, xb1, xb2, _, _, _⟩ := rb.cells3
  by_cases hfa : fineB a1 a2 a3 = true
  case neg =>
    have hfa' : fineB a1 a2 a3 = false := by simpa using hfa
    clear hfa
    go_wp2_with fail
    go_ret
    exact ⟨rfl, hbW⟩
  case pos =>
  go_wp2_with fail
  refine (fine_any _ _ _ _).mono ?_
  rintro e w4 ⟨rfl, hb⟩
  clear xa0 xa1 xa2 xb0 xb1 xb2
  replace ra := ra.below hb ra.lt
  replace rb := rb.below hb rb.lt
  replace hbW := hbW.trans (hb.mono hbW.size)
  clear hb
  by_cases hfb : fineB b1 b2 b3 = true
  case neg =>
    have hfb' : fineB b1 b2 b3 = false := by simpa using hfb
    clear hfb
    go_wp2_with fail
    go_ret
    exact ⟨rfl, hbW⟩
  case pos =>
  obtain ⟨A1, A2, A3⟩ := fine_small hfa
  obtain ⟨B1, B2, B3⟩ := fine_small hfb
  cases up
  · go_wp2_with fail
    have cela0 := fun w' (h : Below w4.heap.size w4 w') => (ra.below h ra.lt).cell 0
    simp only [List.size_toArray, List.length_cons, List.getElem?_toArray, List.getElem?_cons_zero, List.getElem?_cons_succ] at cela0
    have cela1 := fun w' (h : Below w4.heap.size w4 w') => (ra.below h ra.lt).cell 1
    simp only [List.size_toArray, List.length_cons, List.getElem?_toArray, List.getElem?_cons_zero, List.getElem?_cons_succ] at cela1
    have cela2 := fun w' (h : Below w4.heap.size w4 w') => (ra.below h ra.lt).cell 2
    simp only [List.size_toArray, List.length_cons, List.getElem?_toArray, List.getElem?_cons_zero, List.getElem?_cons_succ] at cela2
    have celb0 := fun w' (h : Below w4.heap.size w4 w') => (rb.below h rb.lt).cell 0
    simp only [List.size_toArray, List.length_cons, List.getElem?_toArray, List.getElem?_cons_zero, List.getElem?_cons_succ] at celb0
    have celb1 := fun w' (h : Below w4.heap.size w4 w') => (rb.below h rb.lt).cell 1
    simp only [List.size_toArray, List.length_cons, List.getElem?_toArray, List.getElem?_cons_zero, List.getElem?_cons_succ] at celb1
    have celb2 := fun w' (h : Below w4.heap.size w4 w') => (rb.below h rb.lt).cell 2
    simp only [List.size_toArray, List.length_cons, List.getElem?_toArray, List.getElem?_cons_zero, List.getElem?_cons_succ] at celb2
    refine wp_region_fair (n := 18) (C := fun w' => Below w4.heap.size w4 w') (G := fun f args v => (f = 10 → SBin .add args v) ∧ (f = 9 → SSame args v) ∧ (f = 7 → SDot args v) ∧ (f = 11 → SSame1 args v)) (by kernel_rfl) (by kernel_rfl) (below_drewN (Below.refl _ _) 1) ?_
    simp only [List.take_succ_cons, List.take_zero, List.drop_succ_cons, List.drop_zero]
    repeat (refine fair_val rfl (fun w' hw' => by go_simp; with_reducible rfl) ?_; simp only [Act.put, List.setIfInBounds_toArray, List.set_cons_zero, List.set_cons_succ])
    apply fair_call rfl
    · intro w' hw'
      go_simp
      exact ⟨rfl, rfl⟩
    · intro w' hw'
      refine (S_add_any _ _ _ _ _ _ w').mono ?_
      rintro e w'' ⟨v, hs, he, hb⟩
      exact ⟨v, by refine ⟨?_, ?_, ?_, ?_⟩ <;> intro h <;> first | exact hs | exact absurd h (by decide), he, hw'.trans (hb.mono hw'.size)⟩
    intro v hv
    obtain ⟨p1, p2, p3, rfl, hp1, hp2, hp3⟩ := hv.1 rfl _ _ _ _ _ _ rfl
    clear hv
    simp only [Act.put, List.setIfInBounds_toArray, List.set_cons_zero, List.set_cons_succ]
    repeat (refine fair_val rfl (fun w' hw' => by go_simp; with_reducible rfl) ?_; simp only [Act.put, List.setIfInBounds_toArray, List.set_cons_zero, List.set_cons_succ])
    apply fair_call rfl
    · intro w' hw'
      go_simp
      exact ⟨rfl, rfl⟩
    · intro w' hw'
      refine (S_add_any _ _ _ _ _ _ w').mono ?_
      rintro e w'' ⟨v, hs, he, hb⟩
      exact ⟨v, by refine ⟨?_, ?_, ?_, ?_⟩ <;> intro h <;> first | exact hs | exact absurd h (by decide), he, hw'.trans (hb.mono hw'.size)⟩
    intro v hv
    obtain ⟨q1, q2, q3, rfl, hq1, hq2, hq3⟩ := hv.1 rfl _ _ _ _ _ _ rfl
    clear hv
    simp only [Act.put, List.setIfInBounds_toArray, List.set_cons_zero, List.set_cons_succ]
    have u1 : Hid (cn p1 = cn q1) := hid (by rw [hp1, hq1, F_add_comm])
    have u2 : Hid (cn p2 = cn q2) := hid (by rw [hp2, hq2, F_add_comm])
    have u3 : Hid (cn p3 = cn q3) := hid (by rw [hp3, hq3, F_add_comm])
    clear hp1 hp2 hp3 hq1 hq2 hq3
    repeat (refine fair_val rfl (fun w' hw' => by go_simp; with_reducible rfl) ?_; simp only [Act.put, List.setIfInBounds_toArray, List.set_cons_zero, List.set_cons_succ])
    apply fair_call rfl
    · intro w' hw'
      go_simp
      exact ⟨rfl, rfl⟩
    · intro w' hw'
      refine (S_same _ _ _ _ _ _ w' u1 u2 u3).mono ?_
      rintro e w'' ⟨v, hs, he, hb⟩
      exact ⟨v, by refine ⟨?_, ?_, ?_, ?_⟩ <;> intro h <;> first | exact hs | exact absurd h (by decide), he, hw'.trans (hb.mono hw'.size)⟩
    intro v hv
    obtain rfl := hv.2.1 rfl _ _ _ _ _ _ rfl u1 u2 u3
    clear hv
    simp only [Act.put, List.setIfInBounds_toArray, List.set_cons_zero, List.set_cons_succ]
    repeat (refine fair_val rfl (fun w' hw' => by go_simp; with_reducible rfl) ?_; simp only [Act.put, List.setIfInBounds_toArray, List.set_cons_zero, List.set_cons_succ])
    clear u1 u2 u3
    apply fair_call rfl
    · intro w' hw'
      go_simp
      exact ⟨rfl, rfl⟩
    · intro w' hw'
      refine (S_dot_any _ _ _ _ _ _ w').mono ?_
      rintro e w'' ⟨v, hs, he, hb⟩
      exact ⟨v, by refine ⟨?_, ?_, ?_, ?_⟩ <;> intro h <;> first | exact hs | exact absurd h (by decide), he, hw'.trans (hb.mono hw'.size)⟩
    intro v hv
    obtain ⟨x1, rfl, hx1⟩ := hv.2.2.1 rfl _ _ _ _ _ _ rfl
    clear hv
    simp only [Act.put, List.setIfInBounds_toArray, List.set_cons_zero, List.set_cons_succ]
    repeat (refine fair_val rfl (fun w' hw' => by go_simp; with_reducible rfl) ?_; simp only [Act.put, List.setIfInBounds_toArray, List.set_cons_zero, List.set_cons_succ])
    apply fair_call rfl
    · intro w' hw'
      go_simp
      exact ⟨rfl, rfl⟩
    · intro w' hw'
      refine (S_dot_any _ _ _ _ _ _ w').mono ?_
      rintro e w'' ⟨v, hs, he, hb⟩
      exact ⟨v, by refine ⟨?_, ?_, ?_, ?_⟩ <;> intro h <;> first | exact hs | exact absurd h (by decide), he, hw'.trans (hb.mono hw'.size)⟩
    intro v hv
    obtain ⟨x2, rfl, hx2⟩ := hv.2.2.1 rfl _ _ _ _ _ _ rfl
    clear hv
    simp only [Act.put, List.setIfInBounds_toArray, List.set_cons_zero, List.set_cons_succ]
    have u1 : Hid (cn x1 = cn x2) := hid (by rw [hx1, hx2, dotF_comm])
    clear hx1 hx2
    repeat (refine fair_val rfl (fun w' hw' => by go_simp; with_reducible rfl) ?_; simp only [Act.put, List.setIfInBounds_toArray, List.set_cons_zero, List.set_cons_succ])
    apply fair_call rfl
    · intro w' hw'
      go_simp
      exact ⟨rfl, rfl⟩
    · intro w' hw'
      refine (S_same1 _ _ w' u1).mono ?_
      rintro e w'' ⟨v, hs, he, hb⟩
      exact ⟨v, by refine ⟨?_, ?_, ?_, ?_⟩ <;> intro h <;> first | exact hs | exact absurd h (by decide), he, hw'.trans (hb.mono hw'.size)⟩
    intro v hv
    obtain rfl := hv.2.2.2 rfl _ _ rfl u1
    clear hv
    simp only [Act.put, List.setIfInBounds_toArray, List.set_cons_zero, List.set_cons_succ]
    repeat (refine fair_val rfl (fun w' hw' => by go_simp; with_reducible rfl) ?_; simp only [Act.put, List.setIfInBounds_toArray, List.set_cons_zero, List.set_cons_succ])
    clear u1
    refine fair_nil ?_
    intro w5 hb
    clear cela0 cela1 cela2 celb0 celb1 celb2
    replace ra := ra.below hb ra.lt
    replace rb := rb.below hb rb.lt
    replace hbW := hbW.trans (hb.mono hbW.size)
    clear hb
    obtain ⟨xa0, xa1, xa2, _, _, _⟩ := ra.cells3
    obtain ⟨xb0, xb1, xb2, _, _, _⟩ := rb.cells3
    go_wp2_with fail
    refine (cross_any _ _ _ _ _ _ _).mono ?_
    rintro e w6 ⟨c1, c2, c3, rfl, hc1, hc2, hc3, hb⟩
    replace hc1 := hid hc1
    replace hc2 := hid hc2
    replace hc3 := hid hc3
    clear xa0 xa1 xa2 xb0 xb1 xb2
    replace ra := ra.below hb ra.lt
    replace rb := rb.below hb rb.lt
    replace hbW := hbW.trans (hb.mono hbW.size)
    clear hb
    obtain ⟨xa0, xa1, xa2, _, _, _⟩ := ra.cells3
    obtain ⟨xb0, xb1, xb2, _, _, _⟩ := rb.cells3
    have l1 := ra.lt
    have l2 := rb.lt
    go_wp2_with fail
    have rc : Row (w6.alloc (.cells #[.float .f64 c1, .float .f64 c2, .float .f64 c3] 25)) w6.heap.size 25 #[.float .f64 c1, .float .f64 c2, .float .f64 c3] := Row.new _ _ _
    replace ra := ra.alloc (.cells #[.float .f64 c1, .float .f64 c2, .float .f64 c3] 25)
    replace rb := rb.alloc (.cells #[.float .f64 c1, .float .f64 c2, .float .f64 c3] 25)
    replace hbW := bel_alloc hbW (.cells #[.float .f64 c1, .float .f64 c2, .float .f64 c3] 25)
    clear xa0 xa1 xa2 xb0 xb1 xb2 l1 l2
    refine (cross_any _ _ _ _ _ _ _).mono ?_
    rintro e w7 ⟨d1, d2, d3, rfl, hd1, hd2, hd3, hb⟩
    have o1 := cross_order hc1.out hd1 A2 B3 A3 B2
    have o2 := cross_order hc2.out hd2 A3 B1 A1 B3
    have o3 := cross_order hc3.out hd3 A1 B2 A2 B1
    clear hc1 hc2 hc3 hd1 hd2 hd3
    replace rc := rc.below hb rc.lt
    replace ra := ra.below hb ra.lt
    replace rb := rb.below hb rb.lt
    replace hbW := hbW.trans (hb.mono hbW.size)
    clear hb
    have rd : Row (w7.alloc (.cells #[.float .f64 d1, .float .f64 d2, .float .f64 d3] 25)) w7.heap.size 25 #[.float .f64 d1, .float .f64 d2, .float .f64 d3] := Row.new _ _ _
    obtain ⟨xc0, xc1, xc2, _, _, _⟩ := rc.cells3
    have l3 := rc.lt
    obtain ⟨xa0, xa1, xa2, _, _, _⟩ := ra.cells3
    have l1 := ra.lt
    have l2 := rb.lt
    go_wp2_with fail
    clear o1 o2 o3 xc0 xc1 xc2 l3 xa0 xa1 xa2 rd
    replace ra := ra.alloc (.cells #[.float .f64 d1, .float .f64 d2, .float .f64 d3] 25)
    replace rb := rb.alloc (.cells #[.float .f64 d1, .float .f64 d2, .float .f64 d3] 25)
    replace hbW := bel_alloc hbW (.cells #[.float .f64 d1, .float .f64 d2, .float .f64 d3] 25)
    generalize w7.alloc (.cells #[.float .f64 d1, .float .f64 d2, .float .f64 d3] 25) = W7 at *
    refine (scale_any _ _ _ _ _).mono ?_
    rintro e w8 ⟨e1, e2, e3, rfl, he1, he2, he3, hb⟩
    replace he1 := hid he1
    replace he2 := hid he2
    replace he3 := hid he3
    replace ra := ra.below hb ra.lt
    replace rb := rb.below hb rb.lt
    replace hbW := hbW.trans (hb.mono hbW.size)
    clear hb
    go_wp2_with fail
    refine (scale_any _ _ _ _ _).mono ?_
    rintro e w9 ⟨x1, x2, x3, rfl, hx1, hx2, hx3, hb⟩
    replace hx1 := hid hx1
    replace hx2 := hid hx2
    replace hx3 := hid hx3
    replace ra := ra.below hb ra.lt
    replace rb := rb.below hb rb.lt
    replace hbW := hbW.trans (hb.mono hbW.size)
    clear hb
    go_wp2_with fail
    have rx : Row (w9.alloc (.cells #[.float .f64 x1, .float .f64 x2, .float .f64 x3] 25)) w9.heap.size 25 #[.float .f64 x1, .float .f64 x2, .float .f64 x3] := Row.new _ _ _
    replace ra := ra.alloc (.cells #[.float .f64 x1, .float .f64 x2, .float .f64 x3] 25)
    replace rb := rb.alloc (.cells #[.float .f64 x1, .float .f64 x2, .float .f64 x3] 25)
    replace hbW := bel_alloc hbW (.cells #[.float .f64 x1, .float .f64 x2, .float .f64 x3] 25)
    generalize w9.alloc (.cells #[.float .f64 x1, .float .f64 x2, .float .f64 x3] 25) = W9 at *
    have hk : 4602678819172646912 = 4611686018427387904 ∨ 4602678819172646912 = 4602678819172646912 := by simp
    have cK : cn 4602678819172646912 = 4602678819172646912 := by decide +kernel
    have cF : cn 4616189618054758400 = 4616189618054758400 := by decide +kernel
    have cO : cn 4607182418800017408 = 4607182418800017408 := by decide +kernel
    have s1 := scale_four A1 hk
    have s2 := scale_four A2 hk
    have s3 := scale_four A3 hk
    have v1 := over_scale A1 hk
    have v2 := over_scale A2 hk
    have v3 := over_scale A3 hk
    have y1 := clean_order A1
    have y2 := clean_order A2
    have y3 := clean_order A3
    replace s1 := hid s1
    replace s2 := hid s2
    replace s3 := hid s3
    replace v1 := hid v1
    replace v2 := hid v2
    replace v3 := hid v3
    replace cK := hid cK
    replace cF := hid cF
    replace cO := hid cO
    clear hk
    have cela0 := fun w' (h : Below W9.heap.size W9 w') => (ra.below h ra.lt).cell 0
    simp only [List.size_toArray, List.length_cons, List.getElem?_toArray, List.getElem?_cons_zero, List.getElem?_cons_succ] at cela0
    have cela1 := fun w' (h : Below W9.heap.size W9 w') => (ra.below h ra.lt).cell 1
    simp only [List.size_toArray, List.length_cons, List.getElem?_toArray, List.getElem?_cons_zero, List.getElem?_cons_succ] at cela1
    have cela2 := fun w' (h : Below W9.heap.size W9 w') => (ra.below h ra.lt).cell 2
    simp only [List.size_toArray, List.length_cons, List.getElem?_toArray, List.getElem?_cons_zero, List.getElem?_cons_succ] at cela2
    have celx0 := fun w' (h : Below W9.heap.size W9 w') => (rx.below h rx.lt).cell 0
    simp only [List.size_toArray, List.length_cons, List.getElem?_toArray, List.getElem?_cons_zero, List.getElem?_cons_succ] at celx0
    have celx1 := fun w' (h : Below W9.heap.size W9 w') => (rx.below h rx.lt).cell 1
    simp only [List.size_toArray, List.length_cons, List.getElem?_toArray, List.getElem?_cons_zero, List.getElem?_cons_succ] at celx1
    have celx2 := fun w' (h : Below W9.heap.size W9 w') => (rx.below h rx.lt).cell 2
    simp only [List.size_toArray, List.length_cons, List.getElem?_toArray, List.getElem?_cons_zero, List.getElem?_cons_succ] at celx2
    refine wp_region_fair (n := 24) (C := fun w' => Below W9.heap.size W9 w') (G := fun f args v => (f = 13 → SKin .mul args v) ∧ (f = 9 → SSame args v) ∧ (f = 14 → SKin .quo args v) ∧ (f = 15 → SCln args v)) (by kernel_rfl) (by kernel_rfl) (below_drewN (Below.refl _ _) 1) ?_
    simp only [List.take_succ_cons, List.take_zero, List.drop_succ_cons, List.drop_zero]
    repeat (refine fair_val rfl (fun w' hw' => by go_simp; with_reducible rfl) ?_; simp only [Act.put, List.setIfInBounds_toArray, List.set_cons_zero, List.set_cons_succ])
    refine fair_flt .mul _ _ _ _ _ _ rfl rfl (by simp) rfl rfl (fun w n h => below_drewN h n) ?_
    intro m hm
    simp only [Act.put, List.setIfInBounds_toArray, List.set_cons_zero, List.set_cons_succ]
    repeat (refine fair_val rfl (fun w' hw' => by go_simp; with_reducible rfl) ?_; simp only [Act.put, List.setIfInBounds_toArray, List.set_cons_zero, List.set_cons_succ])
    apply fair_call rfl
    · intro w' hw'
      go_simp
      exact ⟨rfl, rfl⟩
    · intro w' hw'
      refine (S_scale_any _ _ _ _ w').mono ?_
      rintro e w'' ⟨v, hs, he, hb⟩
      exact ⟨v, by refine ⟨?_, ?_, ?_, ?_⟩ <;> intro h <;> first | exact hs | exact absurd h (by decide), he, hw'.trans (hb.mono hw'.size)⟩
    intro v hv
    obtain ⟨q1, q2, q3, rfl, hq1, hq2, hq3⟩ := hv.1 rfl _ _ _ _ rfl
    clear hv
    simp only [Act.put, List.setIfInBounds_toArray, List.set_cons_zero, List.set_cons_succ]
    have u1 : Hid (cn x1 = cn q1) := hid (by rw [hx1.out, he1.out, hq1, A1.cn, hm, cF.out, cK.out, s1.out])
    have u2 : Hid (cn x2 = cn q2) := hid (by rw [hx2.out, he2.out, hq2, A2.cn, hm, cF.out, cK.out, s2.out])
    have u3 : Hid (cn x3 = cn q3) := hid (by rw [hx3.out, he3.out, hq3, A3.cn, hm, cF.out, cK.out, s3.out])
    clear hq1 hq2 hq3
    repeat (refine fair_val rfl (fun w' hw' => by go_simp; with_reducible rfl) ?_; simp only [Act.put, List.setIfInBounds_toArray, List.set_cons_zero, List.set_cons_succ])
    apply fair_call rfl
    · intro w' hw'
      go_simp
      exact ⟨rfl, rfl⟩
    · intro w' hw'
      refine (S_same _ _ _ _ _ _ w' u1 u2 u3).mono ?_
      rintro e w'' ⟨v, hs, he, hb⟩
      exact ⟨v, by refine ⟨?_, ?_, ?_, ?_⟩ <;> intro h <;> first | exact hs | exact absurd h (by decide), he, hw'.trans (hb.mono hw'.size)⟩
    intro v hv
    obtain rfl := hv.2.1 rfl _ _ _ _ _ _ rfl u1 u2 u3
    clear hv
    simp only [Act.put, List.setIfInBounds_toArray, List.set_cons_zero, List.set_cons_succ]
    repeat (refine fair_val rfl (fun w' hw' => by go_simp; with_reducible rfl) ?_; simp only [Act.put, List.setIfInBounds_toArray, List.set_cons_zero, List.set_cons_succ])
    clear u1 u2 u3
    apply fair_call rfl
    · intro w' hw'
      go_simp
      exact ⟨rfl, rfl⟩
    · intro w' hw'
      refine (S_over_any _ _ _ _ w').mono ?_
      rintro e w'' ⟨v, hs, he, hb⟩
      exact ⟨v, by refine ⟨?_, ?_, ?_, ?_⟩ <;> intro h <;> first | exact hs | exact absurd h (by decide), he, hw'.trans (hb.mono hw'.size)⟩
    intro v hv
    obtain ⟨p1, p2, p3, rfl, hp1, hp2, hp3⟩ := hv.2.2.1 rfl _ _ _ _ rfl
    clear hv
    simp only [Act.put, List.setIfInBounds_toArray, List.set_cons_zero, List.set_cons_succ]
    repeat (refine fair_val rfl (fun w' hw' => by go_simp; with_reducible rfl) ?_; simp only [Act.put, List.setIfInBounds_toArray, List.set_cons_zero, List.set_cons_succ])
    refine fair_flt .quo _ _ _ _ _ _ rfl rfl (by simp) rfl rfl (fun w n h => below_drewN h n) ?_
    intro n hn
    simp only [Act.put, List.setIfInBounds_toArray, List.set_cons_zero, List.set_cons_succ]
    repeat (refine fair_val rfl (fun w' hw' => by go_simp; with_reducible rfl) ?_; simp only [Act.put, List.setIfInBounds_toArray, List.set_cons_zero, List.set_cons_succ])
    apply fair_call rfl
    · intro w' hw'
      go_simp
      exact ⟨rfl, rfl⟩
    · intro w' hw'
      refine (S_scale_any _ _ _ _ w').mono ?_
      rintro e w'' ⟨v, hs, he, hb⟩
      exact ⟨v, by refine ⟨?_, ?_, ?_, ?_⟩ <;> intro h <;> first | exact hs | exact absurd h (by decide), he, hw'.trans (hb.mono hw'.size)⟩
    intro v hv
    obtain ⟨q1, q2, q3, rfl, hq1, hq2, hq3⟩ := hv.1 rfl _ _ _ _ rfl
    clear hv
    simp only [Act.put, List.setIfInBounds_toArray, List.set_cons_zero, List.set_cons_succ]
    have u1 : Hid (cn p1 = cn q1) := hid (by rw [hp1, hq1, A1.cn, hn, cO.out, cK.out, v1.out])
    have u2 : Hid (cn p2 = cn q2) := hid (by rw [hp2, hq2, A2.cn, hn, cO.out, cK.out, v2.out])
    have u3 : Hid (cn p3 = cn q3) := hid (by rw [hp3, hq3, A3.cn, hn, cO.out, cK.out, v3.out])
    clear hp1 hp2 hp3 hq1 hq2 hq3
    repeat (refine fair_val rfl (fun w' hw' => by go_simp; with_reducible rfl) ?_; simp only [Act.put, List.setIfInBounds_toArray, List.set_cons_zero, List.set_cons_succ])
    apply fair_call rfl
    · intro w' hw'
      go_simp
      exact ⟨rfl, rfl⟩
    · intro w' hw'
      refine (S_same _ _ _ _ _ _ w' u1 u2 u3).mono ?_
      rintro e w'' ⟨v, hs, he, hb⟩
      exact ⟨v, by refine ⟨?_, ?_, ?_, ?_⟩ <;> intro h <;> first | exact hs | exact absurd h (by decide), he, hw'.trans (hb.mono hw'.size)⟩
    intro v hv
    obtain rfl := hv.2.1 rfl _ _ _ _ _ _ rfl u1 u2 u3
    clear hv
    simp only [Act.put, List.setIfInBounds_toArray, List.set_cons_zero, List.set_cons_succ]
    repeat (refine fair_val rfl (fun w' hw' => by go_simp; with_reducible rfl) ?_; simp only [Act.put, List.setIfInBounds_toArray, List.set_cons_zero, List.set_cons_succ])
    clear u1 u2 u3
    apply fair_call rfl
    · intro w' hw'
      go_simp
      exact ⟨rfl, rfl⟩
    · intro w' hw'
      refine (S_cln_any _ _ _ w').mono ?_
      rintro e w'' ⟨v, hs, he, hb⟩
      exact ⟨v, by refine ⟨?_, ?_, ?_, ?_⟩ <;> intro h <;> first | exact hs | exact absurd h (by decide), he, hw'.trans (hb.mono hw'.size)⟩
    intro v hv
    obtain rfl := hv.2.2.2 rfl _ _ _ rfl
    clear hv
    simp only [Act.put, List.setIfInBounds_toArray, List.set_cons_zero, List.set_cons_succ]
    repeat (refine fair_val rfl (fun w' hw' => by go_simp; with_reducible rfl) ?_; simp only [Act.put, List.setIfInBounds_toArray, List.set_cons_zero, List.set_cons_succ])
    apply fair_call rfl
    · intro w' hw'
      go_simp
      exact ⟨rfl, rfl⟩
    · intro w' hw'
      refine (S_cln_any _ _ _ w').mono ?_
      rintro e w'' ⟨v, hs, he, hb⟩
      exact ⟨v, by refine ⟨?_, ?_, ?_, ?_⟩ <;> intro h <;> first | exact hs | exact absurd h (by decide), he, hw'.trans (hb.mono hw'.size)⟩
    intro v hv
    obtain rfl := hv.2.2.2 rfl _ _ _ rfl
    clear hv
    simp only [Act.put, List.setIfInBounds_toArray, List.set_cons_zero, List.set_cons_succ]
    repeat (refine fair_val rfl (fun w' hw' => by go_simp; with_reducible rfl) ?_; simp only [Act.put, List.setIfInBounds_toArray, List.set_cons_zero, List.set_cons_succ])
    apply fair_call rfl
    · intro w' hw'
      go_simp
      exact ⟨rfl, rfl⟩
    · intro w' hw'
      refine (S_cln_any _ _ _ w').mono ?_
      rintro e w'' ⟨v, hs, he, hb⟩
      exact ⟨v, by refine ⟨?_, ?_, ?_, ?_⟩ <;> intro h <;> first | exact hs | exact absurd h (by decide), he, hw'.trans (hb.mono hw'.size)⟩
    intro v hv
    obtain rfl := hv.2.2.2 rfl _ _ _ rfl
    clear hv
    simp only [Act.put, List.setIfInBounds_toArray, List.set_cons_zero, List.set_cons_succ]
    repeat (refine fair_val rfl (fun w' hw' => by go_simp; with_reducible rfl) ?_; simp only [Act.put, List.setIfInBounds_toArray, List.set_cons_zero, List.set_cons_succ])
    refine fair_nil ?_
    intro w' hw'
    go_wp2_with fail
    go_ret
    exact ⟨rfl, hbW.trans (hw'.mono hbW.size)⟩
  · go_wp2_with fail
    have cela0 := fun w' (h : Below w4.heap.size w4 w') => (ra.below h ra.lt).cell 0
    simp only [List.size_toArray, List.length_cons, List.getElem?_toArray, List.getElem?_cons_zero, List.getElem?_cons_succ] at cela0
    have cela1 := fun w' (h : Below w4.heap.size w4 w') => (ra.below h ra.lt).cell 1
    simp only [List.size_toArray, List.length_cons, List.getElem?_toArray, List.getElem?_cons_zero, List.getElem?_cons_succ] at cela1
    have cela2 := fun w' (h : Below w4.heap.size w4 w') => (ra.below h ra.lt).cell 2
    simp only [List.size_toArray, List.length_cons, List.getElem?_toArray, List.getElem?_cons_zero, List.getElem?_cons_succ] at cela2
    have celb0 := fun w' (h : Below w4.heap.size w4 w') => (rb.below h rb.lt).cell 0
    simp only [List.size_toArray, List.length_cons, List.getElem?_toArray, List.getElem?_cons_zero, List.getElem?_cons_succ] at celb0
    have celb1 := fun w' (h : Below w4.heap.size w4 w') => (rb.below h rb.lt).cell 1
    simp only [List.size_toArray, List.length_cons, List.getElem?_toArray, List.getElem?_cons_zero, List.getElem?_cons_succ] at celb1
    have celb2 := fun w' (h : Below w4.heap.size w4 w') => (rb.below h rb.lt).cell 2
    simp only [List.size_toArray, List.length_cons, List.getElem?_toArray, List.getElem?_cons_zero, List.getElem?_cons_succ] at celb2
    refine wp_region_fair (n := 18) (C := fun w' => Below w4.heap.size w4 w') (G := fun f args v => (f = 10 → SBin .add args v) ∧ (f = 9 → SSame args v) ∧ (f = 7 → SDot args v) ∧ (f = 11 → SSame1 args v)) (by kernel_rfl) (by kernel_rfl) (below_drewN (Below.refl _ _) 1) ?_
    simp only [List.take_succ_cons, List.take_zero, List.drop_succ_cons, List.drop_zero]
    repeat (refine fair_val rfl (fun w' hw' => by go_simp; with_reducible rfl) ?_; simp only [Act.put, List.setIfInBounds_toArray, List.set_cons_zero, List.set_cons_succ])
    apply fair_call rfl
    · intro w' hw'
      go_simp
      exact ⟨rfl, rfl⟩
    · intro w' hw'
      refine (S_add_any _ _ _ _ _ _ w').mono ?_
      rintro e w'' ⟨v, hs, he, hb⟩
      exact ⟨v, by refine ⟨?_, ?_, ?_, ?_⟩ <;> intro h <;> first | exact hs | exact absurd h (by decide), he, hw'.trans (hb.mono hw'.size)⟩
    intro v hv
    obtain ⟨p1, p2, p3, rfl, hp1, hp2, hp3⟩ := hv.1 rfl _ _ _ _ _ _ rfl
    clear hv
    simp only [Act.put, List.setIfInBounds_toArray, List.set_cons_zero, List.set_cons_succ]
    repeat (refine fair_val rfl (fun w' hw' => by go_simp; with_reducible rfl) ?_; simp only [Act.put, List.setIfInBounds_toArray, List.set_cons_zero, List.set_cons_succ])
    apply fair_call rfl
    · intro w' hw'
      go_simp
      exact ⟨rfl, rfl⟩
    · intro w' hw'
      refine (S_add_any _ _ _ _ _ _ w').mono ?_
      rintro e w'' ⟨v, hs, he, hb⟩
      exact ⟨v, by refine ⟨?_, ?_, ?_, ?_⟩ <;> intro h <;> first | exact hs | exact absurd h (by decide), he, hw'.trans (hb.mono hw'.size)⟩
    intro v hv
    obtain ⟨q1, q2, q3, rfl, hq1, hq2, hq3⟩ := hv.1 rfl _ _ _ _ _ _ rfl
    clear hv
    simp only [Act.put, List.setIfInBounds_toArray, List.set_cons_zero, List.set_cons_succ]
    have u1 : Hid (cn p1 = cn q1) := hid (by rw [hp1, hq1, F_add_comm])
    have u2 : Hid (cn p2 = cn q2) := hid (by rw [hp2, hq2, F_add_comm])
    have u3 : Hid (cn p3 = cn q3) := hid (by rw [hp3, hq3, F_add_comm])
    clear hp1 hp2 hp3 hq1 hq2 hq3
    repeat (refine fair_val rfl (fun w' hw' => by go_simp; with_reducible rfl) ?_; simp only [Act.put, List.setIfInBounds_toArray, List.set_cons_zero, List.set_cons_succ])
    apply fair_call rfl
    · intro w' hw'
      go_simp
      exact ⟨rfl, rfl⟩
    · intro w' hw'
      refine (S_same _ _ _ _ _ _ w' u1 u2 u3).mono ?_
      rintro e w'' ⟨v, hs, he, hb⟩
      exact ⟨v, by refine ⟨?_, ?_, ?_, ?_⟩ <;> intro h <;> first | exact hs | exact absurd h (by decide), he, hw'.trans (hb.mono hw'.size)⟩
    intro v hv
    obtain rfl := hv.2.1 rfl _ _ _ _ _ _ rfl u1 u2 u3
    clear hv
    simp only [Act.put, List.setIfInBounds_toArray, List.set_cons_zero, List.set_cons_succ]
    repeat (refine fair_val rfl (fun w' hw' => by go_simp; with_reducible rfl) ?_; simp only [Act.put, List.setIfInBounds_toArray, List.set_cons_zero, List.set_cons_succ])
    clear u1 u2 u3
    apply fair_call rfl
    · intro w' hw'
      go_simp
      exact ⟨rfl, rfl⟩
    · intro w' hw'
      refine (S_dot_any _ _ _ _ _ _ w').mono ?_
      rintro e w'' ⟨v, hs, he, hb⟩
      exact ⟨v, by refine ⟨?_, ?_, ?_, ?_⟩ <;> intro h <;> first | exact hs | exact absurd h (by decide), he, hw'.trans (hb.mono hw'.size)⟩
    intro v hv
    obtain ⟨x1, rfl, hx1⟩ := hv.2.2.1 rfl _ _ _ _ _ _ rfl
    clear hv
    simp only [Act.put, List.setIfInBounds_toArray, List.set_cons_zero, List.set_cons_succ]
    repeat (refine fair_val rfl (fun w' hw' => by go_simp; with_reducible rfl) ?_; simp only [Act.put, List.setIfInBounds_toArray, List.set_cons_zero, List.set_cons_succ])
    apply fair_call rfl
    · intro w' hw'
      go_simp
      exact ⟨rfl, rfl⟩
    · intro w' hw'
      refine (S_dot_any _ _ _ _ _ _ w').mono ?_
      rintro e w'' ⟨v, hs, he, hb⟩
      exact ⟨v, by refine ⟨?_, ?_, ?_, ?_⟩ <;> intro h <;> first | exact hs | exact absurd h (by decide), he, hw'.trans (hb.mono hw'.size)⟩
    intro v hv
    obtain ⟨x2, rfl, hx2⟩ := hv.2.2.1 rfl _ _ _ _ _ _ rfl
    clear hv
    simp only [Act.put, List.setIfInBounds_toArray, List.set_cons_zero, List.set_cons_succ]
    have u1 : Hid (cn x1 = cn x2) := hid (by rw [hx1, hx2, dotF_comm])
    clear hx1 hx2
    repeat (refine fair_val rfl (fun w' hw' => by go_simp; with_reducible rfl) ?_; simp only [Act.put, List.setIfInBounds_toArray, List.set_cons_zero, List.set_cons_succ])
    apply fair_call rfl
    · intro w' hw'
      go_simp
      exact ⟨rfl, rfl⟩
    · intro w' hw'
      refine (S_same1 _ _ w' u1).mono ?_
      rintro e w'' ⟨v, hs, he, hb⟩
      exact ⟨v, by refine ⟨?_, ?_, ?_, ?_⟩ <;> intro h <;> first | exact hs | exact absurd h (by decide), he, hw'.trans (hb.mono hw'.size)⟩
    intro v hv
    obtain rfl := hv.2.2.2 rfl _ _ rfl u1
    clear hv
    simp only [Act.put, List.setIfInBounds_toArray, List.set_cons_zero, List.set_cons_succ]
    repeat (refine fair_val rfl (fun w' hw' => by go_simp; with_reducible rfl) ?_; simp only [Act.put, List.setIfInBounds_toArray, List.set_cons_zero, List.set_cons_succ])
    clear u1
    refine fair_nil ?_
    intro w5 hb
    clear cela0 cela1 cela2 celb0 celb1 celb2
    replace ra := ra.below hb ra.lt
    replace rb := rb.below hb rb.lt
    replace hbW := hbW.trans (hb.mono hbW.size)
    clear hb
    obtain ⟨xa0, xa1, xa2, _, _, _⟩ := ra.cells3
    obtain ⟨xb0, xb1, xb2, _, _, _⟩ := rb.cells3
    go_wp2_with fail
    refine (cross_any _ _ _ _ _ _ _).mono ?_
    rintro e w6 ⟨c1, c2, c3, rfl, hc1, hc2, hc3, hb⟩
    replace hc1 := hid hc1
    replace hc2 := hid hc2
    replace hc3 := hid hc3
    clear xa0 xa1 xa2 xb0 xb1 xb2
    replace ra := ra.below hb ra.lt
    replace rb := rb.below hb rb.lt
    replace hbW := hbW.trans (hb.mono hbW.size)
    clear hb
    obtain ⟨xa0, xa1, xa2, _, _, _⟩ := ra.cells3
    obtain ⟨xb0, xb1, xb2, _, _, _⟩ := rb.cells3
    have l1 := ra.lt
    have l2 := rb.lt
    go_wp2_with fail
    have rc : Row (w6.alloc (.cells #[.float .f64 c1, .float .f64 c2, .float .f64 c3] 25)) w6.heap.size 25 #[.float .f64 c1, .float .f64 c2, .float .f64 c3] := Row.new _ _ _
    replace ra := ra.alloc (.cells #[.float .f64 c1, .float .f64 c2, .float .f64 c3] 25)
    replace rb := rb.alloc (.cells #[.float .f64 c1, .float .f64 c2, .float .f64 c3] 25)
    replace hbW := bel_alloc hbW (.cells #[.float .f64 c1, .float .f64 c2, .float .f64 c3] 25)
    clear xa0 xa1 xa2 xb0 xb1 xb2 l1 l2
    refine (cross_any _ _ _ _ _ _ _).mono ?_
    rintro e w7 ⟨d1, d2, d3, rfl, hd1, hd2, hd3, hb⟩
    have o1 := cross_order hc1.out hd1 A2 B3 A3 B2
    have o2 := cross_order hc2.out hd2 A3 B1 A1 B3
    have o3 := cross_order hc3.out hd3 A1 B2 A2 B1
    clear hc1 hc2 hc3 hd1 hd2 hd3
    replace rc := rc.below hb rc.lt
    replace ra := ra.below hb ra.lt
    replace rb := rb.below hb rb.lt
    replace hbW := hbW.trans (hb.mono hbW.size)
    clear hb
    have rd : Row (w7.alloc (.cells #[.float .f64 d1, .float .f64 d2, .float .f64 d3] 25)) w7.heap.size 25 #[.float .f64 d1, .float .f64 d2, .float .f64 d3] := Row.new _ _ _
    obtain ⟨xc0, xc1, xc2, _, _, _⟩ := rc.cells3
    have l3 := rc.lt
    obtain ⟨xa0, xa1, xa2, _, _, _⟩ := ra.cells3
    have l1 := ra.lt
    have l2 := rb.lt
    go_wp2_with fail
    clear o1 o2 o3 xc0 xc1 xc2 l3 xa0 xa1 xa2 rd
    replace ra := ra.alloc (.cells #[.float .f64 d1, .float .f64 d2, .float .f64 d3] 25)
    replace rb := rb.alloc (.cells #[.float .f64 d1, .float .f64 d2, .float .f64 d3] 25)
    replace hbW := bel_alloc hbW (.cells #[.float .f64 d1, .float .f64 d2, .float .f64 d3] 25)
    generalize w7.alloc (.cells #[.float .f64 d1, .float .f64 d2, .float .f64 d3] 25) = W7 at *
    refine (scale_any _ _ _ _ _).mono ?_
    rintro e w8 ⟨e1, e2, e3, rfl, he1, he2, he3, hb⟩
    replace he1 := hid he1
    replace he2 := hid he2
    replace he3 := hid he3
    replace ra := ra.below hb ra.lt
    replace rb := rb.below hb rb.lt
    replace hbW := hbW.trans (hb.mono hbW.size)
    clear hb
    go_wp2_with fail
    refine (scale_any _ _ _ _ _).mono ?_
    rintro e w9 ⟨x1, x2, x3, rfl, hx1, hx2, hx3, hb⟩
    replace hx1 := hid hx1
    replace hx2 := hid hx2
    replace hx3 := hid hx3
    replace ra := ra.below hb ra.lt
    replace rb := rb.below hb rb.lt
    replace hbW := hbW.trans (hb.mono hbW.size)
    clear hb
    go_wp2_with fail
    have rx : Row (w9.alloc (.cells #[.float .f64 x1, .float .f64 x2, .float .f64 x3] 25)) w9.heap.size 25 #[.float .f64 x1, .float .f64 x2, .float .f64 x3] := Row.new _ _ _
    replace ra := ra.alloc (.cells #[.float .f64 x1, .float .f64 x2, .float .f64 x3] 25)
    replace rb := rb.alloc (.cells #[.float .f64 x1, .float .f64 x2, .float .f64 x3] 25)
    replace hbW := bel_alloc hbW (.cells #[.float .f64 x1, .float .f64 x2, .float .f64 x3] 25)
    generalize w9.alloc (.cells #[.float .f64 x1, .float .f64 x2, .float .f64 x3] 25) = W9 at *
    have hk : 4611686018427387904 = 4611686018427387904 ∨ 4611686018427387904 = 4602678819172646912 := by simp
    have cK : cn 4611686018427387904 = 4611686018427387904 := by decide +kernel
    have cF : cn 4616189618054758400 = 4616189618054758400 := by decide +kernel
    have cO : cn 4607182418800017408 = 4607182418800017408 := by decide +kernel
    have s1 := scale_four A1 hk
    have s2 := scale_four A2 hk
    have s3 := scale_four A3 hk
    have v1 := over_scale A1 hk
    have v2 := over_scale A2 hk
    have v3 := over_scale A3 hk
    have y1 := clean_order A1
    have y2 := clean_order A2
    have y3 := clean_order A3
    replace s1 := hid s1
    replace s2 := hid s2
    replace s3 := hid s3
    replace v1 := hid v1
    replace v2 := hid v2
    replace v3 := hid v3
    replace cK := hid cK
    replace cF := hid cF
    replace cO := hid cO
    clear hk
    have cela0 := fun w' (h : Below W9.heap.size W9 w') => (ra.below h ra.lt).cell 0
    simp only [List.size_toArray, List.length_cons, List.getElem?_toArray, List.getElem?_cons_zero, List.getElem?_cons_succ] at cela0
    have cela1 := fun w' (h : Below W9.heap.size W9 w') => (ra.below h ra.lt).cell 1
    simp only [List.size_toArray, List.length_cons, List.getElem?_toArray, List.getElem?_cons_zero, List.getElem?_cons_succ] at cela1
    have cela2 := fun w' (h : Below W9.heap.size W9 w') => (ra.below h ra.lt).cell 2
    simp only [List.size_toArray, List.length_cons, List.getElem?_toArray, List.getElem?_cons_zero, List.getElem?_cons_succ] at cela2
    have celx0 := fun w' (h : Below W9.heap.size W9 w') => (rx.below h rx.lt).cell 0
    simp only [List.size_toArray, List.length_cons, List.getElem?_toArray, List.getElem?_cons_zero, List.getElem?_cons_succ] at celx0
    have celx1 := fun w' (h : Below W9.heap.size W9 w') => (rx.below h rx.lt).cell 1
    simp only [List.size_toArray, List.length_cons, List.getElem?_toArray, List.getElem?_cons_zero, List.getElem?_cons_succ] at celx1
    have celx2 := fun w' (h : Below W9.heap.size W9 w') => (rx.below h rx.lt).cell 2
    simp only [List.size_toArray, List.length_cons, List.getElem?_toArray, List.getElem?_cons_zero, List.getElem?_cons_succ] at celx2
    refine wp_region_fair (n := 24) (C := fun w' => Below W9.heap.size W9 w') (G := fun f args v => (f = 13 → SKin .mul args v) ∧ (f = 9 → SSame args v) ∧ (f = 14 → SKin .quo args v) ∧ (f = 15 → SCln args v)) (by kernel_rfl) (by kernel_rfl) (below_drewN (Below.refl _ _) 1) ?_
    simp only [List.take_succ_cons, List.take_zero, List.drop_succ_cons, List.drop_zero]
    repeat (refine fair_val rfl (fun w' hw' => by go_simp; with_reducible rfl) ?_; simp only [Act.put, List.setIfInBounds_toArray, List.set_cons_zero, List.set_cons_succ])
    refine fair_flt .mul _ _ _ _ _ _ rfl rfl (by simp) rfl rfl (fun w n h => below_drewN h n) ?_
    intro m hm
    simp only [Act.put, List.setIfInBounds_toArray, List.set_cons_zero, List.set_cons_succ]
    repeat (refine fair_val rfl (fun w' hw' => by go_simp; with_reducible rfl) ?_; simp only [Act.put, List.setIfInBounds_toArray, List.set_cons_zero, List.set_cons_succ])
    apply fair_call rfl
    · intro w' hw'
      go_simp
      exact ⟨rfl, rfl⟩
    · intro w' hw'
      refine (S_scale_any _ _ _ _ w').mono ?_
      rintro e w'' ⟨v, hs, he, hb⟩
      exact ⟨v, by refine ⟨?_, ?_, ?_, ?_⟩ <;> intro h <;> first | exact hs | exact absurd h (by decide), he, hw'.trans (hb.mono hw'.size)⟩
    intro v hv
    obtain ⟨q1, q2, q3, rfl, hq1, hq2, hq3⟩ := hv.1 rfl _ _ _ _ rfl
    clear hv
    simp only [Act.put, List.setIfInBounds_toArray, List.set_cons_zero, List.set_cons_succ]
    have u1 : Hid (cn x1 = cn q1) := hid (by rw [hx1.out, he1.out, hq1, A1.cn, hm, cF.out, cK.out, s1.out])
    have u2 : Hid (cn x2 = cn q2) := hid (by rw [hx2.out, he2.out, hq2, A2.cn, hm, cF.out, cK.out, s2.out])
    have u3 : Hid (cn x3 = cn q3) := hid (by rw [hx3.out, he3.out, hq3, A3.cn, hm, cF.out, cK.out, s3.out])
    clear hq1 hq2 hq3
    repeat (refine fair_val rfl (fun w' hw' => by go_simp; with_reducible rfl) ?_; simp only [Act.put, List.setIfInBounds_toArray, List.set_cons_zero, List.set_cons_succ])
    apply fair_call rfl
    · intro w' hw'
      go_simp
      exact ⟨rfl, rfl⟩
    · intro w' hw'
      refine (S_same _ _ _ _ _ _ w' u1 u2 u3).mono ?_
      rintro e w'' ⟨v, hs, he, hb⟩
      exact ⟨v, by refine ⟨?_, ?_, ?_, ?_⟩ <;> intro h <;> first | exact hs | exact absurd h (by decide), he, hw'.trans (hb.mono hw'.size)⟩
    intro v hv
    obtain rfl := hv.2.1 rfl _ _ _ _ _ _ rfl u1 u2 u3
    clear hv
    simp only [Act.put, List.setIfInBounds_toArray, List.set_cons_zero, List.set_cons_succ]
    repeat (refine fair_val rfl (fun w' hw' => by go_simp; with_reducible rfl) ?_; simp only [Act.put, List.setIfInBounds_toArray, List.set_cons_zero, List.set_cons_succ])
    clear u1 u2 u3
    apply fair_call rfl
    · intro w' hw'
      go_simp
      exact ⟨rfl, rfl⟩
    · intro w' hw'
      refine (S_over_any _ _ _ _ w').mono ?_
      rintro e w'' ⟨v, hs, he, hb⟩
      exact ⟨v, by refine ⟨?_, ?_, ?_, ?_⟩ <;> intro h <;> first | exact hs | exact absurd h (by decide), he, hw'.trans (hb.mono hw'.size)⟩
    intro v hv
    obtain ⟨p1, p2, p3, rfl, hp1, hp2, hp3⟩ := hv.2.2.1 rfl _ _ _ _ rfl
    clear hv
    simp only [Act.put, List.setIfInBounds_toArray, List.set_cons_zero, List.set_cons_succ]
    repeat (refine fair_val rfl (fun w' hw' => by go_simp; with_reducible rfl) ?_; simp only [Act.put, List.setIfInBounds_toArray, List.set_cons_zero, List.set_cons_succ])
    refine fair_flt .quo _ _ _ _ _ _ rfl rfl (by simp) rfl rfl (fun w n h => below_drewN h n) ?_
    intro n hn
    simp only [Act.put, List.setIfInBounds_toArray, List.set_cons_zero, List.set_cons_succ]
    repeat (refine fair_val rfl (fun w' hw' => by go_simp; with_reducible rfl) ?_; simp only [Act.put, List.setIfInBounds_toArray, List.set_cons_zero, List.set_cons_succ])
    apply fair_call rfl
    · intro w' hw'
      go_simp
      exact ⟨rfl, rfl⟩
    · intro w' hw'
      refine (S_scale_any _ _ _ _ w').mono ?_
      rintro e w'' ⟨v, hs, he, hb⟩
      exact ⟨v, by refine ⟨?_, ?_, ?_, ?_⟩ <;> intro h <;> first | exact hs | exact absurd h (by decide), he, hw'.trans (hb.mono hw'.size)⟩
    intro v hv
    obtain ⟨q1, q2, q3, rfl, hq1, hq2, hq3⟩ := hv.1 rfl _ _ _ _ rfl
    clear hv
    simp only [Act.put, List.setIfInBounds_toArray, List.set_cons_zero, List.set_cons_succ]
    have u1 : Hid (cn p1 = cn q1) := hid (by rw [hp1, hq1, A1.cn, hn, cO.out, cK.out, v1.out])
    have u2 : Hid (cn p2 = cn q2) := hid (by rw [hp2, hq2, A2.cn, hn, cO.out, cK.out, v2.out])
    have u3 : Hid (cn p3 = cn q3) := hid (by rw [hp3, hq3, A3.cn, hn, cO.out, cK.out, v3.out])
    clear hp1 hp2 hp3 hq1 hq2 hq3
    repeat (refine fair_val rfl (fun w' hw' => by go_simp; with_reducible rfl) ?_; simp only [Act.put, List.setIfInBounds_toArray, List.set_cons_zero, List.set_cons_succ])
    apply fair_call rfl
    · intro w' hw'
      go_simp
      exact ⟨rfl, rfl⟩
    · intro w' hw'
      refine (S_same _ _ _ _ _ _ w' u1 u2 u3).mono ?_
      rintro e w'' ⟨v, hs, he, hb⟩
      exact ⟨v, by refine ⟨?_, ?_, ?_, ?_⟩ <;> intro h <;> first | exact hs | exact absurd h (by decide), he, hw'.trans (hb.mono hw'.size)⟩
    intro v hv
    obtain rfl := hv.2.1 rfl _ _ _ _ _ _ rfl u1 u2 u3
    clear hv
    simp only [Act.put, List.setIfInBounds_toArray, List.set_cons_zero, List.set_cons_succ]
    repeat (refine fair_val rfl (fun w' hw' => by go_simp; with_reducible rfl) ?_; simp only [Act.put, List.setIfInBounds_toArray, List.set_cons_zero, List.set_cons_succ])
    clear u1 u2 u3
    apply fair_call rfl
    · intro w' hw'
      go_simp
      exact ⟨rfl, rfl⟩
    · intro w' hw'
      refine (S_cln_any _ _ _ w').mono ?_
      rintro e w'' ⟨v, hs, he, hb⟩
      exact ⟨v, by refine ⟨?_, ?_, ?_, ?_⟩ <;> intro h <;> first | exact hs | exact absurd h (by decide), he, hw'.trans (hb.mono hw'.size)⟩
    intro v hv
    obtain rfl := hv.2.2.2 rfl _ _ _ rfl
    clear hv
    simp only [Act.put, List.setIfInBounds_toArray, List.set_cons_zero, List.set_cons_succ]
    repeat (refine fair_val rfl (fun w' hw' => by go_simp; with_reducible rfl) ?_; simp only [Act.put, List.setIfInBounds_toArray, List.set_cons_zero, List.set_cons_succ])
    apply fair_call rfl
    · intro w' hw'
      go_simp
      exact ⟨rfl, rfl⟩
    · intro w' hw'
      refine (S_cln_any _ _ _ w').mono ?_
      rintro e w'' ⟨v, hs, he, hb⟩
      exact ⟨v, by refine ⟨?_, ?_, ?_, ?_⟩ <;> intro h <;> first | exact hs | exact absurd h (by decide), he, hw'.trans (hb.mono hw'.size)⟩
    intro v hv
    obtain rfl := hv.2.2.2 rfl _ _ _ rfl
    clear hv
    simp only [Act.put, List.setIfInBounds_toArray, List.set_cons_zero, List.set_cons_succ]
    repeat (refine fair_val rfl (fun w' hw' => by go_simp; with_reducible rfl) ?_; simp only [Act.put, List.setIfInBounds_toArray, List.set_cons_zero, List.set_cons_succ])
    apply fair_call rfl
    · intro w' hw'
      go_simp
      exact ⟨rfl, rfl⟩
    · intro w' hw'
      refine (S_cln_any _ _ _ w').mono ?_
      rintro e w'' ⟨v, hs, he, hb⟩
      exact ⟨v, by refine ⟨?_, ?_, ?_, ?_⟩ <;> intro h <;> first | exact hs | exact absurd h (by decide), he, hw'.trans (hb.mono hw'.size)⟩
    intro v hv
    obtain rfl := hv.2.2.2 rfl _ _ _ rfl
    clear hv
    simp only [Act.put, List.setIfInBounds_toArray, List.set_cons_zero, List.set_cons_succ]
    repeat (refine fair_val rfl (fun w' hw' => by go_simp; with_reducible rfl) ?_; simp only [Act.put, List.setIfInBounds_toArray, List.set_cons_zero, List.set_cons_succ])
    refine fair_nil ?_
    intro w' hw'
    go_wp2_with fail
    go_ret
    exact ⟨rfl, hbW.trans (hw'.mono hbW.size)⟩

theorem vecLaws_law (v0 v1 : Value) (up : Bool) (w : World) (h0 : IsVec v0) (h1 : IsVec v1) :
    Calls Try.prog 4 #[v0, v1, .bool up] w fun e w' => e = .returned (.bool true) ∧ Below w.heap.size w w' := by
  obtain ⟨a1, a2, a3, rfl⟩ := h0
  obtain ⟨b1, b2, b3, rfl⟩ := h1
  exact vecLaws_walk a1 a2 a3 b1 b2 b3 up w
end Go.Proofs.Ytkfmpdoendggjaa
