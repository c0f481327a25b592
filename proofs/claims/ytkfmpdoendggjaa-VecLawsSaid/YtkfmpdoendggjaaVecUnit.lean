/- Walks of Cross (reference), Length, Clean, Unit. -/
import Derived.Test.YtkfmpdoendggjaaVecMirror
namespace Go.Proofs.Ytkfmpdoendggjaa
open Go.RowKit
set_option linter.unusedVariables false
set_option linter.unusedSimpArgs false
attribute [local go_sem] run_fadd run_fsub run_fmul run_fquo run_stf

def lenF (a1 a2 a3 : Nat) : Nat := sq (dotF a1 a2 a3 a1 a2 a3)
def isZ (x : Nat) : Bool := FloatKind.f64.format.order x 0 == some .eq
theorem isZ_cn (x : Nat) : isZ (cn x) = isZ x := by unfold isZ; rw [order_cn_left]
def unitC (a1 a2 a3 : Nat) : Int := if fineB a1 a2 a3 then (if isZ (lenF a1 a2 a3) then 2 else 0) else 1
def unitX (a1 a2 a3 a : Nat) : Nat := if fineB a1 a2 a3 then (if isZ (lenF a1 a2 a3) then 0 else F .quo a (lenF a1 a2 a3)) else 0

theorem length_any (a1 a2 a3 : Nat) (w : World) : Calls Try.prog 30 #[.agg #[.float .f64 a1, .float .f64 a2, .float .f64 a3]] w fun e w' => ∃ x, e = .returned (.float .f64 x) ∧ cn x = lenF (cn a1) (cn a2) (cn a3) ∧ Below w.heap.size w w' := by
  go_enter Try.func30, Try.ntmps30
  go_wp2_with fail
  refine (dot_any _ _ _ _ _ _ _).mono ?_
  rintro e w1 ⟨x, rfl, hx, hb⟩
  replace hx := hid hx
  go_wp2_with fail
  refine (sqrt_any _ _).mono ?_
  rintro e w2 ⟨y, n, rfl, hy, rfl⟩
  replace hy := hid hy
  go_wp2_with fail
  go_ret
  exact ⟨_, rfl, by rw [hy.out, hx.out]; rfl, below_drewN ((bel_alloc (Below.refl _ _) _).trans (hb.mono (by simp))) n⟩

theorem cleanv_any (a1 a2 a3 : Nat) (w : World) : Calls Try.prog 15 #[.agg #[.float .f64 a1, .float .f64 a2, .float .f64 a3]] w fun e w' => e = .returned (.agg #[.float .f64 (cleanV a1), .float .f64 (cleanV a2), .float .f64 (cleanV a3)]) ∧ Below w.heap.size w w' := by
  go_enter Try.func15, Try.ntmps15
  go_wp2_with fail
  obtain ⟨W, hWW⟩ : ∃ W, W = ((w.alloc (.cells #[.float .f64 a1, .float .f64 a2, .float .f64 a3] 25)).alloc (.cells #[.float .f64 0, .float .f64 0, .float .f64 0] 25)) := ⟨_, rfl⟩
  have ra : Row W (w.heap.size) 25 #[.float .f64 a1, .float .f64 a2, .float .f64 a3] := by rw [hWW]; have := ((Row.new w 25 #[.float .f64 a1, .float .f64 a2, .float .f64 a3]).alloc (.cells #[.float .f64 0, .float .f64 0, .float .f64 0] 25)); simpa using this
  have rr : Row W (w.heap.size + 1) 25 #[.float .f64 0, .float .f64 0, .float .f64 0] := by rw [hWW]; have := (Row.new (w.alloc (.cells #[.float .f64 a1, .float .f64 a2, .float .f64 a3] 25)) 25 #[.float .f64 0, .float .f64 0, .float .f64 0]); simpa using this
  have hbW : Below w.heap.size w W := by rw [hWW]; exact bel_alloc (bel_alloc (Below.refl _ _) _) _
  rw [← hWW]
  clear hWW
  have cela0 := fun w' (h : Below W.heap.size W w') => (ra.below h ra.lt).cell 0
  simp only [List.size_toArray, List.length_cons, List.getElem?_toArray, List.getElem?_cons_zero, List.getElem?_cons_succ] at cela0
  have cela1 := fun w' (h : Below W.heap.size W w') => (ra.below h ra.lt).cell 1
  simp only [List.size_toArray, List.length_cons, List.getElem?_toArray, List.getElem?_cons_zero, List.getElem?_cons_succ] at cela1
  have cela2 := fun w' (h : Below W.heap.size W w') => (ra.below h ra.lt).cell 2
  simp only [List.size_toArray, List.length_cons, List.getElem?_toArray, List.getElem?_cons_zero, List.getElem?_cons_succ] at cela2
  refine wp_region_fair (n := 10) (C := fun w' => Below W.heap.size W w') (G := fun f args v => (f = 35 → SClean args v)) (by kernel_rfl) (by kernel_rfl) (below_drewN (Below.refl _ _) 1) ?_
  simp only [List.take_succ_cons, List.take_zero, List.drop_succ_cons, List.drop_zero]
  repeat (refine fair_val rfl (fun w' hw' => by go_simp; with_reducible rfl) ?_; simp only [Act.put, List.setIfInBounds_toArray, List.set_cons_zero, List.set_cons_succ])
  apply fair_call rfl
  · intro w' hw'
    go_simp
    exact ⟨rfl, rfl⟩
  · intro w' hw'
    refine (S_clean_any _ w').mono ?_
    rintro e w'' ⟨v, hs, he, hb⟩
    exact ⟨v, fun _ => hs, he, hw'.trans (hb.mono hw'.size)⟩
  intro v hv
  obtain rfl := hv rfl _ rfl
  clear hv
  simp only [Act.put, List.setIfInBounds_toArray, List.set_cons_zero, List.set_cons_succ]
  repeat (refine fair_val rfl (fun w' hw' => by go_simp; with_reducible rfl) ?_; simp only [Act.put, List.setIfInBounds_toArray, List.set_cons_zero, List.set_cons_succ])
  apply fair_call rfl
  · intro w' hw'
    go_simp
    exact ⟨rfl, rfl⟩
  · intro w' hw'
    refine (S_clean_any _ w').mono ?_
    rintro e w'' ⟨v, hs, he, hb⟩
    exact ⟨v, fun _ => hs, he, hw'.trans (hb.mono hw'.size)⟩
  intro v hv
  obtain rfl := hv rfl _ rfl
  clear hv
  simp only [Act.put, List.setIfInBounds_toArray, List.set_cons_zero, List.set_cons_succ]
  repeat (refine fair_val rfl (fun w' hw' => by go_simp; with_reducible rfl) ?_; simp only [Act.put, List.setIfInBounds_toArray, List.set_cons_zero, List.set_cons_succ])
  apply fair_call rfl
  · intro w' hw'
    go_simp
    exact ⟨rfl, rfl⟩
  · intro w' hw'
    refine (S_clean_any _ w').mono ?_
    rintro e w'' ⟨v, hs, he, hb⟩
    exact ⟨v, fun _ => hs, he, hw'.trans (hb.mono hw'.size)⟩
  intro v hv
  obtain rfl := hv rfl _ rfl
  clear hv
  simp only [Act.put, List.setIfInBounds_toArray, List.set_cons_zero, List.set_cons_succ]
  repeat (refine fair_val rfl (fun w' hw' => by go_simp; with_reducible rfl) ?_; simp only [Act.put, List.setIfInBounds_toArray, List.set_cons_zero, List.set_cons_succ])
  refine fair_nil ?_
  intro w' hw'
  obtain ⟨z0, z1, z2, f0, f1, f2⟩ := (rr.below hw' rr.lt).cells3
  clear cela0 cela1 cela2
  go_wp2_with fail
  refine bodyPost_ret (v := .agg #[.float .f64 (cleanV a1), .float .f64 (cleanV a2), .float .f64 (cleanV a3)]) (by simp [results, Try.results15, go_sem, *]) rfl ⟨rfl, ?_⟩
  repeat (refine Below.setCell ?_ (by simp <;> omega) _)
  exact hbW.trans (hw'.mono hbW.size)

theorem unit_any (a1 a2 a3 : Nat) (w : World) : Calls Try.prog 33 #[.agg #[.float .f64 a1, .float .f64 a2, .float .f64 a3]] w fun e w' => (∃ x y z c, e = .returned (.tuple #[.agg #[.float .f64 x, .float .f64 y, .float .f64 z], .int .i64 c]) ∧ Hid (c = unitC (cn a1) (cn a2) (cn a3)) ∧ Hid (cn x = unitX (cn a1) (cn a2) (cn a3) (cn a1)) ∧ Hid (cn y = unitX (cn a1) (cn a2) (cn a3) (cn a2)) ∧ Hid (cn z = unitX (cn a1) (cn a2) (cn a3) (cn a3))) ∧ Below w.heap.size w w' := by
  have hfc := hid (fineB_cn a1 a2 a3)
  go_enter Try.func33, Try.ntmps33
  go_wp2_with fail
  obtain ⟨W, hWW⟩ : ∃ W, W = ((w.alloc (.cells #[.float .f64 a1, .float .f64 a2, .float .f64 a3] 25)).alloc (.cells #[.float .f64 0, .float .f64 0, .float .f64 0] 25)) := ⟨_, rfl⟩
  have ra : Row W (w.heap.size) 25 #[.float .f64 a1, .float .f64 a2, .float .f64 a3] := by rw [hWW]; have := ((Row.new w 25 #[.float .f64 a1, .float .f64 a2, .float .f64 a3]).alloc (.cells #[.float .f64 0, .float .f64 0, .float .f64 0] 25)); simpa using this
  have rr : Row W (w.heap.size + 1) 25 #[.float .f64 0, .float .f64 0, .float .f64 0] := by rw [hWW]; have := (Row.new (w.alloc (.cells #[.float .f64 a1, .float .f64 a2, .float .f64 a3] 25)) 25 #[.float .f64 0, .float .f64 0, .float .f64 0]); simpa using this
  have hbW : Below w.heap.size w W := by rw [hWW]; exact bel_alloc (bel_alloc (Below.refl _ _) _) _
  rw [← hWW]
  clear hWW
  obtain ⟨xa0, xa1, xa2, _, _, _⟩ := ra.cells3
  go_wp2_with fail
  refine (fine_any _ _ _ _).mono ?_
  rintro e w1 ⟨rfl, hb⟩
  replace ra := ra.below hb ra.lt
  replace rr := rr.below hb rr.lt
  replace hbW := hbW.trans (hb.mono hbW.size)
  clear hb
  clear xa0 xa1 xa2
  obtain ⟨z0, z1, z2, f0, f1, f2⟩ := rr.cells3
  obtain ⟨xa0, xa1, xa2, _, _, _⟩ := ra.cells3
  by_cases hf : fineB a1 a2 a3 = true
  case neg =>
    have hf' : fineB a1 a2 a3 = false := by simpa using hf
    clear hf
    go_wp2_with fail
    refine bodyPost_ret (v := .tuple #[.agg #[.float .f64 0, .float .f64 0, .float .f64 0], .int .i64 1]) (by simp [results, Try.results33, go_sem, *]) rfl ⟨⟨0, 0, 0, 1, rfl, hid ?_, hid ?_, hid ?_, hid ?_⟩, ?_⟩
    · unfold unitC; rw [hfc.out, hf']; rfl
    · unfold unitX; rw [hfc.out, hf']; exact cn_zero
    · unfold unitX; rw [hfc.out, hf']; exact cn_zero
    · unfold unitX; rw [hfc.out, hf']; exact cn_zero
    · repeat (refine Below.setCell ?_ (by simp <;> omega) _)
      exact hbW
  case pos =>
  go_wp2_with fail
  refine (length_any _ _ _ _).mono ?_
  rintro e w2 ⟨n, rfl, hn, hb⟩
  replace hn := hid hn
  replace ra := ra.below hb ra.lt
  replace rr := rr.below hb rr.lt
  replace hbW := hbW.trans (hb.mono hbW.size)
  clear hb
  clear xa0 xa1 xa2 z0 z1 z2 f0 f1 f2
  obtain ⟨z0, z1, z2, f0, f1, f2⟩ := rr.cells3
  obtain ⟨xa0, xa1, xa2, _, _, _⟩ := ra.cells3
  by_cases hz : FloatKind.f64.format.order n 0 = some .eq
  case pos =>
    have hz' : Hid (isZ (lenF (cn a1) (cn a2) (cn a3)) = true) := hid (by rw [← hn.out, isZ_cn]; unfold isZ; rw [hz]; rfl)
    go_wp2_with fail
    refine bodyPost_ret (v := .tuple #[.agg #[.float .f64 0, .float .f64 0, .float .f64 0], .int .i64 2]) (by simp [results, Try.results33, go_sem, *]) rfl ⟨⟨0, 0, 0, 2, rfl, hid ?_, hid ?_, hid ?_, hid ?_⟩, ?_⟩
    · unfold unitC; rw [hfc.out, hf, hz'.out]; rfl
    · unfold unitX; rw [hfc.out, hf, hz'.out]; exact cn_zero
    · unfold unitX; rw [hfc.out, hf, hz'.out]; exact cn_zero
    · unfold unitX; rw [hfc.out, hf, hz'.out]; exact cn_zero
    · repeat (refine Below.setCell ?_ (by simp <;> omega) _)
      exact hbW
  case neg =>
  have hz3 : (FloatKind.f64.format.order n 0 == some .eq) = false := by simpa using hz
  have hz' : Hid (isZ (lenF (cn a1) (cn a2) (cn a3)) = false) := hid (by rw [← hn.out, isZ_cn]; unfold isZ; exact hz3)
  clear hz
  go_wp2_with fail
  refine (over_any _ _ _ _ _).mono ?_
  rintro e w3 ⟨x, y, z, rfl, hx, hy, hzz, hb⟩
  replace hx := hid hx
  replace hy := hid hy
  replace hzz := hid hzz
  replace ra := ra.below hb ra.lt
  replace rr := rr.below hb rr.lt
  replace hbW := hbW.trans (hb.mono hbW.size)
  clear hb
  clear xa0 xa1 xa2 z0 z1 z2 f0 f1 f2
  obtain ⟨z0, z1, z2, f0, f1, f2⟩ := rr.cells3
  go_wp2_with fail
  refine bodyPost_ret (v := .tuple #[.agg #[.float .f64 x, .float .f64 y, .float .f64 z], .int .i64 0]) (by simp [results, Try.results33, go_sem, *]) rfl ⟨⟨x, y, z, 0, rfl, hid ?_, hid ?_, hid ?_, hid ?_⟩, ?_⟩
  · unfold unitC; rw [hfc.out, hf, hz'.out]; rfl
  · unfold unitX; rw [hfc.out, hf, hz'.out, hx.out, hn.out]; rfl
  · unfold unitX; rw [hfc.out, hf, hz'.out, hy.out, hn.out]; rfl
  · unfold unitX; rw [hfc.out, hf, hz'.out, hzz.out, hn.out]; rfl
  · repeat (refine Below.setCell ?_ (by simp <;> omega) _)
    exact hbW

theorem length_ref (a1 a2 a3 : Nat) (w : World) : Calls Try.prog 31 #[.agg #[.float .f64 a1, .float .f64 a2, .float .f64 a3]] w fun e w' => ∃ x, e = .returned (.float .f64 x) ∧ cn x = lenF (cn a1) (cn a2) (cn a3) ∧ Below w.heap.size w w' := by
  go_enter Try.func31, Try.ntmps31
  go_wp2_with fail
  refine (dot_ref _ _ _ _ _ _ _).mono ?_
  rintro e w1 ⟨x, rfl, hx, hb⟩
  replace hx := hid hx
  go_wp2_with fail
  refine (sqrt_any _ _).mono ?_
  rintro e w2 ⟨y, n, rfl, hy, rfl⟩
  replace hy := hid hy
  go_wp2_with fail
  go_ret
  exact ⟨_, rfl, by rw [hy.out, hx.out]; rfl, below_drewN ((bel_alloc (Below.refl _ _) _).trans (hb.mono (by simp))) n⟩

theorem cleanv_ref (a1 a2 a3 : Nat) (w : World) : Calls Try.prog 32 #[.agg #[.float .f64 a1, .float .f64 a2, .float .f64 a3]] w fun e w' => e = .returned (.agg #[.float .f64 (cleanV a1), .float .f64 (cleanV a2), .float .f64 (cleanV a3)]) ∧ Below w.heap.size w w' := by
  go_enter Try.func32, Try.ntmps32
  go_wp2_with fail
  obtain ⟨W, hWW⟩ : ∃ W, W = ((w.alloc (.cells #[.float .f64 a1, .float .f64 a2, .float .f64 a3] 25)).alloc (.cells #[.float .f64 0, .float .f64 0, .float .f64 0] 25)) := ⟨_, rfl⟩
  have ra : Row W (w.heap.size) 25 #[.float .f64 a1, .float .f64 a2, .float .f64 a3] := by rw [hWW]; have := ((Row.new w 25 #[.float .f64 a1, .float .f64 a2, .float .f64 a3]).alloc (.cells #[.float .f64 0, .float .f64 0, .float .f64 0] 25)); simpa using this
  have rr : Row W (w.heap.size + 1) 25 #[.float .f64 0, .float .f64 0, .float .f64 0] := by rw [hWW]; have := (Row.new (w.alloc (.cells #[.float .f64 a1, .float .f64 a2, .float .f64 a3] 25)) 25 #[.float .f64 0, .float .f64 0, .float .f64 0]); simpa using this
  have hbW : Below w.heap.size w W := by rw [hWW]; exact bel_alloc (bel_alloc (Below.refl _ _) _) _
  rw [← hWW]
  clear hWW
  have cela0 := fun w' (h : Below W.heap.size W w') => (ra.below h ra.lt).cell 0
  simp only [List.size_toArray, List.length_cons, List.getElem?_toArray, List.getElem?_cons_zero, List.getElem?_cons_succ] at cela0
  have cela1 := fun w' (h : Below W.heap.size W w') => (ra.below h ra.lt).cell 1
  simp only [List.size_toArray, List.length_cons, List.getElem?_toArray, List.getElem?_cons_zero, List.getElem?_cons_succ] at cela1
  have cela2 := fun w' (h : Below W.heap.size W w') => (ra.below h ra.lt).cell 2
  simp only [List.size_toArray, List.length_cons, List.getElem?_toArray, List.getElem?_cons_zero, List.getElem?_cons_succ] at cela2
  refine wp_region_fair (n := 10) (C := fun w' => Below W.heap.size W w') (G := fun f args v => (f = 38 → SClean args v)) (by kernel_rfl) (by kernel_rfl) (below_drewN (Below.refl _ _) 1) ?_
  simp only [List.take_succ_cons, List.take_zero, List.drop_succ_cons, List.drop_zero]
  repeat (refine fair_val rfl (fun w' hw' => by go_simp; with_reducible rfl) ?_; simp only [Act.put, List.setIfInBounds_toArray, List.set_cons_zero, List.set_cons_succ])
  apply fair_call rfl
  · intro w' hw'
    go_simp
    exact ⟨rfl, rfl⟩
  · intro w' hw'
    refine (S_clean_ref _ w').mono ?_
    rintro e w'' ⟨v, hs, he, hb⟩
    exact ⟨v, fun _ => hs, he, hw'.trans (hb.mono hw'.size)⟩
  intro v hv
  obtain rfl := hv rfl _ rfl
  clear hv
  simp only [Act.put, List.setIfInBounds_toArray, List.set_cons_zero, List.set_cons_succ]
  repeat (refine fair_val rfl (fun w' hw' => by go_simp; with_reducible rfl) ?_; simp only [Act.put, List.setIfInBounds_toArray, List.set_cons_zero, List.set_cons_succ])
  apply fair_call rfl
  · intro w' hw'
    go_simp
    exact ⟨rfl, rfl⟩
  · intro w' hw'
    refine (S_clean_ref _ w').mono ?_
    rintro e w'' ⟨v, hs, he, hb⟩
    exact ⟨v, fun _ => hs, he, hw'.trans (hb.mono hw'.size)⟩
  intro v hv
  obtain rfl := hv rfl _ rfl
  clear hv
  simp only [Act.put, List.setIfInBounds_toArray, List.set_cons_zero, List.set_cons_succ]
  repeat (refine fair_val rfl (fun w' hw' => by go_simp; with_reducible rfl) ?_; simp only [Act.put, List.setIfInBounds_toArray, List.set_cons_zero, List.set_cons_succ])
  apply fair_call rfl
  · intro w' hw'
    go_simp
    exact ⟨rfl, rfl⟩
  · intro w' hw'
    refine (S_clean_ref _ w').mono ?_
    rintro e w'' ⟨v, hs, he, hb⟩
    exact ⟨v, fun _ => hs, he, hw'.trans (hb.mono hw'.size)⟩
  intro v hv
  obtain rfl := hv rfl _ rfl
  clear hv
  simp only [Act.put, List.setIfInBounds_toArray, List.set_cons_zero, List.set_cons_succ]
  repeat (refine fair_val rfl (fun w' hw' => by go_simp; with_reducible rfl) ?_; simp only [Act.put, List.setIfInBounds_toArray, List.set_cons_zero, List.set_cons_succ])
  refine fair_nil ?_
  intro w' hw'
  obtain ⟨z0, z1, z2, f0, f1, f2⟩ := (rr.below hw' rr.lt).cells3
  clear cela0 cela1 cela2
  go_wp2_with fail
  refine bodyPost_ret (v := .agg #[.float .f64 (cleanV a1), .float .f64 (cleanV a2), .float .f64 (cleanV a3)]) (by simp [results, Try.results32, go_sem, *]) rfl ⟨rfl, ?_⟩
  repeat (refine Below.setCell ?_ (by simp <;> omega) _)
  exact hbW.trans (hw'.mono hbW.size)

theorem unit_ref (a1 a2 a3 : Nat) (w : World) : Calls Try.prog 34 #[.agg #[.float .f64 a1, .float .f64 a2, .float .f64 a3]] w fun e w' => (∃ x y z c, e = .returned (.tuple #[.agg #[.float .f64 x, .float .f64 y, .float .f64 z], .int .i64 c]) ∧ Hid (c = unitC (cn a1) (cn a2) (cn a3)) ∧ Hid (cn x = unitX (cn a1) (cn a2) (cn a3) (cn a1)) ∧ Hid (cn y = unitX (cn a1) (cn a2) (cn a3) (cn a2)) ∧ Hid (cn z = unitX (cn a1) (cn a2) (cn a3) (cn a3))) ∧ Below w.heap.size w w' := by
  have hfc := hid (fineB_cn a1 a2 a3)
  go_enter Try.func34, Try.ntmps34
  go_wp2_with fail
  obtain ⟨W, hWW⟩ : ∃ W, W = ((w.alloc (.cells #[.float .f64 a1, .float .f64 a2, .float .f64 a3] 25)).alloc (.cells #[.float .f64 0, .float .f64 0, .float .f64 0] 25)) := ⟨_, rfl⟩
  have ra : Row W (w.heap.size) 25 #[.float .f64 a1, .float .f64 a2, .float .f64 a3] := by rw [hWW]; have := ((Row.new w 25 #[.float .f64 a1, .float .f64 a2, .float .f64 a3]).alloc (.cells #[.float .f64 0, .float .f64 0, .float .f64 0] 25)); simpa using this
  have rr : Row W (w.heap.size + 1) 25 #[.float .f64 0, .float .f64 0, .float .f64 0] := by rw [hWW]; have := (Row.new (w.alloc (.cells #[.float .f64 a1, .float .f64 a2, .float .f64 a3] 25)) 25 #[.float .f64 0, .float .f64 0, .float .f64 0]); simpa using this
  have hbW : Below w.heap.size w W := by rw [hWW]; exact bel_alloc (bel_alloc (Below.refl _ _) _) _
  rw [← hWW]
  clear hWW
  obtain ⟨xa0, xa1, xa2, _, _, _⟩ := ra.cells3
  go_wp2_with fail
  refine (fine_ref _ _ _ _).mono ?_
  rintro e w1 ⟨rfl, hb⟩
  replace ra := ra.below hb ra.lt
  replace rr := rr.below hb rr.lt
  replace hbW := hbW.trans (hb.mono hbW.size)
  clear hb
  clear xa0 xa1 xa2
  obtain ⟨z0, z1, z2, f0, f1, f2⟩ := rr.cells3
  obtain ⟨xa0, xa1, xa2, _, _, _⟩ := ra.cells3
  by_cases hf : fineB a1 a2 a3 = true
  case neg =>
    have hf' : fineB a1 a2 a3 = false := by simpa using hf
    clear hf
    go_wp2_with fail
    refine bodyPost_ret (v := .tuple #[.agg #[.float .f64 0, .float .f64 0, .float .f64 0], .int .i64 1]) (by simp [results, Try.results34, go_sem, *]) rfl ⟨⟨0, 0, 0, 1, rfl, hid ?_, hid ?_, hid ?_, hid ?_⟩, ?_⟩
    · unfold unitC; rw [hfc.out, hf']; rfl
    · unfold unitX; rw [hfc.out, hf']; exact cn_zero
    · unfold unitX; rw [hfc.out, hf']; exact cn_zero
    · unfold unitX; rw [hfc.out, hf']; exact cn_zero
    · repeat (refine Below.setCell ?_ (by simp <;> omega) _)
      exact hbW
  case pos =>
  go_wp2_with fail
  refine (length_ref _ _ _ _).mono ?_
  rintro e w2 ⟨n, rfl, hn, hb⟩
  replace hn := hid hn
  replace ra := ra.below hb ra.lt
  replace rr := rr.below hb rr.lt
  replace hbW := hbW.trans (hb.mono hbW.size)
  clear hb
  clear xa0 xa1 xa2 z0 z1 z2 f0 f1 f2
  obtain ⟨z0, z1, z2, f0, f1, f2⟩ := rr.cells3
  obtain ⟨xa0, xa1, xa2, _, _, _⟩ := ra.cells3
  by_cases hz : FloatKind.f64.format.order n 0 = some .eq
  case pos =>
    have hz' : Hid (isZ (lenF (cn a1) (cn a2) (cn a3)) = true) := hid (by rw [← hn.out, isZ_cn]; unfold isZ; rw [hz]; rfl)
    go_wp2_with fail
    refine bodyPost_ret (v := .tuple #[.agg #[.float .f64 0, .float .f64 0, .float .f64 0], .int .i64 2]) (by simp [results, Try.results34, go_sem, *]) rfl ⟨⟨0, 0, 0, 2, rfl, hid ?_, hid ?_, hid ?_, hid ?_⟩, ?_⟩
    · unfold unitC; rw [hfc.out, hf, hz'.out]; rfl
    · unfold unitX; rw [hfc.out, hf, hz'.out]; exact cn_zero
    · unfold unitX; rw [hfc.out, hf, hz'.out]; exact cn_zero
    · unfold unitX; rw [hfc.out, hf, hz'.out]; exact cn_zero
    · repeat (refine Below.setCell ?_ (by simp <;> omega) _)
      exact hbW
  case neg =>
  have hz3 : (FloatKind.f64.format.order n 0 == some .eq) = false := by simpa using hz
  have hz' : Hid (isZ (lenF (cn a1) (cn a2) (cn a3)) = false) := hid (by rw [← hn.out, isZ_cn]; unfold isZ; exact hz3)
  clear hz
  go_wp2_with fail
  refine (over_ref _ _ _ _ _).mono ?_
  rintro e w3 ⟨x, y, z, rfl, hx, hy, hzz, hb⟩
  replace hx := hid hx
  replace hy := hid hy
  replace hzz := hid hzz
  replace ra := ra.below hb ra.lt
  replace rr := rr.below hb rr.lt
  replace hbW := hbW.trans (hb.mono hbW.size)
  clear hb
  clear xa0 xa1 xa2 z0 z1 z2 f0 f1 f2
  obtain ⟨z0, z1, z2, f0, f1, f2⟩ := rr.cells3
  go_wp2_with fail
  refine bodyPost_ret (v := .tuple #[.agg #[.float .f64 x, .float .f64 y, .float .f64 z], .int .i64 0]) (by simp [results, Try.results34, go_sem, *]) rfl ⟨⟨x, y, z, 0, rfl, hid ?_, hid ?_, hid ?_, hid ?_⟩, ?_⟩
  · unfold unitC; rw [hfc.out, hf, hz'.out]; rfl
  · unfold unitX; rw [hfc.out, hf, hz'.out, hx.out, hn.out]; rfl
  · unfold unitX; rw [hfc.out, hf, hz'.out, hy.out, hn.out]; rfl
  · unfold unitX; rw [hfc.out, hf, hz'.out, hzz.out, hn.out]; rfl
  · repeat (refine Below.setCell ?_ (by simp <;> omega) _)
    exact hbW

set_option maxHeartbeats 1600000 in
theorem cross_ref (a1 a2 a3 b1 b2 b3 : Nat) (w : World) :
    Calls Try.prog 29 #[.agg #[.float .f64 a1, .float .f64 a2, .float .f64 a3], .agg #[.float .f64 b1, .float .f64 b2, .float .f64 b3]] w fun e w' => ∃ x y z, e = .returned (.agg #[.float .f64 x, .float .f64 y, .float .f64 z]) ∧ cn x = F .sub (F .mul (cn a2) (cn b3)) (F .mul (cn a3) (cn b2)) ∧ cn y = F .sub (F .mul (cn a3) (cn b1)) (F .mul (cn a1) (cn b3)) ∧ cn z = F .sub (F .mul (cn a1) (cn b2)) (F .mul (cn a2) (cn b1)) ∧ Below w.heap.size w w' := by
  go_enter Try.func29, Try.ntmps29
  go_wp2_with fail
  obtain ⟨W, hWW⟩ : ∃ W, W = (((w.alloc (.cells #[.float .f64 a1, .float .f64 a2, .float .f64 a3] 25)).alloc (.cells #[.float .f64 b1, .float .f64 b2, .float .f64 b3] 25)).alloc (.cells #[.float .f64 0, .float .f64 0, .float .f64 0] 25)) := ⟨_, rfl⟩
  have ra : Row W (w.heap.size) 25 #[.float .f64 a1, .float .f64 a2, .float .f64 a3] := by rw [hWW]; have := (((Row.new w 25 #[.float .f64 a1, .float .f64 a2, .float .f64 a3]).alloc (.cells #[.float .f64 b1, .float .f64 b2, .float .f64 b3] 25)).alloc (.cells #[.float .f64 0, .float .f64 0, .float .f64 0] 25)); simpa using this
  have rb : Row W (w.heap.size + 1) 25 #[.float .f64 b1, .float .f64 b2, .float .f64 b3] := by rw [hWW]; have := ((Row.new (w.alloc (.cells #[.float .f64 a1, .float .f64 a2, .float .f64 a3] 25)) 25 #[.float .f64 b1, .float .f64 b2, .float .f64 b3]).alloc (.cells #[.float .f64 0, .float .f64 0, .float .f64 0] 25)); simpa using this
  have rr : Row W (w.heap.size + 1 + 1) 25 #[.float .f64 0, .float .f64 0, .float .f64 0] := by rw [hWW]; have := (Row.new ((w.alloc (.cells #[.float .f64 a1, .float .f64 a2, .float .f64 a3] 25)).alloc (.cells #[.float .f64 b1, .float .f64 b2, .float .f64 b3] 25)) 25 #[.float .f64 0, .float .f64 0, .float .f64 0]); simpa using this
  have hbW : Below w.heap.size w W := by rw [hWW]; exact bel_alloc (bel_alloc (bel_alloc (Below.refl _ _) _) _) _
  rw [← hWW]
  clear hWW
  have cela0 := fun w' (h : Below W.heap.size W w') => (ra.below h ra.lt).cell 0
  simp only [List.size_toArray, List.length_cons, List.getElem?_toArray, List.getElem?_cons_zero, List.getElem?_cons_succ] at cela0
  have cela1 := fun w' (h : Below W.heap.size W w') => (ra.below h ra.lt).cell 1
  simp only [List.size_toArray, List.length_cons, List.getElem?_toArray, List.getElem?_cons_zero, List.getElem?_cons_succ] at cela1
  have cela2 := fun w' (h : Below W.heap.size W w') => (ra.below h ra.lt).cell 2
  simp only [List.size_toArray, List.length_cons, List.getElem?_toArray, List.getElem?_cons_zero, List.getElem?_cons_succ] at cela2
  have celb0 := fun w' (h : Below W.heap.size W w') => (rb.below h rb.lt).cell 0
  simp only [List.size_toArray, List.length_cons, List.getElem?_toArray, List.getElem?_cons_zero, List.getElem?_cons_succ] at celb0
  have celb1 := fun w' (h : Below W.heap.size W w') => (rb.below h rb.lt).cell 1
  simp only [List.size_toArray, List.length_cons, List.getElem?_toArray, List.getElem?_cons_zero, List.getElem?_cons_succ] at celb1
  have celb2 := fun w' (h : Below W.heap.size W w') => (rb.below h rb.lt).cell 2
  simp only [List.size_toArray, List.length_cons, List.getElem?_toArray, List.getElem?_cons_zero, List.getElem?_cons_succ] at celb2
  refine wp_region_fair (n := 34) (C := fun w' => Below W.heap.size W w') (G := fun f args v => (f = 37 → STimes args v)) (by kernel_rfl) (by kernel_rfl) (below_drewN (Below.refl _ _) 1) ?_
  simp only [List.take_succ_cons, List.take_zero, List.drop_succ_cons, List.drop_zero]
  repeat (refine fair_val rfl (fun w' hw' => by go_simp; with_reducible rfl) ?_; simp only [Act.put, List.setIfInBounds_toArray, List.set_cons_zero, List.set_cons_succ])
  apply fair_call rfl
  · intro w' hw'
    go_simp
    exact ⟨rfl, rfl⟩
  · intro w' hw'
    refine (S_times _ _ w').mono ?_
    rintro e w'' ⟨v, hs, he, hb⟩
    exact ⟨v, fun _ => hs, he, hw'.trans (hb.mono hw'.size)⟩
  intro v hv
  obtain ⟨p1, rfl, hp1⟩ := hv rfl _ _ rfl
  clear hv
  simp only [Act.put, List.setIfInBounds_toArray, List.set_cons_zero, List.set_cons_succ]
  replace hp1 := hid hp1
  repeat (refine fair_val rfl (fun w' hw' => by go_simp; with_reducible rfl) ?_; simp only [Act.put, List.setIfInBounds_toArray, List.set_cons_zero, List.set_cons_succ])
  apply fair_call rfl
  · intro w' hw'
    go_simp
    exact ⟨rfl, rfl⟩
  · intro w' hw'
    refine (S_times _ _ w').mono ?_
    rintro e w'' ⟨v, hs, he, hb⟩
    exact ⟨v, fun _ => hs, he, hw'.trans (hb.mono hw'.size)⟩
  intro v hv
  obtain ⟨q1, rfl, hq1⟩ := hv rfl _ _ rfl
  clear hv
  simp only [Act.put, List.setIfInBounds_toArray, List.set_cons_zero, List.set_cons_succ]
  replace hq1 := hid hq1
  refine fair_flt .sub _ _ _ _ _ _ rfl rfl (by simp) rfl rfl (fun w n h => below_drewN h n) ?_
  intro s1 hs1
  simp only [Act.put, List.setIfInBounds_toArray, List.set_cons_zero, List.set_cons_succ]
  replace hs1 := hid hs1
  repeat (refine fair_val rfl (fun w' hw' => by go_simp; with_reducible rfl) ?_; simp only [Act.put, List.setIfInBounds_toArray, List.set_cons_zero, List.set_cons_succ])
  apply fair_call rfl
  · intro w' hw'
    go_simp
    exact ⟨rfl, rfl⟩
  · intro w' hw'
    refine (S_times _ _ w').mono ?_
    rintro e w'' ⟨v, hs, he, hb⟩
    exact ⟨v, fun _ => hs, he, hw'.trans (hb.mono hw'.size)⟩
  intro v hv
  obtain ⟨p2, rfl, hp2⟩ := hv rfl _ _ rfl
  clear hv
  simp only [Act.put, List.setIfInBounds_toArray, List.set_cons_zero, List.set_cons_succ]
  replace hp2 := hid hp2
  repeat (refine fair_val rfl (fun w' hw' => by go_simp; with_reducible rfl) ?_; simp only [Act.put, List.setIfInBounds_toArray, List.set_cons_zero, List.set_cons_succ])
  apply fair_call rfl
  · intro w' hw'
    go_simp
    exact ⟨rfl, rfl⟩
  · intro w' hw'
    refine (S_times _ _ w').mono ?_
    rintro e w'' ⟨v, hs, he, hb⟩
    exact ⟨v, fun _ => hs, he, hw'.trans (hb.mono hw'.size)⟩
  intro v hv
  obtain ⟨q2, rfl, hq2⟩ := hv rfl _ _ rfl
  clear hv
  simp only [Act.put, List.setIfInBounds_toArray, List.set_cons_zero, List.set_cons_succ]
  replace hq2 := hid hq2
  refine fair_flt .sub _ _ _ _ _ _ rfl rfl (by simp) rfl rfl (fun w n h => below_drewN h n) ?_
  intro s2 hs2
  simp only [Act.put, List.setIfInBounds_toArray, List.set_cons_zero, List.set_cons_succ]
  replace hs2 := hid hs2
  repeat (refine fair_val rfl (fun w' hw' => by go_simp; with_reducible rfl) ?_; simp only [Act.put, List.setIfInBounds_toArray, List.set_cons_zero, List.set_cons_succ])
  apply fair_call rfl
  · intro w' hw'
    go_simp
    exact ⟨rfl, rfl⟩
  · intro w' hw'
    refine (S_times _ _ w').mono ?_
    rintro e w'' ⟨v, hs, he, hb⟩
    exact ⟨v, fun _ => hs, he, hw'.trans (hb.mono hw'.size)⟩
  intro v hv
  obtain ⟨p3, rfl, hp3⟩ := hv rfl _ _ rfl
  clear hv
  simp only [Act.put, List.setIfInBounds_toArray, List.set_cons_zero, List.set_cons_succ]
  replace hp3 := hid hp3
  repeat (refine fair_val rfl (fun w' hw' => by go_simp; with_reducible rfl) ?_; simp only [Act.put, List.setIfInBounds_toArray, List.set_cons_zero, List.set_cons_succ])
  apply fair_call rfl
  · intro w' hw'
    go_simp
    exact ⟨rfl, rfl⟩
  · intro w' hw'
    refine (S_times _ _ w').mono ?_
    rintro e w'' ⟨v, hs, he, hb⟩
    exact ⟨v, fun _ => hs, he, hw'.trans (hb.mono hw'.size)⟩
  intro v hv
  obtain ⟨q3, rfl, hq3⟩ := hv rfl _ _ rfl
  clear hv
  simp only [Act.put, List.setIfInBounds_toArray, List.set_cons_zero, List.set_cons_succ]
  replace hq3 := hid hq3
  refine fair_flt .sub _ _ _ _ _ _ rfl rfl (by simp) rfl rfl (fun w n h => below_drewN h n) ?_
  intro s3 hs3
  simp only [Act.put, List.setIfInBounds_toArray, List.set_cons_zero, List.set_cons_succ]
  replace hs3 := hid hs3
  repeat (refine fair_val rfl (fun w' hw' => by go_simp; with_reducible rfl) ?_; simp only [Act.put, List.setIfInBounds_toArray, List.set_cons_zero, List.set_cons_succ])
  refine fair_nil ?_
  intro w' hw'
  obtain ⟨z0, z1, z2, f0, f1, f2⟩ := (rr.below hw' rr.lt).cells3
  clear cela0 cela1 cela2 celb0 celb1 celb2
  go_wp2_with fail
  refine bodyPost_ret (v := .agg #[.float .f64 s1, .float .f64 s2, .float .f64 s3]) (by simp [results, Try.results29, go_sem, *]) rfl ⟨s1, s2, s3, rfl, ?_, ?_, ?_, ?_⟩
  · rw [hs1.out, hp1.out, hq1.out]
  · rw [hs2.out, hp2.out, hq2.out]
  · rw [hs3.out, hp3.out, hq3.out]
  · repeat (refine Below.setCell ?_ (by simp <;> omega) _)
    exact hbW.trans (hw'.mono hbW.size)
end Go.Proofs.Ytkfmpdoendggjaa
