/- The walk of reel.Apart. No conditions. -/
import Derived.Test.YtlcdaoljfclliaaPicMay
import Derived.Test.YtlcdaoljfclliaaApartPlain
namespace Go.Proofs.Ytlcdaoljfclliaa
open Go.RowKit
set_option linter.unusedVariables false
set_option linter.unusedSimpArgs false

def apartR (Wa Ha : Int) (n : Nat) (Wb Hb : Int) (m : Nat) (D : Nat → Int) : Int × Int × Int × Int :=
  if mayP Wa Ha n ≠ 0 then (0, 0, 0, mayP Wa Ha n) else if mayP Wb Hb m ≠ 0 then (0, 0, 0, mayP Wb Hb m) else if Wa ≠ Wb ∨ Ha ≠ Hb then (0, 0, 0, 5)
  else (unlF D (Wa * Ha).toNat, mostF D n, sqF D n, 0)
def apartV (r : Int × Int × Int × Int) : Value := .tuple #[.agg #[.int .i64 r.1, .int .i64 r.2.1, .int .i64 r.2.2.1], .int .i64 r.2.2.2]

/-- What the loop of reel.Apart holds of memory. -/
structure ApMem (w wr : World) (ga gb gr gd : Nat) (va vb : Array Value) (u m s : Int) : Prop where
  a : Row wr ga 24 va
  b : Row wr gb 24 vb
  r : Row wr gr 27 #[.int .i64 0, .int .i64 0, .int .i64 0]
  d : Row wr gd 27 #[.int .i64 u, .int .i64 m, .int .i64 s]
  bel : Below w.heap.size w wr
  new : w.heap.size ≤ gd
  na : ga ≠ gd
  nb : gb ≠ gd
  nr : gr ≠ gd
theorem ApMem.drewN {w wr : World} {ga gb gr gd : Nat} {va vb : Array Value} {u m s : Int} (h : ApMem w wr ga gb gr gd va vb u m s) (n : Nat) : ApMem w (wr.drewN n) ga gb gr gd va vb u m s :=
  { h with a := h.a, b := h.b, r := h.r, d := h.d, bel := below_drewN h.bel n }
theorem ApMem.set0 {w wr : World} {ga gb gr gd : Nat} {va vb : Array Value} {u m s : Int} (h : ApMem w wr ga gb gr gd va vb u m s) (x : Int) : ApMem w (wr.setCell ⟨gd, 0, none⟩ (.int .i64 x)) ga gb gr gd va vb x m s :=
  { h with a := h.a.far h.na _, b := h.b.far h.nb _, r := h.r.far h.nr _, d := h.d.put 0 _, bel := h.bel.setCell h.new _ }
theorem ApMem.set1 {w wr : World} {ga gb gr gd : Nat} {va vb : Array Value} {u m s : Int} (h : ApMem w wr ga gb gr gd va vb u m s) (x : Int) : ApMem w (wr.setCell ⟨gd, 1, none⟩ (.int .i64 x)) ga gb gr gd va vb u x s :=
  { h with a := h.a.far h.na _, b := h.b.far h.nb _, r := h.r.far h.nr _, d := h.d.put 1 _, bel := h.bel.setCell h.new _ }
theorem ApMem.set2 {w wr : World} {ga gb gr gd : Nat} {va vb : Array Value} {u m s : Int} (h : ApMem w wr ga gb gr gd va vb u m s) (x : Int) : ApMem w (wr.setCell ⟨gd, 2, none⟩ (.int .i64 x)) ga gb gr gd va vb u m x :=
  { h with a := h.a.far h.na _, b := h.b.far h.nb _, r := h.r.far h.nr _, d := h.d.put 2 _, bel := h.bel.setCell h.new _ }
theorem dif_bd {k : Nat → Int} {l : Nat → Int} (hk : ∀ i, 0 ≤ k i ∧ k i < 256) (hl : ∀ i, 0 ≤ l i ∧ l i < 256) (i : Nat) : -255 ≤ k i - l i ∧ k i - l i ≤ 255 := by
  have := hk i
  have := hl i
  omega

set_option maxHeartbeats 1000000 in
theorem apart_any (Wa Ha Wb Hb : Int) (A B : Option Addr) (n m ca cb : Nat) (P Q : Nat → Int) (w : World) (hn : n ≤ maxLen) (hm : m ≤ maxLen) (hA : Nums .u8 w w.heap.size A n P) (hB : Nums .u8 w w.heap.size B m Q) (D : Nat → Int) (HD : Hid (∀ i, D i = P i - Q i)) :
    Calls Try.prog 11 #[.agg #[.int .i64 Wa, .int .i64 Ha, .slice A n ca], .agg #[.int .i64 Wb, .int .i64 Hb, .slice B m cb]] w fun e w' =>
      e = .returned (apartV (apartR Wa Ha n Wb Hb m D)) ∧ Below w.heap.size w w' := by
  by_cases h1 : mayP Wa Ha n = 0
  case neg =>
    have E : Hid (apartR Wa Ha n Wb Hb m D = (0, 0, 0, mayP Wa Ha n)) := hid (if_pos h1)
    have t1 : (mayP Wa Ha n != 0) = true := by simpa using h1
    clear h1
    go_enter Try.func11, Try.ntmps11
    go_wp2_with fail
    refine (may_any _ _ _ _ _ _ hn).mono ?_
    rintro e w1 ⟨rfl, hb1⟩
    have rR : Row w1 (w.heap.size + 1 + 1) 27 #[.int .i64 0, .int .i64 0, .int .i64 0] := by
      have := (Row.new ((w.alloc (.cells #[.int .i64 Wa, .int .i64 Ha, .slice A n ca] 24)).alloc (.cells #[.int .i64 Wb, .int .i64 Hb, .slice B m cb] 24)) 27 #[.int .i64 0, .int .i64 0, .int .i64 0]).below hb1 (by simp)
      simpa using this
    have hbel : Below w.heap.size w w1 := (bel_alloc (bel_alloc (bel_alloc (Below.refl _ _) _) _) _).trans (hb1.mono (by simp <;> omega))
    obtain ⟨r0, r1, r2, f0, f1, f2⟩ := rR.cells3
    go_wp2_with fail
    exact bodyPost_ret (v := .tuple #[.agg #[.int .i64 0, .int .i64 0, .int .i64 0], .int .i64 (mayP Wa Ha n)]) (by simp [results, Try.results11, go_sem, *]) rfl ⟨by rw [E.out]; rfl, by (repeat (refine Below.setCell ?_ (by simp <;> omega) _)); exact hbel⟩
  case pos =>
  by_cases h2 : mayP Wb Hb m = 0
  case neg =>
    have E : Hid (apartR Wa Ha n Wb Hb m D = (0, 0, 0, mayP Wb Hb m)) := hid (by unfold apartR; rw [if_neg (by omega), if_pos h2])
    have t1 : (mayP Wa Ha n != 0) = false := by simpa using h1
    have t2 : (mayP Wb Hb m != 0) = true := by simpa using h2
    clear h1 h2
    go_enter Try.func11, Try.ntmps11
    go_wp2_with fail
    refine (may_any _ _ _ _ _ _ hn).mono ?_
    rintro e w1 ⟨rfl, hb1⟩
    have rB : Row w1 (w.heap.size + 1) 24 #[.int .i64 Wb, .int .i64 Hb, .slice B m cb] := by
      have := ((Row.new (w.alloc (.cells #[.int .i64 Wa, .int .i64 Ha, .slice A n ca] 24)) 24 #[.int .i64 Wb, .int .i64 Hb, .slice B m cb]).alloc (.cells #[.int .i64 0, .int .i64 0, .int .i64 0] 27)).below hb1 (by simp <;> omega)
      simpa using this
    have rR : Row w1 (w.heap.size + 1 + 1) 27 #[.int .i64 0, .int .i64 0, .int .i64 0] := by
      have := (Row.new ((w.alloc (.cells #[.int .i64 Wa, .int .i64 Ha, .slice A n ca] 24)).alloc (.cells #[.int .i64 Wb, .int .i64 Hb, .slice B m cb] 24)) 27 #[.int .i64 0, .int .i64 0, .int .i64 0]).below hb1 (by simp)
      simpa using this
    have hbel : Below w.heap.size w w1 := (bel_alloc (bel_alloc (bel_alloc (Below.refl _ _) _) _) _).trans (hb1.mono (by simp <;> omega))
    obtain ⟨b0, b1, b2, _, _, _⟩ := rB.cells3
    go_wp2_with fail
    refine (may_any _ _ _ _ _ _ hm).mono ?_
    rintro e w2 ⟨rfl, hb2⟩
    have rR2 := rR.below hb2 rR.lt
    have hbel2 : Below w.heap.size w w2 := hbel.trans (hb2.mono hbel.size)
    obtain ⟨r0, r1, r2, f0, f1, f2⟩ := rR2.cells3
    go_wp2_with fail
    exact bodyPost_ret (v := .tuple #[.agg #[.int .i64 0, .int .i64 0, .int .i64 0], .int .i64 (mayP Wb Hb m)]) (by simp [results, Try.results11, go_sem, *]) rfl ⟨by rw [E.out]; rfl, by (repeat (refine Below.setCell ?_ (by simp <;> omega) _)); exact hbel2⟩
  case pos =>
  by_cases h3 : Wa = Wb ∧ Ha = Hb
  case neg =>
    have E : Hid (apartR Wa Ha n Wb Hb m D = (0, 0, 0, 5)) := hid (by unfold apartR; rw [if_neg (by omega), if_neg (by omega), if_pos (by omega)])
    have t1 : (mayP Wa Ha n != 0) = false := by simpa using h1
    have t2 : (mayP Wb Hb m != 0) = false := by simpa using h2
    clear h1 h2
    go_enter Try.func11, Try.ntmps11
    go_wp2_with fail
    refine (may_any _ _ _ _ _ _ hn).mono ?_
    rintro e w1 ⟨rfl, hb1⟩
    have rA : Row w1 w.heap.size 24 #[.int .i64 Wa, .int .i64 Ha, .slice A n ca] := by
      have := (((Row.new w 24 #[.int .i64 Wa, .int .i64 Ha, .slice A n ca]).alloc (.cells #[.int .i64 Wb, .int .i64 Hb, .slice B m cb] 24)).alloc (.cells #[.int .i64 0, .int .i64 0, .int .i64 0] 27)).below hb1 (by simp <;> omega)
      simpa using this
    have rB : Row w1 (w.heap.size + 1) 24 #[.int .i64 Wb, .int .i64 Hb, .slice B m cb] := by
      have := ((Row.new (w.alloc (.cells #[.int .i64 Wa, .int .i64 Ha, .slice A n ca] 24)) 24 #[.int .i64 Wb, .int .i64 Hb, .slice B m cb]).alloc (.cells #[.int .i64 0, .int .i64 0, .int .i64 0] 27)).below hb1 (by simp <;> omega)
      simpa using this
    have rR : Row w1 (w.heap.size + 1 + 1) 27 #[.int .i64 0, .int .i64 0, .int .i64 0] := by
      have := (Row.new ((w.alloc (.cells #[.int .i64 Wa, .int .i64 Ha, .slice A n ca] 24)).alloc (.cells #[.int .i64 Wb, .int .i64 Hb, .slice B m cb] 24)) 27 #[.int .i64 0, .int .i64 0, .int .i64 0]).below hb1 (by simp)
      simpa using this
    have hbel : Below w.heap.size w w1 := (bel_alloc (bel_alloc (bel_alloc (Below.refl _ _) _) _) _).trans (hb1.mono (by simp <;> omega))
    obtain ⟨b0, b1, b2, _, _, _⟩ := rB.cells3
    go_wp2_with fail
    refine (may_any _ _ _ _ _ _ hm).mono ?_
    rintro e w2 ⟨rfl, hb2⟩
    have rA2 := rA.below hb2 rA.lt
    have rB2 := rB.below hb2 rB.lt
    have rR2 := rR.below hb2 rR.lt
    have hbel2 : Below w.heap.size w w2 := hbel.trans (hb2.mono hbel.size)
    clear rA rB rR hb1 hb2
    obtain ⟨a0, a1, a2, _, _, _⟩ := rA2.cells3
    obtain ⟨b0, b1, b2, _, _, _⟩ := rB2.cells3
    obtain ⟨r0, r1, r2, f0, f1, f2⟩ := rR2.cells3
    by_cases hw : Wa = Wb
    · have hh : (Ha != Hb) = true := by simp; omega
      subst hw
      clear h3
      go_wp2_with fail
      exact bodyPost_ret (v := .tuple #[.agg #[.int .i64 0, .int .i64 0, .int .i64 0], .int .i64 (5)]) (by simp [results, Try.results11, go_sem, *]) rfl ⟨by rw [E.out]; rfl, by (repeat (refine Below.setCell ?_ (by simp <;> omega) _)); exact hbel2⟩
    · have hww : (Wa != Wb) = true := by simpa using hw
      clear h3 hw
      go_wp2_with fail
      exact bodyPost_ret (v := .tuple #[.agg #[.int .i64 0, .int .i64 0, .int .i64 0], .int .i64 (5)]) (by simp [results, Try.results11, go_sem, *]) rfl ⟨by rw [E.out]; rfl, by (repeat (refine Below.setCell ?_ (by simp <;> omega) _)); exact hbel2⟩
  case pos =>
    obtain ⟨rfl, rfl⟩ := h3
    obtain ⟨w0, h0, w1', h1', hsz⟩ := mayP_ok h1
    have hmn : m = n := by have := (mayP_ok h2).2.2.2.2; omega
    subst hmn
    obtain ⟨s1, s2, s3, s4⟩ := area_bd w0 w1' h0 h1'
    have hD : ∀ i, -255 ≤ D i ∧ D i ≤ 255 := fun i => by rw [HD.out i]; exact dif_bd hA.u8 hB.u8 i
    have HDb := hid hD
    clear hD
    obtain ⟨N, hN⟩ : ∃ N : Nat, Wa * Ha = N := Int.eq_ofNat_of_zero_le (by omega)
    have hm4 : m = 4 * N := by rw [Int.mul_assoc, hN] at hsz; omega
    have E : Hid (apartR Wa Ha m Wa Ha m D = (unlF D N, mostF D (4 * N), sqF D (4 * N), 0)) := hid (by
      unfold apartR; rw [if_neg (by omega), if_neg (by omega), if_neg (by omega), hN, ← hm4]; rfl)
    have t1 : (mayP Wa Ha m != 0) = false := by simpa using h1
    have hN' : N ≤ 4096 := by omega
    have hN1 : 1 ≤ N := by omega
    have hNm : 4 * N ≤ m ∧ m ≤ 4 * N := by omega
    obtain ⟨hNm1, hNm2⟩ := hNm
    clear h1 h2 hsz s1 s2 s3 s4 w0 h0 w1' h1' hN hm4
    obtain ⟨bA, oA, rfl, hbA, hcA⟩ := hA.rd (by omega)
    obtain ⟨bB, oB, rfl, hbB, hcB⟩ := hB.rd (by omega)
    go_enter Try.func11, Try.ntmps11
    go_wp2_with fail
    refine (may_any _ _ _ _ _ _ hn).mono ?_
    rintro e w1 ⟨rfl, hb1⟩
    have rA : Row w1 w.heap.size 24 #[.int .i64 Wa, .int .i64 Ha, .slice (some ⟨bA, oA, none⟩) m ca] := by
      have := (((Row.new w 24 #[.int .i64 Wa, .int .i64 Ha, .slice (some ⟨bA, oA, none⟩) m ca]).alloc (.cells #[.int .i64 Wa, .int .i64 Ha, .slice (some ⟨bB, oB, none⟩) m cb] 24)).alloc (.cells #[.int .i64 0, .int .i64 0, .int .i64 0] 27)).below hb1 (by simp <;> omega)
      simpa using this
    have rB : Row w1 (w.heap.size + 1) 24 #[.int .i64 Wa, .int .i64 Ha, .slice (some ⟨bB, oB, none⟩) m cb] := by
      have := ((Row.new (w.alloc (.cells #[.int .i64 Wa, .int .i64 Ha, .slice (some ⟨bA, oA, none⟩) m ca] 24)) 24 #[.int .i64 Wa, .int .i64 Ha, .slice (some ⟨bB, oB, none⟩) m cb]).alloc (.cells #[.int .i64 0, .int .i64 0, .int .i64 0] 27)).below hb1 (by simp <;> omega)
      simpa using this
    have rR : Row w1 (w.heap.size + 1 + 1) 27 #[.int .i64 0, .int .i64 0, .int .i64 0] := by
      have := (Row.new ((w.alloc (.cells #[.int .i64 Wa, .int .i64 Ha, .slice (some ⟨bA, oA, none⟩) m ca] 24)).alloc (.cells #[.int .i64 Wa, .int .i64 Ha, .slice (some ⟨bB, oB, none⟩) m cb] 24)) 27 #[.int .i64 0, .int .i64 0, .int .i64 0]).below hb1 (by simp)
      simpa using this
    have hbel : Below w.heap.size w w1 := (bel_alloc (bel_alloc (bel_alloc (Below.refl _ _) _) _) _).trans (hb1.mono (by simp <;> omega))
    obtain ⟨b0, b1, b2, _, _, _⟩ := rB.cells3
    go_wp2_with fail
    refine (may_any _ _ _ _ _ _ hm).mono ?_
    rintro e w2 ⟨rfl, hb2⟩
    have rA2 := rA.below hb2 rA.lt
    have rB2 := rB.below hb2 rB.lt
    have rR2 := rR.below hb2 rR.lt
    have hbel2 : Below w.heap.size w w2 := hbel.trans (hb2.mono hbel.size)
    have hga := rA2.lt
    have hgb := rB2.lt
    have hgr := rR2.lt
    have hgd := hbel2.size
    have M0 : ApMem w (w2.alloc (.cells #[.int .i64 0, .int .i64 0, .int .i64 0] 27)) w.heap.size (w.heap.size + 1) (w.heap.size + 1 + 1) w2.heap.size
        #[.int .i64 Wa, .int .i64 Ha, .slice (some ⟨bA, oA, none⟩) m ca] #[.int .i64 Wa, .int .i64 Ha, .slice (some ⟨bB, oB, none⟩) m cb] 0 0 0 :=
      ⟨rA2.alloc _, rB2.alloc _, rR2.alloc _, Row.new _ _ _, bel_alloc hbel2 _, hgd, by omega, by omega, by omega⟩
    clear hb1 hb2 hbel rA rB rR b0 b1 b2
    obtain ⟨a0, a1, a2, _, _, _⟩ := rA2.cells3
    obtain ⟨b0, b1, b2, _, _, _⟩ := rB2.cells3
    clear rA2 rB2 rR2 hbel2
    go_wp2_with fail
    have hle : w.heap.size ≤ w.heap.size + 1 + 1 := by omega
    generalize w2.heap.size = gd at *
    generalize hga' : w.heap.size = ga at *
    generalize ga + 1 + 1 = gr at *
    generalize ga + 1 = gb at *
    go_loopw [9] (fun iv wr => ∃ p I : Nat, p ≤ N ∧ I ≤ 4 * p ∧ 4 * p ≤ I ∧ iv = .int .i64 I ∧
        ApMem w wr ga gb gr gd #[.int .i64 Wa, .int .i64 Ha, .slice (some ⟨bA, oA, none⟩) m ca] #[.int .i64 Wa, .int .i64 Ha, .slice (some ⟨bB, oB, none⟩) m cb] (unlF D p) (mostF D I) (sqF D I)) (fun iv _ => 4 * N - (intOf iv).toNat)
    case atStart => exact ⟨0, 0, by omega, by omega, by omega, rfl, M0⟩
    case round =>
      obtain ⟨p, I, hp, hI1, hI2, rfl, M⟩ := hrel
      obtain ⟨x0, x1, x2, _, _, _⟩ := M.a.cells3
      obtain ⟨y0, y1, y2, _, _, _⟩ := M.b.cells3
      obtain ⟨d0, d1, d2, g0, g1, g2⟩ := M.d.cells3
      obtain ⟨z0, z1, z2, q0, q1, q2⟩ := M.r.cells3
      have ub := unlF_bd D p
      have HU : Hid (unlF D (p + 1) = unlF D p + if difF D (4 * p) 4 then 1 else 0) := hid rfl
      by_cases hlt : p < N
      · go_wp2_with fail
        obtain ⟨wo, rfl⟩ : ∃ wo : World, wo = wr := ⟨_, rfl⟩
        go_loopw [10, 11] (fun uv kv wr => ∃ c j : Nat, c ≤ 4 ∧ j ≤ I + c ∧ I + c ≤ j ∧ uv = .bool (difF D I c) ∧ kv = .int .i64 j ∧
            ApMem w wr ga gb gr gd #[.int .i64 Wa, .int .i64 Ha, .slice (some ⟨bA, oA, none⟩) m ca] #[.int .i64 Wa, .int .i64 Ha, .slice (some ⟨bB, oB, none⟩) m cb] (unlF D p) (mostF D j) (sqF D j)) (fun _ kv _ => I + 4 - (intOf kv).toNat)
        case atStart => exact ⟨0, I, by omega, by omega, by omega, rfl, rfl, M⟩
        case round =>
          obtain ⟨c, j, hc, hj1, hj2, rfl, rfl, M'⟩ := hrel
          clear x0 x1 x2 y0 y1 y2 d0 d1 d2 g0 g1 g2 z0 z1 z2 q0 q1 q2
          obtain ⟨x0, x1, x2, _, _, _⟩ := M'.a.cells3
          obtain ⟨y0, y1, y2, _, _, _⟩ := M'.b.cells3
          obtain ⟨d0, d1, d2, g0, g1, g2⟩ := M'.d.cells3
          by_cases hc4 : c < 4
          · have cA : wr.cell? ⟨bA, oA + j, none⟩ = some (.int .u8 (P j)) := (M'.bel.cell (by simpa [hga'] using hbA)).trans (hcA j (by omega))
            have cB : wr.cell? ⟨bB, oB + j, none⟩ = some (.int .u8 (Q j)) := (M'.bel.cell (by simpa [hga'] using hbB)).trans (hcB j (by omega))
            obtain ⟨pa0, pa1⟩ := hA.u8 j
            obtain ⟨pb0, pb1⟩ := hB.u8 j
            have mb := mostF_bd HDb.out j
            have sb := sqF_bd HDb.out j
            have HM := hid (mostF_max D HDb.out j)
            have HS : Hid (sqF D (j + 1) = sqF D j + D j * D j) := hid rfl
            have HF : Hid (difF D I (c + 1) = (difF D I c || (D j != 0))) := hid (by rw [difF, show I + c = j by omega])
            have HX := hid (HD.out j)
            have xb : Hid (-255 ≤ D j ∧ D j ≤ 255) := hid (HDb.out j)
            go_wp2_with fail
            go_quiet (fail)
            generalize hx : P j - Q j = x at *
            have xb' := xb.out
            rw [HX.out] at xb'
            obtain ⟨xb0, xb1⟩ := xb'
            have sx := sq_bd (x := x) ⟨xb0, xb1⟩
            clear hx cA cB pa0 pa1 pb0 pb1 x0 x1 x2 y0 y1 y2
            rcases Bool.eq_false_or_eq_true (difF D I c) with hu | hu
            · have HF' : Hid (difF D I (c + 1) = true) := hid (by rw [HF.out, hu]; rfl)
              rw [hu]
              clear hu
              go_wp2_with fail
              go_roundw
              case rel =>
                refine ⟨c + 1, j + 1, by omega, by omega, by omega, by rw [HF'.out], by go_num, ?_⟩
                rw [HS.out, HM.out, HX.out]
                exact ((M'.drewN nq).set1 _).set2 _
              case measure => simp [intOf]; omega
            · have hu' := hid hu
              rw [hu]
              by_cases h0 : x = 0
              · have HF' : Hid (difF D I (c + 1) = false) := hid (by rw [HF.out, hu'.out, HX.out, h0]; rfl)
                have ht : (x != 0) = false := by simp [h0]
                clear hu h0
                go_wp2_with fail
                go_roundw
                case rel =>
                  refine ⟨c + 1, j + 1, by omega, by omega, by omega, by rw [HF'.out], by go_num, ?_⟩
                  rw [HS.out, HM.out, HX.out]
                  exact ((M'.drewN nq).set1 _).set2 _
                case measure => simp [intOf]; omega
              · have HF' : Hid (difF D I (c + 1) = true) := hid (by rw [HF.out, hu'.out, HX.out]; simpa using h0)
                have ht : (x != 0) = true := by simpa using h0
                clear hu h0
                go_wp2_with fail
                go_roundw
                case rel =>
                  refine ⟨c + 1, j + 1, by omega, by omega, by omega, by rw [HF'.out], by go_num, ?_⟩
                  rw [HS.out, HM.out, HX.out]
                  exact ((M'.drewN nq).set1 _).set2 _
                case measure => simp [intOf]; omega
          · obtain rfl : c = 4 := by omega
            have HI : Hid (4 * p = I) := hid (by omega)
            have HJ : Hid (j = 4 * (p + 1)) := hid (by omega)
            rw [HI.out] at HU
            rcases Bool.eq_false_or_eq_true (difF D I 4) with hu | hu
            · have HU' : Hid (unlF D (p + 1) = unlF D p + 1) := hid (by rw [HU.out, hu]; rfl)
              rw [hu]
              clear hu HU
              go_wp2_with fail
              go_roundw
              case rel =>
                refine ⟨p + 1, I + 4, by omega, by omega, by omega, by go_num, ?_⟩
                have hfin := M'.set0 (unlF D (p + 1))
                rw [HU'.out] at hfin ⊢
                rw [show I + 4 = j by omega]
                exact hfin
              case measure => simp [intOf]; omega
            · have HU' : Hid (unlF D (p + 1) = unlF D p) := hid (by rw [HU.out, hu]; simp)
              rw [hu]
              clear hu HU
              go_wp2_with fail
              go_roundw
              case rel =>
                refine ⟨p + 1, I + 4, by omega, by omega, by omega, by go_num, ?_⟩
                rw [HU'.out, show I + 4 = j by omega]
                exact M'
              case measure => simp [intOf]; omega
      · obtain rfl : p = N := by omega
        have HI : Hid (I = 4 * p) := hid (by omega)
        go_wp2_with fail
        rw [← HI.out] at E
        exact bodyPost_ret (v := .tuple #[.agg #[.int .i64 (unlF D p), .int .i64 (mostF D I), .int .i64 (sqF D I)], .int .i64 0]) (by simp [results, Try.results11, go_sem, *]) rfl
          ⟨by rw [E.out]; rfl, by (repeat (refine Below.setCell ?_ (by simp <;> omega) _)); exact hga' ▸ M.bel⟩
end Go.Proofs.Ytlcdaoljfclliaa
