/- Pictures as arguments; the walks of skin.May and of the reference's PictureMay. -/
import Derived.Test.YtlcdaoljfclliaaProg
import Derived.Test.YtlcdaoljfclliaaMem
import Derived.Test.YtlcdaoljfclliaaPick
namespace Go.Proofs.Ytlcdaoljfclliaa
open Go.RowKit Go.ChangeShapes Go.WideShapes Go.Joins
set_option linter.unusedVariables false

theorem cells_pic : Try.prog.cellsOf 24 = 3 := by kernel_rfl
theorem cells_u8 : Try.prog.cellsOf 5 = 1 := by kernel_rfl
/-- A picture that came in. -/
def IsPic (w : World) (v : Value) : Prop :=
  ∃ W H A n cap P, v = .agg #[.int .i64 W, .int .i64 H, .slice A n cap] ∧ I64 W ∧ I64 H ∧ n ≤ cap ∧ cap ≤ maxLen ∧ Nums .u8 w w.heap.size A n P
theorem open_pic {H : Type} {enc : TypeId × Value → H} {W : World} {base b0 : Nat} {spare : Nat → Bool} {held : Bool} {v : Value} {d : DataW H} {p : List MemPlace} {r : Reach}
    (hv : Value.okWide Try.prog W r b0 24 v) (h : DataW.Trod enc Try.prog W base spare held 24 v d p) : IsPic W v := by
  obtain ⟨c0, c1, c2, y0, y1, y2, m, rfl, _, _, h0, h1, h2⟩ := open_agg3 Try.underlying24 (by kernel_rfl) cells_pic hv h
  obtain ⟨a, e0, _, wa⟩ := DataW.trod_int Try.underlying3 h0
  obtain ⟨b, e1, _, wb⟩ := DataW.trod_int Try.underlying3 h1
  simp at e0 e1
  subst e0 e1
  obtain ⟨A, n, cap, P, rfl, hl, hm, hn⟩ := Nums.of_ints Try.underlying22 Try.underlying5 cells_u8 h2 (by decide)
  exact ⟨a, b, A, n, cap, P, rfl, I64.of_wf wa, I64.of_wf wb, hl, hm, hn⟩

def badSides (W H : Int) : Prop := W < 1 ∨ H < 1 ∨ 64 < W ∨ 64 < H
instance (W H : Int) : Decidable (badSides W H) := by unfold badSides; infer_instance
def mayP (W H : Int) (n : Nat) : Int := if badSides W H then 4 else if (n : Int) = 4 * W * H then 0 else 5
theorem mayP_ok {W H : Int} {n : Nat} (h : mayP W H n = 0) : 1 ≤ W ∧ 1 ≤ H ∧ W ≤ 64 ∧ H ≤ 64 ∧ (n : Int) = 4 * W * H := by
  unfold mayP at h
  split at h
  · omega
  · rename_i hb
    unfold badSides at hb
    split at h
    · rename_i he; exact ⟨by omega, by omega, by omega, by omega, he⟩
    · omega
theorem mayP_cases (W H : Int) (n : Nat) : mayP W H n = 0 ∨ mayP W H n = 4 ∨ mayP W H n = 5 := by
  unfold mayP; split
  · omega
  · split <;> omega
theorem area_bd {W H : Int} (w0 : 1 ≤ W) (w1 : W ≤ 64) (h0 : 1 ≤ H) (h1 : H ≤ 64) : 4 ≤ 4 * W * H ∧ 4 * W * H ≤ 16384 ∧ 1 ≤ W * H ∧ W * H ≤ 4096 := by
  have a : 1 * 1 ≤ W * H := Int.mul_le_mul w0 h0 (by omega) (by omega)
  have b : W * H ≤ 64 * 64 := Int.mul_le_mul w1 h1 (by omega) (by omega)
  have c : 4 * W * H = 4 * (W * H) := Int.mul_assoc _ _ _
  omega
theorem side_cases (W H : Int) : W < 1 ∨ (¬ W < 1 ∧ H < 1) ∨ (1 ≤ W ∧ ¬ H < 1 ∧ 64 < W) ∨ (1 ≤ W ∧ 1 ≤ H ∧ W ≤ 64 ∧ 64 < H) ∨ (1 ≤ W ∧ 1 ≤ H ∧ W ≤ 64 ∧ H ≤ 64) := by omega

theorem may_any (W H : Int) (A : Option Addr) (n cap : Nat) (w : World) (hn : n ≤ maxLen) :
    Calls Try.prog 15 #[.agg #[.int .i64 W, .int .i64 H, .slice A n cap]] w fun e w' => e = .returned (.int .i64 (mayP W H n)) ∧ Below w.heap.size w w' := by
  unfold maxLen at hn
  rcases side_cases W H with h | h | h | h | h
  case inr.inr.inr.inr =>
    obtain ⟨h1, h2, h3, h4⟩ := h
    obtain ⟨a1, a2, a3, a4⟩ := area_bd h1 h3 h2 h4
    have hb : ¬ badSides W H := by unfold badSides; omega
    by_cases he : (n : Int) = 4 * W * H
    · have E : Hid (mayP W H n = 0) := hid (by unfold mayP; rw [if_neg hb, if_pos he])
      have ht : ((n : Int) != 4 * W * H) = false := by simpa using he
      clear hb he
      go_enter Try.func15, Try.ntmps15
      go_wp2_with fail
      go_ret
      exact ⟨ret_int E.out.symm, bel_alloc (Below.refl _ _) _⟩
    · have E : Hid (mayP W H n = 5) := hid (by unfold mayP; rw [if_neg hb, if_neg he])
      have ht : ((n : Int) != 4 * W * H) = true := by simpa using he
      clear hb he
      go_enter Try.func15, Try.ntmps15
      go_wp2_with fail
      go_ret
      exact ⟨ret_int E.out.symm, bel_alloc (Below.refl _ _) _⟩
  all_goals
    have E : Hid (mayP W H n = 4) := hid (by unfold mayP; rw [if_pos (by unfold badSides; omega)])
    go_enter Try.func15, Try.ntmps15
    go_wp2_with fail
    go_ret
    exact ⟨ret_int E.out.symm, bel_alloc (Below.refl _ _) _⟩

theorem may_ref (W H : Int) (A : Option Addr) (n cap : Nat) (w : World) (hn : n ≤ maxLen) :
    Calls Try.prog 16 #[.agg #[.int .i64 W, .int .i64 H, .slice A n cap]] w fun e w' => e = .returned (.int .i64 (mayP W H n)) ∧ Below w.heap.size w w' := by
  unfold maxLen at hn
  rcases side_cases W H with h | h | h | h | h
  case inr.inr.inr.inr =>
    obtain ⟨h1, h2, h3, h4⟩ := h
    obtain ⟨a1, a2, a3, a4⟩ := area_bd h1 h3 h2 h4
    have hb : ¬ badSides W H := by unfold badSides; omega
    by_cases he : (n : Int) = 4 * W * H
    · have E : Hid (mayP W H n = 0) := hid (by unfold mayP; rw [if_neg hb, if_pos he])
      have ht : ((n : Int) != 4 * W * H) = false := by simpa using he
      clear hb he
      go_enter Try.func16, Try.ntmps16
      go_wp2_with fail
      go_ret
      exact ⟨ret_int E.out.symm, bel_alloc (Below.refl _ _) _⟩
    · have E : Hid (mayP W H n = 5) := hid (by unfold mayP; rw [if_neg hb, if_neg he])
      have ht : ((n : Int) != 4 * W * H) = true := by simpa using he
      clear hb he
      go_enter Try.func16, Try.ntmps16
      go_wp2_with fail
      go_ret
      exact ⟨ret_int E.out.symm, bel_alloc (Below.refl _ _) _⟩
  all_goals
    have E : Hid (mayP W H n = 4) := hid (by unfold mayP; rw [if_pos (by unfold badSides; omega)])
    go_enter Try.func16, Try.ntmps16
    go_wp2_with fail
    go_ret
    exact ⟨ret_int E.out.symm, bel_alloc (Below.refl _ _) _⟩

theorem heavy_any (W H : Int) (A : Option Addr) (n cap : Nat) (w : World) (hn : n ≤ maxLen) :
    Calls Try.prog 10 #[.agg #[.int .i64 W, .int .i64 H, .slice A n cap]] w fun e w' => e = .returned (.bool (decide (1600 < n))) ∧ Below w.heap.size w w' := by
  unfold maxLen at hn
  go_enter Try.func10, Try.ntmps10
  go_wp2_with fail
  go_ret
  exact ⟨ret_bool (by rw [decide_eq_decide]; omega), bel_alloc (Below.refl _ _) _⟩
end Go.Proofs.Ytlcdaoljfclliaa
