/- Floats, not a number and all: every operation hands back some bits, which are told but for which not-a-number they are. -/
import Derived.Test.YtphdjmaebdmdmaaGreatDoorMem
import Derived.Laws.Cover2
import Derived.Laws.FloatArith
import Derived.Laws.Externs
namespace Go.Proofs.YtphdjmaebdmdmaaGreatDoor
open Go.RowKit
set_option linter.unusedSimpArgs false

/-- One not-a-number stands for all. -/
def nanC : Nat := 9221120237041090561
def isN (x : Nat) : Bool := (Ieee.double.read x).isNaN
def cn (x : Nat) : Nat := if isN x then nanC else x
theorem isN_nanC : isN nanC = true := by decide +kernel
theorem isN_cn (x : Nat) : isN (cn x) = isN x := by
  unfold cn; split
  · rename_i h; rw [h, isN_nanC]
  · rfl
theorem cn_cn (x : Nat) : cn (cn x) = cn x := by
  by_cases h : isN x = true
  · simp [cn, h, isN_nanC]
  · simp [cn, h]
theorem read_nan {x : Nat} (h : isN x = true) : ∃ s t, Ieee.double.read x = .nan s t := by
  unfold isN at h
  cases he : Ieee.double.read x with
  | nan s t => exact ⟨s, t, rfl⟩
  | number _ _ _ => rw [he] at h; cases h
  | infinity _ => rw [he] at h; cases h

/-- The bits that an operation gives; none: a not-a-number. -/
def fop (op : BinOp) (x y : Nat) : Option Nat := floatBits op .f64 x y
theorem fop_nan_left {op : BinOp} {x y : Nat} (h : isN x = true) : fop op x y = none := by
  obtain ⟨s, t, e⟩ := read_nan h
  unfold fop floatBits
  cases op <;> simp [FloatKind.format, Ieee.Format.add, Ieee.Format.sub, Ieee.Format.mul, Ieee.Format.div, e, Ieee.Datum.sum, Ieee.Datum.product, Ieee.Datum.quotient]
theorem fop_nan_right {op : BinOp} {x y : Nat} (h : isN y = true) : fop op x y = none := by
  obtain ⟨s, t, e⟩ := read_nan h
  unfold fop floatBits
  cases op <;> simp [FloatKind.format, Ieee.Format.add, Ieee.Format.sub, Ieee.Format.mul, Ieee.Format.div, e, Ieee.Datum.sum, Ieee.Datum.product, Ieee.Datum.quotient, Ieee.Datum.opposite] <;>
    (cases hx : Ieee.double.read x <;> simp [Ieee.Datum.sum, Ieee.Datum.product, Ieee.Datum.quotient])
theorem fop_cn (op : BinOp) (x y : Nat) : fop op (cn x) (cn y) = fop op x y := by
  by_cases hx : isN x = true
  · rw [fop_nan_left hx, fop_nan_left (by rw [isN_cn]; exact hx)]
  · by_cases hy : isN y = true
    · rw [fop_nan_right hy, fop_nan_right (by rw [isN_cn]; exact hy)]
    · unfold cn; rw [if_neg hx, if_neg hy]
/-- The operation on floats, up to which not-a-number. -/
def F (op : BinOp) (x y : Nat) : Nat := match fop op x y with | some r => cn r | none => nanC
theorem F_cn (op : BinOp) (x y : Nat) : F op (cn x) (cn y) = F op x y := by unfold F; rw [fop_cn]
theorem cn_F (op : BinOp) (x y : Nat) : cn (F op x y) = F op x y := by
  unfold F
  split
  · exact cn_cn _
  · unfold cn; rw [if_pos isN_nanC]

/-- What the model's run hands back, and how many answers of the tape it takes. -/
def fval (op : BinOp) (w : World) (x y : Nat) : Nat := match fop op x y with | some r => r | none => (Question.nanBits .f64 x y).cut (w.tape w.drawn (.nanBits .f64 x y))
def fdr (op : BinOp) (x y : Nat) : Nat := match fop op x y with | some _ => 0 | none => 1
theorem cut_nan (x y t : Nat) : isN ((Question.nanBits .f64 x y).cut t) = true := by
  show isN ((t % 2) * 2 ^ 63 + 0x7ff0000000000000 + 1 + (t / 2) % (2 ^ 52 - 1)) = true
  have h1 : t % 2 < 2 := Nat.mod_lt _ (by omega)
  have h2 : (t / 2) % (2 ^ 52 - 1) < 2 ^ 52 - 1 := Nat.mod_lt _ (by omega)
  generalize t % 2 = a at *
  generalize (t / 2) % (2 ^ 52 - 1) = b at *
  have hs : Ieee.double.signWeight = 9223372036854775808 := by decide +kernel
  have hi : Ieee.double.infRung = 9218868437227405312 := by decide +kernel
  have hb : Ieee.double.binade = 4503599627370496 := by decide +kernel
  have e : (a * 2 ^ 63 + 0x7ff0000000000000 + 1 + b) % 9223372036854775808 = 9218868437227405313 + b := by omega
  unfold isN Ieee.Format.read
  simp only [hs, hi, hb, e]
  rw [if_neg (by omega), if_neg (by omega), if_neg (by omega)]
  rfl
theorem cn_fval (op : BinOp) (w : World) (x y : Nat) : cn (fval op w x y) = F op x y := by
  unfold fval F
  cases h : fop op x y with
  | some r => rfl
  | none => simp only; unfold cn; rw [if_pos (cut_nan x y _)]

theorem cn_fval' (op : BinOp) (w : World) (x y : Nat) : cn (fval op w x y) = F op (cn x) (cn y) := by rw [cn_fval, F_cn]

section
variable {P : Program} (w : World)
theorem run_f (op : BinOp) (hop : op = .add ∨ op = .sub ∨ op = .mul ∨ op = .quo) (t : TypeId) (x y : Nat) :
    (binOp op t (.float .f64 x) (.float .f64 y)).run P w = .ok (.float .f64 (fval op w x y)) (w.drewN (fdr op x y)) := by
  unfold fval fdr fop
  cases h : floatBits op .f64 x y with
  | some r => rw [run_float_arith w op t .f64 x y r h]; rfl
  | none =>
    unfold floatBits at h
    rcases hop with rfl | rfl | rfl | rfl <;> simp only at h <;> simp [binOp, Op.floatArith, h, Question.forced] <;> rfl
theorem run_fadd (t : TypeId) (x y : Nat) : (binOp .add t (.float .f64 x) (.float .f64 y)).run P w = .ok (.float .f64 (fval .add w x y)) (w.drewN (fdr .add x y)) := run_f w .add (.inl rfl) t x y
theorem run_fsub (t : TypeId) (x y : Nat) : (binOp .sub t (.float .f64 x) (.float .f64 y)).run P w = .ok (.float .f64 (fval .sub w x y)) (w.drewN (fdr .sub x y)) := run_f w .sub (.inr (.inl rfl)) t x y
theorem run_fmul (t : TypeId) (x y : Nat) : (binOp .mul t (.float .f64 x) (.float .f64 y)).run P w = .ok (.float .f64 (fval .mul w x y)) (w.drewN (fdr .mul x y)) := run_f w .mul (.inr (.inr (.inl rfl))) t x y
theorem run_fquo (t : TypeId) (x y : Nat) : (binOp .quo t (.float .f64 x) (.float .f64 y)).run P w = .ok (.float .f64 (fval .quo w x y)) (w.drewN (fdr .quo x y)) := run_f w .quo (.inr (.inr (.inr rfl))) t x y
theorem run_stf (a : Addr) (m : Mode) (b : Nat) : (store a (.float .f64 b) m).run P w = stored P w a (.float .f64 b) m := run_store P w a _ m rfl
end
/-- The square root, likewise. -/
def sq (x : Nat) : Nat := match Ieee.double.sqrt x with | some r => cn r | none => nanC
def sval (w : World) (x : Nat) : Nat := match Ieee.double.sqrt x with | some r => r | none => (Question.nanBits .f64 x x).cut (w.tape w.drawn (.nanBits .f64 x x))
def sdr (x : Nat) : Nat := match Ieee.double.sqrt x with | some _ => 0 | none => 1
theorem sqrt_nan {x : Nat} (h : isN x = true) : Ieee.double.sqrt x = none := by
  obtain ⟨s, t, e⟩ := read_nan h
  simp [Ieee.Format.sqrt, e, Ieee.Datum.root]
theorem sqrt_cn (x : Nat) : Ieee.double.sqrt (cn x) = Ieee.double.sqrt x := by
  by_cases hx : isN x = true
  · rw [sqrt_nan hx, sqrt_nan (by rw [isN_cn]; exact hx)]
  · unfold cn; rw [if_neg hx]
theorem cn_sval (w : World) (x : Nat) : cn (sval w x) = sq (cn x) := by
  unfold sval sq
  rw [sqrt_cn]
  cases h : Ieee.double.sqrt x with
  | some r => rfl
  | none => simp only; unfold cn; rw [if_pos (cut_nan x x _)]
theorem run_sqrt {P : Program} (w : World) (x : Nat) : (Extern.MathSqrt.sqrt #[.float .f64 x]).run P w = .ok (.float .f64 (sval w x)) (w.drewN (sdr x)) := by
  have e : Extern.MathSqrt.sqrt #[.float .f64 x] = (match Ieee.double.sqrt x with | some r => pure (Value.float .f64 r) | none => (choose (.nanBits .f64 x x)).bind fun n => pure (Value.float .f64 n)) := rfl
  rw [e]
  unfold sval sdr
  cases h : Ieee.double.sqrt x with
  | some r => rfl
  | none => rfl
theorem ord_cn (x y : Nat) : Ieee.double.order (cn x) (cn y) = Ieee.double.order x y := by
  have L : ∀ a b, isN a = true → Ieee.double.order a b = none := fun a b h => by
    obtain ⟨s, t, e⟩ := read_nan h
    simp [Ieee.Format.order, e, Ieee.Datum.order]
  have R : ∀ a b, isN b = true → Ieee.double.order a b = none := fun a b h => by
    obtain ⟨s, t, e⟩ := read_nan h
    cases ha : Ieee.double.read a <;> simp [Ieee.Format.order, ha, e, Ieee.Datum.order]
  by_cases hx : isN x = true
  · rw [L x y hx, L _ _ (by rw [isN_cn]; exact hx)]
  · by_cases hy : isN y = true
    · rw [R x y hy, R _ _ (by rw [isN_cn]; exact hy)]
    · unfold cn; rw [if_neg hx, if_neg hy]

/-- The sign turned. -/
def fneg (x : Nat) : Nat := Op.negFloat .f64 x
theorem unary_fneg (x : Nat) : Op.unary .neg (.float .f64 x) = pure (.float .f64 (fneg x)) := rfl
theorem fneg_mod (x : Nat) : fneg x % 9223372036854775808 = x % 9223372036854775808 := by
  show (x ^^^ 2 ^ 63) % 2 ^ 63 = x % 2 ^ 63
  rw [Nat.xor_mod_two_pow, Nat.mod_self, Nat.xor_zero]
theorem isN_mod {x y : Nat} (h : x % 9223372036854775808 = y % 9223372036854775808) : isN x = isN y := by
  have hs : Ieee.double.signWeight = 9223372036854775808 := by decide +kernel
  unfold isN Ieee.Format.read
  simp only [hs, h]
  split
  · rfl
  · split
    · rfl
    · split <;> rfl
theorem isN_fneg (x : Nat) : isN (fneg x) = isN x := isN_mod (fneg_mod x)
def Fneg (x : Nat) : Nat := cn (fneg x)
theorem cn_fneg (x : Nat) : cn (fneg x) = Fneg (cn x) := by
  unfold Fneg
  by_cases h : isN x = true
  · unfold cn
    rw [if_pos (by rw [isN_fneg]; exact h), if_pos (by rw [isN_fneg, if_pos h]; exact isN_nanC)]
  · have e : cn x = x := by unfold cn; rw [if_neg h]
    rw [e]
end Go.Proofs.YtphdjmaebdmdmaaGreatDoor
