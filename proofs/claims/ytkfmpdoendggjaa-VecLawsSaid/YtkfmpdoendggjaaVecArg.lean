/- Vectors (three floats) as arguments. -/
import Derived.Test.YtkfmpdoendggjaaProg
import Derived.Test.YtkfmpdoendggjaaBase
import Derived.ProofKit
import Derived.OpenShut
import Derived.Laws.Cover2
import Derived.Lib.SmallJoins
namespace Go.Proofs.Ytkfmpdoendggjaa
open Go.RowKit Go.ChangeShapes Go.WideShapes Go.Joins
set_option linter.unusedVariables false

theorem cells_vec : Try.prog.cellsOf 25 = 3 := by kernel_rfl
theorem trod_float {H : Type} {enc : TypeId × Value → H} {P : Program} {w : World} {base fuel : Nat} {spare : Nat → Bool} {held : Bool} {t : TypeId} {cs : List Value} {x : DataW H × List MemPlace} {k : FloatKind} (ht : P.underlying t = some (.float k)) (h : DataW.trod enc P w base spare held fuel t cs = some x) : ∃ n, cs = [.float k n] ∧ x = (.lit (.float k n), []) ∧ (Lit.float k n).wf = true := by
  cases fuel with
  | zero => simp [DataW.trod] at h
  | succ n =>
    unfold DataW.trod at h
    rw [ht] at h
    split at h <;> simp_all
/-- A vector that came in. -/
def IsVec (v : Value) : Prop := ∃ a b c, v = .agg #[.float .f64 a, .float .f64 b, .float .f64 c]
theorem open_vec {H : Type} {enc : TypeId × Value → H} {W : World} {base b0 : Nat} {spare : Nat → Bool} {held : Bool} {v : Value} {d : DataW H} {p : List MemPlace} {r : Reach}
    (hv : Value.okWide Try.prog W r b0 25 v) (h : DataW.Trod enc Try.prog W base spare held 25 v d p) : IsVec v := by
  obtain ⟨c0, c1, c2, y0, y1, y2, m, rfl, _, _, h0, h1, h2⟩ := open_agg3 Try.underlying25 (by kernel_rfl) cells_vec hv h
  obtain ⟨a, e0, _, wa⟩ := trod_float Try.underlying23 h0
  obtain ⟨b, e1, _, wb⟩ := trod_float Try.underlying23 h1
  obtain ⟨c, e2, _, wc⟩ := trod_float Try.underlying23 h2
  simp at e0 e1 e2
  subst e0 e1 e2
  exact ⟨a, b, c, rfl⟩
end Go.Proofs.Ytkfmpdoendggjaa
