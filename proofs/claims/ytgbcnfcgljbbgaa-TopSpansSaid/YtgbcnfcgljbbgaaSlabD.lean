/- Meets. -/
import Derived.Test.YtgbcnfcgljbbgaaSlabC
namespace Go.Proofs.Ytgbcnfcgljbbgaa
open Go.RowKit Ev
set_option linter.unusedVariables false
set_option linter.unusedSimpArgs false
set_option maxRecDepth 20000
set_option maxHeartbeats 4000000

def cutA (lo fr d : Nat) : Nat := F .quo (F .sub lo fr) d
def cutN (n lo hi fr d : Nat) : Nat := bif feq d 0 then n else bif flt d 0 then moreV n (cutA hi fr d) else moreV n (cutA lo fr d)
def cutF (f lo hi fr d : Nat) : Nat := bif feq d 0 then f else bif flt d 0 then lessV f (cutA lo fr d) else lessV f (cutA hi fr d)
def cutO (o : Bool) (lo hi fr d : Nat) : Bool := bif feq d 0 then o && ((flt lo fr || feq lo fr) && (flt fr hi || feq fr hi)) else o
theorem cut_f : FnOk Try.prog 45 Try.f45 := ⟨Try.func45, by kernel_rfl⟩
theorem cut_a (n f : Nat) (o : Bool) (lo hi fr d : Nat) : MCalls Try.prog 45 ([.own 0 0, .flt lo, .flt hi, .flt fr, .flt d]) [.row [.flt n, .flt f, .bool o]] (.tup []) [.row [.flt (cutN n lo hi fr d), .flt (cutF f lo hi fr d), .bool (cutO o lo hi fr d)]] := by
  refine mcalls_of (inl := hasI (P := Try.prog) [] []) (base [] [] []) 0 cut_f (And.intro (by kernel_rfl) ?_)
  repeat' (first | refine And.intro ?_ ?_ | (with_reducible exact ff_elim) | (with_reducible exact tf_elim) | intro _ | (with_reducible rfl) | ((with_reducible refine lk_t ?_); exact rfl) | ((with_reducible refine pf_t ?_); exact rfl) | refine tell ?_ | exact True.intro | (refine IsT.of ?_; kernel_rfl))
  all_goals ((try refine Tell.mk ?_); first | with_reducible rfl | ((show (_ : Int) ≤ _); decide) | ((show (_ : Int) < _); decide) | (with_reducible refine gb_t ?_; with_reducible assumption) | with_reducible assumption | (with_reducible refine gb_f ?_; with_reducible assumption) | (simp only [cutN, cutF, cutO, cutA, moreV, lessV, *, cond_true, cond_false]; done) | ((with_reducible refine ks_t ?_); rfl) | ((with_reducible refine pk_t ?_); rfl) | ((with_reducible refine pf_t ?_); rfl) | ((with_reducible refine lk_t ?_); rfl) | ((with_reducible refine okF_t ?_); kernel_rfl) | grind [gb, cutN, cutF, cutO, cutA, moreV, lessV])
def cut_m : MCon Try.prog := ⟨45, fun args own => match args with | [.own k_ 0, .flt lo, .flt hi, .flt fr, .flt d] => (match own k_ with | .row [.flt n, .flt f, .bool o] => .ok [k_] ([.own 0 0, .flt lo, .flt hi, .flt fr, .flt d]) [.row [.flt n, .flt f, .bool o]] none (.tup []) [.row [.flt (cutN n lo hi fr d), .flt (cutF f lo hi fr d), .bool (cutO o lo hi fr d)]] | _ => .no) | _ => .no, by
  intro args own ks cargs rows p r rows2 h hp
  split at h
  · split at h
    · cases h; exact cut_a _ _ _ _ _ _ _
    · cases h
  · cases h⟩
end Go.Proofs.Ytgbcnfcgljbbgaa
