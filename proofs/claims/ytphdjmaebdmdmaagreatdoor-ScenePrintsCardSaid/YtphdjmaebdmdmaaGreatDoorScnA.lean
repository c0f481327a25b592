/- The abstract machine: functions that write, and hand back what is new, as what reads alone. -/
import Derived.Test.YtphdjmaebdmdmaaGreatDoorEvLoop
import Derived.Test.YtphdjmaebdmdmaaGreatDoorTab
import Derived.Test.YtphdjmaebdmdmaaGreatDoorEvOps
import Derived.Test.YtphdjmaebdmdmaaGreatDoorEvNum
namespace Go.Proofs.YtphdjmaebdmdmaaGreatDoor
open Go.RowKit
set_option linter.unusedVariables false
set_option linter.unusedSimpArgs false
namespace Ev

def outP (n : Nat) (r : AV) (rows' : List OB) : AV → (Nat → OB) → Nat → Prop := fun v own _ => match pubT own v with
  | .no => False
  | .ok u ks p => preE p (IsT (ks.all fun k => Nat.ble n k) ∧ IsT (Nat.ble rows'.length n) ∧ agrRows (pinK n) own rows' 0 ∧ force u fun u => agr (fun _ => none) r u)
section
variable {P : Program} {w0 : St0}
theorem pubT_live {w σ Im own} (hS : Sat w0 w σ Im own) {v u : AV} {V : Value} {ks : List Nat} {p : Option Prop} (h : pubT own v = .ok u ks p) (hp : p.getD True) (hv : Rd w σ Im v V) : ∀ k ∈ ks, (own k).live := by
  unfold pubT at h
  split at h
  · split at h
    · cases h
    rename_i e
    cases h
    obtain ⟨cs, rfl, h1, h3⟩ := hv.inv_tup
    exact (pubL_sound hS cs.toList e hp (two_array h1 h3)).2
  · exact (pub1_sound hS h hp hv).2
theorem agrRows_same {f : Nat → Option Nat} {own own' : Nat → OB} : ∀ (l : List OB) (n : Nat), (∀ k, n ≤ k → k < n + l.length → own' k = own k) → agrRows f own l n → agrRows f own' l n
  | [], _, _, _ => True.intro
  | b :: r, n, h, ⟨h1, h2⟩ => by
    refine ⟨?_, agrRows_same r (n + 1) (fun k hk hk' => h k (by omega) (by simp; omega)) h2⟩
    rw [h n (Nat.le_refl _) (by simp)]; exact h1
theorem mcallsP_of {cx : Cx} {con : Nat → List AV → CR} {inl : Nat → Bool} {fns : Nat → Option Func} {mc : Nat → List AV → (Nat → OB) → MR} (hB : Base P cx con fns mc) (n : Nat) {f : Nat} {fn : Func} (hf : FnOk P f fn) {args : List AV} {rows : List OB} {r : AV} {rows' : List OB}
    (h : runA rows.length cx con inl (calT cx con inl fns mc n) fn args (outP rows.length r rows') (rowsO rows) rows.length) : MCalls P f args rows r rows' := by
  intro w0 w σ Im vals hS hn ht
  refine (run_sound hB.cx hB.con (calT_ok (w0 := w0) hB.cx hB.con hB.mix hB.fns hB.mc n) hB.mix hf h hS hn (fun k hk => by rw [rowsO_ge rows k hk]; exact fun e => e) ht).mono fun v w' ⟨σ', Im', u, own', nk', hk, hr, hS', hn', hd, hg⟩ => ?_
  unfold outP at hk
  split at hk
  · exact hk.elim
  · rename_i u' ks p e
    obtain ⟨hp, h1, h2, h3, hk⟩ := preE_iff hk
    rw [force_eq] at hk
    have hlive := pubT_live hS' e hp hr
    have hR := agr_rd hk (pubT_sound hS' e hp hr)
    have hsh := shuts hS' ks hlive Im' own' hS' (fun _ _ => rfl) hS'.im (fun k a b => absurd a b)
    have hge : ∀ k, k < rows.length → applyW own' (ks.map fun k => (k, OB.gone)) k = own' k := fun k hk => by
      refine applyW_other _ _ _ fun hm => ?_
      simp only [keys, List.map_map, List.mem_map, Function.comp] at hm
      obtain ⟨i, hi, rfl⟩ := hm
      have := Nat.le_of_ble_eq_true (List.all_eq_true.1 h1.eq i hi)
      omega
    have hle := Nat.le_of_ble_eq_true h2.eq
    refine ⟨fun k => (pinK rows.length k).bind σ', _, ?_, hsh.pin hle (agrRows_same rows' 0 (fun k _ hk' => hge k (by omega)) h3), fun k hk _ => ?_, ⟨fun b hb => .inl (hg.im b hb), hg.blk, fun k b hk e => ?_, hg.len⟩⟩
    · exact hR.up
    · cases hp : pinK rows.length k with
      | none => simp only [hp, Option.bind_none]
      | some k' => have := (pinK_some hp).2; omega
    · simp only [pinK_lt hk, Option.bind_some]
      exact hg.sg k b hk e
end
end Ev
end Go.Proofs.YtphdjmaebdmdmaaGreatDoor
/- Small functions, by the abstract machine. -/
namespace Go.Proofs.YtphdjmaebdmdmaaGreatDoor
open Go.RowKit Ev
set_option linter.unusedVariables false
set_option linter.unusedSimpArgs false
set_option maxRecDepth 20000

theorem base (l : List (Con Tryz.prog)) (m : List (Inl Tryz.prog)) (k : List (MCon Tryz.prog)) : Base Tryz.prog Tab.cx (conW l k) (inlL m) (mcL k) := ⟨Tab.cx_ok, conW_ok l k, by kernel_rfl, inlL_ok m, mcL_ok k⟩
/-- Near: V1. -/
def nearB (x : Nat) : Bool := (fgt x 13920209183539462144 || feq x 13920209183539462144) && (flt x 4696837146684686336 || feq x 4696837146684686336)
def cleanV (x : Nat) : Nat := bif fgt x 13740701229962882445 && flt x 4517329193108106637 then 0 else x
def fineB (a b c : Nat) : Bool := nearB a && nearB b && nearB c
def lessV (a b : Nat) : Nat := bif flt b a then b else a
def moreV (a b : Nat) : Nat := bif fgt b a then b else a
def axV (a b c : Nat) (k : Int) : Nat := bif k == 0 then a else bif k == 1 then b else c
theorem near_f : FnOk Tryz.prog 54 Tryz.f54 := ⟨Tryz.func54, by kernel_rfl⟩
theorem near_a (x : Nat) : ACalls Tryz.prog 54 [.flt x] (.bool (nearB x)) := by
  refine acalls_of (inl := hasI (P := Tryz.prog) [] []) (base [] [] []) 0 near_f (And.intro (by kernel_rfl) ?_)
  repeat' (first | refine And.intro ?_ ?_ | (with_reducible exact ff_elim) | (with_reducible exact tf_elim) | intro _ | (with_reducible rfl) | ((with_reducible refine lk_t ?_); exact rfl) | ((with_reducible refine pf_t ?_); exact rfl) | refine tell ?_ | exact True.intro | (refine IsT.of ?_; kernel_rfl))
  all_goals ((try refine Tell.mk ?_); first | with_reducible rfl | ((show (_ : Int) ≤ _); decide) | ((show (_ : Int) < _); decide) | (with_reducible refine gb_t ?_; with_reducible assumption) | with_reducible assumption | (with_reducible refine gb_f ?_; with_reducible assumption) | (simp only [nearB, *, cond_true, cond_false]; done) | ((with_reducible refine ks_t ?_); rfl) | ((with_reducible refine pk_t ?_); rfl) | ((with_reducible refine pf_t ?_); rfl) | ((with_reducible refine lk_t ?_); rfl) | ((with_reducible refine okF_t ?_); kernel_rfl) | grind [gb, nearB])
def near_k : Con Tryz.prog := ⟨54, fun args => match args with | [.flt x] => .ok (none) (.bool (nearB x)) | _ => .no, by
  intro args p r h hp
  split at h
  · cases h; exact near_a _
  · cases h⟩
theorem nearR_f : FnOk Tryz.prog 59 Tryz.f59 := ⟨Tryz.func59, by kernel_rfl⟩
theorem nearR_a (x : Nat) : ACalls Tryz.prog 59 [.flt x] (.bool (nearB x)) := by
  refine acalls_of (inl := hasI (P := Tryz.prog) [] []) (base [] [] []) 0 nearR_f (And.intro (by kernel_rfl) ?_)
  repeat' (first | refine And.intro ?_ ?_ | (with_reducible exact ff_elim) | (with_reducible exact tf_elim) | intro _ | (with_reducible rfl) | ((with_reducible refine lk_t ?_); exact rfl) | ((with_reducible refine pf_t ?_); exact rfl) | refine tell ?_ | exact True.intro | (refine IsT.of ?_; kernel_rfl))
  all_goals ((try refine Tell.mk ?_); first | with_reducible rfl | ((show (_ : Int) ≤ _); decide) | ((show (_ : Int) < _); decide) | (with_reducible refine gb_t ?_; with_reducible assumption) | with_reducible assumption | (with_reducible refine gb_f ?_; with_reducible assumption) | (simp only [nearB, *, cond_true, cond_false]; done) | ((with_reducible refine ks_t ?_); rfl) | ((with_reducible refine pk_t ?_); rfl) | ((with_reducible refine pf_t ?_); rfl) | ((with_reducible refine lk_t ?_); rfl) | ((with_reducible refine okF_t ?_); kernel_rfl) | grind [gb, nearB])
def nearR_k : Con Tryz.prog := ⟨59, fun args => match args with | [.flt x] => .ok (none) (.bool (nearB x)) | _ => .no, by
  intro args p r h hp
  split at h
  · cases h; exact nearR_a _
  · cases h⟩
theorem fine_f : FnOk Tryz.prog 47 Tryz.f47 := ⟨Tryz.func47, by kernel_rfl⟩
theorem fine_a (a b c : Nat) : ACalls Tryz.prog 47 [.agg [.flt a, .flt b, .flt c]] (.bool (fineB a b c)) := by
  refine acalls_of (inl := hasI (P := Tryz.prog) [] []) (base [near_k] [] []) 0 fine_f (And.intro (by kernel_rfl) ?_)
  repeat' (first | refine And.intro ?_ ?_ | (with_reducible exact ff_elim) | (with_reducible exact tf_elim) | intro _ | (with_reducible rfl) | ((with_reducible refine lk_t ?_); exact rfl) | ((with_reducible refine pf_t ?_); exact rfl) | refine tell ?_ | exact True.intro | (refine IsT.of ?_; kernel_rfl))
  all_goals ((try refine Tell.mk ?_); first | with_reducible rfl | ((show (_ : Int) ≤ _); decide) | ((show (_ : Int) < _); decide) | (with_reducible refine gb_t ?_; with_reducible assumption) | with_reducible assumption | (with_reducible refine gb_f ?_; with_reducible assumption) | (simp only [fineB, *, cond_true, cond_false]; done) | ((with_reducible refine ks_t ?_); rfl) | ((with_reducible refine pk_t ?_); rfl) | ((with_reducible refine pf_t ?_); rfl) | ((with_reducible refine lk_t ?_); rfl) | ((with_reducible refine okF_t ?_); kernel_rfl) | grind [gb, fineB])
def fine_k : Con Tryz.prog := ⟨47, fun args => match args with | [.agg [.flt a, .flt b, .flt c]] => .ok (none) (.bool (fineB a b c)) | _ => .no, by
  intro args p r h hp
  split at h
  · cases h; exact fine_a _ _ _
  · cases h⟩
theorem fineR_f : FnOk Tryz.prog 52 Tryz.f52 := ⟨Tryz.func52, by kernel_rfl⟩
theorem fineR_a (a b c : Nat) : ACalls Tryz.prog 52 [.agg [.flt a, .flt b, .flt c]] (.bool (fineB a b c)) := by
  refine acalls_of (inl := hasI (P := Tryz.prog) [] []) (base [nearR_k] [] []) 0 fineR_f (And.intro (by kernel_rfl) ?_)
  repeat' (first | refine And.intro ?_ ?_ | (with_reducible exact ff_elim) | (with_reducible exact tf_elim) | intro _ | (with_reducible rfl) | ((with_reducible refine lk_t ?_); exact rfl) | ((with_reducible refine pf_t ?_); exact rfl) | refine tell ?_ | exact True.intro | (refine IsT.of ?_; kernel_rfl))
  all_goals ((try refine Tell.mk ?_); first | with_reducible rfl | ((show (_ : Int) ≤ _); decide) | ((show (_ : Int) < _); decide) | (with_reducible refine gb_t ?_; with_reducible assumption) | with_reducible assumption | (with_reducible refine gb_f ?_; with_reducible assumption) | (simp only [fineB, *, cond_true, cond_false]; done) | ((with_reducible refine ks_t ?_); rfl) | ((with_reducible refine pk_t ?_); rfl) | ((with_reducible refine pf_t ?_); rfl) | ((with_reducible refine lk_t ?_); rfl) | ((with_reducible refine okF_t ?_); kernel_rfl) | grind [gb, fineB])
def fineR_k : Con Tryz.prog := ⟨52, fun args => match args with | [.agg [.flt a, .flt b, .flt c]] => .ok (none) (.bool (fineB a b c)) | _ => .no, by
  intro args p r h hp
  split at h
  · cases h; exact fineR_a _ _ _
  · cases h⟩
theorem lesser_f : FnOk Tryz.prog 218 Tryz.f218 := ⟨Tryz.func218, by kernel_rfl⟩
theorem lesser_a (a b : Nat) : ACalls Tryz.prog 218 [.flt a, .flt b] (.flt (lessV a b)) := by
  refine acalls_of (inl := hasI (P := Tryz.prog) [] []) (base [] [] []) 0 lesser_f (And.intro (by kernel_rfl) ?_)
  repeat' (first | refine And.intro ?_ ?_ | (with_reducible exact ff_elim) | (with_reducible exact tf_elim) | intro _ | (with_reducible rfl) | ((with_reducible refine lk_t ?_); exact rfl) | ((with_reducible refine pf_t ?_); exact rfl) | refine tell ?_ | exact True.intro | (refine IsT.of ?_; kernel_rfl))
  all_goals ((try refine Tell.mk ?_); first | with_reducible rfl | ((show (_ : Int) ≤ _); decide) | ((show (_ : Int) < _); decide) | (with_reducible refine gb_t ?_; with_reducible assumption) | with_reducible assumption | (with_reducible refine gb_f ?_; with_reducible assumption) | (simp only [lessV, *, cond_true, cond_false]; done) | ((with_reducible refine ks_t ?_); rfl) | ((with_reducible refine pk_t ?_); rfl) | ((with_reducible refine pf_t ?_); rfl) | ((with_reducible refine lk_t ?_); rfl) | ((with_reducible refine okF_t ?_); kernel_rfl) | grind [gb, lessV])
def lesser_k : Con Tryz.prog := ⟨218, fun args => match args with | [.flt a, .flt b] => .ok (none) (.flt (lessV a b)) | _ => .no, by
  intro args p r h hp
  split at h
  · cases h; exact lesser_a _ _
  · cases h⟩
theorem less_f : FnOk Tryz.prog 190 Tryz.f190 := ⟨Tryz.func190, by kernel_rfl⟩
theorem less_a (a b : Nat) : ACalls Tryz.prog 190 [.flt a, .flt b] (.flt (lessV a b)) := by
  refine acalls_of (inl := hasI (P := Tryz.prog) [] []) (base [] [] []) 0 less_f (And.intro (by kernel_rfl) ?_)
  repeat' (first | refine And.intro ?_ ?_ | (with_reducible exact ff_elim) | (with_reducible exact tf_elim) | intro _ | (with_reducible rfl) | ((with_reducible refine lk_t ?_); exact rfl) | ((with_reducible refine pf_t ?_); exact rfl) | refine tell ?_ | exact True.intro | (refine IsT.of ?_; kernel_rfl))
  all_goals ((try refine Tell.mk ?_); first | with_reducible rfl | ((show (_ : Int) ≤ _); decide) | ((show (_ : Int) < _); decide) | (with_reducible refine gb_t ?_; with_reducible assumption) | with_reducible assumption | (with_reducible refine gb_f ?_; with_reducible assumption) | (simp only [lessV, *, cond_true, cond_false]; done) | ((with_reducible refine ks_t ?_); rfl) | ((with_reducible refine pk_t ?_); rfl) | ((with_reducible refine pf_t ?_); rfl) | ((with_reducible refine lk_t ?_); rfl) | ((with_reducible refine okF_t ?_); kernel_rfl) | grind [gb, lessV])
def less_k : Con Tryz.prog := ⟨190, fun args => match args with | [.flt a, .flt b] => .ok (none) (.flt (lessV a b)) | _ => .no, by
  intro args p r h hp
  split at h
  · cases h; exact less_a _ _
  · cases h⟩
theorem greater_f : FnOk Tryz.prog 219 Tryz.f219 := ⟨Tryz.func219, by kernel_rfl⟩
theorem greater_a (a b : Nat) : ACalls Tryz.prog 219 [.flt a, .flt b] (.flt (moreV a b)) := by
  refine acalls_of (inl := hasI (P := Tryz.prog) [] []) (base [] [] []) 0 greater_f (And.intro (by kernel_rfl) ?_)
  repeat' (first | refine And.intro ?_ ?_ | (with_reducible exact ff_elim) | (with_reducible exact tf_elim) | intro _ | (with_reducible rfl) | ((with_reducible refine lk_t ?_); exact rfl) | ((with_reducible refine pf_t ?_); exact rfl) | refine tell ?_ | exact True.intro | (refine IsT.of ?_; kernel_rfl))
  all_goals ((try refine Tell.mk ?_); first | with_reducible rfl | ((show (_ : Int) ≤ _); decide) | ((show (_ : Int) < _); decide) | (with_reducible refine gb_t ?_; with_reducible assumption) | with_reducible assumption | (with_reducible refine gb_f ?_; with_reducible assumption) | (simp only [moreV, *, cond_true, cond_false]; done) | ((with_reducible refine ks_t ?_); rfl) | ((with_reducible refine pk_t ?_); rfl) | ((with_reducible refine pf_t ?_); rfl) | ((with_reducible refine lk_t ?_); rfl) | ((with_reducible refine okF_t ?_); kernel_rfl) | grind [gb, moreV])
def greater_k : Con Tryz.prog := ⟨219, fun args => match args with | [.flt a, .flt b] => .ok (none) (.flt (moreV a b)) | _ => .no, by
  intro args p r h hp
  split at h
  · cases h; exact greater_a _ _
  · cases h⟩
theorem more_f : FnOk Tryz.prog 191 Tryz.f191 := ⟨Tryz.func191, by kernel_rfl⟩
theorem more_a (a b : Nat) : ACalls Tryz.prog 191 [.flt a, .flt b] (.flt (moreV a b)) := by
  refine acalls_of (inl := hasI (P := Tryz.prog) [] []) (base [] [] []) 0 more_f (And.intro (by kernel_rfl) ?_)
  repeat' (first | refine And.intro ?_ ?_ | (with_reducible exact ff_elim) | (with_reducible exact tf_elim) | intro _ | (with_reducible rfl) | ((with_reducible refine lk_t ?_); exact rfl) | ((with_reducible refine pf_t ?_); exact rfl) | refine tell ?_ | exact True.intro | (refine IsT.of ?_; kernel_rfl))
  all_goals ((try refine Tell.mk ?_); first | with_reducible rfl | ((show (_ : Int) ≤ _); decide) | ((show (_ : Int) < _); decide) | (with_reducible refine gb_t ?_; with_reducible assumption) | with_reducible assumption | (with_reducible refine gb_f ?_; with_reducible assumption) | (simp only [moreV, *, cond_true, cond_false]; done) | ((with_reducible refine ks_t ?_); rfl) | ((with_reducible refine pk_t ?_); rfl) | ((with_reducible refine pf_t ?_); rfl) | ((with_reducible refine lk_t ?_); rfl) | ((with_reducible refine okF_t ?_); kernel_rfl) | grind [gb, moreV])
def more_k : Con Tryz.prog := ⟨191, fun args => match args with | [.flt a, .flt b] => .ok (none) (.flt (moreV a b)) | _ => .no, by
  intro args p r h hp
  split at h
  · cases h; exact more_a _ _
  · cases h⟩
theorem axis_f : FnOk Tryz.prog 141 Tryz.f141 := ⟨Tryz.func141, by kernel_rfl⟩
theorem axis_a (a b c : Nat) (k : Int) : ACalls Tryz.prog 141 [.agg [.flt a, .flt b, .flt c], .int .i64 k] (.flt (axV a b c k)) := by
  refine acalls_of (inl := hasI (P := Tryz.prog) [] []) (base [] [] []) 0 axis_f (And.intro (by kernel_rfl) ?_)
  repeat' (first | refine And.intro ?_ ?_ | (with_reducible exact ff_elim) | (with_reducible exact tf_elim) | intro _ | (with_reducible rfl) | ((with_reducible refine lk_t ?_); exact rfl) | ((with_reducible refine pf_t ?_); exact rfl) | refine tell ?_ | exact True.intro | (refine IsT.of ?_; kernel_rfl))
  all_goals ((try refine Tell.mk ?_); first | with_reducible rfl | ((show (_ : Int) ≤ _); decide) | ((show (_ : Int) < _); decide) | (with_reducible refine gb_t ?_; with_reducible assumption) | with_reducible assumption | (with_reducible refine gb_f ?_; with_reducible assumption) | (simp only [axV, *, cond_true, cond_false]; done) | ((with_reducible refine ks_t ?_); rfl) | ((with_reducible refine pk_t ?_); rfl) | ((with_reducible refine pf_t ?_); rfl) | ((with_reducible refine lk_t ?_); rfl) | ((with_reducible refine okF_t ?_); kernel_rfl) | grind [gb, axV])
def axis_k : Con Tryz.prog := ⟨141, fun args => match args with | [.agg [.flt a, .flt b, .flt c], .int .i64 k] => .ok (none) (.flt (axV a b c k)) | _ => .no, by
  intro args p r h hp
  split at h
  · cases h; exact axis_a _ _ _ _
  · cases h⟩
theorem low_f : FnOk Tryz.prog 187 Tryz.f187 := ⟨Tryz.func187, by kernel_rfl⟩
theorem low_a (a b c d e f : Nat) : ACalls Tryz.prog 187 [.agg [.flt a, .flt b, .flt c], .agg [.flt d, .flt e, .flt f]] (.agg [.flt (lessV a d), .flt (lessV b e), .flt (lessV c f)]) := by
  refine acalls_of (inl := hasI (P := Tryz.prog) [] []) (base [lesser_k] [] []) 0 low_f (And.intro (by kernel_rfl) ?_)
  repeat' (first | refine And.intro ?_ ?_ | (with_reducible exact ff_elim) | (with_reducible exact tf_elim) | intro _ | (with_reducible rfl) | ((with_reducible refine lk_t ?_); exact rfl) | ((with_reducible refine pf_t ?_); exact rfl) | refine tell ?_ | exact True.intro | (refine IsT.of ?_; kernel_rfl))
  all_goals ((try refine Tell.mk ?_); first | with_reducible rfl | ((show (_ : Int) ≤ _); decide) | ((show (_ : Int) < _); decide) | (with_reducible refine gb_t ?_; with_reducible assumption) | with_reducible assumption | (with_reducible refine gb_f ?_; with_reducible assumption) | (simp only [gb, *, cond_true, cond_false]; done) | ((with_reducible refine ks_t ?_); rfl) | ((with_reducible refine pk_t ?_); rfl) | ((with_reducible refine pf_t ?_); rfl) | ((with_reducible refine lk_t ?_); rfl) | ((with_reducible refine okF_t ?_); kernel_rfl) | grind [gb])
def low_k : Con Tryz.prog := ⟨187, fun args => match args with | [.agg [.flt a, .flt b, .flt c], .agg [.flt d, .flt e, .flt f]] => .ok (none) (.agg [.flt (lessV a d), .flt (lessV b e), .flt (lessV c f)]) | _ => .no, by
  intro args p r h hp
  split at h
  · cases h; exact low_a _ _ _ _ _ _
  · cases h⟩
theorem high_f : FnOk Tryz.prog 188 Tryz.f188 := ⟨Tryz.func188, by kernel_rfl⟩
theorem high_a (a b c d e f : Nat) : ACalls Tryz.prog 188 [.agg [.flt a, .flt b, .flt c], .agg [.flt d, .flt e, .flt f]] (.agg [.flt (moreV a d), .flt (moreV b e), .flt (moreV c f)]) := by
  refine acalls_of (inl := hasI (P := Tryz.prog) [] []) (base [greater_k] [] []) 0 high_f (And.intro (by kernel_rfl) ?_)
  repeat' (first | refine And.intro ?_ ?_ | (with_reducible exact ff_elim) | (with_reducible exact tf_elim) | intro _ | (with_reducible rfl) | ((with_reducible refine lk_t ?_); exact rfl) | ((with_reducible refine pf_t ?_); exact rfl) | refine tell ?_ | exact True.intro | (refine IsT.of ?_; kernel_rfl))
  all_goals ((try refine Tell.mk ?_); first | with_reducible rfl | ((show (_ : Int) ≤ _); decide) | ((show (_ : Int) < _); decide) | (with_reducible refine gb_t ?_; with_reducible assumption) | with_reducible assumption | (with_reducible refine gb_f ?_; with_reducible assumption) | (simp only [gb, *, cond_true, cond_false]; done) | ((with_reducible refine ks_t ?_); rfl) | ((with_reducible refine pk_t ?_); rfl) | ((with_reducible refine pf_t ?_); rfl) | ((with_reducible refine lk_t ?_); rfl) | ((with_reducible refine okF_t ?_); kernel_rfl) | grind [gb])
def high_k : Con Tryz.prog := ⟨188, fun args => match args with | [.agg [.flt a, .flt b, .flt c], .agg [.flt d, .flt e, .flt f]] => .ok (none) (.agg [.flt (moreV a d), .flt (moreV b e), .flt (moreV c f)]) | _ => .no, by
  intro args p r h hp
  split at h
  · cases h; exact high_a _ _ _ _ _ _
  · cases h⟩
theorem lowR_f : FnOk Tryz.prog 144 Tryz.f144 := ⟨Tryz.func144, by kernel_rfl⟩
theorem lowR_a (a b c d e f : Nat) : ACalls Tryz.prog 144 [.agg [.flt a, .flt b, .flt c], .agg [.flt d, .flt e, .flt f]] (.agg [.flt (lessV a d), .flt (lessV b e), .flt (lessV c f)]) := by
  refine acalls_of (inl := hasI (P := Tryz.prog) [] []) (base [less_k] [] []) 0 lowR_f (And.intro (by kernel_rfl) ?_)
  repeat' (first | refine And.intro ?_ ?_ | (with_reducible exact ff_elim) | (with_reducible exact tf_elim) | intro _ | (with_reducible rfl) | ((with_reducible refine lk_t ?_); exact rfl) | ((with_reducible refine pf_t ?_); exact rfl) | refine tell ?_ | exact True.intro | (refine IsT.of ?_; kernel_rfl))
  all_goals ((try refine Tell.mk ?_); first | with_reducible rfl | ((show (_ : Int) ≤ _); decide) | ((show (_ : Int) < _); decide) | (with_reducible refine gb_t ?_; with_reducible assumption) | with_reducible assumption | (with_reducible refine gb_f ?_; with_reducible assumption) | (simp only [gb, *, cond_true, cond_false]; done) | ((with_reducible refine ks_t ?_); rfl) | ((with_reducible refine pk_t ?_); rfl) | ((with_reducible refine pf_t ?_); rfl) | ((with_reducible refine lk_t ?_); rfl) | ((with_reducible refine okF_t ?_); kernel_rfl) | grind [gb])
def lowR_k : Con Tryz.prog := ⟨144, fun args => match args with | [.agg [.flt a, .flt b, .flt c], .agg [.flt d, .flt e, .flt f]] => .ok (none) (.agg [.flt (lessV a d), .flt (lessV b e), .flt (lessV c f)]) | _ => .no, by
  intro args p r h hp
  split at h
  · cases h; exact lowR_a _ _ _ _ _ _
  · cases h⟩
theorem highR_f : FnOk Tryz.prog 145 Tryz.f145 := ⟨Tryz.func145, by kernel_rfl⟩
theorem highR_a (a b c d e f : Nat) : ACalls Tryz.prog 145 [.agg [.flt a, .flt b, .flt c], .agg [.flt d, .flt e, .flt f]] (.agg [.flt (moreV a d), .flt (moreV b e), .flt (moreV c f)]) := by
  refine acalls_of (inl := hasI (P := Tryz.prog) [] []) (base [more_k] [] []) 0 highR_f (And.intro (by kernel_rfl) ?_)
  repeat' (first | refine And.intro ?_ ?_ | (with_reducible exact ff_elim) | (with_reducible exact tf_elim) | intro _ | (with_reducible rfl) | ((with_reducible refine lk_t ?_); exact rfl) | ((with_reducible refine pf_t ?_); exact rfl) | refine tell ?_ | exact True.intro | (refine IsT.of ?_; kernel_rfl))
  all_goals ((try refine Tell.mk ?_); first | with_reducible rfl | ((show (_ : Int) ≤ _); decide) | ((show (_ : Int) < _); decide) | (with_reducible refine gb_t ?_; with_reducible assumption) | with_reducible assumption | (with_reducible refine gb_f ?_; with_reducible assumption) | (simp only [gb, *, cond_true, cond_false]; done) | ((with_reducible refine ks_t ?_); rfl) | ((with_reducible refine pk_t ?_); rfl) | ((with_reducible refine pf_t ?_); rfl) | ((with_reducible refine lk_t ?_); rfl) | ((with_reducible refine okF_t ?_); kernel_rfl) | grind [gb])
def highR_k : Con Tryz.prog := ⟨145, fun args => match args with | [.agg [.flt a, .flt b, .flt c], .agg [.flt d, .flt e, .flt f]] => .ok (none) (.agg [.flt (moreV a d), .flt (moreV b e), .flt (moreV c f)]) | _ => .no, by
  intro args p r h hp
  split at h
  · cases h; exact highR_a _ _ _ _ _ _
  · cases h⟩
theorem join_f : FnOk Tryz.prog 140 Tryz.f140 := ⟨Tryz.func140, by kernel_rfl⟩
theorem join_a (a b c d e f a' b' c' d' e' f' : Nat) : ACalls Tryz.prog 140 [.agg [.flt a, .flt b, .flt c, .flt d, .flt e, .flt f], .agg [.flt a', .flt b', .flt c', .flt d', .flt e', .flt f']] (.agg [.flt (lessV a a'), .flt (lessV b b'), .flt (lessV c c'), .flt (moreV d d'), .flt (moreV e e'), .flt (moreV f f')]) := by
  refine acalls_of (inl := hasI (P := Tryz.prog) [] []) (base [low_k, high_k] [] []) 0 join_f (And.intro (by kernel_rfl) ?_)
  repeat' (first | refine And.intro ?_ ?_ | (with_reducible exact ff_elim) | (with_reducible exact tf_elim) | intro _ | (with_reducible rfl) | ((with_reducible refine lk_t ?_); exact rfl) | ((with_reducible refine pf_t ?_); exact rfl) | refine tell ?_ | exact True.intro | (refine IsT.of ?_; kernel_rfl))
  all_goals ((try refine Tell.mk ?_); first | with_reducible rfl | ((show (_ : Int) ≤ _); decide) | ((show (_ : Int) < _); decide) | (with_reducible refine gb_t ?_; with_reducible assumption) | with_reducible assumption | (with_reducible refine gb_f ?_; with_reducible assumption) | (simp only [gb, *, cond_true, cond_false]; done) | ((with_reducible refine ks_t ?_); rfl) | ((with_reducible refine pk_t ?_); rfl) | ((with_reducible refine pf_t ?_); rfl) | ((with_reducible refine lk_t ?_); rfl) | ((with_reducible refine okF_t ?_); kernel_rfl) | grind [gb])
def join_k : Con Tryz.prog := ⟨140, fun args => match args with | [.agg [.flt a, .flt b, .flt c, .flt d, .flt e, .flt f], .agg [.flt a', .flt b', .flt c', .flt d', .flt e', .flt f']] => .ok (none) (.agg [.flt (lessV a a'), .flt (lessV b b'), .flt (lessV c c'), .flt (moreV d d'), .flt (moreV e e'), .flt (moreV f f')]) | _ => .no, by
  intro args p r h hp
  split at h
  · cases h; exact join_a _ _ _ _ _ _ _ _ _ _ _ _
  · cases h⟩
end Go.Proofs.YtphdjmaebdmdmaaGreatDoor
/- Functions with small loops, by the abstract machine. -/
namespace Go.Proofs.YtphdjmaebdmdmaaGreatDoor
open Go.RowKit Ev
set_option linter.unusedVariables false
set_option linter.unusedSimpArgs false
set_option maxRecDepth 20000

theorem axV0 (a b c : Nat) : axV a b c 0 = a := rfl
theorem axV1 (a b c : Nat) : axV a b c 1 = b := rfl
theorem axV2 (a b c : Nat) : axV a b c 2 = c := rfl
def mayV (a b c d e f : Nat) : Int := bif fineB a b c && fineB d e f then (bif fgt a d || fgt b e || fgt c f then 6 else 0) else 1
theorem may_f : FnOk Tryz.prog 87 Tryz.f87 := ⟨Tryz.func87, by kernel_rfl⟩
theorem may_a (a b c d e f : Nat) : ACalls Tryz.prog 87 [.agg [.flt a, .flt b, .flt c, .flt d, .flt e, .flt f]] (.int .i64 (mayV a b c d e f)) := by
  refine acalls_of (inl := hasI (P := Tryz.prog) [] []) (base [fine_k] [] []) 0 may_f (And.intro (by kernel_rfl) ?_)
  repeat' (first | refine And.intro ?_ ?_ | (with_reducible exact ff_elim) | (with_reducible exact tf_elim) | intro _ | (with_reducible rfl) | ((with_reducible refine lk_t ?_); exact rfl) | ((with_reducible refine pf_t ?_); exact rfl) | refine tell ?_ | exact True.intro | (refine IsT.of ?_; kernel_rfl))
  all_goals ((try refine Tell.mk ?_); first | with_reducible rfl | ((show (_ : Int) ≤ _); decide) | ((show (_ : Int) < _); decide) | (with_reducible refine gb_t ?_; with_reducible assumption) | with_reducible assumption | (with_reducible refine gb_f ?_; with_reducible assumption) | (simp only [mayV, *, cond_true, cond_false]; done) | ((with_reducible refine ks_t ?_); rfl) | ((with_reducible refine pk_t ?_); rfl) | ((with_reducible refine pf_t ?_); rfl) | ((with_reducible refine lk_t ?_); rfl) | ((with_reducible refine okF_t ?_); kernel_rfl) | grind [gb, mayV])
def may_k : Con Tryz.prog := ⟨87, fun args => match args with | [.agg [.flt a, .flt b, .flt c, .flt d, .flt e, .flt f]] => .ok (none) (.int .i64 (mayV a b c d e f)) | _ => .no, by
  intro args p r h hp
  split at h
  · cases h; exact may_a _ _ _ _ _ _
  · cases h⟩
theorem mayR_f : FnOk Tryz.prog 90 Tryz.f90 := ⟨Tryz.func90, by kernel_rfl⟩
theorem mayR_a (a b c d e f : Nat) : ACalls Tryz.prog 90 [.agg [.flt a, .flt b, .flt c, .flt d, .flt e, .flt f]] (.int .i64 (mayV a b c d e f)) := by
  refine acalls_of (inl := hasI (P := Tryz.prog) [] []) (base [fineR_k, axis_k] [] []) 0 mayR_f (And.intro (by kernel_rfl) ?_)
  repeat' (first | refine And.intro ?_ ?_ | refine num_lit 0 (by decide) ?_ | refine num_lit 1 (by decide) ?_ | refine num_lit 2 (by decide) ?_ | refine num_lit 3 (by decide) ?_ | refine num_lit 4 (by decide) ?_ | refine num_lit 5 (by decide) ?_ | refine num_lit 6 (by decide) ?_ | refine num_lit 7 (by decide) ?_ | refine num_lit 8 (by decide) ?_ | refine num_elim ?_ | (with_reducible exact ff_elim) | (with_reducible exact tf_elim) | (intro h; exact absurd h (by decide)) | intro _ | (with_reducible rfl) | refine Or.inl ⟨4, ?_⟩ | refine tell ?_ | exact True.intro | (refine IsT.of ?_; kernel_rfl))
  all_goals ((try refine Tell.mk ?_); first | with_reducible rfl | ((show (_ : Int) ≤ _); decide) | ((show (_ : Int) < _); decide) | (with_reducible refine gb_t ?_; with_reducible assumption) | with_reducible assumption | (with_reducible refine gb_f ?_; with_reducible assumption) | (simp only [mayV, axV0, axV1, axV2, *, cond_true, cond_false]; done) | ((with_reducible refine ks_t ?_); rfl) | ((with_reducible refine pk_t ?_); rfl) | ((with_reducible refine pf_t ?_); rfl) | ((with_reducible refine lk_t ?_); rfl) | ((with_reducible refine okF_t ?_); kernel_rfl) | grind [gb, mayV, axV0, axV1, axV2])
def mayR_k : Con Tryz.prog := ⟨90, fun args => match args with | [.agg [.flt a, .flt b, .flt c, .flt d, .flt e, .flt f]] => .ok (none) (.int .i64 (mayV a b c d e f)) | _ => .no, by
  intro args p r h hp
  split at h
  · cases h; exact mayR_a _ _ _ _ _ _
  · cases h⟩
def inV (a b c d e f a' b' c' d' e' f' : Nat) : Bool := (flt a' a || feq a' a) && (flt b' b || feq b' b) && (flt c' c || feq c' c) && (flt d d' || feq d d') && (flt e e' || feq e e') && (flt f f' || feq f f')
end Go.Proofs.YtphdjmaebdmdmaaGreatDoor
/- Rays, sameness. -/
namespace Go.Proofs.YtphdjmaebdmdmaaGreatDoor
open Go.RowKit Ev
set_option linter.unusedVariables false
set_option linter.unusedSimpArgs false
set_option maxRecDepth 20000
set_option maxHeartbeats 4000000

def rayV (a b c d e f l : Nat) : Int := bif !(fineB a b c) || (!(fineB d e f) || !(nearB l)) then 1 else
  bif feq d 0 && (feq e 0 && feq f 0) then 2 else
  bif !(feq d (cleanV d) && (feq e (cleanV e) && feq f (cleanV f))) then 1 else bif flt l 0 then 6 else 0
def sameV (a b : Nat) : Bool := bif !(feq a a) || !(feq b b) then !(feq a a) && !(feq b b) else feq a b && (!(feq a 0) || feq (F .quo 4607182418800017408 a) (F .quo 4607182418800017408 b))
end Go.Proofs.YtphdjmaebdmdmaaGreatDoor
/- Vectors: sums, products, lengths; by the abstract machine. -/
namespace Go.Proofs.YtphdjmaebdmdmaaGreatDoor
open Go.RowKit Ev
set_option linter.unusedVariables false
set_option linter.unusedSimpArgs false
set_option maxRecDepth 20000
set_option maxHeartbeats 4000000

def dotV (a b c d e f : Nat) : Nat := F .add (F .add (F .mul a d) (F .mul b e)) (F .mul c f)
def crsV (b c e f : Nat) : Nat := F .sub (F .mul b f) (F .mul c e)
def lenV (a b c : Nat) : Nat := sq (dotV a b c a b c)
def unitB (a b c : Nat) : Bool := fineB a b c && !(feq (lenV a b c) 0)
def unitE (a b c : Nat) : Int := bif fineB a b c then (bif feq (lenV a b c) 0 then 2 else 0) else 1
def unitV (a b c x : Nat) : Nat := bif fineB a b c then (bif feq (lenV a b c) 0 then 0 else F .quo x (lenV a b c)) else 0
theorem find_sqrt : Extern.find Tryz.f147 = some Extern.MathSqrt.sqrt := by kernel_rfl
theorem sqx_a (x : Nat) : ACalls Tryz.prog 147 [.flt x] (.flt (sq x)) := by
  intro w Im vals hIm ht htw
  cases ht with
  | cons h t =>
    cases t
    obtain ⟨b, rfl, hb⟩ := h.inv_flt
    have e : (callFunc 147 [Value.float .f64 b].toArray).run Tryz.prog w = .ok (.value (.float .f64 (sval w b))) (w.drewN (sdr b)) := by
      rw [run_callFunc_extern Tryz.func147 (by kernel_rfl) (by kernel_rfl) (by kernel_rfl) find_sqrt, run_sqrt]
      rfl
    rw [e]
    exact ⟨below_drewN (Below.refl _ _) _, .flt _ _ (by rw [cn_sval, hb])⟩
def sqx_k : Con Tryz.prog := ⟨147, fun args => match args with | [.flt x] => .ok none (.flt (sq x)) | _ => .no, by
  intro args p r h hp
  split at h
  · cases h; exact sqx_a _
  · cases h⟩
theorem sqrt_f : FnOk Tryz.prog 94 Tryz.f94 := ⟨Tryz.func94, by kernel_rfl⟩
theorem sqrt_a (x : Nat) : ACalls Tryz.prog 94 [.flt x] (.flt (sq x)) := by
  refine acalls_of (inl := hasI (P := Tryz.prog) [] []) (base [sqx_k] [] []) 0 sqrt_f (And.intro (by kernel_rfl) ?_)
  repeat' (first | refine And.intro ?_ ?_ | (with_reducible exact ff_elim) | (with_reducible exact tf_elim) | intro _ | (with_reducible rfl) | ((with_reducible refine lk_t ?_); exact rfl) | ((with_reducible refine pf_t ?_); exact rfl) | refine tell ?_ | exact True.intro | (refine IsT.of ?_; kernel_rfl))
  all_goals ((try refine Tell.mk ?_); first | with_reducible rfl | ((show (_ : Int) ≤ _); decide) | ((show (_ : Int) < _); decide) | (with_reducible refine gb_t ?_; with_reducible assumption) | with_reducible assumption | (with_reducible refine gb_f ?_; with_reducible assumption) | (simp only [gb, *, cond_true, cond_false]; done) | ((with_reducible refine ks_t ?_); rfl) | ((with_reducible refine pk_t ?_); rfl) | ((with_reducible refine pf_t ?_); rfl) | ((with_reducible refine lk_t ?_); rfl) | ((with_reducible refine okF_t ?_); kernel_rfl) | grind [gb])
def sqrt_k : Con Tryz.prog := ⟨94, fun args => match args with | [.flt x] => .ok (none) (.flt (sq x)) | _ => .no, by
  intro args p r h hp
  split at h
  · cases h; exact sqrt_a _
  · cases h⟩
theorem add_f : FnOk Tryz.prog 268 Tryz.f268 := ⟨Tryz.func268, by kernel_rfl⟩
theorem add_a (a b c d e f : Nat) : ACalls Tryz.prog 268 [.agg [.flt a, .flt b, .flt c], .agg [.flt d, .flt e, .flt f]] (.agg [.flt (F .add a d), .flt (F .add b e), .flt (F .add c f)]) := by
  refine acalls_of (inl := hasI (P := Tryz.prog) [] []) (base [] [] []) 0 add_f (And.intro (by kernel_rfl) ?_)
  repeat' (first | refine And.intro ?_ ?_ | (with_reducible exact ff_elim) | (with_reducible exact tf_elim) | intro _ | (with_reducible rfl) | ((with_reducible refine lk_t ?_); exact rfl) | ((with_reducible refine pf_t ?_); exact rfl) | refine tell ?_ | exact True.intro | (refine IsT.of ?_; kernel_rfl))
  all_goals ((try refine Tell.mk ?_); first | with_reducible rfl | ((show (_ : Int) ≤ _); decide) | ((show (_ : Int) < _); decide) | (with_reducible refine gb_t ?_; with_reducible assumption) | with_reducible assumption | (with_reducible refine gb_f ?_; with_reducible assumption) | (simp only [gb, *, cond_true, cond_false]; done) | ((with_reducible refine ks_t ?_); rfl) | ((with_reducible refine pk_t ?_); rfl) | ((with_reducible refine pf_t ?_); rfl) | ((with_reducible refine lk_t ?_); rfl) | ((with_reducible refine okF_t ?_); kernel_rfl) | grind [gb])
def add_k : Con Tryz.prog := ⟨268, fun args => match args with | [.agg [.flt a, .flt b, .flt c], .agg [.flt d, .flt e, .flt f]] => .ok (none) (.agg [.flt (F .add a d), .flt (F .add b e), .flt (F .add c f)]) | _ => .no, by
  intro args p r h hp
  split at h
  · cases h; exact add_a _ _ _ _ _ _
  · cases h⟩
theorem addR_f : FnOk Tryz.prog 142 Tryz.f142 := ⟨Tryz.func142, by kernel_rfl⟩
theorem addR_a (a b c d e f : Nat) : ACalls Tryz.prog 142 [.agg [.flt a, .flt b, .flt c], .agg [.flt d, .flt e, .flt f]] (.agg [.flt (F .add a d), .flt (F .add b e), .flt (F .add c f)]) := by
  refine acalls_of (inl := hasI (P := Tryz.prog) [] []) (base [] [] []) 0 addR_f (And.intro (by kernel_rfl) ?_)
  repeat' (first | refine And.intro ?_ ?_ | (with_reducible exact ff_elim) | (with_reducible exact tf_elim) | intro _ | (with_reducible rfl) | ((with_reducible refine lk_t ?_); exact rfl) | ((with_reducible refine pf_t ?_); exact rfl) | refine tell ?_ | exact True.intro | (refine IsT.of ?_; kernel_rfl))
  all_goals ((try refine Tell.mk ?_); first | with_reducible rfl | ((show (_ : Int) ≤ _); decide) | ((show (_ : Int) < _); decide) | (with_reducible refine gb_t ?_; with_reducible assumption) | with_reducible assumption | (with_reducible refine gb_f ?_; with_reducible assumption) | (simp only [gb, *, cond_true, cond_false]; done) | ((with_reducible refine ks_t ?_); rfl) | ((with_reducible refine pk_t ?_); rfl) | ((with_reducible refine pf_t ?_); rfl) | ((with_reducible refine lk_t ?_); rfl) | ((with_reducible refine okF_t ?_); kernel_rfl) | grind [gb])
def addR_k : Con Tryz.prog := ⟨142, fun args => match args with | [.agg [.flt a, .flt b, .flt c], .agg [.flt d, .flt e, .flt f]] => .ok (none) (.agg [.flt (F .add a d), .flt (F .add b e), .flt (F .add c f)]) | _ => .no, by
  intro args p r h hp
  split at h
  · cases h; exact addR_a _ _ _ _ _ _
  · cases h⟩
theorem sub_f : FnOk Tryz.prog 56 Tryz.f56 := ⟨Tryz.func56, by kernel_rfl⟩
theorem sub_a (a b c d e f : Nat) : ACalls Tryz.prog 56 [.agg [.flt a, .flt b, .flt c], .agg [.flt d, .flt e, .flt f]] (.agg [.flt (F .sub a d), .flt (F .sub b e), .flt (F .sub c f)]) := by
  refine acalls_of (inl := hasI (P := Tryz.prog) [] []) (base [] [] []) 0 sub_f (And.intro (by kernel_rfl) ?_)
  repeat' (first | refine And.intro ?_ ?_ | (with_reducible exact ff_elim) | (with_reducible exact tf_elim) | intro _ | (with_reducible rfl) | ((with_reducible refine lk_t ?_); exact rfl) | ((with_reducible refine pf_t ?_); exact rfl) | refine tell ?_ | exact True.intro | (refine IsT.of ?_; kernel_rfl))
  all_goals ((try refine Tell.mk ?_); first | with_reducible rfl | ((show (_ : Int) ≤ _); decide) | ((show (_ : Int) < _); decide) | (with_reducible refine gb_t ?_; with_reducible assumption) | with_reducible assumption | (with_reducible refine gb_f ?_; with_reducible assumption) | (simp only [gb, *, cond_true, cond_false]; done) | ((with_reducible refine ks_t ?_); rfl) | ((with_reducible refine pk_t ?_); rfl) | ((with_reducible refine pf_t ?_); rfl) | ((with_reducible refine lk_t ?_); rfl) | ((with_reducible refine okF_t ?_); kernel_rfl) | grind [gb])
def sub_k : Con Tryz.prog := ⟨56, fun args => match args with | [.agg [.flt a, .flt b, .flt c], .agg [.flt d, .flt e, .flt f]] => .ok (none) (.agg [.flt (F .sub a d), .flt (F .sub b e), .flt (F .sub c f)]) | _ => .no, by
  intro args p r h hp
  split at h
  · cases h; exact sub_a _ _ _ _ _ _
  · cases h⟩
theorem subR_f : FnOk Tryz.prog 61 Tryz.f61 := ⟨Tryz.func61, by kernel_rfl⟩
theorem subR_a (a b c d e f : Nat) : ACalls Tryz.prog 61 [.agg [.flt a, .flt b, .flt c], .agg [.flt d, .flt e, .flt f]] (.agg [.flt (F .sub a d), .flt (F .sub b e), .flt (F .sub c f)]) := by
  refine acalls_of (inl := hasI (P := Tryz.prog) [] []) (base [] [] []) 0 subR_f (And.intro (by kernel_rfl) ?_)
  repeat' (first | refine And.intro ?_ ?_ | (with_reducible exact ff_elim) | (with_reducible exact tf_elim) | intro _ | (with_reducible rfl) | ((with_reducible refine lk_t ?_); exact rfl) | ((with_reducible refine pf_t ?_); exact rfl) | refine tell ?_ | exact True.intro | (refine IsT.of ?_; kernel_rfl))
  all_goals ((try refine Tell.mk ?_); first | with_reducible rfl | ((show (_ : Int) ≤ _); decide) | ((show (_ : Int) < _); decide) | (with_reducible refine gb_t ?_; with_reducible assumption) | with_reducible assumption | (with_reducible refine gb_f ?_; with_reducible assumption) | (simp only [gb, *, cond_true, cond_false]; done) | ((with_reducible refine ks_t ?_); rfl) | ((with_reducible refine pk_t ?_); rfl) | ((with_reducible refine pf_t ?_); rfl) | ((with_reducible refine lk_t ?_); rfl) | ((with_reducible refine okF_t ?_); kernel_rfl) | grind [gb])
def subR_k : Con Tryz.prog := ⟨61, fun args => match args with | [.agg [.flt a, .flt b, .flt c], .agg [.flt d, .flt e, .flt f]] => .ok (none) (.agg [.flt (F .sub a d), .flt (F .sub b e), .flt (F .sub c f)]) | _ => .no, by
  intro args p r h hp
  split at h
  · cases h; exact subR_a _ _ _ _ _ _
  · cases h⟩
theorem scaleR_f : FnOk Tryz.prog 171 Tryz.f171 := ⟨Tryz.func171, by kernel_rfl⟩
theorem scaleR_a (a b c k : Nat) : ACalls Tryz.prog 171 [.agg [.flt a, .flt b, .flt c], .flt k] (.agg [.flt (F .mul a k), .flt (F .mul b k), .flt (F .mul c k)]) := by
  refine acalls_of (inl := hasI (P := Tryz.prog) [] []) (base [] [] []) 0 scaleR_f (And.intro (by kernel_rfl) ?_)
  repeat' (first | refine And.intro ?_ ?_ | (with_reducible exact ff_elim) | (with_reducible exact tf_elim) | intro _ | (with_reducible rfl) | ((with_reducible refine lk_t ?_); exact rfl) | ((with_reducible refine pf_t ?_); exact rfl) | refine tell ?_ | exact True.intro | (refine IsT.of ?_; kernel_rfl))
  all_goals ((try refine Tell.mk ?_); first | with_reducible rfl | ((show (_ : Int) ≤ _); decide) | ((show (_ : Int) < _); decide) | (with_reducible refine gb_t ?_; with_reducible assumption) | with_reducible assumption | (with_reducible refine gb_f ?_; with_reducible assumption) | (simp only [gb, *, cond_true, cond_false]; done) | ((with_reducible refine ks_t ?_); rfl) | ((with_reducible refine pk_t ?_); rfl) | ((with_reducible refine pf_t ?_); rfl) | ((with_reducible refine lk_t ?_); rfl) | ((with_reducible refine okF_t ?_); kernel_rfl) | grind [gb])
def scaleR_k : Con Tryz.prog := ⟨171, fun args => match args with | [.agg [.flt a, .flt b, .flt c], .flt k] => .ok (none) (.agg [.flt (F .mul a k), .flt (F .mul b k), .flt (F .mul c k)]) | _ => .no, by
  intro args p r h hp
  split at h
  · cases h; exact scaleR_a _ _ _ _
  · cases h⟩
theorem over_f : FnOk Tryz.prog 93 Tryz.f93 := ⟨Tryz.func93, by kernel_rfl⟩
theorem over_a (a b c k : Nat) : ACalls Tryz.prog 93 [.agg [.flt a, .flt b, .flt c], .flt k] (.agg [.flt (F .quo a k), .flt (F .quo b k), .flt (F .quo c k)]) := by
  refine acalls_of (inl := hasI (P := Tryz.prog) [] []) (base [] [] []) 0 over_f (And.intro (by kernel_rfl) ?_)
  repeat' (first | refine And.intro ?_ ?_ | (with_reducible exact ff_elim) | (with_reducible exact tf_elim) | intro _ | (with_reducible rfl) | ((with_reducible refine lk_t ?_); exact rfl) | ((with_reducible refine pf_t ?_); exact rfl) | refine tell ?_ | exact True.intro | (refine IsT.of ?_; kernel_rfl))
  all_goals ((try refine Tell.mk ?_); first | with_reducible rfl | ((show (_ : Int) ≤ _); decide) | ((show (_ : Int) < _); decide) | (with_reducible refine gb_t ?_; with_reducible assumption) | with_reducible assumption | (with_reducible refine gb_f ?_; with_reducible assumption) | (simp only [gb, *, cond_true, cond_false]; done) | ((with_reducible refine ks_t ?_); rfl) | ((with_reducible refine pk_t ?_); rfl) | ((with_reducible refine pf_t ?_); rfl) | ((with_reducible refine lk_t ?_); rfl) | ((with_reducible refine okF_t ?_); kernel_rfl) | grind [gb])
def over_k : Con Tryz.prog := ⟨93, fun args => match args with | [.agg [.flt a, .flt b, .flt c], .flt k] => .ok (none) (.agg [.flt (F .quo a k), .flt (F .quo b k), .flt (F .quo c k)]) | _ => .no, by
  intro args p r h hp
  split at h
  · cases h; exact over_a _ _ _ _
  · cases h⟩
theorem overR_f : FnOk Tryz.prog 96 Tryz.f96 := ⟨Tryz.func96, by kernel_rfl⟩
theorem overR_a (a b c k : Nat) : ACalls Tryz.prog 96 [.agg [.flt a, .flt b, .flt c], .flt k] (.agg [.flt (F .quo a k), .flt (F .quo b k), .flt (F .quo c k)]) := by
  refine acalls_of (inl := hasI (P := Tryz.prog) [] []) (base [] [] []) 0 overR_f (And.intro (by kernel_rfl) ?_)
  repeat' (first | refine And.intro ?_ ?_ | (with_reducible exact ff_elim) | (with_reducible exact tf_elim) | intro _ | (with_reducible rfl) | ((with_reducible refine lk_t ?_); exact rfl) | ((with_reducible refine pf_t ?_); exact rfl) | refine tell ?_ | exact True.intro | (refine IsT.of ?_; kernel_rfl))
  all_goals ((try refine Tell.mk ?_); first | with_reducible rfl | ((show (_ : Int) ≤ _); decide) | ((show (_ : Int) < _); decide) | (with_reducible refine gb_t ?_; with_reducible assumption) | with_reducible assumption | (with_reducible refine gb_f ?_; with_reducible assumption) | (simp only [gb, *, cond_true, cond_false]; done) | ((with_reducible refine ks_t ?_); rfl) | ((with_reducible refine pk_t ?_); rfl) | ((with_reducible refine pf_t ?_); rfl) | ((with_reducible refine lk_t ?_); rfl) | ((with_reducible refine okF_t ?_); kernel_rfl) | grind [gb])
def overR_k : Con Tryz.prog := ⟨96, fun args => match args with | [.agg [.flt a, .flt b, .flt c], .flt k] => .ok (none) (.agg [.flt (F .quo a k), .flt (F .quo b k), .flt (F .quo c k)]) | _ => .no, by
  intro args p r h hp
  split at h
  · cases h; exact overR_a _ _ _ _
  · cases h⟩
theorem times_f : FnOk Tryz.prog 98 Tryz.f98 := ⟨Tryz.func98, by kernel_rfl⟩
theorem times_a (a b : Nat) : ACalls Tryz.prog 98 [.flt a, .flt b] (.flt (F .mul a b)) := by
  refine acalls_of (inl := hasI (P := Tryz.prog) [] []) (base [] [] []) 0 times_f (And.intro (by kernel_rfl) ?_)
  repeat' (first | refine And.intro ?_ ?_ | (with_reducible exact ff_elim) | (with_reducible exact tf_elim) | intro _ | (with_reducible rfl) | ((with_reducible refine lk_t ?_); exact rfl) | ((with_reducible refine pf_t ?_); exact rfl) | refine tell ?_ | exact True.intro | (refine IsT.of ?_; kernel_rfl))
  all_goals ((try refine Tell.mk ?_); first | with_reducible rfl | ((show (_ : Int) ≤ _); decide) | ((show (_ : Int) < _); decide) | (with_reducible refine gb_t ?_; with_reducible assumption) | with_reducible assumption | (with_reducible refine gb_f ?_; with_reducible assumption) | (simp only [gb, *, cond_true, cond_false]; done) | ((with_reducible refine ks_t ?_); rfl) | ((with_reducible refine pk_t ?_); rfl) | ((with_reducible refine pf_t ?_); rfl) | ((with_reducible refine lk_t ?_); rfl) | ((with_reducible refine okF_t ?_); kernel_rfl) | grind [gb])
def times_k : Con Tryz.prog := ⟨98, fun args => match args with | [.flt a, .flt b] => .ok (none) (.flt (F .mul a b)) | _ => .no, by
  intro args p r h hp
  split at h
  · cases h; exact times_a _ _
  · cases h⟩
theorem dot_f : FnOk Tryz.prog 95 Tryz.f95 := ⟨Tryz.func95, by kernel_rfl⟩
theorem dot_a (a b c d e f : Nat) : ACalls Tryz.prog 95 [.agg [.flt a, .flt b, .flt c], .agg [.flt d, .flt e, .flt f]] (.flt (dotV a b c d e f)) := by
  refine acalls_of (inl := hasI (P := Tryz.prog) [] []) (base [] [] []) 0 dot_f (And.intro (by kernel_rfl) ?_)
  repeat' (first | refine And.intro ?_ ?_ | (with_reducible exact ff_elim) | (with_reducible exact tf_elim) | intro _ | (with_reducible rfl) | ((with_reducible refine lk_t ?_); exact rfl) | ((with_reducible refine pf_t ?_); exact rfl) | refine tell ?_ | exact True.intro | (refine IsT.of ?_; kernel_rfl))
  all_goals ((try refine Tell.mk ?_); first | with_reducible rfl | ((show (_ : Int) ≤ _); decide) | ((show (_ : Int) < _); decide) | (with_reducible refine gb_t ?_; with_reducible assumption) | with_reducible assumption | (with_reducible refine gb_f ?_; with_reducible assumption) | (simp only [dotV, *, cond_true, cond_false]; done) | ((with_reducible refine ks_t ?_); rfl) | ((with_reducible refine pk_t ?_); rfl) | ((with_reducible refine pf_t ?_); rfl) | ((with_reducible refine lk_t ?_); rfl) | ((with_reducible refine okF_t ?_); kernel_rfl) | grind [gb, dotV])
def dot_k : Con Tryz.prog := ⟨95, fun args => match args with | [.agg [.flt a, .flt b, .flt c], .agg [.flt d, .flt e, .flt f]] => .ok (none) (.flt (dotV a b c d e f)) | _ => .no, by
  intro args p r h hp
  split at h
  · cases h; exact dot_a _ _ _ _ _ _
  · cases h⟩
theorem dotR_f : FnOk Tryz.prog 97 Tryz.f97 := ⟨Tryz.func97, by kernel_rfl⟩
theorem dotR_a (a b c d e f : Nat) : ACalls Tryz.prog 97 [.agg [.flt a, .flt b, .flt c], .agg [.flt d, .flt e, .flt f]] (.flt (dotV a b c d e f)) := by
  refine acalls_of (inl := hasI (P := Tryz.prog) [] []) (base [times_k] [] []) 0 dotR_f (And.intro (by kernel_rfl) ?_)
  repeat' (first | refine And.intro ?_ ?_ | (with_reducible exact ff_elim) | (with_reducible exact tf_elim) | intro _ | (with_reducible rfl) | ((with_reducible refine lk_t ?_); exact rfl) | ((with_reducible refine pf_t ?_); exact rfl) | refine tell ?_ | exact True.intro | (refine IsT.of ?_; kernel_rfl))
  all_goals ((try refine Tell.mk ?_); first | with_reducible rfl | ((show (_ : Int) ≤ _); decide) | ((show (_ : Int) < _); decide) | (with_reducible refine gb_t ?_; with_reducible assumption) | with_reducible assumption | (with_reducible refine gb_f ?_; with_reducible assumption) | (simp only [dotV, *, cond_true, cond_false]; done) | ((with_reducible refine ks_t ?_); rfl) | ((with_reducible refine pk_t ?_); rfl) | ((with_reducible refine pf_t ?_); rfl) | ((with_reducible refine lk_t ?_); rfl) | ((with_reducible refine okF_t ?_); kernel_rfl) | grind [gb, dotV])
def dotR_k : Con Tryz.prog := ⟨97, fun args => match args with | [.agg [.flt a, .flt b, .flt c], .agg [.flt d, .flt e, .flt f]] => .ok (none) (.flt (dotV a b c d e f)) | _ => .no, by
  intro args p r h hp
  split at h
  · cases h; exact dotR_a _ _ _ _ _ _
  · cases h⟩
theorem cross_f : FnOk Tryz.prog 58 Tryz.f58 := ⟨Tryz.func58, by kernel_rfl⟩
theorem cross_a (a b c d e f : Nat) : ACalls Tryz.prog 58 [.agg [.flt a, .flt b, .flt c], .agg [.flt d, .flt e, .flt f]] (.agg [.flt (crsV b c e f), .flt (crsV c a f d), .flt (crsV a b d e)]) := by
  refine acalls_of (inl := hasI (P := Tryz.prog) [] []) (base [] [] []) 0 cross_f (And.intro (by kernel_rfl) ?_)
  repeat' (first | refine And.intro ?_ ?_ | (with_reducible exact ff_elim) | (with_reducible exact tf_elim) | intro _ | (with_reducible rfl) | ((with_reducible refine lk_t ?_); exact rfl) | ((with_reducible refine pf_t ?_); exact rfl) | refine tell ?_ | exact True.intro | (refine IsT.of ?_; kernel_rfl))
  all_goals ((try refine Tell.mk ?_); first | with_reducible rfl | ((show (_ : Int) ≤ _); decide) | ((show (_ : Int) < _); decide) | (with_reducible refine gb_t ?_; with_reducible assumption) | with_reducible assumption | (with_reducible refine gb_f ?_; with_reducible assumption) | (simp only [crsV, *, cond_true, cond_false]; done) | ((with_reducible refine ks_t ?_); rfl) | ((with_reducible refine pk_t ?_); rfl) | ((with_reducible refine pf_t ?_); rfl) | ((with_reducible refine lk_t ?_); rfl) | ((with_reducible refine okF_t ?_); kernel_rfl) | grind [gb, crsV])
def cross_k : Con Tryz.prog := ⟨58, fun args => match args with | [.agg [.flt a, .flt b, .flt c], .agg [.flt d, .flt e, .flt f]] => .ok (none) (.agg [.flt (crsV b c e f), .flt (crsV c a f d), .flt (crsV a b d e)]) | _ => .no, by
  intro args p r h hp
  split at h
  · cases h; exact cross_a _ _ _ _ _ _
  · cases h⟩
theorem crossR_f : FnOk Tryz.prog 63 Tryz.f63 := ⟨Tryz.func63, by kernel_rfl⟩
theorem crossR_a (a b c d e f : Nat) : ACalls Tryz.prog 63 [.agg [.flt a, .flt b, .flt c], .agg [.flt d, .flt e, .flt f]] (.agg [.flt (crsV b c e f), .flt (crsV c a f d), .flt (crsV a b d e)]) := by
  refine acalls_of (inl := hasI (P := Tryz.prog) [] []) (base [times_k] [] []) 0 crossR_f (And.intro (by kernel_rfl) ?_)
  repeat' (first | refine And.intro ?_ ?_ | (with_reducible exact ff_elim) | (with_reducible exact tf_elim) | intro _ | (with_reducible rfl) | ((with_reducible refine lk_t ?_); exact rfl) | ((with_reducible refine pf_t ?_); exact rfl) | refine tell ?_ | exact True.intro | (refine IsT.of ?_; kernel_rfl))
  all_goals ((try refine Tell.mk ?_); first | with_reducible rfl | ((show (_ : Int) ≤ _); decide) | ((show (_ : Int) < _); decide) | (with_reducible refine gb_t ?_; with_reducible assumption) | with_reducible assumption | (with_reducible refine gb_f ?_; with_reducible assumption) | (simp only [crsV, *, cond_true, cond_false]; done) | ((with_reducible refine ks_t ?_); rfl) | ((with_reducible refine pk_t ?_); rfl) | ((with_reducible refine pf_t ?_); rfl) | ((with_reducible refine lk_t ?_); rfl) | ((with_reducible refine okF_t ?_); kernel_rfl) | grind [gb, crsV])
def crossR_k : Con Tryz.prog := ⟨63, fun args => match args with | [.agg [.flt a, .flt b, .flt c], .agg [.flt d, .flt e, .flt f]] => .ok (none) (.agg [.flt (crsV b c e f), .flt (crsV c a f d), .flt (crsV a b d e)]) | _ => .no, by
  intro args p r h hp
  split at h
  · cases h; exact crossR_a _ _ _ _ _ _
  · cases h⟩
theorem length_f : FnOk Tryz.prog 57 Tryz.f57 := ⟨Tryz.func57, by kernel_rfl⟩
theorem length_a (a b c : Nat) : ACalls Tryz.prog 57 [.agg [.flt a, .flt b, .flt c]] (.flt (lenV a b c)) := by
  refine acalls_of (inl := hasI (P := Tryz.prog) [] []) (base [dot_k, sqrt_k] [] []) 0 length_f (And.intro (by kernel_rfl) ?_)
  repeat' (first | refine And.intro ?_ ?_ | (with_reducible exact ff_elim) | (with_reducible exact tf_elim) | intro _ | (with_reducible rfl) | ((with_reducible refine lk_t ?_); exact rfl) | ((with_reducible refine pf_t ?_); exact rfl) | refine tell ?_ | exact True.intro | (refine IsT.of ?_; kernel_rfl))
  all_goals ((try refine Tell.mk ?_); first | with_reducible rfl | ((show (_ : Int) ≤ _); decide) | ((show (_ : Int) < _); decide) | (with_reducible refine gb_t ?_; with_reducible assumption) | with_reducible assumption | (with_reducible refine gb_f ?_; with_reducible assumption) | (simp only [lenV, *, cond_true, cond_false]; done) | ((with_reducible refine ks_t ?_); rfl) | ((with_reducible refine pk_t ?_); rfl) | ((with_reducible refine pf_t ?_); rfl) | ((with_reducible refine lk_t ?_); rfl) | ((with_reducible refine okF_t ?_); kernel_rfl) | grind [gb, lenV])
def length_k : Con Tryz.prog := ⟨57, fun args => match args with | [.agg [.flt a, .flt b, .flt c]] => .ok (none) (.flt (lenV a b c)) | _ => .no, by
  intro args p r h hp
  split at h
  · cases h; exact length_a _ _ _
  · cases h⟩
theorem lengthR_f : FnOk Tryz.prog 62 Tryz.f62 := ⟨Tryz.func62, by kernel_rfl⟩
theorem lengthR_a (a b c : Nat) : ACalls Tryz.prog 62 [.agg [.flt a, .flt b, .flt c]] (.flt (lenV a b c)) := by
  refine acalls_of (inl := hasI (P := Tryz.prog) [] []) (base [dotR_k, sqrt_k] [] []) 0 lengthR_f (And.intro (by kernel_rfl) ?_)
  repeat' (first | refine And.intro ?_ ?_ | (with_reducible exact ff_elim) | (with_reducible exact tf_elim) | intro _ | (with_reducible rfl) | ((with_reducible refine lk_t ?_); exact rfl) | ((with_reducible refine pf_t ?_); exact rfl) | refine tell ?_ | exact True.intro | (refine IsT.of ?_; kernel_rfl))
  all_goals ((try refine Tell.mk ?_); first | with_reducible rfl | ((show (_ : Int) ≤ _); decide) | ((show (_ : Int) < _); decide) | (with_reducible refine gb_t ?_; with_reducible assumption) | with_reducible assumption | (with_reducible refine gb_f ?_; with_reducible assumption) | (simp only [lenV, *, cond_true, cond_false]; done) | ((with_reducible refine ks_t ?_); rfl) | ((with_reducible refine pk_t ?_); rfl) | ((with_reducible refine pf_t ?_); rfl) | ((with_reducible refine lk_t ?_); rfl) | ((with_reducible refine okF_t ?_); kernel_rfl) | grind [gb, lenV])
def lengthR_k : Con Tryz.prog := ⟨62, fun args => match args with | [.agg [.flt a, .flt b, .flt c]] => .ok (none) (.flt (lenV a b c)) | _ => .no, by
  intro args p r h hp
  split at h
  · cases h; exact lengthR_a _ _ _
  · cases h⟩
theorem unit_f : FnOk Tryz.prog 55 Tryz.f55 := ⟨Tryz.func55, by kernel_rfl⟩
theorem unit_a (a b c : Nat) : ACalls Tryz.prog 55 [.agg [.flt a, .flt b, .flt c]] (.tup [.agg [.flt (unitV a b c a), .flt (unitV a b c b), .flt (unitV a b c c)], .int .i64 (unitE a b c)]) := by
  refine acalls_of (inl := hasI (P := Tryz.prog) [] []) (base [fine_k, length_k, over_k] [] []) 0 unit_f (And.intro (by kernel_rfl) ?_)
  repeat' (first | refine And.intro ?_ ?_ | (with_reducible exact ff_elim) | (with_reducible exact tf_elim) | intro _ | (with_reducible rfl) | ((with_reducible refine lk_t ?_); exact rfl) | ((with_reducible refine pf_t ?_); exact rfl) | refine tell ?_ | exact True.intro | (refine IsT.of ?_; kernel_rfl))
  all_goals ((try refine Tell.mk ?_); first | with_reducible rfl | ((show (_ : Int) ≤ _); decide) | ((show (_ : Int) < _); decide) | (with_reducible refine gb_t ?_; with_reducible assumption) | with_reducible assumption | (with_reducible refine gb_f ?_; with_reducible assumption) | (simp only [unitV, unitE, *, cond_true, cond_false]; done) | ((with_reducible refine ks_t ?_); rfl) | ((with_reducible refine pk_t ?_); rfl) | ((with_reducible refine pf_t ?_); rfl) | ((with_reducible refine lk_t ?_); rfl) | ((with_reducible refine okF_t ?_); kernel_rfl) | grind [gb, unitV, unitE])
def unit_k : Con Tryz.prog := ⟨55, fun args => match args with | [.agg [.flt a, .flt b, .flt c]] => .ok (none) (.tup [.agg [.flt (unitV a b c a), .flt (unitV a b c b), .flt (unitV a b c c)], .int .i64 (unitE a b c)]) | _ => .no, by
  intro args p r h hp
  split at h
  · cases h; exact unit_a _ _ _
  · cases h⟩
theorem unitR_f : FnOk Tryz.prog 60 Tryz.f60 := ⟨Tryz.func60, by kernel_rfl⟩
theorem unitR_a (a b c : Nat) : ACalls Tryz.prog 60 [.agg [.flt a, .flt b, .flt c]] (.tup [.agg [.flt (unitV a b c a), .flt (unitV a b c b), .flt (unitV a b c c)], .int .i64 (unitE a b c)]) := by
  refine acalls_of (inl := hasI (P := Tryz.prog) [] []) (base [fineR_k, lengthR_k, overR_k] [] []) 0 unitR_f (And.intro (by kernel_rfl) ?_)
  repeat' (first | refine And.intro ?_ ?_ | (with_reducible exact ff_elim) | (with_reducible exact tf_elim) | intro _ | (with_reducible rfl) | ((with_reducible refine lk_t ?_); exact rfl) | ((with_reducible refine pf_t ?_); exact rfl) | refine tell ?_ | exact True.intro | (refine IsT.of ?_; kernel_rfl))
  all_goals ((try refine Tell.mk ?_); first | with_reducible rfl | ((show (_ : Int) ≤ _); decide) | ((show (_ : Int) < _); decide) | (with_reducible refine gb_t ?_; with_reducible assumption) | with_reducible assumption | (with_reducible refine gb_f ?_; with_reducible assumption) | (simp only [unitV, unitE, *, cond_true, cond_false]; done) | ((with_reducible refine ks_t ?_); rfl) | ((with_reducible refine pk_t ?_); rfl) | ((with_reducible refine pf_t ?_); rfl) | ((with_reducible refine lk_t ?_); rfl) | ((with_reducible refine okF_t ?_); kernel_rfl) | grind [gb, unitV, unitE])
def unitR_k : Con Tryz.prog := ⟨60, fun args => match args with | [.agg [.flt a, .flt b, .flt c]] => .ok (none) (.tup [.agg [.flt (unitV a b c a), .flt (unitV a b c b), .flt (unitV a b c c)], .int .i64 (unitE a b c)]) | _ => .no, by
  intro args p r h hp
  split at h
  · cases h; exact unitR_a _ _ _
  · cases h⟩
end Go.Proofs.YtphdjmaebdmdmaaGreatDoor
/- The order of floats. -/
namespace Go.Proofs.YtphdjmaebdmdmaaGreatDoor
open Go.RowKit Ev
set_option linter.unusedVariables false
set_option linter.unusedSimpArgs false

theorem datum_swap (a b : Ieee.Datum) : b.order a = (a.order b).map Ordering.swap := by
  cases a <;> cases b <;> simp only [Ieee.Datum.order, Option.map_none, Option.map_some]
  · rename_i s m i t n j
    rw [Int.min_comm j i]
    congr 1
    exact (Std.OrientedCmp.eq_swap (cmp := (compare : Int → Int → Ordering)))
  · rename_i t; cases t <;> rfl
  · rename_i s _ _ _; cases s <;> rfl
  · congr 1
    exact (Std.OrientedCmp.eq_swap (cmp := (compare : Nat → Nat → Ordering)))
theorem order_swap (x y : Nat) : Ieee.double.order y x = (Ieee.double.order x y).map Ordering.swap := datum_swap _ _
theorem fgt_flt (x y : Nat) : fgt x y = flt y x := by
  show (Ieee.double.order x y == some .gt) = (Ieee.double.order y x == some .lt)
  rw [order_swap y x]
  rcases Ieee.double.order y x with _ | o
  · rfl
  · cases o <;> rfl
theorem order_some {x y : Nat} (hx : isN x = false) (hy : isN y = false) : ∃ o, Ieee.double.order x y = some o := by
  unfold isN at hx hy
  unfold Ieee.Format.order
  generalize Ieee.double.read x = a at *
  generalize Ieee.double.read y = b at *
  cases a <;> cases b <;> simp [Ieee.Datum.isNaN, Ieee.Datum.order] at *
theorem order_none {x y : Nat} (h : isN x = true) : Ieee.double.order x y = none := by
  obtain ⟨s, t, e⟩ := read_nan h
  simp [Ieee.Format.order, e, Ieee.Datum.order]
theorem flt_nan {x y : Nat} (h : isN x = true) : flt x y = false ∧ feq x y = false ∧ fgt x y = false := by
  have e : FloatKind.f64.format.order x y = none := order_none h
  unfold flt feq fgt; rw [e]; exact ⟨rfl, rfl, rfl⟩
theorem le_not {x y : Nat} (hx : isN x = false) (hy : isN y = false) : (flt x y || feq x y) = !(fgt x y) := by
  obtain ⟨o, h⟩ := order_some hx hy
  have h : FloatKind.f64.format.order x y = some o := h
  unfold flt feq fgt; rw [h]; cases o <;> rfl
theorem feq_refl {x : Nat} (h : isN x = false) : feq x x = true := by
  obtain ⟨o, e⟩ := order_some h h
  have h2 := order_swap x x
  rw [e] at h2
  have : o = .eq := by
    cases o
    · cases h2
    · rfl
    · cases h2
  subst this
  have e : FloatKind.f64.format.order x x = some .eq := e
  unfold feq; rw [e]; rfl
theorem feq_notN {x y : Nat} (h : feq x y = true) : isN x = false := by
  cases hx : isN x with
  | false => rfl
  | true => rw [(flt_nan hx).2.1] at h; cases h
theorem word_notN (s : Bool) (r : Nat) (h : r ≤ 9218868437227405312) : isN (Ieee.double.word s r) = false := by
  have hs : Ieee.double.signWeight = 9223372036854775808 := by decide +kernel
  have hi : Ieee.double.infRung = 9218868437227405312 := by decide +kernel
  have e : Ieee.double.word s r % 9223372036854775808 = r := by
    unfold Ieee.Format.word; rw [hs]; split <;> omega
  unfold isN Ieee.Format.read
  simp only [hs, hi, e]
  split
  · rfl
  · split
    · rfl
    · split
      · rfl
      · omega
theorem order_zero {s : Bool} {m : Nat} {i : Int} (h : (Ieee.Datum.number s m i).order (.number false 0 (-1074)) = some .eq) : m = 0 := by
  simp only [Ieee.Datum.order, Option.some.injEq] at h
  have h := Std.LawfulEqCmp.eq_of_compare h
  have e : Ieee.signed false 0 ((-1074 : Int) - min i (-1074)).toNat = 0 := by simp [Ieee.signed]
  rw [e] at h
  have : m <<< (i - min i (-1074)).toNat = 0 := by
    cases s <;> simp [Ieee.signed] at h <;> simp [Nat.shiftLeft_eq, h]
  rw [Nat.shiftLeft_eq] at this
  rcases Nat.mul_eq_zero.1 this with h | h
  · exact h
  · exact absurd h (by have := Nat.two_pow_pos (i - min i (-1074)).toNat; omega)
/-- What is nought, one is divided by: an infinity. -/
theorem over_zero {x : Nat} (h : feq x 0 = true) : isN (F .quo 4607182418800017408 x) = false := by
  have hx := feq_notN h
  have h0 : Ieee.double.order x 0 = some .eq := by
    have : (Ieee.double.order x 0 == some .eq) = true := h
    simpa using this
  have r0 : Ieee.double.read 0 = .number false 0 (-1074) := by decide +kernel
  have r1 : Ieee.double.read 4607182418800017408 = .number false 4503599627370496 (-52) := by decide +kernel
  unfold Ieee.Format.order at h0
  rw [r0] at h0
  cases hr : Ieee.double.read x with
  | nan s t => unfold isN at hx; rw [hr] at hx; cases hx
  | infinity s => rw [hr] at h0; cases s <;> cases h0
  | number s m i =>
    rw [hr] at h0
    have hm := order_zero h0
    subst hm
    have e : fop .quo 4607182418800017408 x = some (Ieee.double.word (false ^^ s) Ieee.double.infRung) := by
      unfold fop floatBits
      simp only [FloatKind.format, Ieee.Format.div, r1, hr, Ieee.Datum.quotient]
      rfl
    have hi : Ieee.double.infRung = 9218868437227405312 := by decide +kernel
    unfold F
    rw [e]
    simp only
    rw [isN_cn, hi]
    exact word_notN _ _ (Nat.le_refl _)
end Go.Proofs.YtphdjmaebdmdmaaGreatDoor
/- What is the same is the same. -/
namespace Go.Proofs.YtphdjmaebdmdmaaGreatDoor
open Go.RowKit Ev

theorem sameV_refl (x : Nat) : sameV x x = true := by
  unfold sameV
  cases h : feq x x with
  | false => rfl
  | true =>
    cases h0 : feq x 0 with
    | false => rfl
    | true => rw [feq_refl (over_zero h0)]; rfl
end Go.Proofs.YtphdjmaebdmdmaaGreatDoor
/- Eyes and their rays; the law BounceRays. -/
namespace Go.Proofs.YtphdjmaebdmdmaaGreatDoor
open Go.RowKit Ev
set_option linter.unusedVariables false
set_option linter.unusedSimpArgs false
set_option maxRecDepth 20000
set_option maxHeartbeats 4000000

/-- A number that is near is a number. -/
theorem near_num {x : Nat} (h : nearB x = true) : isN x = false := by
  cases hx : isN x
  · rfl
  · have e := (flt_nan (y := 13920209183539462144) hx)
    unfold nearB at h
    rw [e.2.1, e.2.2] at h
    cases h
theorem zero_num : isN 0 = false := by decide +kernel
theorem pos_le {x : Nat} (h : nearB x = true) : (flt x 0 || feq x 0) = !(fgt x 0) := le_not (near_num h) zero_num
/-- What a view of an eye is made of. -/
def vF (a b c d e f x : Nat) : Nat := unitV (F .sub d a) (F .sub e b) (F .sub f c) x
def vX (a b c d e f : Nat) : Nat := vF a b c d e f (F .sub d a)
def vY (a b c d e f : Nat) : Nat := vF a b c d e f (F .sub e b)
def vZ (a b c d e f : Nat) : Nat := vF a b c d e f (F .sub f c)
def gX (a b c d e f u v w : Nat) : Nat := crsV (vY a b c d e f) (vZ a b c d e f) v w
def gY (a b c d e f u v w : Nat) : Nat := crsV (vZ a b c d e f) (vX a b c d e f) w u
def gZ (a b c d e f u v w : Nat) : Nat := crsV (vX a b c d e f) (vY a b c d e f) u v
def gL (a b c d e f u v w : Nat) : Nat := lenV (gX a b c d e f u v w) (gY a b c d e f u v w) (gZ a b c d e f u v w)
def eyeP (a b c d e f u v w k : Nat) (pos : Bool) : Int :=
  bif !(fineB a b c) || !(fineB d e f) || !(fineB u v w) || !(nearB k) then 1 else bif pos then 6 else
  bif !(unitE (F .sub d a) (F .sub e b) (F .sub f c) == 0) then unitE (F .sub d a) (F .sub e b) (F .sub f c) else bif feq (gL a b c d e f u v w) 0 then 2 else 0
def eyeE (a b c d e f u v w k : Nat) : Int := eyeP a b c d e f u v w k (!(fgt k 0))
def eyeR (a b c d e f u v w k : Nat) : Int := eyeP a b c d e f u v w k (flt k 0 || feq k 0)
theorem eye_eq (a b c d e f u v w k : Nat) : eyeR a b c d e f u v w k = eyeE a b c d e f u v w k := by
  unfold eyeR eyeE
  cases h : nearB k
  · unfold eyeP; rw [h]; simp
  · rw [pos_le h]
theorem mayEye_f : FnOk Tryz.prog 13 Tryz.f13 := ⟨Tryz.func13, by kernel_rfl⟩
theorem mayEye_a (a b c d e f u v w k : Nat) : ACalls Tryz.prog 13 [.agg [.flt a, .flt b, .flt c, .flt d, .flt e, .flt f, .flt u, .flt v, .flt w, .flt k]] (.int .i64 (eyeE a b c d e f u v w k)) := by
  refine acalls_of (inl := hasI (P := Tryz.prog) [] []) (base [fine_k, near_k, sub_k, unit_k, cross_k, length_k] [] []) 0 mayEye_f (And.intro (by kernel_rfl) ?_)
  repeat' (first | refine And.intro ?_ ?_ | (with_reducible exact ff_elim) | (with_reducible exact tf_elim) | intro _ | (with_reducible rfl) | ((with_reducible refine lk_t ?_); exact rfl) | ((with_reducible refine pf_t ?_); exact rfl) | refine tell ?_ | exact True.intro | (refine IsT.of ?_; kernel_rfl))
  all_goals ((try refine Tell.mk ?_); first | with_reducible rfl | ((show (_ : Int) ≤ _); decide) | ((show (_ : Int) < _); decide) | (with_reducible refine gb_t ?_; with_reducible assumption) | with_reducible assumption | (with_reducible refine gb_f ?_; with_reducible assumption) | (simp only [eyeE, eyeP, gL, gX, gY, gZ, vX, vY, vZ, vF, bne, *, cond_true, cond_false]; done) | ((with_reducible refine ks_t ?_); rfl) | ((with_reducible refine pk_t ?_); rfl) | ((with_reducible refine pf_t ?_); rfl) | ((with_reducible refine lk_t ?_); rfl) | ((with_reducible refine okF_t ?_); kernel_rfl) | grind [gb, eyeE, eyeP, gL, gX, gY, gZ, vX, vY, vZ, vF, bne])
def mayEye_k : Con Tryz.prog := ⟨13, fun args => match args with | [.agg [.flt a, .flt b, .flt c, .flt d, .flt e, .flt f, .flt u, .flt v, .flt w, .flt k]] => .ok (none) (.int .i64 (eyeE a b c d e f u v w k)) | _ => .no, by
  intro args p r h hp
  split at h
  · cases h; exact mayEye_a _ _ _ _ _ _ _ _ _ _
  · cases h⟩
theorem mayEyeR_f : FnOk Tryz.prog 14 Tryz.f14 := ⟨Tryz.func14, by kernel_rfl⟩
theorem mayEyeR_a (a b c d e f u v w k : Nat) : ACalls Tryz.prog 14 [.agg [.flt a, .flt b, .flt c, .flt d, .flt e, .flt f, .flt u, .flt v, .flt w, .flt k]] (.int .i64 (eyeR a b c d e f u v w k)) := by
  refine acalls_of (inl := hasI (P := Tryz.prog) [] []) (base [fineR_k, nearR_k, subR_k, unitR_k, crossR_k, lengthR_k] [] []) 0 mayEyeR_f (And.intro (by kernel_rfl) ?_)
  repeat' (first | refine And.intro ?_ ?_ | (with_reducible exact ff_elim) | (with_reducible exact tf_elim) | intro _ | (with_reducible rfl) | ((with_reducible refine lk_t ?_); exact rfl) | ((with_reducible refine pf_t ?_); exact rfl) | refine tell ?_ | exact True.intro | (refine IsT.of ?_; kernel_rfl))
  all_goals ((try refine Tell.mk ?_); first | with_reducible rfl | ((show (_ : Int) ≤ _); decide) | ((show (_ : Int) < _); decide) | (with_reducible refine gb_t ?_; with_reducible assumption) | with_reducible assumption | (with_reducible refine gb_f ?_; with_reducible assumption) | (simp only [eyeR, eyeP, gL, gX, gY, gZ, vX, vY, vZ, vF, bne, *, cond_true, cond_false]; done) | ((with_reducible refine ks_t ?_); rfl) | ((with_reducible refine pk_t ?_); rfl) | ((with_reducible refine pf_t ?_); rfl) | ((with_reducible refine lk_t ?_); rfl) | ((with_reducible refine okF_t ?_); kernel_rfl) | grind [gb, eyeR, eyeP, gL, gX, gY, gZ, vX, vY, vZ, vF, bne])
def mayEyeR_k : Con Tryz.prog := ⟨14, fun args => match args with | [.agg [.flt a, .flt b, .flt c, .flt d, .flt e, .flt f, .flt u, .flt v, .flt w, .flt k]] => .ok (none) (.int .i64 (eyeR a b c d e f u v w k)) | _ => .no, by
  intro args p r h hp
  split at h
  · cases h; exact mayEyeR_a _ _ _ _ _ _ _ _ _ _
  · cases h⟩
theorem feq00 : feq 0 0 = true := by decide +kernel
def nI (n : Int) : Nat := cn (FloatKind.f64.nearest n)
/-- The way of a ray. -/
def sA (U : Int) (k : Nat) : Nat := F .mul (F .sub (F .quo (nI U) 4679240012837945344) 4602678819172646912) k
def sB (V : Int) (k t : Nat) : Nat := F .mul (F .mul (F .sub 4602678819172646912 (F .quo (nI V) 4679240012837945344)) k) t
def rX (a b c d e f u v w : Nat) : Nat := F .quo (gX a b c d e f u v w) (gL a b c d e f u v w)
def rY (a b c d e f u v w : Nat) : Nat := F .quo (gY a b c d e f u v w) (gL a b c d e f u v w)
def rZ (a b c d e f u v w : Nat) : Nat := F .quo (gZ a b c d e f u v w) (gL a b c d e f u v w)
def oX (a b c d e f u v w : Nat) : Nat := crsV (rY a b c d e f u v w) (rZ a b c d e f u v w) (vY a b c d e f) (vZ a b c d e f)
def oY (a b c d e f u v w : Nat) : Nat := crsV (rZ a b c d e f u v w) (rX a b c d e f u v w) (vZ a b c d e f) (vX a b c d e f)
def oZ (a b c d e f u v w : Nat) : Nat := crsV (rX a b c d e f u v w) (rY a b c d e f u v w) (vX a b c d e f) (vY a b c d e f)
def wX (a b c d e f u v w k : Nat) (U V : Int) (t : Nat) : Nat := cleanV (F .add (F .add (vX a b c d e f) (F .mul (rX a b c d e f u v w) (sA U k))) (F .mul (oX a b c d e f u v w) (sB V k t)))
def wY (a b c d e f u v w k : Nat) (U V : Int) (t : Nat) : Nat := cleanV (F .add (F .add (vY a b c d e f) (F .mul (rY a b c d e f u v w) (sA U k))) (F .mul (oY a b c d e f u v w) (sB V k t)))
def wZ (a b c d e f u v w k : Nat) (U V : Int) (t : Nat) : Nat := cleanV (F .add (F .add (vZ a b c d e f) (F .mul (rZ a b c d e f u v w) (sA U k))) (F .mul (oZ a b c d e f u v w) (sB V k t)))
/-- What a ray is asked for first. -/
def askP (y : Int) (U V : Int) (t : Nat) (pos : Bool) : Int := bif !(y == 0) then y else bif !(nearB t) || pos then 1 else bif decide (U < 0) || decide (U > 65536) || decide (V < 0) || decide (V > 65536) then 6 else 0
def askE (a b c d e f u v w k : Nat) (U V : Int) (t : Nat) : Int := askP (eyeE a b c d e f u v w k) U V t (!(fgt t 0))
def askR (a b c d e f u v w k : Nat) (U V : Int) (t : Nat) : Int := askP (eyeR a b c d e f u v w k) U V t (flt t 0 || feq t 0)
theorem ask_eq (a b c d e f u v w k : Nat) (U V : Int) (t : Nat) : askR a b c d e f u v w k U V t = askE a b c d e f u v w k U V t := by
  unfold askR askE
  rw [eye_eq]
  cases h : nearB t
  · unfold askP; rw [h]; simp
  · rw [pos_le h]
def ifb (y : Int) (x : Nat) : Nat := bif y == 0 then x else 0
def rayQ (y : Int) (a b c x y' z : Nat) : Int := bif y == 0 then rayV a b c x y' z 0 else y
end Go.Proofs.YtphdjmaebdmdmaaGreatDoor
/- Shapes: which ones may be. -/
namespace Go.Proofs.YtphdjmaebdmdmaaGreatDoor
open Go.RowKit Ev
set_option linter.unusedVariables false
set_option linter.unusedSimpArgs false
set_option maxRecDepth 20000
set_option maxHeartbeats 4000000

/-- The axis of which alone a vector has something. -/
def aloneV (a b c : Nat) : Int := bif !(feq a 0) && (feq b 0 && feq c 0) then 0 else bif feq a 0 && (!(feq b 0) && feq c 0) then 1 else bif feq a 0 && (feq b 0 && !(feq c 0)) then 2 else -1
theorem alone_f : FnOk Tryz.prog 186 Tryz.f186 := ⟨Tryz.func186, by kernel_rfl⟩
theorem alone_a (a b c : Nat) : ACalls Tryz.prog 186 [.agg [.flt a, .flt b, .flt c]] (.int .i64 (aloneV a b c)) := by
  refine acalls_of (inl := hasI (P := Tryz.prog) [] []) (base [] [] []) 0 alone_f (And.intro (by kernel_rfl) ?_)
  repeat' (first | refine And.intro ?_ ?_ | (with_reducible exact ff_elim) | (with_reducible exact tf_elim) | intro _ | (with_reducible rfl) | ((with_reducible refine lk_t ?_); exact rfl) | ((with_reducible refine pf_t ?_); exact rfl) | refine tell ?_ | exact True.intro | (refine IsT.of ?_; kernel_rfl))
  all_goals ((try refine Tell.mk ?_); first | with_reducible rfl | ((show (_ : Int) ≤ _); decide) | ((show (_ : Int) < _); decide) | (with_reducible refine gb_t ?_; with_reducible assumption) | with_reducible assumption | (with_reducible refine gb_f ?_; with_reducible assumption) | (simp only [aloneV, *, cond_true, cond_false]; done) | ((with_reducible refine ks_t ?_); rfl) | ((with_reducible refine pk_t ?_); rfl) | ((with_reducible refine pf_t ?_); rfl) | ((with_reducible refine lk_t ?_); rfl) | ((with_reducible refine okF_t ?_); kernel_rfl) | grind [gb, aloneV])
def alone_k : Con Tryz.prog := ⟨186, fun args => match args with | [.agg [.flt a, .flt b, .flt c]] => .ok (none) (.int .i64 (aloneV a b c)) | _ => .no, by
  intro args p r h hp
  split at h
  · cases h; exact alone_a _ _ _
  · cases h⟩
theorem axisOf_f : FnOk Tryz.prog 89 Tryz.f89 := ⟨Tryz.func89, by kernel_rfl⟩
theorem axisOf_a (a b c : Nat) : ACalls Tryz.prog 89 [.agg [.flt a, .flt b, .flt c]] (.int .i64 (aloneV a b c)) := by
  refine acalls_of (inl := hasI (P := Tryz.prog) [] []) (base [axis_k] [] []) 0 axisOf_f (And.intro (by kernel_rfl) ?_)
  repeat' (first | refine And.intro ?_ ?_ | refine num_lit 0 (by decide) ?_ | refine num_lit 1 (by decide) ?_ | refine num_lit 2 (by decide) ?_ | refine num_lit 3 (by decide) ?_ | refine num_lit 4 (by decide) ?_ | refine num_lit 5 (by decide) ?_ | refine num_lit 6 (by decide) ?_ | refine num_lit 7 (by decide) ?_ | refine num_lit 8 (by decide) ?_ | refine num_elim ?_ | (with_reducible exact ff_elim) | (with_reducible exact tf_elim) | (intro h; exact absurd h (by decide)) | intro _ | (with_reducible rfl) | refine Or.inl ⟨4, ?_⟩ | refine tell ?_ | exact True.intro | (refine IsT.of ?_; kernel_rfl))
  all_goals ((try refine Tell.mk ?_); first | with_reducible rfl | ((show (_ : Int) ≤ _); decide) | ((show (_ : Int) < _); decide) | (with_reducible refine gb_t ?_; with_reducible assumption) | with_reducible assumption | (with_reducible refine gb_f ?_; with_reducible assumption) | (simp only [aloneV, axV, *, cond_true, cond_false]; done) | ((with_reducible refine ks_t ?_); rfl) | ((with_reducible refine pk_t ?_); rfl) | ((with_reducible refine pf_t ?_); rfl) | ((with_reducible refine lk_t ?_); rfl) | ((with_reducible refine okF_t ?_); kernel_rfl) | grind [gb, aloneV, axV])
def axisOf_k : Con Tryz.prog := ⟨89, fun args => match args with | [.agg [.flt a, .flt b, .flt c]] => .ok (none) (.int .i64 (aloneV a b c)) | _ => .no, by
  intro args p r h hp
  split at h
  · cases h; exact axisOf_a _ _ _
  · cases h⟩
/-- Nought in one axis. -/
def wo (k j : Int) (x : Nat) : Nat := bif k == j then 0 else x
theorem without_f : FnOk Tryz.prog 282 Tryz.f282 := ⟨Tryz.func282, by kernel_rfl⟩
theorem without_a (a b c : Nat) (k : Int) : ACalls Tryz.prog 282 [.agg [.flt a, .flt b, .flt c], .int .i64 k] (.agg [.flt (wo k 0 a), .flt (wo k 1 b), .flt (bif k == 0 || k == 1 then c else 0)]) := by
  refine acalls_of (inl := hasI (P := Tryz.prog) [] []) (base [] [] []) 0 without_f (And.intro (by kernel_rfl) ?_)
  repeat' (first | refine And.intro ?_ ?_ | (with_reducible exact ff_elim) | (with_reducible exact tf_elim) | intro _ | (with_reducible rfl) | ((with_reducible refine lk_t ?_); exact rfl) | ((with_reducible refine pf_t ?_); exact rfl) | refine tell ?_ | exact True.intro | (refine IsT.of ?_; kernel_rfl))
  all_goals ((try refine Tell.mk ?_); first | with_reducible rfl | ((show (_ : Int) ≤ _); decide) | ((show (_ : Int) < _); decide) | (with_reducible refine gb_t ?_; with_reducible assumption) | with_reducible assumption | (with_reducible refine gb_f ?_; with_reducible assumption) | (simp only [wo, *, cond_true, cond_false]; done) | ((with_reducible refine ks_t ?_); rfl) | ((with_reducible refine pk_t ?_); rfl) | ((with_reducible refine pf_t ?_); rfl) | ((with_reducible refine lk_t ?_); rfl) | ((with_reducible refine okF_t ?_); kernel_rfl) | grind [gb, wo])
def without_k : Con Tryz.prog := ⟨282, fun args => match args with | [.agg [.flt a, .flt b, .flt c], .int .i64 k] => .ok (none) (.agg [.flt (wo k 0 a), .flt (wo k 1 b), .flt (bif k == 0 || k == 1 then c else 0)]) | _ => .no, by
  intro args p r h hp
  split at h
  · cases h; exact without_a _ _ _ _
  · cases h⟩
theorem flat_f : FnOk Tryz.prog 281 Tryz.f281 := ⟨Tryz.func281, by kernel_rfl⟩
theorem flat_a (r : Nat) (k : Int) : ACalls Tryz.prog 281 [.flt r, .int .i64 k] (.agg [.flt (wo k 0 r), .flt (wo k 1 r), .flt (bif k == 0 || k == 1 then r else 0)]) := by
  refine acalls_of (inl := hasI (P := Tryz.prog) [] []) (base [without_k] [] []) 0 flat_f (And.intro (by kernel_rfl) ?_)
  repeat' (first | refine And.intro ?_ ?_ | (with_reducible exact ff_elim) | (with_reducible exact tf_elim) | intro _ | (with_reducible rfl) | ((with_reducible refine lk_t ?_); exact rfl) | ((with_reducible refine pf_t ?_); exact rfl) | refine tell ?_ | exact True.intro | (refine IsT.of ?_; kernel_rfl))
  all_goals ((try refine Tell.mk ?_); first | with_reducible rfl | ((show (_ : Int) ≤ _); decide) | ((show (_ : Int) < _); decide) | (with_reducible refine gb_t ?_; with_reducible assumption) | with_reducible assumption | (with_reducible refine gb_f ?_; with_reducible assumption) | (simp only [gb, *, cond_true, cond_false]; done) | ((with_reducible refine ks_t ?_); rfl) | ((with_reducible refine pk_t ?_); rfl) | ((with_reducible refine pf_t ?_); rfl) | ((with_reducible refine lk_t ?_); rfl) | ((with_reducible refine okF_t ?_); kernel_rfl) | grind [gb])
def flat_k : Con Tryz.prog := ⟨281, fun args => match args with | [.flt r, .int .i64 k] => .ok (none) (.agg [.flt (wo k 0 r), .flt (wo k 1 r), .flt (bif k == 0 || k == 1 then r else 0)]) | _ => .no, by
  intro args p r h hp
  split at h
  · cases h; exact flat_a _ _
  · cases h⟩
theorem about_f : FnOk Tryz.prog 267 Tryz.f267 := ⟨Tryz.func267, by kernel_rfl⟩
theorem about_a (a b c r : Nat) : ACalls Tryz.prog 267 [.agg [.flt a, .flt b, .flt c], .flt r] (.agg [.flt (F .sub a r), .flt (F .sub b r), .flt (F .sub c r), .flt (F .add a r), .flt (F .add b r), .flt (F .add c r)]) := by
  refine acalls_of (inl := hasI (P := Tryz.prog) [] []) (base [sub_k, add_k] [] []) 0 about_f (And.intro (by kernel_rfl) ?_)
  repeat' (first | refine And.intro ?_ ?_ | (with_reducible exact ff_elim) | (with_reducible exact tf_elim) | intro _ | (with_reducible rfl) | ((with_reducible refine lk_t ?_); exact rfl) | ((with_reducible refine pf_t ?_); exact rfl) | refine tell ?_ | exact True.intro | (refine IsT.of ?_; kernel_rfl))
  all_goals ((try refine Tell.mk ?_); first | with_reducible rfl | ((show (_ : Int) ≤ _); decide) | ((show (_ : Int) < _); decide) | (with_reducible refine gb_t ?_; with_reducible assumption) | with_reducible assumption | (with_reducible refine gb_f ?_; with_reducible assumption) | (simp only [gb, *, cond_true, cond_false]; done) | ((with_reducible refine ks_t ?_); rfl) | ((with_reducible refine pk_t ?_); rfl) | ((with_reducible refine pf_t ?_); rfl) | ((with_reducible refine lk_t ?_); rfl) | ((with_reducible refine okF_t ?_); kernel_rfl) | grind [gb])
def about_k : Con Tryz.prog := ⟨267, fun args => match args with | [.agg [.flt a, .flt b, .flt c], .flt r] => .ok (none) (.agg [.flt (F .sub a r), .flt (F .sub b r), .flt (F .sub c r), .flt (F .add a r), .flt (F .add b r), .flt (F .add c r)]) | _ => .no, by
  intro args p r h hp
  split at h
  · cases h; exact about_a _ _ _ _
  · cases h⟩
end Go.Proofs.YtphdjmaebdmdmaaGreatDoor
/- Shapes: which ones may be, kind by kind. -/
namespace Go.Proofs.YtphdjmaebdmdmaaGreatDoor
open Go.RowKit Ev
set_option linter.unusedVariables false
set_option linter.unusedSimpArgs false
set_option maxRecDepth 20000
set_option maxHeartbeats 4000000

/-- The third number of what is nought in one axis. -/
def wz (k : Int) (x : Nat) : Nat := bif k == 0 || k == 1 then x else 0
theorem ballB_f : FnOk Tryz.prog 264 Tryz.f264 := ⟨Tryz.func264, by kernel_rfl⟩
theorem ballB_a (a b c r : Nat) : ACalls Tryz.prog 264 [.agg [.flt a, .flt b, .flt c, .flt r]] (.agg [.flt (F .sub a r), .flt (F .sub b r), .flt (F .sub c r), .flt (F .add a r), .flt (F .add b r), .flt (F .add c r)]) := by
  refine acalls_of (inl := hasI (P := Tryz.prog) [] []) (base [about_k] [] []) 0 ballB_f (And.intro (by kernel_rfl) ?_)
  repeat' (first | refine And.intro ?_ ?_ | (with_reducible exact ff_elim) | (with_reducible exact tf_elim) | intro _ | (with_reducible rfl) | ((with_reducible refine lk_t ?_); exact rfl) | ((with_reducible refine pf_t ?_); exact rfl) | refine tell ?_ | exact True.intro | (refine IsT.of ?_; kernel_rfl))
  all_goals ((try refine Tell.mk ?_); first | with_reducible rfl | ((show (_ : Int) ≤ _); decide) | ((show (_ : Int) < _); decide) | (with_reducible refine gb_t ?_; with_reducible assumption) | with_reducible assumption | (with_reducible refine gb_f ?_; with_reducible assumption) | (simp only [gb, *, cond_true, cond_false]; done) | ((with_reducible refine ks_t ?_); rfl) | ((with_reducible refine pk_t ?_); rfl) | ((with_reducible refine pf_t ?_); rfl) | ((with_reducible refine lk_t ?_); rfl) | ((with_reducible refine okF_t ?_); kernel_rfl) | grind [gb])
def ballB_k : Con Tryz.prog := ⟨264, fun args => match args with | [.agg [.flt a, .flt b, .flt c, .flt r]] => .ok (none) (.agg [.flt (F .sub a r), .flt (F .sub b r), .flt (F .sub c r), .flt (F .add a r), .flt (F .add b r), .flt (F .add c r)]) | _ => .no, by
  intro args p r h hp
  split at h
  · cases h; exact ballB_a _ _ _ _
  · cases h⟩
theorem blockB_f : FnOk Tryz.prog 269 Tryz.f269 := ⟨Tryz.func269, by kernel_rfl⟩
theorem blockB_a (a b c d e f : Nat) : ACalls Tryz.prog 269 [.agg [.flt a, .flt b, .flt c, .flt d, .flt e, .flt f]] (.agg [.flt a, .flt b, .flt c, .flt d, .flt e, .flt f]) := by
  refine acalls_of (inl := hasI (P := Tryz.prog) [] []) (base [] [] []) 0 blockB_f (And.intro (by kernel_rfl) ?_)
  repeat' (first | refine And.intro ?_ ?_ | (with_reducible exact ff_elim) | (with_reducible exact tf_elim) | intro _ | (with_reducible rfl) | ((with_reducible refine lk_t ?_); exact rfl) | ((with_reducible refine pf_t ?_); exact rfl) | refine tell ?_ | exact True.intro | (refine IsT.of ?_; kernel_rfl))
  all_goals ((try refine Tell.mk ?_); first | with_reducible rfl | ((show (_ : Int) ≤ _); decide) | ((show (_ : Int) < _); decide) | (with_reducible refine gb_t ?_; with_reducible assumption) | with_reducible assumption | (with_reducible refine gb_f ?_; with_reducible assumption) | (simp only [gb, *, cond_true, cond_false]; done) | ((with_reducible refine ks_t ?_); rfl) | ((with_reducible refine pk_t ?_); rfl) | ((with_reducible refine pf_t ?_); rfl) | ((with_reducible refine lk_t ?_); rfl) | ((with_reducible refine okF_t ?_); kernel_rfl) | grind [gb])
def blockB_k : Con Tryz.prog := ⟨269, fun args => match args with | [.agg [.flt a, .flt b, .flt c, .flt d, .flt e, .flt f]] => .ok (none) (.agg [.flt a, .flt b, .flt c, .flt d, .flt e, .flt f]) | _ => .no, by
  intro args p r h hp
  split at h
  · cases h; exact blockB_a _ _ _ _ _ _
  · cases h⟩
theorem triB_f : FnOk Tryz.prog 272 Tryz.f272 := ⟨Tryz.func272, by kernel_rfl⟩
theorem triB_a (a b c d e f g h i : Nat) : ACalls Tryz.prog 272 [.agg [.flt a, .flt b, .flt c, .flt d, .flt e, .flt f, .flt g, .flt h, .flt i]] (.agg [.flt (lessV (lessV a d) g), .flt (lessV (lessV b e) h), .flt (lessV (lessV c f) i), .flt (moreV (moreV a d) g), .flt (moreV (moreV b e) h), .flt (moreV (moreV c f) i)]) := by
  refine acalls_of (inl := hasI (P := Tryz.prog) [] []) (base [low_k, high_k] [] []) 0 triB_f (And.intro (by kernel_rfl) ?_)
  repeat' (first | refine And.intro ?_ ?_ | (with_reducible exact ff_elim) | (with_reducible exact tf_elim) | intro _ | (with_reducible rfl) | ((with_reducible refine lk_t ?_); exact rfl) | ((with_reducible refine pf_t ?_); exact rfl) | refine tell ?_ | exact True.intro | (refine IsT.of ?_; kernel_rfl))
  all_goals ((try refine Tell.mk ?_); first | with_reducible rfl | ((show (_ : Int) ≤ _); decide) | ((show (_ : Int) < _); decide) | (with_reducible refine gb_t ?_; with_reducible assumption) | with_reducible assumption | (with_reducible refine gb_f ?_; with_reducible assumption) | (simp only [gb, *, cond_true, cond_false]; done) | ((with_reducible refine ks_t ?_); rfl) | ((with_reducible refine pk_t ?_); rfl) | ((with_reducible refine pf_t ?_); rfl) | ((with_reducible refine lk_t ?_); rfl) | ((with_reducible refine okF_t ?_); kernel_rfl) | grind [gb])
def triB_k : Con Tryz.prog := ⟨272, fun args => match args with | [.agg [.flt a, .flt b, .flt c, .flt d, .flt e, .flt f, .flt g, .flt h, .flt i]] => .ok (none) (.agg [.flt (lessV (lessV a d) g), .flt (lessV (lessV b e) h), .flt (lessV (lessV c f) i), .flt (moreV (moreV a d) g), .flt (moreV (moreV b e) h), .flt (moreV (moreV c f) i)]) | _ => .no, by
  intro args p r h hp
  split at h
  · cases h; exact triB_a _ _ _ _ _ _ _ _ _
  · cases h⟩
theorem plateB_f : FnOk Tryz.prog 275 Tryz.f275 := ⟨Tryz.func275, by kernel_rfl⟩
theorem plateB_a (a b c d e f r : Nat) : ACalls Tryz.prog 275 [.agg [.flt a, .flt b, .flt c, .flt d, .flt e, .flt f, .flt r]] (.agg [.flt (F .sub a r), .flt (F .sub b r), .flt (F .sub c r), .flt (F .add a r), .flt (F .add b r), .flt (F .add c r)]) := by
  refine acalls_of (inl := hasI (P := Tryz.prog) [] []) (base [about_k] [] []) 0 plateB_f (And.intro (by kernel_rfl) ?_)
  repeat' (first | refine And.intro ?_ ?_ | (with_reducible exact ff_elim) | (with_reducible exact tf_elim) | intro _ | (with_reducible rfl) | ((with_reducible refine lk_t ?_); exact rfl) | ((with_reducible refine pf_t ?_); exact rfl) | refine tell ?_ | exact True.intro | (refine IsT.of ?_; kernel_rfl))
  all_goals ((try refine Tell.mk ?_); first | with_reducible rfl | ((show (_ : Int) ≤ _); decide) | ((show (_ : Int) < _); decide) | (with_reducible refine gb_t ?_; with_reducible assumption) | with_reducible assumption | (with_reducible refine gb_f ?_; with_reducible assumption) | (simp only [gb, *, cond_true, cond_false]; done) | ((with_reducible refine ks_t ?_); rfl) | ((with_reducible refine pk_t ?_); rfl) | ((with_reducible refine pf_t ?_); rfl) | ((with_reducible refine lk_t ?_); rfl) | ((with_reducible refine okF_t ?_); kernel_rfl) | grind [gb])
def plateB_k : Con Tryz.prog := ⟨275, fun args => match args with | [.agg [.flt a, .flt b, .flt c, .flt d, .flt e, .flt f, .flt r]] => .ok (none) (.agg [.flt (F .sub a r), .flt (F .sub b r), .flt (F .sub c r), .flt (F .add a r), .flt (F .add b r), .flt (F .add c r)]) | _ => .no, by
  intro args p r h hp
  split at h
  · cases h; exact plateB_a _ _ _ _ _ _ _
  · cases h⟩
theorem tubeB_f : FnOk Tryz.prog 278 Tryz.f278 := ⟨Tryz.func278, by kernel_rfl⟩
theorem tubeB_a (a b c d e f r : Nat) : ACalls Tryz.prog 278 [.agg [.flt a, .flt b, .flt c, .flt d, .flt e, .flt f, .flt r]] (.agg [.flt (F .sub (lessV a (F .add a d)) (wo (aloneV d e f) 0 r)), .flt (F .sub (lessV b (F .add b e)) (wo (aloneV d e f) 1 r)), .flt (F .sub (lessV c (F .add c f)) (wz (aloneV d e f) r)), .flt (F .add (moreV a (F .add a d)) (wo (aloneV d e f) 0 r)), .flt (F .add (moreV b (F .add b e)) (wo (aloneV d e f) 1 r)), .flt (F .add (moreV c (F .add c f)) (wz (aloneV d e f) r))]) := by
  refine acalls_of (inl := hasI (P := Tryz.prog) [] []) (base [add_k, alone_k, flat_k, low_k, high_k, sub_k] [] []) 0 tubeB_f (And.intro (by kernel_rfl) ?_)
  repeat' (first | refine And.intro ?_ ?_ | (with_reducible exact ff_elim) | (with_reducible exact tf_elim) | intro _ | (with_reducible rfl) | ((with_reducible refine lk_t ?_); exact rfl) | ((with_reducible refine pf_t ?_); exact rfl) | refine tell ?_ | exact True.intro | (refine IsT.of ?_; kernel_rfl))
  all_goals ((try refine Tell.mk ?_); first | with_reducible rfl | ((show (_ : Int) ≤ _); decide) | ((show (_ : Int) < _); decide) | (with_reducible refine gb_t ?_; with_reducible assumption) | with_reducible assumption | (with_reducible refine gb_f ?_; with_reducible assumption) | (simp only [wz, *, cond_true, cond_false]; done) | ((with_reducible refine ks_t ?_); rfl) | ((with_reducible refine pk_t ?_); rfl) | ((with_reducible refine pf_t ?_); rfl) | ((with_reducible refine lk_t ?_); rfl) | ((with_reducible refine okF_t ?_); kernel_rfl) | grind [gb, wz])
def tubeB_k : Con Tryz.prog := ⟨278, fun args => match args with | [.agg [.flt a, .flt b, .flt c, .flt d, .flt e, .flt f, .flt r]] => .ok (none) (.agg [.flt (F .sub (lessV a (F .add a d)) (wo (aloneV d e f) 0 r)), .flt (F .sub (lessV b (F .add b e)) (wo (aloneV d e f) 1 r)), .flt (F .sub (lessV c (F .add c f)) (wz (aloneV d e f) r)), .flt (F .add (moreV a (F .add a d)) (wo (aloneV d e f) 0 r)), .flt (F .add (moreV b (F .add b e)) (wo (aloneV d e f) 1 r)), .flt (F .add (moreV c (F .add c f)) (wz (aloneV d e f) r))]) | _ => .no, by
  intro args p r h hp
  split at h
  · cases h; exact tubeB_a _ _ _ _ _ _ _
  · cases h⟩
theorem ringB_f : FnOk Tryz.prog 283 Tryz.f283 := ⟨Tryz.func283, by kernel_rfl⟩
theorem ringB_a (a b c d e f r q : Nat) : ACalls Tryz.prog 283 [.agg [.flt a, .flt b, .flt c, .flt d, .flt e, .flt f, .flt r, .flt q]] (.agg [.flt (F .sub a (F .add (wo (aloneV d e f) 0 r) q)), .flt (F .sub b (F .add (wo (aloneV d e f) 1 r) q)), .flt (F .sub c (F .add (wz (aloneV d e f) r) q)), .flt (F .add a (F .add (wo (aloneV d e f) 0 r) q)), .flt (F .add b (F .add (wo (aloneV d e f) 1 r) q)), .flt (F .add c (F .add (wz (aloneV d e f) r) q))]) := by
  refine acalls_of (inl := hasI (P := Tryz.prog) [] []) (base [add_k, alone_k, flat_k, sub_k] [] []) 0 ringB_f (And.intro (by kernel_rfl) ?_)
  repeat' (first | refine And.intro ?_ ?_ | (with_reducible exact ff_elim) | (with_reducible exact tf_elim) | intro _ | (with_reducible rfl) | ((with_reducible refine lk_t ?_); exact rfl) | ((with_reducible refine pf_t ?_); exact rfl) | refine tell ?_ | exact True.intro | (refine IsT.of ?_; kernel_rfl))
  all_goals ((try refine Tell.mk ?_); first | with_reducible rfl | ((show (_ : Int) ≤ _); decide) | ((show (_ : Int) < _); decide) | (with_reducible refine gb_t ?_; with_reducible assumption) | with_reducible assumption | (with_reducible refine gb_f ?_; with_reducible assumption) | (simp only [wz, *, cond_true, cond_false]; done) | ((with_reducible refine ks_t ?_); rfl) | ((with_reducible refine pk_t ?_); rfl) | ((with_reducible refine pf_t ?_); rfl) | ((with_reducible refine lk_t ?_); rfl) | ((with_reducible refine okF_t ?_); kernel_rfl) | grind [gb, wz])
def ringB_k : Con Tryz.prog := ⟨283, fun args => match args with | [.agg [.flt a, .flt b, .flt c, .flt d, .flt e, .flt f, .flt r, .flt q]] => .ok (none) (.agg [.flt (F .sub a (F .add (wo (aloneV d e f) 0 r) q)), .flt (F .sub b (F .add (wo (aloneV d e f) 1 r) q)), .flt (F .sub c (F .add (wz (aloneV d e f) r) q)), .flt (F .add a (F .add (wo (aloneV d e f) 0 r) q)), .flt (F .add b (F .add (wo (aloneV d e f) 1 r) q)), .flt (F .add c (F .add (wz (aloneV d e f) r) q))]) | _ => .no, by
  intro args p r h hp
  split at h
  · cases h; exact ringB_a _ _ _ _ _ _ _ _
  · cases h⟩
/-- What is said of a box around a shape. -/
def boxE (a b c d e f : Nat) : Int := bif mayV a b c d e f == 0 then 0 else 1
def ballE (a b c r : Nat) : Int := bif fgt r 0 then boxE (F .sub a r) (F .sub b r) (F .sub c r) (F .add a r) (F .add b r) (F .add c r) else 6
def blockE (a b c d e f : Nat) : Int := bif mayV a b c d e f == 0 then 0 else 6
def triE (a b c d e f g h i : Nat) : Int := boxE (lessV (lessV a d) g) (lessV (lessV b e) h) (lessV (lessV c f) i) (moreV (moreV a d) g) (moreV (moreV b e) h) (moreV (moreV c f) i)
def plateE (a b c d e f r : Nat) : Int := bif fgt r 0 then (bif unitE d e f == 0 then boxE (F .sub a r) (F .sub b r) (F .sub c r) (F .add a r) (F .add b r) (F .add c r) else unitE d e f) else 6
def tubeE (a b c d e f r : Nat) : Int := bif fgt r 0 && decide (0 ≤ aloneV d e f) then boxE (F .sub (lessV a (F .add a d)) (wo (aloneV d e f) 0 r)) (F .sub (lessV b (F .add b e)) (wo (aloneV d e f) 1 r)) (F .sub (lessV c (F .add c f)) (wz (aloneV d e f) r)) (F .add (moreV a (F .add a d)) (wo (aloneV d e f) 0 r)) (F .add (moreV b (F .add b e)) (wo (aloneV d e f) 1 r)) (F .add (moreV c (F .add c f)) (wz (aloneV d e f) r)) else 6
def ringE (a b c d e f r q : Nat) : Int := bif fgt q 0 && ((fgt r q || feq r q) && decide (0 ≤ aloneV d e f)) then boxE (F .sub a (F .add (wo (aloneV d e f) 0 r) q)) (F .sub b (F .add (wo (aloneV d e f) 1 r) q)) (F .sub c (F .add (wz (aloneV d e f) r) q)) (F .add a (F .add (wo (aloneV d e f) 0 r) q)) (F .add b (F .add (wo (aloneV d e f) 1 r) q)) (F .add c (F .add (wz (aloneV d e f) r) q)) else 6
theorem fitsBall_f : FnOk Tryz.prog 138 Tryz.f138 := ⟨Tryz.func138, by kernel_rfl⟩
theorem fitsBall_a (a b c r : Nat) : ACalls Tryz.prog 138 [.ifc 166 (.agg [.flt a, .flt b, .flt c, .flt r])] (.int .i64 (ballE a b c r)) := by
  refine acalls_of (inl := hasI (P := Tryz.prog) [] []) (base [ballB_k, may_k, alone_k, unit_k] [] []) 0 fitsBall_f (And.intro (by kernel_rfl) ?_)
  repeat' (first | refine And.intro ?_ ?_ | (with_reducible exact ff_elim) | (with_reducible exact tf_elim) | intro _ | (with_reducible rfl) | ((with_reducible refine lk_t ?_); exact rfl) | ((with_reducible refine pf_t ?_); exact rfl) | refine tell ?_ | exact True.intro | (refine IsT.of ?_; kernel_rfl))
  all_goals ((try refine Tell.mk ?_); first | with_reducible rfl | ((show (_ : Int) ≤ _); decide) | ((show (_ : Int) < _); decide) | (with_reducible refine gb_t ?_; with_reducible assumption) | with_reducible assumption | (with_reducible refine gb_f ?_; with_reducible assumption) | (simp only [ballE, boxE, *, cond_true, cond_false]; done) | ((with_reducible refine ks_t ?_); rfl) | ((with_reducible refine pk_t ?_); rfl) | ((with_reducible refine pf_t ?_); rfl) | ((with_reducible refine lk_t ?_); rfl) | ((with_reducible refine okF_t ?_); kernel_rfl) | grind [gb, ballE, boxE])
def fitsBall_k : Con Tryz.prog := ⟨138, fun args => match args with | [.ifc 166 (.agg [.flt a, .flt b, .flt c, .flt r])] => .ok (none) (.int .i64 (ballE a b c r)) | _ => .no, by
  intro args p r h hp
  split at h
  · cases h; exact fitsBall_a _ _ _ _
  · cases h⟩
theorem fitsBlock_f : FnOk Tryz.prog 138 Tryz.f138 := ⟨Tryz.func138, by kernel_rfl⟩
theorem fitsBlock_a (a b c d e f : Nat) : ACalls Tryz.prog 138 [.ifc 168 (.agg [.flt a, .flt b, .flt c, .flt d, .flt e, .flt f])] (.int .i64 (blockE a b c d e f)) := by
  refine acalls_of (inl := hasI (P := Tryz.prog) [] []) (base [blockB_k, may_k, alone_k, unit_k] [] []) 0 fitsBlock_f (And.intro (by kernel_rfl) ?_)
  repeat' (first | refine And.intro ?_ ?_ | (with_reducible exact ff_elim) | (with_reducible exact tf_elim) | intro _ | (with_reducible rfl) | ((with_reducible refine lk_t ?_); exact rfl) | ((with_reducible refine pf_t ?_); exact rfl) | refine tell ?_ | exact True.intro | (refine IsT.of ?_; kernel_rfl))
  all_goals ((try refine Tell.mk ?_); first | with_reducible rfl | ((show (_ : Int) ≤ _); decide) | ((show (_ : Int) < _); decide) | (with_reducible refine gb_t ?_; with_reducible assumption) | with_reducible assumption | (with_reducible refine gb_f ?_; with_reducible assumption) | (simp only [blockE, boxE, *, cond_true, cond_false]; done) | ((with_reducible refine ks_t ?_); rfl) | ((with_reducible refine pk_t ?_); rfl) | ((with_reducible refine pf_t ?_); rfl) | ((with_reducible refine lk_t ?_); rfl) | ((with_reducible refine okF_t ?_); kernel_rfl) | grind [gb, blockE, boxE])
def fitsBlock_k : Con Tryz.prog := ⟨138, fun args => match args with | [.ifc 168 (.agg [.flt a, .flt b, .flt c, .flt d, .flt e, .flt f])] => .ok (none) (.int .i64 (blockE a b c d e f)) | _ => .no, by
  intro args p r h hp
  split at h
  · cases h; exact fitsBlock_a _ _ _ _ _ _
  · cases h⟩
theorem fitsTri_f : FnOk Tryz.prog 138 Tryz.f138 := ⟨Tryz.func138, by kernel_rfl⟩
theorem fitsTri_a (a b c d e f g h i : Nat) : ACalls Tryz.prog 138 [.ifc 170 (.agg [.flt a, .flt b, .flt c, .flt d, .flt e, .flt f, .flt g, .flt h, .flt i])] (.int .i64 (triE a b c d e f g h i)) := by
  refine acalls_of (inl := hasI (P := Tryz.prog) [] []) (base [triB_k, may_k, alone_k, unit_k] [] []) 0 fitsTri_f (And.intro (by kernel_rfl) ?_)
  repeat' (first | refine And.intro ?_ ?_ | (with_reducible exact ff_elim) | (with_reducible exact tf_elim) | intro _ | (with_reducible rfl) | ((with_reducible refine lk_t ?_); exact rfl) | ((with_reducible refine pf_t ?_); exact rfl) | refine tell ?_ | exact True.intro | (refine IsT.of ?_; kernel_rfl))
  all_goals ((try refine Tell.mk ?_); first | with_reducible rfl | ((show (_ : Int) ≤ _); decide) | ((show (_ : Int) < _); decide) | (with_reducible refine gb_t ?_; with_reducible assumption) | with_reducible assumption | (with_reducible refine gb_f ?_; with_reducible assumption) | (simp only [triE, boxE, *, cond_true, cond_false]; done) | ((with_reducible refine ks_t ?_); rfl) | ((with_reducible refine pk_t ?_); rfl) | ((with_reducible refine pf_t ?_); rfl) | ((with_reducible refine lk_t ?_); rfl) | ((with_reducible refine okF_t ?_); kernel_rfl) | grind [gb, triE, boxE])
def fitsTri_k : Con Tryz.prog := ⟨138, fun args => match args with | [.ifc 170 (.agg [.flt a, .flt b, .flt c, .flt d, .flt e, .flt f, .flt g, .flt h, .flt i])] => .ok (none) (.int .i64 (triE a b c d e f g h i)) | _ => .no, by
  intro args p r h hp
  split at h
  · cases h; exact fitsTri_a _ _ _ _ _ _ _ _ _
  · cases h⟩
theorem fitsPlate_f : FnOk Tryz.prog 138 Tryz.f138 := ⟨Tryz.func138, by kernel_rfl⟩
theorem fitsPlate_a (a b c d e f r : Nat) : ACalls Tryz.prog 138 [.ifc 172 (.agg [.flt a, .flt b, .flt c, .flt d, .flt e, .flt f, .flt r])] (.int .i64 (plateE a b c d e f r)) := by
  refine acalls_of (inl := hasI (P := Tryz.prog) [] []) (base [plateB_k, may_k, alone_k, unit_k] [] []) 0 fitsPlate_f (And.intro (by kernel_rfl) ?_)
  repeat' (first | refine And.intro ?_ ?_ | (with_reducible exact ff_elim) | (with_reducible exact tf_elim) | intro _ | (with_reducible rfl) | ((with_reducible refine lk_t ?_); exact rfl) | ((with_reducible refine pf_t ?_); exact rfl) | refine tell ?_ | exact True.intro | (refine IsT.of ?_; kernel_rfl))
  all_goals ((try refine Tell.mk ?_); first | with_reducible rfl | ((show (_ : Int) ≤ _); decide) | ((show (_ : Int) < _); decide) | (with_reducible refine gb_t ?_; with_reducible assumption) | with_reducible assumption | (with_reducible refine gb_f ?_; with_reducible assumption) | (simp only [plateE, boxE, *, cond_true, cond_false]; done) | ((with_reducible refine ks_t ?_); rfl) | ((with_reducible refine pk_t ?_); rfl) | ((with_reducible refine pf_t ?_); rfl) | ((with_reducible refine lk_t ?_); rfl) | ((with_reducible refine okF_t ?_); kernel_rfl) | grind [gb, plateE, boxE])
def fitsPlate_k : Con Tryz.prog := ⟨138, fun args => match args with | [.ifc 172 (.agg [.flt a, .flt b, .flt c, .flt d, .flt e, .flt f, .flt r])] => .ok (none) (.int .i64 (plateE a b c d e f r)) | _ => .no, by
  intro args p r h hp
  split at h
  · cases h; exact fitsPlate_a _ _ _ _ _ _ _
  · cases h⟩
theorem fitsTube_f : FnOk Tryz.prog 138 Tryz.f138 := ⟨Tryz.func138, by kernel_rfl⟩
theorem fitsTube_a (a b c d e f r : Nat) : ACalls Tryz.prog 138 [.ifc 174 (.agg [.flt a, .flt b, .flt c, .flt d, .flt e, .flt f, .flt r])] (.int .i64 (tubeE a b c d e f r)) := by
  refine acalls_of (inl := hasI (P := Tryz.prog) [] []) (base [tubeB_k, may_k, alone_k, unit_k] [] []) 0 fitsTube_f (And.intro (by kernel_rfl) ?_)
  repeat' (first | refine And.intro ?_ ?_ | (with_reducible exact ff_elim) | (with_reducible exact tf_elim) | intro _ | (with_reducible rfl) | ((with_reducible refine lk_t ?_); exact rfl) | ((with_reducible refine pf_t ?_); exact rfl) | refine tell ?_ | exact True.intro | (refine IsT.of ?_; kernel_rfl))
  all_goals ((try refine Tell.mk ?_); first | with_reducible rfl | ((show (_ : Int) ≤ _); decide) | ((show (_ : Int) < _); decide) | (with_reducible refine gb_t ?_; with_reducible assumption) | with_reducible assumption | (with_reducible refine gb_f ?_; with_reducible assumption) | (simp only [tubeE, boxE, *, cond_true, cond_false]; done) | ((with_reducible refine ks_t ?_); rfl) | ((with_reducible refine pk_t ?_); rfl) | ((with_reducible refine pf_t ?_); rfl) | ((with_reducible refine lk_t ?_); rfl) | ((with_reducible refine okF_t ?_); kernel_rfl) | grind [gb, tubeE, boxE])
def fitsTube_k : Con Tryz.prog := ⟨138, fun args => match args with | [.ifc 174 (.agg [.flt a, .flt b, .flt c, .flt d, .flt e, .flt f, .flt r])] => .ok (none) (.int .i64 (tubeE a b c d e f r)) | _ => .no, by
  intro args p r h hp
  split at h
  · cases h; exact fitsTube_a _ _ _ _ _ _ _
  · cases h⟩
theorem fitsRing_f : FnOk Tryz.prog 138 Tryz.f138 := ⟨Tryz.func138, by kernel_rfl⟩
theorem fitsRing_a (a b c d e f r q : Nat) : ACalls Tryz.prog 138 [.ifc 176 (.agg [.flt a, .flt b, .flt c, .flt d, .flt e, .flt f, .flt r, .flt q])] (.int .i64 (ringE a b c d e f r q)) := by
  refine acalls_of (inl := hasI (P := Tryz.prog) [] []) (base [ringB_k, may_k, alone_k, unit_k] [] []) 0 fitsRing_f (And.intro (by kernel_rfl) ?_)
  repeat' (first | refine And.intro ?_ ?_ | (with_reducible exact ff_elim) | (with_reducible exact tf_elim) | intro _ | (with_reducible rfl) | ((with_reducible refine lk_t ?_); exact rfl) | ((with_reducible refine pf_t ?_); exact rfl) | refine tell ?_ | exact True.intro | (refine IsT.of ?_; kernel_rfl))
  all_goals ((try refine Tell.mk ?_); first | with_reducible rfl | ((show (_ : Int) ≤ _); decide) | ((show (_ : Int) < _); decide) | (with_reducible refine gb_t ?_; with_reducible assumption) | with_reducible assumption | (with_reducible refine gb_f ?_; with_reducible assumption) | (simp only [ringE, boxE, *, cond_true, cond_false]; done) | ((with_reducible refine ks_t ?_); rfl) | ((with_reducible refine pk_t ?_); rfl) | ((with_reducible refine pf_t ?_); rfl) | ((with_reducible refine lk_t ?_); rfl) | ((with_reducible refine okF_t ?_); kernel_rfl) | grind [gb, ringE, boxE])
def fitsRing_k : Con Tryz.prog := ⟨138, fun args => match args with | [.ifc 176 (.agg [.flt a, .flt b, .flt c, .flt d, .flt e, .flt f, .flt r, .flt q])] => .ok (none) (.int .i64 (ringE a b c d e f r q)) | _ => .no, by
  intro args p r h hp
  split at h
  · cases h; exact fitsRing_a _ _ _ _ _ _ _ _
  · cases h⟩
end Go.Proofs.YtphdjmaebdmdmaaGreatDoor
/- Shapes: which ones may be, by the program and by the document. -/
namespace Go.Proofs.YtphdjmaebdmdmaaGreatDoor
open Go.RowKit Ev
set_option linter.unusedVariables false
set_option linter.unusedSimpArgs false
set_option maxRecDepth 20000
set_option maxHeartbeats 4000000

/-- What is said of a shape. -/
def shapeE (k : Int) (a b c d e f g h i r q : Nat) (s : Int) : Int :=
  bif decide (s < 0) || decide (16 ≤ s) then 4 else
  bif !(fineB a b c) || (!(fineB d e f) || (!(fineB g h i) || (!(nearB r) || !(nearB q)))) then 1 else
  bif k == 1 then ballE a b c r else bif k == 2 then blockE a b c d e f else bif k == 3 then triE a b c d e f g h i else
  bif k == 4 then plateE a b c d e f r else bif k == 5 then tubeE a b c d e f r else bif k == 6 then ringE a b c d e f r q else 3
theorem shapeMay_f : FnOk Tryz.prog 44 Tryz.f44 := ⟨Tryz.func44, by kernel_rfl⟩
theorem shapeMay_a (k : Int) (a b c d e f g h i r q : Nat) (s : Int) : ACalls Tryz.prog 44 [.agg [.int .i64 k, .flt a, .flt b, .flt c, .flt d, .flt e, .flt f, .flt g, .flt h, .flt i, .flt r, .flt q, .int .i64 s]] (.int .i64 (shapeE k a b c d e f g h i r q s)) := by
  refine acalls_of (inl := hasI (P := Tryz.prog) [⟨86, Tryz.f86, Tryz.func86, by kernel_rfl⟩] []) (base [fine_k, near_k, fitsBall_k, fitsBlock_k, fitsTri_k, fitsPlate_k, fitsTube_k, fitsRing_k] [⟨86, Tryz.f86, Tryz.func86, by kernel_rfl⟩] []) 4 shapeMay_f (And.intro (by kernel_rfl) ?_)
  repeat' (first | refine And.intro ?_ ?_ | (with_reducible exact ff_elim) | (with_reducible exact tf_elim) | intro _ | (with_reducible rfl) | ((with_reducible refine lk_t ?_); exact rfl) | ((with_reducible refine pf_t ?_); exact rfl) | refine tell ?_ | exact True.intro | (refine IsT.of ?_; kernel_rfl))
  all_goals ((try refine Tell.mk ?_); first | with_reducible rfl | ((show (_ : Int) ≤ _); decide) | ((show (_ : Int) < _); decide) | (with_reducible refine gb_t ?_; with_reducible assumption) | with_reducible assumption | (with_reducible refine gb_f ?_; with_reducible assumption) | (simp only [shapeE, *, cond_true, cond_false]; done) | ((with_reducible refine ks_t ?_); rfl) | ((with_reducible refine pk_t ?_); rfl) | ((with_reducible refine pf_t ?_); rfl) | ((with_reducible refine lk_t ?_); rfl) | ((with_reducible refine okF_t ?_); kernel_rfl) | grind [gb, shapeE])
def shapeMay_k : Con Tryz.prog := ⟨44, fun args => match args with | [.agg [.int .i64 k, .flt a, .flt b, .flt c, .flt d, .flt e, .flt f, .flt g, .flt h, .flt i, .flt r, .flt q, .int .i64 s]] => .ok (none) (.int .i64 (shapeE k a b c d e f g h i r q s)) | _ => .no, by
  intro args p r h hp
  split at h
  · cases h; exact shapeMay_a _ _ _ _ _ _ _ _ _ _ _ _ _
  · cases h⟩
theorem put0_f : FnOk Tryz.prog 143 Tryz.f143 := ⟨Tryz.func143, by kernel_rfl⟩
theorem put0_a (a b c x : Nat) : ACalls Tryz.prog 143 [.agg [.flt a, .flt b, .flt c], .int .i64 0, .flt x] (.agg [.flt x, .flt b, .flt c]) := by
  refine acalls_of (inl := hasI (P := Tryz.prog) [⟨189, Tryz.f189, Tryz.func189, by kernel_rfl⟩] []) (base [] [⟨189, Tryz.f189, Tryz.func189, by kernel_rfl⟩] []) 4 put0_f (And.intro (by kernel_rfl) ?_)
  repeat' (first | refine And.intro ?_ ?_ | (with_reducible exact ff_elim) | (with_reducible exact tf_elim) | intro _ | (with_reducible rfl) | ((with_reducible refine lk_t ?_); exact rfl) | ((with_reducible refine pf_t ?_); exact rfl) | refine tell ?_ | exact True.intro | (refine IsT.of ?_; kernel_rfl))
  all_goals ((try refine Tell.mk ?_); first | with_reducible rfl | ((show (_ : Int) ≤ _); decide) | ((show (_ : Int) < _); decide) | (with_reducible refine gb_t ?_; with_reducible assumption) | with_reducible assumption | (with_reducible refine gb_f ?_; with_reducible assumption) | (simp only [gb, *, cond_true, cond_false]; done) | ((with_reducible refine ks_t ?_); rfl) | ((with_reducible refine pk_t ?_); rfl) | ((with_reducible refine pf_t ?_); rfl) | ((with_reducible refine lk_t ?_); rfl) | ((with_reducible refine okF_t ?_); kernel_rfl) | grind [gb])
def put0_k : Con Tryz.prog := ⟨143, fun args => match args with | [.agg [.flt a, .flt b, .flt c], .int .i64 0, .flt x] => .ok (none) (.agg [.flt x, .flt b, .flt c]) | _ => .no, by
  intro args p r h hp
  split at h
  · cases h; exact put0_a _ _ _ _
  · cases h⟩
theorem put1_f : FnOk Tryz.prog 143 Tryz.f143 := ⟨Tryz.func143, by kernel_rfl⟩
theorem put1_a (a b c x : Nat) : ACalls Tryz.prog 143 [.agg [.flt a, .flt b, .flt c], .int .i64 1, .flt x] (.agg [.flt a, .flt x, .flt c]) := by
  refine acalls_of (inl := hasI (P := Tryz.prog) [⟨189, Tryz.f189, Tryz.func189, by kernel_rfl⟩] []) (base [] [⟨189, Tryz.f189, Tryz.func189, by kernel_rfl⟩] []) 4 put1_f (And.intro (by kernel_rfl) ?_)
  repeat' (first | refine And.intro ?_ ?_ | (with_reducible exact ff_elim) | (with_reducible exact tf_elim) | intro _ | (with_reducible rfl) | ((with_reducible refine lk_t ?_); exact rfl) | ((with_reducible refine pf_t ?_); exact rfl) | refine tell ?_ | exact True.intro | (refine IsT.of ?_; kernel_rfl))
  all_goals ((try refine Tell.mk ?_); first | with_reducible rfl | ((show (_ : Int) ≤ _); decide) | ((show (_ : Int) < _); decide) | (with_reducible refine gb_t ?_; with_reducible assumption) | with_reducible assumption | (with_reducible refine gb_f ?_; with_reducible assumption) | (simp only [gb, *, cond_true, cond_false]; done) | ((with_reducible refine ks_t ?_); rfl) | ((with_reducible refine pk_t ?_); rfl) | ((with_reducible refine pf_t ?_); rfl) | ((with_reducible refine lk_t ?_); rfl) | ((with_reducible refine okF_t ?_); kernel_rfl) | grind [gb])
def put1_k : Con Tryz.prog := ⟨143, fun args => match args with | [.agg [.flt a, .flt b, .flt c], .int .i64 1, .flt x] => .ok (none) (.agg [.flt a, .flt x, .flt c]) | _ => .no, by
  intro args p r h hp
  split at h
  · cases h; exact put1_a _ _ _ _
  · cases h⟩
theorem put2_f : FnOk Tryz.prog 143 Tryz.f143 := ⟨Tryz.func143, by kernel_rfl⟩
theorem put2_a (a b c x : Nat) : ACalls Tryz.prog 143 [.agg [.flt a, .flt b, .flt c], .int .i64 2, .flt x] (.agg [.flt a, .flt b, .flt x]) := by
  refine acalls_of (inl := hasI (P := Tryz.prog) [⟨189, Tryz.f189, Tryz.func189, by kernel_rfl⟩] []) (base [] [⟨189, Tryz.f189, Tryz.func189, by kernel_rfl⟩] []) 4 put2_f (And.intro (by kernel_rfl) ?_)
  repeat' (first | refine And.intro ?_ ?_ | (with_reducible exact ff_elim) | (with_reducible exact tf_elim) | intro _ | (with_reducible rfl) | ((with_reducible refine lk_t ?_); exact rfl) | ((with_reducible refine pf_t ?_); exact rfl) | refine tell ?_ | exact True.intro | (refine IsT.of ?_; kernel_rfl))
  all_goals ((try refine Tell.mk ?_); first | with_reducible rfl | ((show (_ : Int) ≤ _); decide) | ((show (_ : Int) < _); decide) | (with_reducible refine gb_t ?_; with_reducible assumption) | with_reducible assumption | (with_reducible refine gb_f ?_; with_reducible assumption) | (simp only [gb, *, cond_true, cond_false]; done) | ((with_reducible refine ks_t ?_); rfl) | ((with_reducible refine pk_t ?_); rfl) | ((with_reducible refine pf_t ?_); rfl) | ((with_reducible refine lk_t ?_); rfl) | ((with_reducible refine okF_t ?_); kernel_rfl) | grind [gb])
def put2_k : Con Tryz.prog := ⟨143, fun args => match args with | [.agg [.flt a, .flt b, .flt c], .int .i64 2, .flt x] => .ok (none) (.agg [.flt a, .flt b, .flt x]) | _ => .no, by
  intro args p r h hp
  split at h
  · cases h; exact put2_a _ _ _ _
  · cases h⟩
theorem put_f : FnOk Tryz.prog 143 Tryz.f143 := ⟨Tryz.func143, by kernel_rfl⟩
theorem put_a (a b c x : Nat) (k : Int) (hpre : 0 ≤ k ∧ k ≤ 2) : ACalls Tryz.prog 143 [.agg [.flt a, .flt b, .flt c], .int .i64 k, .flt x] (.agg [.flt (bif k == 0 then x else a), .flt (bif k == 1 then x else b), .flt (bif k == 0 || k == 1 then c else x)]) := by
  have h : k = 0 ∨ k = 1 ∨ k = 2 := by omega
  rcases h with rfl | rfl | rfl
  · exact put0_a a b c x
  · exact put1_a a b c x
  · exact put2_a a b c x
def put_k : Con Tryz.prog := ⟨143, fun args => match args with | [.agg [.flt a, .flt b, .flt c], .int .i64 k, .flt x] => .ok (some (0 ≤ k ∧ k ≤ 2)) (.agg [.flt (bif k == 0 then x else a), .flt (bif k == 1 then x else b), .flt (bif k == 0 || k == 1 then c else x)]) | _ => .no, by
  intro args p r h hp
  split at h
  · cases h; exact put_a _ _ _ _ _ hp
  · cases h⟩
theorem alone_le (a b c : Nat) : aloneV a b c ≤ 2 := by
  unfold aloneV
  cases !(feq a 0) && (feq b 0 && feq c 0) <;> cases feq a 0 && (!(feq b 0) && feq c 0) <;> cases feq a 0 && (feq b 0 && !(feq c 0)) <;> decide
/-- The same, as the document asks for it. -/
def ballR (a b c r : Nat) : Int := bif flt r 0 || feq r 0 then 6 else boxE (F .sub a r) (F .sub b r) (F .sub c r) (F .add a r) (F .add b r) (F .add c r)
def blockR (a b c d e f : Nat) : Int := bif fgt a d || (fgt b e || fgt c f) then 6 else boxE a b c d e f
def plateR (a b c d e f r : Nat) : Int := bif flt r 0 || feq r 0 then 6 else bif unitE d e f == 0 then boxE (F .sub a r) (F .sub b r) (F .sub c r) (F .add a r) (F .add b r) (F .add c r) else unitE d e f
def tubeR (a b c d e f r : Nat) : Int := bif (flt r 0 || feq r 0) || decide (aloneV d e f < 0) then 6 else boxE (F .sub (lessV a (F .add a d)) (wo (aloneV d e f) 0 r)) (F .sub (lessV b (F .add b e)) (wo (aloneV d e f) 1 r)) (F .sub (lessV c (F .add c f)) (wz (aloneV d e f) r)) (F .add (moreV a (F .add a d)) (wo (aloneV d e f) 0 r)) (F .add (moreV b (F .add b e)) (wo (aloneV d e f) 1 r)) (F .add (moreV c (F .add c f)) (wz (aloneV d e f) r))
def ringR (a b c d e f r q : Nat) : Int := bif (flt q 0 || feq q 0) || (flt r q || decide (aloneV d e f < 0)) then 6 else boxE (F .sub a (F .add (wo (aloneV d e f) 0 r) q)) (F .sub b (F .add (wo (aloneV d e f) 1 r) q)) (F .sub c (F .add (wz (aloneV d e f) r) q)) (F .add a (F .add (wo (aloneV d e f) 0 r) q)) (F .add b (F .add (wo (aloneV d e f) 1 r) q)) (F .add c (F .add (wz (aloneV d e f) r) q))
def shapeR (k : Int) (a b c d e f g h i r q : Nat) (s : Int) : Int :=
  bif decide (s < 0) || decide (16 ≤ s) then 4 else
  bif !(fineB a b c) || (!(fineB d e f) || (!(fineB g h i) || (!(nearB r) || !(nearB q)))) then 1 else
  bif k == 1 then ballR a b c r else bif k == 2 then blockR a b c d e f else bif k == 3 then triE a b c d e f g h i else
  bif k == 4 then plateR a b c d e f r else bif k == 5 then tubeR a b c d e f r else bif k == 6 then ringR a b c d e f r q else 3
theorem shapeMayR0_f : FnOk Tryz.prog 49 Tryz.f49 := ⟨Tryz.func49, by kernel_rfl⟩
theorem shapeMayR0_a (k : Int) (a b c d e f g h i r q : Nat) (s : Int) : ACalls Tryz.prog 49 [.agg [.int .i64 k, .flt a, .flt b, .flt c, .flt d, .flt e, .flt f, .flt g, .flt h, .flt i, .flt r, .flt q, .int .i64 s]] (.int .i64 (shapeR k a b c d e f g h i r q s)) := by
  refine acalls_of (inl := hasI (P := Tryz.prog) [⟨91, Tryz.f91, Tryz.func91, by kernel_rfl⟩] []) (base [fineR_k, nearR_k, unitR_k, axisOf_k, mayR_k, put_k, addR_k, subR_k, lowR_k, highR_k] [⟨91, Tryz.f91, Tryz.func91, by kernel_rfl⟩] []) 4 shapeMayR0_f (And.intro (by kernel_rfl) ?_)
  repeat' (first | refine And.intro ?_ ?_ | (with_reducible exact ff_elim) | (with_reducible exact tf_elim) | refine num_elim ?_ | intro _ | (with_reducible rfl) | ((with_reducible refine lk_t ?_); exact rfl) | ((with_reducible refine pf_t ?_); exact rfl) | refine tell ?_ | exact True.intro | (refine IsT.of ?_; kernel_rfl))
  all_goals first | exact alone_le _ _ _ | (with_reducible refine gb_t ?_; with_reducible assumption) | skip
  all_goals ((try refine Tell.mk ?_); first | with_reducible rfl | ((show (_ : Int) ≤ _); decide) | ((show (_ : Int) < _); decide) | (with_reducible refine gb_t ?_; with_reducible assumption) | with_reducible assumption | (with_reducible refine gb_f ?_; with_reducible assumption) | (simp only [shapeR, ballR, blockR, triE, plateR, tubeR, ringR, boxE, wz, wo, *, cond_true, cond_false]; done) | ((with_reducible refine ks_t ?_); rfl) | ((with_reducible refine pk_t ?_); rfl) | ((with_reducible refine pf_t ?_); rfl) | ((with_reducible refine lk_t ?_); rfl) | ((with_reducible refine okF_t ?_); kernel_rfl) | grind [gb, shapeR, ballR, blockR, triE, plateR, tubeR, ringR, boxE, wz, wo])
def shapeMayR0_k : Con Tryz.prog := ⟨49, fun args => match args with | [.agg [.int .i64 k, .flt a, .flt b, .flt c, .flt d, .flt e, .flt f, .flt g, .flt h, .flt i, .flt r, .flt q, .int .i64 s]] => .ok (none) (.int .i64 (shapeR k a b c d e f g h i r q s)) | _ => .no, by
  intro args p r h hp
  split at h
  · cases h; exact shapeMayR0_a _ _ _ _ _ _ _ _ _ _ _ _ _
  · cases h⟩
theorem feq_comm (x y : Nat) : feq x y = feq y x := by
  have e : FloatKind.f64.format.order y x = (FloatKind.f64.format.order x y).map Ordering.swap := order_swap x y
  unfold feq
  rw [e]
  rcases FloatKind.f64.format.order x y with _ | _ | _ | _ <;> rfl
theorem ge_not {x y : Nat} (hx : isN x = false) (hy : isN y = false) : (fgt x y || feq x y) = !(flt x y) := by
  have h := le_not hy hx
  rw [fgt_flt, feq_comm x y, h, fgt_flt]
theorem lt_ge (n : Int) : decide (n < 0) = !(decide (0 ≤ n)) := by
  by_cases h : n < 0
  · rw [decide_eq_true h, decide_eq_false (by omega)]; rfl
  · rw [decide_eq_false h, decide_eq_true (by omega)]; rfl
theorem shape_eq (k : Int) (a b c d e f g h i r q : Nat) (s : Int) : shapeR k a b c d e f g h i r q s = shapeE k a b c d e f g h i r q s := by
  unfold shapeR shapeE
  cases h1 : fineB a b c <;> cases h2 : fineB d e f <;> cases h0 : fineB g h i <;> cases h3 : nearB r <;> cases h4 : nearB q <;> try rfl
  have hb : blockR a b c d e f = blockE a b c d e f := by
    unfold blockR blockE boxE mayV
    rw [h1, h2]
    cases fgt a d <;> cases fgt b e <;> cases fgt c f <;> rfl
  have h5 : ballR a b c r = ballE a b c r := by unfold ballR ballE; rw [pos_le h3]; cases fgt r 0 <;> rfl
  have h6 : plateR a b c d e f r = plateE a b c d e f r := by unfold plateR plateE; rw [pos_le h3]; cases fgt r 0 <;> rfl
  have h7 : tubeR a b c d e f r = tubeE a b c d e f r := by unfold tubeR tubeE; rw [pos_le h3, lt_ge]; cases fgt r 0 <;> cases decide (0 ≤ aloneV d e f) <;> rfl
  have h8 : ringR a b c d e f r q = ringE a b c d e f r q := by
    unfold ringR ringE
    rw [pos_le h4, lt_ge, ge_not (near_num h3) (near_num h4)]
    cases fgt q 0 <;> cases decide (0 ≤ aloneV d e f) <;> cases flt r q <;> rfl
  rw [hb, h5, h6, h7, h8]
theorem shapeMayR_f : FnOk Tryz.prog 49 Tryz.f49 := ⟨Tryz.func49, by kernel_rfl⟩
theorem shapeMayR_a (k : Int) (a b c d e f g h i r q : Nat) (s : Int) : ACalls Tryz.prog 49 [.agg [.int .i64 k, .flt a, .flt b, .flt c, .flt d, .flt e, .flt f, .flt g, .flt h, .flt i, .flt r, .flt q, .int .i64 s]] (.int .i64 (shapeE k a b c d e f g h i r q s)) := by
  have h1 := shapeMayR0_a k a b c d e f g h i r q s
  rw [shape_eq] at h1
  exact h1
def shapeMayR_k : Con Tryz.prog := ⟨49, fun args => match args with | [.agg [.int .i64 k, .flt a, .flt b, .flt c, .flt d, .flt e, .flt f, .flt g, .flt h, .flt i, .flt r, .flt q, .int .i64 s]] => .ok (none) (.int .i64 (shapeE k a b c d e f g h i r q s)) | _ => .no, by
  intro args p r h hp
  split at h
  · cases h; exact shapeMayR_a _ _ _ _ _ _ _ _ _ _ _ _ _
  · cases h⟩
end Go.Proofs.YtphdjmaebdmdmaaGreatDoor
/- Rows of cells, one behind the other, and what is taken of them. -/
namespace Go.Proofs.YtphdjmaebdmdmaaGreatDoor
open Go.RowKit Ev
set_option linter.unusedVariables false
set_option linter.unusedSimpArgs false
set_option maxRecDepth 20000
set_option maxHeartbeats 4000000

theorem view_agg {nm : Bool} {l l' : List AV} {K : AV → Prop} (e : l = l') (h : nameE nm (.agg l') K) : nameE nm (.agg l) K := e ▸ h
theorem view_one {nm : Bool} {v v' : AV} {K : AV → Prop} (e : v = v') (h : nameE nm v' K) : nameE nm v K := e ▸ h
/-- Rows of so many cells each, one behind the other. -/
@[irreducible] def flatF (sz : Nat) (row : Nat → List AV) (j : Nat) : AV := (row (j / sz)).getD (j % sz) .any
theorem flat_at {sz : Nat} {row : Nat → List AV} {i c : Nat} (hc : c < sz) : flatF sz row (i * sz + c) = (row i).getD c .any := by
  unfold flatF
  rw [show (i * sz + c) / sz = i by rw [Nat.mul_comm, Nat.mul_add_div (by omega), Nat.div_eq_of_lt hc, Nat.add_zero], show (i * sz + c) % sz = c by rw [Nat.mul_comm, Nat.mul_add_mod, Nat.mod_eq_of_lt hc]]
theorem view_flat {nm : Bool} {sz sz' : Nat} {row : Nat → List AV} {i : Nat} {K : AV → Prop} (hs : sz' = sz) (hl : (row i).length = sz) (h : nameE nm (.agg (row i)) K) :
    nameE nm (.agg (List.map (fun j => flatF sz row (mulN (i : Int).toNat sz + j)) (List.range sz'))) K := by
  refine view_agg ?_ h
  subst hs
  rw [mulN_eq, Int.toNat_natCast]
  apply List.ext_getElem
  · simp [hl]
  · intro c h1 h2
    simp only [List.getElem_map, List.getElem_range]
    rw [flat_at (by simpa using h1), List.getD_eq_getElem?_getD, List.getElem?_eq_getElem h2]; rfl
theorem view_cell {nm : Bool} {sz : Nat} {row : Nat → List AV} {i c : Nat} {K : AV → Prop} (hc : Nat.blt c sz = true) (h : nameE nm ((row i).getD c .any) K) :
    nameE nm (flatF sz row (mulN (i : Int).toNat sz + c)) K := by
  refine view_one ?_ h
  rw [mulN_eq, Int.toNat_natCast, flat_at (Nat.le_of_ble_eq_true hc)]
theorem view_take {nm : Bool} {sz sz' : Nat} {row : Nat → List AV} {i : Nat} {K : AV → Prop} (hs : Nat.ble sz' sz = true) (hl : (row i).length = sz) (h : nameE nm (.agg ((row i).take sz')) K) :
    nameE nm (.agg (List.map (fun j => flatF sz row (mulN (i : Int).toNat sz + j)) (List.range sz'))) K := by
  refine view_agg ?_ h
  have hs := Nat.le_of_ble_eq_true hs
  rw [mulN_eq, Int.toNat_natCast]
  apply List.ext_getElem
  · simp [hl]; omega
  · intro c h1 h2
    simp only [List.getElem_map, List.getElem_range, List.getElem_take]
    have hc : c < sz' := by simpa using h1
    rw [flat_at (by omega), List.getD_eq_getElem?_getD, List.getElem?_eq_getElem (by omega)]; rfl
theorem view_drop {nm : Bool} {sz sz' o : Nat} {row : Nat → List AV} {i : Nat} {K : AV → Prop} (hs : Nat.ble (o + sz') sz = true) (hl : (row i).length = sz) (h : nameE nm (.agg (((row i).drop o).take sz')) K) :
    nameE nm (.agg (List.map (fun j => flatF sz row (mulN (i : Int).toNat sz + o + j)) (List.range sz'))) K := by
  refine view_agg ?_ h
  have hs := Nat.le_of_ble_eq_true hs
  rw [mulN_eq, Int.toNat_natCast]
  apply List.ext_getElem
  · simp [hl]; omega
  · intro c h1 h2
    simp only [List.getElem_map, List.getElem_range, List.getElem_take, List.getElem_drop]
    have hc : c < sz' := by simpa using h1
    rw [Nat.add_assoc, flat_at (by omega), List.getD_eq_getElem?_getD, List.getElem?_eq_getElem (by omega)]; rfl
theorem flat_row {sz : Nat} {row : Nat → List AV} {i c j : Nat} (hc : c < sz) (hj : j = i * sz + c) : flatF sz row j = (row i).getD c .any := by subst hj; exact flat_at hc
end Go.Proofs.YtphdjmaebdmdmaaGreatDoor
/- Solids: which ones may be. -/
namespace Go.Proofs.YtphdjmaebdmdmaaGreatDoor
open Go.RowKit Ev
set_option linter.unusedVariables false
set_option linter.unusedSimpArgs false
set_option maxRecDepth 20000
set_option maxHeartbeats 4000000

/-- A shape's numbers. -/
structure Shp where
  k : Int
  a : Nat
  b : Nat
  c : Nat
  d : Nat
  e : Nat
  f : Nat
  g : Nat
  h : Nat
  i : Nat
  r : Nat
  q : Nat
  s : Int
def Shp.cell (p : Shp) (c : Nat) : AV := [AV.int .i64 p.k, .flt p.a, .flt p.b, .flt p.c, .flt p.d, .flt p.e, .flt p.f, .flt p.g, .flt p.h, .flt p.i, .flt p.r, .flt p.q, .int .i64 p.s].getD c .any
def Shp.err (p : Shp) : Int := shapeE p.k p.a p.b p.c p.d p.e p.f p.g p.h p.i p.r p.q p.s
/-- A part's numbers. -/
structure Prt where
  op : Int
  l : Int
  m : Int
  p : Shp
def Prt.cell (p : Prt) (c : Nat) : AV := match c with
  | 0 => .int .i64 p.op
  | 1 => .int .i64 p.l
  | 2 => .int .i64 p.m
  | c + 3 => p.p.cell c
@[irreducible] def partF (P : Nat → Prt) (j : Nat) : AV := (P (j / 16)).cell (j % 16)
theorem part_at (P : Nat → Prt) (i c : Nat) (h : c < 16) : partF P (i * 16 + c) = (P i).cell c := by
  unfold partF; rw [show (i * 16 + c) / 16 = i by omega, show (i * 16 + c) % 16 = c by omega]
def Prt.row (p : Prt) : List AV := [.int .i64 p.op, .int .i64 p.l, .int .i64 p.m, .int .i64 p.p.k, .flt p.p.a, .flt p.p.b, .flt p.p.c, .flt p.p.d, .flt p.p.e, .flt p.p.f, .flt p.p.g, .flt p.p.h, .flt p.p.i, .flt p.p.r, .flt p.p.q, .int .i64 p.p.s]
theorem view_part {nm : Bool} {P : Nat → Prt} {i : Nat} {K : AV → Prop} (h : nameE nm (.agg (P i).row) K) :
    nameE nm (.agg (List.map (fun j => partF P (mulN (i : Int).toNat 16 + j)) (List.range (Tab.cx.ti 116).size))) K := by
  refine view_agg ?_ h
  have e : (Tab.cx.ti 116).size = 16 := rfl
  rw [e, mulN_eq, Int.toNat_natCast]
  show [partF P (i * 16 + 0), partF P (i * 16 + 1), partF P (i * 16 + 2), partF P (i * 16 + 3), partF P (i * 16 + 4), partF P (i * 16 + 5), partF P (i * 16 + 6), partF P (i * 16 + 7), partF P (i * 16 + 8), partF P (i * 16 + 9), partF P (i * 16 + 10), partF P (i * 16 + 11), partF P (i * 16 + 12), partF P (i * 16 + 13), partF P (i * 16 + 14), partF P (i * 16 + 15)] = _
  simp only [part_at P i _ (show 0 < 16 by decide), part_at P i _ (show 1 < 16 by decide), part_at P i _ (show 2 < 16 by decide), part_at P i _ (show 3 < 16 by decide), part_at P i _ (show 4 < 16 by decide), part_at P i _ (show 5 < 16 by decide), part_at P i _ (show 6 < 16 by decide), part_at P i _ (show 7 < 16 by decide), part_at P i _ (show 8 < 16 by decide), part_at P i _ (show 9 < 16 by decide), part_at P i _ (show 10 < 16 by decide), part_at P i _ (show 11 < 16 by decide), part_at P i _ (show 12 < 16 by decide), part_at P i _ (show 13 < 16 by decide), part_at P i _ (show 14 < 16 by decide), part_at P i _ (show 15 < 16 by decide)]
  rfl
/-- The first error. -/
def firstE (f : Nat → Int) : Nat → Int
  | 0 => 0
  | n + 1 => if firstE f n = 0 then f n else firstE f n
theorem firstE_0 (f : Nat → Int) : firstE f 0 = 0 := rfl
theorem firstE_n (f : Nat → Int) (n : Nat) : firstE f (n + 1) = if firstE f n = 0 then f n else firstE f n := rfl
attribute [irreducible] firstE
theorem firstE_s {f : Nat → Int} {i : Nat} (h : firstE f i = 0) (hf : f i = 0) : firstE f (i + 1) = 0 := by rw [firstE_n, if_pos h, hf]
theorem firstE_hit {f : Nat → Int} {i : Nat} (h : firstE f i = 0) (hf : f i ≠ 0) : ∀ {n : Nat}, i < n → firstE f n = f i
  | 0, hn => by omega
  | n + 1, hn => by
    rw [firstE_n]
    by_cases e : i = n
    · subst e; rw [if_pos h]
    · rw [firstE_hit h hf (n := n) (by omega), if_neg hf]
theorem firstE_all {f : Nat → Int} {n : Nat} (h : firstE f n = 0) : ∀ {i : Nat}, i < n → f i = 0 := fun {i} hi => by
  induction n with
  | zero => omega
  | succ n ih =>
    rw [firstE_n] at h
    split at h
    · rename_i h1
      rcases Nat.lt_or_eq_of_le (Nat.le_of_lt_succ hi) with g | g
      · exact ih h1 g
      · rw [g]; exact h
    · rename_i h1; exact absurd h h1
def partE (P : Nat → Prt) (i : Nat) : Int :=
  if (P i).op = 0 then (if (P i).p.err = 0 then (if (P i).p.k = 1 ∨ (P i).p.k = 2 ∨ (P i).p.k = 5 then 0 else 3) else (P i).p.err) else
  if (P i).op = 1 ∨ (P i).op = 2 ∨ (P i).op = 3 then (if (P i).l < 0 ∨ (i : Int) ≤ (P i).l ∨ (P i).m < 0 ∨ (i : Int) ≤ (P i).m then 9 else 0) else 11
@[irreducible] def solidE (n : Nat) (P : Nat → Prt) (s : Int) : Int := if (n : Int) < 1 ∨ 16 < (n : Int) then 5 else if s < 0 ∨ 16 ≤ s then 4 else firstE (partE P) n
theorem solidE_5 {n : Nat} {P : Nat → Prt} {s : Int} (h : (n : Int) < 1 ∨ 16 < (n : Int)) : solidE n P s = 5 := by unfold solidE; rw [if_pos h]
theorem solidE_4 {n : Nat} {P : Nat → Prt} {s : Int} (h : 1 ≤ (n : Int) ∧ (n : Int) ≤ 16) (h2 : s < 0 ∨ 16 ≤ s) : solidE n P s = 4 := by unfold solidE; rw [if_neg (by omega), if_pos h2]
theorem solidE_n {n : Nat} {P : Nat → Prt} {s : Int} (h : 1 ≤ (n : Int) ∧ (n : Int) ≤ 16) (h2 : 0 ≤ s ∧ s < 16) : solidE n P s = firstE (partE P) n := by unfold solidE; rw [if_neg (by omega), if_neg (by omega)]
theorem solidE_e {n i : Nat} {P : Nat → Prt} {s e : Int} (h : 1 ≤ (n : Int) ∧ (n : Int) ≤ 16) (h2 : 0 ≤ s ∧ s < 16) (he : firstE (partE P) i = 0) (hi : (i : Int) < n) (hf : partE P i = e) (h0 : e ≠ 0) : solidE n P s = e := by
  rw [solidE_n h h2, firstE_hit he (by rw [hf]; exact h0) (by omega), hf]
theorem solidMay_f : FnOk Tryz.prog 45 Tryz.f45 := ⟨Tryz.func45, by kernel_rfl⟩
theorem solidMay_a (n : Nat) (P : Nat → Prt) (s : Int) : MCalls Tryz.prog 45 ([.agg [.sl n 16 (partF P), .int .i64 s]]) [] (.int .i64 (solidE n P s)) [] := by
  refine mcallsF_of (inl := hasI (P := Tryz.prog) [] []) (base [shapeMay_k] [] []) 0 solidMay_f (And.intro (by kernel_rfl) ?_)
  repeat' (first | refine And.intro ?_ ?_ | (with_reducible exact ff_elim) | (with_reducible exact tf_elim) | refine' rho_mk [] ?_ | refine num_elim ?_ | intro _ | (with_reducible rfl) | ((with_reducible refine lk_t ?_); exact rfl) | ((with_reducible refine pf_t ?_); exact rfl) | refine tell ?_ | exact True.intro | (refine IsT.of ?_; kernel_rfl))
  all_goals (try (refine loop_keep [28, 29] [] ?_; refine LoopI.mk ({i : Nat // i ≤ n ∧ firstE (partE P) i = 0}) (fun i => [(30, .int .i64 i.1)]) (fun i => []) (fun i => n - i.1) (⟨0, Nat.zero_le _, firstE_0 _⟩) (wk_mk [] ?_) (fun ⟨i, hi, he⟩ => ?_)))
  repeat' (first | refine And.intro ?_ ?_ | (with_reducible exact ff_elim) | (with_reducible exact tf_elim) | refine stp_mk [] (⟨i + 1, ?_, ?_⟩) ?_ ?_ | refine view_part ?_ | refine' rho_mk [] ?_ | refine num_elim ?_ | intro _ | (with_reducible rfl) | ((with_reducible refine lk_t ?_); exact rfl) | ((with_reducible refine pf_t ?_); exact rfl) | refine tell ?_ | exact True.intro | (refine IsT.of ?_; kernel_rfl))
  all_goals (try refine Tell.mk ?_)
  all_goals first | with_reducible rfl | with_reducible exact isI_mk | with_reducible assumption | (with_reducible refine gb_t ?_; with_reducible assumption) | (with_reducible refine gb_f ?_; with_reducible assumption) | ((with_reducible refine lk_t ?_); rfl) | ((with_reducible refine okF_t ?_); kernel_rfl) | ((with_reducible refine ks_t ?_); rfl) | ((with_reducible refine pk_t ?_); rfl) | ((with_reducible refine pf_t ?_); rfl) | skip
  all_goals (try dsimp only at *)
  all_goals (try simp only [decide_eq_true_eq, decide_eq_false_iff_not, Bool.or_eq_true, Bool.or_eq_false_iff, Bool.and_eq_true, Bool.and_eq_false_iff, Bool.not_eq_true', Bool.not_eq_false', bne_iff_ne, ne_eq, beq_iff_eq, bne_eq_false_iff_eq, beq_eq_false_iff_ne, Int.not_lt, Int.not_le, gt_iff_lt, ge_iff_le] at *)
  all_goals (try simp only [mulN1, Nat.add_zero, Nat.zero_add, Nat.mul_one, Int.toNat_natCast, avInt_int] at *)
  all_goals first | with_reducible rfl | with_reducible exact nums_N | omega | ((with_reducible refine by_le 1 rfl ?_); omega) | ((with_reducible refine by_le 8 rfl ?_); omega) | (rw [wrapI (by omega) (by omega)] <;> omega) | skip
  all_goals first | exact solidE_5 (by assumption) | exact solidE_4 (by assumption) (by assumption) | skip
  all_goals first | (refine firstE_s he ?_; grind [partE, Shp.err]) | (refine solidE_e (by assumption) (by assumption) he (by assumption) ?_ ?_ <;> grind [partE, Shp.err]) | skip
  all_goals first | exact Nat.le_refl 16 | skip
  all_goals (obtain rfl : i = n := (by omega))
  all_goals (rw [solidE_n (by assumption) (by assumption)]; exact he)
theorem solidMayR_f : FnOk Tryz.prog 50 Tryz.f50 := ⟨Tryz.func50, by kernel_rfl⟩
theorem solidMayR_a (n : Nat) (P : Nat → Prt) (s : Int) : MCalls Tryz.prog 50 ([.agg [.sl n 16 (partF P), .int .i64 s]]) [] (.int .i64 (solidE n P s)) [] := by
  refine mcallsF_of (inl := hasI (P := Tryz.prog) [] []) (base [shapeMayR_k] [] []) 0 solidMayR_f (And.intro (by kernel_rfl) ?_)
  repeat' (first | refine And.intro ?_ ?_ | (with_reducible exact ff_elim) | (with_reducible exact tf_elim) | refine' rho_mk [] ?_ | refine num_elim ?_ | intro _ | (with_reducible rfl) | ((with_reducible refine lk_t ?_); exact rfl) | ((with_reducible refine pf_t ?_); exact rfl) | refine tell ?_ | exact True.intro | (refine IsT.of ?_; kernel_rfl))
  all_goals (try (refine loop_keep [1] [0] ?_; refine LoopI.mk ({i : Nat // i ≤ n ∧ firstE (partE P) i = 0}) (fun i => [(3, .int .i64 i.1)]) (fun i => []) (fun i => n - i.1) (⟨0, Nat.zero_le _, firstE_0 _⟩) (wk_mk [some 0] ?_) (fun ⟨i, hi, he⟩ => ?_)))
  repeat' (first | refine And.intro ?_ ?_ | (with_reducible exact ff_elim) | (with_reducible exact tf_elim) | refine stp_mk [some 0] (⟨i + 1, ?_, ?_⟩) ?_ ?_ | refine view_part ?_ | refine' rho_mk [] ?_ | refine num_elim ?_ | intro _ | (with_reducible rfl) | ((with_reducible refine lk_t ?_); exact rfl) | ((with_reducible refine pf_t ?_); exact rfl) | refine tell ?_ | exact True.intro | (refine IsT.of ?_; kernel_rfl))
  all_goals (try refine Tell.mk ?_)
  all_goals first | with_reducible rfl | with_reducible exact isI_mk | with_reducible assumption | (with_reducible refine gb_t ?_; with_reducible assumption) | (with_reducible refine gb_f ?_; with_reducible assumption) | ((with_reducible refine lk_t ?_); rfl) | ((with_reducible refine okF_t ?_); kernel_rfl) | ((with_reducible refine ks_t ?_); rfl) | ((with_reducible refine pk_t ?_); rfl) | ((with_reducible refine pf_t ?_); rfl) | skip
  all_goals (try dsimp only at *)
  all_goals (try simp only [decide_eq_true_eq, decide_eq_false_iff_not, Bool.or_eq_true, Bool.or_eq_false_iff, Bool.and_eq_true, Bool.and_eq_false_iff, Bool.not_eq_true', Bool.not_eq_false', bne_iff_ne, ne_eq, beq_iff_eq, bne_eq_false_iff_eq, beq_eq_false_iff_ne, Int.not_lt, Int.not_le, gt_iff_lt, ge_iff_le] at *)
  all_goals (try simp only [mulN1, Nat.add_zero, Nat.zero_add, Nat.mul_one, Int.toNat_natCast, avInt_int] at *)
  all_goals first | with_reducible rfl | with_reducible exact nums_N | omega | ((with_reducible refine by_le 1 rfl ?_); omega) | ((with_reducible refine by_le 8 rfl ?_); omega) | (rw [wrapI (by omega) (by omega)] <;> omega) | skip
  all_goals first | exact solidE_5 (by assumption) | exact solidE_4 (by assumption) (by assumption) | skip
  all_goals first | (refine firstE_s he ?_; grind [partE, Shp.err]) | (refine solidE_e (by assumption) (by assumption) he (by assumption) ?_ ?_ <;> grind [partE, Shp.err]) | skip
  all_goals first | exact Nat.le_refl 16 | skip
  all_goals (obtain rfl : i = n := (by omega))
  all_goals (rw [solidE_n (by assumption) (by assumption)]; exact he)
end Go.Proofs.YtphdjmaebdmdmaaGreatDoor
/- Fields: which ones may be. -/
namespace Go.Proofs.YtphdjmaebdmdmaaGreatDoor
open Go.RowKit Ev
set_option linter.unusedVariables false
set_option linter.unusedSimpArgs false
set_option maxRecDepth 20000
set_option maxHeartbeats 4000000

def fX (x d : Nat) (i : Int) : Nat := F .add x (F .mul (cn (FloatKind.f64.nearest i)) d)
def fY (y : Nat) (h : Int) : Nat := F .add y (F .quo (cn (FloatKind.f64.nearest h)) 4652007308841189376)
/-- A grid that may be. -/
structure Grid (w h : Int) (n : Nat) : Prop where
  w2 : 2 ≤ w
  w8 : w ≤ 8
  h2 : 2 ≤ h
  h8 : h ≤ 8
  n : (n : Int) = w * h
theorem grid_at {w h : Int} {n : Nat} (g : Grid w h n) {i k : Int} (hi : 0 ≤ i ∧ i < w) (hk : 0 ≤ k ∧ k < h) : IntKind.i64.wrap (k * w) = k * w ∧ IntKind.i64.wrap (k * w + i) = k * w + i ∧ 0 ≤ k * w + i ∧ k * w + i < n := by
  obtain ⟨a, b, c, d, e⟩ := g
  have h1 : 0 ≤ k * w := Int.mul_nonneg hk.1 (by omega)
  have h2 : k * w ≤ (h - 1) * w := Int.mul_le_mul_of_nonneg_right (by omega) (by omega)
  have h3 : (h - 1) * w = w * h - w := by rw [Int.sub_mul, Int.one_mul, Int.mul_comm h w]
  have h4 : w * h ≤ 8 * 8 := Int.mul_le_mul b d (by omega) (by omega)
  exact ⟨wrapI (by omega) (by omega), wrapI (by omega) (by omega), by omega, by omega⟩
theorem point_f : FnOk Tryz.prog 139 Tryz.f139 := ⟨Tryz.func139, by kernel_rfl⟩
theorem point_a (w h : Int) (x y z d n : Nat) (H : Nat → Int) (s i k : Int) (hpre : Grid w h n ∧ (0 ≤ i ∧ i < w) ∧ (0 ≤ k ∧ k < h)) : ACalls Tryz.prog 139 [.agg [.int .i64 w, .int .i64 h, .flt x, .flt y, .flt z, .flt d, ints .i64 n H, .int .i64 s], .int .i64 i, .int .i64 k] (.agg [.flt (fX x d i), .flt (fY y (H (k * w + i).toNat)), .flt (fX z d k)]) := by
  refine acalls_of (inl := hasI (P := Tryz.prog) [] []) (base [] [] []) 0 point_f (And.intro (by kernel_rfl) ?_)
  repeat' (first | refine And.intro ?_ ?_ | (with_reducible exact ff_elim) | (with_reducible exact tf_elim) | refine num_elim ?_ | intro _ | (with_reducible rfl) | ((with_reducible refine lk_t ?_); exact rfl) | ((with_reducible refine pf_t ?_); exact rfl) | refine tell ?_ | exact True.intro | (refine IsT.of ?_; kernel_rfl))
  all_goals (have hq := grid_at hpre.1 hpre.2.1 hpre.2.2; have q1 := hq.1; have q2 := hq.2.1; have q3 := hq.2.2.1; have q4 := hq.2.2.2)
  all_goals (try refine Tell.mk ?_)
  all_goals first | with_reducible rfl | with_reducible exact isI_mk | with_reducible assumption | (with_reducible refine gb_t ?_; with_reducible assumption) | (with_reducible refine gb_f ?_; with_reducible assumption) | ((with_reducible refine lk_t ?_); rfl) | ((with_reducible refine okF_t ?_); kernel_rfl) | ((with_reducible refine ks_t ?_); rfl) | ((with_reducible refine pk_t ?_); rfl) | ((with_reducible refine pf_t ?_); rfl) | skip
  all_goals (try dsimp only at *)
  all_goals (try simp only [decide_eq_true_eq, decide_eq_false_iff_not, Bool.or_eq_true, Bool.or_eq_false_iff, Bool.and_eq_true, Bool.and_eq_false_iff, Bool.not_eq_true', Bool.not_eq_false', bne_iff_ne, ne_eq, beq_iff_eq, bne_eq_false_iff_eq, beq_eq_false_iff_ne, Int.not_lt, Int.not_le, gt_iff_lt, ge_iff_le] at *)
  all_goals (try simp only [mulN1, Nat.add_zero, Nat.zero_add, Nat.mul_one, Int.toNat_natCast, avInt_int, intF_mk] at *)
  all_goals (try simp only [q1, q2] at *)
  all_goals first | with_reducible rfl | with_reducible exact nums_N | omega | ((with_reducible refine by_le 1 rfl ?_); omega) | ((with_reducible refine by_le 8 rfl ?_); omega) | (rw [wrapI (by omega) (by omega)] <;> omega) | skip
  all_goals first | omega | rfl
def point_r (w h : Int) (x y z d n : Nat) (H : Nat → Int) (s i k : Int) : AV := .agg [.flt (fX x d i), .flt (fY y (H (k * w + i).toNat)), .flt (fX z d k)]
def point_p (w h : Int) (x y z d n : Nat) (H : Nat → Int) (s i k : Int) : Prop := Grid w h n ∧ (0 ≤ i ∧ i < w) ∧ (0 ≤ k ∧ k < h)
def point_k : Con Tryz.prog := ⟨139, fun args => match args with | [.agg [.int .i64 w, .int .i64 h, .flt x, .flt y, .flt z, .flt d, .sl n 1 g_H, .int .i64 s], .int .i64 i, .int .i64 k] => .ok (some (IsI .i64 g_H ∧ point_p w h x y z d n (intF g_H) s i k)) (point_r w h x y z d n (intF g_H) s i k) | _ => .no, by
  intro args p r h hp
  split at h
  · cases h; obtain ⟨h_H, hp⟩ := hp; have e_H := h_H.eq; rw [e_H]; exact point_a _ _ _ _ _ _ _ _ _ _ _ hp
  · cases h⟩
theorem gridP_f : FnOk Tryz.prog 146 Tryz.f146 := ⟨Tryz.func146, by kernel_rfl⟩
theorem gridP_a (w h : Int) (x y z d n : Nat) (H : Nat → Int) (s i k : Int) (hpre : Grid w h n ∧ (0 ≤ i ∧ i < w) ∧ (0 ≤ k ∧ k < h)) : ACalls Tryz.prog 146 [.agg [.int .i64 w, .int .i64 h, .flt x, .flt y, .flt z, .flt d, ints .i64 n H, .int .i64 s], .int .i64 i, .int .i64 k] (.agg [.flt (fX x d i), .flt (fY y (H (k * w + i).toNat)), .flt (fX z d k)]) := by
  refine acalls_of (inl := hasI (P := Tryz.prog) [] []) (base [times_k] [] []) 0 gridP_f (And.intro (by kernel_rfl) ?_)
  repeat' (first | refine And.intro ?_ ?_ | (with_reducible exact ff_elim) | (with_reducible exact tf_elim) | refine num_elim ?_ | intro _ | (with_reducible rfl) | ((with_reducible refine lk_t ?_); exact rfl) | ((with_reducible refine pf_t ?_); exact rfl) | refine tell ?_ | exact True.intro | (refine IsT.of ?_; kernel_rfl))
  all_goals (have hq := grid_at hpre.1 hpre.2.1 hpre.2.2; have q1 := hq.1; have q2 := hq.2.1; have q3 := hq.2.2.1; have q4 := hq.2.2.2)
  all_goals (try refine Tell.mk ?_)
  all_goals first | with_reducible rfl | with_reducible exact isI_mk | with_reducible assumption | (with_reducible refine gb_t ?_; with_reducible assumption) | (with_reducible refine gb_f ?_; with_reducible assumption) | ((with_reducible refine lk_t ?_); rfl) | ((with_reducible refine okF_t ?_); kernel_rfl) | ((with_reducible refine ks_t ?_); rfl) | ((with_reducible refine pk_t ?_); rfl) | ((with_reducible refine pf_t ?_); rfl) | skip
  all_goals (try dsimp only at *)
  all_goals (try simp only [decide_eq_true_eq, decide_eq_false_iff_not, Bool.or_eq_true, Bool.or_eq_false_iff, Bool.and_eq_true, Bool.and_eq_false_iff, Bool.not_eq_true', Bool.not_eq_false', bne_iff_ne, ne_eq, beq_iff_eq, bne_eq_false_iff_eq, beq_eq_false_iff_ne, Int.not_lt, Int.not_le, gt_iff_lt, ge_iff_le] at *)
  all_goals (try simp only [mulN1, Nat.add_zero, Nat.zero_add, Nat.mul_one, Int.toNat_natCast, avInt_int, intF_mk] at *)
  all_goals (try simp only [q1, q2] at *)
  all_goals first | with_reducible rfl | with_reducible exact nums_N | omega | ((with_reducible refine by_le 1 rfl ?_); omega) | ((with_reducible refine by_le 8 rfl ?_); omega) | (rw [wrapI (by omega) (by omega)] <;> omega) | skip
  all_goals first | omega | rfl
def gridP_r (w h : Int) (x y z d n : Nat) (H : Nat → Int) (s i k : Int) : AV := .agg [.flt (fX x d i), .flt (fY y (H (k * w + i).toNat)), .flt (fX z d k)]
def gridP_p (w h : Int) (x y z d n : Nat) (H : Nat → Int) (s i k : Int) : Prop := Grid w h n ∧ (0 ≤ i ∧ i < w) ∧ (0 ≤ k ∧ k < h)
def gridP_k : Con Tryz.prog := ⟨146, fun args => match args with | [.agg [.int .i64 w, .int .i64 h, .flt x, .flt y, .flt z, .flt d, .sl n 1 g_H, .int .i64 s], .int .i64 i, .int .i64 k] => .ok (some (IsI .i64 g_H ∧ gridP_p w h x y z d n (intF g_H) s i k)) (gridP_r w h x y z d n (intF g_H) s i k) | _ => .no, by
  intro args p r h hp
  split at h
  · cases h; obtain ⟨h_H, hp⟩ := hp; have e_H := h_H.eq; rw [e_H]; exact gridP_a _ _ _ _ _ _ _ _ _ _ _ hp
  · cases h⟩
/-- What is gathered point by point. -/
def accF (op : Nat → Nat → Nat) (f0 : Nat) (f : Nat → Nat) : Nat → Nat
  | 0 => f0
  | t + 1 => op (accF op f0 f t) (f t)
theorem accF_0 {op : Nat → Nat → Nat} {f0 : Nat} {f : Nat → Nat} : accF op f0 f 0 = f0 := rfl
theorem accF_s {op : Nat → Nat → Nat} {f0 : Nat} {f : Nat → Nat} {t t' v : Nat} (ht : t' = t + 1) (hv : v = f t) : accF op f0 f t' = op (accF op f0 f t) v := by subst ht hv; rfl
attribute [irreducible] accF
def bX (op : Nat → Nat → Nat) (w x d t : Nat) : Nat := accF op (fX x d 0) (fun t => fX x d (t % w : Nat)) t
def bY (op : Nat → Nat → Nat) (y : Nat) (H : Nat → Int) (t : Nat) : Nat := accF op (fY y (H 0)) (fun t => fY y (H t)) t
def bZ (op : Nat → Nat → Nat) (w z d t : Nat) : Nat := accF op (fX z d 0) (fun t => fX z d (t / w : Nat)) t
def bRow (w x y z d : Nat) (H : Nat → Int) (t : Nat) : List AV := [.flt (bX lessV w x d t), .flt (bY lessV y H t), .flt (bZ lessV w z d t), .flt (bX moreV w x d t), .flt (bY moreV y H t), .flt (bZ moreV w z d t)]
structure UpH (h : Int) where
  v : Nat
  le : (v : Int) ≤ h
structure UpW (w : Int) where
  v : Nat
  le : (v : Int) ≤ w
theorem bX_0 {op : Nat → Nat → Nat} {w x d t : Nat} (h : t = 0) : bX op w x d t = fX x d 0 := by subst h; exact accF_0
theorem bY_0 {op : Nat → Nat → Nat} {y t : Nat} {H : Nat → Int} {j : Nat} (h : t = 0) (hj : j = 0) : bY op y H t = fY y (H j) := by subst h hj; exact accF_0
theorem bZ_0 {op : Nat → Nat → Nat} {w z d t : Nat} (h : t = 0) : bZ op w z d t = fX z d 0 := by subst h; exact accF_0
theorem bX_s {op : Nat → Nat → Nat} {w x d k i : Nat} (hi : i < w) : bX op w x d (k * w + (i + 1)) = op (bX op w x d (k * w + i)) (fX x d (i : Int)) :=
  accF_s rfl (by rw [show (k * w + i) % w = i by rw [Nat.mul_comm, Nat.mul_add_mod]; exact Nat.mod_eq_of_lt hi])
theorem bY_s {op : Nat → Nat → Nat} {w y k i j : Nat} {H : Nat → Int} (hj : j = k * w + i) : bY op y H (k * w + (i + 1)) = op (bY op y H (k * w + i)) (fY y (H j)) :=
  accF_s rfl (by rw [hj])
theorem bZ_s {op : Nat → Nat → Nat} {w z d k i : Nat} (hi : i < w) : bZ op w z d (k * w + (i + 1)) = op (bZ op w z d (k * w + i)) (fX z d (k : Int)) :=
  accF_s rfl (by rw [show (k * w + i) / w = k by rw [Nat.mul_comm, Nat.mul_add_div (by omega), Nat.div_eq_of_lt hi, Nat.add_zero]])
theorem b_end {w k i : Nat} (hi : i = w) : (k + 1) * w = k * w + i := by rw [Nat.add_mul, Nat.one_mul, hi]
theorem b_all {n k W V : Nat} (h : (n : Int) = W * V) (e : k = V) : n = k * W := by
  subst e
  rw [← Int.natCast_mul] at h
  rw [Nat.mul_comm]; omega
theorem fieldBx_f : FnOk Tryz.prog 88 Tryz.f88 := ⟨Tryz.func88, by kernel_rfl⟩
theorem fieldBx_a (w h : Int) (x y z d n : Nat) (H : Nat → Int) (s : Int) (hpre : Grid w h n) : ACalls Tryz.prog 88 [.agg [.int .i64 w, .int .i64 h, .flt x, .flt y, .flt z, .flt d, ints .i64 n H, .int .i64 s]] (.agg (bRow w.toNat x y z d H n)) := by
  refine acalls_of (inl := hasI (P := Tryz.prog) [] []) (base [point_k, join_k] [] []) 0 fieldBx_f (And.intro (by kernel_rfl) ?_)
  repeat' (first | refine And.intro ?_ ?_ | (with_reducible exact ff_elim) | (with_reducible exact tf_elim) | refine num_elim ?_ | intro _ | (with_reducible rfl) | ((with_reducible refine lk_t ?_); exact rfl) | ((with_reducible refine pf_t ?_); exact rfl) | refine tell ?_ | exact True.intro | (refine IsT.of ?_; kernel_rfl))
  all_goals (try (refine loop_keep [1, 2, 3, 13] [0, 1] ?_; refine LoopI.mk (UpH h) (fun k => [(14, .int .i64 k.1)]) (fun k => [(7, .row (bRow w.toNat x y z d H (k.1 * w.toNat)))]) (fun k => h.toNat - k.1) (⟨0, (by have := hpre.h2; omega)⟩) (wk_mk [some 7, some 0, some 1] ?_) (fun ⟨k, hk⟩ => ?_)))
  repeat' (first | refine And.intro ?_ ?_ | (with_reducible exact ff_elim) | (with_reducible exact tf_elim) | refine stp_mk [some 7, some 0, some 1] ((⟨k + 1, ?_⟩ : UpH h)) ?_ ?_ | refine num_elim ?_ | intro _ | (with_reducible rfl) | ((with_reducible refine lk_t ?_); exact rfl) | ((with_reducible refine pf_t ?_); exact rfl) | refine tell ?_ | exact True.intro | (refine IsT.of ?_; kernel_rfl))
  all_goals (try (refine loop_keep [1, 2, 3, 4, 13, 14, 18] [0, 1] ?_; refine LoopI.mk (UpW w) (fun i => [(19, .int .i64 i.1)]) (fun i => [(7, .row (bRow w.toNat x y z d H (k * w.toNat + i.1)))]) (fun i => w.toNat - i.1) (⟨0, (by have := hpre.w2; omega)⟩) (wk_mk [some 7, some 0, some 1] ?_) (fun ⟨i, hi⟩ => ?_)))
  repeat' (first | refine And.intro ?_ ?_ | (with_reducible exact ff_elim) | (with_reducible exact tf_elim) | refine stp_mk [some 7, some 0, some 1] ((⟨i + 1, ?_⟩ : UpW w)) ?_ ?_ | refine stp_mk [some 7, some 0, some 1] (⟨k + 1, ?_⟩ : UpH h) ?_ ?_ | refine num_elim ?_ | intro _ | (with_reducible rfl) | ((with_reducible refine lk_t ?_); exact rfl) | ((with_reducible refine pf_t ?_); exact rfl) | refine tell ?_ | exact True.intro | (refine IsT.of ?_; kernel_rfl))
  all_goals (try refine Tell.mk ?_)
  all_goals first | with_reducible rfl | with_reducible exact isI_mk | with_reducible assumption | (with_reducible refine gb_t ?_; with_reducible assumption) | (with_reducible refine gb_f ?_; with_reducible assumption) | ((with_reducible refine lk_t ?_); rfl) | ((with_reducible refine okF_t ?_); kernel_rfl) | ((with_reducible refine ks_t ?_); rfl) | ((with_reducible refine pk_t ?_); rfl) | ((with_reducible refine pf_t ?_); rfl) | skip
  all_goals (try dsimp only at *)
  all_goals (try simp only [decide_eq_true_eq, decide_eq_false_iff_not, Bool.or_eq_true, Bool.or_eq_false_iff, Bool.and_eq_true, Bool.and_eq_false_iff, Bool.not_eq_true', Bool.not_eq_false', bne_iff_ne, ne_eq, beq_iff_eq, bne_eq_false_iff_eq, beq_eq_false_iff_ne, Int.not_lt, Int.not_le, gt_iff_lt, ge_iff_le] at *)
  all_goals (try simp only [mulN1, Nat.add_zero, Nat.zero_add, Nat.mul_one, Int.toNat_natCast, avInt_int, intF_mk] at *)
  all_goals first | with_reducible rfl | with_reducible exact nums_N | omega | ((with_reducible refine by_le 1 rfl ?_); omega) | ((with_reducible refine by_le 8 rfl ?_); omega) | (rw [wrapI (by omega) (by omega)] <;> omega) | skip
  all_goals (have g := hpre; obtain ⟨W, rfl⟩ : ∃ W : Nat, w = W := ⟨w.toNat, (by have := g.w2; omega)⟩; obtain ⟨V, rfl⟩ : ∃ V : Nat, h = V := ⟨h.toNat, (by have := g.h2; omega)⟩)
  all_goals obtain ⟨g1, g2, g3, g4, g5⟩ := hpre
  all_goals (try simp only [Int.toNat_natCast] at *)
  all_goals first | omega | with_reducible exact bX_0 (Nat.zero_mul _) | with_reducible exact bY_0 (Nat.zero_mul _) (by omega) | with_reducible exact bZ_0 (Nat.zero_mul _) | (rw [wrapI (by omega) (by omega)]; omega) | skip
  all_goals first | with_reducible exact bX_s (by omega) | with_reducible exact bY_s (w := W) (by rw [← Int.natCast_mul, ← Int.natCast_add, Int.toNat_natCast]) | with_reducible exact bZ_s (by omega) | (rw [b_end (show i = W by omega)]; done) | skip
  all_goals (rw [b_all g5 (show k = V by omega)])
def fieldBx_r (w h : Int) (x y z d n : Nat) (H : Nat → Int) (s : Int) : AV := .agg (bRow w.toNat x y z d H n)
def fieldBx_p (w h : Int) (x y z d n : Nat) (H : Nat → Int) (s : Int) : Prop := Grid w h n
def fieldBx_k : Con Tryz.prog := ⟨88, fun args => match args with | [.agg [.int .i64 w, .int .i64 h, .flt x, .flt y, .flt z, .flt d, .sl n 1 g_H, .int .i64 s]] => .ok (some (IsI .i64 g_H ∧ fieldBx_p w h x y z d n (intF g_H) s)) (fieldBx_r w h x y z d n (intF g_H) s) | _ => .no, by
  intro args p r h hp
  split at h
  · cases h; obtain ⟨h_H, hp⟩ := hp; have e_H := h_H.eq; rw [e_H]; exact fieldBx_a _ _ _ _ _ _ _ _ _ hp
  · cases h⟩
structure UpHp (h : Int) where
  v : Nat
  le : (v : Int) ≤ h
  a : Nat
  b : Nat
  c : Nat
structure UpWp (w : Int) where
  v : Nat
  le : (v : Int) ≤ w
  a : Nat
  b : Nat
  c : Nat
theorem fieldBxR_f : FnOk Tryz.prog 92 Tryz.f92 := ⟨Tryz.func92, by kernel_rfl⟩
theorem fieldBxR_a (w h : Int) (x y z d n : Nat) (H : Nat → Int) (s : Int) (hpre : Grid w h n) : ACalls Tryz.prog 92 [.agg [.int .i64 w, .int .i64 h, .flt x, .flt y, .flt z, .flt d, ints .i64 n H, .int .i64 s]] (.agg (bRow w.toNat x y z d H n)) := by
  refine acalls_of (inl := hasI (P := Tryz.prog) [] []) (base [gridP_k, lowR_k, highR_k] [] []) 0 fieldBxR_f (And.intro (by kernel_rfl) ?_)
  repeat' (first | refine And.intro ?_ ?_ | (with_reducible exact ff_elim) | (with_reducible exact tf_elim) | refine num_elim ?_ | intro _ | (with_reducible rfl) | ((with_reducible refine lk_t ?_); exact rfl) | ((with_reducible refine pf_t ?_); exact rfl) | refine tell ?_ | exact True.intro | (refine IsT.of ?_; kernel_rfl))
  all_goals (try (refine loop_keep [1, 2, 3, 4] [0, 1] ?_; refine LoopI.mk (UpHp h) (fun k => [(5, .int .i64 k.1)]) (fun k => [(9, .row (bRow w.toNat x y z d H (k.1 * w.toNat))), (4, .row [.flt k.3, .flt k.4, .flt k.5])]) (fun k => h.toNat - k.1) (⟨0, (by have := hpre.h2; omega), fX x d 0, fY y (H (0 * w + 0).toNat), fX z d 0⟩) (wk_mk [some 9, some 4, some 0, some 1] ?_) (fun ⟨k, hk, p1, p2, p3⟩ => ?_)))
  repeat' (first | refine And.intro ?_ ?_ | (with_reducible exact ff_elim) | (with_reducible exact tf_elim) | refine stp_mk [some 9, some 4, some 0, some 1] ((⟨k + 1, ?_, p1, p2, p3⟩ : UpHp h)) ?_ ?_ | refine num_elim ?_ | intro _ | (with_reducible rfl) | ((with_reducible refine lk_t ?_); exact rfl) | ((with_reducible refine pf_t ?_); exact rfl) | refine tell ?_ | exact True.intro | (refine IsT.of ?_; kernel_rfl))
  all_goals (try (refine loop_keep [1, 2, 3, 4, 5] [0, 1] ?_; refine LoopI.mk (UpWp w) (fun i => [(6, .int .i64 i.1)]) (fun i => [(9, .row (bRow w.toNat x y z d H (k * w.toNat + i.1))), (4, .row [.flt i.3, .flt i.4, .flt i.5])]) (fun i => w.toNat - i.1) (⟨0, (by have := hpre.w2; omega), p1, p2, p3⟩) (wk_mk [some 9, some 4, some 0, some 1] ?_) (fun ⟨i, hi, q1, q2, q3⟩ => ?_)))
  repeat' (first | refine And.intro ?_ ?_ | (with_reducible exact ff_elim) | (with_reducible exact tf_elim) | refine stp_mk [some 9, some 4, some 0, some 1] ((⟨i + 1, ?_, fX x d i, fY y (H ((k : Int) * w + (i : Int)).toNat), fX z d k⟩ : UpWp w)) ?_ ?_ | refine stp_mk [some 9, some 4, some 0, some 1] (⟨k + 1, ?_, q1, q2, q3⟩ : UpHp h) ?_ ?_ | refine num_elim ?_ | intro _ | (with_reducible rfl) | ((with_reducible refine lk_t ?_); exact rfl) | ((with_reducible refine pf_t ?_); exact rfl) | refine tell ?_ | exact True.intro | (refine IsT.of ?_; kernel_rfl))
  all_goals (try refine Tell.mk ?_)
  all_goals first | with_reducible rfl | with_reducible exact isI_mk | with_reducible assumption | (with_reducible refine gb_t ?_; with_reducible assumption) | (with_reducible refine gb_f ?_; with_reducible assumption) | ((with_reducible refine lk_t ?_); rfl) | ((with_reducible refine okF_t ?_); kernel_rfl) | ((with_reducible refine ks_t ?_); rfl) | ((with_reducible refine pk_t ?_); rfl) | ((with_reducible refine pf_t ?_); rfl) | skip
  all_goals (try dsimp only at *)
  all_goals (try simp only [decide_eq_true_eq, decide_eq_false_iff_not, Bool.or_eq_true, Bool.or_eq_false_iff, Bool.and_eq_true, Bool.and_eq_false_iff, Bool.not_eq_true', Bool.not_eq_false', bne_iff_ne, ne_eq, beq_iff_eq, bne_eq_false_iff_eq, beq_eq_false_iff_ne, Int.not_lt, Int.not_le, gt_iff_lt, ge_iff_le] at *)
  all_goals (try simp only [mulN1, Nat.add_zero, Nat.zero_add, Nat.mul_one, Int.toNat_natCast, avInt_int, intF_mk] at *)
  all_goals first | with_reducible rfl | with_reducible exact nums_N | omega | ((with_reducible refine by_le 1 rfl ?_); omega) | ((with_reducible refine by_le 8 rfl ?_); omega) | (rw [wrapI (by omega) (by omega)] <;> omega) | skip
  all_goals (have g := hpre; obtain ⟨W, rfl⟩ : ∃ W : Nat, w = W := ⟨w.toNat, (by have := g.w2; omega)⟩; obtain ⟨V, rfl⟩ : ∃ V : Nat, h = V := ⟨h.toNat, (by have := g.h2; omega)⟩)
  all_goals obtain ⟨g1, g2, g3, g4, g5⟩ := hpre
  all_goals (try simp only [Int.toNat_natCast] at *)
  all_goals first | omega | with_reducible exact bX_0 (Nat.zero_mul _) | with_reducible exact bY_0 (Nat.zero_mul _) (by omega) | with_reducible exact bZ_0 (Nat.zero_mul _) | (rw [wrapI (by omega) (by omega)]; omega) | skip
  all_goals first | with_reducible exact bX_s (by omega) | with_reducible exact bY_s (w := W) (by rw [← Int.natCast_mul, ← Int.natCast_add, Int.toNat_natCast]) | with_reducible exact bZ_s (by omega) | (rw [b_end (show i = W by omega)]; done) | skip
  all_goals (rw [b_all g5 (show k = V by omega)])
def fieldBxR_r (w h : Int) (x y z d n : Nat) (H : Nat → Int) (s : Int) : AV := .agg (bRow w.toNat x y z d H n)
def fieldBxR_p (w h : Int) (x y z d n : Nat) (H : Nat → Int) (s : Int) : Prop := Grid w h n
def fieldBxR_k : Con Tryz.prog := ⟨92, fun args => match args with | [.agg [.int .i64 w, .int .i64 h, .flt x, .flt y, .flt z, .flt d, .sl n 1 g_H, .int .i64 s]] => .ok (some (IsI .i64 g_H ∧ fieldBxR_p w h x y z d n (intF g_H) s)) (fieldBxR_r w h x y z d n (intF g_H) s) | _ => .no, by
  intro args p r h hp
  split at h
  · cases h; obtain ⟨h_H, hp⟩ := hp; have e_H := h_H.eq; rw [e_H]; exact fieldBxR_a _ _ _ _ _ _ _ _ _ hp
  · cases h⟩
end Go.Proofs.YtphdjmaebdmdmaaGreatDoor
/- Fields: what is said of them. -/
namespace Go.Proofs.YtphdjmaebdmdmaaGreatDoor
open Go.RowKit Ev
set_option linter.unusedVariables false
set_option linter.unusedSimpArgs false
set_option maxRecDepth 20000
set_option maxHeartbeats 4000000

def hiE (H : Nat → Int) (i : Nat) : Int := if H i < -1000000 ∨ 1000000 < H i then 6 else 0
@[irreducible] def fbE (w x y z d : Nat) (H : Nat → Int) (n : Nat) : Int := mayV (bX lessV w x d n) (bY lessV y H n) (bZ lessV w z d n) (bX moreV w x d n) (bY moreV y H n) (bZ moreV w z d n)
@[irreducible] def fieldE (w h : Int) (x y z d n : Nat) (H : Nat → Int) (s : Int) : Int :=
  if w < 2 ∨ h < 2 ∨ 8 < w ∨ 8 < h then 4 else if ¬ (n : Int) = w * h then 5 else if s < 0 ∨ 16 ≤ s then 4 else if fineB x y z = false ∨ nearB d = false then 1 else if fgt d 0 = false then 6 else
  if ¬ firstE (hiE H) n = 0 then firstE (hiE H) n else if fbE w.toNat x y z d H n = 0 then 0 else 1
theorem fieldE_4 {w h : Int} {x y z d n : Nat} {H : Nat → Int} {s : Int} (h1 : w < 2 ∨ h < 2 ∨ 8 < w ∨ 8 < h) : fieldE w h x y z d n H s = 4 := by unfold fieldE; rw [if_pos h1]
theorem fieldE_5 {w h : Int} {x y z d n : Nat} {H : Nat → Int} {s : Int} (h1 : ¬ (w < 2 ∨ h < 2 ∨ 8 < w ∨ 8 < h)) (h2 : ¬ (n : Int) = w * h) : fieldE w h x y z d n H s = 5 := by unfold fieldE; rw [if_neg h1, if_pos h2]
theorem fieldE_s {w h : Int} {x y z d n : Nat} {H : Nat → Int} {s : Int} (h1 : ¬ (w < 2 ∨ h < 2 ∨ 8 < w ∨ 8 < h)) (h2 : (n : Int) = w * h) (h3 : s < 0 ∨ 16 ≤ s) : fieldE w h x y z d n H s = 4 := by
  unfold fieldE; rw [if_neg h1, if_neg (fun c => c h2), if_pos h3]
theorem fieldE_1 {w h : Int} {x y z d n : Nat} {H : Nat → Int} {s : Int} (h1 : ¬ (w < 2 ∨ h < 2 ∨ 8 < w ∨ 8 < h)) (h2 : (n : Int) = w * h) (h3 : ¬ (s < 0 ∨ 16 ≤ s)) (h4 : fineB x y z = false ∨ nearB d = false) : fieldE w h x y z d n H s = 1 := by
  unfold fieldE; rw [if_neg h1, if_neg (fun c => c h2), if_neg h3, if_pos h4]
theorem fieldE_6 {w h : Int} {x y z d n : Nat} {H : Nat → Int} {s : Int} (h1 : ¬ (w < 2 ∨ h < 2 ∨ 8 < w ∨ 8 < h)) (h2 : (n : Int) = w * h) (h3 : ¬ (s < 0 ∨ 16 ≤ s)) (h4 : ¬ (fineB x y z = false ∨ nearB d = false)) (h5 : fgt d 0 = false) : fieldE w h x y z d n H s = 6 := by
  unfold fieldE; rw [if_neg h1, if_neg (fun c => c h2), if_neg h3, if_neg h4, if_pos h5]
theorem fieldE_h {w h : Int} {x y z d n i : Nat} {H : Nat → Int} {s : Int} (h1 : ¬ (w < 2 ∨ h < 2 ∨ 8 < w ∨ 8 < h)) (h2 : (n : Int) = w * h) (h3 : ¬ (s < 0 ∨ 16 ≤ s)) (h4 : ¬ (fineB x y z = false ∨ nearB d = false)) (h5 : fgt d 0 = true)
    (he : firstE (hiE H) i = 0) (hi : (i : Int) < n) (hh : H i < -1000000 ∨ 1000000 < H i) : fieldE w h x y z d n H s = 6 := by
  have e : hiE H i = 6 := by unfold hiE; rw [if_pos hh]
  have f := firstE_hit he (by rw [e]; decide) (n := n) (by omega)
  rw [e] at f
  unfold fieldE; rw [if_neg h1, if_neg (fun c => c h2), if_neg h3, if_neg h4, if_neg (by rw [h5]; decide), f, if_pos (by decide)]
theorem fieldE_b {w h : Int} {x y z d n : Nat} {H : Nat → Int} {s : Int} (h1 : ¬ (w < 2 ∨ h < 2 ∨ 8 < w ∨ 8 < h)) (h2 : (n : Int) = w * h) (h3 : ¬ (s < 0 ∨ 16 ≤ s)) (h4 : ¬ (fineB x y z = false ∨ nearB d = false)) (h5 : fgt d 0 = true)
    (he : firstE (hiE H) n = 0) : fieldE w h x y z d n H s = if fbE w.toNat x y z d H n = 0 then 0 else 1 := by
  unfold fieldE; rw [if_neg h1, if_neg (fun c => c h2), if_neg h3, if_neg h4, if_neg (by rw [h5]; decide), if_neg (fun c => c he)]
theorem grid_of {w h : Int} {n : Nat} (h1 : ¬ (w < 2 ∨ h < 2 ∨ 8 < w ∨ 8 < h)) (h2 : (n : Int) = w * h) : Grid w h n := ⟨by omega, by omega, by omega, by omega, h2⟩
theorem wh_le {w h : Int} (h1 : ¬ (w < 2 ∨ h < 2 ∨ 8 < w ∨ 8 < h)) : w * h ≤ 64 ∧ 0 ≤ w * h := by
  have h4 : w * h ≤ 8 * 8 := Int.mul_le_mul (by omega) (by omega) (by omega) (by omega)
  have h5 : 0 ≤ w * h := Int.mul_nonneg (by omega) (by omega)
  omega
theorem wh_wrap {w h : Int} (h1 : ¬ (w < 2 ∨ h < 2 ∨ 8 < w ∨ 8 < h)) : IntKind.i64.wrap (w * h) = w * h := by
  have h4 : w * h ≤ 8 * 8 := Int.mul_le_mul (by omega) (by omega) (by omega) (by omega)
  have h5 : 0 ≤ w * h := Int.mul_nonneg (by omega) (by omega)
  exact wrapI (by omega) (by omega)
theorem le_pos {d : Nat} (h : nearB d = true) (c : flt d 0 = true ∨ feq d 0 = true) : fgt d 0 = false := by
  have e := pos_le h
  cases g : fgt d 0
  · rfl
  · rw [g] at e; rcases c with c | c <;> rw [c] at e <;> simp at e
theorem gt_pos {d : Nat} (h : nearB d = true) (c : flt d 0 = false ∧ feq d 0 = false) : fgt d 0 = true := by
  have e := pos_le h
  rw [c.1, c.2] at e
  cases g : fgt d 0
  · rw [g] at e; cases e
  · rfl
theorem fieldMay_f : FnOk Tryz.prog 46 Tryz.f46 := ⟨Tryz.func46, by kernel_rfl⟩
theorem fieldMay_a (w h : Int) (x y z d n : Nat) (H : Nat → Int) (s : Int) : ACalls Tryz.prog 46 [.agg [.int .i64 w, .int .i64 h, .flt x, .flt y, .flt z, .flt d, ints .i64 n H, .int .i64 s]] (.int .i64 (fieldE w h x y z d n H s)) := by
  refine acalls_of (inl := hasI (P := Tryz.prog) [] []) (base [fine_k, near_k, fieldBx_k, may_k] [] []) 0 fieldMay_f (And.intro (by kernel_rfl) ?_)
  repeat' (first | refine And.intro ?_ ?_ | (with_reducible exact ff_elim) | (with_reducible exact tf_elim) | refine num_elim ?_ | intro _ | (with_reducible rfl) | ((with_reducible refine lk_t ?_); exact rfl) | ((with_reducible refine pf_t ?_); exact rfl) | refine tell ?_ | exact True.intro | (refine IsT.of ?_; kernel_rfl))
  all_goals (try (refine loop_keep [1, 60, 61] [0] ?_; refine LoopI.mk ({i : Nat // i ≤ n ∧ firstE (hiE H) i = 0}) (fun i => [(62, .int .i64 i.1)]) (fun i => []) (fun i => n - i.1) (⟨0, Nat.zero_le _, firstE_0 _⟩) (wk_mk [some 0] ?_) (fun ⟨i, hi, he⟩ => ?_)))
  repeat' (first | refine And.intro ?_ ?_ | (with_reducible exact ff_elim) | (with_reducible exact tf_elim) | refine stp_mk [some 0] (⟨i + 1, ?_, ?_⟩) ?_ ?_ | refine num_elim ?_ | intro _ | (with_reducible rfl) | ((with_reducible refine lk_t ?_); exact rfl) | ((with_reducible refine pf_t ?_); exact rfl) | refine tell ?_ | exact True.intro | (refine IsT.of ?_; kernel_rfl))
  all_goals (try refine Tell.mk ?_)
  all_goals first | with_reducible rfl | with_reducible exact isI_mk | with_reducible assumption | (with_reducible refine gb_t ?_; with_reducible assumption) | (with_reducible refine gb_f ?_; with_reducible assumption) | ((with_reducible refine lk_t ?_); rfl) | ((with_reducible refine okF_t ?_); kernel_rfl) | ((with_reducible refine ks_t ?_); rfl) | ((with_reducible refine pk_t ?_); rfl) | ((with_reducible refine pf_t ?_); rfl) | skip
  all_goals (try dsimp only at *)
  all_goals (try simp only [decide_eq_true_eq, decide_eq_false_iff_not, Bool.or_eq_true, Bool.or_eq_false_iff, Bool.and_eq_true, Bool.and_eq_false_iff, Bool.not_eq_true', Bool.not_eq_false', bne_iff_ne, ne_eq, beq_iff_eq, bne_eq_false_iff_eq, beq_eq_false_iff_ne, Int.not_lt, Int.not_le, gt_iff_lt, ge_iff_le] at *)
  all_goals (try simp only [mulN1, Nat.add_zero, Nat.zero_add, Nat.mul_one, Int.toNat_natCast, avInt_int, intF_mk] at *)
  all_goals first | with_reducible rfl | with_reducible exact nums_N | omega | ((with_reducible refine by_le 1 rfl ?_); omega) | ((with_reducible refine by_le 8 rfl ?_); omega) | (rw [wrapI (by omega) (by omega)] <;> omega) | skip
  all_goals first | (with_reducible exact fieldE_4 (by omega)) | exact Nat.le_refl 16 | skip
  all_goals (have h1 : ¬ (w < 2 ∨ h < 2 ∨ 8 < w ∨ 8 < h) := (by omega); have hw := wh_wrap h1; have hv := wh_le h1; simp only [hw] at *)
  all_goals first | (with_reducible exact fieldE_5 h1 (by assumption)) | skip
  all_goals (have h2 : (n : Int) = w * h := by assumption)
  all_goals first | (with_reducible exact fieldE_s h1 h2 (by omega)) | skip
  all_goals (have h3 : ¬ (s < 0 ∨ 16 ≤ s) := (by omega))
  all_goals first | (with_reducible exact fieldE_1 h1 h2 h3 (by assumption)) | skip
  all_goals (have h4 : fineB x y z = true ∧ nearB d = true := (by assumption); have h5 : ¬ (fineB x y z = false ∨ nearB d = false) := (by rw [h4.1, h4.2]; exact fun c => c.elim (fun e => by cases e) (fun e => by cases e)))
  all_goals first | (with_reducible exact fieldE_6 h1 h2 h3 h5 (by assumption)) | (with_reducible exact fieldE_6 h1 h2 h3 h5 (le_pos h4.2 (by assumption))) | skip
  all_goals (have h6 : fgt d 0 = true := by first | assumption | exact gt_pos h4.2 (by assumption))
  all_goals first | (with_reducible exact fieldE_h h1 h2 h3 h5 h6 he (by assumption) (by assumption)) | (refine firstE_s he ?_; unfold hiE; rw [if_neg (by omega)]; done) | (rw [wrapI (by omega) (by omega)]; omega) | exact grid_of h1 h2 | skip
  all_goals (obtain rfl : i = n := (by omega))
  all_goals (rw [fieldE_b h1 h2 h3 h5 h6 he]; unfold fbE; first | exact (if_neg (by assumption)).symm | exact if_neg (by assumption) | exact if_pos (by assumption))
def fieldMay_r (w h : Int) (x y z d n : Nat) (H : Nat → Int) (s : Int) : AV := .int .i64 (fieldE w h x y z d n H s)
def fieldMay_k : Con Tryz.prog := ⟨46, fun args => match args with | [.agg [.int .i64 w, .int .i64 h, .flt x, .flt y, .flt z, .flt d, .sl n 1 g_H, .int .i64 s]] => .ok (some (IsI .i64 g_H)) (fieldMay_r w h x y z d n (intF g_H) s) | _ => .no, by
  intro args p r h hp
  split at h
  · cases h; have h_H := hp; have e_H := h_H.eq; rw [e_H]; exact fieldMay_a _ _ _ _ _ _ _ _ _
  · cases h⟩
theorem fieldMayR_f : FnOk Tryz.prog 51 Tryz.f51 := ⟨Tryz.func51, by kernel_rfl⟩
theorem fieldMayR_a (w h : Int) (x y z d n : Nat) (H : Nat → Int) (s : Int) : ACalls Tryz.prog 51 [.agg [.int .i64 w, .int .i64 h, .flt x, .flt y, .flt z, .flt d, ints .i64 n H, .int .i64 s]] (.int .i64 (fieldE w h x y z d n H s)) := by
  refine acalls_of (inl := hasI (P := Tryz.prog) [] []) (base [fineR_k, nearR_k, fieldBxR_k, mayR_k] [] []) 0 fieldMayR_f (And.intro (by kernel_rfl) ?_)
  repeat' (first | refine And.intro ?_ ?_ | (with_reducible exact ff_elim) | (with_reducible exact tf_elim) | refine num_elim ?_ | intro _ | (with_reducible rfl) | ((with_reducible refine lk_t ?_); exact rfl) | ((with_reducible refine pf_t ?_); exact rfl) | refine tell ?_ | exact True.intro | (refine IsT.of ?_; kernel_rfl))
  all_goals (try (refine loop_keep [1] [0] ?_; refine LoopI.mk ({i : Nat // i ≤ n ∧ firstE (hiE H) i = 0}) (fun i => [(5, .int .i64 i.1)]) (fun i => []) (fun i => n - i.1) (⟨0, Nat.zero_le _, firstE_0 _⟩) (wk_mk [some 0] ?_) (fun ⟨i, hi, he⟩ => ?_)))
  repeat' (first | refine And.intro ?_ ?_ | (with_reducible exact ff_elim) | (with_reducible exact tf_elim) | refine stp_mk [some 0] (⟨i + 1, ?_, ?_⟩) ?_ ?_ | refine num_elim ?_ | intro _ | (with_reducible rfl) | ((with_reducible refine lk_t ?_); exact rfl) | ((with_reducible refine pf_t ?_); exact rfl) | refine tell ?_ | exact True.intro | (refine IsT.of ?_; kernel_rfl))
  all_goals (try refine Tell.mk ?_)
  all_goals first | with_reducible rfl | with_reducible exact isI_mk | with_reducible assumption | (with_reducible refine gb_t ?_; with_reducible assumption) | (with_reducible refine gb_f ?_; with_reducible assumption) | ((with_reducible refine lk_t ?_); rfl) | ((with_reducible refine okF_t ?_); kernel_rfl) | ((with_reducible refine ks_t ?_); rfl) | ((with_reducible refine pk_t ?_); rfl) | ((with_reducible refine pf_t ?_); rfl) | skip
  all_goals (try dsimp only at *)
  all_goals (try simp only [decide_eq_true_eq, decide_eq_false_iff_not, Bool.or_eq_true, Bool.or_eq_false_iff, Bool.and_eq_true, Bool.and_eq_false_iff, Bool.not_eq_true', Bool.not_eq_false', bne_iff_ne, ne_eq, beq_iff_eq, bne_eq_false_iff_eq, beq_eq_false_iff_ne, Int.not_lt, Int.not_le, gt_iff_lt, ge_iff_le] at *)
  all_goals (try simp only [mulN1, Nat.add_zero, Nat.zero_add, Nat.mul_one, Int.toNat_natCast, avInt_int, intF_mk] at *)
  all_goals first | with_reducible rfl | with_reducible exact nums_N | omega | ((with_reducible refine by_le 1 rfl ?_); omega) | ((with_reducible refine by_le 8 rfl ?_); omega) | (rw [wrapI (by omega) (by omega)] <;> omega) | skip
  all_goals first | (with_reducible exact fieldE_4 (by omega)) | exact Nat.le_refl 16 | skip
  all_goals (have h1 : ¬ (w < 2 ∨ h < 2 ∨ 8 < w ∨ 8 < h) := (by omega); have hw := wh_wrap h1; have hv := wh_le h1; simp only [hw] at *)
  all_goals first | (with_reducible exact fieldE_5 h1 (by assumption)) | skip
  all_goals (have h2 : (n : Int) = w * h := by assumption)
  all_goals first | (with_reducible exact fieldE_s h1 h2 (by omega)) | skip
  all_goals (have h3 : ¬ (s < 0 ∨ 16 ≤ s) := (by omega))
  all_goals first | (with_reducible exact fieldE_1 h1 h2 h3 (by assumption)) | skip
  all_goals (have h4 : fineB x y z = true ∧ nearB d = true := (by assumption); have h5 : ¬ (fineB x y z = false ∨ nearB d = false) := (by rw [h4.1, h4.2]; exact fun c => c.elim (fun e => by cases e) (fun e => by cases e)))
  all_goals first | (with_reducible exact fieldE_6 h1 h2 h3 h5 (by assumption)) | (with_reducible exact fieldE_6 h1 h2 h3 h5 (le_pos h4.2 (by assumption))) | skip
  all_goals (have h6 : fgt d 0 = true := by first | assumption | exact gt_pos h4.2 (by assumption))
  all_goals first | (with_reducible exact fieldE_h h1 h2 h3 h5 h6 he (by assumption) (by assumption)) | (refine firstE_s he ?_; unfold hiE; rw [if_neg (by omega)]; done) | (rw [wrapI (by omega) (by omega)]; omega) | exact grid_of h1 h2 | skip
  all_goals (obtain rfl : i = n := (by omega))
  all_goals (rw [fieldE_b h1 h2 h3 h5 h6 he]; unfold fbE; first | exact (if_neg (by assumption)).symm | exact if_neg (by assumption) | exact if_pos (by assumption))
def fieldMayR_r (w h : Int) (x y z d n : Nat) (H : Nat → Int) (s : Int) : AV := .int .i64 (fieldE w h x y z d n H s)
def fieldMayR_k : Con Tryz.prog := ⟨51, fun args => match args with | [.agg [.int .i64 w, .int .i64 h, .flt x, .flt y, .flt z, .flt d, .sl n 1 g_H, .int .i64 s]] => .ok (some (IsI .i64 g_H)) (fieldMayR_r w h x y z d n (intF g_H) s) | _ => .no, by
  intro args p r h hp
  split at h
  · cases h; have h_H := hp; have e_H := h_H.eq; rw [e_H]; exact fieldMayR_a _ _ _ _ _ _ _ _ _
  · cases h⟩
end Go.Proofs.YtphdjmaebdmdmaaGreatDoor
/- Scenes: skins, lamps, and all of it. -/
namespace Go.Proofs.YtphdjmaebdmdmaaGreatDoor
open Go.RowKit Ev
set_option linter.unusedVariables false
set_option linter.unusedSimpArgs false
set_option maxRecDepth 20000
set_option maxHeartbeats 4000000

def lightB (a b c : Int) : Bool := decide (0 ≤ a ∧ a ≤ 65536 ∧ 0 ≤ b ∧ b ≤ 65536 ∧ 0 ≤ c ∧ c ≤ 65536)
theorem lightB_t {a b c : Int} (h : 0 ≤ a ∧ a ≤ 65536 ∧ 0 ≤ b ∧ b ≤ 65536 ∧ 0 ≤ c ∧ c ≤ 65536) : lightB a b c = true := decide_eq_true h
theorem lightB_f {a b c : Int} (h : ¬ (0 ≤ a ∧ a ≤ 65536 ∧ 0 ≤ b ∧ b ≤ 65536 ∧ 0 ≤ c ∧ c ≤ 65536)) : lightB a b c = false := decide_eq_false h
theorem light_f : FnOk Tryz.prog 48 Tryz.f48 := ⟨Tryz.func48, by kernel_rfl⟩
theorem light_a (a b c : Int) : ACalls Tryz.prog 48 [.agg [.int .i64 a, .int .i64 b, .int .i64 c]] (.bool (lightB a b c)) := by
  refine acalls_of (inl := hasI (P := Tryz.prog) [] []) (base [] [] []) 0 light_f (And.intro (by kernel_rfl) ?_)
  repeat' (first | refine And.intro ?_ ?_ | refine num_lit 0 (by decide) ?_ | refine num_lit 1 (by decide) ?_ | refine num_lit 2 (by decide) ?_ | refine num_lit 3 (by decide) ?_ | refine num_lit 4 (by decide) ?_ | refine num_lit 5 (by decide) ?_ | refine num_lit 6 (by decide) ?_ | refine num_lit 7 (by decide) ?_ | refine num_lit 8 (by decide) ?_ | refine num_elim ?_ | (with_reducible exact ff_elim) | (with_reducible exact tf_elim) | (intro h; exact absurd h (by decide)) | intro _ | (with_reducible rfl) | refine Or.inl ⟨4, ?_⟩ | refine tell ?_ | exact True.intro | (refine IsT.of ?_; kernel_rfl))
  all_goals (try refine Tell.mk ?_)
  all_goals first | with_reducible rfl | with_reducible exact isI_mk | with_reducible assumption | (with_reducible refine gb_t ?_; with_reducible assumption) | (with_reducible refine gb_f ?_; with_reducible assumption) | ((with_reducible refine lk_t ?_); rfl) | ((with_reducible refine okF_t ?_); kernel_rfl) | ((with_reducible refine ks_t ?_); rfl) | ((with_reducible refine pk_t ?_); rfl) | ((with_reducible refine pf_t ?_); rfl) | skip
  all_goals (try dsimp only at *)
  all_goals (try simp only [decide_eq_true_eq, decide_eq_false_iff_not, Bool.or_eq_true, Bool.or_eq_false_iff, Bool.and_eq_true, Bool.and_eq_false_iff, Bool.not_eq_true', Bool.not_eq_false', bne_iff_ne, ne_eq, beq_iff_eq, bne_eq_false_iff_eq, beq_eq_false_iff_ne, Int.not_lt, Int.not_le, gt_iff_lt, ge_iff_le] at *)
  all_goals (try simp only [mulN1, Nat.add_zero, Nat.zero_add, Nat.mul_one, Int.toNat_natCast, avInt_int] at *)
  all_goals first | with_reducible rfl | with_reducible exact nums_N | omega | ((with_reducible refine by_le 1 rfl ?_); omega) | ((with_reducible refine by_le 8 rfl ?_); omega) | (rw [wrapI (by omega) (by omega)] <;> omega) | skip
  all_goals first | exact (lightB_t (by omega)).symm | exact (lightB_f (by omega)).symm | exact lightB_t (by omega) | exact lightB_f (by omega)
def light_k : Con Tryz.prog := ⟨48, fun args => match args with | [.agg [.int .i64 a, .int .i64 b, .int .i64 c]] => .ok (none) (.bool (lightB a b c)) | _ => .no, by
  intro args p r h hp
  split at h
  · cases h; exact light_a _ _ _
  · cases h⟩
theorem lightR_f : FnOk Tryz.prog 53 Tryz.f53 := ⟨Tryz.func53, by kernel_rfl⟩
theorem lightR_a (a b c : Int) : ACalls Tryz.prog 53 [.agg [.int .i64 a, .int .i64 b, .int .i64 c]] (.bool (lightB a b c)) := by
  refine acalls_of (inl := hasI (P := Tryz.prog) [] []) (base [] [] []) 0 lightR_f (And.intro (by kernel_rfl) ?_)
  repeat' (first | refine And.intro ?_ ?_ | refine num_lit 0 (by decide) ?_ | refine num_lit 1 (by decide) ?_ | refine num_lit 2 (by decide) ?_ | refine num_lit 3 (by decide) ?_ | refine num_lit 4 (by decide) ?_ | refine num_lit 5 (by decide) ?_ | refine num_lit 6 (by decide) ?_ | refine num_lit 7 (by decide) ?_ | refine num_lit 8 (by decide) ?_ | refine num_elim ?_ | (with_reducible exact ff_elim) | (with_reducible exact tf_elim) | (intro h; exact absurd h (by decide)) | intro _ | (with_reducible rfl) | refine Or.inl ⟨4, ?_⟩ | refine tell ?_ | exact True.intro | (refine IsT.of ?_; kernel_rfl))
  all_goals (try refine Tell.mk ?_)
  all_goals first | with_reducible rfl | with_reducible exact isI_mk | with_reducible assumption | (with_reducible refine gb_t ?_; with_reducible assumption) | (with_reducible refine gb_f ?_; with_reducible assumption) | ((with_reducible refine lk_t ?_); rfl) | ((with_reducible refine okF_t ?_); kernel_rfl) | ((with_reducible refine ks_t ?_); rfl) | ((with_reducible refine pk_t ?_); rfl) | ((with_reducible refine pf_t ?_); rfl) | skip
  all_goals (try dsimp only at *)
  all_goals (try simp only [decide_eq_true_eq, decide_eq_false_iff_not, Bool.or_eq_true, Bool.or_eq_false_iff, Bool.and_eq_true, Bool.and_eq_false_iff, Bool.not_eq_true', Bool.not_eq_false', bne_iff_ne, ne_eq, beq_iff_eq, bne_eq_false_iff_eq, beq_eq_false_iff_ne, Int.not_lt, Int.not_le, gt_iff_lt, ge_iff_le] at *)
  all_goals (try simp only [mulN1, Nat.add_zero, Nat.zero_add, Nat.mul_one, Int.toNat_natCast, avInt_int] at *)
  all_goals first | with_reducible rfl | with_reducible exact nums_N | omega | ((with_reducible refine by_le 1 rfl ?_); omega) | ((with_reducible refine by_le 8 rfl ?_); omega) | (rw [wrapI (by omega) (by omega)] <;> omega) | skip
  all_goals (rw [Bool.eq_iff_iff]; unfold lightB; simp only [Bool.true_and, Bool.and_eq_true, decide_eq_true_eq]; omega)
def lightR_k : Con Tryz.prog := ⟨53, fun args => match args with | [.agg [.int .i64 a, .int .i64 b, .int .i64 c]] => .ok (none) (.bool (lightB a b c)) | _ => .no, by
  intro args p r h hp
  split at h
  · cases h; exact lightR_a _ _ _
  · cases h⟩
def skin3 (a b g : Int) : Prop := 0 ≤ a ∧ a ≤ 1000 ∧ 0 ≤ b ∧ b ≤ 1000 ∧ 0 ≤ g ∧ g ≤ 1000 ∧ a + b + g ≤ 1000
instance (a b g : Int) : Decidable (skin3 a b g) := by unfold skin3; infer_instance
def skinE (a b c d e f g h i n : Int) : Int := if skin3 a d g ∧ skin3 b e h ∧ skin3 c f i ∧ 100 ≤ n ∧ n ≤ 10000 then 0 else 6
theorem skin3_no {a b g : Int} (h : ¬ (0 ≤ a ∧ a ≤ 1000 ∧ 0 ≤ b ∧ b ≤ 1000 ∧ 0 ≤ g ∧ g ≤ 1000) ∨ 1000 < IntKind.i64.wrap (IntKind.i64.wrap (a + b) + g)) : ¬ skin3 a b g := by
  unfold skin3
  intro c
  rw [wrapI (x := a + b) (by omega) (by omega), wrapI (by omega) (by omega)] at h
  omega
theorem skin3_yes {a b g : Int} (h : 0 ≤ a ∧ a ≤ 1000 ∧ 0 ≤ b ∧ b ≤ 1000 ∧ 0 ≤ g ∧ g ≤ 1000) (h2 : IntKind.i64.wrap (IntKind.i64.wrap (a + b) + g) ≤ 1000) : skin3 a b g := by
  rw [wrapI (x := a + b) (by omega) (by omega), wrapI (by omega) (by omega)] at h2
  unfold skin3
  omega
theorem skinE_no {a b c d e f g h i n : Int} (hc : ¬ (skin3 a d g ∧ skin3 b e h ∧ skin3 c f i ∧ 100 ≤ n ∧ n ≤ 10000)) : skinE a b c d e f g h i n = 6 := if_neg hc
theorem skinMay_f : FnOk Tryz.prog 15 Tryz.f15 := ⟨Tryz.func15, by kernel_rfl⟩
theorem skinMay_a (a b c d e f g h i n : Int) : ACalls Tryz.prog 15 [.agg [.int .i64 a, .int .i64 b, .int .i64 c, .int .i64 d, .int .i64 e, .int .i64 f, .int .i64 g, .int .i64 h, .int .i64 i, .int .i64 n]] (.int .i64 (skinE a b c d e f g h i n)) := by
  refine acalls_of (inl := hasI (P := Tryz.prog) [] []) (base [] [] []) 0 skinMay_f (And.intro (by kernel_rfl) ?_)
  repeat' (first | refine And.intro ?_ ?_ | refine num_lit 0 (by decide) ?_ | refine num_lit 1 (by decide) ?_ | refine num_lit 2 (by decide) ?_ | refine num_lit 3 (by decide) ?_ | refine num_lit 4 (by decide) ?_ | refine num_lit 5 (by decide) ?_ | refine num_lit 6 (by decide) ?_ | refine num_lit 7 (by decide) ?_ | refine num_lit 8 (by decide) ?_ | refine num_elim ?_ | (with_reducible exact ff_elim) | (with_reducible exact tf_elim) | (intro h; exact absurd h (by decide)) | intro _ | (with_reducible rfl) | refine Or.inl ⟨4, ?_⟩ | refine tell ?_ | exact True.intro | (refine IsT.of ?_; kernel_rfl))
  all_goals (try refine Tell.mk ?_)
  all_goals first | with_reducible rfl | with_reducible exact isI_mk | with_reducible assumption | (with_reducible refine gb_t ?_; with_reducible assumption) | (with_reducible refine gb_f ?_; with_reducible assumption) | ((with_reducible refine lk_t ?_); rfl) | ((with_reducible refine okF_t ?_); kernel_rfl) | ((with_reducible refine ks_t ?_); rfl) | ((with_reducible refine pk_t ?_); rfl) | ((with_reducible refine pf_t ?_); rfl) | skip
  all_goals (try dsimp only at *)
  all_goals (try simp only [decide_eq_true_eq, decide_eq_false_iff_not, Bool.or_eq_true, Bool.or_eq_false_iff, Bool.and_eq_true, Bool.and_eq_false_iff, Bool.not_eq_true', Bool.not_eq_false', bne_iff_ne, ne_eq, beq_iff_eq, bne_eq_false_iff_eq, beq_eq_false_iff_ne, Int.not_lt, Int.not_le, gt_iff_lt, ge_iff_le] at *)
  all_goals (try simp only [mulN1, Nat.add_zero, Nat.zero_add, Nat.mul_one, Int.toNat_natCast, avInt_int] at *)
  all_goals first | with_reducible rfl | with_reducible exact nums_N | omega | ((with_reducible refine by_le 1 rfl ?_); omega) | ((with_reducible refine by_le 8 rfl ?_); omega) | (rw [wrapI (by omega) (by omega)] <;> omega) | skip
  all_goals first | exact if_pos ⟨skin3_yes (by omega) (by omega), skin3_yes (by omega) (by omega), skin3_yes (by omega) (by omega), (by omega), (by omega)⟩ | exact skinE_no (fun c => skin3_no (by omega) c.1) | exact skinE_no (fun c => skin3_no (by omega) c.2.1) | exact skinE_no (fun c => skin3_no (by omega) c.2.2.1) | exact skinE_no (fun c => (by have := c.2.2.2; omega))
def skinMay_k : Con Tryz.prog := ⟨15, fun args => match args with | [.agg [.int .i64 a, .int .i64 b, .int .i64 c, .int .i64 d, .int .i64 e, .int .i64 f, .int .i64 g, .int .i64 h, .int .i64 i, .int .i64 n]] => .ok (none) (.int .i64 (skinE a b c d e f g h i n)) | _ => .no, by
  intro args p r h hp
  split at h
  · cases h; exact skinMay_a _ _ _ _ _ _ _ _ _ _
  · cases h⟩
theorem skinMayR_f : FnOk Tryz.prog 16 Tryz.f16 := ⟨Tryz.func16, by kernel_rfl⟩
theorem skinMayR_a (a b c d e f g h i n : Int) : ACalls Tryz.prog 16 [.agg [.int .i64 a, .int .i64 b, .int .i64 c, .int .i64 d, .int .i64 e, .int .i64 f, .int .i64 g, .int .i64 h, .int .i64 i, .int .i64 n]] (.int .i64 (skinE a b c d e f g h i n)) := by
  refine acalls_of (inl := hasI (P := Tryz.prog) [] []) (base [] [] []) 0 skinMayR_f (And.intro (by kernel_rfl) ?_)
  repeat' (first | refine And.intro ?_ ?_ | refine num_lit 0 (by decide) ?_ | refine num_lit 1 (by decide) ?_ | refine num_lit 2 (by decide) ?_ | refine num_lit 3 (by decide) ?_ | refine num_lit 4 (by decide) ?_ | refine num_lit 5 (by decide) ?_ | refine num_lit 6 (by decide) ?_ | refine num_lit 7 (by decide) ?_ | refine num_lit 8 (by decide) ?_ | refine num_elim ?_ | (with_reducible exact ff_elim) | (with_reducible exact tf_elim) | (intro h; exact absurd h (by decide)) | intro _ | (with_reducible rfl) | refine Or.inl ⟨4, ?_⟩ | refine tell ?_ | exact True.intro | (refine IsT.of ?_; kernel_rfl))
  all_goals (try refine Tell.mk ?_)
  all_goals first | with_reducible rfl | with_reducible exact isI_mk | with_reducible assumption | (with_reducible refine gb_t ?_; with_reducible assumption) | (with_reducible refine gb_f ?_; with_reducible assumption) | ((with_reducible refine lk_t ?_); rfl) | ((with_reducible refine okF_t ?_); kernel_rfl) | ((with_reducible refine ks_t ?_); rfl) | ((with_reducible refine pk_t ?_); rfl) | ((with_reducible refine pf_t ?_); rfl) | skip
  all_goals (try dsimp only at *)
  all_goals (try simp only [decide_eq_true_eq, decide_eq_false_iff_not, Bool.or_eq_true, Bool.or_eq_false_iff, Bool.and_eq_true, Bool.and_eq_false_iff, Bool.not_eq_true', Bool.not_eq_false', bne_iff_ne, ne_eq, beq_iff_eq, bne_eq_false_iff_eq, beq_eq_false_iff_ne, Int.not_lt, Int.not_le, gt_iff_lt, ge_iff_le] at *)
  all_goals (try simp only [mulN1, Nat.add_zero, Nat.zero_add, Nat.mul_one, Int.toNat_natCast, avInt_int] at *)
  all_goals first | with_reducible rfl | with_reducible exact nums_N | omega | ((with_reducible refine by_le 1 rfl ?_); omega) | ((with_reducible refine by_le 8 rfl ?_); omega) | (rw [wrapI (by omega) (by omega)] <;> omega) | skip
  all_goals first | exact if_pos ⟨skin3_yes (by omega) (by omega), skin3_yes (by omega) (by omega), skin3_yes (by omega) (by omega), (by omega), (by omega)⟩ | exact skinE_no (fun c => skin3_no (by omega) c.1) | exact skinE_no (fun c => skin3_no (by omega) c.2.1) | exact skinE_no (fun c => skin3_no (by omega) c.2.2.1) | exact skinE_no (fun c => (by have := c.2.2.2; omega))
def skinMayR_k : Con Tryz.prog := ⟨16, fun args => match args with | [.agg [.int .i64 a, .int .i64 b, .int .i64 c, .int .i64 d, .int .i64 e, .int .i64 f, .int .i64 g, .int .i64 h, .int .i64 i, .int .i64 n]] => .ok (none) (.int .i64 (skinE a b c d e f g h i n)) | _ => .no, by
  intro args p r h hp
  split at h
  · cases h; exact skinMayR_a _ _ _ _ _ _ _ _ _ _
  · cases h⟩
end Go.Proofs.YtphdjmaebdmdmaaGreatDoor
/- Scenes: which ones may be. -/
namespace Go.Proofs.YtphdjmaebdmdmaaGreatDoor
open Go.RowKit Ev
set_option linter.unusedVariables false
set_option linter.unusedSimpArgs false
set_option maxRecDepth 20000
set_option maxHeartbeats 4000000

theorem view_sub {nm : Bool} {sz sz' o : Nat} {row : Nat → List AV} {i : Nat} {K : AV → Prop} (hs : Nat.ble (o + sz') sz = true) (hl : (row i).length = sz) (h : nameE nm (.agg (((row i).drop o).take sz')) K) :
    nameE nm (.agg (List.map (fun j => flatF sz row (mulN (i : Int).toNat sz + (o + j))) (List.range sz'))) K := by
  have e : (fun j => flatF sz row (mulN (i : Int).toNat sz + (o + j))) = fun j => flatF sz row (mulN (i : Int).toNat sz + o + j) := funext fun j => by rw [Nat.add_assoc]
  rw [e]
  exact view_drop hs hl h
structure Sol where
  n : Nat
  P : Nat → Prt
  s : Int
def Sol.row (x : Sol) : List AV := [.sl x.n 16 (partF x.P), .int .i64 x.s]
structure Fld where
  w : Int
  h : Int
  x : Nat
  y : Nat
  z : Nat
  d : Nat
  n : Nat
  H : Nat → Int
  s : Int
def Fld.row (f : Fld) : List AV := [.int .i64 f.w, .int .i64 f.h, .flt f.x, .flt f.y, .flt f.z, .flt f.d, .sl f.n 1 (fun j => .int .i64 (f.H j)), .int .i64 f.s]
def Fld.err (f : Fld) : Int := fieldE f.w f.h f.x f.y f.z f.d f.n f.H f.s
structure Skn where
  a : Int
  b : Int
  c : Int
  d : Int
  e : Int
  f : Int
  g : Int
  h : Int
  i : Int
  n : Int
def Skn.row (k : Skn) : List AV := [.int .i64 k.a, .int .i64 k.b, .int .i64 k.c, .int .i64 k.d, .int .i64 k.e, .int .i64 k.f, .int .i64 k.g, .int .i64 k.h, .int .i64 k.i, .int .i64 k.n]
def Skn.err (k : Skn) : Int := skinE k.a k.b k.c k.d k.e k.f k.g k.h k.i k.n
structure Lmp where
  x : Nat
  y : Nat
  z : Nat
  a : Int
  b : Int
  c : Int
def Lmp.row (l : Lmp) : List AV := [.flt l.x, .flt l.y, .flt l.z, .int .i64 l.a, .int .i64 l.b, .int .i64 l.c]
def Lmp.err (l : Lmp) : Int := if fineB l.x l.y l.z = false then 1 else if lightB l.a l.b l.c = false then 6 else 0
def Shp.row (p : Shp) : List AV := [.int .i64 p.k, .flt p.a, .flt p.b, .flt p.c, .flt p.d, .flt p.e, .flt p.f, .flt p.g, .flt p.h, .flt p.i, .flt p.r, .flt p.q, .int .i64 p.s]
/-- A scene's numbers. -/
structure Scn where
  n1 : Nat
  S : Nat → Shp
  n2 : Nat
  T : Nat → Sol
  n3 : Nat
  G : Nat → Fld
  n4 : Nat
  K : Nat → Skn
  n5 : Nat
  L : Nat → Lmp
  a : Int
  b : Int
  c : Int
  e0 : Nat
  e1 : Nat
  e2 : Nat
  e3 : Nat
  e4 : Nat
  e5 : Nat
  e6 : Nat
  e7 : Nat
  e8 : Nat
  e9 : Nat
def Scn.row (s : Scn) : List AV := [.sl s.n1 13 (flatF 13 fun i => (s.S i).row), .sl s.n2 2 (flatF 2 fun i => (s.T i).row), .sl s.n3 8 (flatF 8 fun i => (s.G i).row), .sl s.n4 10 (flatF 10 fun i => (s.K i).row), .sl s.n5 6 (flatF 6 fun i => (s.L i).row),
  .int .i64 s.a, .int .i64 s.b, .int .i64 s.c, .flt s.e0, .flt s.e1, .flt s.e2, .flt s.e3, .flt s.e4, .flt s.e5, .flt s.e6, .flt s.e7, .flt s.e8, .flt s.e9]
def named (e s : Int) (n : Nat) : Int := if ¬ e = 0 then e else if (n : Int) ≤ s then 9 else 0
def Scn.e1' (s : Scn) (i : Nat) : Int := named (s.S i).err (s.S i).s s.n4
def Scn.e2' (s : Scn) (i : Nat) : Int := named (solidE (s.T i).n (s.T i).P (s.T i).s) (s.T i).s s.n4
def Scn.e3' (s : Scn) (i : Nat) : Int := named (s.G i).err (s.G i).s s.n4
def Scn.e4' (s : Scn) (i : Nat) : Int := (s.K i).err
def Scn.e5' (s : Scn) (i : Nat) : Int := (s.L i).err
/-- The first error of two. -/
def orE (e f : Int) : Int := if e = 0 then f else e
def sceneE (s : Scn) : Int := if 64 < (s.n1 : Int) ∨ 8 < (s.n2 : Int) ∨ 2 < (s.n3 : Int) ∨ 16 < (s.n4 : Int) ∨ 4 < (s.n5 : Int) then 4 else
  orE (firstE s.e4' s.n4) (orE (firstE s.e1' s.n1) (orE (firstE s.e2' s.n2) (orE (firstE s.e3' s.n3) (orE (firstE s.e5' s.n5) (orE (if lightB s.a s.b s.c = true then 0 else 6) (eyeE s.e0 s.e1 s.e2 s.e3 s.e4 s.e5 s.e6 s.e7 s.e8 s.e9))))))
/-- A solid's numbers, out of cells. -/
def toI : AV → Int
  | .int _ n => n
  | _ => 0
def toF : AV → Nat
  | .flt x => x
  | _ => 0
def unPrt (g : Nat → AV) (i : Nat) : Prt := ⟨toI (g (i * 16 + 0)), toI (g (i * 16 + 1)), toI (g (i * 16 + 2)), ⟨toI (g (i * 16 + 3)), toF (g (i * 16 + 4)), toF (g (i * 16 + 5)), toF (g (i * 16 + 6)), toF (g (i * 16 + 7)), toF (g (i * 16 + 8)), toF (g (i * 16 + 9)), toF (g (i * 16 + 10)), toF (g (i * 16 + 11)), toF (g (i * 16 + 12)), toF (g (i * 16 + 13)), toF (g (i * 16 + 14)), toI (g (i * 16 + 15))⟩⟩
theorem un_part (P : Nat → Prt) : unPrt (partF P) = P := by
  funext i
  unfold unPrt
  simp only [part_at P i _ (show 0 < 16 by decide), part_at P i _ (show 1 < 16 by decide), part_at P i _ (show 2 < 16 by decide), part_at P i _ (show 3 < 16 by decide), part_at P i _ (show 4 < 16 by decide), part_at P i _ (show 5 < 16 by decide), part_at P i _ (show 6 < 16 by decide), part_at P i _ (show 7 < 16 by decide), part_at P i _ (show 8 < 16 by decide), part_at P i _ (show 9 < 16 by decide), part_at P i _ (show 10 < 16 by decide), part_at P i _ (show 11 < 16 by decide), part_at P i _ (show 12 < 16 by decide), part_at P i _ (show 13 < 16 by decide), part_at P i _ (show 14 < 16 by decide), part_at P i _ (show 15 < 16 by decide)]
  rfl
def solidMay_m : MCon Tryz.prog :=
  ⟨45, fun args own => match args with | [.agg [.sl n 16 g, .int .i64 s]] => .ok [] [.agg [.sl n 16 (partF (unPrt g)), .int .i64 s]] [] none (.int .i64 (solidE n (unPrt g) s)) [] | _ => .no, by
  intro args own ks cargs rows p r rows2 h hp
  split at h
  · cases h; exact solidMay_a _ _ _
  · cases h⟩
def solidMayR_m : MCon Tryz.prog :=
  ⟨50, fun args own => match args with | [.agg [.sl n 16 g, .int .i64 s]] => .ok [] [.agg [.sl n 16 (partF (unPrt g)), .int .i64 s]] [] none (.int .i64 (solidE n (unPrt g) s)) [] | _ => .no, by
  intro args own ks cargs rows p r rows2 h hp
  split at h
  · cases h; exact solidMayR_a _ _ _
  · cases h⟩
theorem orE_0 {e f : Int} (h : e = 0) : orE e f = f := if_pos h
theorem orE_n {e f : Int} (h : e ≠ 0) : orE e f = e := if_neg h
/-- The limits of a scene. -/
def Scn.lim (s : Scn) : Prop := (s.n1 : Int) ≤ 64 ∧ (s.n2 : Int) ≤ 8 ∧ (s.n3 : Int) ≤ 2 ∧ (s.n4 : Int) ≤ 16 ∧ (s.n5 : Int) ≤ 4
theorem scene_l {s : Scn} (h : s.lim) : sceneE s = orE (firstE s.e4' s.n4) (orE (firstE s.e1' s.n1) (orE (firstE s.e2' s.n2) (orE (firstE s.e3' s.n3) (orE (firstE s.e5' s.n5) (orE (if lightB s.a s.b s.c = true then 0 else 6) (eyeE s.e0 s.e1 s.e2 s.e3 s.e4 s.e5 s.e6 s.e7 s.e8 s.e9)))))) := by
  unfold Scn.lim at h
  exact if_neg (by omega)
theorem scene_0 {s : Scn} (h : 64 < (s.n1 : Int) ∨ 8 < (s.n2 : Int) ∨ 2 < (s.n3 : Int) ∨ 16 < (s.n4 : Int) ∨ 4 < (s.n5 : Int)) : sceneE s = 4 := if_pos h
theorem hit {f : Nat → Int} {i n : Nat} {e : Int} (h : firstE f i = 0) (hi : (i : Int) < n) (he : f i = e) (h0 : e ≠ 0) : firstE f n = e := by
  rw [firstE_hit h (by rw [he]; exact h0) (by omega), he]
theorem scene_4 {s : Scn} (l : s.lim) {i : Nat} {e : Int} (f : firstE s.e4' i = 0) (hi : (i : Int) < s.n4) (he : s.e4' i = e) (h0 : e ≠ 0) : sceneE s = e := by
  rw [scene_l l, hit f hi he h0, orE_n h0]
theorem scene_1 {s : Scn} (l : s.lim) (a : firstE s.e4' s.n4 = 0) {i : Nat} {e : Int} (f : firstE s.e1' i = 0) (hi : (i : Int) < s.n1) (he : s.e1' i = e) (h0 : e ≠ 0) : sceneE s = e := by
  rw [scene_l l, orE_0 a, hit f hi he h0, orE_n h0]
theorem scene_2 {s : Scn} (l : s.lim) (a : firstE s.e4' s.n4 = 0) (b : firstE s.e1' s.n1 = 0) {i : Nat} {e : Int} (f : firstE s.e2' i = 0) (hi : (i : Int) < s.n2) (he : s.e2' i = e) (h0 : e ≠ 0) : sceneE s = e := by
  rw [scene_l l, orE_0 a, orE_0 b, hit f hi he h0, orE_n h0]
theorem scene_3 {s : Scn} (l : s.lim) (a : firstE s.e4' s.n4 = 0) (b : firstE s.e1' s.n1 = 0) (c : firstE s.e2' s.n2 = 0) {i : Nat} {e : Int} (f : firstE s.e3' i = 0) (hi : (i : Int) < s.n3) (he : s.e3' i = e) (h0 : e ≠ 0) : sceneE s = e := by
  rw [scene_l l, orE_0 a, orE_0 b, orE_0 c, hit f hi he h0, orE_n h0]
theorem scene_5 {s : Scn} (l : s.lim) (a : firstE s.e4' s.n4 = 0) (b : firstE s.e1' s.n1 = 0) (c : firstE s.e2' s.n2 = 0) (d : firstE s.e3' s.n3 = 0) {i : Nat} {e : Int} (f : firstE s.e5' i = 0) (hi : (i : Int) < s.n5) (he : s.e5' i = e) (h0 : e ≠ 0) : sceneE s = e := by
  rw [scene_l l, orE_0 a, orE_0 b, orE_0 c, orE_0 d, hit f hi he h0, orE_n h0]
theorem scene_6 {s : Scn} (l : s.lim) (a : firstE s.e4' s.n4 = 0) (b : firstE s.e1' s.n1 = 0) (c : firstE s.e2' s.n2 = 0) (d : firstE s.e3' s.n3 = 0) (e : firstE s.e5' s.n5 = 0) (h : lightB s.a s.b s.c = false) : sceneE s = 6 := by
  rw [scene_l l, orE_0 a, orE_0 b, orE_0 c, orE_0 d, orE_0 e, h, if_neg (by decide), orE_n (by decide)]
theorem scene_7 {s : Scn} (l : s.lim) (a : firstE s.e4' s.n4 = 0) (b : firstE s.e1' s.n1 = 0) (c : firstE s.e2' s.n2 = 0) (d : firstE s.e3' s.n3 = 0) (e : firstE s.e5' s.n5 = 0) (h : lightB s.a s.b s.c = true) : sceneE s = eyeE s.e0 s.e1 s.e2 s.e3 s.e4 s.e5 s.e6 s.e7 s.e8 s.e9 := by
  rw [scene_l l, orE_0 a, orE_0 b, orE_0 c, orE_0 d, orE_0 e, h, if_pos rfl, orE_0 rfl]
theorem named_e {e s : Int} {n : Nat} {x : Int} (h : ¬ e = 0) (hx : e = x) : named e s n = x := by unfold named; rw [if_pos h, hx]
theorem named_9 {e s : Int} {n : Nat} (h : e = 0) (hs : (n : Int) ≤ s) : named e s n = 9 := by unfold named; rw [if_neg (fun c => c h), if_pos hs]
theorem named_0 {e s : Int} {n : Nat} (h : e = 0) (hs : s < (n : Int)) : named e s n = 0 := by unfold named; rw [if_neg (fun c => c h), if_neg (by omega)]
theorem atN {f : Nat → Int} {i n : Nat} (h : firstE f i = 0) (hi : i ≤ n) (hn : (n : Int) ≤ i) : firstE f n = 0 := by
  obtain rfl : i = n := by omega
  exact h
theorem lmp_1 {l : Lmp} (h : fineB l.x l.y l.z = false) : l.err = 1 := if_pos h
theorem lmp_6 {l : Lmp} (h : fineB l.x l.y l.z = true) (h2 : lightB l.a l.b l.c = false) : l.err = 6 := by unfold Lmp.err; rw [if_neg (by rw [h]; decide), if_pos h2]
theorem lmp_0 {l : Lmp} (h : fineB l.x l.y l.z = true) (h2 : lightB l.a l.b l.c = true) : l.err = 0 := by unfold Lmp.err; rw [if_neg (by rw [h]; decide), if_neg (by rw [h2]; decide)]
theorem sceneMay_f : FnOk Tryz.prog 11 Tryz.f11 := ⟨Tryz.func11, by kernel_rfl⟩
theorem sceneMay_a (s : Scn) : MCalls Tryz.prog 11 ([.agg s.row]) [] (.int .i64 (sceneE s)) [] := by
  refine mcallsF_of (inl := hasI (P := Tryz.prog) [] [solidMay_m]) (base [skinMay_k, shapeMay_k, fieldMay_k, fine_k, light_k, mayEye_k] [] [solidMay_m]) 0 sceneMay_f (And.intro (by kernel_rfl) ?_)
  repeat' (first | refine And.intro ?_ ?_ | (with_reducible exact ff_elim) | (with_reducible exact tf_elim) | refine' rho_mk [] ?_ | refine view_flat rfl rfl ?_ | refine num_elim ?_ | intro _ | (with_reducible rfl) | ((with_reducible refine lk_t ?_); exact rfl) | ((with_reducible refine pf_t ?_); exact rfl) | refine tell ?_ | exact True.intro | (refine IsT.of ?_; kernel_rfl))
  all_goals (try (refine loop_keep [1, 46, 47] [0] ?_; refine LoopI.mk ({i : Nat // i ≤ s.n4 ∧ firstE s.e4' i = 0}) (fun i => [(48, .int .i64 i.1)]) (fun i => []) (fun i => s.n4 - i.1) (⟨0, Nat.zero_le _, firstE_0 _⟩) (wk_mk [some 0] ?_) (fun ⟨i4, h4, f4⟩ => ?_)))
  repeat' (first | refine And.intro ?_ ?_ | (with_reducible exact ff_elim) | (with_reducible exact tf_elim) | refine stp_mk [some 0] (⟨i4 + 1, ?_, ?_⟩) ?_ ?_ | refine view_flat rfl rfl ?_ | refine' rho_mk [] ?_ | refine num_elim ?_ | intro _ | (with_reducible rfl) | ((with_reducible refine lk_t ?_); exact rfl) | ((with_reducible refine pf_t ?_); exact rfl) | refine tell ?_ | exact True.intro | (refine IsT.of ?_; kernel_rfl))
  all_goals (try (refine loop_keep [1, 59, 60] [0] ?_; refine LoopI.mk ({i : Nat // i ≤ s.n1 ∧ firstE s.e1' i = 0}) (fun i => [(61, .int .i64 i.1)]) (fun i => []) (fun i => s.n1 - i.1) (⟨0, Nat.zero_le _, firstE_0 _⟩) (wk_mk [some 0] ?_) (fun ⟨i1, h1, f1⟩ => ?_)))
  repeat' (first | refine And.intro ?_ ?_ | (with_reducible exact ff_elim) | (with_reducible exact tf_elim) | refine stp_mk [some 0] (⟨i1 + 1, ?_, ?_⟩) ?_ ?_ | refine view_flat rfl rfl ?_ | refine' rho_mk [] ?_ | refine num_elim ?_ | intro _ | (with_reducible rfl) | ((with_reducible refine lk_t ?_); exact rfl) | ((with_reducible refine pf_t ?_); exact rfl) | refine tell ?_ | exact True.intro | (refine IsT.of ?_; kernel_rfl))
  all_goals (try (refine loop_keep [1, 78, 79] [0] ?_; refine LoopI.mk ({i : Nat // i ≤ s.n2 ∧ firstE s.e2' i = 0}) (fun i => [(80, .int .i64 i.1)]) (fun i => []) (fun i => s.n2 - i.1) (⟨0, Nat.zero_le _, firstE_0 _⟩) (wk_mk [some 0] ?_) (fun ⟨i2, h2, f2⟩ => ?_)))
  repeat' (first | refine And.intro ?_ ?_ | (with_reducible exact ff_elim) | (with_reducible exact tf_elim) | refine stp_mk [some 0] (⟨i2 + 1, ?_, ?_⟩) ?_ ?_ | refine view_flat rfl rfl ?_ | refine' rho_mk [] ?_ | refine num_elim ?_ | intro _ | (with_reducible rfl) | ((with_reducible refine lk_t ?_); exact rfl) | ((with_reducible refine pf_t ?_); exact rfl) | refine tell ?_ | exact True.intro | (refine IsT.of ?_; kernel_rfl))
  all_goals (try (refine loop_keep [1, 97, 98] [0] ?_; refine LoopI.mk ({i : Nat // i ≤ s.n3 ∧ firstE s.e3' i = 0}) (fun i => [(99, .int .i64 i.1)]) (fun i => []) (fun i => s.n3 - i.1) (⟨0, Nat.zero_le _, firstE_0 _⟩) (wk_mk [some 0] ?_) (fun ⟨i3, h3, f3⟩ => ?_)))
  repeat' (first | refine And.intro ?_ ?_ | (with_reducible exact ff_elim) | (with_reducible exact tf_elim) | refine stp_mk [some 0] (⟨i3 + 1, ?_, ?_⟩) ?_ ?_ | refine view_flat rfl rfl ?_ | refine' rho_mk [] ?_ | refine num_elim ?_ | intro _ | (with_reducible rfl) | ((with_reducible refine lk_t ?_); exact rfl) | ((with_reducible refine pf_t ?_); exact rfl) | refine tell ?_ | exact True.intro | (refine IsT.of ?_; kernel_rfl))
  all_goals (try (refine loop_keep [1, 116, 117] [0] ?_; refine LoopI.mk ({i : Nat // i ≤ s.n5 ∧ firstE s.e5' i = 0}) (fun i => [(118, .int .i64 i.1)]) (fun i => []) (fun i => s.n5 - i.1) (⟨0, Nat.zero_le _, firstE_0 _⟩) (wk_mk [some 0] ?_) (fun ⟨i5, h5, f5⟩ => ?_)))
  repeat' (first | refine And.intro ?_ ?_ | (with_reducible exact ff_elim) | (with_reducible exact tf_elim) | refine stp_mk [some 0] (⟨i5 + 1, ?_, ?_⟩) ?_ ?_ | refine view_flat rfl rfl ?_ | refine' rho_mk [] ?_ | refine num_elim ?_ | intro _ | (with_reducible rfl) | ((with_reducible refine lk_t ?_); exact rfl) | ((with_reducible refine pf_t ?_); exact rfl) | refine tell ?_ | exact True.intro | (refine IsT.of ?_; kernel_rfl))
  all_goals (try refine Tell.mk ?_)
  all_goals first | with_reducible rfl | with_reducible exact isI_mk | with_reducible assumption | (with_reducible refine gb_t ?_; with_reducible assumption) | (with_reducible refine gb_f ?_; with_reducible assumption) | ((with_reducible refine lk_t ?_); rfl) | ((with_reducible refine okF_t ?_); kernel_rfl) | ((with_reducible refine ks_t ?_); rfl) | ((with_reducible refine pk_t ?_); rfl) | ((with_reducible refine pf_t ?_); rfl) | skip
  all_goals (try dsimp only at *)
  all_goals (try simp only [decide_eq_true_eq, decide_eq_false_iff_not, Bool.or_eq_true, Bool.or_eq_false_iff, Bool.and_eq_true, Bool.and_eq_false_iff, Bool.not_eq_true', Bool.not_eq_false', bne_iff_ne, ne_eq, beq_iff_eq, bne_eq_false_iff_eq, beq_eq_false_iff_ne, Int.not_lt, Int.not_le, gt_iff_lt, ge_iff_le] at *)
  all_goals (try simp only [mulN1, Nat.add_zero, Nat.zero_add, Nat.mul_one, Int.toNat_natCast, avInt_int, intF_mk] at *)
  all_goals first | with_reducible rfl | with_reducible exact nums_N | omega | ((with_reducible refine by_le 1 rfl ?_); omega) | ((with_reducible refine by_le 8 rfl ?_); omega) | (rw [wrapI (by omega) (by omega)] <;> omega) | skip
  all_goals (try simp only [un_part] at *)
  all_goals first | exact scene_0 (by omega) | ((show (_ : Nat) ≤ _); decide) | skip
  all_goals (have hl : s.lim := (by unfold Scn.lim; omega))
  all_goals first | exact scene_4 hl f4 (by assumption) rfl (by assumption) | exact firstE_s f4 (by assumption) | skip
  all_goals (have F4 := atN f4 h4 (by assumption))
  all_goals first | exact scene_1 hl F4 f1 (by assumption) (named_e (by assumption) rfl) (by assumption) | exact scene_1 hl F4 f1 (by assumption) (named_9 (by assumption) (by assumption)) (by decide) | exact firstE_s f1 (named_0 (by assumption) (by assumption)) | skip
  all_goals (have F1 := atN f1 h1 (by assumption))
  all_goals first | exact scene_2 hl F4 F1 f2 (by assumption) (named_e (by assumption) rfl) (by assumption) | exact scene_2 hl F4 F1 f2 (by assumption) (named_9 (by assumption) (by assumption)) (by decide) | exact firstE_s f2 (named_0 (by assumption) (by assumption)) | skip
  all_goals (have F2 := atN f2 h2 (by assumption))
  all_goals first | exact scene_3 hl F4 F1 F2 f3 (by assumption) (named_e (by assumption) rfl) (by assumption) | exact scene_3 hl F4 F1 F2 f3 (by assumption) (named_9 (by assumption) (by assumption)) (by decide) | exact firstE_s f3 (named_0 (by assumption) (by assumption)) | skip
  all_goals (have F3 := atN f3 h3 (by assumption))
  all_goals first | exact scene_5 hl F4 F1 F2 F3 f5 (by assumption) (lmp_1 (by assumption)) (by decide) | exact scene_5 hl F4 F1 F2 F3 f5 (by assumption) (lmp_6 (by assumption) (by assumption)) (by decide) | exact firstE_s f5 (lmp_0 (by assumption) (by assumption)) | skip
  all_goals (have F5 := atN f5 h5 (by assumption))
  all_goals first | exact scene_6 hl F4 F1 F2 F3 F5 (by assumption) | exact scene_7 hl F4 F1 F2 F3 F5 (by assumption)
theorem sceneMayR_f : FnOk Tryz.prog 12 Tryz.f12 := ⟨Tryz.func12, by kernel_rfl⟩
theorem sceneMayR_a (s : Scn) : MCalls Tryz.prog 12 ([.agg s.row]) [] (.int .i64 (sceneE s)) [] := by
  refine mcallsF_of (inl := hasI (P := Tryz.prog) [] [solidMayR_m]) (base [skinMayR_k, shapeMayR_k, fieldMayR_k, fineR_k, lightR_k, mayEyeR_k] [] [solidMayR_m]) 0 sceneMayR_f (And.intro (by kernel_rfl) ?_)
  repeat' (first | refine And.intro ?_ ?_ | (with_reducible exact ff_elim) | (with_reducible exact tf_elim) | refine' rho_mk [] ?_ | refine view_flat rfl rfl ?_ | refine num_elim ?_ | intro _ | (with_reducible rfl) | ((with_reducible refine lk_t ?_); exact rfl) | ((with_reducible refine pf_t ?_); exact rfl) | refine tell ?_ | exact True.intro | (refine IsT.of ?_; kernel_rfl))
  all_goals (try (refine loop_keep [1] [0] ?_; refine LoopI.mk ({i : Nat // i ≤ s.n4 ∧ firstE s.e4' i = 0}) (fun i => [(3, .int .i64 i.1)]) (fun i => []) (fun i => s.n4 - i.1) (⟨0, Nat.zero_le _, firstE_0 _⟩) (wk_mk [some 0] ?_) (fun ⟨i4, h4, f4⟩ => ?_)))
  repeat' (first | refine And.intro ?_ ?_ | (with_reducible exact ff_elim) | (with_reducible exact tf_elim) | refine stp_mk [some 0] (⟨i4 + 1, ?_, ?_⟩) ?_ ?_ | refine view_flat rfl rfl ?_ | refine view_cell rfl ?_ | (refine view_sub ?_ ?_ ?_; exact rfl; exact rfl) | refine' rho_mk [] ?_ | refine num_elim ?_ | intro _ | (with_reducible rfl) | ((with_reducible refine lk_t ?_); exact rfl) | ((with_reducible refine pf_t ?_); exact rfl) | refine tell ?_ | exact True.intro | (refine IsT.of ?_; kernel_rfl))
  all_goals (try (refine loop_keep [1] [0] ?_; refine LoopI.mk ({i : Nat // i ≤ s.n1 ∧ firstE s.e1' i = 0}) (fun i => [(5, .int .i64 i.1)]) (fun i => []) (fun i => s.n1 - i.1) (⟨0, Nat.zero_le _, firstE_0 _⟩) (wk_mk [some 0] ?_) (fun ⟨i1, h1, f1⟩ => ?_)))
  repeat' (first | refine And.intro ?_ ?_ | (with_reducible exact ff_elim) | (with_reducible exact tf_elim) | refine stp_mk [some 0] (⟨i1 + 1, ?_, ?_⟩) ?_ ?_ | refine view_flat rfl rfl ?_ | refine view_cell rfl ?_ | (refine view_sub ?_ ?_ ?_; exact rfl; exact rfl) | refine' rho_mk [] ?_ | refine num_elim ?_ | intro _ | (with_reducible rfl) | ((with_reducible refine lk_t ?_); exact rfl) | ((with_reducible refine pf_t ?_); exact rfl) | refine tell ?_ | exact True.intro | (refine IsT.of ?_; kernel_rfl))
  all_goals (try (refine loop_keep [1] [0] ?_; refine LoopI.mk ({i : Nat // i ≤ s.n2 ∧ firstE s.e2' i = 0}) (fun i => [(7, .int .i64 i.1)]) (fun i => []) (fun i => s.n2 - i.1) (⟨0, Nat.zero_le _, firstE_0 _⟩) (wk_mk [some 0] ?_) (fun ⟨i2, h2, f2⟩ => ?_)))
  repeat' (first | refine And.intro ?_ ?_ | (with_reducible exact ff_elim) | (with_reducible exact tf_elim) | refine stp_mk [some 0] (⟨i2 + 1, ?_, ?_⟩) ?_ ?_ | refine view_flat rfl rfl ?_ | refine view_cell rfl ?_ | (refine view_sub ?_ ?_ ?_; exact rfl; exact rfl) | refine' rho_mk [] ?_ | refine num_elim ?_ | intro _ | (with_reducible rfl) | ((with_reducible refine lk_t ?_); exact rfl) | ((with_reducible refine pf_t ?_); exact rfl) | refine tell ?_ | exact True.intro | (refine IsT.of ?_; kernel_rfl))
  all_goals (try (refine loop_keep [1] [0] ?_; refine LoopI.mk ({i : Nat // i ≤ s.n3 ∧ firstE s.e3' i = 0}) (fun i => [(9, .int .i64 i.1)]) (fun i => []) (fun i => s.n3 - i.1) (⟨0, Nat.zero_le _, firstE_0 _⟩) (wk_mk [some 0] ?_) (fun ⟨i3, h3, f3⟩ => ?_)))
  repeat' (first | refine And.intro ?_ ?_ | (with_reducible exact ff_elim) | (with_reducible exact tf_elim) | refine stp_mk [some 0] (⟨i3 + 1, ?_, ?_⟩) ?_ ?_ | refine view_flat rfl rfl ?_ | refine view_cell rfl ?_ | (refine view_sub ?_ ?_ ?_; exact rfl; exact rfl) | refine' rho_mk [] ?_ | refine num_elim ?_ | intro _ | (with_reducible rfl) | ((with_reducible refine lk_t ?_); exact rfl) | ((with_reducible refine pf_t ?_); exact rfl) | refine tell ?_ | exact True.intro | (refine IsT.of ?_; kernel_rfl))
  all_goals (try (refine loop_keep [1] [0] ?_; refine LoopI.mk ({i : Nat // i ≤ s.n5 ∧ firstE s.e5' i = 0}) (fun i => [(11, .int .i64 i.1)]) (fun i => []) (fun i => s.n5 - i.1) (⟨0, Nat.zero_le _, firstE_0 _⟩) (wk_mk [some 0] ?_) (fun ⟨i5, h5, f5⟩ => ?_)))
  repeat' (first | refine And.intro ?_ ?_ | (with_reducible exact ff_elim) | (with_reducible exact tf_elim) | refine stp_mk [some 0] (⟨i5 + 1, ?_, ?_⟩) ?_ ?_ | refine view_flat rfl rfl ?_ | refine view_cell rfl ?_ | (refine view_sub ?_ ?_ ?_; exact rfl; exact rfl) | refine' rho_mk [] ?_ | refine num_elim ?_ | intro _ | (with_reducible rfl) | ((with_reducible refine lk_t ?_); exact rfl) | ((with_reducible refine pf_t ?_); exact rfl) | refine tell ?_ | exact True.intro | (refine IsT.of ?_; kernel_rfl))
  all_goals (try refine Tell.mk ?_)
  all_goals first | with_reducible rfl | with_reducible exact isI_mk | with_reducible assumption | (with_reducible refine gb_t ?_; with_reducible assumption) | (with_reducible refine gb_f ?_; with_reducible assumption) | ((with_reducible refine lk_t ?_); rfl) | ((with_reducible refine okF_t ?_); kernel_rfl) | ((with_reducible refine ks_t ?_); rfl) | ((with_reducible refine pk_t ?_); rfl) | ((with_reducible refine pf_t ?_); rfl) | skip
  all_goals (try dsimp only at *)
  all_goals (try simp only [decide_eq_true_eq, decide_eq_false_iff_not, Bool.or_eq_true, Bool.or_eq_false_iff, Bool.and_eq_true, Bool.and_eq_false_iff, Bool.not_eq_true', Bool.not_eq_false', bne_iff_ne, ne_eq, beq_iff_eq, bne_eq_false_iff_eq, beq_eq_false_iff_ne, Int.not_lt, Int.not_le, gt_iff_lt, ge_iff_le] at *)
  all_goals (try simp only [mulN1, Nat.add_zero, Nat.zero_add, Nat.mul_one, Int.toNat_natCast, avInt_int, intF_mk] at *)
  all_goals first | with_reducible rfl | with_reducible exact nums_N | omega | ((with_reducible refine by_le 1 rfl ?_); omega) | ((with_reducible refine by_le 8 rfl ?_); omega) | (rw [wrapI (by omega) (by omega)] <;> omega) | skip
  all_goals (try simp only [eye_eq] at *)
  all_goals (try simp only [un_part] at *)
  all_goals first | exact scene_0 (by omega) | ((show (_ : Nat) ≤ _); decide) | skip
  all_goals (have hl : s.lim := (by unfold Scn.lim; omega))
  all_goals first | exact scene_4 hl f4 (by assumption) rfl (by assumption) | exact firstE_s f4 (by assumption) | skip
  all_goals (have F4 := atN f4 h4 (by assumption))
  all_goals first | exact scene_1 hl F4 f1 (by assumption) (named_e (by assumption) rfl) (by assumption) | exact scene_1 hl F4 f1 (by assumption) (named_9 (by assumption) (by assumption)) (by decide) | exact firstE_s f1 (named_0 (by assumption) (by assumption)) | skip
  all_goals (have F1 := atN f1 h1 (by assumption))
  all_goals first | exact scene_2 hl F4 F1 f2 (by assumption) (named_e (by assumption) rfl) (by assumption) | exact scene_2 hl F4 F1 f2 (by assumption) (named_9 (by assumption) (by assumption)) (by decide) | exact firstE_s f2 (named_0 (by assumption) (by assumption)) | skip
  all_goals (have F2 := atN f2 h2 (by assumption))
  all_goals first | exact scene_3 hl F4 F1 F2 f3 (by assumption) (named_e (by assumption) rfl) (by assumption) | exact scene_3 hl F4 F1 F2 f3 (by assumption) (named_9 (by assumption) (by assumption)) (by decide) | exact firstE_s f3 (named_0 (by assumption) (by assumption)) | skip
  all_goals (have F3 := atN f3 h3 (by assumption))
  all_goals first | exact scene_5 hl F4 F1 F2 F3 f5 (by assumption) (lmp_1 (by assumption)) (by decide) | exact scene_5 hl F4 F1 F2 F3 f5 (by assumption) (lmp_6 (by assumption) (by assumption)) (by decide) | exact firstE_s f5 (lmp_0 (by assumption) (by assumption)) | skip
  all_goals (have F5 := atN f5 h5 (by assumption))
  all_goals first | exact scene_6 hl F4 F1 F2 F3 F5 (by assumption) | exact scene_7 hl F4 F1 F2 F3 F5 (by assumption)
end Go.Proofs.YtphdjmaebdmdmaaGreatDoor
/- Scenes out of their cells: May as a contract that others may call. -/
namespace Go.Proofs.YtphdjmaebdmdmaaGreatDoor
open Go.RowKit Ev
set_option linter.unusedVariables false
set_option linter.unusedSimpArgs false
set_option maxRecDepth 20000
set_option maxHeartbeats 4000000

/-- A contract that hands back a number and keeps nothing. -/
theorem toA {P : Program} {f : FuncId} {args : List AV} {k : IntKind} {n : Int} (h : MCalls P f args [] (.int k n) []) : ACalls P f args (.int k n) := by
  intro w Im vals hIm ht htw
  have S := Sat.first w Im hIm htw
  have e : rowsO [] = fun _ => OB.gone := funext fun k => by cases k <;> rfl
  rw [← e] at S
  refine (h _ w _ Im vals S (fun _ _ => rfl) ht).mono fun v w' ⟨σ', Im', hv, hS, _, _⟩ => ⟨⟨hS.bel.os, hS.bel.tape, hS.bel.output, hS.bel.size, hS.bel.block⟩, ?_⟩
  rw [hv.inv_int]
  exact .int _ _
def slN : AV → Nat
  | .sl n _ _ => n
  | _ => 0
def slG : AV → Nat → AV
  | .sl _ _ g => g
  | _ => fun _ => .any
def unShp (g : Nat → AV) (i : Nat) : Shp := ⟨toI (g (i * 13 + 0)), toF (g (i * 13 + 1)), toF (g (i * 13 + 2)), toF (g (i * 13 + 3)), toF (g (i * 13 + 4)), toF (g (i * 13 + 5)), toF (g (i * 13 + 6)), toF (g (i * 13 + 7)), toF (g (i * 13 + 8)), toF (g (i * 13 + 9)), toF (g (i * 13 + 10)), toF (g (i * 13 + 11)), toI (g (i * 13 + 12))⟩
def unSol (g : Nat → AV) (i : Nat) : Sol := ⟨slN (g (i * 2 + 0)), unPrt (slG (g (i * 2 + 0))), toI (g (i * 2 + 1))⟩
def unFld (g : Nat → AV) (i : Nat) : Fld := ⟨toI (g (i * 8 + 0)), toI (g (i * 8 + 1)), toF (g (i * 8 + 2)), toF (g (i * 8 + 3)), toF (g (i * 8 + 4)), toF (g (i * 8 + 5)), slN (g (i * 8 + 6)), fun j => toI (slG (g (i * 8 + 6)) j), toI (g (i * 8 + 7))⟩
def unSkn (g : Nat → AV) (i : Nat) : Skn := ⟨toI (g (i * 10 + 0)), toI (g (i * 10 + 1)), toI (g (i * 10 + 2)), toI (g (i * 10 + 3)), toI (g (i * 10 + 4)), toI (g (i * 10 + 5)), toI (g (i * 10 + 6)), toI (g (i * 10 + 7)), toI (g (i * 10 + 8)), toI (g (i * 10 + 9))⟩
def unLmp (g : Nat → AV) (i : Nat) : Lmp := ⟨toF (g (i * 6 + 0)), toF (g (i * 6 + 1)), toF (g (i * 6 + 2)), toI (g (i * 6 + 3)), toI (g (i * 6 + 4)), toI (g (i * 6 + 5))⟩
theorem un_shp (S : Nat → Shp) : unShp (flatF 13 fun i => (S i).row) = S := by
  funext i
  unfold unShp
  simp only [flat_at (sz := 13) (row := fun i => (S i).row) (i := i) (show 0 < 13 by decide), flat_at (sz := 13) (row := fun i => (S i).row) (i := i) (show 1 < 13 by decide), flat_at (sz := 13) (row := fun i => (S i).row) (i := i) (show 2 < 13 by decide), flat_at (sz := 13) (row := fun i => (S i).row) (i := i) (show 3 < 13 by decide), flat_at (sz := 13) (row := fun i => (S i).row) (i := i) (show 4 < 13 by decide), flat_at (sz := 13) (row := fun i => (S i).row) (i := i) (show 5 < 13 by decide), flat_at (sz := 13) (row := fun i => (S i).row) (i := i) (show 6 < 13 by decide), flat_at (sz := 13) (row := fun i => (S i).row) (i := i) (show 7 < 13 by decide), flat_at (sz := 13) (row := fun i => (S i).row) (i := i) (show 8 < 13 by decide), flat_at (sz := 13) (row := fun i => (S i).row) (i := i) (show 9 < 13 by decide), flat_at (sz := 13) (row := fun i => (S i).row) (i := i) (show 10 < 13 by decide), flat_at (sz := 13) (row := fun i => (S i).row) (i := i) (show 11 < 13 by decide), flat_at (sz := 13) (row := fun i => (S i).row) (i := i) (show 12 < 13 by decide)]
  rfl
theorem un_sol (S : Nat → Sol) : unSol (flatF 2 fun i => (S i).row) = S := by
  funext i
  unfold unSol
  simp only [flat_at (sz := 2) (row := fun i => (S i).row) (i := i) (show 0 < 2 by decide), flat_at (sz := 2) (row := fun i => (S i).row) (i := i) (show 1 < 2 by decide)]
  show (⟨(S i).n, unPrt (partF (S i).P), (S i).s⟩ : Sol) = S i
  rw [un_part]
theorem un_fld (S : Nat → Fld) : unFld (flatF 8 fun i => (S i).row) = S := by
  funext i
  unfold unFld
  simp only [flat_at (sz := 8) (row := fun i => (S i).row) (i := i) (show 0 < 8 by decide), flat_at (sz := 8) (row := fun i => (S i).row) (i := i) (show 1 < 8 by decide), flat_at (sz := 8) (row := fun i => (S i).row) (i := i) (show 2 < 8 by decide), flat_at (sz := 8) (row := fun i => (S i).row) (i := i) (show 3 < 8 by decide), flat_at (sz := 8) (row := fun i => (S i).row) (i := i) (show 4 < 8 by decide), flat_at (sz := 8) (row := fun i => (S i).row) (i := i) (show 5 < 8 by decide), flat_at (sz := 8) (row := fun i => (S i).row) (i := i) (show 6 < 8 by decide), flat_at (sz := 8) (row := fun i => (S i).row) (i := i) (show 7 < 8 by decide)]
  rfl
theorem un_skn (S : Nat → Skn) : unSkn (flatF 10 fun i => (S i).row) = S := by
  funext i
  unfold unSkn
  simp only [flat_at (sz := 10) (row := fun i => (S i).row) (i := i) (show 0 < 10 by decide), flat_at (sz := 10) (row := fun i => (S i).row) (i := i) (show 1 < 10 by decide), flat_at (sz := 10) (row := fun i => (S i).row) (i := i) (show 2 < 10 by decide), flat_at (sz := 10) (row := fun i => (S i).row) (i := i) (show 3 < 10 by decide), flat_at (sz := 10) (row := fun i => (S i).row) (i := i) (show 4 < 10 by decide), flat_at (sz := 10) (row := fun i => (S i).row) (i := i) (show 5 < 10 by decide), flat_at (sz := 10) (row := fun i => (S i).row) (i := i) (show 6 < 10 by decide), flat_at (sz := 10) (row := fun i => (S i).row) (i := i) (show 7 < 10 by decide), flat_at (sz := 10) (row := fun i => (S i).row) (i := i) (show 8 < 10 by decide), flat_at (sz := 10) (row := fun i => (S i).row) (i := i) (show 9 < 10 by decide)]
  rfl
theorem un_lmp (S : Nat → Lmp) : unLmp (flatF 6 fun i => (S i).row) = S := by
  funext i
  unfold unLmp
  simp only [flat_at (sz := 6) (row := fun i => (S i).row) (i := i) (show 0 < 6 by decide), flat_at (sz := 6) (row := fun i => (S i).row) (i := i) (show 1 < 6 by decide), flat_at (sz := 6) (row := fun i => (S i).row) (i := i) (show 2 < 6 by decide), flat_at (sz := 6) (row := fun i => (S i).row) (i := i) (show 3 < 6 by decide), flat_at (sz := 6) (row := fun i => (S i).row) (i := i) (show 4 < 6 by decide), flat_at (sz := 6) (row := fun i => (S i).row) (i := i) (show 5 < 6 by decide)]
  rfl
/-- The scene of which these are the cells. -/
def unScn : List AV → Scn
  | [.sl n1 _ g1, .sl n2 _ g2, .sl n3 _ g3, .sl n4 _ g4, .sl n5 _ g5, .int _ a, .int _ b, .int _ c, .flt e0, .flt e1, .flt e2, .flt e3, .flt e4, .flt e5, .flt e6, .flt e7, .flt e8, .flt e9] =>
    ⟨n1, unShp g1, n2, unSol g2, n3, unFld g3, n4, unSkn g4, n5, unLmp g5, a, b, c, e0, e1, e2, e3, e4, e5, e6, e7, e8, e9⟩
  | _ => ⟨0, unShp fun _ => .any, 0, unSol fun _ => .any, 0, unFld fun _ => .any, 0, unSkn fun _ => .any, 0, unLmp fun _ => .any, 0, 0, 0, 0, 0, 0, 0, 0, 0, 0, 0, 0, 0⟩
theorem un_scn (s : Scn) : unScn s.row = s := by
  cases s
  show Scn.mk _ _ _ _ _ _ _ _ _ _ _ _ _ _ _ _ _ _ _ _ _ _ _ = _
  rw [un_shp, un_sol, un_fld, un_skn, un_lmp]
/-- Is this a scene's row, as far as one sees? -/
def scnB : List AV → Bool
  | [.sl _ 13 _, .sl _ 2 _, .sl _ 8 _, .sl _ 10 _, .sl _ 6 _, .int .i64 _, .int .i64 _, .int .i64 _, .flt _, .flt _, .flt _, .flt _, .flt _, .flt _, .flt _, .flt _, .flt _, .flt _] => true
  | _ => false
def mayC : List AV → CR
  | [.agg l] => match scnB l with
    | true => .ok (some (l = (unScn l).row)) (.int .i64 (sceneE (unScn l)))
    | false => .no
  | _ => .no
theorem mayC_ok {P : Program} {f : FuncId} (h : ∀ s : Scn, MCalls P f [.agg s.row] [] (.int .i64 (sceneE s)) []) (args : List AV) (p : Option Prop) (r : AV) (e : mayC args = .ok p r) (hp : p.getD True) : ACalls P f args r := by
  unfold mayC at e
  split at e
  · rename_i l
    split at e
    · cases e
      have hp' : l = (unScn l).row := hp
      have := toA (h (unScn l))
      rw [← hp'] at this
      exact this
    · cases e
  · cases e
def sceneMay_k : Con Tryz.prog := ⟨11, mayC, mayC_ok sceneMay_a⟩
def sceneMayR_k : Con Tryz.prog := ⟨12, mayC, mayC_ok sceneMayR_a⟩
end Go.Proofs.YtphdjmaebdmdmaaGreatDoor
