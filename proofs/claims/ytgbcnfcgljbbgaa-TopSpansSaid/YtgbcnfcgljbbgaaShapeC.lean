/- Shapes: which ones may be, by the program and by the document. -/
import Derived.Test.YtgbcnfcgljbbgaaShapeB
import Derived.Test.YtgbcnfcgljbbgaaEye
namespace Go.Proofs.Ytgbcnfcgljbbgaa
open Go.RowKit Ev
set_option linter.unusedVariables false
set_option linter.unusedSimpArgs false
set_option maxRecDepth 20000
set_option maxHeartbeats 4000000

/-- What is said of a shape. -/
def shapeE (k : Int) (a b c d e f g h i r q : Nat) (s : Int) : Int :=
  bif decide (s < 0) || decide (16 ≤ s) then 4 else
  bif !(fineB a b c) || (!(fineB d e f) || (!(fineB g h i) || (!(nearB r) || !(nearB q)))) then 1 else
  bif k == 1 then ballE a b c r else bif k == 2 then blockE a b c d e f else bif k == 3 then triE a b c d e f g h i else
  bif k == 4 then plateE a b c d e f r else bif k == 5 then tubeE a b c d e f r else bif k == 6 then ringE a b c d e f r q else 3
theorem shapeMay_f : FnOk Try.prog 17 Try.f17 := ⟨Try.func17, by kernel_rfl⟩
theorem shapeMay_a (k : Int) (a b c d e f g h i r q : Nat) (s : Int) : ACalls Try.prog 17 [.agg [.int .i64 k, .flt a, .flt b, .flt c, .flt d, .flt e, .flt f, .flt g, .flt h, .flt i, .flt r, .flt q, .int .i64 s]] (.int .i64 (shapeE k a b c d e f g h i r q s)) := by
  refine acalls_of (inl := hasI (P := Try.prog) [⟨30, Try.f30, Try.func30, by kernel_rfl⟩] []) (base [fine_k, near_k, fitsBall_k, fitsBlock_k, fitsTri_k, fitsPlate_k, fitsTube_k, fitsRing_k] [⟨30, Try.f30, Try.func30, by kernel_rfl⟩] []) 4 shapeMay_f (And.intro (by kernel_rfl) ?_)
  repeat' (first | refine And.intro ?_ ?_ | (with_reducible exact ff_elim) | (with_reducible exact tf_elim) | intro _ | (with_reducible rfl) | ((with_reducible refine lk_t ?_); exact rfl) | ((with_reducible refine pf_t ?_); exact rfl) | refine tell ?_ | exact True.intro | (refine IsT.of ?_; kernel_rfl))
  all_goals ((try refine Tell.mk ?_); first | with_reducible rfl | ((show (_ : Int) ≤ _); decide) | ((show (_ : Int) < _); decide) | (with_reducible refine gb_t ?_; with_reducible assumption) | with_reducible assumption | (with_reducible refine gb_f ?_; with_reducible assumption) | (simp only [shapeE, *, cond_true, cond_false]; done) | ((with_reducible refine ks_t ?_); rfl) | ((with_reducible refine pk_t ?_); rfl) | ((with_reducible refine pf_t ?_); rfl) | ((with_reducible refine lk_t ?_); rfl) | ((with_reducible refine okF_t ?_); kernel_rfl) | grind [gb, shapeE])
def shapeMay_k : Con Try.prog := ⟨17, fun args => match args with | [.agg [.int .i64 k, .flt a, .flt b, .flt c, .flt d, .flt e, .flt f, .flt g, .flt h, .flt i, .flt r, .flt q, .int .i64 s]] => .ok (none) (.int .i64 (shapeE k a b c d e f g h i r q s)) | _ => .no, by
  intro args p r h hp
  split at h
  · cases h; exact shapeMay_a _ _ _ _ _ _ _ _ _ _ _ _ _
  · cases h⟩
theorem put0_f : FnOk Try.prog 36 Try.f36 := ⟨Try.func36, by kernel_rfl⟩
theorem put0_a (a b c x : Nat) : ACalls Try.prog 36 [.agg [.flt a, .flt b, .flt c], .int .i64 0, .flt x] (.agg [.flt x, .flt b, .flt c]) := by
  refine acalls_of (inl := hasI (P := Try.prog) [⟨41, Try.f41, Try.func41, by kernel_rfl⟩] []) (base [] [⟨41, Try.f41, Try.func41, by kernel_rfl⟩] []) 4 put0_f (And.intro (by kernel_rfl) ?_)
  repeat' (first | refine And.intro ?_ ?_ | (with_reducible exact ff_elim) | (with_reducible exact tf_elim) | intro _ | (with_reducible rfl) | ((with_reducible refine lk_t ?_); exact rfl) | ((with_reducible refine pf_t ?_); exact rfl) | refine tell ?_ | exact True.intro | (refine IsT.of ?_; kernel_rfl))
  all_goals ((try refine Tell.mk ?_); first | with_reducible rfl | ((show (_ : Int) ≤ _); decide) | ((show (_ : Int) < _); decide) | (with_reducible refine gb_t ?_; with_reducible assumption) | with_reducible assumption | (with_reducible refine gb_f ?_; with_reducible assumption) | (simp only [gb, *, cond_true, cond_false]; done) | ((with_reducible refine ks_t ?_); rfl) | ((with_reducible refine pk_t ?_); rfl) | ((with_reducible refine pf_t ?_); rfl) | ((with_reducible refine lk_t ?_); rfl) | ((with_reducible refine okF_t ?_); kernel_rfl) | grind [gb])
def put0_k : Con Try.prog := ⟨36, fun args => match args with | [.agg [.flt a, .flt b, .flt c], .int .i64 0, .flt x] => .ok (none) (.agg [.flt x, .flt b, .flt c]) | _ => .no, by
  intro args p r h hp
  split at h
  · cases h; exact put0_a _ _ _ _
  · cases h⟩
theorem put1_f : FnOk Try.prog 36 Try.f36 := ⟨Try.func36, by kernel_rfl⟩
theorem put1_a (a b c x : Nat) : ACalls Try.prog 36 [.agg [.flt a, .flt b, .flt c], .int .i64 1, .flt x] (.agg [.flt a, .flt x, .flt c]) := by
  refine acalls_of (inl := hasI (P := Try.prog) [⟨41, Try.f41, Try.func41, by kernel_rfl⟩] []) (base [] [⟨41, Try.f41, Try.func41, by kernel_rfl⟩] []) 4 put1_f (And.intro (by kernel_rfl) ?_)
  repeat' (first | refine And.intro ?_ ?_ | (with_reducible exact ff_elim) | (with_reducible exact tf_elim) | intro _ | (with_reducible rfl) | ((with_reducible refine lk_t ?_); exact rfl) | ((with_reducible refine pf_t ?_); exact rfl) | refine tell ?_ | exact True.intro | (refine IsT.of ?_; kernel_rfl))
  all_goals ((try refine Tell.mk ?_); first | with_reducible rfl | ((show (_ : Int) ≤ _); decide) | ((show (_ : Int) < _); decide) | (with_reducible refine gb_t ?_; with_reducible assumption) | with_reducible assumption | (with_reducible refine gb_f ?_; with_reducible assumption) | (simp only [gb, *, cond_true, cond_false]; done) | ((with_reducible refine ks_t ?_); rfl) | ((with_reducible refine pk_t ?_); rfl) | ((with_reducible refine pf_t ?_); rfl) | ((with_reducible refine lk_t ?_); rfl) | ((with_reducible refine okF_t ?_); kernel_rfl) | grind [gb])
def put1_k : Con Try.prog := ⟨36, fun args => match args with | [.agg [.flt a, .flt b, .flt c], .int .i64 1, .flt x] => .ok (none) (.agg [.flt a, .flt x, .flt c]) | _ => .no, by
  intro args p r h hp
  split at h
  · cases h; exact put1_a _ _ _ _
  · cases h⟩
theorem put2_f : FnOk Try.prog 36 Try.f36 := ⟨Try.func36, by kernel_rfl⟩
theorem put2_a (a b c x : Nat) : ACalls Try.prog 36 [.agg [.flt a, .flt b, .flt c], .int .i64 2, .flt x] (.agg [.flt a, .flt b, .flt x]) := by
  refine acalls_of (inl := hasI (P := Try.prog) [⟨41, Try.f41, Try.func41, by kernel_rfl⟩] []) (base [] [⟨41, Try.f41, Try.func41, by kernel_rfl⟩] []) 4 put2_f (And.intro (by kernel_rfl) ?_)
  repeat' (first | refine And.intro ?_ ?_ | (with_reducible exact ff_elim) | (with_reducible exact tf_elim) | intro _ | (with_reducible rfl) | ((with_reducible refine lk_t ?_); exact rfl) | ((with_reducible refine pf_t ?_); exact rfl) | refine tell ?_ | exact True.intro | (refine IsT.of ?_; kernel_rfl))
  all_goals ((try refine Tell.mk ?_); first | with_reducible rfl | ((show (_ : Int) ≤ _); decide) | ((show (_ : Int) < _); decide) | (with_reducible refine gb_t ?_; with_reducible assumption) | with_reducible assumption | (with_reducible refine gb_f ?_; with_reducible assumption) | (simp only [gb, *, cond_true, cond_false]; done) | ((with_reducible refine ks_t ?_); rfl) | ((with_reducible refine pk_t ?_); rfl) | ((with_reducible refine pf_t ?_); rfl) | ((with_reducible refine lk_t ?_); rfl) | ((with_reducible refine okF_t ?_); kernel_rfl) | grind [gb])
def put2_k : Con Try.prog := ⟨36, fun args => match args with | [.agg [.flt a, .flt b, .flt c], .int .i64 2, .flt x] => .ok (none) (.agg [.flt a, .flt b, .flt x]) | _ => .no, by
  intro args p r h hp
  split at h
  · cases h; exact put2_a _ _ _ _
  · cases h⟩
theorem put_f : FnOk Try.prog 36 Try.f36 := ⟨Try.func36, by kernel_rfl⟩
theorem put_a (a b c x : Nat) (k : Int) (hpre : 0 ≤ k ∧ k ≤ 2) : ACalls Try.prog 36 [.agg [.flt a, .flt b, .flt c], .int .i64 k, .flt x] (.agg [.flt (bif k == 0 then x else a), .flt (bif k == 1 then x else b), .flt (bif k == 0 || k == 1 then c else x)]) := by
  have h : k = 0 ∨ k = 1 ∨ k = 2 := by omega
  rcases h with rfl | rfl | rfl
  · exact put0_a a b c x
  · exact put1_a a b c x
  · exact put2_a a b c x
def put_k : Con Try.prog := ⟨36, fun args => match args with | [.agg [.flt a, .flt b, .flt c], .int .i64 k, .flt x] => .ok (some (0 ≤ k ∧ k ≤ 2)) (.agg [.flt (bif k == 0 then x else a), .flt (bif k == 1 then x else b), .flt (bif k == 0 || k == 1 then c else x)]) | _ => .no, by
  intro args p r h hp
  split at h
  · cases h; exact put_a _ _ _ _ _ hp
  · cases h⟩
theorem alone_le (a b c : Nat) : aloneV a b c ≤ 2 := by
  unfold aloneV
  cases !(feq a 0) && (feq b 0 && feq c 0) <;> cases feq a 0 && (!(feq b 0) && feq c 0) <;> cases feq a 0 && (feq b 0 && !(feq c 0)) <;> decide
/-- The same, as the document asks for it. -/
def ballR (a b c r : Nat) : Int := bif flt r 0 || feq r 0 then 6 else boxE (F .sub a r) (F .sub b r) (F .sub c r) (F .add a r) (F .add b r) (F .add c r)
def blockR (a b c d e f : Nat) : Int := bif fgt a d || (fgt b e || fgt c f) then 6 else boxE a b c d e f
def plateR (a b c d e f r : Nat) : Int := bif flt r 0 || feq r 0 then 6 else bif unitE d e f == 0 then boxE (F .sub a r) (F .sub b r) (F .sub c r) (F .add a r) (F .add b r) (F .add c r) else unitE d e f
def tubeR (a b c d e f r : Nat) : Int := bif (flt r 0 || feq r 0) || decide (aloneV d e f < 0) then 6 else boxE (F .sub (lessV a (F .add a d)) (wo (aloneV d e f) 0 r)) (F .sub (lessV b (F .add b e)) (wo (aloneV d e f) 1 r)) (F .sub (lessV c (F .add c f)) (wz (aloneV d e f) r)) (F .add (moreV a (F .add a d)) (wo (aloneV d e f) 0 r)) (F .add (moreV b (F .add b e)) (wo (aloneV d e f) 1 r)) (F .add (moreV c (F .add c f)) (wz (aloneV d e f) r))
def ringR (a b c d e f r q : Nat) : Int := bif (flt q 0 || feq q 0) || (flt r q || decide (aloneV d e f < 0)) then 6 else boxE (F .sub a (F .add (wo (aloneV d e f) 0 r) q)) (F .sub b (F .add (wo (aloneV d e f) 1 r) q)) (F .sub c (F .add (wz (aloneV d e f) r) q)) (F .add a (F .add (wo (aloneV d e f) 0 r) q)) (F .add b (F .add (wo (aloneV d e f) 1 r) q)) (F .add c (F .add (wz (aloneV d e f) r) q))
def shapeR (k : Int) (a b c d e f g h i r q : Nat) (s : Int) : Int :=
  bif decide (s < 0) || decide (16 ≤ s) then 4 else
  bif !(fineB a b c) || (!(fineB d e f) || (!(fineB g h i) || (!(nearB r) || !(nearB q)))) then 1 else
  bif k == 1 then ballR a b c r else bif k == 2 then blockR a b c d e f else bif k == 3 then triE a b c d e f g h i else
  bif k == 4 then plateR a b c d e f r else bif k == 5 then tubeR a b c d e f r else bif k == 6 then ringR a b c d e f r q else 3
theorem feq_comm (x y : Nat) : feq x y = feq y x := by
  have e : FloatKind.f64.format.order y x = (FloatKind.f64.format.order x y).map Ordering.swap := order_swap x y
  unfold feq
  rw [e]
  rcases FloatKind.f64.format.order x y with _ | _ | _ | _ <;> rfl
theorem ge_not {x y : Nat} (hx : isN x = false) (hy : isN y = false) : (fgt x y || feq x y) = !(flt x y) := by
  have h := le_not hy hx
  rw [fgt_flt, feq_comm x y, h, fgt_flt]
theorem lt_ge (n : Int) : decide (n < 0) = !(decide (0 ≤ n)) := by
  by_cases h : n < 0
  · rw [decide_eq_true h, decide_eq_false (by omega)]; rfl
  · rw [decide_eq_false h, decide_eq_true (by omega)]; rfl
theorem shape_eq (k : Int) (a b c d e f g h i r q : Nat) (s : Int) : shapeR k a b c d e f g h i r q s = shapeE k a b c d e f g h i r q s := by
  unfold shapeR shapeE
  cases h1 : fineB a b c <;> cases h2 : fineB d e f <;> cases h0 : fineB g h i <;> cases h3 : nearB r <;> cases h4 : nearB q <;> try rfl
  have hb : blockR a b c d e f = blockE a b c d e f := by
    unfold blockR blockE boxE mayV
    rw [h1, h2]
    cases fgt a d <;> cases fgt b e <;> cases fgt c f <;> rfl
  have h5 : ballR a b c r = ballE a b c r := by unfold ballR ballE; rw [pos_le h3]; cases fgt r 0 <;> rfl
  have h6 : plateR a b c d e f r = plateE a b c d e f r := by unfold plateR plateE; rw [pos_le h3]; cases fgt r 0 <;> rfl
  have h7 : tubeR a b c d e f r = tubeE a b c d e f r := by unfold tubeR tubeE; rw [pos_le h3, lt_ge]; cases fgt r 0 <;> cases decide (0 ≤ aloneV d e f) <;> rfl
  have h8 : ringR a b c d e f r q = ringE a b c d e f r q := by
    unfold ringR ringE
    rw [pos_le h4, lt_ge, ge_not (near_num h3) (near_num h4)]
    cases fgt q 0 <;> cases decide (0 ≤ aloneV d e f) <;> cases flt r q <;> rfl
  rw [hb, h5, h6, h7, h8]
end Go.Proofs.Ytgbcnfcgljbbgaa
