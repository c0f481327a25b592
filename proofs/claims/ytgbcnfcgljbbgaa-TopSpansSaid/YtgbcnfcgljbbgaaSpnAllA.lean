/- Spans: rows of them, and what two rows have in common. -/
import Derived.Test.YtgbcnfcgljbbgaaSolidA
import Derived.Test.YtgbcnfcgljbbgaaSlabB
import Derived.Test.YtgbcnfcgljbbgaaFltOrd
namespace Go.Proofs.Ytgbcnfcgljbbgaa
open Go.RowKit Ev
set_option linter.unusedVariables false
set_option linter.unusedSimpArgs false
set_option maxRecDepth 20000
set_option maxHeartbeats 4000000

/-- From where to where a ray is inside. -/
structure Spn where
  a : Nat
  b : Int
  c : Bool
  d : Nat
  e : Int
  f : Bool
def Spn.row (s : Spn) : List AV := [.flt s.a, .int .i64 s.b, .bool s.c, .flt s.d, .int .i64 s.e, .bool s.f]
def spnZ : Spn := ⟨0, 0, false, 0, 0, false⟩
def rowsS (L : List Spn) (i : Nat) : List AV := (L.getD i spnZ).row
theorem later_f : FnOk Try.prog 32 Try.f32 := ⟨Try.func32, by kernel_rfl⟩
theorem later_a (a : Nat) (b : Int) (c : Bool) (d : Nat) (e : Int) (f : Bool) : ACalls Try.prog 32 [.agg [.flt a, .int .i64 b, .bool c], .agg [.flt d, .int .i64 e, .bool f]] (.agg [.flt (bif fgt d a then d else a), .int .i64 (bif fgt d a then e else b), .bool (bif fgt d a then f else c)]) := by
  refine acalls_of (inl := hasI (P := Try.prog) [] []) (base [] [] []) 0 later_f (And.intro (by kernel_rfl) ?_)
  repeat' (first | refine And.intro ?_ ?_ | (with_reducible exact ff_elim) | (with_reducible exact tf_elim) | intro _ | (with_reducible rfl) | ((with_reducible refine lk_t ?_); exact rfl) | ((with_reducible refine pf_t ?_); exact rfl) | refine tell ?_ | exact True.intro | (refine IsT.of ?_; kernel_rfl))
  all_goals ((try refine Tell.mk ?_); first | with_reducible rfl | ((show (_ : Int) ≤ _); decide) | ((show (_ : Int) < _); decide) | (with_reducible refine gb_t ?_; with_reducible assumption) | with_reducible assumption | (with_reducible refine gb_f ?_; with_reducible assumption) | (simp only [gb, *, cond_true, cond_false]; done) | ((with_reducible refine ks_t ?_); rfl) | ((with_reducible refine pk_t ?_); rfl) | ((with_reducible refine pf_t ?_); rfl) | ((with_reducible refine lk_t ?_); rfl) | ((with_reducible refine okF_t ?_); kernel_rfl) | grind [gb])
def later_k : Con Try.prog := ⟨32, fun args => match args with | [.agg [.flt a, .int .i64 b, .bool c], .agg [.flt d, .int .i64 e, .bool f]] => .ok (none) (.agg [.flt (bif fgt d a then d else a), .int .i64 (bif fgt d a then e else b), .bool (bif fgt d a then f else c)]) | _ => .no, by
  intro args p r h hp
  split at h
  · cases h; exact later_a _ _ _ _ _ _
  · cases h⟩
theorem earlier_f : FnOk Try.prog 33 Try.f33 := ⟨Try.func33, by kernel_rfl⟩
theorem earlier_a (a : Nat) (b : Int) (c : Bool) (d : Nat) (e : Int) (f : Bool) : ACalls Try.prog 33 [.agg [.flt a, .int .i64 b, .bool c], .agg [.flt d, .int .i64 e, .bool f]] (.agg [.flt (bif flt d a then d else a), .int .i64 (bif flt d a then e else b), .bool (bif flt d a then f else c)]) := by
  refine acalls_of (inl := hasI (P := Try.prog) [] []) (base [] [] []) 0 earlier_f (And.intro (by kernel_rfl) ?_)
  repeat' (first | refine And.intro ?_ ?_ | (with_reducible exact ff_elim) | (with_reducible exact tf_elim) | intro _ | (with_reducible rfl) | ((with_reducible refine lk_t ?_); exact rfl) | ((with_reducible refine pf_t ?_); exact rfl) | refine tell ?_ | exact True.intro | (refine IsT.of ?_; kernel_rfl))
  all_goals ((try refine Tell.mk ?_); first | with_reducible rfl | ((show (_ : Int) ≤ _); decide) | ((show (_ : Int) < _); decide) | (with_reducible refine gb_t ?_; with_reducible assumption) | with_reducible assumption | (with_reducible refine gb_f ?_; with_reducible assumption) | (simp only [gb, *, cond_true, cond_false]; done) | ((with_reducible refine ks_t ?_); rfl) | ((with_reducible refine pk_t ?_); rfl) | ((with_reducible refine pf_t ?_); rfl) | ((with_reducible refine lk_t ?_); rfl) | ((with_reducible refine okF_t ?_); kernel_rfl) | grind [gb])
def earlier_k : Con Try.prog := ⟨33, fun args => match args with | [.agg [.flt a, .int .i64 b, .bool c], .agg [.flt d, .int .i64 e, .bool f]] => .ok (none) (.agg [.flt (bif flt d a then d else a), .int .i64 (bif flt d a then e else b), .bool (bif flt d a then f else c)]) | _ => .no, by
  intro args p r h hp
  split at h
  · cases h; exact earlier_a _ _ _ _ _ _
  · cases h⟩
theorem turnedC_f : FnOk Try.prog 34 Try.f34 := ⟨Try.func34, by kernel_rfl⟩
theorem turnedC_a (a : Nat) (b : Int) (c : Bool) : ACalls Try.prog 34 [.agg [.flt a, .int .i64 b, .bool c]] (.agg [.flt a, .int .i64 b, .bool (!c)]) := by
  refine acalls_of (inl := hasI (P := Try.prog) [] []) (base [] [] []) 0 turnedC_f (And.intro (by kernel_rfl) ?_)
  repeat' (first | refine And.intro ?_ ?_ | (with_reducible exact ff_elim) | (with_reducible exact tf_elim) | intro _ | (with_reducible rfl) | ((with_reducible refine lk_t ?_); exact rfl) | ((with_reducible refine pf_t ?_); exact rfl) | refine tell ?_ | exact True.intro | (refine IsT.of ?_; kernel_rfl))
  all_goals ((try refine Tell.mk ?_); first | with_reducible rfl | ((show (_ : Int) ≤ _); decide) | ((show (_ : Int) < _); decide) | (with_reducible refine gb_t ?_; with_reducible assumption) | with_reducible assumption | (with_reducible refine gb_f ?_; with_reducible assumption) | (simp only [gb, *, cond_true, cond_false]; done) | ((with_reducible refine ks_t ?_); rfl) | ((with_reducible refine pk_t ?_); rfl) | ((with_reducible refine pf_t ?_); rfl) | ((with_reducible refine lk_t ?_); rfl) | ((with_reducible refine okF_t ?_); kernel_rfl) | grind [gb])
def turnedC_k : Con Try.prog := ⟨34, fun args => match args with | [.agg [.flt a, .int .i64 b, .bool c]] => .ok (none) (.agg [.flt a, .int .i64 b, .bool (!c)]) | _ => .no, by
  intro args p r h hp
  split at h
  · cases h; exact turnedC_a _ _ _
  · cases h⟩
/-- What two spans have in common. -/
def interS (x y : Spn) : Spn := ⟨bif fgt y.a x.a then y.a else x.a, bif fgt y.a x.a then y.b else x.b, bif fgt y.a x.a then y.c else x.c, bif flt y.d x.d then y.d else x.d, bif flt y.d x.d then y.e else x.e, bif flt y.d x.d then y.f else x.f⟩
def interL (x y : Spn) : List Spn := bif flt (interS x y).a (interS x y).d then [interS x y] else []
def bothN : Nat → List Spn → List Spn → List Spn
  | 0, _, _ => []
  | n + 1, A, B => match A, B with
    | x :: a, y :: b => interL x y ++ bif flt y.d x.d then bothN n (x :: a) b else bothN n a (y :: b)
    | _, _ => []
@[irreducible] def bothL (A B : List Spn) : List Spn := bothN (A.length + B.length) A B
theorem bothL_nil1 (B : List Spn) : bothL [] B = [] := by
  unfold bothL; cases h : ([] : List Spn).length + B.length <;> rfl
theorem bothL_nil2 (A : List Spn) : bothL A [] = [] := by
  unfold bothL; cases h : A.length + ([] : List Spn).length
  · rfl
  · cases A <;> rfl
theorem bothL_cons (x : Spn) (a : List Spn) (y : Spn) (b : List Spn) : bothL (x :: a) (y :: b) = interL x y ++ bif flt y.d x.d then bothL (x :: a) b else bothL a (y :: b) := by
  unfold bothL
  rw [show (x :: a).length + (y :: b).length = (a.length + b.length + 1) + 1 by simp only [List.length_cons]; omega, show (x :: a).length + b.length = a.length + b.length + 1 by simp only [List.length_cons]; omega, show a.length + (y :: b).length = a.length + b.length + 1 by simp only [List.length_cons]; omega]
  rfl
theorem drop_cons {A : List Spn} {i : Nat} (h : i < A.length) : A.drop i = A.getD i spnZ :: A.drop (i + 1) := by
  rw [List.drop_eq_getElem_cons h]; simp [List.getD, h]
theorem bothL_step {A B : List Spn} {i k : Nat} (hi : i < A.length) (hk : k < B.length) : bothL (A.drop i) (B.drop k) = interL (A.getD i spnZ) (B.getD k spnZ) ++ bif flt (B.getD k spnZ).d (A.getD i spnZ).d then bothL (A.drop i) (B.drop (k + 1)) else bothL (A.drop (i + 1)) (B.drop k) := by
  rw [drop_cons hi, drop_cons hk, bothL_cons]
theorem bothL_out {A B : List Spn} {i k : Nat} (h : A.length ≤ i ∨ B.length ≤ k) : bothL (A.drop i) (B.drop k) = [] := by
  rcases h with h | h
  · rw [List.drop_eq_nil_of_le h]; exact bothL_nil1 _
  · rw [List.drop_eq_nil_of_le h]; exact bothL_nil2 _
theorem view_rd {nm : Bool} {sz sz' o : Nat} {row : Nat → List AV} {i : Nat} {K : AV → Prop} (hs : Nat.ble (o + sz') sz = true) (hl : (row i).length = sz) (h : nameE nm (.agg (((row i).drop o).take sz')) K) :
    nameE nm (.agg (List.map (fun j => flatF sz row (mulN (i : Int).toNat sz + (o + j))) (List.range sz'))) K := by
  refine view_agg ?_ (view_drop hs hl h)
  simp only [Nat.add_assoc]
theorem view_rc {nm : Bool} {sz o : Nat} {row : Nat → List AV} {i c : Nat} {K : AV → Prop} (hc : Nat.blt (o + c) sz = true) (h : nameE nm ((row i).getD (o + c) .any) K) :
    nameE nm (flatF sz row (mulN (i : Int).toNat sz + (o + c))) K := view_cell hc h
theorem rowsS_l {o : List Spn} {z : Spn} {i : Nat} (h : i < o.length) : rowsS (o ++ [z]) i = rowsS o i := by
  unfold rowsS; simp [List.getD, List.getElem?_append_left h]
theorem rowsS_r {o : List Spn} {z : Spn} : rowsS (o ++ [z]) o.length = z.row := by
  unfold rowsS; simp [List.getD]
theorem push_at {o : List Spn} {z : Spn} {j : Nat} (hj : j < 6 * (o ++ [z]).length) : flatF 6 (rowsS (o ++ [z])) j = catA (o.length * 6) (flatF 6 (rowsS o)) (fun j => z.row.getD j .any) j := by
  have hl : (o ++ [z]).length = o.length + 1 := by simp
  rw [hl] at hj
  unfold catA
  split
  · rename_i h
    unfold flatF
    rw [rowsS_l (by omega)]
  · rename_i h
    rw [flat_row (i := o.length) (c := j - o.length * 6) (by omega) (by omega), rowsS_r]
theorem size_Span : (Tab.cx.ti 42).size = 6 := rfl
theorem bytes_Span : (Tab.cx.ti 42).bytes = 48 := rfl
structure BI (A B : List Spn) where
  i : Nat
  k : Nat
  o : List Spn
  hi : i ≤ A.length
  hk : k ≤ B.length
  hb : o.length ≤ i + k
  he : o ++ bothL (A.drop i) (B.drop k) = bothL A B
theorem bi_step {A B o : List Spn} {i k : Nat} (he : o ++ bothL (A.drop i) (B.drop k) = bothL A B) (hi : i < A.length) (hk : k < B.length) :
    (bif flt (interS (A.getD i spnZ) (B.getD k spnZ)).a (interS (A.getD i spnZ) (B.getD k spnZ)).d then o ++ [interS (A.getD i spnZ) (B.getD k spnZ)] else o) ++ bothL (List.drop (bif flt (B.getD k spnZ).d (A.getD i spnZ).d then i else i + 1) A) (List.drop (bif flt (B.getD k spnZ).d (A.getD i spnZ).d then k + 1 else k) B) = bothL A B := by
  rw [← he, bothL_step hi hk]
  unfold interL
  cases flt (B.getD k spnZ).d (A.getD i spnZ).d <;> cases flt (interS (A.getD i spnZ) (B.getD k spnZ)).a (interS (A.getD i spnZ) (B.getD k spnZ)).d <;> simp
theorem bi_len {o : List Spn} {z : Spn} {i k : Nat} {p q : Bool} (hb : o.length ≤ i + k) : (bif p then o ++ [z] else o).length ≤ (bif q then i else i + 1) + bif q then k + 1 else k := by
  cases p <;> cases q <;> simp <;> omega
theorem bi_i {i n : Nat} {q : Bool} (h : i < n) : (bif q then i else i + 1) ≤ n := by cases q <;> simp <;> omega
theorem bi_k {i n : Nat} {q : Bool} (h : i < n) : (bif q then i + 1 else i) ≤ n := by cases q <;> simp <;> omega
theorem bi_mu {i k n : Nat} {q : Bool} (h : i + k < n) : n - ((bif q then i else i + 1) + bif q then k + 1 else k) < n - (i + k) := by cases q <;> simp <;> omega
def slS (L : List Spn) : AV := .sl L.length 6 (flatF 6 (rowsS L))
theorem both_f : FnOk Try.prog 21 Try.f21 := ⟨Try.func21, by kernel_rfl⟩
theorem both_a (A B : List Spn) (hpre : A.length + B.length ≤ 1000000) : ACalls Try.prog 21 [.sl A.length 6 (flatF 6 (rowsS A)), .sl B.length 6 (flatF 6 (rowsS B))] (.sl (bothL A B).length 6 (flatF 6 (rowsS (bothL A B)))) := by
  refine acalls_of (inl := hasI (P := Try.prog) [] []) (base [later_k, earlier_k] [] []) 0 both_f (And.intro (by kernel_rfl) ?_)
  repeat' (first | refine And.intro ?_ ?_ | (with_reducible exact ff_elim) | (with_reducible exact tf_elim) | refine num_elim ?_ | intro _ | (with_reducible rfl) | ((with_reducible refine lk_t ?_); exact rfl) | ((with_reducible refine pf_t ?_); exact rfl) | refine tell ?_ | exact True.intro | (refine IsT.of ?_; kernel_rfl))
  all_goals (try (refine loop_keep [0, 1] [] ?_; refine LoopI.mk (BI A B) (fun j => [(6, .int .i64 j.i), (7, .int .i64 j.k), (5, .os 1 6 0 j.o.length)]) (fun j => [(1, .arr (6 * j.o.length) (flatF 6 (rowsS j.o)))]) (fun j => A.length + B.length - (j.i + j.k)) (⟨0, 0, [], Nat.zero_le _, Nat.zero_le _, Nat.zero_le _, rfl⟩) (wk_mk [none] ?_) (fun ⟨i, k, o, hi, hk, hb, he⟩ => ?_)))
  repeat' (first | refine And.intro ?_ ?_ | (with_reducible exact ff_elim) | (with_reducible exact tf_elim) | refine' stp_mk [some _] ((⟨bif flt (B.getD k spnZ).d (A.getD i spnZ).d then i else i + 1, bif flt (B.getD k spnZ).d (A.getD i spnZ).d then k + 1 else k, bif flt (interS (A.getD i spnZ) (B.getD k spnZ)).a (interS (A.getD i spnZ) (B.getD k spnZ)).d then o ++ [interS (A.getD i spnZ) (B.getD k spnZ)] else o, ?_, ?_, ?_, ?_⟩ : BI A B)) ?_ ?_ | refine view_flat rfl rfl ?_ | refine view_take (by rfl) rfl ?_ | refine view_drop (by rfl) rfl ?_ | refine view_cell (by rfl) ?_ | refine view_rd (by rfl) rfl ?_ | refine view_rc (by rfl) ?_ | refine num_elim ?_ | intro _ | (with_reducible rfl) | ((with_reducible refine lk_t ?_); exact rfl) | ((with_reducible refine pf_t ?_); exact rfl) | refine tell ?_ | exact True.intro | (refine IsT.of ?_; kernel_rfl))
  all_goals (try refine Tell.mk ?_)
  all_goals first | with_reducible rfl | with_reducible exact isI_mk | with_reducible assumption | (with_reducible refine gb_t ?_; with_reducible assumption) | (with_reducible refine gb_f ?_; with_reducible assumption) | ((with_reducible refine lk_t ?_); rfl) | ((with_reducible refine okF_t ?_); kernel_rfl) | ((with_reducible refine ks_t ?_); rfl) | ((with_reducible refine pk_t ?_); rfl) | ((with_reducible refine pf_t ?_); rfl) | skip
  all_goals (try dsimp only at *)
  all_goals (try simp only [decide_eq_true_eq, decide_eq_false_iff_not, Bool.or_eq_true, Bool.or_eq_false_iff, Bool.and_eq_true, Bool.and_eq_false_iff, Bool.not_eq_true', Bool.not_eq_false', bne_iff_ne, ne_eq, beq_iff_eq, bne_eq_false_iff_eq, beq_eq_false_iff_ne, Int.not_lt, Int.not_le, gt_iff_lt, ge_iff_le] at *)
  all_goals (try simp only [mulN1, Nat.add_zero, Nat.zero_add, Nat.mul_one, Int.toNat_natCast, avInt_int] at *)
  all_goals first | with_reducible rfl | with_reducible exact nums_N | omega | ((with_reducible refine by_le 1 rfl ?_); omega) | ((with_reducible refine by_le 8 rfl ?_); omega) | (rw [wrapI (by omega) (by omega)] <;> omega) | skip
  all_goals (try (show (Tab.cx.ti _).size ≤ _); decide)
  all_goals (try simp only [size_Span, bytes_Span] at *)
  all_goals first | rfl | omega | exact bi_step he (by omega) (by omega) | exact bi_len hb | exact bi_i (by omega) | exact bi_k (by omega) | exact bi_mu (by omega) | (show 1 * 6 ≤ 6; decide) | skip
  all_goals (try (have eo : o = bothL A B := (by have e := he; rw [bothL_out (by omega), List.append_nil] at e; exact e)))
  all_goals first | (rw [eo]; done) | skip
  all_goals first | (have q2 : flt (interS (A.getD i spnZ) (B.getD k spnZ)).a (interS (A.getD i spnZ) (B.getD k spnZ)).d = true := (by simp only [interS]; with_reducible assumption); simp only [q2, cond_true] at *) | (have q2 : flt (interS (A.getD i spnZ) (B.getD k spnZ)).a (interS (A.getD i spnZ) (B.getD k spnZ)).d = false := (by simp only [interS]; with_reducible assumption); simp only [q2, cond_false] at *) | skip
  all_goals first | exact push_at (by assumption) | (simp only [List.length_append, List.length_cons, List.length_nil] <;> omega) | omega | skip
  all_goals first | (have q1 : flt (B.getD k spnZ).d (A.getD i spnZ).d = true := (by with_reducible assumption); simp only [q1, cond_true]) | (have q1 : flt (B.getD k spnZ).d (A.getD i spnZ).d = false := (by with_reducible assumption); simp only [q1, cond_false]) | skip
  all_goals first | (rw [wrapI (by omega) (by omega)]; rfl) | rfl | skip
  all_goals first | exact push_at (by assumption) | (simp only [List.length_append, List.length_cons, List.length_nil] <;> omega) | trace_state
end Go.Proofs.Ytgbcnfcgljbbgaa
/- Spans: two rows in one. -/
namespace Go.Proofs.Ytgbcnfcgljbbgaa
open Go.RowKit Ev
set_option linter.unusedVariables false
set_option linter.unusedSimpArgs false
set_option maxRecDepth 20000
set_option maxHeartbeats 4000000

theorem view1_c {sz o p c : Nat} {row : Nat → List AV} {i : Nat} {K : AV → Prop} (hc : Nat.blt (o + (p + c)) sz = true) (h : force1 ((row i).getD (o + (p + c)) .any) K) : force1 (flatF sz row (mulN (i : Int).toNat sz + (o + (p + c)))) K := by
  rw [mulN_eq, Int.toNat_natCast, flat_at (Nat.le_of_ble_eq_true hc)]; exact h
theorem view1_0 {sz o p c : Nat} {row : Nat → List AV} {K : AV → Prop} (hc : Nat.blt (o + (p + c)) sz = true) (h : force1 ((row 0).getD (o + (p + c)) .any) K) : force1 (flatF sz row (mulN (Int.toNat 0) sz + (o + (p + c)))) K :=
  view1_c (i := 0) hc h
theorem view_f0 {nm : Bool} {sz sz' : Nat} {row : Nat → List AV} {K : AV → Prop} (hs : sz' = sz) (hl : (row 0).length = sz) (h : nameE nm (.agg (row 0)) K) :
    nameE nm (.agg (List.map (fun j => flatF sz row (mulN (Int.toNat 0) sz + j)) (List.range sz'))) K := view_flat (i := 0) hs hl h
theorem last_ix {n : Nat} (h : n ≤ 1000000) : (IntKind.i64.wrap ((n : Int) - 1)).toNat = n - 1 := by
  rw [wrapI (by omega) (by omega)]; omega
theorem view1_e {sz p c : Nat} {row : Nat → List AV} {e : Int} {K : AV → Prop} (i : Nat) (he : e.toNat = i) (hc : Nat.blt (p + c) sz = true) (h : force1 ((row i).getD (p + c) .any) K) : force1 (flatF sz row (0 + mulN e.toNat sz + p + c)) K := by
  rw [he, mulN_eq, Nat.zero_add, Nat.add_assoc, flat_at (Nat.le_of_ble_eq_true hc)]; exact h
theorem view_e {nm : Bool} {sz sz' p : Nat} {row : Nat → List AV} {e : Int} {K : AV → Prop} (i : Nat) (he : e.toNat = i) (hs : Nat.ble (p + sz') sz = true) (hl : (row i).length = sz) (h : nameE nm (.agg (((row i).drop p).take sz')) K) :
    nameE nm (.agg (List.map (fun j => flatF sz row (0 + mulN e.toNat sz + p + j)) (List.range sz'))) K := by
  have := view_drop (i := i) hs hl h
  rw [Int.toNat_natCast] at this
  rw [he]
  simp only [Nat.zero_add] at *
  exact this
def lastS (o : List Spn) : Spn := o.getD (o.length - 1) spnZ
def laterS (l x : Spn) : Spn := ⟨l.a, l.b, l.c, bif fgt x.d l.d then x.d else l.d, bif fgt x.d l.d then x.e else l.e, bif fgt x.d l.d then x.f else l.f⟩
def touchS (o : List Spn) (x : Spn) : Bool := decide ((o.length : Int) > 0) && (flt x.a (o.getD (o.length - 1) spnZ).d || feq x.a (o.getD (o.length - 1) spnZ).d)
/-- A span more; spans that touch are one. -/
def pushS (o : List Spn) (x : Spn) : List Spn := bif touchS o x then o.dropLast ++ [laterS (lastS o) x] else o ++ [x]
def firstS (a b : List Spn) : Bool := ((b.length : Int) == 0) || (decide ((a.length : Int) > 0) && (flt (a.getD 0 spnZ).a (b.getD 0 spnZ).a || feq (a.getD 0 spnZ).a (b.getD 0 spnZ).a))
def mergeN : Nat → List Spn → List Spn → List Spn
  | 0, _, _ => []
  | n + 1, a, b => bif firstS a b then a.getD 0 spnZ :: mergeN n a.tail b else b.getD 0 spnZ :: mergeN n a b.tail
@[irreducible] def mergeL (a b : List Spn) : List Spn := mergeN (a.length + b.length) a b
theorem first_pos {a b : List Spn} (h : 0 < a.length + b.length) (hf : firstS a b = true) : 0 < a.length := by
  unfold firstS at hf
  rcases Nat.eq_zero_or_pos a.length with e | e
  · rw [e] at hf h
    have : ¬ b.length = 0 := by omega
    simp [this] at hf
  · exact e
theorem first_neg {a b : List Spn} (hf : firstS a b = false) : 0 < b.length := by
  unfold firstS at hf
  rcases Nat.eq_zero_or_pos b.length with e | e
  · simp [e] at hf
  · exact e
theorem merge_step {a b : List Spn} (h : 0 < a.length + b.length) : mergeL a b = bif firstS a b then a.getD 0 spnZ :: mergeL a.tail b else b.getD 0 spnZ :: mergeL a b.tail := by
  unfold mergeL
  obtain ⟨n, hn⟩ : ∃ n, a.length + b.length = n + 1 := ⟨a.length + b.length - 1, by omega⟩
  rw [hn]
  show (bif firstS a b then _ else _) = _
  cases hf : firstS a b with
  | true =>
    have := first_pos h hf
    rw [show a.tail.length + b.length = n by rw [List.length_tail]; omega]; rfl
  | false =>
    have := first_neg hf
    rw [show a.length + b.tail.length = n by rw [List.length_tail]; omega]; rfl
theorem merge_nil {a b : List Spn} (h : ¬ 0 < a.length + b.length) : mergeL a b = [] := by
  unfold mergeL; rw [show a.length + b.length = 0 by omega]; rfl
def eitherL (A B : List Spn) : List Spn := (mergeL A B).foldl pushS []
theorem push_len (o : List Spn) (x : Spn) : (pushS o x).length ≤ o.length + 1 := by
  unfold pushS; cases touchS o x <;> simp
theorem ei_step {A B a b o : List Spn} (he : (mergeL a b).foldl pushS o = eitherL A B) (h : 0 < a.length + b.length) :
    List.foldl pushS (pushS o (bif firstS a b then a.getD 0 spnZ else b.getD 0 spnZ)) (mergeL (bif firstS a b then a.tail else a) (bif firstS a b then b else b.tail)) = eitherL A B := by
  rw [← he, merge_step h]
  cases firstS a b <;> rfl
theorem ei_len {a b : List Spn} (h : 0 < a.length + b.length) : (bif firstS a b then a.tail else a).length + (bif firstS a b then b else b.tail).length + 1 = a.length + b.length := by
  cases hf : firstS a b with
  | true => have := first_pos h hf; simp only [cond_true, List.length_tail]; omega
  | false => have := first_neg hf; simp only [cond_false, List.length_tail]; omega
theorem ei_hb {a b o : List Spn} {x : Spn} {n : Nat} (h : 0 < a.length + b.length) (hb : o.length + a.length + b.length ≤ n) : (pushS o x).length + (bif firstS a b then a.tail else a).length + (bif firstS a b then b else b.tail).length ≤ n := by
  have := push_len o x; have := ei_len h; omega
theorem ei_mu {a b : List Spn} (h : 0 < a.length + b.length) : (bif firstS a b then a.tail else a).length + (bif firstS a b then b else b.tail).length < a.length + b.length := by
  have := ei_len h; omega
theorem tail_at {a : List Spn} {j : Nat} : flatF 6 (rowsS a.tail) j = flatF 6 (rowsS a) (6 + j) := by
  unfold flatF rowsS
  rw [show (6 + j) / 6 = j / 6 + 1 by omega, show (6 + j) % 6 = j % 6 by omega]
  cases a <;> rfl
theorem ei_pos {a b : List Spn} (h : decide (IntKind.i64.wrap ((a.length : Int) + (b.length : Int)) > 0) = true) (hn : a.length + b.length ≤ 1000000) : 0 < a.length + b.length := by
  have h := of_decide_eq_true h
  rw [wrapI (by omega) (by omega)] at h
  omega
theorem ei_end {A B a b o : List Spn} (he : (mergeL a b).foldl pushS o = eitherL A B) (h : decide (IntKind.i64.wrap ((a.length : Int) + (b.length : Int)) > 0) = false) (hn : a.length + b.length ≤ 1000000) : eitherL A B = o := by
  have h := of_decide_eq_false h
  rw [wrapI (by omega) (by omega)] at h
  rw [← he, merge_nil (by omega)]; rfl
theorem gbT (x : Bool) : gb x true = x := rfl
theorem gbF (x : Bool) : gb x false = !x := rfl
theorem rowsS_dl {o : List Spn} {z : Spn} {i : Nat} (h : i < o.length - 1) : rowsS (o.dropLast ++ [z]) i = rowsS o i := by
  rw [rowsS_l (by simpa using h)]
  unfold rowsS
  have hi : i < o.length := by omega
  simp [List.getD, List.getElem?_dropLast, h, List.getElem?_eq_getElem hi]
theorem size_Cross : (Tab.cx.ti 40).size = 3 := rfl
theorem push_at' {o : List Spn} {z : Spn} {j : Nat} (hj : j < 6 * (o.length + 1)) : flatF 6 (rowsS (o ++ [z])) j = catA (o.length * 6) (flatF 6 (rowsS o)) (fun j => z.row.getD j .any) j := push_at (by simpa using hj)
theorem set_at {o : List Spn} {x : Spn} {j : Nat} (h : 0 < o.length) (hN : o.length ≤ 1000000) (hj : j < 6 * o.length) :
    flatF 6 (rowsS (o.dropLast ++ [laterS (lastS o) x])) j = setA (0 + mulN (IntKind.i64.wrap ((o.length : Int) - 1)).toNat 6 + 3) [AV.flt (laterS (lastS o) x).d, .int .i64 (laterS (lastS o) x).e, .bool (laterS (lastS o) x).f] (flatF 6 (rowsS o)) j := by
  have hd : (o.dropLast).length = o.length - 1 := List.length_dropLast
  have eR : rowsS (o.dropLast ++ [laterS (lastS o) x]) (o.length - 1) = (laterS (lastS o) x).row := by rw [← hd]; exact rowsS_r
  have eL : rowsS o (o.length - 1) = (lastS o).row := rfl
  rw [last_ix hN, mulN_eq, Nat.zero_add]
  unfold setA
  by_cases c : j / 6 < o.length - 1
  · rw [if_neg (by omega)]
    unfold flatF
    rw [rowsS_dl c]
  · have e : j = (o.length - 1) * 6 + (j - (o.length - 1) * 6) := by omega
    have hc : j - (o.length - 1) * 6 < 6 := by omega
    rw [flat_row (i := o.length - 1) hc e, eR]
    split
    · rename_i h3
      have h3 := h3.1
      obtain ⟨r, hr⟩ : ∃ r, j - (o.length - 1) * 6 = r + 3 := ⟨j - (o.length - 1) * 6 - 3, by omega⟩
      rw [show j - ((o.length - 1) * 6 + 3) = r by omega, hr]
      rfl
    · rename_i h3
      simp only [List.length_cons, List.length_nil] at h3
      rw [flat_row (i := o.length - 1) hc e, eL]
      have : j - (o.length - 1) * 6 < 3 := by omega
      generalize j - (o.length - 1) * 6 = r at this
      rcases r with _ | _ | _ | r
      · rfl
      · rfl
      · rfl
      · omega
theorem push_t {o : List Spn} {x : Spn} (h : touchS o x = true) : pushS o x = o.dropLast ++ [laterS (lastS o) x] := by unfold pushS; rw [h]; rfl
theorem push_f {o : List Spn} {x : Spn} (h : touchS o x = false) : pushS o x = o ++ [x] := by unfold pushS; rw [h]; rfl
theorem touch_pos {o : List Spn} {x : Spn} (h : touchS o x = true) : 0 < o.length := by
  unfold touchS at h
  rw [Bool.and_eq_true] at h
  have := of_decide_eq_true h.1
  omega
structure EI (A B : List Spn) where
  a : List Spn
  b : List Spn
  o : List Spn
  hb : o.length + a.length + b.length ≤ A.length + B.length
  he : (mergeL a b).foldl pushS o = eitherL A B
theorem either_f : FnOk Try.prog 22 Try.f22 := ⟨Try.func22, by kernel_rfl⟩
theorem either_a (A B : List Spn) (hpre : A.length + B.length ≤ 1000000) : ACalls Try.prog 22 [.sl A.length 6 (flatF 6 (rowsS A)), .sl B.length 6 (flatF 6 (rowsS B))] (.sl (eitherL A B).length 6 (flatF 6 (rowsS (eitherL A B)))) := by
  refine acalls_of (inl := hasI (P := Try.prog) [] []) (base [later_k, earlier_k] [] []) 0 either_f (And.intro (by kernel_rfl) ?_)
  repeat' (first | refine And.intro ?_ ?_ | (with_reducible exact ff_elim) | (with_reducible exact tf_elim) | refine num_elim ?_ | intro _ | (with_reducible rfl) | ((with_reducible refine lk_t ?_); exact rfl) | ((with_reducible refine pf_t ?_); exact rfl) | refine tell ?_ | exact True.intro | (refine IsT.of ?_; kernel_rfl))
  all_goals (try (refine loop_keep [] [] ?_; refine LoopI.mk (EI A B) (fun j => [(0, .sl j.a.length 6 (flatF 6 (rowsS j.a))), (1, .sl j.b.length 6 (flatF 6 (rowsS j.b))), (5, .os 1 6 0 j.o.length)]) (fun j => [(1, .arr (6 * j.o.length) (flatF 6 (rowsS j.o)))]) (fun j => j.a.length + j.b.length) (⟨A, B, [], ?_, rfl⟩) (wk_mk [none] ?_) (fun ⟨a, b, o, hb, he⟩ => ?_)))
  repeat' (first | refine And.intro ?_ ?_ | (with_reducible exact ff_elim) | (with_reducible exact tf_elim) | refine' stp_mk [some _] ((⟨bif firstS a b then a.tail else a, bif firstS a b then b else b.tail, pushS o (bif firstS a b then a.getD 0 spnZ else b.getD 0 spnZ), ?_, ?_⟩ : EI A B)) ?_ ?_ | refine view_flat rfl rfl ?_ | refine view_take (by rfl) rfl ?_ | refine view_drop (by rfl) rfl ?_ | refine view_cell (by rfl) ?_ | refine view_rd (by rfl) rfl ?_ | refine view_rc (by rfl) ?_ | refine view1_c (by rfl) ?_ | refine view1_0 (by rfl) ?_ | refine view_f0 rfl rfl ?_ | refine view1_e (o.length - 1) (last_ix (n := o.length) (by omega)) (by rfl) ?_ | refine view_e (o.length - 1) (last_ix (n := o.length) (by omega)) (by rfl) rfl ?_ | refine num_elim ?_ | intro _ | (with_reducible rfl) | ((with_reducible refine lk_t ?_); exact rfl) | ((with_reducible refine pf_t ?_); exact rfl) | refine tell ?_ | exact True.intro | (refine IsT.of ?_; kernel_rfl))
  all_goals (try refine Tell.mk ?_)
  all_goals (try dsimp only at *)
  all_goals first | with_reducible rfl | with_reducible exact isI_mk | with_reducible assumption | (with_reducible refine gb_t ?_; with_reducible assumption) | (with_reducible refine gb_f ?_; with_reducible assumption) | skip
  all_goals first | (have hp : 0 < a.length + b.length := ei_pos (by with_reducible assumption) (by omega)) | (have hq : eitherL A B = o := ei_end he (by with_reducible assumption) (by omega)) | skip
  all_goals first | exact ei_step he hp | exact ei_hb hp hb | exact ei_mu hp | skip
  all_goals first | (have q1 : firstS a b = true := (by unfold firstS; with_reducible assumption)) | (have q1 : firstS a b = false := (by unfold firstS; with_reducible assumption)) | skip
  all_goals first | (have q2 : touchS o (a.getD 0 spnZ) = true := (by unfold touchS; with_reducible assumption)) | (have q2 : touchS o (a.getD 0 spnZ) = false := (by unfold touchS; with_reducible assumption)) | (have q2 : touchS o (b.getD 0 spnZ) = true := (by unfold touchS; with_reducible assumption)) | (have q2 : touchS o (b.getD 0 spnZ) = false := (by unfold touchS; with_reducible assumption)) | skip
  all_goals (try simp only [size_Span, bytes_Span] at *)
  all_goals first | (rw [hq]; done) | skip
  all_goals first | (have q3 := push_t q2; have q4 := touch_pos q2) | (have q3 := push_f q2) | skip
  all_goals (try simp only [q1, cond_true, cond_false] at *)
  all_goals (try simp only [q3, List.length_append, List.length_dropLast, List.length_tail, List.length_cons, List.length_nil] at *)
  all_goals first | exact set_at q4 (by omega) (by omega) | skip
  all_goals (try simp only [gbT, gbF] at *)
  all_goals (try refine Tell.mk ?_)
  all_goals first | with_reducible rfl | with_reducible exact isI_mk | with_reducible assumption | (with_reducible refine gb_t ?_; with_reducible assumption) | (with_reducible refine gb_f ?_; with_reducible assumption) | ((with_reducible refine lk_t ?_); rfl) | ((with_reducible refine okF_t ?_); kernel_rfl) | ((with_reducible refine ks_t ?_); rfl) | ((with_reducible refine pk_t ?_); rfl) | ((with_reducible refine pf_t ?_); rfl) | skip
  all_goals (try dsimp only at *)
  all_goals (try simp only [decide_eq_true_eq, decide_eq_false_iff_not, Bool.or_eq_true, Bool.or_eq_false_iff, Bool.and_eq_true, Bool.and_eq_false_iff, Bool.not_eq_true', Bool.not_eq_false', bne_iff_ne, ne_eq, beq_iff_eq, bne_eq_false_iff_eq, beq_eq_false_iff_ne, Int.not_lt, Int.not_le, gt_iff_lt, ge_iff_le] at *)
  all_goals (try simp only [mulN1, Nat.add_zero, Nat.zero_add, Nat.mul_one, Int.toNat_natCast, avInt_int] at *)
  all_goals first | with_reducible rfl | with_reducible exact nums_N | omega | ((with_reducible refine by_le 1 rfl ?_); omega) | ((with_reducible refine by_le 8 rfl ?_); omega) | (rw [wrapI (by omega) (by omega)] <;> omega) | skip
  all_goals first | exact push_at' (by omega) | (rw [last_ix (by omega), mulN_eq, size_Cross]; omega) | (rw [last_ix (by omega), mulN_eq]; omega) | (show _ = ((_ : Int) - 1).toNat; omega) | (show 0 + _ + _ ≤ _; omega) | (rw [hq]; done) | rfl | exact tail_at | trace_state
end Go.Proofs.Ytgbcnfcgljbbgaa
/- Spans: what is in one row and not in another. -/
namespace Go.Proofs.Ytgbcnfcgljbbgaa
open Go.RowKit Ev
set_option linter.unusedVariables false
set_option linter.unusedSimpArgs false
set_option maxRecDepth 20000
set_option maxHeartbeats 4000000

/-- Behind a span that is cut out; before it. -/
def behindS (x y : Spn) : Spn := ⟨y.d, y.e, !y.f, x.d, x.e, x.f⟩
def beforeS (x y : Spn) : Spn := ⟨x.a, x.b, x.c, y.a, y.b, !y.c⟩
def finS (x : Spn) : List Spn := bif flt x.a x.d then [x] else []
def skipS (x y : Spn) : Bool := flt y.d x.a || feq y.d x.a
def stopS (x y : Spn) : Bool := fgt y.a x.d || feq y.a x.d
def cutS (x y : Spn) : List Spn := bif flt x.a y.a then [beforeS x y] else []
def lessX (x : Spn) (b : List Spn) : List Spn := match b with
  | [] => finS x
  | y :: b => bif skipS x y then lessX x b else bif stopS x y then finS x else cutS x y ++ lessX (behindS x y) b
def lessL (A B : List Spn) : List Spn := A.flatMap fun x => lessX x B
theorem lessX_len : ∀ (B : List Spn) (x : Spn), (lessX x B).length ≤ B.length + 1
  | [], x => by show (finS x).length ≤ _; unfold finS; cases flt x.a x.d <;> simp
  | y :: b, x => by
    show (bif skipS x y then lessX x b else bif stopS x y then finS x else cutS x y ++ lessX (behindS x y) b).length ≤ _
    have h1 := lessX_len b x
    have h2 := lessX_len b (behindS x y)
    cases skipS x y
    · cases stopS x y
      · simp only [cond_false, List.length_append, List.length_cons]
        unfold cutS; cases flt x.a y.a <;> simp <;> omega
      · simp only [cond_false, cond_true, List.length_cons]
        unfold finS; cases flt x.a x.d <;> simp
    · simp only [cond_true, List.length_cons]; omega
theorem cut_len (x y : Spn) : (cutS x y).length ≤ 1 := by unfold cutS; cases flt x.a y.a <;> simp
theorem fin_len (x : Spn) : (finS x).length ≤ 1 := by unfold finS; cases flt x.a x.d <;> simp
theorem lx_step {o : List Spn} {x : Spn} {B : List Spn} {m : Nat} {R T : List Spn} (h : o ++ (lessX x (B.drop m) ++ R) = T) (hm : m < B.length) (hs : skipS x (B.getD m spnZ) = true ∨ stopS x (B.getD m spnZ) = false) :
    (bif skipS x (B.getD m spnZ) then o else o ++ cutS x (B.getD m spnZ)) ++ (lessX (bif skipS x (B.getD m spnZ) then x else behindS x (B.getD m spnZ)) (B.drop (m + 1)) ++ R) = T := by
  rw [← h, drop_cons hm]
  show _ = o ++ ((bif skipS x (B.getD m spnZ) then lessX x (B.drop (m + 1)) else bif stopS x (B.getD m spnZ) then finS x else cutS x (B.getD m spnZ) ++ lessX (behindS x (B.getD m spnZ)) (B.drop (m + 1))) ++ R)
  cases h1 : skipS x (B.getD m spnZ)
  · rw [h1] at hs
    have h2 := hs.resolve_left (by decide)
    rw [h2]; simp only [cond_false, List.append_assoc]
  · rfl
theorem lx_stop {o : List Spn} {x : Spn} {B : List Spn} {m : Nat} {R T : List Spn} (h : o ++ (lessX x (B.drop m) ++ R) = T) (hm : m < B.length) (h1 : skipS x (B.getD m spnZ) = false) (h2 : stopS x (B.getD m spnZ) = true) : o ++ finS x ++ R = T := by
  rw [← h, drop_cons hm]
  show _ = o ++ ((bif skipS x (B.getD m spnZ) then lessX x (B.drop (m + 1)) else bif stopS x (B.getD m spnZ) then finS x else cutS x (B.getD m spnZ) ++ lessX (behindS x (B.getD m spnZ)) (B.drop (m + 1))) ++ R)
  rw [h1, h2]; simp only [cond_false, cond_true, List.append_assoc]
theorem lx_end {o : List Spn} {x : Spn} {B : List Spn} {m : Nat} {R T : List Spn} (h : o ++ (lessX x (B.drop m) ++ R) = T) (hm : B.length ≤ m) : o ++ finS x ++ R = T := by
  rw [← h, List.drop_eq_nil_of_le hm, List.append_assoc]; rfl
theorem lx_start {o A B T : List Spn} {i : Nat} (h : o ++ (A.drop i).flatMap (fun x => lessX x B) = T) (hi : i < A.length) : o ++ (lessX (A.getD i spnZ) (B.drop 0) ++ (A.drop (i + 1)).flatMap (fun x => lessX x B)) = T := by
  rw [← h, drop_cons hi]; rfl
theorem hl_step {o : List Spn} {x y : Spn} {K m : Nat} {q : Bool} (h : o.length ≤ K + m) : (bif q then o else o ++ cutS x y).length ≤ K + (m + 1) := by
  have := cut_len x y
  cases q
  · simp only [cond_false, List.length_append]; omega
  · simp only [cond_true]; omega
theorem hl_fin {o : List Spn} {x : Spn} {i b m : Nat} (h : o.length ≤ i * (b + 1) + m) (hm : m ≤ b) : (o ++ finS x).length ≤ (i + 1) * (b + 1) := by
  have := fin_len x
  rw [Nat.succ_mul, List.length_append]; omega
theorem lt_of {i n : Nat} (h : decide ((i : Int) < (n : Int)) = true) : i < n := by have := of_decide_eq_true h; omega
theorem ge_of {i n : Nat} (h : decide ((i : Int) < (n : Int)) = false) : n ≤ i := by have := of_decide_eq_false h; omega
theorem bd_i {i n : Nat} (B : List Spn) (h : i < n) : i * (B.length + 1) + (B.length + 1) ≤ n * (B.length + 1) := by
  have := Nat.mul_le_mul_right (B.length + 1) h
  rwa [Nat.succ_mul] at this
theorem out_end {o A T : List Spn} {f : Spn → List Spn} {i : Nat} (h : o ++ (A.drop i).flatMap f = T) (hi : A.length ≤ i) : T = o := by
  rw [← h, List.drop_eq_nil_of_le hi]; simp
structure LO (A B : List Spn) where
  i : Nat
  o : List Spn
  hi : i ≤ A.length
  hl : o.length ≤ i * (B.length + 1)
  he : o ++ (A.drop i).flatMap (fun x => lessX x B) = lessL A B
structure LI (A B : List Spn) (i : Nat) where
  m : Nat
  x : Spn
  o : List Spn
  hm : m ≤ B.length
  hl : o.length ≤ i * (B.length + 1) + m
  he : o ++ (lessX x (B.drop m) ++ (A.drop (i + 1)).flatMap (fun x => lessX x B)) = lessL A B
theorem lessP_f : FnOk Try.prog 23 Try.f23 := ⟨Try.func23, by kernel_rfl⟩
theorem lessP_a (A B : List Spn) (hpre : A.length * (B.length + 1) ≤ 100000000 ∧ A.length ≤ 1000000 ∧ B.length ≤ 1000000) : ACalls Try.prog 23 [.sl A.length 6 (flatF 6 (rowsS A)), .sl B.length 6 (flatF 6 (rowsS B))] (.sl (lessL A B).length 6 (flatF 6 (rowsS (lessL A B)))) := by
  refine acalls_of (inl := hasI (P := Try.prog) [] []) (base [turnedC_k] [] []) 0 lessP_f (And.intro (by kernel_rfl) ?_)
  repeat' (first | refine And.intro ?_ ?_ | (with_reducible exact ff_elim) | (with_reducible exact tf_elim) | refine num_elim ?_ | intro _ | (with_reducible rfl) | ((with_reducible refine lk_t ?_); exact rfl) | ((with_reducible refine pf_t ?_); exact rfl) | refine tell ?_ | exact True.intro | (refine IsT.of ?_; kernel_rfl))
  all_goals (try (refine loop_keep [1, 10, 11] [] ?_; refine LoopI.mk (LO A B) (fun j => [(12, .int .i64 j.i), (5, .os 1 6 0 j.o.length)]) (fun j => [(1, .arr (6 * j.o.length) (flatF 6 (rowsS j.o)))]) (fun j => A.length - j.i) (⟨0, [], Nat.zero_le _, Nat.zero_le _, rfl⟩) (wk_mk [none] ?_) (fun ⟨i, o, hi, hl, he⟩ => ?_)))
  repeat' (first | refine And.intro ?_ ?_ | (with_reducible exact ff_elim) | (with_reducible exact tf_elim) | refine' stp_mk [some _] ((⟨i + 1, o, ?_, ?_, ?_⟩ : LO A B)) ?_ ?_ | refine view_flat rfl rfl ?_ | refine view_take (by rfl) rfl ?_ | refine view_drop (by rfl) rfl ?_ | refine view_cell (by rfl) ?_ | refine view_rd (by rfl) rfl ?_ | refine view_rc (by rfl) ?_ | refine view1_c (by rfl) ?_ | refine view1_0 (by rfl) ?_ | refine view_f0 rfl rfl ?_ | refine num_elim ?_ | intro _ | (with_reducible rfl) | ((with_reducible refine lk_t ?_); exact rfl) | ((with_reducible refine pf_t ?_); exact rfl) | refine tell ?_ | exact True.intro | (refine IsT.of ?_; kernel_rfl))
  all_goals (try (refine loop_keep [1, 10, 11, 12, 16, 17, 7] [] ?_; refine LoopI.mk (LI A B i) (fun j => [(18, .int .i64 j.m), (5, .os 1 6 0 j.o.length)]) (fun j => [(1, .arr (6 * j.o.length) (flatF 6 (rowsS j.o))), (8, .row [.flt j.x.a, .int .i64 j.x.b, .bool j.x.c, .flt j.x.d, .int .i64 j.x.e, .bool j.x.f])]) (fun j => B.length - j.m) (⟨0, A.getD i spnZ, o, Nat.zero_le _, ?_, ?_⟩) (wk_mk [some 1, some 8] ?_) (fun ⟨m, x, o', hm, hl', he'⟩ => ?_)))
  repeat' (first | refine And.intro ?_ ?_ | (with_reducible exact ff_elim) | (with_reducible exact tf_elim) | refine' stp_mk [some _, some 8] ((⟨m + 1, bif skipS x (B.getD m spnZ) then x else behindS x (B.getD m spnZ), bif skipS x (B.getD m spnZ) then o' else o' ++ cutS x (B.getD m spnZ), ?_, ?_, ?_⟩ : LI A B i)) ?_ ?_ | refine view_flat rfl rfl ?_ | refine view_take (by rfl) rfl ?_ | refine view_drop (by rfl) rfl ?_ | refine view_cell (by rfl) ?_ | refine view_rd (by rfl) rfl ?_ | refine view_rc (by rfl) ?_ | refine view1_c (by rfl) ?_ | refine view1_0 (by rfl) ?_ | refine view_f0 rfl rfl ?_ | refine' stp_mk [some _] (⟨i + 1, o' ++ finS x, ?_, ?_, ?_⟩ : LO A B) ?_ ?_ | refine num_elim ?_ | intro _ | (with_reducible rfl) | ((with_reducible refine lk_t ?_); exact rfl) | ((with_reducible refine pf_t ?_); exact rfl) | refine tell ?_ | exact True.intro | (refine IsT.of ?_; kernel_rfl))
  all_goals (try refine Tell.mk ?_)
  all_goals (try dsimp only at *)
  all_goals obtain ⟨hp1, hp2, hp3⟩ := hpre
  all_goals first | with_reducible rfl | with_reducible exact isI_mk | with_reducible assumption | (with_reducible refine gb_t ?_; with_reducible assumption) | (with_reducible refine gb_f ?_; with_reducible assumption) | skip
  all_goals first | (have hiA : i < A.length := lt_of (by with_reducible assumption); have b1 := bd_i B hiA) | (have eo : lessL A B = o := out_end he (ge_of (by with_reducible assumption))) | skip
  all_goals first | (have hmB : m < B.length := lt_of (by with_reducible assumption)) | (have hmE : B.length ≤ m := ge_of (by with_reducible assumption)) | skip
  all_goals first | (have q1 : skipS x (B.getD m spnZ) = true := (by unfold skipS; with_reducible assumption)) | (have q1 : skipS x (B.getD m spnZ) = false := (by unfold skipS; with_reducible assumption)) | skip
  all_goals first | (have q2 : stopS x (B.getD m spnZ) = true := (by unfold stopS; with_reducible assumption)) | (have q2 : stopS x (B.getD m spnZ) = false := (by unfold stopS; with_reducible assumption)) | skip
  all_goals first | exact lx_step he' hmB (.inl q1) | exact lx_step he' hmB (.inr q2) | exact lx_stop he' hmB q1 q2 | exact lx_end he' hmE | exact lx_start he hiA | exact hl_step hl' | exact hl_fin hl' hm | skip
  all_goals first | (have q3 : cutS x (B.getD m spnZ) = [beforeS x (B.getD m spnZ)] := (by unfold cutS; rw [show flt x.a (B.getD m spnZ).a = true from (by with_reducible assumption)]; rfl)) | (have q3 : cutS x (B.getD m spnZ) = [] := (by unfold cutS; rw [show flt x.a (B.getD m spnZ).a = false from (by with_reducible assumption)]; rfl)) | skip
  all_goals first | (have q4 : finS x = [x] := (by unfold finS; rw [show flt x.a x.d = true from (by with_reducible assumption)]; rfl)) | (have q4 : finS x = [] := (by unfold finS; rw [show flt x.a x.d = false from (by with_reducible assumption)]; rfl)) | skip
  all_goals (try simp only [size_Span, bytes_Span] at *)
  all_goals (try simp only [q1, cond_true, cond_false] at *)
  all_goals (try simp only [q3, List.append_nil] at *)
  all_goals (try simp only [q4, List.append_nil] at *)
  all_goals (try simp only [List.length_append, List.length_cons, List.length_nil] at *)
  all_goals first | (rw [eo]; done) | (show (lessL A B).length = _; rw [eo]) | skip
  all_goals (try refine Tell.mk ?_)
  all_goals first | with_reducible rfl | with_reducible exact isI_mk | with_reducible assumption | (with_reducible refine gb_t ?_; with_reducible assumption) | (with_reducible refine gb_f ?_; with_reducible assumption) | ((with_reducible refine lk_t ?_); rfl) | ((with_reducible refine okF_t ?_); kernel_rfl) | ((with_reducible refine ks_t ?_); rfl) | ((with_reducible refine pk_t ?_); rfl) | ((with_reducible refine pf_t ?_); rfl) | skip
  all_goals (try dsimp only at *)
  all_goals (try simp only [decide_eq_true_eq, decide_eq_false_iff_not, Bool.or_eq_true, Bool.or_eq_false_iff, Bool.and_eq_true, Bool.and_eq_false_iff, Bool.not_eq_true', Bool.not_eq_false', bne_iff_ne, ne_eq, beq_iff_eq, bne_eq_false_iff_eq, beq_eq_false_iff_ne, Int.not_lt, Int.not_le, gt_iff_lt, ge_iff_le] at *)
  all_goals (try simp only [mulN1, Nat.add_zero, Nat.zero_add, Nat.mul_one, Int.toNat_natCast, avInt_int] at *)
  all_goals first | with_reducible rfl | with_reducible exact nums_N | omega | ((with_reducible refine by_le 1 rfl ?_); omega) | ((with_reducible refine by_le 8 rfl ?_); omega) | (rw [wrapI (by omega) (by omega)] <;> omega) | skip
  all_goals first | exact push_at' (by omega) | (rw [wrapI (by omega) (by omega)]; rfl) | rfl | (rw [eo]; done) | trace_state
end Go.Proofs.Ytgbcnfcgljbbgaa
/- Spans, as the document combines them. -/
namespace Go.Proofs.Ytgbcnfcgljbbgaa
open Go.RowKit Ev
set_option linter.unusedVariables false
set_option linter.unusedSimpArgs false
set_option maxRecDepth 20000
set_option maxHeartbeats 4000000

def firstJ (A B : List Spn) (i k : Nat) : Bool := ((k : Int) == (B.length : Int)) || (decide ((i : Int) < (A.length : Int)) && (flt (A.getD i spnZ).a (B.getD k spnZ).a || feq (A.getD i spnZ).a (B.getD k spnZ).a))
theorem getD_drop (A : List Spn) (i : Nat) : (A.drop i).getD 0 spnZ = A.getD i spnZ := by simp [List.getD]
theorem tail_drop (A : List Spn) (i : Nat) : (A.drop i).tail = A.drop (i + 1) := by simp
theorem firstJ_eq {A B : List Spn} {i k : Nat} (hi : i ≤ A.length) (hk : k ≤ B.length) : firstS (A.drop i) (B.drop k) = firstJ A B i k := by
  unfold firstS firstJ
  rw [getD_drop, getD_drop]
  congr 1
  · rw [Bool.eq_iff_iff, beq_iff_eq, beq_iff_eq, List.length_drop]; omega
  · congr 1
    rw [Bool.eq_iff_iff, decide_eq_true_eq, decide_eq_true_eq, List.length_drop]; omega
structure JI (A B : List Spn) where
  i : Nat
  k : Nat
  o : List Spn
  hi : i ≤ A.length
  hk : k ≤ B.length
  hb : o.length = i + k
  he : o ++ mergeL (A.drop i) (B.drop k) = mergeL A B
theorem j_step {A B o : List Spn} {i k : Nat} (hi : i ≤ A.length) (hk : k ≤ B.length) (he : o ++ mergeL (A.drop i) (B.drop k) = mergeL A B) (h : i < A.length ∨ k < B.length) :
    (o ++ [bif firstJ A B i k then A.getD i spnZ else B.getD k spnZ]) ++ mergeL (A.drop (bif firstJ A B i k then i + 1 else i)) (B.drop (bif firstJ A B i k then k else k + 1)) = mergeL A B := by
  have e := merge_step (a := A.drop i) (b := B.drop k) (by rw [List.length_drop, List.length_drop]; omega)
  rw [firstJ_eq hi hk, getD_drop, getD_drop, tail_drop, tail_drop] at e
  rw [← he, e]
  cases firstJ A B i k <;> simp
theorem j_i {A B : List Spn} {i k : Nat} (hi : i ≤ A.length) (hk : k ≤ B.length) (h : i < A.length ∨ k < B.length) : (bif firstJ A B i k then i + 1 else i) ≤ A.length ∧ (bif firstJ A B i k then k else k + 1) ≤ B.length := by
  have e := firstJ_eq hi hk
  cases hf : firstJ A B i k with
  | true => have := first_pos (by rw [List.length_drop, List.length_drop]; omega) (e.trans hf); rw [List.length_drop] at this; simp only [cond_true]; omega
  | false => have := first_neg (e.trans hf); rw [List.length_drop] at this; simp only [cond_false]; omega
theorem j_end {A B o : List Spn} {i k : Nat} (he : o ++ mergeL (A.drop i) (B.drop k) = mergeL A B) (h : A.length ≤ i ∧ B.length ≤ k) : mergeL A B = o := by
  rw [← he, merge_nil (by rw [List.length_drop, List.length_drop]; omega), List.append_nil]
/-- A span more, as the document has it. -/
def newR (o : List Spn) (x : Spn) : Bool := ((o.length : Int) == 0) || fgt x.a (o.getD (o.length - 1) spnZ).d
def longR (o : List Spn) (x : Spn) : Bool := fgt x.d (o.getD (o.length - 1) spnZ).d
def longS (l x : Spn) : Spn := ⟨l.a, l.b, l.c, x.d, x.e, x.f⟩
def pushR (o : List Spn) (x : Spn) : List Spn := bif newR o x then o ++ [x] else bif longR o x then o.dropLast ++ [longS (lastS o) x] else o
theorem pushR_len (o : List Spn) (x : Spn) : (pushR o x).length ≤ o.length + 1 := by
  unfold pushR; cases newR o x <;> cases longR o x <;> simp <;> omega
theorem newR_pos {o : List Spn} {x : Spn} (h : newR o x = false) : 0 < o.length := by
  unfold newR at h
  rw [Bool.or_eq_false_iff] at h
  have := h.1
  simp at this
  cases o
  · exact absurd rfl this
  · simp
theorem set_atL {o : List Spn} {x : Spn} {j : Nat} (h : 0 < o.length) (hN : o.length ≤ 1000000) (hj : j < 6 * o.length) :
    flatF 6 (rowsS (o.dropLast ++ [longS (lastS o) x])) j = setA (0 + mulN (IntKind.i64.wrap ((o.length : Int) - 1)).toNat 6 + 3) [AV.flt x.d, .int .i64 x.e, .bool x.f] (flatF 6 (rowsS o)) j := by
  have hd : (o.dropLast).length = o.length - 1 := List.length_dropLast
  have eR : rowsS (o.dropLast ++ [longS (lastS o) x]) (o.length - 1) = (longS (lastS o) x).row := by rw [← hd]; exact rowsS_r
  have eL : rowsS o (o.length - 1) = (lastS o).row := rfl
  rw [last_ix hN, mulN_eq, Nat.zero_add]
  unfold setA
  by_cases c : j / 6 < o.length - 1
  · rw [if_neg (by omega)]
    unfold flatF
    rw [rowsS_dl c]
  · have e : j = (o.length - 1) * 6 + (j - (o.length - 1) * 6) := by omega
    have hc : j - (o.length - 1) * 6 < 6 := by omega
    rw [flat_row (i := o.length - 1) hc e, eR]
    split
    · rename_i h3
      have h3 := h3.1
      obtain ⟨r, hr⟩ : ∃ r, j - (o.length - 1) * 6 = r + 3 := ⟨j - (o.length - 1) * 6 - 3, by omega⟩
      rw [show j - ((o.length - 1) * 6 + 3) = r by omega, hr]
      rfl
    · rename_i h3
      simp only [List.length_cons, List.length_nil] at h3
      rw [flat_row (i := o.length - 1) hc e, eL]
      have : j - (o.length - 1) * 6 < 3 := by omega
      generalize j - (o.length - 1) * 6 = r at this
      rcases r with _ | _ | _ | r
      · rfl
      · rfl
      · rfl
      · omega
theorem view_1e {nm : Bool} {sz p c : Nat} {row : Nat → List AV} {e : Int} {K : AV → Prop} (i : Nat) (he : e.toNat = i) (hc : Nat.blt (p + c) sz = true) (h : nameE nm ((row i).getD (p + c) .any) K) : nameE nm (flatF sz row (0 + mulN e.toNat sz + p + c)) K := by
  rw [he, mulN_eq, Nat.zero_add, Nat.add_assoc, flat_at (Nat.le_of_ble_eq_true hc)]; exact h
def eitherR (A B : List Spn) : List Spn := (mergeL A B).foldl pushR []
structure RI (C : List Spn) where
  i : Nat
  o : List Spn
  hi : i ≤ C.length
  hb : o.length ≤ i
  he : (C.drop i).foldl pushR o = C.foldl pushR []
theorem r_step {C o : List Spn} {i : Nat} (he : (C.drop i).foldl pushR o = C.foldl pushR []) (h : i < C.length) : (C.drop (i + 1)).foldl pushR (pushR o (C.getD i spnZ)) = C.foldl pushR [] := by
  rw [← he, drop_cons h]; rfl
theorem r_end {C o : List Spn} {i : Nat} (he : (C.drop i).foldl pushR o = C.foldl pushR []) (h : C.length ≤ i) : C.foldl pushR [] = o := by
  rw [← he, List.drop_eq_nil_of_le h]; rfl
theorem r_hb {o : List Spn} {x : Spn} {i : Nat} (h : o.length ≤ i) : (pushR o x).length ≤ i + 1 := by have := pushR_len o x; omega
theorem merge_len : ∀ (n : Nat) (A B : List Spn), A.length + B.length = n → (mergeL A B).length = n
  | 0, A, B, h => by rw [merge_nil (by omega)]; rfl
  | n + 1, A, B, h => by
    rw [merge_step (by omega)]
    cases hf : firstS A B with
    | true =>
      have := first_pos (by omega) hf
      simp only [cond_true, List.length_cons]
      rw [merge_len n A.tail B (by rw [List.length_tail]; omega)]
    | false =>
      have := first_neg hf
      simp only [cond_false, List.length_cons]
      rw [merge_len n A B.tail (by rw [List.length_tail]; omega)]
end Go.Proofs.Ytgbcnfcgljbbgaa
/- Spans, as the document combines them: what both have, and what is cut out. -/
namespace Go.Proofs.Ytgbcnfcgljbbgaa
open Go.RowKit Ev
set_option linter.unusedVariables false
set_option linter.unusedSimpArgs false
set_option maxRecDepth 20000
set_option maxHeartbeats 4000000

def pairsL (A B : List Spn) : List Spn := A.flatMap fun x => B.flatMap fun y => interL x y
theorem inter_len (x y : Spn) : (interL x y).length ≤ 1 := by unfold interL; cases flt (interS x y).a (interS x y).d <;> simp
structure PO (A B : List Spn) where
  i : Nat
  o : List Spn
  hi : i ≤ A.length
  hl : o.length ≤ i * B.length
  he : o ++ (A.drop i).flatMap (fun x => B.flatMap fun y => interL x y) = pairsL A B
structure PI (A B : List Spn) (i : Nat) where
  k : Nat
  o : List Spn
  hk : k ≤ B.length
  hl : o.length ≤ i * B.length + k
  he : o ++ ((B.drop k).flatMap (fun y => interL (A.getD i spnZ) y) ++ (A.drop (i + 1)).flatMap (fun x => B.flatMap fun y => interL x y)) = pairsL A B
theorem p_start {A B o T : List Spn} {i : Nat} (h : o ++ (A.drop i).flatMap (fun x => B.flatMap fun y => interL x y) = T) (hi : i < A.length) :
    o ++ ((B.drop 0).flatMap (fun y => interL (A.getD i spnZ) y) ++ (A.drop (i + 1)).flatMap (fun x => B.flatMap fun y => interL x y)) = T := by
  rw [← h, drop_cons hi]; rfl
theorem p_step {B o R T : List Spn} {x : Spn} {k : Nat} (h : o ++ ((B.drop k).flatMap (fun y => interL x y) ++ R) = T) (hk : k < B.length) : (o ++ interL x (B.getD k spnZ)) ++ ((B.drop (k + 1)).flatMap (fun y => interL x y) ++ R) = T := by
  rw [← h, drop_cons hk, List.flatMap_cons]; simp only [List.append_assoc]
theorem p_end {B o R T : List Spn} {x : Spn} {k : Nat} (h : o ++ ((B.drop k).flatMap (fun y => interL x y) ++ R) = T) (hk : B.length ≤ k) : o ++ R = T := by
  rw [← h, List.drop_eq_nil_of_le hk]; rfl
theorem p_hl {o : List Spn} {x y : Spn} {K k : Nat} (h : o.length ≤ K + k) : (o ++ interL x y).length ≤ K + (k + 1) := by
  have := inter_len x y
  rw [List.length_append]; omega
theorem p_fin {o : List Spn} {i b k : Nat} (h : o.length ≤ i * b + k) (hk : k ≤ b) : o.length ≤ (i + 1) * b := by rw [Nat.succ_mul]; omega
theorem bd_p {i n : Nat} (b : Nat) (h : i < n) : i * b + b ≤ n * b := by
  have := Nat.mul_le_mul_right b h
  rwa [Nat.succ_mul] at this
end Go.Proofs.Ytgbcnfcgljbbgaa
/- Spans, as the document combines them: what is cut out. -/
namespace Go.Proofs.Ytgbcnfcgljbbgaa
open Go.RowKit Ev
set_option linter.unusedVariables false
set_option linter.unusedSimpArgs false
set_option maxRecDepth 20000
set_option maxHeartbeats 4000000

/-- What is left of a span. -/
def tailS (x y : Spn) : List Spn := bif flt y.d x.d then [behindS x y] else []
def fcutS (y x : Spn) : List Spn := bif skipS x y || stopS x y then [x] else cutS x y ++ tailS x y
def ncutS (x : Spn) (B : List Spn) (i : Nat) : List Spn := (B.take i).foldl (fun l y => l.flatMap (fcutS y)) [x]
theorem ncutS_step {x : Spn} {B : List Spn} {i : Nat} (h : i < B.length) : ncutS x B (i + 1) = (ncutS x B i).flatMap (fcutS (B.getD i spnZ)) := by
  unfold ncutS
  rw [List.take_succ_eq_append_getElem h, List.foldl_append]
  simp [List.getD, h]
def cutL (x : Spn) (B : List Spn) : List Spn := ncutS x B B.length
theorem view_o {nm : Bool} {sz sz' : Nat} {row : Nat → List AV} {i : Nat} {K : AV → Prop} (hs : sz' = sz) (hl : (row i).length = sz) (h : nameE nm (.agg (row i)) K) :
    nameE nm (.agg (List.map (fun j => flatF sz row (0 + mulN (i : Int).toNat sz + j)) (List.range sz'))) K := by
  have := view_flat hs hl h
  simp only [Nat.zero_add] at *
  exact this
theorem push_at2 {o : List Spn} {y z : Spn} {j : Nat} (hj : j < 6 * (o.length + 1 + 1)) : flatF 6 (rowsS (o ++ [y, z])) j = catA ((o.length + 1) * 6) (catA (o.length * 6) (flatF 6 (rowsS o)) (fun j => y.row.getD j .any)) (fun j => z.row.getD j .any) j := by
  have e : o ++ [y, z] = (o ++ [y]) ++ [z] := by simp
  have hl : (o ++ [y]).length = o.length + 1 := by simp
  rw [e, push_at' (by rw [hl]; exact hj), hl]
  unfold catA
  split
  · rename_i h
    rw [push_at' (by omega)]; rfl
  · rfl
structure CO (B : List Spn) where
  i : Nat
  hi : i ≤ B.length
structure CI (x : Spn) (B : List Spn) (i : Nat) where
  k : Nat
  o : List Spn
  hk : k ≤ (ncutS x B i).length
  he : o ++ ((ncutS x B i).drop k).flatMap (fcutS (B.getD i spnZ)) = ncutS x B (i + 1)
theorem c_step {x : Spn} {B o : List Spn} {i k : Nat} (he : o ++ ((ncutS x B i).drop k).flatMap (fcutS (B.getD i spnZ)) = ncutS x B (i + 1)) (hk : k < (ncutS x B i).length) :
    (o ++ fcutS (B.getD i spnZ) ((ncutS x B i).getD k spnZ)) ++ ((ncutS x B i).drop (k + 1)).flatMap (fcutS (B.getD i spnZ)) = ncutS x B (i + 1) := by
  rw [← he, drop_cons hk, List.flatMap_cons]; simp only [List.append_assoc]
theorem c_end {x : Spn} {B o : List Spn} {i k : Nat} (he : o ++ ((ncutS x B i).drop k).flatMap (fcutS (B.getD i spnZ)) = ncutS x B (i + 1)) (hk : (ncutS x B i).length ≤ k) : ncutS x B (i + 1) = o := by
  rw [← he, List.drop_eq_nil_of_le hk]; simp
theorem c_len {x : Spn} {B o R : List Spn} {i : Nat} (he : o ++ R = ncutS x B (i + 1)) : o.length ≤ (ncutS x B (i + 1)).length := by
  rw [← he, List.length_append]; omega
theorem one_row {x : Spn} {B : List Spn} : ncutS x B 0 = [x] := by unfold ncutS; rfl
theorem row_one {x : Spn} {j : Nat} (h : j < 6) : flatF 6 (rowsS [x]) j = x.row.getD j .any := by
  rw [flat_row (i := 0) (c := j) h (by omega)]; rfl
def cutAll (A B : List Spn) : List Spn := A.flatMap fun x => cutL x B
structure C3 (A B : List Spn) where
  i : Nat
  o : List Spn
  hi : i ≤ A.length
  he : o ++ (A.drop i).flatMap (fun x => cutL x B) = cutAll A B
theorem c3_step {A B o : List Spn} {i : Nat} (he : o ++ (A.drop i).flatMap (fun x => cutL x B) = cutAll A B) (hi : i < A.length) : (o ++ cutL (A.getD i spnZ) B) ++ (A.drop (i + 1)).flatMap (fun x => cutL x B) = cutAll A B := by
  rw [← he, drop_cons hi, List.flatMap_cons]; simp only [List.append_assoc]
theorem c3_len {T o R : List Spn} (he : o ++ R = T) : o.length ≤ T.length := by rw [← he, List.length_append]; omega
theorem app_at {o r : List Spn} {j : Nat} (hj : j < 6 * (o.length + r.length)) : flatF 6 (rowsS (o ++ r)) j = catA (o.length * 6) (flatF 6 (rowsS o)) (flatF 6 (rowsS r)) j := by
  unfold catA
  split
  · rename_i h
    unfold flatF rowsS
    have : j / 6 < o.length := by omega
    simp [List.getD, List.getElem?_append_left this]
  · rename_i h
    unfold flatF rowsS
    rw [show j / 6 = o.length + (j - o.length * 6) / 6 by omega, show j % 6 = (j - o.length * 6) % 6 by omega]
    simp [List.getD, List.getElem?_append_right]
def natOf (v : AV) : Nat := match v with | .flt x => x | _ => 0
def intOf (v : AV) : Int := match v with | .int _ n => n | _ => 0
def boolOf (v : AV) : Bool := match v with | .bool b => b | _ => false
def spnOf (l : List AV) : Spn := ⟨natOf (l.getD 0 .any), intOf (l.getD 1 .any), boolOf (l.getD 2 .any), natOf (l.getD 3 .any), intOf (l.getD 4 .any), boolOf (l.getD 5 .any)⟩
theorem spnOf_row (x : Spn) : spnOf x.row = x := rfl
/-- A row of spans out of its cells. -/
def unS (n : Nat) (g : Nat → AV) : List Spn := (List.range n).map fun i => ⟨natOf (g (i * 6)), intOf (g (i * 6 + 1)), boolOf (g (i * 6 + 2)), natOf (g (i * 6 + 3)), intOf (g (i * 6 + 4)), boolOf (g (i * 6 + 5))⟩
theorem unS_rows (L : List Spn) : unS L.length (flatF 6 (rowsS L)) = L := by
  unfold unS
  apply List.ext_getElem
  · simp
  · intro i h1 h2
    have e : ∀ c, c < 6 → flatF 6 (rowsS L) (i * 6 + c) = (L[i]).row.getD c .any := fun c hc => by
      rw [flat_at hc]; unfold rowsS; simp [List.getD, h2]
    simp only [List.getElem_map, List.getElem_range]
    rw [show flatF 6 (rowsS L) (i * 6) = (L[i]).row.getD 0 .any from e 0 (by decide), e 1 (by decide), e 2 (by decide), e 3 (by decide), e 4 (by decide), e 5 (by decide)]
    rfl
theorem unS_len (n : Nat) (g : Nat → AV) : (unS n g).length = n := by unfold unS; simp
theorem acalls_agr {P : Program} {f : FuncId} {args args' : List AV} {r : AV} (h : ACalls P f args' r) (ha : agrL1 (fun _ => none) args' args) : ACalls P f args r :=
  fun w Im vals hIm ht => h w Im vals hIm (agrL1_two (f := fun _ => none) ha ht)
end Go.Proofs.Ytgbcnfcgljbbgaa
/- Floats as whole numbers of least parts: their order, and what is exact. -/
namespace Go.Proofs.Ytgbcnfcgljbbgaa
open Go.RowKit Ev Ieee
set_option linter.unusedVariables false
set_option linter.unusedSimpArgs false
namespace Flt
theorem log2_shl (n k : Nat) (h : n ≠ 0) : (n <<< k).log2 = n.log2 + k := by
  induction k with
  | zero => simp
  | succ k ih =>
    have e : n <<< (k + 1) = 2 * (n <<< k) := by rw [Nat.shiftLeft_eq, Nat.shiftLeft_eq, Nat.pow_succ, ← Nat.mul_assoc, Nat.mul_comm]
    have h' : n <<< k ≠ 0 := by rw [Nat.shiftLeft_eq]; exact Nat.mul_ne_zero h (by have := Nat.two_pow_pos k; omega)
    rw [e, Nat.log2_two_mul h', ih]; omega
theorem cut_shift (neg : Bool) (n drop k : Nat) (hn : n ≠ 0) : Toward.even.cut neg (n <<< k) (drop + k) = Toward.even.cut neg n drop := by
  have hl := log2_shl n k hn
  unfold Toward.cut
  have hg : min (drop + k) ((n <<< k).log2 + 2) = min drop (n.log2 + 2) + k := by omega
  simp only [hg]
  generalize min drop (n.log2 + 2) = g
  have e : 1 <<< (g + k) = (1 <<< g) * 2 ^ k := by simp [Nat.shiftLeft_eq, Nat.pow_add]
  rw [e, Nat.shiftLeft_eq n k, Nat.mul_div_mul_right _ _ (Nat.two_pow_pos k), Nat.mul_mod_mul_right]
  have p := Nat.two_pow_pos k
  generalize 1 <<< g = G
  have c1 : (G * 2 ^ k < 2 * (n % G * 2 ^ k)) = (G < 2 * (n % G)) := by rw [← Nat.mul_assoc]; exact propext (Nat.mul_lt_mul_right p)
  have c2 : (G * 2 ^ k == 2 * (n % G * 2 ^ k)) = (G == 2 * (n % G)) := by
    rw [← Nat.mul_assoc]
    rw [Bool.eq_iff_iff, beq_iff_eq, beq_iff_eq]
    exact ⟨fun h => Nat.eq_of_mul_eq_mul_right p h, fun h => congrArg (· * 2 ^ k) h⟩
  simp only [c1, c2]

theorem near_shift (f : Format) (neg : Bool) (m k : Nat) (place : Int) : f.nearest neg (m <<< k) place = f.nearest neg m (place + k) := by
  rcases Nat.eq_zero_or_pos m with rfl | h0
  · simp [Format.nearest]
  have hn : m ≠ 0 := by omega
  have hs : m <<< k ≠ 0 := by rw [Nat.shiftLeft_eq]; exact Nat.mul_ne_zero hn (by have := Nat.two_pow_pos k; omega)
  have hl := log2_shl m k hn
  unfold Format.nearest
  rw [if_neg hn, if_neg hs, hl]
  have e : place + ((m.log2 + k : Nat) : Int) - f.fractionBits = place + (k : Int) + (m.log2 : Int) - f.fractionBits := by omega
  rw [e]
  generalize max (place + (k : Int) + (m.log2 : Int) - f.fractionBits) f.leastPlace = last
  have hc : Toward.even.cut neg ((m <<< k) <<< (place - last).toNat) (last - place).toNat = Toward.even.cut neg (m <<< (place + k - last).toNat) (last - (place + k)).toNat := by
    rw [← Nat.shiftLeft_add]
    by_cases h1 : last ≤ place
    · rw [show (last - place).toNat = 0 by omega, show (last - (place + k)).toNat = 0 by omega, show k + (place - last).toNat = (place + k - last).toNat by omega]
    · by_cases h2 : last ≤ place + k
      · rw [show (place - last).toNat = 0 by omega, show (last - (place + k)).toNat = 0 by omega]
        have : m <<< (k + 0) = (m <<< (place + k - last).toNat) <<< (last - place).toNat := by rw [← Nat.shiftLeft_add]; congr 1; omega
        rw [this]
        have h3 := cut_shift neg (m <<< (place + k - last).toNat) 0 (last - place).toNat (by rw [Nat.shiftLeft_eq]; exact Nat.mul_ne_zero hn (by have := Nat.two_pow_pos (place + k - last).toNat; omega))
        rw [Nat.zero_add] at h3
        exact h3
      · rw [show (place - last).toNat = 0 by omega, show (place + k - last).toNat = 0 by omega]
        have h3 := cut_shift neg m (last - (place + k)).toNat k hn
        rw [show (last - (place + k)).toNat + k = (last - place).toNat by omega] at h3
        exact h3
  simp only [hc]
theorem read_word (s : Bool) (r : Nat) (h : r < 2047 * 4503599627370496) : double.read (double.word s r) = if r < 4503599627370496 then .number s r (-1074) else .number s (4503599627370496 + r % 4503599627370496) (-1074 + (r / 4503599627370496 - 1 : Nat)) := by
  have w : double.signWeight = 9223372036854775808 := by decide +kernel
  have b : double.binade = 4503599627370496 := by decide +kernel
  have f : double.infRung = 2047 * 4503599627370496 := by decide +kernel
  have l : double.leastPlace = -1074 := by decide +kernel
  unfold Format.read Format.word
  rw [w, b, f, l]
  have e1 : ((if s = true then 9223372036854775808 + r else r) / 9223372036854775808 % 2 == 1) = s := by cases s <;> simp <;> omega
  have e2 : (if s = true then 9223372036854775808 + r else r) % 9223372036854775808 = r := by cases s <;> simp <;> omega
  simp only [e1, e2]
  split
  · rfl
  all_goals first | rfl | (rw [if_pos h])

theorem kept_le (neg : Bool) (m : Nat) (i last : Int) (hm : m ≠ 0) (hl : i + m.log2 - 52 ≤ last) : Toward.even.cut neg (m <<< (i - last).toNat) (last - i).toNat ≤ 9007199254740992 := by
  have h1 := log2_shl m (i - last).toNat hm
  generalize hn : m <<< (i - last).toNat = n at *
  have h2 : n < 2 ^ (n.log2 + 1) := Nat.lt_log2_self
  unfold Toward.cut
  have hg : n.log2 + 1 ≤ 53 + min (last - i).toNat (n.log2 + 2) := by omega
  generalize min (last - i).toNat (n.log2 + 2) = g at hg
  have h3 : n < 2 ^ g * 9007199254740992 := by
    refine Nat.lt_of_lt_of_le h2 ?_
    rw [show (9007199254740992 : Nat) = 2 ^ 53 from rfl, ← Nat.pow_add]
    exact Nat.pow_le_pow_right (by omega) (by omega)
  have h4 : n / 1 <<< g < 9007199254740992 := by
    rw [Nat.shiftLeft_eq, Nat.one_mul]; exact Nat.div_lt_of_lt_mul h3
  have h5 : ∀ b : Bool, b.toNat ≤ 1 := fun b => by cases b <;> decide
  simp only
  exact Nat.le_trans (Nat.add_le_add_left (h5 _) _) (by omega)

theorem nearest_eq (neg : Bool) (m : Nat) (i : Int) (hm : m ≠ 0) : double.nearest neg m i = double.word neg (min ((max (i + m.log2 - 52) (-1074) + 1074).toNat * 4503599627370496 + Toward.even.cut neg (m <<< (i - max (i + m.log2 - 52) (-1074)).toNat) (max (i + m.log2 - 52) (-1074) - i).toNat) (2047 * 4503599627370496)) := by
  have b : double.binade = 4503599627370496 := by decide +kernel
  have f : double.infRung = 2047 * 4503599627370496 := by decide +kernel
  have l : double.leastPlace = -1074 := by decide +kernel
  unfold Format.nearest
  rw [if_neg hm, b, f, l]
  simp only [Int.sub_neg]
  rfl

theorem read_finite (s : Bool) (m : Nat) (i : Int) (h : i + m.log2 ≤ 1000) : ∃ m' p, double.read (double.nearest s m i) = .number s m' p := by
  by_cases hm : m = 0
  · subst hm
    have : double.nearest s 0 i = double.word s 0 := by simp [Format.nearest]
    rw [this, read_word s 0 (by omega), if_pos (by omega)]
    exact ⟨_, _, rfl⟩
  rw [nearest_eq s m i hm]
  have hk := kept_le s m i (max (i + m.log2 - 52) (-1074)) hm (by omega)
  generalize Toward.even.cut s (m <<< (i - max (i + m.log2 - 52) (-1074)).toNat) (max (i + m.log2 - 52) (-1074) - i).toNat = kept at hk
  have hlast : (max (i + m.log2 - 52) (-1074) + 1074).toNat ≤ 2022 := by omega
  generalize (max (i + m.log2 - 52) (-1074) + 1074).toNat = q at hlast
  have hr : q * 4503599627370496 + kept < 2047 * 4503599627370496 := by omega
  rw [Nat.min_eq_left (by omega), read_word s _ hr]
  split <;> exact ⟨_, _, rfl⟩

/-- What a word can bear is written without loss. -/
theorem read_exact (s : Bool) (m : Nat) (i : Int) (hm : m < 9007199254740992) (h0 : -1074 ≤ i) (h1 : i ≤ 900) : ∃ d p, double.read (double.nearest s m i) = .number s (m <<< d) p ∧ p + (d : Int) = i := by
  by_cases h : m = 0
  · subst h
    have : double.nearest s 0 i = double.word s 0 := by simp [Format.nearest]
    rw [this, read_word s 0 (by omega), if_pos (by omega)]
    exact ⟨(i + 1074).toNat, -1074, by simp, by omega⟩
  have hl : m.log2 ≤ 52 := by
    have := (Nat.log2_lt h (k := 53)).2 hm
    omega
  rw [nearest_eq s m i h]
  have hk := kept_le s m i (max (i + m.log2 - 52) (-1074)) h (by omega)
  obtain ⟨last, hlast⟩ : ∃ last, last = max (i + m.log2 - 52) (-1074) := ⟨_, rfl⟩
  rw [← hlast] at hk ⊢
  have z : (last - i).toNat = 0 := by omega
  rw [z] at hk ⊢
  have hc : Toward.even.cut s (m <<< (i - last).toNat) 0 = m <<< (i - last).toNat := by
    unfold Toward.cut
    simp [Nat.mod_one]
  rw [hc] at hk ⊢
  have hsl := log2_shl m (i - last).toNat h
  have hnz : m <<< (i - last).toNat ≠ 0 := by rw [Nat.shiftLeft_eq]; exact Nat.mul_ne_zero h (by have := Nat.two_pow_pos (i - last).toNat; omega)
  have hlt : m <<< (i - last).toNat < 9007199254740992 := by
    have h2 : m <<< (i - last).toNat < 2 ^ ((m <<< (i - last).toNat).log2 + 1) := Nat.lt_log2_self
    refine Nat.lt_of_lt_of_le h2 ?_
    rw [show (9007199254740992 : Nat) = 2 ^ 53 from rfl]
    exact Nat.pow_le_pow_right (by omega) (by omega)
  have hge : last ≠ -1074 → 4503599627370496 ≤ m <<< (i - last).toNat := fun hne => by
    have h2 := Nat.log2_self_le hnz
    refine Nat.le_trans ?_ h2
    rw [show (4503599627370496 : Nat) = 2 ^ 52 from rfl]
    exact Nat.pow_le_pow_right (by omega) (by omega)
  refine ⟨(i - last).toNat, last, ?_, by omega⟩
  generalize m <<< (i - last).toNat = n at *
  have hq : (last + 1074).toNat ≤ 1974 := by omega
  rw [Nat.min_eq_left (by omega), read_word s _ (by omega)]
  by_cases hL : last = -1074
  · rw [hL]
    simp only [show ((-1074 : Int) + 1074).toNat = 0 from rfl, Nat.zero_mul, Nat.zero_add]
    split
    · rfl
    · congr 1
      · omega
      · have : n / 4503599627370496 = 1 := by omega
        rw [this]; rfl
  · have hge' := hge hL
    rw [if_neg (by omega)]
    have hq1 : 1 ≤ (last + 1074).toNat := by omega
    congr 1
    · omega
    · have : ((last + 1074).toNat * 4503599627370496 + n) / 4503599627370496 = (last + 1074).toNat + 1 := by omega
      rw [this]; omega
theorem fop_add_comm (x y : Nat) : fop .add x y = fop .add y x := by
  show ((double.read x).sum (double.read y)).map double.write = ((double.read y).sum (double.read x)).map double.write
  have : ∀ d e : Datum, d.sum e = e.sum d := by
    intro d e
    cases d <;> cases e <;> simp only [Datum.sum]
    case number.number s m i t n j => rw [Int.min_comm i j, Int.add_comm, Bool.and_comm]
    case infinity.infinity s t =>
      by_cases h : s = t
      · subst h; rfl
      · rw [if_neg h, if_neg (Ne.symm h)]
  rw [this]
theorem fop_mul_comm (x y : Nat) : fop .mul x y = fop .mul y x := by
  show ((double.read x).product (double.read y)).map double.write = ((double.read y).product (double.read x)).map double.write
  have : ∀ d e : Datum, d.product e = e.product d := by
    intro d e
    cases d <;> cases e <;> simp only [Datum.product]
    case number.number s m i t n j => rw [Bool.xor_comm s t, Nat.mul_comm, Int.add_comm]
    case infinity.infinity s t => rw [Bool.xor_comm]
  rw [this]
theorem F_add_comm (x y : Nat) : F .add x y = F .add y x := by unfold F; rw [fop_add_comm]
theorem F_mul_comm (x y : Nat) : F .mul x y = F .mul y x := by unfold F; rw [fop_mul_comm]
/-- A number that is near stands for a small number. -/
def Small (x : Nat) : Prop := ∃ s m i, double.read x = .number s m i ∧ m < 9007199254740992 ∧ -1074 ≤ i ∧ i ≤ 900 ∧ i + m.log2 ≤ 40
theorem Small.notN {x : Nat} (h : Small x) : isN x = false := by
  obtain ⟨s, m, i, e, _⟩ := h
  unfold isN; rw [e]; rfl
theorem cn_notN {x : Nat} (h : isN x = false) : cn x = x := by unfold cn; rw [if_neg (by rw [h]; exact Bool.false_ne_true)]
theorem read_form {x : Nat} {s : Bool} {m : Nat} {i : Int} (h : double.read x = .number s m i) : m < 9007199254740992 ∧ -1074 ≤ i ∧ (i ≠ -1074 → 4503599627370496 ≤ m) ∧ i ≤ 900 + 2000 := by
  have w : double.signWeight = 9223372036854775808 := by decide +kernel
  have b : double.binade = 4503599627370496 := by decide +kernel
  have f : double.infRung = 2047 * 4503599627370496 := by decide +kernel
  have l : double.leastPlace = -1074 := by decide +kernel
  unfold Format.read at h
  rw [w, b, f, l] at h
  simp only at h
  split at h
  · simp only [Datum.number.injEq] at h; obtain ⟨-, rfl, rfl⟩ := h; omega
  · split at h
    · simp only [Datum.number.injEq] at h; obtain ⟨-, rfl, rfl⟩ := h; omega
    · split at h <;> cases h
theorem read_1e6 : double.read 4696837146684686336 = .number false 8589934592000000 (-33) := by decide +kernel
theorem read_n1e6 : double.read 13920209183539462144 = .number true 8589934592000000 (-33) := by decide +kernel
theorem near_small {x : Nat} (h : nearB x = true) : Small x := by
  unfold nearB fgt feq flt at h
  simp only [Bool.and_eq_true, Bool.or_eq_true, beq_iff_eq] at h
  obtain ⟨h1, h2⟩ := h
  replace h1 : (double.read x).order (double.read 13920209183539462144) = some .gt ∨ (double.read x).order (double.read 13920209183539462144) = some .eq := h1
  replace h2 : (double.read x).order (double.read 4696837146684686336) = some .lt ∨ (double.read x).order (double.read 4696837146684686336) = some .eq := h2
  rw [read_n1e6] at h1
  rw [read_1e6] at h2
  cases hx : double.read x with
  | nan s t => rw [hx] at h1; simp [Datum.order] at h1
  | infinity s => rw [hx] at h1 h2; cases s <;> simp [Datum.order] at h1 h2
  | number s m i =>
    rw [hx] at h1 h2
    obtain ⟨g1, g2, g3, _⟩ := read_form hx
    refine ⟨s, m, i, hx, g1, g2, ?_⟩
    by_cases hi : i ≤ -33
    · refine ⟨by omega, ?_⟩
      have : m.log2 ≤ 52 := by
        by_cases h : m = 0
        · subst h; decide
        · have := (Nat.log2_lt h (k := 53)).2 g1
          omega
      omega
    · exfalso
      have hm := g3 (by omega)
      simp only [Datum.order, Option.some.injEq] at h1 h2
      rw [Int.compare_eq_gt, Int.compare_eq_eq] at h1
      rw [Int.compare_eq_lt, Int.compare_eq_eq] at h2
      have e : min i (-33) = -33 := by omega
      rw [e] at h1 h2
      have e2 : (i - -33).toNat = (i + 33).toNat := by omega
      have p := Nat.two_pow_pos ((i + 33).toNat - 1)
      have e3 : m <<< (i - -33).toNat = 2 * (m * 2 ^ ((i + 33).toNat - 1)) := by
        rw [e2, Nat.shiftLeft_eq]
        obtain ⟨k, hk⟩ : ∃ k, (i + 33).toNat = k + 1 := ⟨(i + 33).toNat - 1, by omega⟩
        rw [hk, Nat.pow_succ]
        simp [Nat.mul_comm, Nat.mul_left_comm]
      have e4 : 4503599627370496 * 1 ≤ m * 2 ^ ((i + 33).toNat - 1) := Nat.mul_le_mul hm p
      unfold signed at h1 h2
      rw [e3] at h1 h2
      generalize m * 2 ^ ((i + 33).toNat - 1) = M at *
      simp at h1 h2
      cases s <;> simp at h1 h2 <;> omega
theorem fine_small {a b c : Nat} (h : fineB a b c = true) : Small a ∧ Small b ∧ Small c := by
  unfold fineB at h
  simp only [Bool.and_eq_true] at h
  exact ⟨near_small h.1.1, near_small h.1.2, near_small h.2⟩
theorem Small.cn {x : Nat} (h : Small x) : cn x = x := cn_notN h.notN

theorem signed_add (s : Bool) (m a b : Nat) : signed s m (a + b) = signed s m a * (2 ^ b : Nat) := by
  unfold signed
  rw [Nat.shiftLeft_add, Nat.shiftLeft_eq (m <<< a)]
  cases s
  · simp
  · simp [Int.neg_mul]
theorem signed_abs (s : Bool) (m a : Nat) : (signed s m a).natAbs = m <<< a := by
  unfold signed
  cases s
  · exact Int.natAbs_natCast _
  · exact (Int.natAbs_neg _).trans (Int.natAbs_natCast _)
/-- The whole number of least parts that a float is. -/
def V (x : Nat) : Int := match double.read x with | .number s m i => signed s m (i + 1074).toNat | _ => 0
def Fin (x : Nat) : Prop := ∃ s m i, double.read x = .number s m i
theorem V_of {x : Nat} {s : Bool} {m : Nat} {i : Int} (h : double.read x = .number s m i) : V x = signed s m (i + 1074).toNat := by unfold V; rw [h]
theorem Small.fin {x : Nat} (h : Small x) : Fin x := by obtain ⟨s, m, i, e, _⟩ := h; exact ⟨s, m, i, e⟩
theorem Fin.notN {x : Nat} (h : Fin x) : isN x = false := by
  obtain ⟨s, m, i, e⟩ := h
  unfold isN; rw [e]; rfl
theorem compare_scale (a b : Int) {c : Int} (hc : 0 < c) : compare (a * c) (b * c) = compare a b := by
  rcases Int.lt_trichotomy a b with h | h | h
  · rw [Int.compare_eq_lt.2 h, Int.compare_eq_lt]; exact Int.mul_lt_mul_of_pos_right h hc
  · subst h; rw [Int.compare_eq_eq.2 rfl, Int.compare_eq_eq.2 rfl]
  · rw [Int.compare_eq_gt.2 h, Int.compare_eq_gt]; exact Int.mul_lt_mul_of_pos_right h hc
theorem order_V {x y : Nat} (hx : Fin x) (hy : Fin y) : double.order x y = some (compare (V x) (V y)) := by
  obtain ⟨s, m, i, ex⟩ := hx
  obtain ⟨t, n, j, ey⟩ := hy
  obtain ⟨_, i0, _⟩ := read_form ex
  obtain ⟨_, j0, _⟩ := read_form ey
  rw [V_of ex, V_of ey]
  unfold Format.order
  rw [ex, ey]
  simp only [Datum.order, Option.some.injEq]
  generalize hb : min i j = b
  rw [show (i + 1074).toNat = (i - b).toNat + (b + 1074).toNat by omega, show (j + 1074).toNat = (j - b).toNat + (b + 1074).toNat by omega, signed_add, signed_add]
  exact (compare_scale _ _ (by have := Nat.two_pow_pos (b + 1074).toNat; omega)).symm
theorem feq_V {x y : Nat} (hx : Fin x) (hy : Fin y) : feq x y = decide (V x = V y) := by
  have e : FloatKind.f64.format.order x y = some (compare (V x) (V y)) := order_V hx hy
  unfold feq; rw [e]
  rcases Int.lt_trichotomy (V x) (V y) with h | h | h
  · rw [Int.compare_eq_lt.2 h, decide_eq_false (by omega)]; rfl
  · rw [Int.compare_eq_eq.2 h, decide_eq_true h]; rfl
  · rw [Int.compare_eq_gt.2 h, decide_eq_false (by omega)]; rfl
theorem flt_V {x y : Nat} (hx : Fin x) (hy : Fin y) : flt x y = decide (V x < V y) := by
  have e : FloatKind.f64.format.order x y = some (compare (V x) (V y)) := order_V hx hy
  unfold flt; rw [e]
  rcases Int.lt_trichotomy (V x) (V y) with h | h | h
  · rw [Int.compare_eq_lt.2 h, decide_eq_true h]; rfl
  · rw [Int.compare_eq_eq.2 h, decide_eq_false (by omega)]; rfl
  · rw [Int.compare_eq_gt.2 h, decide_eq_false (by omega)]; rfl
theorem F_some {op : BinOp} {x y r : Nat} (h : fop op x y = some r) (hr : isN r = false) : F op x y = r := by
  unfold F; rw [h]; exact cn_notN hr
/-- What is written of a number that a word can bear. -/
theorem nearest_V (s : Bool) {m : Nat} {i : Int} (hm : m < 9007199254740992) (h0 : -1074 ≤ i) (h1 : i ≤ 900) : Fin (double.nearest s m i) ∧ V (double.nearest s m i) = signed s m (i + 1074).toNat := by
  obtain ⟨d, p, e, hp⟩ := read_exact s m i hm h0 h1
  refine ⟨⟨_, _, _, e⟩, ?_⟩
  obtain ⟨_, p0, _⟩ := read_form e
  rw [V_of e]
  unfold signed
  rw [← Nat.shiftLeft_add, show d + (p + 1074).toNat = (i + 1074).toNat by omega]
/-- A small number: its parts are few enough. -/
def Low (x : Nat) : Prop := ∃ s m i, double.read x = .number s m i ∧ i ≤ 900
theorem Low.fin {x : Nat} (h : Low x) : Fin x := by obtain ⟨s, m, i, e, _⟩ := h; exact ⟨s, m, i, e⟩
theorem Small.low {x : Nat} (h : Small x) : Low x := by obtain ⟨s, m, i, e, _, _, h1, _⟩ := h; exact ⟨s, m, i, e, h1⟩
theorem exact_low (s : Bool) {m : Nat} {i : Int} (hm : m < 9007199254740992) (h0 : -1074 ≤ i) (h1 : i ≤ 900) : Low (double.nearest s m i) := by
  obtain ⟨d, p, e, hp⟩ := read_exact s m i hm h0 h1
  exact ⟨_, _, _, e, by omega⟩
theorem mul_one {x : Nat} (h : Low x) : Low (F .mul 4607182418800017408 x) ∧ V (F .mul 4607182418800017408 x) = V x := by
  obtain ⟨s, m, i, e, hi⟩ := h
  obtain ⟨hm, i0, _⟩ := read_form e
  have r1 : double.read 4607182418800017408 = .number false 4503599627370496 (-52) := by decide +kernel
  have ef : fop .mul 4607182418800017408 x = some (double.nearest s m i) := by
    show ((double.read _).product (double.read x)).map double.write = _
    rw [r1, e]
    simp only [Datum.product, Option.map_some, Format.write, Bool.false_xor]
    rw [show 4503599627370496 * m = m <<< 52 by rw [Nat.shiftLeft_eq, Nat.mul_comm], near_shift, show -52 + i + ((52 : Nat) : Int) = i by omega]
  obtain ⟨hf, hv⟩ := nearest_V s hm i0 hi
  rw [F_some ef hf.notN]
  exact ⟨exact_low s hm i0 hi, by rw [hv, V_of e]⟩
theorem signed_not (s : Bool) (m k : Nat) : signed (!s) m k = - signed s m k := by cases s <;> simp [signed]
theorem mul_neg {x : Nat} (h : Low x) : Low (F .mul 13830554455654793216 x) ∧ V (F .mul 13830554455654793216 x) = - V x := by
  obtain ⟨s, m, i, e, hi⟩ := h
  obtain ⟨hm, i0, _⟩ := read_form e
  have r1 : double.read 13830554455654793216 = .number true 4503599627370496 (-52) := by decide +kernel
  have ef : fop .mul 13830554455654793216 x = some (double.nearest (!s) m i) := by
    show ((double.read _).product (double.read x)).map double.write = _
    rw [r1, e]
    simp only [Datum.product, Option.map_some, Format.write, Bool.true_xor]
    rw [show 4503599627370496 * m = m <<< 52 by rw [Nat.shiftLeft_eq, Nat.mul_comm], near_shift, show -52 + i + ((52 : Nat) : Int) = i by omega]
  obtain ⟨hf, hv⟩ := nearest_V (!s) hm i0 hi
  rw [F_some ef hf.notN]
  exact ⟨exact_low (!s) hm i0 hi, by rw [hv, V_of e, signed_not]⟩
/-- Nought, of whichever sign. -/
def Zr (x : Nat) : Prop := x = 0 ∨ x = 9223372036854775808
theorem Zr.read {x : Nat} (h : Zr x) : ∃ s, double.read x = .number s 0 (-1074) := by
  rcases h with rfl | rfl
  · exact ⟨false, by decide +kernel⟩
  · exact ⟨true, by decide +kernel⟩
theorem Zr.low {x : Nat} (h : Zr x) : Low x := by obtain ⟨s, e⟩ := h.read; exact ⟨_, _, _, e, by decide⟩
theorem zr_word (s : Bool) : Zr (double.word s 0) := by
  have w : double.signWeight = 9223372036854775808 := by decide +kernel
  unfold Format.word Zr; rw [w]; cases s <;> simp
theorem near_0 (s : Bool) (i : Int) : double.nearest s 0 i = double.word s 0 := by simp [Format.nearest]
theorem Zr.notN {x : Nat} (h : Zr x) : isN x = false := h.low.fin.notN
theorem mul_zero {z x : Nat} (hz : Zr z) (h : Low x) : Zr (F .mul z x) := by
  obtain ⟨s, m, i, e, hi⟩ := h
  obtain ⟨t, ez⟩ := hz.read
  have ef : fop .mul z x = some (double.word (t ^^ s) 0) := by
    show ((double.read _).product (double.read x)).map double.write = _
    rw [ez, e]
    simp only [Datum.product, Option.map_some, Format.write, Nat.zero_mul, near_0]
  rw [F_some ef (zr_word _).notN]
  exact zr_word _
theorem signed_0 (s : Bool) (k : Nat) : signed s 0 k = 0 := by unfold signed; cases s <;> simp
theorem add_zero {x z : Nat} (h : Low x) (hz : Zr z) : Low (F .add x z) ∧ V (F .add x z) = V x := by
  obtain ⟨s, m, i, e, hi⟩ := h
  obtain ⟨hm, i0, _⟩ := read_form e
  obtain ⟨t, ez⟩ := hz.read
  have ef : fop .add x z = some (double.nearest (if m = 0 then s && t else s) m i) := by
    show ((double.read x).sum (double.read z)).map double.write = _
    rw [ez, e]
    simp only [Datum.sum, Option.map_some, Format.write, Option.some.injEq]
    rw [show min i (-1074) = -1074 by omega, signed_0, Int.add_zero, show (i - -1074).toNat = (i + 1074).toNat by omega, signed_abs, near_shift, show (-1074 : Int) + ((i + 1074).toNat : Nat) = i by omega]
    congr 1
    have p := Nat.two_pow_pos (i + 1074).toNat
    by_cases h0 : m = 0
    · subst h0; rw [signed_0, if_pos rfl, if_pos rfl]
    · have pm : 0 < m <<< (i + 1074).toNat := by rw [Nat.shiftLeft_eq]; exact Nat.mul_pos (by omega) p
      have hab := signed_abs s m (i + 1074).toNat
      have hne : signed s m (i + 1074).toNat ≠ 0 := by omega
      rw [if_neg h0, if_neg hne]
      cases s
      · exact decide_eq_false (by show ¬ ((m <<< (i + 1074).toNat : Nat) : Int) < 0; omega)
      · exact decide_eq_true (by show -((m <<< (i + 1074).toNat : Nat) : Int) < 0; omega)
  obtain ⟨hf, hv⟩ := nearest_V (if m = 0 then s && t else s) hm i0 hi
  rw [F_some ef hf.notN]
  refine ⟨exact_low _ hm i0 hi, ?_⟩
  rw [hv, V_of e]
  by_cases h0 : m = 0
  · subst h0; rw [signed_0, signed_0]
  · rw [if_neg h0]
theorem zero_add {x z : Nat} (h : Low x) (hz : Zr z) : Low (F .add z x) ∧ V (F .add z x) = V x := by
  rw [F_add_comm]; exact add_zero h hz
theorem zero_zero {x z : Nat} (h : Zr x) (hz : Zr z) : Zr (F .add x z) := by
  obtain ⟨s, e⟩ := h.read
  obtain ⟨t, ez⟩ := hz.read
  have ef : fop .add x z = some (double.word (s && t) 0) := by
    show ((double.read x).sum (double.read z)).map double.write = _
    rw [ez, e]
    simp only [Datum.sum, Option.map_some, Format.write, signed_0]
    simp [near_0]
  rw [F_some ef (zr_word _).notN]
  exact zr_word _
end Flt
end Go.Proofs.Ytgbcnfcgljbbgaa
/- Rounding goes up with what is rounded: sums, differences and quotients of floats. -/
namespace Go.Proofs.Ytgbcnfcgljbbgaa
open Go.RowKit Ev Ieee
set_option linter.unusedVariables false
set_option linter.unusedSimpArgs false
namespace Flt
def rhe (n g : Nat) : Nat := n / g + if g < 2 * (n % g) ∨ (2 * (n % g) = g ∧ n / g % 2 = 1) then 1 else 0
theorem rhe_mono {m n g : Nat} (_ : 0 < g) (h : m ≤ n) : rhe m g ≤ rhe n g := by
  unfold rhe
  have h1 : m / g ≤ n / g := Nat.div_le_div_right h
  have e1 := Nat.div_add_mod m g
  have e2 := Nat.div_add_mod n g
  rcases Nat.lt_or_eq_of_le h1 with h2 | h2
  · split <;> split <;> omega
  · rw [h2] at e1 ⊢
    have : m % g ≤ n % g := by omega
    split <;> split <;> omega
theorem rhe_scale {n g c : Nat} (hc : 0 < c) : rhe (n * c) (g * c) = rhe n g := by
  unfold rhe
  rw [Nat.mul_div_mul_right _ _ hc, Nat.mul_mod_mul_right]
  have e1 : g * c < 2 * (n % g * c) ↔ g < 2 * (n % g) := by
    rw [← Nat.mul_assoc]; exact Nat.mul_lt_mul_right hc
  have e2 : 2 * (n % g * c) = g * c ↔ 2 * (n % g) = g := by
    rw [← Nat.mul_assoc]; exact Nat.mul_left_inj (by omega)
  simp only [e1, e2]
theorem rhe_le {n g n' g' : Nat} (hg : 0 < g) (hg' : 0 < g') (h : n * g' ≤ n' * g) : rhe n g ≤ rhe n' g' := by
  rw [← rhe_scale (n := n) (g := g) hg', ← rhe_scale (n := n') (g := g') hg, Nat.mul_comm g' g]
  exact rhe_mono (Nat.mul_pos hg hg') h
theorem rhe_eq {n g n' g' : Nat} (hg : 0 < g) (hg' : 0 < g') (h : n * g' = n' * g) : rhe n g = rhe n' g' :=
  Nat.le_antisymm (rhe_le hg hg' (Nat.le_of_eq h)) (rhe_le hg' hg (Nat.le_of_eq h.symm))
theorem rhe_upper {n g k : Nat} (hg : 0 < g) (h : n ≤ k * g) : rhe n g ≤ k := by
  have := rhe_mono hg h
  have e : rhe (k * g) g = k := by
    unfold rhe
    rw [Nat.mul_div_cancel _ hg, Nat.mul_mod_left]
    split <;> omega
  omega
theorem rhe_lower {n g k : Nat} (hg : 0 < g) (h : k * g ≤ n) : k ≤ rhe n g := by
  have := rhe_mono hg h
  have e : rhe (k * g) g = k := by
    unfold rhe
    rw [Nat.mul_div_cancel _ hg, Nat.mul_mod_left]
    split <;> omega
  omega
/-- A number with one digit for all that is left over is rounded as the number. -/
theorem rhe_sticky {X Y Z : Nat} (hY : 0 < Y) : rhe (2 * (X / Y) + (X % Y != 0).toNat) (2 * (2 * Z)) = rhe X (Y * (2 * Z)) := by
  obtain ⟨σ, hσ, hs, hs1⟩ : ∃ σ, (X % Y != 0).toNat = σ ∧ (σ = 0 ↔ X % Y = 0) ∧ σ ≤ 1 := by
    refine ⟨_, rfl, ?_⟩
    by_cases h : X % Y = 0
    · simp [h]
    · have : (X % Y != 0) = true := bne_iff_ne.2 h
      rw [this]; simp [h]
  rw [hσ]
  have hr : X % Y < Y := Nat.mod_lt _ hY
  have q1 : X / (Y * (2 * Z)) = X / Y / (2 * Z) := (Nat.div_div_eq_div_mul _ _ _).symm
  have q2 : X % (Y * (2 * Z)) = X % Y + Y * (X / Y % (2 * Z)) := Nat.mod_mul
  unfold rhe
  rw [q1, q2]
  generalize X / Y = q at *
  generalize X % Y = ρ at *
  have d0 : (2 * q + σ) / 2 = q := by omega
  have d1 : (2 * q + σ) / (2 * (2 * Z)) = q / (2 * Z) := by rw [← Nat.div_div_eq_div_mul, d0]
  have d2 : (2 * q + σ) % (2 * (2 * Z)) = 2 * (q % (2 * Z)) + σ := by rw [Nat.mod_mul, d0]; omega
  rw [d1, d2]
  generalize q % (2 * Z) = r
  generalize q / (2 * Z) = k
  have key : ∀ a b : Nat, a < b → Y * a + Y ≤ Y * b := fun a b h => by rw [← Nat.mul_succ]; exact Nat.mul_le_mul_left _ h
  have yz : Y * (2 * Z) = 2 * (Y * Z) := Nat.mul_left_comm _ _ _
  rw [yz]
  have e1 : 2 * (Y * Z) < 2 * (ρ + Y * r) ↔ 2 * (2 * Z) < 2 * (2 * r + σ) := by
    rcases Nat.lt_trichotomy Z r with h | h | h
    · have := key _ _ h; omega
    · subst h; omega
    · have := key _ _ h; omega
  have e2 : 2 * (ρ + Y * r) = 2 * (Y * Z) ↔ 2 * (2 * r + σ) = 2 * (2 * Z) := by
    rcases Nat.lt_trichotomy Z r with h | h | h
    · have := key _ _ h; omega
    · subst h; omega
    · have := key _ _ h; omega
  simp only [e1, e2]
theorem log_lt (n : Nat) : n < 2 ^ (n.log2 + 1) := Nat.lt_log2_self
theorem log_le {n : Nat} (h : n ≠ 0) : 2 ^ n.log2 ≤ n := Nat.log2_self_le h
/-- What the rounding does is this. -/
theorem cut_even (neg : Bool) (n drop : Nat) : Toward.even.cut neg n drop = rhe n (2 ^ drop) := by
  have key : Toward.even.cut neg n drop = rhe n (1 <<< min drop (n.log2 + 2)) := by
    unfold Toward.cut rhe
    simp only
    congr 1
    generalize 1 <<< min drop (n.log2 + 2) = g
    generalize n % g = r
    generalize n / g = k
    by_cases h1 : g < 2 * r
    · rw [if_pos (.inl h1), decide_eq_true h1]; rfl
    · rw [decide_eq_false h1, Bool.false_or]
      by_cases h2 : g = 2 * r ∧ k % 2 = 1
      · rw [if_pos (.inr ⟨h2.1.symm, h2.2⟩), show (g == 2 * r) = true from beq_iff_eq.2 h2.1, show (k % 2 == 1) = true from beq_iff_eq.2 h2.2]; rfl
      · rw [if_neg (by omega)]
        have : (g == 2 * r && k % 2 == 1) = false := by
          rw [Bool.eq_false_iff]; intro h; apply h2
          rw [Bool.and_eq_true, beq_iff_eq, beq_iff_eq] at h; exact h
        rw [this]; rfl
  rw [key, Nat.one_shiftLeft]
  by_cases h : drop ≤ n.log2 + 2
  · rw [Nat.min_eq_left h]
  · rw [Nat.min_eq_right (by omega)]
    have z : ∀ k, n.log2 + 2 ≤ k → rhe n (2 ^ k) = 0 := fun k hk => by
      have h1 := log_lt n
      have h2 : 2 ^ (n.log2 + 1 + 1) ≤ 2 ^ k := Nat.pow_le_pow_right (by omega) hk
      rw [Nat.pow_succ] at h2
      have h3 := Nat.two_pow_pos (n.log2 + 1)
      unfold rhe
      rw [Nat.div_eq_of_lt (by omega), Nat.mod_eq_of_lt (by omega)]
      split <;> omega
    rw [z _ (Nat.le_refl _), z _ (by omega)]
/-- P/D is in the t-th pair of binades (of B rungs each). -/
def Rng (B P D t : Nat) : Prop := (t = 0 ∧ P < 2 * B * D) ∨ (0 < t ∧ B * 2 ^ t * D ≤ P ∧ P < 2 * B * 2 ^ t * D)
def rung (B I P D t : Nat) : Nat := min (t * B + rhe P (D * 2 ^ t)) I
theorem Rng.upper {B P D t : Nat} (h : Rng B P D t) : P ≤ 2 * B * (D * 2 ^ t) := by
  rcases h with ⟨rfl, h⟩ | ⟨_, _, h⟩
  · rw [Nat.pow_zero, Nat.mul_one]; omega
  · rw [Nat.mul_comm D, ← Nat.mul_assoc]; omega
theorem rung_mono {B I P D t P' D' t' : Nat} (hD : 0 < D) (hD' : 0 < D') (h : P * D' ≤ P' * D) (hr : Rng B P D t) (hr' : Rng B P' D' t') : rung B I P D t ≤ rung B I P' D' t' := by
  have p1 : 0 < D * 2 ^ t := Nat.mul_pos hD (Nat.two_pow_pos t)
  have p2 : 0 < D' * 2 ^ t' := Nat.mul_pos hD' (Nat.two_pow_pos t')
  have main : t * B + rhe P (D * 2 ^ t) ≤ t' * B + rhe P' (D' * 2 ^ t') := by
    rcases Nat.lt_trichotomy t t' with c | c | c
    · have u1 : rhe P (D * 2 ^ t) ≤ 2 * B := rhe_upper p1 hr.upper
      have u2 : B ≤ rhe P' (D' * 2 ^ t') := by
        rcases hr' with ⟨rfl, _⟩ | ⟨_, h2, _⟩
        · omega
        · refine rhe_lower p2 ?_
          rw [Nat.mul_comm D', ← Nat.mul_assoc]; exact h2
      have u3 : (t + 1) * B ≤ t' * B := Nat.mul_le_mul_right _ c
      rw [Nat.succ_mul] at u3
      omega
    · subst c
      have := rhe_le p1 p2 (n := P) (n' := P') (by rw [← Nat.mul_assoc, ← Nat.mul_assoc]; exact Nat.mul_le_mul_right _ h)
      omega
    · exfalso
      rcases hr with ⟨rfl, _⟩ | ⟨_, h2, _⟩
      · omega
      · have a1 : 2 * B * 2 ^ t' * D ≤ B * 2 ^ t * D := by
          refine Nat.mul_le_mul_right _ ?_
          rw [Nat.mul_comm 2 B, Nat.mul_assoc, ← Nat.pow_succ']
          exact Nat.mul_le_mul_left _ (Nat.pow_le_pow_right (by omega) c)
        have a2 : P' < 2 * B * 2 ^ t' * D' := by
          rcases hr' with ⟨rfl, h3⟩ | ⟨_, _, h3⟩
          · rw [Nat.pow_zero, Nat.mul_one]; exact h3
          · exact h3
        have a3 : P' * D < 2 * B * 2 ^ t' * D' * D := Nat.mul_lt_mul_of_pos_right a2 hD
        have a4 : 2 * B * 2 ^ t' * D * D' ≤ P * D' := Nat.mul_le_mul_right _ (Nat.le_trans a1 h2)
        rw [Nat.mul_right_comm] at a4
        omega
  unfold rung
  omega
/-- Numbers of that many digits are in that pair. -/
theorem rng_log {P D t : Nat} {Λ b : Nat} (h1 : 2 ^ Λ * D ≤ P * 2 ^ b) (h2 : P * 2 ^ b < 2 ^ (Λ + 1) * D) (ht : (t = 0 ∧ Λ ≤ 52 + b) ∨ (0 < t ∧ Λ = 52 + t + b)) : Rng (2 ^ 52) P D t := by
  have p := Nat.two_pow_pos b
  unfold Rng
  generalize hB : 2 ^ 52 = B
  have hB2 : 2 * B = 2 ^ (52 + 1) := by rw [Nat.pow_succ, hB, Nat.mul_comm]
  rcases ht with ⟨h0, hl⟩ | ⟨h0, hl⟩
  · refine .inl ⟨h0, ?_⟩
    have h3 : 2 ^ (Λ + 1) * D ≤ 2 ^ (52 + 1 + b) * D := Nat.mul_le_mul_right _ (Nat.pow_le_pow_right (by omega) (by omega))
    rw [Nat.pow_add 2 (52 + 1) b, Nat.mul_right_comm, ← hB2] at h3
    exact Nat.lt_of_mul_lt_mul_right (Nat.lt_of_lt_of_le h2 h3)
  · refine .inr ⟨h0, ?_, ?_⟩
    · rw [hl, Nat.pow_add 2 (52 + t) b, Nat.mul_right_comm, Nat.pow_add 2 52 t, hB] at h1
      exact Nat.le_of_mul_le_mul_right h1 p
    · rw [show Λ + 1 = 52 + 1 + t + b by omega, Nat.pow_add 2 (52 + 1 + t) b, Nat.mul_right_comm, Nat.pow_add 2 (52 + 1) t, ← hB2] at h2
      exact Nat.lt_of_mul_lt_mul_right h2

abbrev II : Nat := 2047 * 4503599627370496
theorem p52 : (2 : Nat) ^ 52 = 4503599627370496 := by decide
theorem rung_zero (B I D : Nat) (hB : 0 < B) (hD : 0 < D) : Rng B 0 D 0 ∧ rung B I 0 D 0 = 0 := by
  refine ⟨.inl ⟨rfl, Nat.mul_pos (Nat.mul_pos (by decide) hB) hD⟩, ?_⟩
  unfold rung rhe
  rw [Nat.zero_div, Nat.zero_mod, Nat.pow_zero, Nat.mul_one]
  rw [if_neg (by omega)]
  omega
/-- A whole number of parts is written as the rung of a ratio. -/
theorem nearest_form (neg : Bool) (mag : Nat) (place : Int) : ∃ t, Rng (2 ^ 52) (mag * 2 ^ (place + 1074).toNat) (2 ^ (-1074 - place).toNat) t ∧
    double.nearest neg mag place = double.word neg (rung (2 ^ 52) II (mag * 2 ^ (place + 1074).toNat) (2 ^ (-1074 - place).toNat) t) := by
  by_cases h0 : mag = 0
  · subst h0
    obtain ⟨r1, r2⟩ := rung_zero (2 ^ 52) II (2 ^ (-1074 - place).toNat) (Nat.two_pow_pos _) (Nat.two_pow_pos _)
    rw [Nat.zero_mul]
    exact ⟨0, r1, by rw [r2, near_0]⟩
  rw [nearest_eq neg mag place h0]
  have h1 := log_lt mag
  have h2 := log_le h0
  generalize mag.log2 = Λ at *
  generalize hlast : max (place + (Λ : Int) - 52) (-1074) = last
  generalize hP : (place + 1074).toNat = a
  generalize hQ : (-1074 - place).toNat = b
  refine ⟨(last + 1074).toNat, ?_, ?_⟩
  · refine rng_log (Λ := Λ + a) (b := b) ?_ ?_ (by omega)
    · rw [Nat.pow_add, Nat.mul_assoc, Nat.mul_assoc]
      exact Nat.mul_le_mul_right _ h2
    · rw [show Λ + a + 1 = Λ + 1 + a by omega, Nat.pow_add _ (Λ + 1), Nat.mul_assoc, Nat.mul_assoc]
      exact Nat.mul_lt_mul_of_pos_right h1 (Nat.mul_pos (Nat.two_pow_pos _) (Nat.two_pow_pos _))
  · rw [cut_even, Nat.shiftLeft_eq, ← p52]
    unfold rung
    congr 3
    refine rhe_eq (Nat.two_pow_pos _) (Nat.mul_pos (Nat.two_pow_pos _) (Nat.two_pow_pos _)) ?_
    rw [Nat.mul_assoc, Nat.mul_assoc, ← Nat.pow_add, ← Nat.pow_add, ← Nat.pow_add]
    congr 2
    omega
/-- A quotient is written as the rung of the ratio. -/
theorem quo_form {x y : Nat} {s t : Bool} {m n : Nat} {i j : Int} (hx : double.read x = .number s m i) (hy : double.read y = .number t n j) (hn : n ≠ 0) :
    ∃ τ, Rng (2 ^ 52) (m * 2 ^ (i - j + 1074).toNat) (n * 2 ^ (j - i - 1074).toNat) τ ∧ fop .quo x y = some (double.word (s ^^ t) (rung (2 ^ 52) II (m * 2 ^ (i - j + 1074).toNat) (n * 2 ^ (j - i - 1074).toNat) τ)) := by
  have hf : double.fractionBits + 2 = 54 := by decide +kernel
  have ef : fop .quo x y = some (double.nearest (s ^^ t) (2 * (m <<< (54 + n.log2 - m.log2) / n) + (m <<< (54 + n.log2 - m.log2) % n != 0).toNat) (i - j - (54 + n.log2 - m.log2 : Nat) - 1)) := by
    show ((double.read x).quotient (double.fractionBits + 2) (double.read y)).map double.write = _
    rw [hx, hy, hf]
    simp only [Datum.quotient]
    rw [if_neg hn]
    rfl
  rw [ef]
  have hn0 : 0 < n := by omega
  by_cases h0 : m = 0
  · subst h0
    obtain ⟨r1, r2⟩ := rung_zero (2 ^ 52) II (n * 2 ^ (j - i - 1074).toNat) (Nat.two_pow_pos _) (Nat.mul_pos hn0 (Nat.two_pow_pos _))
    rw [Nat.zero_mul]
    refine ⟨0, r1, ?_⟩
    rw [r2, Nat.zero_shiftLeft, Nat.zero_div, Nat.zero_mod]
    exact congrArg some (near_0 _ _)
  generalize hmore : 54 + n.log2 - m.log2 = more
  rw [Nat.shiftLeft_eq]
  have m1 := log_le h0
  have n1 := log_lt n
  generalize n.log2 = N at *
  generalize m.log2 = M at *
  generalize hX : m * 2 ^ more = X
  have hXl : 2 ^ 53 * n ≤ X := by
    have a1 : 2 ^ M * 2 ^ more ≤ X := by rw [← hX]; exact Nat.mul_le_mul_right _ m1
    have a2 : 2 ^ 53 * n ≤ 2 ^ 53 * 2 ^ (N + 1) := Nat.mul_le_mul_left _ (Nat.le_of_lt n1)
    have a3 : (2 : Nat) ^ 53 * 2 ^ (N + 1) ≤ 2 ^ M * 2 ^ more := by
      rw [← Nat.pow_add, ← Nat.pow_add]
      exact Nat.pow_le_pow_right (by omega) (by omega)
    exact Nat.le_trans a2 (Nat.le_trans a3 a1)
  obtain ⟨σ, hσ, hσ1⟩ : ∃ σ, (X % n != 0).toNat = σ ∧ σ ≤ 1 := ⟨_, rfl, by cases (X % n != 0) <;> decide⟩
  have hq : 2 ^ 53 ≤ X / n := (Nat.le_div_iff_mul_le hn0).2 hXl
  have hm0 : 2 * (X / n) + σ ≠ 0 := by have := Nat.two_pow_pos 53; omega
  have hmag : 2 ^ 54 ≤ 2 * (X / n) + σ := by have : (2 : Nat) ^ 54 = 2 ^ 53 * 2 := Nat.pow_succ .. ; omega
  have l1 := log_lt (2 * (X / n) + σ)
  have l2 := log_le hm0
  have hΛ : 54 ≤ (2 * (X / n) + σ).log2 := by
    have : 2 ^ 54 < 2 ^ ((2 * (X / n) + σ).log2 + 1) := Nat.lt_of_le_of_lt hmag l1
    have := (Nat.pow_lt_pow_iff_right (by decide)).1 this
    omega
  rw [nearest_eq _ _ _ (by rw [hσ]; exact hm0), hσ]
  generalize hΛ' : (2 * (X / n) + σ).log2 = Λ at *
  obtain ⟨K, rfl⟩ : ∃ K, Λ = K + 1 := ⟨Λ - 1, by omega⟩
  have k1 : 2 ^ K * n ≤ X := by
    refine (Nat.le_div_iff_mul_le hn0).1 ?_
    rw [Nat.pow_succ] at l2; omega
  have k2 : X < 2 ^ (K + 1) * n := by
    refine (Nat.div_lt_iff_lt_mul hn0).1 ?_
    rw [Nat.pow_succ 2 (K + 1)] at l1; omega
  generalize hlast : max (i - j - (more : Int) - 1 + ((K + 1 : Nat) : Int) - 52) (-1074) = last
  generalize hP : (i - j + 1074).toNat = a
  generalize hQ : (j - i - 1074).toNat = b
  refine ⟨(last + 1074).toNat, ?_, ?_⟩
  · refine rng_log (Λ := K + a) (b := more + b) ?_ ?_ (by omega)
    · have e1 : m * 2 ^ a * 2 ^ (more + b) = X * (2 ^ a * 2 ^ b) := by rw [← hX, Nat.pow_add]; simp only [Nat.mul_assoc, Nat.mul_left_comm, Nat.mul_comm]
      have e2 : 2 ^ (K + a) * (n * 2 ^ b) = 2 ^ K * n * (2 ^ a * 2 ^ b) := by rw [Nat.pow_add]; simp only [Nat.mul_assoc, Nat.mul_left_comm, Nat.mul_comm]
      rw [e1, e2]
      exact Nat.mul_le_mul_right _ k1
    · have e1 : m * 2 ^ a * 2 ^ (more + b) = X * (2 ^ a * 2 ^ b) := by rw [← hX, Nat.pow_add]; simp only [Nat.mul_assoc, Nat.mul_left_comm, Nat.mul_comm]
      have e2 : 2 ^ (K + a + 1) * (n * 2 ^ b) = 2 ^ (K + 1) * n * (2 ^ a * 2 ^ b) := by rw [show K + a + 1 = K + 1 + a by omega, Nat.pow_add]; simp only [Nat.mul_assoc, Nat.mul_left_comm, Nat.mul_comm]
      rw [e1, e2]
      exact Nat.mul_lt_mul_of_pos_right k2 (Nat.mul_pos (Nat.two_pow_pos _) (Nat.two_pow_pos _))
  · rw [cut_even, ← p52, show (i - j - (more : Int) - 1 - last).toNat = 0 by omega, Nat.shiftLeft_zero, ← hσ]
    obtain ⟨d, hd⟩ : ∃ d, (last - (i - j - (more : Int) - 1)).toNat = d + 2 := ⟨(last - (i - j - (more : Int) - 1)).toNat - 2, by omega⟩
    rw [hd, show (2 : Nat) ^ (d + 2) = 2 * (2 * 2 ^ d) by rw [Nat.pow_succ, Nat.pow_succ]; omega, rhe_sticky hn0]
    unfold rung
    congr 4
    refine rhe_eq (Nat.mul_pos hn0 (Nat.mul_pos (by decide) (Nat.two_pow_pos _))) (Nat.mul_pos (Nat.mul_pos hn0 (Nat.two_pow_pos _)) (Nat.two_pow_pos _)) ?_
    have e1 : X * (n * 2 ^ b * 2 ^ (last + 1074).toNat) = m * n * 2 ^ (more + b + (last + 1074).toNat) := by rw [← hX, Nat.pow_add, Nat.pow_add]; simp only [Nat.mul_assoc, Nat.mul_left_comm, Nat.mul_comm]
    have e2 : m * 2 ^ a * (n * (2 * 2 ^ d)) = m * n * 2 ^ (a + (d + 1)) := by rw [Nat.pow_add, Nat.pow_succ]; simp only [Nat.mul_assoc, Nat.mul_left_comm, Nat.mul_comm]
    rw [e1, e2]
    congr 2
    omega
end Flt
end Go.Proofs.Ytgbcnfcgljbbgaa
/- Floats in their order: a whole number for each; differences and quotients go up with what they are of. -/
namespace Go.Proofs.Ytgbcnfcgljbbgaa
open Go.RowKit Ev Ieee
set_option linter.unusedVariables false
set_option linter.unusedSimpArgs false
namespace Flt

def sg (s : Bool) (n : Nat) : Int := if s then -(n : Int) else n
/-- The place of a float in their order. -/
def key (x : Nat) : Int := sg (x / 9223372036854775808 % 2 == 1) (x % 9223372036854775808)
theorem key_word (s : Bool) {r : Nat} (h : r ≤ II) : key (double.word s r) = sg s r := by
  have w : double.signWeight = 9223372036854775808 := by decide +kernel
  unfold key Format.word
  rw [w]
  have h : r ≤ 9218868437227405312 := h
  have e1 : ((if s = true then 9223372036854775808 + r else r) / 9223372036854775808 % 2 == 1) = s := by cases s <;> simp <;> omega
  have e2 : (if s = true then 9223372036854775808 + r else r) % 9223372036854775808 = r := by cases s <;> simp <;> omega
  rw [e1, e2]
/-- How many parts the number on a rung has. -/
def Vr (r : Nat) : Nat := if r < 4503599627370496 then r else (4503599627370496 + r % 4503599627370496) * 2 ^ (r / 4503599627370496 - 1)
theorem Vr_succ (r : Nat) : Vr r < Vr (r + 1) := by
  unfold Vr
  by_cases h0 : r + 1 < 4503599627370496
  · rw [if_pos h0, if_pos (by omega)]; omega
  by_cases h1 : r < 4503599627370496
  · obtain rfl : r = 4503599627370495 := by omega
    rw [if_pos h1, if_neg h0]; decide
  rw [if_neg h0, if_neg h1]
  have hr := Nat.div_add_mod r 4503599627370496
  have hm := Nat.mod_lt r (show 0 < 4503599627370496 by decide)
  have hq : 1 ≤ r / 4503599627370496 := by omega
  generalize r / 4503599627370496 = q at *
  generalize r % 4503599627370496 = f at *
  obtain ⟨q, rfl⟩ : ∃ k, q = k + 1 := ⟨q - 1, by omega⟩
  subst hr
  have p := Nat.two_pow_pos q
  by_cases h2 : f + 1 < 4503599627370496
  · have d1 : (4503599627370496 * (q + 1) + f + 1) / 4503599627370496 = q + 1 := by omega
    have d2 : (4503599627370496 * (q + 1) + f + 1) % 4503599627370496 = f + 1 := by omega
    rw [d1, d2]
    exact Nat.mul_lt_mul_of_pos_right (by omega) p
  · have d1 : (4503599627370496 * (q + 1) + f + 1) / 4503599627370496 = q + 2 := by omega
    have d2 : (4503599627370496 * (q + 1) + f + 1) % 4503599627370496 = 0 := by omega
    rw [d1, d2, show q + 2 - 1 = q + 1 by omega, show q + 1 - 1 = q by omega, Nat.pow_succ]
    have e : (4503599627370496 + 0) * (2 ^ q * 2) = (2 * 4503599627370496) * 2 ^ q := by rw [Nat.add_zero, Nat.mul_comm (2 ^ q) 2, ← Nat.mul_assoc, Nat.mul_comm 2]
    rw [e]
    exact Nat.mul_lt_mul_of_pos_right (by omega) p
theorem Vr_lt {r r' : Nat} (h : r < r') : Vr r < Vr r' := by
  induction r' with
  | zero => omega
  | succ n ih =>
    rcases Nat.lt_or_eq_of_le (Nat.le_of_lt_succ h) with h' | h'
    · exact Nat.lt_trans (ih h') (Vr_succ n)
    · subst h'; exact Vr_succ _
theorem Vr_0 : Vr 0 = 0 := by unfold Vr; rfl
theorem Vr_cmp {r r' : Nat} : (Vr r < Vr r' ↔ r < r') ∧ (Vr r = Vr r' ↔ r = r') := by
  rcases Nat.lt_trichotomy r r' with h | h | h
  · have := Vr_lt h; omega
  · subst h; omega
  · have := Vr_lt h; omega
theorem sg_cmp (s t : Bool) (r r' : Nat) : (sg s (Vr r) < sg t (Vr r') ↔ sg s r < sg t r') ∧ (sg s (Vr r) = sg t (Vr r') ↔ sg s r = sg t r') := by
  have h1 := @Vr_cmp r r'
  have h2 := @Vr_cmp r' r
  have h3 := @Vr_cmp 0 r
  have h4 := @Vr_cmp 0 r'
  rw [Vr_0] at h3 h4
  unfold sg
  cases s <;> cases t <;> simp only [if_true, if_false, Bool.false_eq_true] <;> omega
/-- What a word stands for, by its sign and rung. -/
theorem read_sr (x : Nat) : ∃ s r, key x = sg s r ∧ (r < II → ∃ m i, double.read x = .number s m i ∧ V x = sg s (Vr r)) ∧ (r = II → double.read x = .infinity s) ∧ (II < r → isN x = true) := by
  have w : double.signWeight = 9223372036854775808 := by decide +kernel
  have b : double.binade = 4503599627370496 := by decide +kernel
  have f : double.infRung = 9218868437227405312 := by decide +kernel
  have l : double.leastPlace = -1074 := by decide +kernel
  have hII : II = 9218868437227405312 := by decide
  refine ⟨x / 9223372036854775808 % 2 == 1, x % 9223372036854775808, rfl, ?_, ?_, ?_⟩
  · intro h
    rw [hII] at h
    have e : double.read x = if x % 9223372036854775808 < 4503599627370496 then .number (x / 9223372036854775808 % 2 == 1) (x % 9223372036854775808) (-1074) else .number (x / 9223372036854775808 % 2 == 1) (4503599627370496 + x % 9223372036854775808 % 4503599627370496) (-1074 + (x % 9223372036854775808 / 4503599627370496 - 1 : Nat)) := by
      unfold Format.read
      rw [w, b, f, l]
      simp only
      split
      · rfl
      · first | rfl | (rw [if_pos h])
    generalize (x / 9223372036854775808 % 2 == 1) = s at *
    generalize x % 9223372036854775808 = r at *
    have hs : ∀ m k : Nat, signed s m k = sg s (m * 2 ^ k) := fun m k => by
      unfold signed sg; rw [Nat.shiftLeft_eq]
    by_cases h1 : r < 4503599627370496
    · rw [if_pos h1] at e
      refine ⟨_, _, e, ?_⟩
      rw [V_of e, hs]
      unfold Vr; rw [if_pos h1]
      simp
    · rw [if_neg h1] at e
      refine ⟨_, _, e, ?_⟩
      rw [V_of e, hs]
      unfold Vr; rw [if_neg h1]
      congr 3
      omega
  · intro h
    rw [hII] at h
    unfold Format.read
    rw [w, b, f, l]
    simp only
    rw [if_neg (by omega), if_neg (by omega), if_pos h]
  · intro h
    rw [hII] at h
    unfold isN Format.read
    rw [w, b, f, l]
    simp only
    rw [if_neg (by omega), if_neg (by omega), if_neg (by omega)]
    rfl
theorem order_key {x y : Nat} (hx : isN x = false) (hy : isN y = false) : double.order x y = some (compare (key x) (key y)) := by
  obtain ⟨s, r, kx, x1, x2, x3⟩ := read_sr x
  obtain ⟨t, r', ky, y1, y2, y3⟩ := read_sr y
  have cmp : ∀ a b c d : Int, ((a < b ↔ c < d) ∧ (a = b ↔ c = d)) → compare a b = compare c d := fun a b c d h => by
    rcases Int.lt_trichotomy a b with g | g | g
    · rw [Int.compare_eq_lt.2 g, Int.compare_eq_lt.2 (h.1.1 g)]
    · rw [Int.compare_eq_eq.2 g, Int.compare_eq_eq.2 (h.2.1 g)]
    · rw [Int.compare_eq_gt.2 g, Int.compare_eq_gt.2 (by omega)]
  have hII : II = 9218868437227405312 := by decide
  rcases Nat.lt_trichotomy r II with a | a | a
  · obtain ⟨m, i, ex, vx⟩ := x1 a
    rcases Nat.lt_trichotomy r' II with c | c | c
    · obtain ⟨n, j, ey, vy⟩ := y1 c
      rw [order_V ⟨_, _, _, ex⟩ ⟨_, _, _, ey⟩, vx, vy, kx, ky]
      exact congrArg some (cmp _ _ _ _ (sg_cmp s t r r'))
    · unfold Format.order
      rw [ex, y2 c, kx, ky]
      simp only [Datum.order, Option.some.injEq]
      unfold sg
      cases t <;> cases s <;> simp only [if_true, if_false, Bool.false_eq_true] <;> first | (refine (Int.compare_eq_lt.2 ?_).symm; omega) | (refine (Int.compare_eq_gt.2 ?_).symm; omega)
    · rw [y3 c] at hy; cases hy
  · rcases Nat.lt_trichotomy r' II with c | c | c
    · obtain ⟨n, j, ey, vy⟩ := y1 c
      unfold Format.order
      rw [ey, x2 a, kx, ky]
      simp only [Datum.order, Option.some.injEq]
      unfold sg
      cases s <;> cases t <;> simp only [if_true, if_false, Bool.false_eq_true] <;> first | (refine (Int.compare_eq_lt.2 ?_).symm; omega) | (refine (Int.compare_eq_gt.2 ?_).symm; omega)
    · unfold Format.order
      rw [y2 c, x2 a, kx, ky, a, c]
      simp only [Datum.order, Option.some.injEq]
      cases s <;> cases t <;> decide +kernel
    · rw [y3 c] at hy; cases hy
  · rw [x3 a] at hx; cases hx
theorem flt_key {x y : Nat} (hx : isN x = false) (hy : isN y = false) : flt x y = decide (key x < key y) := by
  have e : FloatKind.f64.format.order x y = some (compare (key x) (key y)) := order_key hx hy
  unfold flt; rw [e]
  rcases Int.lt_trichotomy (key x) (key y) with h | h | h
  · rw [Int.compare_eq_lt.2 h, decide_eq_true h]; rfl
  · rw [Int.compare_eq_eq.2 h, decide_eq_false (by omega)]; rfl
  · rw [Int.compare_eq_gt.2 h, decide_eq_false (by omega)]; rfl
theorem feq_key {x y : Nat} (hx : isN x = false) (hy : isN y = false) : feq x y = decide (key x = key y) := by
  have e : FloatKind.f64.format.order x y = some (compare (key x) (key y)) := order_key hx hy
  unfold feq; rw [e]
  rcases Int.lt_trichotomy (key x) (key y) with h | h | h
  · rw [Int.compare_eq_lt.2 h, decide_eq_false (by omega)]; rfl
  · rw [Int.compare_eq_eq.2 h, decide_eq_true h]; rfl
  · rw [Int.compare_eq_gt.2 h, decide_eq_false (by omega)]; rfl
theorem fgt_key {x y : Nat} (hx : isN x = false) (hy : isN y = false) : fgt x y = decide (key y < key x) := by
  rw [fgt_flt, flt_key hy hx]
/-- The keys of finite floats stand as their numbers. -/
theorem V_key {x y : Nat} (hx : Fin x) (hy : Fin y) : (V x < V y ↔ key x < key y) ∧ (V x = V y ↔ key x = key y) := by
  have a := order_V hx hy
  have b := order_key hx.notN hy.notN
  rw [a, Option.some.injEq] at b
  rcases Int.lt_trichotomy (V x) (V y) with h | h | h
  · rw [Int.compare_eq_lt.2 h] at b; have := Int.compare_eq_lt.1 b.symm; omega
  · rw [Int.compare_eq_eq.2 h] at b; have := Int.compare_eq_eq.1 b.symm; omega
  · rw [Int.compare_eq_gt.2 h] at b; have := Int.compare_eq_gt.1 b.symm; omega
theorem rung_le (B I P D t : Nat) : rung B I P D t ≤ I := by unfold rung; omega
theorem word_ok (s : Bool) {r : Nat} (h : r ≤ II) : isN (double.word s r) = false := Go.Proofs.Ytgbcnfcgljbbgaa.word_notN s r h
theorem rng_0 {B D t : Nat} (hB : 0 < B) (hD : 0 < D) (h : Rng B 0 D t) : rung B II 0 D t = 0 := by
  rcases h with ⟨rfl, _⟩ | ⟨_, h, _⟩
  · exact (rung_zero B II D hB hD).2
  · have := Nat.mul_pos (Nat.mul_pos hB (Nat.two_pow_pos t)) hD
    omega
/-- A difference: its sign, and its rung. -/
theorem sub_form {x y : Nat} (hx : Fin x) (hy : Fin y) : ∃ t, Rng (2 ^ 52) (V x - V y).natAbs 1 t ∧ isN (F .sub x y) = false ∧ key (F .sub x y) = sg (decide (V x < V y)) (rung (2 ^ 52) II (V x - V y).natAbs 1 t) := by
  obtain ⟨s, m, i, ex⟩ := hx
  obtain ⟨t, n, j, ey⟩ := hy
  obtain ⟨_, i0, _⟩ := read_form ex
  obtain ⟨_, j0, _⟩ := read_form ey
  have e0 : fop .sub x y = some (double.nearest (if signed s m (i - min i j).toNat + signed (!t) n (j - min i j).toNat = 0 then s && !t else decide (signed s m (i - min i j).toNat + signed (!t) n (j - min i j).toNat < 0)) (signed s m (i - min i j).toNat + signed (!t) n (j - min i j).toNat).natAbs (min i j)) := by
    show ((double.read x).sum (double.read y).opposite).map double.write = _
    rw [ex, ey]
    rfl
  have hd : (signed s m (i - min i j).toNat + signed (!t) n (j - min i j).toNat) * (2 ^ (min i j + 1074).toNat : Nat) = V x - V y := by
    rw [V_of ex, V_of ey, Int.add_mul, ← signed_add, ← signed_add, signed_not, show (i - min i j).toNat + (min i j + 1074).toNat = (i + 1074).toNat by omega, show (j - min i j).toNat + (min i j + 1074).toNat = (j + 1074).toNat by omega]
    omega
  have p : (0 : Int) < (2 ^ (min i j + 1074).toNat : Nat) := by have := Nat.two_pow_pos (min i j + 1074).toNat; omega
  generalize signed s m (i - min i j).toNat + signed (!t) n (j - min i j).toNat = d at *
  have hb : (-1074 - min i j).toNat = 0 := by omega
  generalize hneg : (if d = 0 then s && !t else decide (d < 0)) = neg at e0
  obtain ⟨τ, hr, hn⟩ := nearest_form neg d.natAbs (min i j)
  have hab : d.natAbs * 2 ^ (min i j + 1074).toNat = (V x - V y).natAbs := by
    rw [← hd, Int.natAbs_mul]; rfl
  rw [hb, Nat.pow_zero, hab] at hr hn
  rw [hn] at e0
  have hw := word_ok neg (rung_le (2 ^ 52) II (V x - V y).natAbs 1 τ)
  refine ⟨τ, hr, ?_, ?_⟩
  · rw [F_some e0 hw]; exact hw
  · rw [F_some e0 hw, key_word _ (rung_le _ _ _ _ _)]
    rcases Int.lt_trichotomy d 0 with g | g | g
    · have : V x < V y := by
        have := Int.mul_neg_of_neg_of_pos g p; omega
      rw [decide_eq_true this, ← hneg, if_neg (by omega), decide_eq_true g]
    · have h0 : V x - V y = 0 := by rw [← hd, g, Int.zero_mul]
      rw [h0] at hr ⊢
      have e : rung (2 ^ 52) II (Int.natAbs 0) 1 τ = 0 := rng_0 (Nat.two_pow_pos _) (by decide) hr
      rw [e]
      unfold sg
      split <;> split <;> rfl
    · have : ¬ V x < V y := by
        have := Int.mul_pos g p; omega
      rw [decide_eq_false this, ← hneg, if_neg (by omega), decide_eq_false (by omega)]
theorem sg_mono {a b : Int} {r r' : Nat} (hab : a ≤ b) (h1 : a.natAbs ≤ b.natAbs → r ≤ r') (h2 : b.natAbs ≤ a.natAbs → r' ≤ r) : sg (decide (a < 0)) r ≤ sg (decide (b < 0)) r' := by
  unfold sg
  by_cases ha : a < 0
  · by_cases hb : b < 0
    · rw [decide_eq_true ha, decide_eq_true hb, if_pos rfl, if_pos rfl]
      have := h2 (by omega); omega
    · rw [decide_eq_true ha, decide_eq_false hb, if_pos rfl, if_neg (by decide)]; omega
  · rw [decide_eq_false ha, decide_eq_false (show ¬ b < 0 by omega), if_neg (by decide), if_neg (by decide)]
    have := h1 (by omega); omega
/-- A difference goes up with what is taken from. -/
theorem sub_mono {x x' y : Nat} (hx : Fin x) (hx' : Fin x') (hy : Fin y) (h : key x ≤ key x') : isN (F .sub x y) = false ∧ isN (F .sub x' y) = false ∧ key (F .sub x y) ≤ key (F .sub x' y) := by
  obtain ⟨t, r1, n1, k1⟩ := sub_form hx hy
  obtain ⟨t', r2, n2, k2⟩ := sub_form hx' hy
  refine ⟨n1, n2, ?_⟩
  have hv := V_key hx hx'
  rw [k1, k2, show decide (V x < V y) = decide (V x - V y < 0) from decide_eq_decide.2 (by omega), show decide (V x' < V y) = decide (V x' - V y < 0) from decide_eq_decide.2 (by omega)]
  refine sg_mono (by omega) (fun g => ?_) (fun g => ?_)
  · exact rung_mono (by decide) (by decide) (by rw [Nat.mul_one, Nat.mul_one]; exact g) r1 r2
  · exact rung_mono (by decide) (by decide) (by rw [Nat.mul_one, Nat.mul_one]; exact g) r2 r1
/-- A quotient: its sign, and its rung. -/
theorem quo_key {x y : Nat} {s t : Bool} {m n : Nat} {i j : Int} (hx : double.read x = .number s m i) (hy : double.read y = .number t n j) (hn : n ≠ 0) :
    ∃ τ, Rng (2 ^ 52) (m * 2 ^ (i - j + 1074).toNat) (n * 2 ^ (j - i - 1074).toNat) τ ∧ isN (F .quo x y) = false ∧ key (F .quo x y) = sg (s ^^ t) (rung (2 ^ 52) II (m * 2 ^ (i - j + 1074).toNat) (n * 2 ^ (j - i - 1074).toNat) τ) := by
  obtain ⟨τ, r, e⟩ := quo_form hx hy hn
  have hw := word_ok (s ^^ t) (rung_le (2 ^ 52) II (m * 2 ^ (i - j + 1074).toNat) (n * 2 ^ (j - i - 1074).toNat) τ)
  exact ⟨τ, r, by rw [F_some e hw]; exact hw, by rw [F_some e hw, key_word _ (rung_le _ _ _ _ _)]⟩
theorem ratio_le {m m' n : Nat} {i i' j : Int} (i0 : -1074 ≤ i) (i0' : -1074 ≤ i') (j0 : -1074 ≤ j) (h : m * 2 ^ (i + 1074).toNat ≤ m' * 2 ^ (i' + 1074).toNat) :
    m * 2 ^ (i - j + 1074).toNat * (n * 2 ^ (j - i' - 1074).toNat) ≤ m' * 2 ^ (i' - j + 1074).toNat * (n * 2 ^ (j - i - 1074).toNat) := by
  generalize ha : (i - j + 1074).toNat = a
  generalize hb : (j - i - 1074).toNat = b
  generalize ha' : (i' - j + 1074).toNat = a'
  generalize hb' : (j - i' - 1074).toNat = b'
  generalize hJ : (j + 1074).toNat = J
  have h1 : m * 2 ^ (i + 1074).toNat * 2 ^ (b + b' + 1074) ≤ m' * 2 ^ (i' + 1074).toNat * 2 ^ (b + b' + 1074) := Nat.mul_le_mul_right _ h
  rw [Nat.mul_assoc, Nat.mul_assoc, ← Nat.pow_add, ← Nat.pow_add, show (i + 1074).toNat + (b + b' + 1074) = a + b' + J by omega, show (i' + 1074).toNat + (b + b' + 1074) = a' + b + J by omega, Nat.pow_add 2 (a + b') J, Nat.pow_add 2 (a' + b) J, ← Nat.mul_assoc, ← Nat.mul_assoc] at h1
  have h2 := Nat.le_of_mul_le_mul_right h1 (Nat.two_pow_pos J)
  have e1 : m * 2 ^ a * (n * 2 ^ b') = m * 2 ^ (a + b') * n := by rw [Nat.pow_add]; simp only [Nat.mul_assoc, Nat.mul_left_comm, Nat.mul_comm]
  have e2 : m' * 2 ^ a' * (n * 2 ^ b) = m' * 2 ^ (a' + b) * n := by rw [Nat.pow_add]; simp only [Nat.mul_assoc, Nat.mul_left_comm, Nat.mul_comm]
  rw [e1, e2]
  exact Nat.mul_le_mul_right _ h2
theorem sg_up {s s' : Bool} {a b r r' : Nat} (h : sg s a ≤ sg s' b) (h1 : a ≤ b → r ≤ r') (h2 : b ≤ a → r' ≤ r) (z : a = 0 → r = 0) (z' : b = 0 → r' = 0) : sg s r ≤ sg s' r' := by
  unfold sg at *
  cases s <;> cases s' <;> simp only [if_true, if_false, Bool.false_eq_true] at *
  · have := h1 (by omega); omega
  · have := z (by omega); have := z' (by omega); omega
  · omega
  · have := h2 (by omega); omega
theorem sg_not (s : Bool) (r : Nat) : sg (!s) r = - sg s r := by unfold sg; cases s <;> simp
/-- A quotient goes up with what is divided, or down, as what it is divided by is above or below nought. -/
theorem quo_mono {x x' y : Nat} (hx : Fin x) (hx' : Fin x') (hy : Fin y) (h : key x ≤ key x') (hz : V y ≠ 0) : isN (F .quo x y) = false ∧ isN (F .quo x' y) = false ∧ (0 < V y → key (F .quo x y) ≤ key (F .quo x' y)) ∧ (V y < 0 → key (F .quo x' y) ≤ key (F .quo x y)) := by
  have hv := V_key hx hx'
  have hv : V x ≤ V x' := by omega
  obtain ⟨s, m, i, ex⟩ := hx
  obtain ⟨s', m', i', ex'⟩ := hx'
  obtain ⟨t, n, j, ey⟩ := hy
  obtain ⟨_, i0, _⟩ := read_form ex
  obtain ⟨_, i0', _⟩ := read_form ex'
  obtain ⟨_, j0, _⟩ := read_form ey
  have hn : n ≠ 0 := by
    rintro rfl
    exact hz (by rw [V_of ey, signed_0])
  obtain ⟨τ, r1, n1, k1⟩ := quo_key ex ey hn
  obtain ⟨τ', r2, n2, k2⟩ := quo_key ex' ey hn
  have hs : ∀ (s : Bool) (m k : Nat), signed s m k = sg s (m * 2 ^ k) := fun s m k => by
    unfold signed sg; rw [Nat.shiftLeft_eq]
  have yt : (t = true ↔ V y < 0) ∧ (t = false ↔ 0 < V y) := by
    rw [V_of ey, hs]
    have p := Nat.mul_pos (Nat.pos_of_ne_zero hn) (Nat.two_pow_pos (j + 1074).toNat)
    generalize n * 2 ^ (j + 1074).toNat = N at *
    unfold sg
    cases t
    · exact ⟨⟨fun h => (by cases h), fun h => (by rw [if_neg (by decide)] at h; omega)⟩, ⟨fun _ => (by rw [if_neg (by decide)]; omega), fun _ => rfl⟩⟩
    · exact ⟨⟨fun _ => (by rw [if_pos rfl]; omega), fun _ => rfl⟩, ⟨fun h => (by cases h), fun h => (by rw [if_pos rfl] at h; omega)⟩⟩
  rw [V_of ex, V_of ex', hs, hs] at hv
  have d1 : 0 < n * 2 ^ (j - i - 1074).toNat := Nat.mul_pos (Nat.pos_of_ne_zero hn) (Nat.two_pow_pos _)
  have d2 : 0 < n * 2 ^ (j - i' - 1074).toNat := Nat.mul_pos (Nat.pos_of_ne_zero hn) (Nat.two_pow_pos _)
  have z : ∀ {m : Nat} {k k2 τ : Nat} {D : Nat}, 0 < D → Rng (2 ^ 52) (m * 2 ^ k2) D τ → m * 2 ^ k = 0 → rung (2 ^ 52) II (m * 2 ^ k2) D τ = 0 := fun {m k k2 τ D} hD hr h => by
    have : m = 0 := by
      rcases Nat.mul_eq_zero.1 h with h | h
      · exact h
      · have := Nat.two_pow_pos k; omega
    subst this
    rw [Nat.zero_mul] at hr ⊢
    exact rng_0 (Nat.two_pow_pos _) hD hr
  have key0 : sg s (rung (2 ^ 52) II (m * 2 ^ (i - j + 1074).toNat) (n * 2 ^ (j - i - 1074).toNat) τ) ≤ sg s' (rung (2 ^ 52) II (m' * 2 ^ (i' - j + 1074).toNat) (n * 2 ^ (j - i' - 1074).toNat) τ') :=
    sg_up hv (fun g => rung_mono d1 d2 (ratio_le i0 i0' j0 g) r1 r2) (fun g => rung_mono d2 d1 (ratio_le i0' i0 j0 g) r2 r1) (z d1 r1) (z d2 r2)
  refine ⟨n1, n2, fun g => ?_, fun g => ?_⟩
  · rw [k1, k2, yt.2.2 g, Bool.xor_false, Bool.xor_false]
    exact key0
  · rw [k1, k2, yt.1.2 g, Bool.xor_true, Bool.xor_true, sg_not, sg_not]
    omega
end Flt
end Go.Proofs.Ytgbcnfcgljbbgaa
/- Spans: both ways of combining rows are one. -/
namespace Go.Proofs.Ytgbcnfcgljbbgaa
open Go.RowKit Ev Flt
set_option linter.unusedVariables false
set_option linter.unusedSimpArgs false

theorem flt_num {x y : Nat} (h : flt x y = true) : isN x = false ∧ isN y = false := by
  constructor
  · cases e : isN x
    · rfl
    · rw [(flt_nan e).1] at h; cases h
  · cases e : isN y
    · rfl
    · rw [← fgt_flt, (flt_nan e).2.2] at h; cases h
/-- A span of numbers that isn't empty. -/
structure OkS (x : Spn) : Prop where
  na : isN x.a = false
  nd : isN x.d = false
  lt : key x.a < key x.d
theorem ok_of {x : Spn} (h : flt x.a x.d = true) : OkS x := by
  obtain ⟨a, b⟩ := flt_num h
  refine ⟨a, b, ?_⟩
  rw [flt_key a b] at h
  exact of_decide_eq_true h
theorem OkS.flt {x : Spn} (h : OkS x) : flt x.a x.d = true := by rw [flt_key h.na h.nd]; exact decide_eq_true h.lt
/-- Spans rise, and none is empty. -/
def Good : List Spn → Prop
  | [] => True
  | x :: r => OkS x ∧ (∀ y, y ∈ r → key x.d ≤ key y.a) ∧ Good r
theorem Good.ok {L : List Spn} (h : Good L) : ∀ x, x ∈ L → OkS x := by
  induction L with
  | nil => intro x hx; cases hx
  | cons y r ih =>
    intro x hx
    rcases List.mem_cons.1 hx with rfl | hx
    · exact h.1
    · exact ih h.2.2 x hx
theorem Good.take {L : List Spn} (h : Good L) : ∀ n, Good (L.take n) := by
  induction L with
  | nil => intro n; simp; trivial
  | cons y r ih =>
    intro n
    cases n with
    | zero => trivial
    | succ n => exact ⟨h.1, fun z hz => h.2.1 z (List.mem_of_mem_take hz), ih h.2.2 n⟩
theorem good_app {L M : List Spn} (hL : Good L) (hM : Good M) (h : ∀ x, x ∈ L → ∀ y, y ∈ M → key x.d ≤ key y.a) : Good (L ++ M) := by
  induction L with
  | nil => exact hM
  | cons x r ih =>
    refine ⟨hL.1, fun y hy => ?_, ih hL.2.2 fun z hz y hy => h z (by simp [hz]) y hy⟩
    rcases List.mem_append.1 hy with hy | hy
    · exact hL.2.1 y hy
    · exact h x (by simp) y hy
theorem good_l {L M : List Spn} (h : Good (L ++ M)) : Good L := by
  induction L with
  | nil => trivial
  | cons x r ih => exact ⟨h.1, fun y hy => h.2.1 y (List.mem_append_left _ hy), ih h.2.2⟩
/-- Ends that are among few. -/
def Ends (E : List Nat) (L : List Spn) : Prop := ∀ x, x ∈ L → x.a ∈ E ∧ x.d ∈ E
theorem good_len : ∀ {L : List Spn} {E : List Nat}, Good L → (∀ x, x ∈ L → x.a ∈ E) → L.length ≤ E.length
  | [], E, _, _ => Nat.zero_le _
  | x :: r, E, h, hE => by
    have hx := hE x (by simp)
    have := good_len (L := r) (E := E.erase x.a) h.2.2 fun y hy => (List.mem_erase_of_ne (by
      intro e
      have h1 := h.2.1 y hy
      have h2 := h.1.lt
      rw [e] at h1; omega)).2 (hE y (by simp [hy]))
    rw [List.length_erase_of_mem hx] at this
    have : 0 < E.length := List.length_pos_of_mem hx
    simp only [List.length_cons]; omega

/- What both have. -/
theorem inter_a {x y : Spn} (hx : OkS x) (hy : OkS y) : isN (interS x y).a = false ∧ isN (interS x y).d = false ∧ key (interS x y).a = max (key x.a) (key y.a) ∧ key (interS x y).d = min (key x.d) (key y.d) := by
  unfold interS
  simp only
  rw [fgt_key hy.na hx.na, flt_key hy.nd hx.nd]
  by_cases h1 : key x.a < key y.a <;> by_cases h2 : key y.d < key x.d <;> simp [h1, h2, hx.na, hx.nd, hy.na, hy.nd] <;> omega
theorem interL_no {x y : Spn} (hx : OkS x) (hy : OkS y) (h : key x.d ≤ key y.a ∨ key y.d ≤ key x.a) : interL x y = [] := by
  obtain ⟨h1, h2, h3, h4⟩ := inter_a hx hy
  unfold interL
  rw [flt_key h1 h2, decide_eq_false (by have := hx.lt; have := hy.lt; omega)]; rfl
theorem interL_mem {x y z : Spn} (h : z ∈ interL x y) : z = interS x y ∧ OkS z := by
  unfold interL at h
  cases e : flt (interS x y).a (interS x y).d with
  | false => rw [e] at h; cases h
  | true =>
    rw [e] at h
    have : z = interS x y := by simpa using h
    subst this
    exact ⟨rfl, ok_of e⟩
theorem interL_good (x y : Spn) : Good (interL x y) := by
  unfold interL
  cases e : flt (interS x y).a (interS x y).d with
  | false => trivial
  | true => exact ⟨ok_of e, (fun w hw => by cases hw), trivial⟩
theorem flatMap_nil' {f : Spn → List Spn} : ∀ {L : List Spn}, (∀ x, x ∈ L → f x = []) → L.flatMap f = []
  | [], _ => rfl
  | x :: r, h => by rw [List.flatMap_cons, h x (by simp), flatMap_nil' fun y hy => h y (by simp [hy])]; rfl
theorem flatMap_ext' {f g : Spn → List Spn} : ∀ {L : List Spn}, (∀ x, x ∈ L → f x = g x) → L.flatMap f = L.flatMap g
  | [], _ => rfl
  | x :: r, h => by rw [List.flatMap_cons, List.flatMap_cons, h x (by simp), flatMap_ext' fun y hy => h y (by simp [hy])]
theorem pairs_t {x y : Spn} {a b : List Spn} (hA : Good (x :: a)) (hB : Good (y :: b)) (h : flt y.d x.d = true) : pairsL (x :: a) (y :: b) = interL x y ++ pairsL (x :: a) b := by
  have hk : key y.d < key x.d := by rw [flt_key hB.1.nd hA.1.nd] at h; exact of_decide_eq_true h
  unfold pairsL
  rw [List.flatMap_cons, List.flatMap_cons, List.flatMap_cons, List.append_assoc]
  congr 2
  exact flatMap_ext' fun x' hx' => by
    rw [List.flatMap_cons, interL_no (hA.2.2.ok x' hx') hB.1 (.inr (by have := hA.2.1 x' hx'; omega))]; rfl
theorem pairs_f {x y : Spn} {a b : List Spn} (hA : Good (x :: a)) (hB : Good (y :: b)) (h : flt y.d x.d = false) : pairsL (x :: a) (y :: b) = interL x y ++ pairsL a (y :: b) := by
  have hk : key x.d ≤ key y.d := by rw [flt_key hB.1.nd hA.1.nd] at h; have := of_decide_eq_false h; omega
  unfold pairsL
  rw [List.flatMap_cons, List.flatMap_cons, flatMap_nil' (L := b) (fun y' hy' => interL_no hA.1 (hB.2.2.ok y' hy') (.inl (by have := hB.2.1 y' hy'; omega))), List.append_nil]
theorem pairs_both : ∀ (n : Nat) (A B : List Spn), A.length + B.length = n → Good A → Good B → pairsL A B = bothL A B
  | n, [], B, _, _, _ => by rw [bothL_nil1]; rfl
  | n, A, [], _, _, _ => by
    rw [bothL_nil2]; unfold pairsL
    exact flatMap_nil' fun x _ => rfl
  | 0, x :: a, y :: b, h, _, _ => by simp at h
  | n + 1, x :: a, y :: b, h, hA, hB => by
    simp only [List.length_cons] at h
    rw [bothL_cons]
    cases e : flt y.d x.d with
    | true => rw [pairs_t hA hB e, pairs_both n (x :: a) b (by simp only [List.length_cons]; omega) hA hB.2.2]; rfl
    | false => rw [pairs_f hA hB e, pairs_both n a (y :: b) (by simp only [List.length_cons]; omega) hA.2.2 hB]; rfl
theorem pairs_mem {A B : List Spn} {z : Spn} (h : z ∈ pairsL A B) : ∃ x y, x ∈ A ∧ y ∈ B ∧ z = interS x y ∧ OkS z := by
  unfold pairsL at h
  obtain ⟨x, hx, h⟩ := List.mem_flatMap.1 h
  obtain ⟨y, hy, h⟩ := List.mem_flatMap.1 h
  exact ⟨x, y, hx, hy, interL_mem h⟩
theorem pairs_good : ∀ (n : Nat) (A B : List Spn), A.length + B.length = n → Good A → Good B → Good (pairsL A B)
  | n, [], B, _, _, _ => trivial
  | n, A, [], _, _, _ => by
    have : pairsL A [] = [] := flatMap_nil' fun x _ => rfl
    rw [this]; trivial
  | 0, x :: a, y :: b, h, _, _ => by simp at h
  | n + 1, x :: a, y :: b, h, hA, hB => by
    simp only [List.length_cons] at h
    cases e : flt y.d x.d with
    | true =>
      rw [pairs_t hA hB e]
      refine good_app (interL_good x y) (pairs_good n (x :: a) b (by simp only [List.length_cons]; omega) hA hB.2.2) fun z hz w hw => ?_
      obtain ⟨rfl, _⟩ := interL_mem hz
      obtain ⟨x', y', h1, h2, rfl, _⟩ := pairs_mem hw
      have q1 := (inter_a hA.1 hB.1).2.2.2
      have q2 := (inter_a (hA.ok x' h1) (hB.2.2.ok y' h2)).2.2.1
      have q3 := hB.2.1 y' h2
      omega
    | false =>
      rw [pairs_f hA hB e]
      refine good_app (interL_good x y) (pairs_good n a (y :: b) (by simp only [List.length_cons]; omega) hA.2.2 hB) fun z hz w hw => ?_
      obtain ⟨rfl, _⟩ := interL_mem hz
      obtain ⟨x', y', h1, h2, rfl, _⟩ := pairs_mem hw
      have q1 := (inter_a hA.1 hB.1).2.2.2
      have q2 := (inter_a (hA.2.2.ok x' h1) (hB.ok y' h2)).2.2.1
      have q3 := hA.2.1 x' h1
      omega
theorem pairs_ends {A B : List Spn} {E : List Nat} (hA : Ends E A) (hB : Ends E B) : Ends E (pairsL A B) := fun z hz => by
  obtain ⟨x, y, hx, hy, rfl, _⟩ := pairs_mem hz
  have h1 := hA x hx
  have h2 := hB y hy
  unfold interS
  constructor
  · show (bif fgt y.a x.a then y.a else x.a) ∈ E
    cases fgt y.a x.a
    · exact h1.1
    · exact h2.1
  · show (bif flt y.d x.d then y.d else x.d) ∈ E
    cases flt y.d x.d
    · exact h1.2
    · exact h2.2

/- What is cut out. -/
theorem skip_key {x y : Spn} (ha : isN x.a = false) (hd : isN y.d = false) : skipS x y = decide (key y.d ≤ key x.a) := by
  unfold skipS
  rw [flt_key hd ha, feq_key hd ha, Bool.eq_iff_iff]
  simp only [Bool.or_eq_true, decide_eq_true_eq]; omega
theorem stop_key {x y : Spn} (hd : isN x.d = false) (ha : isN y.a = false) : stopS x y = decide (key x.d ≤ key y.a) := by
  unfold stopS
  rw [fgt_key ha hd, feq_key ha hd, Bool.eq_iff_iff]
  simp only [Bool.or_eq_true, decide_eq_true_eq]; omega
theorem fin_key {x : Spn} (ha : isN x.a = false) (hd : isN x.d = false) : finS x = if key x.a < key x.d then [x] else [] := by
  unfold finS
  rw [flt_key ha hd]
  by_cases h : key x.a < key x.d <;> simp [h]
theorem lessX_fin {x : Spn} (ha : isN x.a = false) (hd : isN x.d = false) : ∀ {b : List Spn}, (∀ y, y ∈ b → OkS y ∧ key x.d ≤ key y.a ∧ key x.a ≤ key y.a) → lessX x b = finS x
  | [], _ => rfl
  | y :: b, h => by
    obtain ⟨h1, h2, h3⟩ := h y (by simp)
    show (bif skipS x y then lessX x b else bif stopS x y then finS x else cutS x y ++ lessX (behindS x y) b) = finS x
    rw [skip_key ha h1.nd, stop_key hd h1.na, decide_eq_false (by have := h1.lt; omega), decide_eq_true h2]; rfl
theorem cut_less : ∀ (B D : List Spn) (x : Spn), Good B → isN x.a = false → isN x.d = false → (∀ p, p ∈ D → isN p.d = false ∧ ∀ y, y ∈ B → key p.d ≤ key y.a) → (key x.a < key x.d ∨ ∀ y, y ∈ B → key x.a ≤ key y.a) →
    B.foldl (fun l y => l.flatMap (fcutS y)) (D ++ finS x) = D ++ lessX x B
  | [], D, x, _, _, _, _, _ => rfl
  | y :: b, D, x, hB, ha, hd, hD, hx => by
    have hy := hB.1
    have hfl : (D ++ finS x).flatMap (fcutS y) = D ++ (finS x).flatMap (fcutS y) := by
      rw [List.flatMap_append]
      congr 1
      have : ∀ (l : List Spn), (∀ p, p ∈ l → p ∈ D) → l.flatMap (fcutS y) = l := fun l => by
        induction l with
        | nil => intro _; rfl
        | cons p r ih =>
          intro hl
          obtain ⟨p1, p2⟩ := hD p (hl p (by simp))
          have hs : stopS p y = true := by rw [stop_key p1 hy.na]; exact decide_eq_true (p2 y (by simp))
          rw [List.flatMap_cons, ih fun q hq => hl q (by simp [hq])]
          unfold fcutS
          rw [hs, Bool.or_true]; rfl
      exact this D fun _ h => h
    have hD' : ∀ p, p ∈ D → isN p.d = false ∧ ∀ z, z ∈ b → key p.d ≤ key z.a := fun p hp => ⟨(hD p hp).1, fun z hz => (hD p hp).2 z (by simp [hz])⟩
    show b.foldl (fun l y => l.flatMap (fcutS y)) ((D ++ finS x).flatMap (fcutS y)) = D ++ (bif skipS x y then lessX x b else bif stopS x y then finS x else cutS x y ++ lessX (behindS x y) b)
    rw [hfl]
    by_cases hne : key x.a < key x.d
    · have hf : finS x = [x] := by rw [fin_key ha hd, if_pos hne]
      have hone : (finS x).flatMap (fcutS y) = fcutS y x := by rw [hf]; simp
      have hcf : fcutS y x = bif skipS x y || stopS x y then [x] else cutS x y ++ tailS x y := rfl
      rw [hone, hcf, skip_key ha hy.nd, stop_key hd hy.na]
      by_cases h1 : key y.d ≤ key x.a
      · rw [decide_eq_true h1]
        show b.foldl _ (D ++ [x]) = D ++ lessX x b
        rw [← hf]
        exact cut_less b D x hB.2.2 ha hd hD' (.inl hne)
      · rw [decide_eq_false h1]
        by_cases h2 : key x.d ≤ key y.a
        · rw [decide_eq_true h2]
          show b.foldl _ (D ++ [x]) = D ++ finS x
          rw [← hf, cut_less b D x hB.2.2 ha hd hD' (.inl hne), lessX_fin ha hd]
          intro z hz
          have := hB.2.1 z hz
          have := hy.lt
          exact ⟨hB.2.2.ok z hz, by omega, by omega⟩
        · rw [decide_eq_false h2]
          show b.foldl _ (D ++ (cutS x y ++ tailS x y)) = D ++ (cutS x y ++ lessX (behindS x y) b)
          have ht : tailS x y = finS (behindS x y) := rfl
          rw [ht, ← List.append_assoc, ← List.append_assoc]
          refine cut_less b (D ++ cutS x y) (behindS x y) hB.2.2 hy.nd hd (fun p hp => ?_) (.inr fun z hz => hB.2.1 z hz)
          rcases List.mem_append.1 hp with hp | hp
          · exact hD' p hp
          · unfold cutS at hp
            cases e : flt x.a y.a with
            | false => rw [e] at hp; cases hp
            | true =>
              rw [e] at hp
              have : p = beforeS x y := by simpa using hp
              subst this
              refine ⟨hy.na, fun z hz => ?_⟩
              have := hB.2.1 z hz
              have := hy.lt
              show key y.a ≤ key z.a
              omega
    · have hf : finS x = [] := by rw [fin_key ha hd, if_neg hne]
      have hx' := hx.resolve_left hne
      have h1 := hx' y (by simp)
      have hlt := hy.lt
      rw [hf]
      show b.foldl _ (D ++ []) = _
      rw [skip_key ha hy.nd, stop_key hd hy.na, decide_eq_false (by omega), decide_eq_true (by omega)]
      show b.foldl _ (D ++ []) = D ++ []
      rw [← hf, cut_less b D x hB.2.2 ha hd hD' (.inr fun z hz => hx' z (by simp [hz])), lessX_fin ha hd]
      intro z hz
      have := hx' z (by simp [hz])
      exact ⟨hB.2.2.ok z hz, by omega, by omega⟩
theorem ncutS_less {x : Spn} {B : List Spn} (hx : OkS x) (hB : Good B) (i : Nat) : ncutS x B i = lessX x (B.take i) := by
  have hf : finS x = [x] := by rw [fin_key hx.na hx.nd, if_pos hx.lt]
  have := cut_less (B.take i) [] x (hB.take i) hx.na hx.nd (fun p hp => by cases hp) (.inl hx.lt)
  rw [hf] at this
  exact this
theorem cutAll_less {A B : List Spn} (hA : Good A) (hB : Good B) : cutAll A B = lessL A B := flatMap_ext' fun x hx => by
  show ncutS x B B.length = lessX x B
  rw [ncutS_less (hA.ok x hx) hB, List.take_length]
/-- The pieces of a span are within it, and rise. -/
theorem fin_good {x : Spn} (ha : isN x.a = false) (hd : isN x.d = false) : Good (finS x) ∧ ∀ z, z ∈ finS x → key x.a ≤ key z.a ∧ key z.d ≤ key x.d := by
  rw [fin_key ha hd]
  split
  · rename_i h
    refine ⟨⟨⟨ha, hd, h⟩, fun y hy => (by cases hy), trivial⟩, fun z hz => ?_⟩
    have : z = x := by simpa using hz
    subst this; omega
  · exact ⟨trivial, fun z hz => by cases hz⟩
theorem fin_ends {E : List Nat} {x : Spn} (ha : x.a ∈ E) (hd : x.d ∈ E) : Ends E (finS x) := fun z hz => by
  unfold finS at hz
  cases e : flt x.a x.d with
  | false => rw [e] at hz; cases hz
  | true =>
    rw [e] at hz
    have : z = x := by simpa using hz
    subst this; exact ⟨ha, hd⟩
theorem lessX_good : ∀ (b : List Spn) (x : Spn), Good b → isN x.a = false → isN x.d = false → Good (lessX x b) ∧ ∀ z, z ∈ lessX x b → key x.a ≤ key z.a ∧ key z.d ≤ key x.d
  | [], x, _, ha, hd => fin_good ha hd
  | y :: b, x, hB, ha, hd => by
    have hy := hB.1
    show Good (bif skipS x y then lessX x b else bif stopS x y then finS x else cutS x y ++ lessX (behindS x y) b) ∧ ∀ z, z ∈ (bif skipS x y then lessX x b else bif stopS x y then finS x else cutS x y ++ lessX (behindS x y) b) → _
    rw [skip_key ha hy.nd, stop_key hd hy.na]
    by_cases h1 : key y.d ≤ key x.a
    · rw [decide_eq_true h1]; exact lessX_good b x hB.2.2 ha hd
    · rw [decide_eq_false h1]
      by_cases h2 : key x.d ≤ key y.a
      · rw [decide_eq_true h2]; exact fin_good ha hd
      · rw [decide_eq_false h2]
        obtain ⟨g1, g2⟩ := lessX_good b (behindS x y) hB.2.2 hy.nd hd
        have hc : Good (cutS x y) ∧ ∀ z, z ∈ cutS x y → key x.a ≤ key z.a ∧ key z.d ≤ key y.a := by
          unfold cutS
          rw [flt_key ha hy.na]
          by_cases h3 : key x.a < key y.a
          · rw [decide_eq_true h3]
            refine ⟨⟨⟨ha, hy.na, h3⟩, fun z hz => (by cases hz), trivial⟩, fun z hz => ?_⟩
            have : z = beforeS x y := by simpa using hz
            subst this
            exact ⟨Int.le_refl _, Int.le_refl _⟩
          · rw [decide_eq_false h3]; exact ⟨trivial, fun z hz => by cases hz⟩
        have hlt := hy.lt
        refine ⟨good_app hc.1 g1 fun z hz w hw => ?_, fun z hz => ?_⟩
        · have q1 := (hc.2 z hz).2
          have q2 : key y.d ≤ key w.a := (g2 w hw).1
          omega
        · rcases List.mem_append.1 hz with hz | hz
          · have := hc.2 z hz; omega
          · have q1 : key y.d ≤ key z.a ∧ key z.d ≤ key x.d := g2 z hz
            omega
theorem less_good : ∀ {A B : List Spn}, Good A → Good B → Good (lessL A B)
  | [], B, _, _ => trivial
  | x :: a, B, hA, hB => by
    obtain ⟨g1, g2⟩ := lessX_good B x hB hA.1.na hA.1.nd
    have : lessL (x :: a) B = lessX x B ++ lessL a B := List.flatMap_cons ..
    rw [this]
    refine good_app g1 (less_good hA.2.2 hB) fun z hz w hw => ?_
    obtain ⟨x', hx', hw⟩ := List.mem_flatMap.1 hw
    have q1 := (g2 z hz).2
    have hok := hA.2.2.ok x' hx'
    have q2 := ((lessX_good B x' hB hok.na hok.nd).2 w hw).1
    have q3 := hA.2.1 x' hx'
    omega
theorem lessX_ends {E : List Nat} : ∀ (b : List Spn) (x : Spn), x.a ∈ E → x.d ∈ E → Ends E b → Ends E (lessX x b)
  | [], x, ha, hd, _ => fin_ends ha hd
  | y :: b, x, ha, hd, hb => by
    have hb' : Ends E b := fun z hz => hb z (by simp [hz])
    have hy := hb y (by simp)
    show Ends E (bif skipS x y then lessX x b else bif stopS x y then finS x else cutS x y ++ lessX (behindS x y) b)
    cases skipS x y
    · cases stopS x y
      · intro z hz
        rcases List.mem_append.1 hz with hz | hz
        · unfold cutS at hz
          cases e : flt x.a y.a with
          | false => rw [e] at hz; cases hz
          | true =>
            rw [e] at hz
            have : z = beforeS x y := by simpa using hz
            subst this; exact ⟨ha, hy.1⟩
        · exact lessX_ends b (behindS x y) hy.2 hd hb' z hz
      · exact fin_ends ha hd
    · exact lessX_ends b x ha hd hb'
theorem less_ends {A B : List Spn} {E : List Nat} (hA : Ends E A) (hB : Ends E B) : Ends E (lessL A B) := fun z hz => by
  obtain ⟨x, hx, hz⟩ := List.mem_flatMap.1 hz
  exact lessX_ends B x (hA x hx).1 (hA x hx).2 hB z hz

/- Both in one. -/
/-- Spans by their beginnings. -/
def SortA : List Spn → Prop
  | [] => True
  | x :: r => OkS x ∧ (∀ y, y ∈ r → key x.a ≤ key y.a) ∧ SortA r
theorem Good.sortA : ∀ {L : List Spn}, Good L → SortA L
  | [], _ => trivial
  | x :: r, h => ⟨h.1, fun y hy => by have := h.2.1 y hy; have := h.1.lt; omega, Good.sortA h.2.2⟩
theorem mem_tail_getD {a : List Spn} {z : Spn} (h : 0 < a.length) : z ∈ a ↔ z = a.getD 0 spnZ ∨ z ∈ a.tail := by
  cases a with
  | nil => simp at h
  | cons x r => simp [List.getD]
theorem merge_mem : ∀ (n : Nat) (A B : List Spn), A.length + B.length = n → ∀ z, z ∈ mergeL A B → z ∈ A ∨ z ∈ B
  | 0, A, B, h, z, hz => by rw [merge_nil (by omega)] at hz; cases hz
  | n + 1, A, B, h, z, hz => by
    rw [merge_step (by omega)] at hz
    cases hf : firstS A B with
    | true =>
      have hp := first_pos (by omega) hf
      rw [hf] at hz
      rcases List.mem_cons.1 hz with e | hz
      · exact .inl ((mem_tail_getD hp).2 (.inl e))
      · rcases merge_mem n A.tail B (by rw [List.length_tail]; omega) z hz with g | g
        · exact .inl ((mem_tail_getD hp).2 (.inr g))
        · exact .inr g
    | false =>
      have hp := first_neg hf
      rw [hf] at hz
      rcases List.mem_cons.1 hz with e | hz
      · exact .inr ((mem_tail_getD hp).2 (.inl e))
      · rcases merge_mem n A B.tail (by rw [List.length_tail]; omega) z hz with g | g
        · exact .inl g
        · exact .inr ((mem_tail_getD hp).2 (.inr g))
theorem sort_hd {a : List Spn} (h : SortA a) (hp : 0 < a.length) : OkS (a.getD 0 spnZ) ∧ (∀ z, z ∈ a → key (a.getD 0 spnZ).a ≤ key z.a) ∧ SortA a.tail := by
  cases a with
  | nil => simp at hp
  | cons x r =>
    refine ⟨h.1, fun z hz => ?_, h.2.2⟩
    rcases List.mem_cons.1 hz with rfl | hz
    · exact Int.le_refl _
    · exact h.2.1 z hz
theorem first_key {A B : List Spn} (hA : SortA A) (hB : SortA B) : firstS A B = (decide (B.length = 0) || (decide (0 < A.length) && decide (key (A.getD 0 spnZ).a ≤ key (B.getD 0 spnZ).a))) := by
  unfold firstS
  rcases Nat.eq_zero_or_pos B.length with e | hb
  · rw [e]; rfl
  · rcases Nat.eq_zero_or_pos A.length with e | ha
    · rw [e]
      have : ¬ (B.length : Int) = 0 := by omega
      have h2 : ¬ B.length = 0 := by omega
      simp [this, h2]
    · have h1 := (sort_hd hA ha).1.na
      have h2 := (sort_hd hB hb).1.na
      rw [flt_key h1 h2, feq_key h1 h2, Bool.eq_iff_iff]
      simp only [Bool.or_eq_true, Bool.and_eq_true, beq_iff_eq, decide_eq_true_eq]
      omega
theorem merge_sort : ∀ (n : Nat) (A B : List Spn), A.length + B.length = n → SortA A → SortA B → SortA (mergeL A B)
  | 0, A, B, h, _, _ => by rw [merge_nil (by omega)]; trivial
  | n + 1, A, B, h, hA, hB => by
    rw [merge_step (by omega)]
    have hk := first_key hA hB
    cases hf : firstS A B with
    | true =>
      have hp := first_pos (by omega) hf
      obtain ⟨a1, a2, a3⟩ := sort_hd hA hp
      refine ⟨a1, fun z hz => ?_, merge_sort n A.tail B (by rw [List.length_tail]; omega) a3 hB⟩
      rcases merge_mem n A.tail B (by rw [List.length_tail]; omega) z hz with g | g
      · exact a2 z ((mem_tail_getD hp).2 (.inr g))
      · have hb : 0 < B.length := List.length_pos_of_mem g
        have := (sort_hd hB hb).2.1 z g
        rw [hf, decide_eq_false (by omega : ¬ B.length = 0), decide_eq_true hp, Bool.false_or, Bool.true_and] at hk
        have := of_decide_eq_true hk.symm
        omega
    | false =>
      have hp := first_neg hf
      obtain ⟨a1, a2, a3⟩ := sort_hd hB hp
      refine ⟨a1, fun z hz => ?_, merge_sort n A B.tail (by rw [List.length_tail]; omega) hA a3⟩
      rcases merge_mem n A B.tail (by rw [List.length_tail]; omega) z hz with g | g
      · have ha : 0 < A.length := List.length_pos_of_mem g
        have := (sort_hd hA ha).2.1 z g
        rw [hf, decide_eq_false (by omega : ¬ B.length = 0), decide_eq_true ha, Bool.false_or, Bool.true_and] at hk
        have := of_decide_eq_false hk.symm
        omega
      · exact a2 z ((mem_tail_getD hp).2 (.inr g))
/-- What is gathered so far. -/
structure Gath (o : List Spn) (M : List Spn) : Prop where
  good : Good o
  last : ∀ x, x ∈ M → 0 < o.length → key (lastS o).a ≤ key x.a
theorem last_split {o : List Spn} (h : 0 < o.length) : o = o.dropLast ++ [lastS o] := by
  have hne : o ≠ [] := by intro e; rw [e] at h; simp at h
  have e := List.dropLast_concat_getLast hne
  have : lastS o = o.getLast hne := by
    unfold lastS
    rw [List.getLast_eq_getElem]
    have : o.length - 1 < o.length := by omega
    simp [List.getD, this]
  rw [this]; exact e.symm
theorem good_split {L : List Spn} {x : Spn} (h : Good (L ++ [x])) : OkS x ∧ (∀ z, z ∈ L → key z.d ≤ key x.a) ∧ Good L := by
  refine ⟨h.ok x (by simp), fun z hz => ?_, good_l h⟩
  induction L with
  | nil => cases hz
  | cons y r ih =>
    rcases List.mem_cons.1 hz with rfl | hz
    · exact h.2.1 x (by simp)
    · exact ih h.2.2 hz
theorem touch_key {o : List Spn} {x : Spn} (h : 0 < o.length) (hl : OkS (lastS o)) (hx : OkS x) : touchS o x = decide (key x.a ≤ key (lastS o).d) := by
  unfold touchS
  show (decide ((o.length : Int) > 0) && (flt x.a (lastS o).d || feq x.a (lastS o).d)) = _
  rw [flt_key hx.na hl.nd, feq_key hx.na hl.nd, decide_eq_true (by omega), Bool.true_and, Bool.eq_iff_iff]
  simp only [Bool.or_eq_true, decide_eq_true_eq]; omega
theorem touch_nil {o : List Spn} {x : Spn} (h : o.length = 0) : touchS o x = false := by unfold touchS; rw [h]; rfl
theorem newR_nil {o : List Spn} {x : Spn} (h : o.length = 0) : newR o x = true := by unfold newR; rw [h]; rfl
theorem newR_key {o : List Spn} {x : Spn} (h : 0 < o.length) (hl : OkS (lastS o)) (hx : OkS x) : newR o x = decide (key (lastS o).d < key x.a) := by
  unfold newR
  show (((o.length : Int) == 0) || fgt x.a (lastS o).d) = _
  have e : ((o.length : Int) == 0) = false := by rw [beq_eq_false_iff_ne]; omega
  rw [e, fgt_key hx.na hl.nd]; rfl
theorem later_last {l x : Spn} (hl : OkS l) (hx : OkS x) : OkS (laterS l x) ∧ (laterS l x).a = l.a ∧ key (laterS l x).d = max (key l.d) (key x.d) ∧ ((laterS l x).d = l.d ∨ (laterS l x).d = x.d) := by
  have h1 := hl.lt
  unfold laterS
  rw [fgt_key hx.nd hl.nd]
  by_cases h : key l.d < key x.d
  · rw [decide_eq_true h]
    refine ⟨⟨hl.na, hx.nd, ?_⟩, rfl, ?_, .inr rfl⟩
    · show key l.a < key x.d; omega
    · show key x.d = _; omega
  · rw [decide_eq_false h]
    refine ⟨⟨hl.na, hl.nd, h1⟩, rfl, ?_, .inl rfl⟩
    show key l.d = _; omega
theorem push_same {o : List Spn} {x : Spn} (ho : Good o) (hx : OkS x) : pushR o x = pushS o x := by
  rcases Nat.eq_zero_or_pos o.length with e | hp
  · unfold pushR pushS; rw [touch_nil e, newR_nil e]; rfl
  · have hs := last_split hp
    have hl : OkS (lastS o) := by rw [hs] at ho; exact (good_split ho).1
    unfold pushR pushS
    rw [touch_key hp hl hx, newR_key hp hl hx]
    by_cases h : key x.a ≤ key (lastS o).d
    · rw [decide_eq_true h, decide_eq_false (by omega)]
      show (bif longR o x then o.dropLast ++ [longS (lastS o) x] else o) = o.dropLast ++ [laterS (lastS o) x]
      have e : longR o x = fgt x.d (lastS o).d := rfl
      rw [e]
      unfold laterS
      cases fgt x.d (lastS o).d
      · exact hs
      · rfl
    · rw [decide_eq_false h, decide_eq_true (by omega)]; rfl
theorem push_gath {o M : List Spn} {x : Spn} (h : Gath o (x :: M)) (hx : OkS x) (hM : ∀ y, y ∈ M → key x.a ≤ key y.a) : Gath (pushS o x) M := by
  rcases Nat.eq_zero_or_pos o.length with e | hp
  · have : o = [] := by cases o <;> simp at e ⊢
    subst this
    exact ⟨⟨hx, (fun w hw => by cases hw), trivial⟩, fun y hy _ => hM y hy⟩
  · have hs := last_split hp
    have ho := h.good
    rw [hs] at ho
    obtain ⟨g1, g2, g3⟩ := good_split ho
    have hla := h.last x (by simp) hp
    unfold pushS
    rw [touch_key hp g1 hx]
    by_cases hc : key x.a ≤ key (lastS o).d
    · rw [decide_eq_true hc]
      obtain ⟨q1, q2, q3, _⟩ := later_last g1 hx
      show Gath (o.dropLast ++ [laterS (lastS o) x]) M
      refine ⟨good_app g3 ⟨q1, (fun w hw => by cases hw), trivial⟩ fun z hz y hy => ?_, fun y hy _ => ?_⟩
      · have : y = laterS (lastS o) x := by simpa using hy
        rw [this, q2]; exact g2 z hz
      · have : lastS (o.dropLast ++ [laterS (lastS o) x]) = laterS (lastS o) x := by unfold lastS; simp [List.getD]
        rw [this, q2]
        exact h.last y (by simp [hy]) hp
    · rw [decide_eq_false hc]
      show Gath (o ++ [x]) M
      refine ⟨good_app h.good ⟨hx, (fun w hw => by cases hw), trivial⟩ fun z hz y hy => ?_, fun y hy _ => ?_⟩
      · have : y = x := by simpa using hy
        rw [this]
        rw [hs] at hz
        have hlt := g1.lt
        rcases List.mem_append.1 hz with hz | hz
        · have := g2 z hz; omega
        · have : z = lastS o := by simpa using hz
          rw [this]; omega
      · have : lastS (o ++ [x]) = x := by unfold lastS; simp [List.getD]
        rw [this]; exact hM y hy
theorem fold_same : ∀ (M o : List Spn), SortA M → Gath o M → M.foldl pushR o = M.foldl pushS o ∧ Good (M.foldl pushS o)
  | [], o, _, h => ⟨rfl, h.good⟩
  | x :: M, o, hM, h => by
    show M.foldl pushR (pushR o x) = M.foldl pushS (pushS o x) ∧ Good (M.foldl pushS (pushS o x))
    rw [push_same h.good hM.1]
    exact fold_same M _ hM.2.2 (push_gath h hM.1 hM.2.1)
theorem either_same {A B : List Spn} (hA : Good A) (hB : Good B) : eitherR A B = eitherL A B ∧ Good (eitherL A B) :=
  fold_same _ [] (merge_sort _ A B rfl hA.sortA hB.sortA) ⟨trivial, fun x _ h => absurd h (Nat.lt_irrefl 0)⟩
theorem push_ends {o : List Spn} {x : Spn} {E : List Nat} (ho : Ends E o) (hx : x.a ∈ E ∧ x.d ∈ E) : Ends E (pushS o x) := by
  unfold pushS
  cases ht : touchS o x
  · intro z hz
    rcases List.mem_append.1 hz with hz | hz
    · exact ho z hz
    · have : z = x := by simpa using hz
      rw [this]; exact hx
  · have hp := touch_pos ht
    have hl : lastS o ∈ o := by
      have e := last_split hp
      have : lastS o ∈ o.dropLast ++ [lastS o] := by simp
      rwa [← e] at this
    intro z hz
    rcases List.mem_append.1 hz with hz | hz
    · exact ho z (List.dropLast_subset _ hz)
    · have : z = laterS (lastS o) x := by simpa using hz
      rw [this]
      unfold laterS
      refine ⟨(ho _ hl).1, ?_⟩
      show (bif fgt x.d (lastS o).d then x.d else (lastS o).d) ∈ E
      cases fgt x.d (lastS o).d
      · exact (ho _ hl).2
      · exact hx.2
theorem fold_ends {E : List Nat} : ∀ (M o : List Spn), Ends E M → Ends E o → Ends E (M.foldl pushS o)
  | [], o, _, h => h
  | x :: M, o, hM, h => fold_ends M _ (fun z hz => hM z (by simp [hz])) (push_ends h (hM x (by simp)))
theorem either_ends {A B : List Spn} {E : List Nat} (hA : Ends E A) (hB : Ends E B) : Ends E (eitherL A B) :=
  fold_ends _ [] (fun z hz => (merge_mem _ A B rfl z hz).elim (hA z) (hB z)) fun z hz => by cases hz
theorem both_good {A B : List Spn} (hA : Good A) (hB : Good B) : Good (bothL A B) := by rw [← pairs_both _ A B rfl hA hB]; exact pairs_good _ A B rfl hA hB
theorem both_ends {A B : List Spn} {E : List Nat} (hA : Good A) (hB : Good B) (eA : Ends E A) (eB : Ends E B) : Ends E (bothL A B) := by rw [← pairs_both _ A B rfl hA hB]; exact pairs_ends eA eB
end Go.Proofs.Ytgbcnfcgljbbgaa
