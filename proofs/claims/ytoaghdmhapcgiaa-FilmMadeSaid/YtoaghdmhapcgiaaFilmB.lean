/- Films: sums. -/
import Derived.Test.YtoaghdmhapcgiaaFilmA
namespace Go.Proofs.Ytoaghdmhapcgiaa
open Go.RowKit Ev
set_option linter.unusedVariables false
set_option linter.unusedSimpArgs false
set_option maxRecDepth 20000
set_option maxHeartbeats 4000000

def addF (A B : Nat → Int) (j : Nat) : Int := IntKind.i64.wrap (A j + B j)
def sumJ (i : Nat) (A B : Nat → Int) (j : Nat) : Int := if j < i then addF A B j else A j
theorem sumJ_step (i : Nat) (A B : Nat → Int) (j : Nat) : sumJ (i + 1) A B j = if j = i then IntKind.i64.wrap (sumJ i A B i + B i) else sumJ i A B j := by
  unfold sumJ addF
  by_cases h : j = i
  · subst h; simp
  · rw [if_neg h]; split <;> split <;> first | rfl | omega
theorem sum_f : FnOk Try.prog 25 Try.f25 := ⟨Try.func25, by kernel_rfl⟩
theorem sum_a (n : Nat) (A B : Nat → Int) (hpre : 0 < n ∧ n ≤ 1000000) : ACalls Try.prog 25 [ints .i64 n A, ints .i64 n B] (ints .i64 n (addF A B)) := by
  refine acalls_len fun hlen => ?_
  simp only [lenV, len1, lenV0, len0, and_true, true_and] at hlen
  refine acalls_of (inl := hasI (P := Try.prog) [⟨32, Try.f32, Try.func32, by kernel_rfl⟩] []) (base [] [⟨32, Try.f32, Try.func32, by kernel_rfl⟩] []) 4 sum_f (And.intro (by kernel_rfl) ?_)
  repeat' (first | refine And.intro ?_ ?_ | (with_reducible exact ff_elim) | (with_reducible exact tf_elim) | refine num_elim ?_ | intro _ | (with_reducible rfl) | ((with_reducible refine lk_t ?_); exact rfl) | refine tell ?_ | exact True.intro | (refine IsT.of ?_; kernel_rfl))
  all_goals (try (refine loop_keep [5, 10, 11] [] ?_; refine LoopI.mk ({i : Nat // i ≤ n}) (fun i => [(12, .int .i64 i.1)]) (fun i => [(7, .nums .i64 n (sumJ i.1 A B))]) (fun i => n - i.1) (⟨0, Nat.zero_le _⟩) (wk_mk [some 7] ?_) (fun ⟨i, hi⟩ => ?_)))
  repeat' (first | refine And.intro ?_ ?_ | (with_reducible exact ff_elim) | (with_reducible exact tf_elim) | refine stp_mk [some 7] (⟨i + 1, ?_⟩) ?_ ?_ | refine num_elim ?_ | intro _ | (with_reducible rfl) | ((with_reducible refine lk_t ?_); exact rfl) | refine tell ?_ | exact True.intro | (refine IsT.of ?_; kernel_rfl))
  all_goals (try refine Tell.mk ?_)
  all_goals first | with_reducible rfl | with_reducible exact isI_mk | with_reducible assumption | (with_reducible refine gb_t ?_; with_reducible assumption) | (with_reducible refine gb_f ?_; with_reducible assumption) | ((with_reducible refine lk_t ?_); rfl) | ((with_reducible refine okF_t ?_); kernel_rfl) | ((with_reducible refine ks_t ?_); rfl) | ((with_reducible refine pk_t ?_); rfl) | skip
  all_goals (try dsimp only at *)
  all_goals (try simp only [decide_eq_true_eq, decide_eq_false_iff_not, Bool.or_eq_true, Bool.or_eq_false_iff, Bool.and_eq_true, Bool.and_eq_false_iff, Bool.not_eq_true', Bool.not_eq_false', bne_iff_ne, ne_eq, beq_iff_eq, bne_eq_false_iff_eq, beq_eq_false_iff_ne, Int.not_lt, Int.not_le, gt_iff_lt, ge_iff_le] at *)
  all_goals (try simp only [mulN1, Nat.add_zero, Nat.zero_add, Nat.mul_one, Int.toNat_natCast, avInt_int, catI_zero] at *)
  all_goals (try simp only [catI_some, sumJ_step] at *)
  all_goals first | with_reducible rfl | with_reducible exact nums_N | omega | ((with_reducible refine by_le 1 rfl ?_); omega) | ((with_reducible refine by_le 8 rfl ?_); omega) | (rw [wrapI (by omega) (by omega)] <;> omega) | skip
  all_goals (unfold sumJ; first | (rw [if_neg (by omega)]; done) | (rw [if_pos (by omega)]; done))
def sum_r (n : Nat) (A B : Nat → Int) : AV := ints .i64 n (addF A B)
def sum_p (n : Nat) (A B : Nat → Int) : Prop := 0 < n ∧ n ≤ 1000000
def sum_k : Con Try.prog := ⟨25, fun args => match args with | [.sl n 1 g_A, .sl n_B 1 g_B] => .ok (some (IsI .i64 g_A ∧ IsI .i64 g_B ∧ n_B = n ∧ sum_p n (intF g_A) (intF g_B))) (sum_r n (intF g_A) (intF g_B)) | _ => .no, by
  intro args p r h hp
  split at h
  · cases h; obtain ⟨h_A, h_B, rfl, hp⟩ := hp; have e_A := h_A.eq; have e_B := h_B.eq; rw [e_A, e_B]; exact sum_a _ _ _ hp
  · cases h⟩
theorem plus_step {A B : Nat → Int} {i j : Nat} (h : j < i + 1) : addF A B j = if j < i then addF A B j else IntKind.i64.wrap (A i + B i) := by
  split
  · rfl
  · obtain rfl : j = i := by omega
    rfl
theorem plus_f : FnOk Try.prog 26 Try.f26 := ⟨Try.func26, by kernel_rfl⟩
theorem plus_a (n : Nat) (A B : Nat → Int) (hpre : n ≤ 1000000) : ACalls Try.prog 26 [ints .i64 n A, ints .i64 n B] (ints .i64 n (addF A B)) := by
  refine acalls_len fun hlen => ?_
  simp only [lenV, len1, lenV0, len0, and_true, true_and] at hlen
  refine acalls_of (inl := hasI (P := Try.prog) [] []) (base [] [] []) 0 plus_f (And.intro (by kernel_rfl) ?_)
  repeat' (first | refine And.intro ?_ ?_ | (with_reducible exact ff_elim) | (with_reducible exact tf_elim) | refine num_elim ?_ | intro _ | (with_reducible rfl) | ((with_reducible refine lk_t ?_); exact rfl) | refine tell ?_ | exact True.intro | (refine IsT.of ?_; kernel_rfl))
  all_goals (try (refine loop_keep [0, 1] [] ?_; refine LoopI.mk ({i : Nat // i ≤ n}) (fun i => [(6, .int .i64 i.1), (5, .os 0 1 0 i.1)]) (fun i => [(0, .nums .i64 i.1 (addF A B))]) (fun i => n - i.1) (⟨0, Nat.zero_le _⟩) (wk_mk [none] ?_) (fun ⟨i, hi⟩ => ?_)))
  repeat' (first | refine And.intro ?_ ?_ | (with_reducible exact ff_elim) | (with_reducible exact tf_elim) | refine stp_mk [some 18] (⟨i + 1, ?_⟩) ?_ ?_ | refine num_elim ?_ | intro _ | (with_reducible rfl) | ((with_reducible refine lk_t ?_); exact rfl) | refine tell ?_ | exact True.intro | (refine IsT.of ?_; kernel_rfl))
  all_goals (try refine Tell.mk ?_)
  all_goals first | with_reducible rfl | with_reducible exact isI_mk | with_reducible assumption | (with_reducible refine gb_t ?_; with_reducible assumption) | (with_reducible refine gb_f ?_; with_reducible assumption) | ((with_reducible refine lk_t ?_); rfl) | ((with_reducible refine okF_t ?_); kernel_rfl) | ((with_reducible refine ks_t ?_); rfl) | ((with_reducible refine pk_t ?_); rfl) | skip
  all_goals (try dsimp only at *)
  all_goals (try simp only [decide_eq_true_eq, decide_eq_false_iff_not, Bool.or_eq_true, Bool.or_eq_false_iff, Bool.and_eq_true, Bool.and_eq_false_iff, Bool.not_eq_true', Bool.not_eq_false', bne_iff_ne, ne_eq, beq_iff_eq, bne_eq_false_iff_eq, beq_eq_false_iff_ne, Int.not_lt, Int.not_le, gt_iff_lt, ge_iff_le] at *)
  all_goals (try simp only [mulN1, Nat.add_zero, Nat.zero_add, Nat.mul_one, Int.toNat_natCast, avInt_int, catI_zero] at *)
  all_goals (try simp only [catI_some] at *)
  all_goals first | with_reducible rfl | with_reducible exact nums_N | omega | ((with_reducible refine by_le 1 rfl ?_); omega) | ((with_reducible refine by_le 8 rfl ?_); omega) | (rw [wrapI (by omega) (by omega)] <;> omega) | skip
  all_goals exact plus_step (by assumption)
def plus_r (n : Nat) (A B : Nat → Int) : AV := ints .i64 n (addF A B)
def plus_p (n : Nat) (A B : Nat → Int) : Prop := n ≤ 1000000
def plus_k : Con Try.prog := ⟨26, fun args => match args with | [.sl n 1 g_A, .sl n_B 1 g_B] => .ok (some (IsI .i64 g_A ∧ IsI .i64 g_B ∧ n_B = n ∧ plus_p n (intF g_A) (intF g_B))) (plus_r n (intF g_A) (intF g_B)) | _ => .no, by
  intro args p r h hp
  split at h
  · cases h; obtain ⟨h_A, h_B, rfl, hp⟩ := hp; have e_A := h_A.eq; have e_B := h_B.eq; rw [e_A, e_B]; exact plus_a _ _ _ hp
  · cases h⟩
theorem filmE_ok {w h : Int} {n : Nat} {L : Nat → Int} {m : Nat} {S : Nat → Int} (h0 : filmE w h n L m S = 0) : Side w h ∧ (n : Int) = 3 * (w * h) ∧ (m : Int) = w * h ∧ okIn L 1099511627776 n = true ∧ okIn S 1048576 m = true := by
  unfold filmE at h0
  split at h0
  · split at h0
    · split at h0
      · exact ⟨‹_›, (‹_ ∧ _› : (n : Int) = 3 * (w * h) ∧ (m : Int) = w * h).1, (‹_ ∧ _› : (n : Int) = 3 * (w * h) ∧ (m : Int) = w * h).2, ‹okIn L _ n = true ∧ _›.1, ‹okIn L _ n = true ∧ _›.2⟩
      · omega
    · omega
  · omega
theorem filmE_len {w h : Int} {n : Nat} {L : Nat → Int} {m : Nat} {S : Nat → Int} (h0 : filmE w h n L m S = 0) : 0 < n ∧ n ≤ 1000000 ∧ 0 < m ∧ m ≤ 1000000 := by
  obtain ⟨a, b, c, -⟩ := filmE_ok h0
  have := a.wh
  omega
theorem filmE_eq {w h w' h' : Int} {n n' : Nat} {L L' : Nat → Int} {m m' : Nat} {S S' : Nat → Int} (h0 : filmE w h n L m S = 0) (h1 : filmE w' h' n' L' m' S' = 0) (e : w = w' ∧ h = h') : n' = n ∧ m' = m := by
  obtain ⟨a, b, c, -⟩ := filmE_ok h0
  obtain ⟨a', b', c', -⟩ := filmE_ok h1
  obtain ⟨rfl, rfl⟩ := e
  omega
@[irreducible] def mergeE (w h : Int) (n : Nat) (L : Nat → Int) (m : Nat) (S : Nat → Int) (w' h' : Int) (n' : Nat) (L' : Nat → Int) (m' : Nat) (S' : Nat → Int) : Int :=
  if filmE w h n L m S = 0 then (if filmE w' h' n' L' m' S' = 0 then (if w = w' ∧ h = h' then (if filmE w h n (addF L L') m (addF S S') = 0 then 0 else 4) else 5) else filmE w' h' n' L' m' S') else filmE w h n L m S
@[irreducible] def ifz (e x : Int) : Int := if e = 0 then x else 0
@[irreducible] def ifn (e : Int) (x : Nat) : Nat := if e = 0 then x else 0
theorem ifz0 {e x : Int} (h : e = 0) : ifz e x = x := by unfold ifz; exact if_pos h
theorem ifz1 {e x : Int} (h : ¬ e = 0) : ifz e x = 0 := by unfold ifz; exact if_neg h
theorem ifn0 {e : Int} {x : Nat} (h : e = 0) : ifn e x = x := by unfold ifn; exact if_pos h
theorem ifn1 {e : Int} {x : Nat} (h : ¬ e = 0) : ifn e x = 0 := by unfold ifn; exact if_neg h
theorem merge_f : FnOk Try.prog 13 Try.f13 := ⟨Try.func13, by kernel_rfl⟩
theorem merge_a (w h : Int) (n : Nat) (L : Nat → Int) (m : Nat) (S : Nat → Int) (w' h' : Int) (n' : Nat) (L' : Nat → Int) (m' : Nat) (S' : Nat → Int) : ACalls Try.prog 13 [.agg [.int .i64 w, .int .i64 h, ints .i64 n L, ints .i64 m S], .agg [.int .i64 w', .int .i64 h', ints .i64 n' L', ints .i64 m' S']] (.tup [.agg [.int .i64 (ifz (mergeE w h n L m S w' h' n' L' m' S') w), .int .i64 (ifz (mergeE w h n L m S w' h' n' L' m' S') h), ints .i64 (ifn (mergeE w h n L m S w' h' n' L' m' S') n) (addF L L'), ints .i64 (ifn (mergeE w h n L m S w' h' n' L' m' S') m) (addF S S')], .int .i64 (mergeE w h n L m S w' h' n' L' m' S')]) := by
  refine acalls_of (inl := hasI (P := Try.prog) [] []) (base [mayF_k, sum_k] [] []) 0 merge_f (And.intro (by kernel_rfl) ?_)
  repeat' (first | refine And.intro ?_ ?_ | (with_reducible exact ff_elim) | (with_reducible exact tf_elim) | refine num_elim ?_ | intro _ | (with_reducible rfl) | ((with_reducible refine lk_t ?_); exact rfl) | refine tell ?_ | exact True.intro | (refine IsT.of ?_; kernel_rfl))
  all_goals (try refine Tell.mk ?_)
  all_goals first | with_reducible rfl | with_reducible exact isI_mk | with_reducible assumption | (with_reducible refine gb_t ?_; with_reducible assumption) | (with_reducible refine gb_f ?_; with_reducible assumption) | ((with_reducible refine lk_t ?_); rfl) | ((with_reducible refine okF_t ?_); kernel_rfl) | ((with_reducible refine ks_t ?_); rfl) | ((with_reducible refine pk_t ?_); rfl) | skip
  all_goals (try dsimp only at *)
  all_goals (try simp only [decide_eq_true_eq, decide_eq_false_iff_not, Bool.or_eq_true, Bool.or_eq_false_iff, Bool.and_eq_true, Bool.and_eq_false_iff, Bool.not_eq_true', Bool.not_eq_false', bne_iff_ne, ne_eq, beq_iff_eq, bne_eq_false_iff_eq, beq_eq_false_iff_ne, Int.not_lt, Int.not_le, gt_iff_lt, ge_iff_le] at *)
  all_goals (try simp only [mulN1, Nat.add_zero, Nat.zero_add, Nat.mul_one, Int.toNat_natCast, avInt_int, intF_mk, plus_p] at *)
  all_goals first | with_reducible rfl | with_reducible exact nums_N | omega | ((with_reducible refine by_le 1 rfl ?_); omega) | ((with_reducible refine by_le 8 rfl ?_); omega) | (rw [wrapI (by omega) (by omega)] <;> omega) | skip
  all_goals first | grind [mergeE, ifz, ifn] | (have hl := filmE_len (w := w) (h := h) (n := n) (L := L) (m := m) (S := S) (by with_reducible assumption); omega) | (have he := filmE_eq (w := w) (h := h) (n := n) (L := L) (m := m) (S := S) (w' := w') (h' := h') (n' := n') (L' := L') (m' := m') (S' := S') (by with_reducible assumption) (by with_reducible assumption) (by with_reducible assumption); omega)
def merge_r (w h : Int) (n : Nat) (L : Nat → Int) (m : Nat) (S : Nat → Int) (w' h' : Int) (n' : Nat) (L' : Nat → Int) (m' : Nat) (S' : Nat → Int) : AV := .tup [.agg [.int .i64 (ifz (mergeE w h n L m S w' h' n' L' m' S') w), .int .i64 (ifz (mergeE w h n L m S w' h' n' L' m' S') h), ints .i64 (ifn (mergeE w h n L m S w' h' n' L' m' S') n) (addF L L'), ints .i64 (ifn (mergeE w h n L m S w' h' n' L' m' S') m) (addF S S')], .int .i64 (mergeE w h n L m S w' h' n' L' m' S')]
def merge_k : Con Try.prog := ⟨13, fun args => match args with | [.agg [.int .i64 w, .int .i64 h, .sl n 1 g_L, .sl m 1 g_S], .agg [.int .i64 w', .int .i64 h', .sl n' 1 g_L', .sl m' 1 g_S']] => .ok (some (IsI .i64 g_L ∧ IsI .i64 g_S ∧ IsI .i64 g_L' ∧ IsI .i64 g_S')) (merge_r w h n (intF g_L) m (intF g_S) w' h' n' (intF g_L') m' (intF g_S')) | _ => .no, by
  intro args p r h hp
  split at h
  · cases h; obtain ⟨h_L, h_S, h_L', h_S'⟩ := hp; have e_L := h_L.eq; have e_S := h_S.eq; have e_L' := h_L'.eq; have e_S' := h_S'.eq; rw [e_L, e_S, e_L', e_S']; exact merge_a _ _ _ _ _ _ _ _ _ _ _ _
  · cases h⟩
theorem mergeR_f : FnOk Try.prog 14 Try.f14 := ⟨Try.func14, by kernel_rfl⟩
theorem mergeR_a (w h : Int) (n : Nat) (L : Nat → Int) (m : Nat) (S : Nat → Int) (w' h' : Int) (n' : Nat) (L' : Nat → Int) (m' : Nat) (S' : Nat → Int) : ACalls Try.prog 14 [.agg [.int .i64 w, .int .i64 h, ints .i64 n L, ints .i64 m S], .agg [.int .i64 w', .int .i64 h', ints .i64 n' L', ints .i64 m' S']] (.tup [.agg [.int .i64 (ifz (mergeE w h n L m S w' h' n' L' m' S') w), .int .i64 (ifz (mergeE w h n L m S w' h' n' L' m' S') h), ints .i64 (ifn (mergeE w h n L m S w' h' n' L' m' S') n) (addF L L'), ints .i64 (ifn (mergeE w h n L m S w' h' n' L' m' S') m) (addF S S')], .int .i64 (mergeE w h n L m S w' h' n' L' m' S')]) := by
  refine acalls_of (inl := hasI (P := Try.prog) [] []) (base [mayFR_k, plus_k] [] []) 0 mergeR_f (And.intro (by kernel_rfl) ?_)
  repeat' (first | refine And.intro ?_ ?_ | (with_reducible exact ff_elim) | (with_reducible exact tf_elim) | refine num_elim ?_ | intro _ | (with_reducible rfl) | ((with_reducible refine lk_t ?_); exact rfl) | refine tell ?_ | exact True.intro | (refine IsT.of ?_; kernel_rfl))
  all_goals (try refine Tell.mk ?_)
  all_goals first | with_reducible rfl | with_reducible exact isI_mk | with_reducible assumption | (with_reducible refine gb_t ?_; with_reducible assumption) | (with_reducible refine gb_f ?_; with_reducible assumption) | ((with_reducible refine lk_t ?_); rfl) | ((with_reducible refine okF_t ?_); kernel_rfl) | ((with_reducible refine ks_t ?_); rfl) | ((with_reducible refine pk_t ?_); rfl) | skip
  all_goals (try dsimp only at *)
  all_goals (try simp only [decide_eq_true_eq, decide_eq_false_iff_not, Bool.or_eq_true, Bool.or_eq_false_iff, Bool.and_eq_true, Bool.and_eq_false_iff, Bool.not_eq_true', Bool.not_eq_false', bne_iff_ne, ne_eq, beq_iff_eq, bne_eq_false_iff_eq, beq_eq_false_iff_ne, Int.not_lt, Int.not_le, gt_iff_lt, ge_iff_le] at *)
  all_goals (try simp only [mulN1, Nat.add_zero, Nat.zero_add, Nat.mul_one, Int.toNat_natCast, avInt_int, intF_mk, plus_p] at *)
  all_goals first | with_reducible rfl | with_reducible exact nums_N | omega | ((with_reducible refine by_le 1 rfl ?_); omega) | ((with_reducible refine by_le 8 rfl ?_); omega) | (rw [wrapI (by omega) (by omega)] <;> omega) | skip
  all_goals first | grind [mergeE, ifz, ifn] | (have hl := filmE_len (w := w) (h := h) (n := n) (L := L) (m := m) (S := S) (by with_reducible assumption); omega) | (have he := filmE_eq (w := w) (h := h) (n := n) (L := L) (m := m) (S := S) (w' := w') (h' := h') (n' := n') (L' := L') (m' := m') (S' := S') (by with_reducible assumption) (by with_reducible assumption) (by with_reducible assumption); omega)
def mergeR_r (w h : Int) (n : Nat) (L : Nat → Int) (m : Nat) (S : Nat → Int) (w' h' : Int) (n' : Nat) (L' : Nat → Int) (m' : Nat) (S' : Nat → Int) : AV := .tup [.agg [.int .i64 (ifz (mergeE w h n L m S w' h' n' L' m' S') w), .int .i64 (ifz (mergeE w h n L m S w' h' n' L' m' S') h), ints .i64 (ifn (mergeE w h n L m S w' h' n' L' m' S') n) (addF L L'), ints .i64 (ifn (mergeE w h n L m S w' h' n' L' m' S') m) (addF S S')], .int .i64 (mergeE w h n L m S w' h' n' L' m' S')]
def mergeR_k : Con Try.prog := ⟨14, fun args => match args with | [.agg [.int .i64 w, .int .i64 h, .sl n 1 g_L, .sl m 1 g_S], .agg [.int .i64 w', .int .i64 h', .sl n' 1 g_L', .sl m' 1 g_S']] => .ok (some (IsI .i64 g_L ∧ IsI .i64 g_S ∧ IsI .i64 g_L' ∧ IsI .i64 g_S')) (mergeR_r w h n (intF g_L) m (intF g_S) w' h' n' (intF g_L') m' (intF g_S')) | _ => .no, by
  intro args p r h hp
  split at h
  · cases h; obtain ⟨h_L, h_S, h_L', h_S'⟩ := hp; have e_L := h_L.eq; have e_S := h_S.eq; have e_L' := h_L'.eq; have e_S' := h_S'.eq; rw [e_L, e_S, e_L', e_S']; exact mergeR_a _ _ _ _ _ _ _ _ _ _ _ _
  · cases h⟩
end Go.Proofs.Ytoaghdmhapcgiaa
