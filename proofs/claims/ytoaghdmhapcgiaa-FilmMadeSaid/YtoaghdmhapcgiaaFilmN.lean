/- Films that are made: the laws FilmMade and TopMerge. -/
import Derived.Test.YtoaghdmhapcgiaaFilmM
namespace Go.Proofs.Ytoaghdmhapcgiaa
open Go.RowKit Ev
set_option linter.unusedVariables false
set_option linter.unusedSimpArgs false
set_option maxRecDepth 20000
set_option maxHeartbeats 4000000

theorem isI_mk {k : IntKind} {F : Nat → Int} : IsI k (fun j => .int k (F j)) := ⟨fun _ => rfl⟩
theorem side_pick (a b : Int) : Side (1 + pickF a 5) (1 + pickF b 5) := by
  have h1 := pickF_bd a 5 (by omega)
  have h2 := pickF_bd b 5 (by omega)
  unfold Side; omega
theorem filmMade_f : FnOk Try.prog 4 Try.f4 := ⟨Try.func4, by kernel_rfl⟩
theorem filmMade_a (n : Nat) (F : Nat → Int) (m : Nat) (G : Nat → Int) (w h x y l br : Int) (hpre : (∀ j, In64 (F j)) ∧ (∀ j, In64 (G j)) ∧ In64 w ∧ In64 h ∧ In64 x ∧ In64 y ∧ In64 l ∧ In64 br) : ACalls Try.prog 4 [ints .i64 n F, ints .i64 m G, .int .i64 w, .int .i64 h, .int .i64 x, .int .i64 y, .int .i64 l, .int .i64 br] (.bool true) := by
  refine acalls_of (inl := hasI (P := Try.prog) [] []) (base [pick_k, filmOf_k, filmSays_k] [] []) 0 filmMade_f (And.intro (by kernel_rfl) ?_)
  have h1 := pickF_bd w 5 (by omega)
  have h2 := pickF_bd h 5 (by omega)
  have h3 := pickF_bd br 3000 (by omega)
  have hs := side_pick w h
  have z1 : IntKind.i64.wrap (1 + pickF w 5) = 1 + pickF w 5 := wrapI (by omega) (by omega)
  have z2 : IntKind.i64.wrap (1 + pickF h 5) = 1 + pickF h 5 := wrapI (by omega) (by omega)
  repeat' (first | refine And.intro ?_ ?_ | (with_reducible exact ff_elim) | (with_reducible exact tf_elim) | refine num_elim ?_ | intro _ | (with_reducible rfl) | ((with_reducible refine lk_t ?_); exact rfl) | refine tell ?_ | exact True.intro | (refine IsT.of ?_; kernel_rfl))
  all_goals (try refine Tell.mk ?_)
  all_goals first | with_reducible rfl | with_reducible exact isI_mk | with_reducible assumption | (with_reducible refine gb_t ?_; with_reducible assumption) | (with_reducible refine gb_f ?_; with_reducible assumption) | ((with_reducible refine lk_t ?_); rfl) | ((with_reducible refine okF_t ?_); kernel_rfl) | ((with_reducible refine ks_t ?_); rfl) | ((with_reducible refine pk_t ?_); rfl) | skip
  all_goals (try dsimp only at *)
  all_goals (try simp only [decide_eq_true_eq, decide_eq_false_iff_not, Bool.or_eq_true, Bool.or_eq_false_iff, Bool.and_eq_true, Bool.and_eq_false_iff, Bool.not_eq_true', Bool.not_eq_false', bne_iff_ne, ne_eq, beq_iff_eq, bne_eq_false_iff_eq, beq_eq_false_iff_ne, Int.not_lt, Int.not_le, gt_iff_lt, ge_iff_le] at *)
  all_goals (try simp only [mulN1, Nat.add_zero, Nat.zero_add, Nat.mul_one, Int.toNat_natCast, avInt_int, intF_mk, z1, z2] at *)
  all_goals first | with_reducible rfl | with_reducible exact nums_N | omega | ((with_reducible refine by_le 1 rfl ?_); omega) | ((with_reducible refine by_le 8 rfl ?_); omega) | (rw [wrapI (by omega) (by omega)] <;> omega) | skip
  all_goals first | exact hpre.1 _ | exact hpre.2.1 _ | (unfold filmSays_p; rw [in64_iff]; omega) | exact hpre.2.2.1 | exact hpre.2.2.2.1 | exact hpre.2.2.2.2.1 | exact hpre.2.2.2.2.2.1 | exact hpre.2.2.2.2.2.2.1 | exact hpre.2.2.2.2.2.2.2 | (rw [in64_iff]; omega) | exact hs
def filmMade_r (n : Nat) (F : Nat → Int) (m : Nat) (G : Nat → Int) (w h x y l br : Int) : AV := .bool true
def filmMade_p (n : Nat) (F : Nat → Int) (m : Nat) (G : Nat → Int) (w h x y l br : Int) : Prop := (∀ j, In64 (F j)) ∧ (∀ j, In64 (G j)) ∧ In64 w ∧ In64 h ∧ In64 x ∧ In64 y ∧ In64 l ∧ In64 br
def filmMade_k : Con Try.prog := ⟨4, fun args => match args with | [.sl n 1 g_F, .sl m 1 g_G, .int .i64 w, .int .i64 h, .int .i64 x, .int .i64 y, .int .i64 l, .int .i64 br] => .ok (some (IsI .i64 g_F ∧ IsI .i64 g_G ∧ filmMade_p n (intF g_F) m (intF g_G) w h x y l br)) (filmMade_r n (intF g_F) m (intF g_G) w h x y l br) | _ => .no, by
  intro args p r h hp
  split at h
  · cases h; obtain ⟨h_F, h_G, hp⟩ := hp; have e_F := h_F.eq; have e_G := h_G.eq; rw [e_F, e_G]; exact filmMade_a _ _ _ _ _ _ _ _ _ _ hp
  · cases h⟩
theorem sameI_of {n m : Nat} {A B : Nat → Int} (h : n = m) (h' : ∀ j, j < n → A j = B j) : sameI n A m B = true := sameI_yes h (eqIn_iff.2 h')
theorem light_bd (n : Nat) (F : Nat → Int) (j : Nat) : 0 ≤ lightF n F j ∧ lightF n F j < 300000 := pickF_bd _ _ (by omega)
theorem shot_bd (n : Nat) (F : Nat → Int) (j : Nat) : 0 ≤ shotF n F j ∧ shotF n F j < 6 := pickF_bd _ _ (by omega)
/-- A film of small numbers. -/
structure Small (w h : Int) (L S : Nat → Int) (a b : Int) : Prop where
  side : Side w h
  light : ∀ j, 0 ≤ L j ∧ L j ≤ a
  shots : ∀ j, 0 ≤ S j ∧ S j ≤ b
theorem Small.ok {w h : Int} {L S : Nat → Int} {a b : Int} (e : Small w h L S a b) (ha : a ≤ 1000000) (hb : b ≤ 1000000) : filmE w h (3 * (w * h)).toNat L (w * h).toNat S = 0 := by
  have hw := e.side.wh
  refine filmE0 e.side (by omega) (okIn_iff.2 fun i _ => ?_) (okIn_iff.2 fun i _ => ?_)
  · have := e.light i; omega
  · have := e.shots i; omega
theorem addF_small {A B : Nat → Int} {a b : Int} {j : Nat} (h1 : 0 ≤ A j ∧ A j ≤ a) (h2 : 0 ≤ B j ∧ B j ≤ b) (h : a + b ≤ 1000000) : addF A B j = A j + B j := by unfold addF; exact wrapI (by omega) (by omega)
theorem Small.add {w h : Int} {L S L' S' : Nat → Int} {a b a' b' : Int} (e : Small w h L S a b) (e' : Small w h L' S' a' b') (ha : a + a' ≤ 1000000) (hb : b + b' ≤ 1000000) : Small w h (addF L L') (addF S S') (a + a') (b + b') := by
  refine ⟨e.side, fun j => ?_, fun j => ?_⟩
  · rw [addF_small (e.light j) (e'.light j) ha]; have := e.light j; have := e'.light j; omega
  · rw [addF_small (e.shots j) (e'.shots j) hb]; have := e.shots j; have := e'.shots j; omega
theorem small_made {w h : Int} (e : Side w h) (n : Nat) (F : Nat → Int) : Small w h (lightF n F) (shotF n F) 300000 6 :=
  ⟨e, fun j => by have := light_bd n F j; omega, fun j => by have := shot_bd n F j; omega⟩
theorem small_new {w h : Int} (e : Side w h) : Small w h (fun _ => 0) (fun _ => 0) 0 0 := ⟨e, fun _ => by omega, fun _ => by omega⟩
theorem mergeE0 {w h : Int} {L S L' S' : Nat → Int} {a b a' b' : Int} (e : Small w h L S a b) (e' : Small w h L' S' a' b') (ha : a + a' ≤ 1000000) (hb : b + b' ≤ 1000000) (h0 : 0 ≤ a ∧ 0 ≤ b ∧ 0 ≤ a' ∧ 0 ≤ b') :
    mergeE w h (3 * (w * h)).toNat L (w * h).toNat S w h (3 * (w * h)).toNat L' (w * h).toNat S' = 0 := by
  unfold mergeE
  rw [if_pos (e.ok (by omega) (by omega)), if_pos (e'.ok (by omega) (by omega)), if_pos ⟨rfl, rfl⟩, if_pos ((e.add e' ha hb).ok (by omega) (by omega))]
theorem sameIntsT_f : FnOk Try.prog 31 Try.f31 := ⟨Try.func31, by kernel_rfl⟩
theorem sameIntsT_a (n : Nat) (A : Nat → Int) (m : Nat) (B : Nat → Int) : ACalls Try.prog 31 [ints .i64 n A, ints .i64 m B] (.bool (sameI n A m B)) := by
  refine acalls_len fun hlen => ?_
  simp only [lenV, len1, lenV0, len0, and_true, true_and] at hlen
  refine acalls_of (inl := hasI (P := Try.prog) [] []) (base [] [] []) 0 sameIntsT_f (And.intro (by kernel_rfl) ?_)
  repeat' (first | refine And.intro ?_ ?_ | (with_reducible exact ff_elim) | (with_reducible exact tf_elim) | refine num_elim ?_ | intro _ | (with_reducible rfl) | ((with_reducible refine lk_t ?_); exact rfl) | refine tell ?_ | exact True.intro | (refine IsT.of ?_; kernel_rfl))
  all_goals (try (refine loop_keep [0, 1] [] ?_; refine LoopI.mk ({i : Nat // i ≤ n ∧ eqIn A B i = true}) (fun i => [(5, .int .i64 i.1)]) (fun _ => []) (fun i => n - i.1) (⟨0, Nat.zero_le _, rfl⟩) (wk_mk [] ?_) (fun ⟨i, hi, hb⟩ => ?_)))
  repeat' (first | refine And.intro ?_ ?_ | (with_reducible exact ff_elim) | (with_reducible exact tf_elim) | refine stp_mk [] (⟨i + 1, ?_, ?_⟩) ?_ ?_ | refine num_elim ?_ | intro _ | (with_reducible rfl) | ((with_reducible refine lk_t ?_); exact rfl) | refine tell ?_ | exact True.intro | (refine IsT.of ?_; kernel_rfl))
  all_goals (try refine Tell.mk ?_)
  all_goals first | with_reducible rfl | with_reducible exact isI_mk | with_reducible assumption | (with_reducible refine gb_t ?_; with_reducible assumption) | (with_reducible refine gb_f ?_; with_reducible assumption) | ((with_reducible refine lk_t ?_); rfl) | ((with_reducible refine okF_t ?_); kernel_rfl) | ((with_reducible refine ks_t ?_); rfl) | ((with_reducible refine pk_t ?_); rfl) | skip
  all_goals (try dsimp only at *)
  all_goals (try simp only [decide_eq_true_eq, decide_eq_false_iff_not, Bool.or_eq_true, Bool.or_eq_false_iff, Bool.and_eq_true, Bool.and_eq_false_iff, Bool.not_eq_true', Bool.not_eq_false', bne_iff_ne, ne_eq, beq_iff_eq, bne_eq_false_iff_eq, beq_eq_false_iff_ne, Int.not_lt, Int.not_le, gt_iff_lt, ge_iff_le] at *)
  all_goals (try simp only [mulN1, Nat.add_zero, Nat.zero_add, Nat.mul_one, Int.toNat_natCast, avInt_int] at *)
  all_goals first | with_reducible rfl | with_reducible exact nums_N | omega | ((with_reducible refine by_le 1 rfl ?_); omega) | ((with_reducible refine by_le 8 rfl ?_); omega) | (rw [wrapI (by omega) (by omega)] <;> omega) | skip
  all_goals first | exact sameI_no (by omega) | exact sameI_at (by omega) (i := i) (by omega) (by assumption) | exact eqIn_step hb (by assumption) | skip
  all_goals (obtain rfl : i = n := by omega)
  all_goals exact sameI_yes (by omega) hb
def sameIntsT_r (n : Nat) (A : Nat → Int) (m : Nat) (B : Nat → Int) : AV := .bool (sameI n A m B)
def sameIntsT_k : Con Try.prog := ⟨31, fun args => match args with | [.sl n 1 g_A, .sl m 1 g_B] => .ok (some (IsI .i64 g_A ∧ IsI .i64 g_B)) (sameIntsT_r n (intF g_A) m (intF g_B)) | _ => .no, by
  intro args p r h hp
  split at h
  · cases h; obtain ⟨h_A, h_B⟩ := hp; have e_A := h_A.eq; have e_B := h_B.eq; rw [e_A, e_B]; exact sameIntsT_a _ _ _ _
  · cases h⟩
theorem sameFilmT_f : FnOk Try.prog 23 Try.f23 := ⟨Try.func23, by kernel_rfl⟩
theorem sameFilmT_a (w h : Int) (n : Nat) (L : Nat → Int) (m : Nat) (S : Nat → Int) (w' h' : Int) (n' : Nat) (L' : Nat → Int) (m' : Nat) (S' : Nat → Int) : ACalls Try.prog 23 [.agg [.int .i64 w, .int .i64 h, ints .i64 n L, ints .i64 m S], .agg [.int .i64 w', .int .i64 h', ints .i64 n' L', ints .i64 m' S']] (.bool (sameFV w h n L m S w' h' n' L' m' S')) := by
  refine acalls_of (inl := hasI (P := Try.prog) [] []) (base [sameIntsT_k] [] []) 0 sameFilmT_f (And.intro (by kernel_rfl) ?_)
  repeat' (first | refine And.intro ?_ ?_ | (with_reducible exact ff_elim) | (with_reducible exact tf_elim) | refine num_elim ?_ | intro _ | (with_reducible rfl) | ((with_reducible refine lk_t ?_); exact rfl) | refine tell ?_ | exact True.intro | (refine IsT.of ?_; kernel_rfl))
  all_goals (try refine Tell.mk ?_)
  all_goals first | with_reducible rfl | with_reducible exact isI_mk | with_reducible assumption | (with_reducible refine gb_t ?_; with_reducible assumption) | (with_reducible refine gb_f ?_; with_reducible assumption) | ((with_reducible refine lk_t ?_); rfl) | ((with_reducible refine okF_t ?_); kernel_rfl) | ((with_reducible refine ks_t ?_); rfl) | ((with_reducible refine pk_t ?_); rfl) | skip
  all_goals (try dsimp only at *)
  all_goals (try simp only [decide_eq_true_eq, decide_eq_false_iff_not] at *)
  all_goals (try simp only [mulN1, Nat.add_zero, Nat.zero_add, Nat.mul_one, Int.toNat_natCast, avInt_int, intF_mk] at *)
  all_goals first | with_reducible rfl | with_reducible exact nums_N | omega | ((with_reducible refine by_le 1 rfl ?_); omega) | ((with_reducible refine by_le 8 rfl ?_); omega) | (rw [wrapI (by omega) (by omega)] <;> omega) | skip
  all_goals rfl
def sameFilmT_r (w h : Int) (n : Nat) (L : Nat → Int) (m : Nat) (S : Nat → Int) (w' h' : Int) (n' : Nat) (L' : Nat → Int) (m' : Nat) (S' : Nat → Int) : AV := .bool (sameFV w h n L m S w' h' n' L' m' S')
def sameFilmT_k : Con Try.prog := ⟨23, fun args => match args with | [.agg [.int .i64 w, .int .i64 h, .sl n 1 g_L, .sl m 1 g_S], .agg [.int .i64 w', .int .i64 h', .sl n' 1 g_L', .sl m' 1 g_S']] => .ok (some (IsI .i64 g_L ∧ IsI .i64 g_S ∧ IsI .i64 g_L' ∧ IsI .i64 g_S')) (sameFilmT_r w h n (intF g_L) m (intF g_S) w' h' n' (intF g_L') m' (intF g_S')) | _ => .no, by
  intro args p r h hp
  split at h
  · cases h; obtain ⟨h_L, h_S, h_L', h_S'⟩ := hp; have e_L := h_L.eq; have e_S := h_S.eq; have e_L' := h_L'.eq; have e_S' := h_S'.eq; rw [e_L, e_S, e_L', e_S']; exact sameFilmT_a _ _ _ _ _ _ _ _ _ _ _ _
  · cases h⟩
theorem sameFV_of {w h : Int} {n : Nat} {L : Nat → Int} {m : Nat} {S L' S' : Nat → Int} (h1 : ∀ j, j < n → L j = L' j) (h2 : ∀ j, j < m → S j = S' j) : sameFV w h n L m S w h n L' m S' = true := by
  unfold sameFV; rw [sameI_of rfl h1, sameI_of rfl h2]; simp
theorem mergeZ_f : FnOk Try.prog 13 Try.f13 := ⟨Try.func13, by kernel_rfl⟩
theorem mergeZ_a (w h : Int) (n : Nat) (L : Nat → Int) (m : Nat) (S : Nat → Int) (w' h' : Int) (n' : Nat) (L' : Nat → Int) (m' : Nat) (S' : Nat → Int) (hpre : mergeE w h n L m S w' h' n' L' m' S' = 0) : ACalls Try.prog 13 [.agg [.int .i64 w, .int .i64 h, ints .i64 n L, ints .i64 m S], .agg [.int .i64 w', .int .i64 h', ints .i64 n' L', ints .i64 m' S']] (.tup [.agg [.int .i64 w, .int .i64 h, ints .i64 n (addF L L'), ints .i64 m (addF S S')], .int .i64 0]) := by
  have h1 := merge_a w h n L m S w' h' n' L' m' S'
  rw [hpre, ifz0 rfl, ifz0 rfl, ifn0 rfl, ifn0 rfl] at h1
  exact h1
def mergeZ_r (w h : Int) (n : Nat) (L : Nat → Int) (m : Nat) (S : Nat → Int) (w' h' : Int) (n' : Nat) (L' : Nat → Int) (m' : Nat) (S' : Nat → Int) : AV := .tup [.agg [.int .i64 w, .int .i64 h, ints .i64 n (addF L L'), ints .i64 m (addF S S')], .int .i64 0]
def mergeZ_p (w h : Int) (n : Nat) (L : Nat → Int) (m : Nat) (S : Nat → Int) (w' h' : Int) (n' : Nat) (L' : Nat → Int) (m' : Nat) (S' : Nat → Int) : Prop := mergeE w h n L m S w' h' n' L' m' S' = 0
def mergeZ_k : Con Try.prog := ⟨13, fun args => match args with | [.agg [.int .i64 w, .int .i64 h, .sl n 1 g_L, .sl m 1 g_S], .agg [.int .i64 w', .int .i64 h', .sl n' 1 g_L', .sl m' 1 g_S']] => .ok (some (IsI .i64 g_L ∧ IsI .i64 g_S ∧ IsI .i64 g_L' ∧ IsI .i64 g_S' ∧ mergeZ_p w h n (intF g_L) m (intF g_S) w' h' n' (intF g_L') m' (intF g_S'))) (mergeZ_r w h n (intF g_L) m (intF g_S) w' h' n' (intF g_L') m' (intF g_S')) | _ => .no, by
  intro args p r h hp
  split at h
  · cases h; obtain ⟨h_L, h_S, h_L', h_S', hp⟩ := hp; have e_L := h_L.eq; have e_S := h_S.eq; have e_L' := h_L'.eq; have e_S' := h_S'.eq; rw [e_L, e_S, e_L', e_S']; exact mergeZ_a _ _ _ _ _ _ _ _ _ _ _ _ hp
  · cases h⟩
theorem newZ_f : FnOk Try.prog 20 Try.f20 := ⟨Try.func20, by kernel_rfl⟩
theorem newZ_a (w h : Int) (hpre : Side w h) : ACalls Try.prog 20 [.int .i64 w, .int .i64 h] (.tup [.agg [.int .i64 w, .int .i64 h, ints .i64 (3 * (w * h)).toNat (fun _ => 0), ints .i64 (w * h).toNat (fun _ => 0)], .int .i64 0]) := by
  have h1 := newF_a w h
  rw [newE0 hpre, ifz0 rfl, ifz0 rfl, ifn0 rfl, ifn0 rfl] at h1
  exact h1
def newZ_k : Con Try.prog := ⟨20, fun args => match args with | [.int .i64 w, .int .i64 h] => .ok (some (Side w h)) (.tup [.agg [.int .i64 w, .int .i64 h, ints .i64 (3 * (w * h)).toNat (fun _ => 0), ints .i64 (w * h).toNat (fun _ => 0)], .int .i64 0]) | _ => .no, by
  intro args p r h hp
  split at h
  · cases h; exact newZ_a _ _ hp
  · cases h⟩
theorem addF_comm (A B : Nat → Int) (j : Nat) : addF A B j = addF B A j := by unfold addF; rw [Int.add_comm]
theorem addF_assoc {A B C : Nat → Int} {j : Nat} (a : 0 ≤ A j ∧ A j ≤ 300000) (b : 0 ≤ B j ∧ B j ≤ 300000) (c : 0 ≤ C j ∧ C j ≤ 300000) : addF (addF A B) C j = addF A (addF B C) j := by
  have e1 := addF_small a b (by decide)
  have e2 := addF_small b c (by decide)
  have e3 : addF (addF A B) C j = addF A B j + C j := addF_small (a := 600000) (by omega) c (by decide)
  have e4 : addF A (addF B C) j = A j + addF B C j := addF_small (b := 600000) a (by omega) (by decide)
  rw [e3, e4, e1, e2, Int.add_assoc]
theorem addF_zero {A : Nat → Int} {j : Nat} (a : 0 ≤ A j ∧ A j ≤ 300000) : addF A (fun _ => 0) j = A j := by
  rw [addF_small (b := 0) a (by omega) (by decide), Int.add_zero]
theorem topMerge_f : FnOk Try.prog 5 Try.f5 := ⟨Try.func5, by kernel_rfl⟩
theorem topMerge_a (n : Nat) (F : Nat → Int) (m : Nat) (G : Nat → Int) (k : Nat) (H : Nat → Int) (w h : Int) (hpre : (∀ j, In64 (F j)) ∧ (∀ j, In64 (G j)) ∧ (∀ j, In64 (H j)) ∧ In64 w ∧ In64 h) : ACalls Try.prog 5 [ints .i64 n F, ints .i64 m G, ints .i64 k H, .int .i64 w, .int .i64 h] (.bool true) := by
  refine acalls_of (inl := hasI (P := Try.prog) [] []) (base [pick_k, filmOf_k, newZ_k, mergeZ_k, sameFilmT_k] [] []) 0 topMerge_f (And.intro (by kernel_rfl) ?_)
  have h1 := pickF_bd w 5 (by omega)
  have h2 := pickF_bd h 5 (by omega)
  have hs := side_pick w h
  have z1 : IntKind.i64.wrap (1 + pickF w 5) = 1 + pickF w 5 := wrapI (by omega) (by omega)
  have z2 : IntKind.i64.wrap (1 + pickF h 5) = 1 + pickF h 5 := wrapI (by omega) (by omega)
  repeat' (first | refine And.intro ?_ ?_ | (with_reducible exact ff_elim) | (with_reducible exact tf_elim) | refine num_elim ?_ | intro _ | (with_reducible rfl) | ((with_reducible refine lk_t ?_); exact rfl) | refine tell ?_ | exact True.intro | (refine IsT.of ?_; kernel_rfl))
  all_goals (try refine Tell.mk ?_)
  all_goals first | with_reducible rfl | with_reducible exact isI_mk | with_reducible assumption | (with_reducible refine gb_t ?_; with_reducible assumption) | (with_reducible refine gb_f ?_; with_reducible assumption) | ((with_reducible refine lk_t ?_); rfl) | ((with_reducible refine okF_t ?_); kernel_rfl) | ((with_reducible refine ks_t ?_); rfl) | ((with_reducible refine pk_t ?_); rfl) | skip
  all_goals (try dsimp only at *)
  all_goals (try simp only [decide_eq_true_eq, decide_eq_false_iff_not] at *)
  all_goals (try simp only [mulN1, Nat.add_zero, Nat.zero_add, Nat.mul_one, Int.toNat_natCast, avInt_int, intF_mk, z1, z2] at *)
  all_goals first | with_reducible rfl | with_reducible exact nums_N | omega | ((with_reducible refine by_le 1 rfl ?_); omega) | ((with_reducible refine by_le 8 rfl ?_); omega) | (rw [wrapI (by omega) (by omega)] <;> omega) | skip
  all_goals first | exact hpre.1 _ | exact hpre.2.1 _ | exact hpre.2.2.1 _ | exact hpre.2.2.2.1 | exact hpre.2.2.2.2 | skip
  all_goals clear hpre z1 z2 h1 h2
  all_goals generalize 1 + pickF w 5 = W at *
  all_goals generalize 1 + pickF h 5 = V at *
  all_goals (have sa := small_made hs n F; have sb := small_made hs m G; have sc := small_made hs k H; have sz := small_new hs)
  all_goals (have sab := sa.add sb (by decide) (by decide); have sbc := sb.add sc (by decide) (by decide))
  all_goals first | (with_reducible exact mergeE0 sa sb (by decide) (by decide) (by decide)) | (with_reducible exact mergeE0 sb sa (by decide) (by decide) (by decide)) | (with_reducible exact mergeE0 sb sc (by decide) (by decide) (by decide)) | (with_reducible exact mergeE0 sab sc (by decide) (by decide) (by decide)) | (with_reducible exact mergeE0 sa sbc (by decide) (by decide) (by decide)) | (with_reducible exact mergeE0 sa sz (by decide) (by decide) (by decide)) | skip
  rw [sameFV_of (L := addF (lightF n F) (lightF m G)) (fun j _ => addF_comm _ _ j) (fun j _ => addF_comm _ _ j),
    sameFV_of (L := addF (addF (lightF n F) (lightF m G)) (lightF k H)) (fun j _ => addF_assoc (sa.light j) (sb.light j) (sc.light j)) (fun j _ => addF_assoc ((sa.shots j).imp id (fun h => by omega)) ((sb.shots j).imp id (fun h => by omega)) ((sc.shots j).imp id (fun h => by omega))),
    sameFV_of (L := addF (lightF n F) fun j => 0) (fun j _ => addF_zero (sa.light j)) (fun j _ => addF_zero ((sa.shots j).imp id (fun h => by omega)))]
  rfl
def topMerge_r (n : Nat) (F : Nat → Int) (m : Nat) (G : Nat → Int) (k : Nat) (H : Nat → Int) (w h : Int) : AV := .bool true
def topMerge_p (n : Nat) (F : Nat → Int) (m : Nat) (G : Nat → Int) (k : Nat) (H : Nat → Int) (w h : Int) : Prop := (∀ j, In64 (F j)) ∧ (∀ j, In64 (G j)) ∧ (∀ j, In64 (H j)) ∧ In64 w ∧ In64 h
def topMerge_k : Con Try.prog := ⟨5, fun args => match args with | [.sl n 1 g_F, .sl m 1 g_G, .sl k 1 g_H, .int .i64 w, .int .i64 h] => .ok (some (IsI .i64 g_F ∧ IsI .i64 g_G ∧ IsI .i64 g_H ∧ topMerge_p n (intF g_F) m (intF g_G) k (intF g_H) w h)) (topMerge_r n (intF g_F) m (intF g_G) k (intF g_H) w h) | _ => .no, by
  intro args p r h hp
  split at h
  · cases h; obtain ⟨h_F, h_G, h_H, hp⟩ := hp; have e_F := h_F.eq; have e_G := h_G.eq; have e_H := h_H.eq; rw [e_F, e_G, e_H]; exact topMerge_a _ _ _ _ _ _ _ _ hp
  · cases h⟩
end Go.Proofs.Ytoaghdmhapcgiaa
