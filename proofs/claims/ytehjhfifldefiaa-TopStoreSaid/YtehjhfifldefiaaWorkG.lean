/- What was saved is read as it was; the law of saving. -/
import Derived.Test.YtehjhfifldefiaaWorkF
namespace Go.Proofs.Ytehjhfifldefiaa
open Go.RowKit Ev
set_option linter.unusedVariables false
set_option linter.unusedSimpArgs false
set_option maxRecDepth 20000
set_option maxHeartbeats 4000000

theorem u8w (y : Int) : IntKind.u8.wrap y = y % 256 := by
  simp only [IntKind.wrap, IntKind.signed, IntKind.bits]
  simp
theorem byteP_val {x : Int} (e : Nat) : byteP x e = x / 2 ^ e % 256 := by
  unfold byteP
  have h1 : (0 : Int) < 2 ^ e := Int.pow_pos (by decide)
  rw [u8w, Int.fdiv_eq_ediv_of_nonneg _ (by omega)]
theorem byteP_bd (x : Int) (e : Nat) : 0 ≤ byteP x e ∧ byteP x e < 256 := by
  rw [byteP_val]; omega
theorem headF_bd (w h : Int) (j : Nat) : 0 ≤ headF w h j ∧ headF w h j < 256 := by
  unfold headF
  rw [u8w, u8w]
  repeat' split
  all_goals omega
theorem saveC_u8 (w h : Int) (n : Nat) (L : Nat → Int) (m : Nat) (S : Nat → Int) : U8s (saveC w h n L m S) := fun j => by
  unfold saveC saveB saveA putV
  repeat' split
  all_goals first | exact headF_bd _ _ _ | exact byteP_bd _ _
theorem getV_ext {A B : Nat → Int} : ∀ {n : Nat}, (∀ j, j < n → A j = B j) → getV A n = getV B n
  | 0, _ => by rw [getV_0, getV_0]
  | n + 1, h => by rw [getV_s, getV_s, getV_ext fun j hj => h j (by omega), h n (by omega)]
theorem sumV_ext {A B : Nat → Int} : ∀ {n : Nat}, (∀ j, j < n → A j = B j) → sumV A n = sumV B n
  | 0, _ => by rw [sumV_0, sumV_0]
  | n + 1, h => by rw [sumV_s, sumV_s, sumV_ext fun j hj => h j (by omega), h n (by omega)]
theorem getV_put3 {x : Int} (hx : 0 ≤ x ∧ x < 16777216) : getV (putV x 3) 3 = x := by
  rw [getV_s, getV_s, getV_s, getV_0]
  unfold putV
  simp only [byteP_val, Nat.reduceAdd, Nat.reduceSub, Nat.reduceMul, Int.reducePow]
  omega
theorem getV_put4 {x : Int} (hx : 0 ≤ x ∧ x < 4294967296) : getV (putV x 4) 4 = x := by
  rw [getV_s, getV_s, getV_s, getV_s, getV_0]
  unfold putV
  simp only [byteP_val, Nat.reduceAdd, Nat.reduceSub, Nat.reduceMul, Int.reducePow]
  omega
theorem getV_put6 {x : Int} (hx : 0 ≤ x ∧ x < 281474976710656) : getV (putV x 6) 6 = x := by
  rw [getV_s, getV_s, getV_s, getV_s, getV_s, getV_s, getV_0]
  unfold putV
  simp only [byteP_val, Nat.reduceAdd, Nat.reduceSub, Nat.reduceMul, Int.reducePow]
  omega
theorem saveC_head {w h : Int} {n : Nat} {L : Nat → Int} {m : Nat} {S : Nat → Int} {j : Nat} (hj : j < 6) : saveC w h n L m S j = headF w h j := by
  rw [saveC_0 (by omega), saveB_0 (by omega), saveA_0 hj]
theorem save_head (w h : Int) (n : Nat) (L : Nat → Int) (m : Nat) (S : Nat → Int) : headB (saveC w h n L m S) := by
  unfold headB
  rw [saveC_head (by omega), saveC_head (by omega), saveC_head (by omega), saveC_head (by omega)]
  unfold headF
  exact ⟨rfl, rfl, rfl, rfl⟩
theorem save_light {w h : Int} {n : Nat} {L : Nat → Int} {m : Nat} {S : Nat → Int} {i : Nat} (hi : i < n) (hL : 0 ≤ L i ∧ L i ≤ 1099511627776) : lightB (saveC w h n L m S) i = L i := by
  unfold lightB
  rw [getV_ext (B := putV (L i) 6) fun j hj => ?_, getV_put6 (by omega)]
  show saveC w h n L m S (6 + 6 * i + j) = _
  rw [saveC_0 (by omega), saveB_0 (by omega)]
  exact saveA_1 j hj rfl
theorem save_shot {w h : Int} {n : Nat} {L : Nat → Int} {m : Nat} {S : Nat → Int} {i : Nat} (hi : i < m) (hn : n = 3 * m) (hS : 0 ≤ S i ∧ S i ≤ 1048576) : shotB (saveC w h n L m S) m i = S i := by
  unfold shotB
  rw [getV_ext (B := putV (S i) 3) fun j hj => ?_, getV_put3 (by omega)]
  show saveC w h n L m S (6 + 18 * m + 3 * i + j) = _
  rw [saveC_0 (by omega)]
  exact saveB_1 j hj (by omega)
theorem save_sum {w h : Int} {n : Nat} {L : Nat → Int} {m : Nat} {S : Nat → Int} : getV (shB (saveC w h n L m S) (10 + 6 * n + 3 * m - 4)) 4 = IntKind.i64.wrap (sumV (saveC w h n L m S) (10 + 6 * n + 3 * m - 4)) := by
  have hN : 10 + 6 * n + 3 * m - 4 = 6 + 6 * n + 3 * m := by omega
  have hb := sumV_bd (saveB w h n L S) (6 + 6 * n + 3 * m)
  have hw : IntKind.i64.wrap (sumV (saveB w h n L S) (6 + 6 * n + 3 * m)) = sumV (saveB w h n L S) (6 + 6 * n + 3 * m) := wrapI (by omega) (by omega)
  rw [hN, sumV_ext (A := saveC w h n L m S) (B := saveB w h n L S) fun j hj => saveC_0 hj]
  rw [getV_ext (B := putV (IntKind.i64.wrap (sumV (saveB w h n L S) (6 + 6 * n + 3 * m))) 4) fun j hj => saveC_1 j rfl]
  exact getV_put4 (by omega)
theorem save_wh {w h : Int} {n : Nat} {L : Nat → Int} {m : Nat} {S : Nat → Int} (hs : Side w h) : saveC w h n L m S 4 = w ∧ saveC w h n L m S 5 = h := by
  rw [saveC_head (by omega), saveC_head (by omega)]
  obtain ⟨a, b, c, d⟩ := hs
  have e4 : headF w h 4 = IntKind.u8.wrap w := by unfold headF; rfl
  have e5 : headF w h 5 = IntKind.u8.wrap h := by unfold headF; rfl
  rw [e4, e5, u8w, u8w]
  omega
theorem okIn_ext {A B : Nat → Int} {t : Int} {n : Nat} (h : ∀ i, i < n → A i = B i) (hb : okIn B t n = true) : okIn A t n = true :=
  okIn_iff.2 fun i hi => by rw [h i hi]; exact okIn_iff.1 hb i hi
theorem sameI_ext {n : Nat} {A B : Nat → Int} (h : ∀ i, i < n → A i = B i) : sameI n A n B = true := sameI_yes rfl (eqIn_iff.2 h)
/-- What was saved is read as it was. -/
theorem load_save {w h : Int} {n : Nat} {L : Nat → Int} {m : Nat} {S : Nat → Int} (h0 : filmE w h n L m S = 0) :
    loadE (10 + 6 * n + 3 * m) (saveC w h n L m S) = 0 ∧ saveC w h n L m S 4 = w ∧ saveC w h n L m S 5 = h ∧ (3 * (w * h)).toNat = n ∧ (w * h).toNat = m ∧ (∀ i, i < n → L i = lightB (saveC w h n L m S) i) ∧ ∀ i, i < m → S i = shotB (saveC w h n L m S) m i := by
  obtain ⟨hs, h1, h2, h3, h4⟩ := filmE_ok h0
  obtain ⟨w4, w5⟩ := save_wh (n := n) (L := L) (m := m) (S := S) hs
  have hy := hs.wh
  have e1 : (3 * (w * h)).toNat = n := by omega
  have e2 : (w * h).toNat = m := by omega
  have l1 : ∀ i, i < n → lightB (saveC w h n L m S) i = L i := fun i hi => save_light hi (filmE_inL h0 hi)
  have s1 : ∀ i, i < m → shotB (saveC w h n L m S) m i = S i := fun i hi => save_shot hi (by omega) (filmE_inS h0 hi)
  refine ⟨?_, w4, w5, e1, e2, fun i hi => (l1 i hi).symm, fun i hi => (s1 i hi).symm⟩
  rw [loadE_f (save_head ..) (by rw [w4, w5]; exact hs) (by rw [w4, w5, e2]; omega) save_sum, w4, w5, e1, e2]
  exact filmE0 hs ⟨h1, h2⟩ (okIn_ext l1 h3) (okIn_ext s1 h4)
theorem load_same {w h : Int} {n : Nat} {L : Nat → Int} {m : Nat} {S : Nat → Int} (h0 : filmE w h n L m S = 0) :
    sameFV w h n L m S (ifz (loadE (10 + 6 * n + 3 * m) (saveC w h n L m S)) (saveC w h n L m S 4)) (ifz (loadE (10 + 6 * n + 3 * m) (saveC w h n L m S)) (saveC w h n L m S 5))
      (ifn (loadE (10 + 6 * n + 3 * m) (saveC w h n L m S)) (3 * (saveC w h n L m S 4 * saveC w h n L m S 5)).toNat) (lightB (saveC w h n L m S))
      (ifn (loadE (10 + 6 * n + 3 * m) (saveC w h n L m S)) (saveC w h n L m S 4 * saveC w h n L m S 5).toNat) (shotB (saveC w h n L m S) (saveC w h n L m S 4 * saveC w h n L m S 5).toNat) = true := by
  obtain ⟨a, b, c, d, e, f, g⟩ := load_save h0
  rw [a, ifz0 rfl, ifz0 rfl, ifn0 rfl, ifn0 rfl, b, c, d, e]
  unfold sameFV
  rw [sameI_ext f, sameI_ext g]
  simp
theorem heavy_f : FnOk Try.prog 10 Try.f10 := ⟨Try.func10, by kernel_rfl⟩
theorem heavy_a (w h : Int) (n : Nat) (L : Nat → Int) (m : Nat) (S : Nat → Int) : ACalls Try.prog 10 [.agg [.int .i64 w, .int .i64 h, ints .i64 n L, ints .i64 m S]] (.bool (decide (IntKind.i64.wrap ((n : Int) + m) > 1200))) := by
  refine acalls_of (inl := hasI (P := Try.prog) [] []) (base [] [] []) 0 heavy_f (And.intro (by kernel_rfl) ?_)
  repeat' (first | refine And.intro ?_ ?_ | (with_reducible exact ff_elim) | (with_reducible exact tf_elim) | refine num_elim ?_ | intro _ | (with_reducible rfl) | ((with_reducible refine lk_t ?_); exact rfl) | ((with_reducible refine pf_t ?_); exact rfl) | refine tell ?_ | exact True.intro | (refine IsT.of ?_; kernel_rfl))
  all_goals (try refine Tell.mk ?_)
  all_goals first | with_reducible rfl | with_reducible exact isI_mk | with_reducible assumption | (with_reducible refine gb_t ?_; with_reducible assumption) | (with_reducible refine gb_f ?_; with_reducible assumption) | ((with_reducible refine lk_t ?_); rfl) | ((with_reducible refine okF_t ?_); kernel_rfl) | ((with_reducible refine ks_t ?_); rfl) | ((with_reducible refine pk_t ?_); rfl) | ((with_reducible refine pf_t ?_); rfl) | skip
  all_goals (try dsimp only at *)
  all_goals (try simp only [decide_eq_true_eq, decide_eq_false_iff_not] at *)
  all_goals (try simp only [mulN1, Nat.add_zero, Nat.zero_add, Nat.mul_one, Int.toNat_natCast, avInt_int, intF_mk] at *)
  all_goals first | with_reducible rfl | with_reducible exact nums_N | omega | ((with_reducible refine by_le 1 rfl ?_); omega) | ((with_reducible refine by_le 8 rfl ?_); omega) | (rw [wrapI (by omega) (by omega)] <;> omega) | skip
def heavy_r (w h : Int) (n : Nat) (L : Nat → Int) (m : Nat) (S : Nat → Int) : AV := .bool (decide (IntKind.i64.wrap ((n : Int) + m) > 1200))
def heavy_k : Con Try.prog := ⟨10, fun args => match args with | [.agg [.int .i64 w, .int .i64 h, .sl n 1 g_L, .sl m 1 g_S]] => .ok (some (IsI .i64 g_L ∧ IsI .i64 g_S)) (heavy_r w h n (intF g_L) m (intF g_S)) | _ => .no, by
  intro args p r h hp
  split at h
  · cases h; obtain ⟨h_L, h_S⟩ := hp; have e_L := h_L.eq; have e_S := h_S.eq; rw [e_L, e_S]; exact heavy_a _ _ _ _ _ _
  · cases h⟩
theorem workSaves_f : FnOk Try.prog 4 Try.f4 := ⟨Try.func4, by kernel_rfl⟩
theorem workSaves_a (w h : Int) (n : Nat) (L : Nat → Int) (m : Nat) (S : Nat → Int) : ACalls Try.prog 4 [.agg [.int .i64 w, .int .i64 h, ints .i64 n L, ints .i64 m S]] (.bool true) := by
  refine acalls_len fun hlen => ?_
  simp only [lenV, len1, lenV0, len0, and_true, true_and] at hlen
  refine acalls_of (inl := hasI (P := Try.prog) [] []) (base [heavy_k, save_k, saveR_k, load_k, sameFilm_k] [] []) 0 workSaves_f (And.intro (by kernel_rfl) ?_)
  repeat' (first | refine And.intro ?_ ?_ | (with_reducible exact ff_elim) | (with_reducible exact tf_elim) | refine num_elim ?_ | intro _ | (with_reducible rfl) | ((with_reducible refine lk_t ?_); exact rfl) | ((with_reducible refine pf_t ?_); exact rfl) | refine tell ?_ | exact True.intro | (refine IsT.of ?_; kernel_rfl))
  all_goals (try refine Tell.mk ?_)
  all_goals first | with_reducible rfl | with_reducible exact isI_mk | with_reducible assumption | (with_reducible refine gb_t ?_; with_reducible assumption) | (with_reducible refine gb_f ?_; with_reducible assumption) | ((with_reducible refine lk_t ?_); rfl) | ((with_reducible refine okF_t ?_); kernel_rfl) | ((with_reducible refine ks_t ?_); rfl) | ((with_reducible refine pk_t ?_); rfl) | ((with_reducible refine pf_t ?_); rfl) | skip
  all_goals (try dsimp only at *)
  all_goals (try simp only [decide_eq_true_eq, decide_eq_false_iff_not] at *)
  all_goals (try simp only [mulN1, Nat.add_zero, Nat.zero_add, Nat.mul_one, Int.toNat_natCast, avInt_int, intF_mk] at *)
  all_goals first | with_reducible rfl | with_reducible exact nums_N | omega | ((with_reducible refine by_le 1 rfl ?_); omega) | ((with_reducible refine by_le 8 rfl ?_); omega) | (rw [wrapI (by omega) (by omega)] <;> omega) | skip
  all_goals first | (exfalso; simp only [bne_self_eq_false, beq_self_eq_true, Bool.not_true, Bool.or_self, Bool.false_eq_true] at *; done) | skip
  all_goals first | exact (saveC_u8 _ _ _ _ _ _ _).1 | exact (saveC_u8 _ _ _ _ _ _ _).2 | skip
  all_goals simp only [bne_iff_ne, ne_eq, bne_eq_false_iff_eq] at *
  all_goals first | (rw [ifn1 (by with_reducible assumption)]; rfl) | skip
  all_goals (have h0 : filmE w h n L m S = 0 := by with_reducible assumption)
  all_goals (have hy := (filmE_ok h0).1.wh; have hz := (filmE_ok h0).2.1; have hz2 := (filmE_ok h0).2.2.1)
  all_goals simp only [ifn0 h0]
  all_goals first | omega | (rw [load_same h0, (load_save h0).1]; rfl)
def workSaves_r (w h : Int) (n : Nat) (L : Nat → Int) (m : Nat) (S : Nat → Int) : AV := .bool true
def workSaves_k : Con Try.prog := ⟨4, fun args => match args with | [.agg [.int .i64 w, .int .i64 h, .sl n 1 g_L, .sl m 1 g_S]] => .ok (some (IsI .i64 g_L ∧ IsI .i64 g_S)) (workSaves_r w h n (intF g_L) m (intF g_S)) | _ => .no, by
  intro args p r h hp
  split at h
  · cases h; obtain ⟨h_L, h_S⟩ := hp; have e_L := h_L.eq; have e_S := h_S.eq; rw [e_L, e_S]; exact workSaves_a _ _ _ _ _ _
  · cases h⟩
end Go.Proofs.Ytehjhfifldefiaa
