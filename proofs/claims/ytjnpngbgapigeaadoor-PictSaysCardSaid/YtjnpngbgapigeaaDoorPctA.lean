/- Pictures as bytes: strings of bytes, sums, runs. -/
import Derived.Test.YtjnpngbgapigeaaDoorPixA
namespace Go.Proofs.YtjnpngbgapigeaaDoor
open Go.RowKit Ev
set_option linter.unusedVariables false
set_option linter.unusedSimpArgs false
set_option maxRecDepth 20000
set_option maxHeartbeats 4000000

theorem loop_eq (a : ByteArray) : ∀ (k i : Nat) (r : List UInt8), a.size - i = k → ByteArray.toList.loop a i r = r.reverse ++ a.data.toList.drop i := by
  intro k
  induction k with
  | zero =>
    intro i r h
    unfold ByteArray.toList.loop
    rw [if_neg (by omega)]
    rw [List.drop_eq_nil_of_le (by show a.data.toList.length ≤ i; rw [Array.length_toList]; show a.size ≤ i; omega), List.append_nil]
  | succ k ih =>
    intro i r h
    have hi : i < a.size := by omega
    unfold ByteArray.toList.loop
    rw [if_pos hi, ih (i + 1) _ (by omega)]
    have hl : i < a.data.toList.length := by rw [Array.length_toList]; exact hi
    rw [List.drop_eq_getElem_cons hl, List.reverse_cons, List.append_assoc]
    congr 1
    simp [ByteArray.get!, hi]
theorem toList_data (a : ByteArray) : a.toList = a.data.toList := by
  show ByteArray.toList.loop a 0 [] = _
  rw [loop_eq a _ 0 [] rfl]; rfl
theorem toList_inj {a b : ByteArray} (h : a.toList = b.toList) : a = b := by
  rw [toList_data, toList_data] at h
  have := Array.toList_inj.1 h
  cases a; cases b; simp_all
theorem strI_data (n : Nat) (P : Nat → Int) : (strI n P).data.toList = (List.range n).map fun j => UInt8.ofNat (P j).toNat := by
  show (((((List.range n).map P).map fun n => UInt8.ofNat n.toNat).toArray)).toList = _
  simp
theorem strI_ext {n : Nat} {P Q : Nat → Int} (h : ∀ j, j < n → P j = Q j) : strI n P = strI n Q := by
  unfold strI
  congr 1
  exact List.map_congr_left fun j hj => h j (List.mem_range.1 hj)
theorem strI_inj {n m : Nat} {P Q : Nat → Int} (hP : U8s P) (hQ : U8s Q) (h : (strI n P).toList = (strI m Q).toList) : n = m ∧ ∀ j, j < n → P j = Q j := by
  rw [toList_data, toList_data, strI_data, strI_data] at h
  have hl : n = m := by have := congrArg List.length h; simpa using this
  subst hl
  refine ⟨rfl, fun j hj => ?_⟩
  have e := congrArg (fun l => l[j]?) h
  simp only [List.getElem?_map, List.getElem?_range hj, Option.map_some, Option.some.injEq] at e
  have e2 := congrArg UInt8.toNat e
  rw [UInt8.toNat_ofNat', UInt8.toNat_ofNat'] at e2
  have h1 := hP j
  have h2 := hQ j
  omega
theorem strI_beq {n m : Nat} {P Q : Nat → Int} (hP : U8s P) (hQ : U8s Q) {b : Bool} (h : b = true ↔ n = m ∧ ∀ j, j < n → P j = Q j) : ((strI n P).toList == (strI m Q).toList) = b := by
  cases b with
  | true =>
    obtain ⟨rfl, e⟩ := h.1 rfl
    rw [strI_ext e]; exact beq_self_eq_true _
  | false =>
    refine beq_eq_false_iff_ne.2 fun c => ?_
    have := h.2 (strI_inj hP hQ c)
    cases this
/-- Are two pixels alike? -/
@[irreducible] def pxE (P : Nat → Int) (i k : Nat) : Bool := P (4 * i) == P (4 * k) && (P (4 * i + 1) == P (4 * k + 1) && (P (4 * i + 2) == P (4 * k + 2) && P (4 * i + 3) == P (4 * k + 3)))
theorem px_iff (P : Nat → Int) (i k : Nat) : pxE P i k = true ↔ ∀ j, j < 4 → P (4 * i + j) = P (4 * k + j) := by
  unfold pxE
  simp only [Bool.and_eq_true, beq_iff_eq]
  constructor
  · rintro ⟨a, b, c, d⟩ j hj
    have : j = 0 ∨ j = 1 ∨ j = 2 ∨ j = 3 := by omega
    rcases this with rfl | rfl | rfl | rfl
    · exact a
    · exact b
    · exact c
    · exact d
  · intro h
    exact ⟨h 0 (by decide), h 1 (by decide), h 2 (by decide), h 3 (by decide)⟩
theorem px_str {P : Nat → Int} (hP : U8s P) (i k : Nat) : ((strI 4 fun j => P (4 * i + j)).toList == (strI 4 fun j => P (4 * k + j)).toList) = pxE P i k :=
  strI_beq (fun j => hP _) (fun j => hP _) ((px_iff P i k).trans ⟨fun h => ⟨rfl, h⟩, fun h => h.2⟩)
/-- How many pixels from here on are alike: up to 128. -/
def rnF (P : Nat → Int) (n p : Nat) : Nat → Nat → Nat
  | 0, k => k
  | f + 1, k => bif decide (p + k < n) && pxE P p (p + k) then rnF P n p f (k + 1) else k
@[irreducible] def rn (P : Nat → Int) (n p : Nat) : Nat := rnF P n p 127 1
theorem rn_0 (P : Nat → Int) (n p : Nat) : rnF P n p (128 - 1) 1 = rn P n p := by unfold rn; rfl
theorem rn_t {P : Nat → Int} {n p k : Nat} (h1 : k < 128) (h2 : p + k < n) (h3 : pxE P p (p + k) = true) (h : rnF P n p (128 - k) k = rn P n p) : rnF P n p (128 - (k + 1)) (k + 1) = rn P n p := by
  rw [← h, show 128 - k = (128 - (k + 1)) + 1 by omega]
  show _ = (bif decide (p + k < n) && pxE P p (p + k) then _ else _)
  rw [decide_eq_true h2, h3]; rfl
theorem rn_f {P : Nat → Int} {n p k : Nat} (hk : k ≤ 128) (h1 : ¬ (k < 128 ∧ p + k < n ∧ pxE P p (p + k) = true)) (h : rnF P n p (128 - k) k = rn P n p) : rn P n p = k := by
  rw [← h]
  by_cases e : k = 128
  · subst e; rfl
  · rw [show 128 - k = (128 - (k + 1)) + 1 by omega]
    show (bif decide (p + k < n) && pxE P p (p + k) then _ else _) = _
    by_cases a : p + k < n
    · have : pxE P p (p + k) = false := by
        cases q : pxE P p (p + k)
        · rfl
        · exact absurd ⟨by omega, a, q⟩ h1
      rw [this, Bool.and_false]; rfl
    · rw [decide_eq_false a]; rfl
structure RnI (P : Nat → Int) (n p : Nat) where
  k : Nat
  h1 : 1 ≤ k
  h2 : k ≤ 128
  h3 : p + k ≤ n
  he : rnF P n p (128 - k) k = rn P n p
theorem runN_f : FnOk Tryd.prog 29 Tryd.f29 := ⟨Tryd.func29, by kernel_rfl⟩
theorem runN_a (N : Nat) (P : Nat → Int) (p n : Nat) (hpre : U8s P ∧ p < n ∧ 4 * n ≤ N ∧ N ≤ 1000000) : ACalls Tryd.prog 29 [ints .u8 N P, .int .i64 p, .int .i64 n] (.int .i64 (rn P n p)) := by
  refine acalls_of (inl := hasI (P := Tryd.prog) [] []) (base [] [] []) 0 runN_f (And.intro (by kernel_rfl) ?_)
  obtain ⟨hP, hp, hn, hN⟩ := hpre
  repeat' (first | refine And.intro ?_ ?_ | (with_reducible exact ff_elim) | (with_reducible exact tf_elim) | refine num_elim ?_ | intro _ | (with_reducible rfl) | ((with_reducible refine lk_t ?_); exact rfl) | ((with_reducible refine pf_t ?_); exact rfl) | refine tell ?_ | exact True.intro | (refine IsT.of ?_; kernel_rfl))
  all_goals (try (refine loop_keep [0, 1, 2] [0] ?_; refine LoopI.mk (RnI P n p) (fun j => [(7, .int .i64 j.k)]) (fun j => []) (fun j => 128 - j.k) (⟨1, Nat.le_refl _, by decide, hp, rn_0 P n p⟩) (wk_mk [some 0] ?_) (fun ⟨k, h1, h2, h3, he⟩ => ?_)))
  repeat' (first | refine And.intro ?_ ?_ | (with_reducible exact ff_elim) | (with_reducible exact tf_elim) | refine stp_mk [some 0] ((⟨k + 1, ?_, ?_, ?_, ?_⟩ : RnI P n p)) ?_ ?_ | refine num_elim ?_ | intro _ | (with_reducible rfl) | ((with_reducible refine lk_t ?_); exact rfl) | ((with_reducible refine pf_t ?_); exact rfl) | refine tell ?_ | exact True.intro | (refine IsT.of ?_; kernel_rfl))
  all_goals (try refine Tell.mk ?_)
  all_goals (try dsimp only at *)
  all_goals first | with_reducible rfl | with_reducible exact isI_mk | with_reducible assumption | (with_reducible refine gb_t ?_; with_reducible assumption) | (with_reducible refine gb_f ?_; with_reducible assumption) | skip
  all_goals (have w1 : IntKind.i64.wrap (4 * (p : Int)) = ((4 * p : Nat) : Int) := (by rw [wrapI (by omega) (by omega)]; omega); have w2 : IntKind.i64.wrap (((4 * p : Nat) : Int) + 4) = ((4 * p + 4 : Nat) : Int) := (by rw [wrapI (by omega) (by omega)]; omega); have d1 : (((4 * p + 4 : Nat) : Int) - ((4 * p : Nat) : Int)).toNat = 4 := (by omega))
  all_goals (try (have w3 : IntKind.i64.wrap ((p : Int) + (k : Int)) = ((p + k : Nat) : Int) := (by rw [wrapI (by omega) (by omega)]; omega); have w4 : IntKind.i64.wrap (4 * ((p + k : Nat) : Int)) = ((4 * (p + k) : Nat) : Int) := (by rw [wrapI (by omega) (by omega)]; omega); have w5 : IntKind.i64.wrap (((4 * (p + k) : Nat) : Int) + 4) = ((4 * (p + k) + 4 : Nat) : Int) := (by rw [wrapI (by omega) (by omega)]; omega); have d2 : (((4 * (p + k) + 4 : Nat) : Int) - ((4 * (p + k) : Nat) : Int)).toNat = 4 := (by omega)))
  all_goals (try simp only [shiftA_some, lenN_some, avInt_int, w1, w2, w3, w4, w5, d1, d2, mulN1, Int.toNat_natCast, px_str hP] at *)
  all_goals (try simp only [Bool.and_eq_true, Bool.and_eq_false_iff, decide_eq_true_eq, decide_eq_false_iff_not, gb] at *)
  all_goals first | rfl | omega | exact rn_t (by omega) (by omega) (by first | assumption | exact (‹_ ∧ pxE P p (p + k) = true›).2) he | (rw [wrapI (by omega) (by omega)]; omega) | (rw [rn_f h2 (by grind) he]; done) | trace_state
theorem runP_f : FnOk Tryd.prog 29 Tryd.f29 := ⟨Tryd.func29, by kernel_rfl⟩
theorem runP_a (N : Nat) (P : Nat → Int) (p n : Int) (hpre : U8s P ∧ (0 ≤ p ∧ p < n ∧ 4 * n ≤ N) ∧ N ≤ 1000000) : ACalls Tryd.prog 29 [ints .u8 N P, .int .i64 p, .int .i64 n] (.int .i64 (rn P n.toNat p.toNat)) := by
  obtain ⟨hP, hp, hN⟩ := hpre
  have h := runN_a N P p.toNat n.toNat ⟨hP, by omega, by omega, hN⟩
  rwa [show ((p.toNat : Nat) : Int) = p by omega, show ((n.toNat : Nat) : Int) = n by omega] at h
def runP_r (N : Nat) (P : Nat → Int) (p n : Int) : AV := .int .i64 (rn P n.toNat p.toNat)
def runP_p (N : Nat) (P : Nat → Int) (p n : Int) : Prop := U8s P ∧ (0 ≤ p ∧ p < n ∧ 4 * n ≤ N) ∧ N ≤ 1000000
def runP_k : Con Tryd.prog := ⟨29, fun args => match args with | [.sl N 1 g_P, .int .i64 p, .int .i64 n] => .ok (some (IsI .u8 g_P ∧ runP_p N (intF g_P) p n)) (runP_r N (intF g_P) p n) | _ => .no, by
  intro args p r h hp
  split at h
  · cases h; obtain ⟨h_P, hp⟩ := hp; have e_P := h_P.eq; rw [e_P]; exact runP_a _ _ _ _ hp
  · cases h⟩
theorem alikeR_f : FnOk Tryd.prog 42 Tryd.f42 := ⟨Tryd.func42, by kernel_rfl⟩
theorem alikeR_a (N : Nat) (P : Nat → Int) (i k : Int) (hpre : (0 ≤ i ∧ 4 * i + 4 ≤ N) ∧ (0 ≤ k ∧ 4 * k + 4 ≤ N) ∧ N ≤ 1000000) : ACalls Tryd.prog 42 [ints .u8 N P, .int .i64 i, .int .i64 k] (.bool (pxE P i.toNat k.toNat)) := by
  refine acalls_of (inl := hasI (P := Tryd.prog) [] []) (base [] [] []) 0 alikeR_f (And.intro (by kernel_rfl) ?_)
  obtain ⟨hi, hk, hN⟩ := hpre
  obtain ⟨x, rfl⟩ : ∃ x : Nat, i = x := ⟨i.toNat, by omega⟩
  obtain ⟨y, rfl⟩ : ∃ y : Nat, k = y := ⟨k.toNat, by omega⟩
  have w0 : ∀ z : Nat, 4 * (z : Int) + 4 ≤ N → IntKind.i64.wrap (4 * (z : Int)) = ((4 * z : Nat) : Int) := fun z hz => by rw [wrapI (by omega) (by omega)]; omega
  have a0 := w0 x hi.2
  have b0 := w0 y hk.2
  have a1 : IntKind.i64.wrap (((4 * x : Nat) : Int) + 1) = ((4 * x + 1 : Nat) : Int) := by rw [wrapI (by omega) (by omega)]; omega
  have a2 : IntKind.i64.wrap (((4 * x : Nat) : Int) + 2) = ((4 * x + 2 : Nat) : Int) := by rw [wrapI (by omega) (by omega)]; omega
  have a3 : IntKind.i64.wrap (((4 * x : Nat) : Int) + 3) = ((4 * x + 3 : Nat) : Int) := by rw [wrapI (by omega) (by omega)]; omega
  have b1 : IntKind.i64.wrap (((4 * y : Nat) : Int) + 1) = ((4 * y + 1 : Nat) : Int) := by rw [wrapI (by omega) (by omega)]; omega
  have b2 : IntKind.i64.wrap (((4 * y : Nat) : Int) + 2) = ((4 * y + 2 : Nat) : Int) := by rw [wrapI (by omega) (by omega)]; omega
  have b3 : IntKind.i64.wrap (((4 * y : Nat) : Int) + 3) = ((4 * y + 3 : Nat) : Int) := by rw [wrapI (by omega) (by omega)]; omega
  repeat' (first | refine And.intro ?_ ?_ | (with_reducible exact ff_elim) | (with_reducible exact tf_elim) | refine num_elim ?_ | intro _ | (with_reducible rfl) | ((with_reducible refine lk_t ?_); exact rfl) | ((with_reducible refine pf_t ?_); exact rfl) | refine tell ?_ | exact True.intro | (refine IsT.of ?_; kernel_rfl))
  all_goals (try refine Tell.mk ?_)
  all_goals first | with_reducible assumption | (show 0 < 1; decide) | skip
  all_goals (try simp only [a0, a1, a2, a3, b0, b1, b2, b3] at *)
  all_goals first | omega | (with_reducible refine gb_t ?_; with_reducible assumption) | (unfold pxE; simp only [mulN1, Nat.add_zero, Int.toNat_natCast, Bool.and_assoc]; done) | trace_state
def alikeR_r (N : Nat) (P : Nat → Int) (i k : Int) : AV := .bool (pxE P i.toNat k.toNat)
def alikeR_p (N : Nat) (P : Nat → Int) (i k : Int) : Prop := (0 ≤ i ∧ 4 * i + 4 ≤ N) ∧ (0 ≤ k ∧ 4 * k + 4 ≤ N) ∧ N ≤ 1000000
def alikeR_k : Con Tryd.prog := ⟨42, fun args => match args with | [.sl N 1 g_P, .int .i64 i, .int .i64 k] => .ok (some (IsI .u8 g_P ∧ alikeR_p N (intF g_P) i k)) (alikeR_r N (intF g_P) i k) | _ => .no, by
  intro args p r h hp
  split at h
  · cases h; obtain ⟨h_P, hp⟩ := hp; have e_P := h_P.eq; rw [e_P]; exact alikeR_a _ _ _ _ hp
  · cases h⟩
/-- Sums, and sums of sums, modulo 251. -/
def sA (B : Nat → Int) : Nat → Int
  | 0 => 1
  | n + 1 => (sA B n + B n).tmod 251
def sB (B : Nat → Int) : Nat → Int
  | 0 => 0
  | n + 1 => (sB B n + sA B (n + 1)).tmod 251
theorem sA_0 (B : Nat → Int) : sA B 0 = 1 := rfl
theorem sA_s (B : Nat → Int) (n : Nat) : sA B (n + 1) = (sA B n + B n).tmod 251 := rfl
theorem sB_0 (B : Nat → Int) : sB B 0 = 0 := rfl
theorem sB_s (B : Nat → Int) (n : Nat) : sB B (n + 1) = (sB B n + sA B (n + 1)).tmod 251 := rfl
theorem sA_bd {B : Nat → Int} (h : U8s B) : ∀ n, 0 ≤ sA B n ∧ sA B n ≤ 250
  | 0 => by rw [sA_0]; omega
  | n + 1 => by
    have i := sA_bd h n
    have b := h n
    rw [sA_s, Int.tmod_eq_emod_of_nonneg (by omega)]; omega
theorem sB_bd {B : Nat → Int} (h : U8s B) : ∀ n, 0 ≤ sB B n ∧ sB B n ≤ 250
  | 0 => by rw [sB_0]; omega
  | n + 1 => by
    have i := sB_bd h n
    have b := sA_bd h (n + 1)
    rw [sB_s, Int.tmod_eq_emod_of_nonneg (by omega)]; omega
attribute [irreducible] sA sB
/-- The two bytes of the check. -/
@[irreducible] def ckF (B : Nat → Int) (n : Nat) (j : Nat) : Int := if j = 0 then sA B n else sB B n
theorem ck_at (B : Nat → Int) (n : Nat) : ∀ {j : Nat}, j < 2 * 1 → AV.int .u8 (ckF B n j) = [AV.int .u8 (sA B n), AV.int .u8 (sB B n)].getD j .any
  | 0, _ => by unfold ckF; rfl
  | 1, _ => by unfold ckF; rfl
  | j + 2, h => absurd h (by omega)
theorem ck_u8 {B : Nat → Int} (h : U8s B) (n : Nat) : U8s (ckF B n) := fun j => by
  have a := sA_bd h n
  have b := sB_bd h n
  unfold ckF; split <;> omega
structure CkI (n : Nat) where
  k : Nat
  hk : k ≤ n
theorem checkP_f : FnOk Tryd.prog 18 Tryd.f18 := ⟨Tryd.func18, by kernel_rfl⟩
theorem checkP_a (n : Nat) (B : Nat → Int) (hpre : U8s B ∧ n ≤ 1000000) : ACalls Tryd.prog 18 [ints .u8 n B] (ints .u8 2 (ckF B n)) := by
  refine acalls_of (inl := hasI (P := Tryd.prog) [] []) (base [] [] []) 0 checkP_f (And.intro (by kernel_rfl) ?_)
  obtain ⟨hB, hn⟩ := hpre
  repeat' (first | refine And.intro ?_ ?_ | (with_reducible exact ff_elim) | (with_reducible exact tf_elim) | refine num_elim ?_ | intro _ | (with_reducible rfl) | ((with_reducible refine lk_t ?_); exact rfl) | ((with_reducible refine pf_t ?_); exact rfl) | refine tell ?_ | exact True.intro | (refine IsT.of ?_; kernel_rfl))
  all_goals (try (refine loop_keep [7, 8] [0] ?_; refine LoopI.mk (CkI n) (fun j => [(3, .int .i64 (sA B j.k)), (4, .int .i64 (sB B j.k)), (9, .int .i64 j.k)]) (fun j => []) (fun j => n - j.k) (⟨0, Nat.zero_le _⟩) (wk_mk [some 0] ?_) (fun ⟨k, hk⟩ => ?_)))
  repeat' (first | refine And.intro ?_ ?_ | (with_reducible exact ff_elim) | (with_reducible exact tf_elim) | refine stp_mk [some 0] ((⟨k + 1, ?_⟩ : CkI n)) ?_ ?_ | refine num_elim ?_ | intro _ | (with_reducible rfl) | ((with_reducible refine lk_t ?_); exact rfl) | ((with_reducible refine pf_t ?_); exact rfl) | refine tell ?_ | exact True.intro | (refine IsT.of ?_; kernel_rfl))
  all_goals (try refine Tell.mk ?_)
  all_goals (try dsimp only at *)
  all_goals first | (with_reducible exact sA_0 B) | (with_reducible exact sB_0 B) | rfl | (show 0 < 1; decide) | exact Nat.le_refl 2 | skip
  all_goals (have ha := sA_bd hB k; have hb := sB_bd hB k; have hc := hB k; have w0 : IntKind.i64.wrap (B k) = B k := wrapI (by omega) (by omega); have w1 : IntKind.i64.wrap (sA B k + B k) = sA B k + B k := wrapI (by omega) (by omega); have ha2 := sA_bd hB (k + 1); have w2 : IntKind.i64.wrap (sB B k + sA B (k + 1)) = sB B k + sA B (k + 1) := wrapI (by omega) (by omega); have w3 : IntKind.u8.wrap (sA B k) = sA B k := wrapU8 (by omega) (by omega); have w4 : IntKind.u8.wrap (sB B k) = sB B k := wrapU8 (by omega) (by omega))
  all_goals (try simp only [mulN1, Nat.add_zero, Nat.zero_add, Int.toNat_natCast, w0, w1, w3, w4, decide_eq_true_eq, decide_eq_false_iff_not] at *)
  all_goals first | omega | (rw [sA_s]; done) | (rw [← sA_s, w2, sB_s]; done) | (rw [wrapI (by omega) (by omega)]; omega) | skip
  all_goals (obtain rfl : k = n := (by omega))
  all_goals first | exact ck_at B k (by assumption) | trace_state
def checkP_r (n : Nat) (B : Nat → Int) : AV := ints .u8 2 (ckF B n)
def checkP_p (n : Nat) (B : Nat → Int) : Prop := U8s B ∧ n ≤ 1000000
def checkP_k : Con Tryd.prog := ⟨18, fun args => match args with | [.sl n 1 g_B] => .ok (some (IsI .u8 g_B ∧ checkP_p n (intF g_B))) (checkP_r n (intF g_B)) | _ => .no, by
  intro args p r h hp
  split at h
  · cases h; obtain ⟨h_B, hp⟩ := hp; have e_B := h_B.eq; rw [e_B]; exact checkP_a _ _ hp
  · cases h⟩
theorem twoSumsR_f : FnOk Tryd.prog 20 Tryd.f20 := ⟨Tryd.func20, by kernel_rfl⟩
theorem twoSumsR_a (n : Nat) (B : Nat → Int) (hpre : U8s B ∧ n ≤ 1000000) : ACalls Tryd.prog 20 [ints .u8 n B] (ints .u8 2 (ckF B n)) := by
  refine acalls_of (inl := hasI (P := Tryd.prog) [] []) (base [] [] []) 0 twoSumsR_f (And.intro (by kernel_rfl) ?_)
  obtain ⟨hB, hn⟩ := hpre
  repeat' (first | refine And.intro ?_ ?_ | (with_reducible exact ff_elim) | (with_reducible exact tf_elim) | refine num_elim ?_ | intro _ | (with_reducible rfl) | ((with_reducible refine lk_t ?_); exact rfl) | ((with_reducible refine pf_t ?_); exact rfl) | refine tell ?_ | exact True.intro | (refine IsT.of ?_; kernel_rfl))
  all_goals (try (refine loop_keep [0] [0] ?_; refine LoopI.mk (CkI n) (fun j => [(3, .int .i64 (sA B j.k)), (4, .int .i64 (sB B j.k)), (5, .int .i64 j.k)]) (fun j => []) (fun j => n - j.k) (⟨0, Nat.zero_le _⟩) (wk_mk [some 0] ?_) (fun ⟨k, hk⟩ => ?_)))
  repeat' (first | refine And.intro ?_ ?_ | (with_reducible exact ff_elim) | (with_reducible exact tf_elim) | refine stp_mk [some 0] ((⟨k + 1, ?_⟩ : CkI n)) ?_ ?_ | refine num_elim ?_ | intro _ | (with_reducible rfl) | ((with_reducible refine lk_t ?_); exact rfl) | ((with_reducible refine pf_t ?_); exact rfl) | refine tell ?_ | exact True.intro | (refine IsT.of ?_; kernel_rfl))
  all_goals (try refine Tell.mk ?_)
  all_goals (try dsimp only at *)
  all_goals first | (with_reducible exact sA_0 B) | (with_reducible exact sB_0 B) | rfl | (show 0 < 1; decide) | exact Nat.le_refl 2 | skip
  all_goals (have ha := sA_bd hB k; have hb := sB_bd hB k; have hc := hB k; have w0 : IntKind.i64.wrap (B k) = B k := wrapI (by omega) (by omega); have w1 : IntKind.i64.wrap (sA B k + B k) = sA B k + B k := wrapI (by omega) (by omega); have ha2 := sA_bd hB (k + 1); have w2 : IntKind.i64.wrap (sB B k + sA B (k + 1)) = sB B k + sA B (k + 1) := wrapI (by omega) (by omega); have w3 : IntKind.u8.wrap (sA B k) = sA B k := wrapU8 (by omega) (by omega); have w4 : IntKind.u8.wrap (sB B k) = sB B k := wrapU8 (by omega) (by omega))
  all_goals (try simp only [mulN1, Nat.add_zero, Nat.zero_add, Int.toNat_natCast, w0, w1, w3, w4, decide_eq_true_eq, decide_eq_false_iff_not] at *)
  all_goals first | omega | (rw [sA_s]; done) | (rw [← sA_s, w2, sB_s]; done) | (rw [wrapI (by omega) (by omega)]; omega) | skip
  all_goals (obtain rfl : k = n := (by omega))
  all_goals first | exact ck_at B k (by assumption) | trace_state
def twoSumsR_r (n : Nat) (B : Nat → Int) : AV := ints .u8 2 (ckF B n)
def twoSumsR_p (n : Nat) (B : Nat → Int) : Prop := U8s B ∧ n ≤ 1000000
def twoSumsR_k : Con Tryd.prog := ⟨20, fun args => match args with | [.sl n 1 g_B] => .ok (some (IsI .u8 g_B ∧ twoSumsR_p n (intF g_B))) (twoSumsR_r n (intF g_B)) | _ => .no, by
  intro args p r h hp
  split at h
  · cases h; obtain ⟨h_B, hp⟩ := hp; have e_B := h_B.eq; rw [e_B]; exact twoSumsR_a _ _ hp
  · cases h⟩
theorem checkM_f : FnOk Tryd.prog 18 Tryd.f18 := ⟨Tryd.func18, by kernel_rfl⟩
theorem checkM_a (n N : Nat) (B : Nat → Int) (hpre : n ≤ N ∧ U8s B ∧ n ≤ 1000000) : MCalls Tryd.prog 18 ([.os 0 1 0 n]) [.nums .u8 N B] (.os 1 1 0 2) [.nums .u8 N B, .nums .u8 2 (ckF B n)] := by
  refine mcallsF_of (inl := hasI (P := Tryd.prog) [] []) (base [] [] []) 0 checkM_f (And.intro (by kernel_rfl) ?_)
  obtain ⟨hN, hB, hn⟩ := hpre
  repeat' (first | refine And.intro ?_ ?_ | (with_reducible exact ff_elim) | (with_reducible exact tf_elim) | refine' rho_mk [_] ?_ | refine num_elim ?_ | intro _ | (with_reducible rfl) | ((with_reducible refine lk_t ?_); exact rfl) | ((with_reducible refine pf_t ?_); exact rfl) | refine tell ?_ | exact True.intro | (refine IsT.of ?_; kernel_rfl))
  all_goals (try (refine loop_keep [7, 8] [0] ?_; refine LoopI.mk (CkI n) (fun j => [(3, .int .i64 (sA B j.k)), (4, .int .i64 (sB B j.k)), (9, .int .i64 j.k)]) (fun j => []) (fun j => n - j.k) (⟨0, Nat.zero_le _⟩) (wk_mk [none] ?_) (fun ⟨k, hk⟩ => ?_)))
  repeat' (first | refine And.intro ?_ ?_ | (with_reducible exact ff_elim) | (with_reducible exact tf_elim) | refine stp_mk [none] ((⟨k + 1, ?_⟩ : CkI n)) ?_ ?_ | refine' rho_mk [_] ?_ | refine num_elim ?_ | intro _ | (with_reducible rfl) | ((with_reducible refine lk_t ?_); exact rfl) | ((with_reducible refine pf_t ?_); exact rfl) | refine tell ?_ | exact True.intro | (refine IsT.of ?_; kernel_rfl))
  all_goals (try exact (0 : Nat))
  all_goals (try refine Tell.mk ?_)
  all_goals (try dsimp only at *)
  all_goals first | (with_reducible exact sA_0 B) | (with_reducible exact sB_0 B) | rfl | (show 0 < 1; decide) | exact Nat.le_refl 2 | exact Nat.le_refl N | skip
  all_goals (have ha := sA_bd hB k; have hb := sB_bd hB k; have hc := hB k; have w0 : IntKind.i64.wrap (B k) = B k := wrapI (by omega) (by omega); have w1 : IntKind.i64.wrap (sA B k + B k) = sA B k + B k := wrapI (by omega) (by omega); have ha2 := sA_bd hB (k + 1); have w2 : IntKind.i64.wrap (sB B k + sA B (k + 1)) = sB B k + sA B (k + 1) := wrapI (by omega) (by omega); have w3 : IntKind.u8.wrap (sA B k) = sA B k := wrapU8 (by omega) (by omega); have w4 : IntKind.u8.wrap (sB B k) = sB B k := wrapU8 (by omega) (by omega))
  all_goals (try simp only [mulN1, Nat.add_zero, Nat.zero_add, Int.toNat_natCast, w0, w1, w3, w4, decide_eq_true_eq, decide_eq_false_iff_not] at *)
  all_goals first | omega | (rw [sA_s]; done) | (rw [← sA_s, w2, sB_s]; done) | (rw [wrapI (by omega) (by omega)]; omega) | skip
  all_goals (obtain rfl : k = n := (by omega))
  all_goals first | exact (ck_at B k (by assumption)).symm | trace_state
def checkM_p (n N : Nat) (B : Nat → Int) : Prop := n ≤ N ∧ U8s B ∧ n ≤ 1000000
def checkM_r (n N : Nat) (B : Nat → Int) : AV := .os 1 1 0 2
def checkM_rows (n N : Nat) (B : Nat → Int) : List OB := [.nums .u8 N B]
def checkM_rows2 (n N : Nat) (B : Nat → Int) : List OB := [.nums .u8 N B, .nums .u8 2 (ckF B n)]
def checkM_m : MCon Tryd.prog := ⟨18, fun args own => match args with | [.os k0_ 1 0 n] => (match own k0_ with | .nums .u8 N B => .ok [k0_] ([.os 0 1 0 n]) (checkM_rows n N B) (some (checkM_p n N B)) (checkM_r n N B) (checkM_rows2 n N B) | _ => .no) | _ => .no, by
  intro args own ks cargs rows p r rows2 h hp
  split at h
  · split at h
    · cases h; have hq := hp; exact checkM_a _ _ _ hq
    · cases h
  · cases h⟩
theorem twoSumsM_f : FnOk Tryd.prog 20 Tryd.f20 := ⟨Tryd.func20, by kernel_rfl⟩
theorem twoSumsM_a (n N : Nat) (B : Nat → Int) (hpre : n ≤ N ∧ U8s B ∧ n ≤ 1000000) : MCalls Tryd.prog 20 ([.os 0 1 0 n]) [.nums .u8 N B] (.os 1 1 0 2) [.nums .u8 N B, .nums .u8 2 (ckF B n)] := by
  refine mcallsF_of (inl := hasI (P := Tryd.prog) [] []) (base [] [] []) 0 twoSumsM_f (And.intro (by kernel_rfl) ?_)
  obtain ⟨hN, hB, hn⟩ := hpre
  repeat' (first | refine And.intro ?_ ?_ | (with_reducible exact ff_elim) | (with_reducible exact tf_elim) | refine' rho_mk [_] ?_ | refine num_elim ?_ | intro _ | (with_reducible rfl) | ((with_reducible refine lk_t ?_); exact rfl) | ((with_reducible refine pf_t ?_); exact rfl) | refine tell ?_ | exact True.intro | (refine IsT.of ?_; kernel_rfl))
  all_goals (try (refine loop_keep [0] [0] ?_; refine LoopI.mk (CkI n) (fun j => [(3, .int .i64 (sA B j.k)), (4, .int .i64 (sB B j.k)), (5, .int .i64 j.k)]) (fun j => []) (fun j => n - j.k) (⟨0, Nat.zero_le _⟩) (wk_mk [none] ?_) (fun ⟨k, hk⟩ => ?_)))
  repeat' (first | refine And.intro ?_ ?_ | (with_reducible exact ff_elim) | (with_reducible exact tf_elim) | refine stp_mk [none] ((⟨k + 1, ?_⟩ : CkI n)) ?_ ?_ | refine' rho_mk [_] ?_ | refine num_elim ?_ | intro _ | (with_reducible rfl) | ((with_reducible refine lk_t ?_); exact rfl) | ((with_reducible refine pf_t ?_); exact rfl) | refine tell ?_ | exact True.intro | (refine IsT.of ?_; kernel_rfl))
  all_goals (try exact (0 : Nat))
  all_goals (try refine Tell.mk ?_)
  all_goals (try dsimp only at *)
  all_goals first | (with_reducible exact sA_0 B) | (with_reducible exact sB_0 B) | rfl | (show 0 < 1; decide) | exact Nat.le_refl 2 | exact Nat.le_refl N | skip
  all_goals (have ha := sA_bd hB k; have hb := sB_bd hB k; have hc := hB k; have w0 : IntKind.i64.wrap (B k) = B k := wrapI (by omega) (by omega); have w1 : IntKind.i64.wrap (sA B k + B k) = sA B k + B k := wrapI (by omega) (by omega); have ha2 := sA_bd hB (k + 1); have w2 : IntKind.i64.wrap (sB B k + sA B (k + 1)) = sB B k + sA B (k + 1) := wrapI (by omega) (by omega); have w3 : IntKind.u8.wrap (sA B k) = sA B k := wrapU8 (by omega) (by omega); have w4 : IntKind.u8.wrap (sB B k) = sB B k := wrapU8 (by omega) (by omega))
  all_goals (try simp only [mulN1, Nat.add_zero, Nat.zero_add, Int.toNat_natCast, w0, w1, w3, w4, decide_eq_true_eq, decide_eq_false_iff_not] at *)
  all_goals first | omega | (rw [sA_s]; done) | (rw [← sA_s, w2, sB_s]; done) | (rw [wrapI (by omega) (by omega)]; omega) | skip
  all_goals (obtain rfl : k = n := (by omega))
  all_goals first | exact (ck_at B k (by assumption)).symm | trace_state
def twoSumsM_p (n N : Nat) (B : Nat → Int) : Prop := n ≤ N ∧ U8s B ∧ n ≤ 1000000
def twoSumsM_r (n N : Nat) (B : Nat → Int) : AV := .os 1 1 0 2
def twoSumsM_rows (n N : Nat) (B : Nat → Int) : List OB := [.nums .u8 N B]
def twoSumsM_rows2 (n N : Nat) (B : Nat → Int) : List OB := [.nums .u8 N B, .nums .u8 2 (ckF B n)]
def twoSumsM_m : MCon Tryd.prog := ⟨20, fun args own => match args with | [.os k0_ 1 0 n] => (match own k0_ with | .nums .u8 N B => .ok [k0_] ([.os 0 1 0 n]) (twoSumsM_rows n N B) (some (twoSumsM_p n N B)) (twoSumsM_r n N B) (twoSumsM_rows2 n N B) | _ => .no) | _ => .no, by
  intro args own ks cargs rows p r rows2 h hp
  split at h
  · split at h
    · cases h; have hq := hp; exact twoSumsM_a _ _ _ hq
    · cases h
  · cases h⟩
theorem runR0_f : FnOk Tryd.prog 31 Tryd.f31 := ⟨Tryd.func31, by kernel_rfl⟩
theorem runR0_a (N n : Nat) (P : Nat → Int) (p : Nat) (hpre : N = 4 * n ∧ p < n ∧ n ≤ 100000) : ACalls Tryd.prog 31 [ints .u8 N P, .int .i64 p] (.int .i64 (rn P n p)) := by
  refine acalls_of (inl := hasI (P := Tryd.prog) [] []) (base [alikeR_k] [] []) 0 runR0_f (And.intro (by kernel_rfl) ?_)
  obtain ⟨hE, hp, hN⟩ := hpre
  repeat' (first | refine And.intro ?_ ?_ | (with_reducible exact ff_elim) | (with_reducible exact tf_elim) | refine num_elim ?_ | intro _ | (with_reducible rfl) | ((with_reducible refine lk_t ?_); exact rfl) | ((with_reducible refine pf_t ?_); exact rfl) | refine tell ?_ | exact True.intro | (refine IsT.of ?_; kernel_rfl))
  all_goals (try (refine loop_keep [0, 1] [0] ?_; refine LoopI.mk (RnI P n p) (fun j => [(5, .int .i64 j.k)]) (fun j => []) (fun j => 128 - j.k) (⟨1, Nat.le_refl _, by decide, hp, rn_0 P n p⟩) (wk_mk [some 0] ?_) (fun ⟨k, h1, h2, h3, he⟩ => ?_)))
  repeat' (first | refine And.intro ?_ ?_ | (with_reducible exact ff_elim) | (with_reducible exact tf_elim) | refine stp_mk [some 0] ((⟨k + 1, ?_, ?_, ?_, ?_⟩ : RnI P n p)) ?_ ?_ | refine num_elim ?_ | intro _ | (with_reducible rfl) | ((with_reducible refine lk_t ?_); exact rfl) | ((with_reducible refine pf_t ?_); exact rfl) | refine tell ?_ | exact True.intro | (refine IsT.of ?_; kernel_rfl))
  all_goals (try refine Tell.mk ?_)
  all_goals (try dsimp only at *)
  all_goals first | with_reducible rfl | with_reducible exact isI_mk | with_reducible assumption | (with_reducible refine gb_t ?_; with_reducible assumption) | (with_reducible refine gb_f ?_; with_reducible assumption) | skip
  all_goals first | rfl | omega | skip
  all_goals (have w3 : IntKind.i64.wrap ((p : Int) + (k : Int)) = ((p + k : Nat) : Int) := (by rw [wrapI (by omega) (by omega)]; omega); have w4 : k < 128 → IntKind.i64.wrap (4 * ((p + k : Nat) : Int)) = ((4 * (p + k) : Nat) : Int) := (fun _ => by rw [wrapI (by omega) (by omega)]; omega); have w5 : IntKind.i64.wrap (4 * ((p + k : Nat) : Int)) = ((4 * (p + k) : Nat) : Int) := (by rw [wrapI (by omega) (by omega)]; omega))
  all_goals (try simp only [intF_mk, w3, w5, Int.toNat_natCast] at *)
  all_goals (try simp only [Bool.and_eq_true, Bool.and_eq_false_iff, Bool.not_eq_true', Bool.not_eq_false', decide_eq_true_eq, decide_eq_false_iff_not, gb] at *)
  all_goals first | omega | exact rn_t (by omega) (by omega) (by assumption) he | (rw [wrapI (by omega) (by omega)]; omega) | (rw [rn_f h2 (by grind) he]; done) | (rw [rn_f h2 (fun c => by simp_all) he]; done) | trace_state
theorem runR_f : FnOk Tryd.prog 31 Tryd.f31 := ⟨Tryd.func31, by kernel_rfl⟩
theorem runR_a (N : Nat) (P : Nat → Int) (p : Int) (hpre : (N % 4 = 0 ∧ N ≤ 400000) ∧ 0 ≤ p ∧ 4 * p < N) : ACalls Tryd.prog 31 [ints .u8 N P, .int .i64 p] (.int .i64 (rn P (N / 4) p.toNat)) := by
  obtain ⟨hN, hp⟩ := hpre
  have h := runR0_a N (N / 4) P p.toNat ⟨by omega, by omega, by omega⟩
  rwa [show ((p.toNat : Nat) : Int) = p by omega] at h
def runR_r (N : Nat) (P : Nat → Int) (p : Int) : AV := .int .i64 (rn P (N / 4) p.toNat)
def runR_p (N : Nat) (P : Nat → Int) (p : Int) : Prop := (N % 4 = 0 ∧ N ≤ 400000) ∧ 0 ≤ p ∧ 4 * p < N
def runR_k : Con Tryd.prog := ⟨31, fun args => match args with | [.sl N 1 g_P, .int .i64 p] => .ok (some (IsI .u8 g_P ∧ runR_p N (intF g_P) p)) (runR_r N (intF g_P) p) | _ => .no, by
  intro args p r h hp
  split at h
  · cases h; obtain ⟨h_P, hp⟩ := hp; have e_P := h_P.eq; rw [e_P]; exact runR_a _ _ _ hp
  · cases h⟩
end Go.Proofs.YtjnpngbgapigeaaDoor
