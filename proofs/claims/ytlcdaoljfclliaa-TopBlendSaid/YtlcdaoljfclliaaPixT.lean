/- Porter and Duff. -/
import Derived.Test.YtlcdaoljfclliaaPixM
namespace Go.Proofs.Ytlcdaoljfclliaa
open Go.RowKit Ev
set_option linter.unusedVariables false
set_option linter.unusedSimpArgs false
set_option maxRecDepth 20000
set_option maxHeartbeats 4000000

theorem part_mono {n m o : Int} (h : n ≤ m) (ho : 0 ≤ o ∧ o < 256) : partV n o ≤ partV m o ∧ n - partV n o ≤ m - partV m o := by
  have h0 : 0 ≤ (m - n) * o := Int.mul_nonneg (by omega) ho.1
  have h1 : (m - n) * o ≤ (m - n) * 255 := Int.mul_le_mul_of_nonneg_left (by omega) (by omega)
  have h2 : m * o = n * o + (m - n) * o := by rw [← Int.add_mul]; congr 1; omega
  unfold partV
  rw [h2]
  generalize n * o = a at *
  generalize (m - n) * o = b at *
  omega
theorem termV_mono (t : Int) {n m o : Int} (h : n ≤ m) (ho : 0 ≤ o ∧ o < 256) : termV t n o ≤ termV t m o := by
  have := part_mono h ho
  unfold termV
  repeat' split
  all_goals omega
theorem addV_mono {a b c d : Int} (h : a ≤ c) (h' : b ≤ d) : addV a b ≤ addV c d := by
  unfold addV
  split <;> split <;> omega
theorem mx_mono (k : Int) {a b c d a' b' : Int} (ha : a ≤ a') (hb : b ≤ b') (hc : 0 ≤ c ∧ c < 256) (hd : 0 ≤ d ∧ d < 256) : mx k a b c d ≤ mx k a' b' c d := by
  unfold mx
  exact addV_mono (termV_mono _ ha hd) (termV_mono _ hb hc)
theorem mixV_at (k : Int) (A B : Nat → Int) (q c : Nat) (hc : c < 4) : mixV k A B (4 * q + c) = mx k (A (4 * q + c)) (B (4 * q + c)) (A (4 * q + 3)) (B (4 * q + 3)) := by
  unfold mixV
  rw [show (4 * q + c) / 4 * 4 + 3 = 4 * q + 3 by omega]
theorem mixV_u8 (k : Int) {A B : Nat → Int} (hA : U8s A) (hB : U8s B) : U8s (mixV k A B) := fun j => by
  unfold mixV
  exact mx_bd k (hA _) (hB _) (hA _) (hB _)
/-- What is blended may be blended again. -/
theorem bm_mix (k : Int) {w h : Int} {n : Nat} {A B : Nat → Int} (h1 : bmE w h n A = 0) (h2 : bmE w h n B = 0) (hA : U8s A) (hB : U8s B) : bmE w h n (mixV k A B) = 0 := by
  refine bmE_0 (bmE_ok h1).1 (okPs_iff.2 fun q hq => ?_)
  obtain ⟨a0, a1, a2⟩ := okPs_iff.1 (bmE_ok h1).2 q hq
  obtain ⟨b0, b1, b2⟩ := okPs_iff.1 (bmE_ok h2).2 q hq
  have e0 := mixV_at k A B q 0 (by omega)
  have e1 := mixV_at k A B q 1 (by omega)
  have e2 := mixV_at k A B q 2 (by omega)
  have e3 := mixV_at k A B q 3 (by omega)
  rw [Nat.add_zero] at e0
  unfold okP
  rw [e0, e1, e2, e3]
  exact ⟨mx_mono k a0 b0 (hA _) (hB _), mx_mono k a1 b1 (hA _) (hB _), mx_mono k a2 b2 (hA _) (hB _)⟩
theorem bm_made (n : Nat) (F : Nat → Int) {w h : Int} (hs : Side w h) : bmE w h (4 * (w * h)).toNat (pixF true n F) = 0 := by
  have hy := hs.wh
  refine bmE_0 (picE0 hs (by omega)) (okPs_iff.2 fun q hq => ?_)
  have c3 : pixF true n F (4 * q + 3) = covF n F (4 * (q : Int) + 3) := by
    have := covF_bd n F (4 * (q : Int) + 3)
    rw [pixF_3, wrapU8 (by omega) (by omega)]
  have key : ∀ c, c < 3 → pixF true n F (4 * q + c) ≤ covF n F (4 * (q : Int) + 3) := fun c hc => by
    have b1 := covF_bd n F (4 * (q : Int) + 3)
    have b2 := valF_bd n F (4 * (q : Int) + (c : Int))
    by_cases h : covF n F (4 * (q : Int) + 3) < valF n F (4 * (q : Int) + (c : Int))
    · rw [pixF_c c hc ⟨rfl, h⟩, wrapU8 (by omega) (by omega)]; omega
    · rw [pixF_v c hc (.inr (by omega)), wrapU8 (by omega) (by omega)]; omega
  unfold okP
  rw [c3]
  exact ⟨key 0 (by omega), key 1 (by omega), key 2 (by omega)⟩
theorem blendedG_f : FnOk Try.prog 30 Try.f30 := ⟨Try.func30, by kernel_rfl⟩
theorem blendedG_a (k w h : Int) (n : Nat) (A : Nat → Int) (w' h' : Int) (n' : Nat) (B : Nat → Int) (hpre : (0 ≤ k ∧ k ≤ 12) ∧ (w' = w ∧ h' = h) ∧ (bmE w h n A = 0 ∧ bmE w' h' n' B = 0) ∧ U8s A ∧ U8s B) : ACalls Try.prog 30 [.int .i64 k, .agg [.int .i64 w, .int .i64 h, ints .u8 n A], .agg [.int .i64 w', .int .i64 h', ints .u8 n' B]] (.tup [.agg [.int .i64 w, .int .i64 h, ints .u8 n (mixV k A B)], .bool true]) := by
  refine acalls_of (inl := hasI (P := Try.prog) [] []) (base [blend_k, mayB_k] [] []) 0 blendedG_f (And.intro (by kernel_rfl) ?_)
  obtain ⟨hk, ⟨hw, hh⟩, ⟨h1, h2⟩, hA, hB⟩ := hpre
  subst hw
  subst hh
  have hE := bE_0 (k := k) h1 h2 ⟨rfl, rfl⟩ hk
  have hn : n' = n := (bm_len h1 h2 ⟨rfl, rfl⟩).1
  subst hn
  have hm := bm_mix k h1 h2 hA hB
  repeat' (first | refine And.intro ?_ ?_ | (with_reducible exact ff_elim) | (with_reducible exact tf_elim) | refine num_elim ?_ | intro _ | (with_reducible rfl) | ((with_reducible refine lk_t ?_); exact rfl) | refine tell ?_ | exact True.intro | (refine IsT.of ?_; kernel_rfl))
  all_goals (try refine Tell.mk ?_)
  all_goals first | exact (hA _).1 | exact (hA _).2 | exact (hB _).1 | exact (hB _).2 | skip
  all_goals (try simp only [hE, ifz0 rfl, ifn0 rfl, intF_mk, hm, beq_self_eq_true, Bool.and_self] at *)
  all_goals first | with_reducible exact isI_mk | rfl
def blendedG_r (k w h : Int) (n : Nat) (A : Nat → Int) (w' h' : Int) (n' : Nat) (B : Nat → Int) : AV := .tup [.agg [.int .i64 w, .int .i64 h, ints .u8 n (mixV k A B)], .bool true]
def blendedG_p (k w h : Int) (n : Nat) (A : Nat → Int) (w' h' : Int) (n' : Nat) (B : Nat → Int) : Prop := (0 ≤ k ∧ k ≤ 12) ∧ (w' = w ∧ h' = h) ∧ (bmE w h n A = 0 ∧ bmE w' h' n' B = 0) ∧ U8s A ∧ U8s B
def blendedG_k : Con Try.prog := ⟨30, fun args => match args with | [.int .i64 k, .agg [.int .i64 w, .int .i64 h, .sl n 1 g_A], .agg [.int .i64 w', .int .i64 h', .sl n' 1 g_B]] => .ok (some (IsI .u8 g_A ∧ IsI .u8 g_B ∧ blendedG_p k w h n (intF g_A) w' h' n' (intF g_B))) (blendedG_r k w h n (intF g_A) w' h' n' (intF g_B)) | _ => .no, by
  intro args p r h hp
  split at h
  · cases h; obtain ⟨h_A, h_B, hp⟩ := hp; have e_A := h_A.eq; have e_B := h_B.eq; rw [e_A, e_B]; exact blendedG_a _ _ _ _ _ _ _ _ _ hp
  · cases h⟩
/-- Pictures behind one another. -/
def pics (w h : Int) (n : Nat) (A B : Nat → Int) (j : Nat) : AV := match j % 3 with | 0 => .int .i64 w | 1 => .int .i64 h | _ => ints .u8 n (mixV ((j / 3 : Nat) : Int) A B)
theorem pics_step {w h : Int} {n : Nat} {A B : Nat → Int} {k j : Nat} (hj : j < 3 * (k + 1)) : pics w h n A B j = catA (k * 3) (pics w h n A B) (fun j => [AV.int .i64 w, AV.int .i64 h, ints .u8 n (mixV (k : Int) A B)].getD (0 + j) .any) j := by
  unfold catA
  split
  · rfl
  · have : ∃ c, c < 3 ∧ j = 3 * k + c := ⟨j - 3 * k, by omega, by omega⟩
    obtain ⟨c, hc, rfl⟩ := this
    have : c = 0 ∨ c = 1 ∨ c = 2 := by omega
    unfold pics
    show _ = [AV.int .i64 w, AV.int .i64 h, ints .u8 n (mixV (k : Int) A B)].getD (0 + (3 * k + c - k * 3)) .any
    rw [show (3 * k + c) / 3 = k by omega, show (3 * k + c) % 3 = c by omega, show 0 + (3 * k + c - k * 3) = c by omega]
    rcases this with rfl | rfl | rfl <;> rfl
theorem strI_ext {n : Nat} {A B : Nat → Int} (h : ∀ j, A j = B j) : strI n A = strI n B := by rw [funext h]
theorem samePV_ext (w h : Int) (n : Nat) {A B : Nat → Int} (e : ∀ j, A j = B j) : samePV w h n A w h n B = true := by rw [show A = B from funext e]; exact samePV_refl _ _ _ _
theorem sw1 (w h : Int) (n : Nat) (A B : Nat → Int) : samePV w h n (mixV 2 B A) w h n (mixV 1 A B) = true := samePV_ext _ _ _ fun j => by unfold mixV; rw [mx2, mx1]; exact addV_c _ _
theorem sw2 (w h : Int) (n : Nat) (A B : Nat → Int) : samePV w h n (mixV 1 B A) w h n (mixV 2 A B) = true := samePV_ext _ _ _ fun j => by unfold mixV; rw [mx1, mx2]; exact addV_c _ _
theorem sw3 (w h : Int) (n : Nat) (A B : Nat → Int) : samePV w h n (mixV 4 B A) w h n (mixV 3 A B) = true := samePV_ext _ _ _ fun j => by unfold mixV; rw [mx4, mx3]; exact addV_c _ _
theorem sw4 (w h : Int) (n : Nat) (A B : Nat → Int) : samePV w h n (mixV 3 B A) w h n (mixV 4 A B) = true := samePV_ext _ _ _ fun j => by unfold mixV; rw [mx3, mx4]; exact addV_c _ _
theorem sw5 (w h : Int) (n : Nat) (A B : Nat → Int) : samePV w h n (mixV 6 B A) w h n (mixV 5 A B) = true := samePV_ext _ _ _ fun j => by unfold mixV; rw [mx6, mx5]; exact addV_c _ _
theorem sw6 (w h : Int) (n : Nat) (A B : Nat → Int) : samePV w h n (mixV 5 B A) w h n (mixV 6 A B) = true := samePV_ext _ _ _ fun j => by unfold mixV; rw [mx5, mx6]; exact addV_c _ _
theorem sw7 (w h : Int) (n : Nat) (A B : Nat → Int) : samePV w h n (mixV 8 B A) w h n (mixV 7 A B) = true := samePV_ext _ _ _ fun j => by unfold mixV; rw [mx8, mx7]; exact addV_c _ _
theorem sw8 (w h : Int) (n : Nat) (A B : Nat → Int) : samePV w h n (mixV 7 B A) w h n (mixV 8 A B) = true := samePV_ext _ _ _ fun j => by unfold mixV; rw [mx7, mx8]; exact addV_c _ _
theorem sw9 (w h : Int) (n : Nat) (A B : Nat → Int) : samePV w h n (mixV 10 B A) w h n (mixV 9 A B) = true := samePV_ext _ _ _ fun j => by unfold mixV; rw [mx10, mx9]; exact addV_c _ _
theorem sw10 (w h : Int) (n : Nat) (A B : Nat → Int) : samePV w h n (mixV 9 B A) w h n (mixV 10 A B) = true := samePV_ext _ _ _ fun j => by unfold mixV; rw [mx9, mx10]; exact addV_c _ _
theorem ix1 : (((0 + mulN (Int.toNat 1) 3 + 2) / 3 : Nat) : Int) = 1 := rfl
theorem ix2 : (((0 + mulN (Int.toNat 2) 3 + 2) / 3 : Nat) : Int) = 2 := rfl
theorem ix3 : (((0 + mulN (Int.toNat 3) 3 + 2) / 3 : Nat) : Int) = 3 := rfl
theorem ix4 : (((0 + mulN (Int.toNat 4) 3 + 2) / 3 : Nat) : Int) = 4 := rfl
theorem ix5 : (((0 + mulN (Int.toNat 5) 3 + 2) / 3 : Nat) : Int) = 5 := rfl
theorem ix6 : (((0 + mulN (Int.toNat 6) 3 + 2) / 3 : Nat) : Int) = 6 := rfl
theorem ix7 : (((0 + mulN (Int.toNat 7) 3 + 2) / 3 : Nat) : Int) = 7 := rfl
theorem ix8 : (((0 + mulN (Int.toNat 8) 3 + 2) / 3 : Nat) : Int) = 8 := rfl
theorem ix9 : (((0 + mulN (Int.toNat 9) 3 + 2) / 3 : Nat) : Int) = 9 := rfl
theorem ix10 : (((0 + mulN (Int.toNat 10) 3 + 2) / 3 : Nat) : Int) = 10 := rfl
theorem ix11 : (((0 + mulN (Int.toNat 11) 3 + 2) / 3 : Nat) : Int) = 11 := rfl
theorem m12 (j : Nat) (P Q : Nat → Int) : mixV 12 P Q j = addV (P j) (Q j) := by unfold mixV; rw [mx12, termV1, termV1]
theorem m1 {A : Nat → Int} (B : Nat → Int) (hA : U8s A) (j : Nat) : mixV 1 A B j = A j := by unfold mixV; rw [mx1, termV1, termV0, addV_l (by have := hA j; omega)]
theorem m2 (A : Nat → Int) {B : Nat → Int} (hB : U8s B) (j : Nat) : mixV 2 A B j = B j := by unfold mixV; rw [mx2, termV1, termV0, addV_r (by have := hB j; omega)]
theorem m5 {A B : Nat → Int} (hA : U8s A) (hB : U8s B) (j : Nat) : mixV 5 A B j = partV (A j) (B (j / 4 * 4 + 3)) := by
  have := partV_bd (hA j) (hB (j / 4 * 4 + 3)); have := hA j
  unfold mixV; rw [mx5, termV2, termV0, addV_l (by omega)]
theorem m7 {A B : Nat → Int} (hA : U8s A) (hB : U8s B) (j : Nat) : mixV 7 A B j = A j - partV (A j) (B (j / 4 * 4 + 3)) := by
  have := partV_bd (hA j) (hB (j / 4 * 4 + 3)); have := hA j
  unfold mixV; rw [mx7, termV3, termV0, addV_l (by omega)]
theorem m8 {A B : Nat → Int} (hA : U8s A) (hB : U8s B) (j : Nat) : mixV 8 A B j = B j - partV (B j) (A (j / 4 * 4 + 3)) := by
  have := partV_bd (hB j) (hA (j / 4 * 4 + 3)); have := hB j
  unfold mixV; rw [mx8, termV3, termV0, addV_r (by omega)]
theorem pd1 {A : Nat → Int} (B : Nat → Int) (hA : U8s A) (w h : Int) (n : Nat) : samePV w h n (mixV 1 A B) w h n A = true := samePV_ext _ _ _ fun j => m1 B hA j
theorem pd2 (A : Nat → Int) {B : Nat → Int} (hB : U8s B) (w h : Int) (n : Nat) : samePV w h n (mixV 2 A B) w h n B = true := samePV_ext _ _ _ fun j => m2 A hB j
theorem pdw {A B : Nat → Int} (hA : U8s A) (hB : U8s B) (w h : Int) (n : Nat) : samePV w h n (mixV 12 (mixV 5 A B) (mixV 7 A B)) w h n A = true := samePV_ext _ _ _ fun j => by
  have := partV_bd (hA j) (hB (j / 4 * 4 + 3)); have := hA j
  rw [m12, m5 hA hB, m7 hA hB]
  unfold addV; split <;> omega
theorem pdo {A B : Nat → Int} (hA : U8s A) (hB : U8s B) (w h : Int) (n : Nat) : samePV w h n (mixV 12 A (mixV 8 A B)) w h n (mixV 3 A B) = true := samePV_ext _ _ _ fun j => by
  rw [m12, m8 hA hB]
  unfold mixV; rw [mx3, termV1, termV3]
theorem pda {A B : Nat → Int} (hA : U8s A) (hB : U8s B) (w h : Int) (n : Nat) : samePV w h n (mixV 12 (mixV 5 A B) (mixV 8 A B)) w h n (mixV 9 A B) = true := samePV_ext _ _ _ fun j => by
  rw [m12, m5 hA hB, m8 hA hB]
  unfold mixV; rw [mx9, termV2, termV3]
theorem pdx {A B : Nat → Int} (hA : U8s A) (hB : U8s B) (w h : Int) (n : Nat) : samePV w h n (mixV 12 (mixV 7 A B) (mixV 8 A B)) w h n (mixV 11 A B) = true := samePV_ext _ _ _ fun j => by
  rw [m12, m7 hA hB, m8 hA hB]
  unfold mixV; rw [mx11, termV3, termV3]
theorem sizeP : (Tab.cx.ti 24).size = 3 := rfl
theorem samePicT_f : FnOk Try.prog 31 Try.f31 := ⟨Try.func31, by kernel_rfl⟩
theorem samePicT_a (w h : Int) (n : Nat) (A : Nat → Int) (w' h' : Int) (m : Nat) (B : Nat → Int) : ACalls Try.prog 31 [.agg [.int .i64 w, .int .i64 h, ints .u8 n A], .agg [.int .i64 w', .int .i64 h', ints .u8 m B]] (.bool (samePV w h n A w' h' m B)) := by
  refine acalls_of (inl := hasI (P := Try.prog) [] []) (base [] [] []) 0 samePicT_f (And.intro (by kernel_rfl) ?_)
  repeat' (first | refine And.intro ?_ ?_ | (with_reducible exact ff_elim) | (with_reducible exact tf_elim) | refine num_elim ?_ | intro _ | (with_reducible rfl) | ((with_reducible refine lk_t ?_); exact rfl) | refine tell ?_ | exact True.intro | (refine IsT.of ?_; kernel_rfl))
  all_goals (try refine Tell.mk ?_)
  all_goals first | with_reducible rfl | with_reducible exact isI_mk | with_reducible assumption | (with_reducible refine gb_t ?_; with_reducible assumption) | (with_reducible refine gb_f ?_; with_reducible assumption) | ((with_reducible refine lk_t ?_); rfl) | ((with_reducible refine okF_t ?_); kernel_rfl) | ((with_reducible refine ks_t ?_); rfl) | ((with_reducible refine pk_t ?_); rfl) | skip
  all_goals (try dsimp only at *)
  all_goals (try simp only [decide_eq_true_eq, decide_eq_false_iff_not] at *)
  all_goals (try simp only [mulN1, Nat.add_zero, Nat.zero_add, Nat.mul_one, Int.toNat_natCast, avInt_int, intF_mk] at *)
  all_goals first | with_reducible rfl | with_reducible exact nums_N | omega | ((with_reducible refine by_le 1 rfl ?_); omega) | ((with_reducible refine by_le 8 rfl ?_); omega) | (rw [wrapI (by omega) (by omega)] <;> omega) | skip
  all_goals rfl
def samePicT_r (w h : Int) (n : Nat) (A : Nat → Int) (w' h' : Int) (m : Nat) (B : Nat → Int) : AV := .bool (samePV w h n A w' h' m B)
def samePicT_k : Con Try.prog := ⟨31, fun args => match args with | [.agg [.int .i64 w, .int .i64 h, .sl n 1 g_A], .agg [.int .i64 w', .int .i64 h', .sl m 1 g_B]] => .ok (some (IsI .u8 g_A ∧ IsI .u8 g_B)) (samePicT_r w h n (intF g_A) w' h' m (intF g_B)) | _ => .no, by
  intro args p r h hp
  split at h
  · cases h; obtain ⟨h_A, h_B⟩ := hp; have e_A := h_A.eq; have e_B := h_B.eq; rw [e_A, e_B]; exact samePicT_a _ _ _ _ _ _ _ _
  · cases h⟩
theorem topBlend_f : FnOk Try.prog 9 Try.f9 := ⟨Try.func9, by kernel_rfl⟩
theorem topBlend_a (n : Nat) (F : Nat → Int) (n' : Nat) (F' : Nat → Int) (w h : Int) (hpre : (∀ j, In64 (F j)) ∧ (∀ j, In64 (F' j)) ∧ In64 w ∧ In64 h) : ACalls Try.prog 9 [ints .i64 n F, ints .i64 n' F', .int .i64 w, .int .i64 h] (.bool true) := by
  refine acalls_of (inl := hasI (P := Try.prog) [] []) (base [pick_k, raw_k, pictureOf_k, blendedG_k, samePicT_k] [] []) 0 topBlend_f (And.intro (by kernel_rfl) ?_)
  obtain ⟨hF, hF', hw, hh⟩ := hpre
  repeat' (first | refine And.intro ?_ ?_ | (with_reducible exact ff_elim) | (with_reducible exact tf_elim) | refine num_elim ?_ | intro _ | (with_reducible rfl) | ((with_reducible refine lk_t ?_); exact rfl) | refine tell ?_ | exact True.intro | (refine IsT.of ?_; kernel_rfl))
  all_goals (try (refine loop_keep [9, 10] [19, 25] ?_; refine LoopI.mk ({k : Nat // k ≤ 13}) (fun k => [(12, .int .i64 k.1), (11, .os 1 3 0 k.1)]) (fun k => [(1, .arr (3 * k.1) (pics (IntKind.i64.wrap (1 + pickF w 4)) (IntKind.i64.wrap (1 + pickF h 4)) (4 * (IntKind.i64.wrap (1 + pickF w 4) * IntKind.i64.wrap (1 + pickF h 4))).toNat (pixF true n F) (pixF true n' F')))]) (fun k => 13 - k.1) (⟨0, by omega⟩) (wk_mk [none, some 19, some 25] ?_) (fun ⟨k, hk⟩ => ?_)))
  repeat' (first | refine And.intro ?_ ?_ | (with_reducible exact ff_elim) | (with_reducible exact tf_elim) | refine' stp_mk [some _, some 19, some 25] (⟨k + 1, ?_⟩) ?_ ?_ | refine Or.inl ⟨11, ?_⟩ | refine num_lit 0 (by decide) ?_ | refine num_lit 1 (by decide) ?_ | refine num_lit 2 (by decide) ?_ | refine num_lit 3 (by decide) ?_ | refine num_lit 4 (by decide) ?_ | refine num_lit 5 (by decide) ?_ | refine num_lit 6 (by decide) ?_ | refine num_lit 7 (by decide) ?_ | refine num_lit 8 (by decide) ?_ | (intro h; exact absurd h (by decide)) | refine num_lit 9 (by decide) ?_ | refine num_lit 10 (by decide) ?_ | refine num_lit 11 (by decide) ?_ | refine num_elim ?_ | intro _ | (with_reducible rfl) | ((with_reducible refine lk_t ?_); exact rfl) | refine tell ?_ | exact True.intro | (refine IsT.of ?_; kernel_rfl))
  all_goals (try refine Tell.mk ?_)
  all_goals first | with_reducible rfl | with_reducible exact isI_mk | with_reducible assumption | (with_reducible refine gb_t ?_; with_reducible assumption) | (with_reducible refine gb_f ?_; with_reducible assumption) | ((with_reducible refine lk_t ?_); rfl) | skip
  all_goals (try dsimp only at *)
  all_goals (try simp only [intF_mk, ix1, ix2, ix3, ix4, ix5, ix6, ix7, ix8, ix9, ix10, ix11] at *)
  all_goals (have b0 := pickF_bd w 4 (by omega); have b1 := pickF_bd h 4 (by omega))
  all_goals (have e0 : IntKind.i64.wrap (1 + pickF w 4) = 1 + pickF w 4 := wrapI (by omega) (by omega); have e1 : IntKind.i64.wrap (1 + pickF h 4) = 1 + pickF h 4 := wrapI (by omega) (by omega))
  all_goals (try simp only [e0, e1] at *)
  all_goals (have hs : Side (1 + pickF w 4) (1 + pickF h 4) := by unfold Side; omega)
  all_goals (have hA := pixF_bd true n F; have hB := pixF_bd true n' F')
  all_goals (have bA := bm_made n F hs; have bB0 := bm_made n' F' hs)
  all_goals first | with_reducible rfl | with_reducible exact isI_mk | omega | with_reducible assumption | with_reducible exact hF _ | with_reducible exact hF' _ | exact (hA _).1 | exact (hA _).2 | exact (hB _).1 | exact (hB _).2 | exact (mixV_u8 _ hA hB _).1 | exact (mixV_u8 _ hA hB _).2 | exact bm_mix _ bA bB0 hA hB | exact Nat.le_refl 3 | (with_reducible refine by_le 40 rfl ?_; omega) | (rw [sizeP]; omega) | (rw [sizeP]; exact pics_step (by with_reducible assumption)) | skip
  all_goals (try simp only [decide_eq_true_eq, decide_eq_false_iff_not, sizeP, mulN_eq, Int.reduceToNat, sw1, sw2, sw3, sw4, sw5, sw6, sw7, sw8, sw9, sw10, pd1 _ hA, pd2 _ hB, pdw hA hB, pdo hA hB, pda hA hB, pdx hA hB, Bool.not_true, Bool.or_self, Bool.or_false, Bool.false_or, Bool.and_self, Bool.false_eq_true] at *)
  all_goals first | omega | exact rfl | (rw [wrapI (by omega) (by omega)]; omega)
def topBlend_r (n : Nat) (F : Nat → Int) (n' : Nat) (F' : Nat → Int) (w h : Int) : AV := .bool true
def topBlend_p (n : Nat) (F : Nat → Int) (n' : Nat) (F' : Nat → Int) (w h : Int) : Prop := (∀ j, In64 (F j)) ∧ (∀ j, In64 (F' j)) ∧ In64 w ∧ In64 h
def topBlend_k : Con Try.prog := ⟨9, fun args => match args with | [.sl n 1 g_F, .sl n' 1 g_F', .int .i64 w, .int .i64 h] => .ok (some (IsI .i64 g_F ∧ IsI .i64 g_F' ∧ topBlend_p n (intF g_F) n' (intF g_F') w h)) (topBlend_r n (intF g_F) n' (intF g_F') w h) | _ => .no, by
  intro args p r h hp
  split at h
  · cases h; obtain ⟨h_F, h_F', hp⟩ := hp; have e_F := h_F.eq; have e_F' := h_F'.eq; rw [e_F, e_F']; exact topBlend_a _ _ _ _ _ _ hp
  · cases h⟩
end Go.Proofs.Ytlcdaoljfclliaa
