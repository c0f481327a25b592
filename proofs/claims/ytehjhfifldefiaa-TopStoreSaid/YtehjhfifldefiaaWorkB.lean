/- Films of bytes. -/
import Derived.Test.YtehjhfifldefiaaWorkA
namespace Go.Proofs.Ytehjhfifldefiaa
open Go.RowKit Ev
set_option linter.unusedVariables false
set_option linter.unusedSimpArgs false
set_option maxRecDepth 20000
set_option maxHeartbeats 4000000

@[irreducible] def ifz (e x : Int) : Int := if e = 0 then x else 0
@[irreducible] def ifn (e : Int) (x : Nat) : Nat := if e = 0 then x else 0
theorem ifz0 {e x : Int} (h : e = 0) : ifz e x = x := by unfold ifz; exact if_pos h
theorem ifz1 {e x : Int} (h : ¬ e = 0) : ifz e x = 0 := by unfold ifz; exact if_neg h
theorem ifn0 {e : Int} {x : Nat} (h : e = 0) : ifn e x = x := by unfold ifn; exact if_pos h
theorem ifn1 {e : Int} {x : Nat} (h : ¬ e = 0) : ifn e x = 0 := by unfold ifn; exact if_neg h
@[reducible] def shB (B : Nat → Int) (k : Nat) : Nat → Int := fun j => B (k + j)
def lightB (B : Nat → Int) (i : Nat) : Int := getV (shB B (6 + 6 * i)) 6
def shotB (B : Nat → Int) (q : Nat) (i : Nat) : Int := getV (shB B (6 + 18 * q + 3 * i)) 3
def headB (B : Nat → Int) : Prop := B 0 = 82 ∧ B 1 = 72 ∧ B 2 = 70 ∧ B 3 = 49
instance (B : Nat → Int) : Decidable (headB B) := inferInstanceAs (Decidable (_ ∧ _ ∧ _ ∧ _))
@[irreducible] def loadE (n : Nat) (B : Nat → Int) : Int :=
  if n < 6 then 8 else if headB B then (if Side (B 4) (B 5) then (if n < 10 + 21 * (B 4 * B 5).toNat then 8 else if n > 10 + 21 * (B 4 * B 5).toNat then 5 else
    if getV (shB B (n - 4)) 4 = IntKind.i64.wrap (sumV B (n - 4)) then filmE (B 4) (B 5) (3 * (B 4 * B 5)).toNat (lightB B) (B 4 * B 5).toNat (shotB B (B 4 * B 5).toNat) else 12) else 4) else 11
theorem tn3 : Int.toNat 3 = 3 := rfl
theorem tn4 : Int.toNat 4 = 4 := rfl
theorem tn5 : Int.toNat 5 = 5 := rfl
theorem tn6 : Int.toNat 6 = 6 := rfl
theorem head_iff {B : Nat → Int} (h : U8s B) : (strI 4 fun j => B j).toList = (ByteArray.mk #[82, 72, 70, 49]).toList ↔ headB B := by
  have u : ∀ (b : Int) (c : Nat), 0 ≤ b ∧ b < 256 → c < 256 → (UInt8.ofNat b.toNat = UInt8.ofNat c ↔ b = c) := fun b c hb hc => by
    rw [← UInt8.toNat_inj]
    simp only [UInt8.toNat_ofNat']
    omega
  rw [ByteArray.toList_eq, ByteArray.toList_eq]
  show (([B 0, B 1, B 2, B 3] : List Int).map fun n => UInt8.ofNat n.toNat) = [UInt8.ofNat 82, UInt8.ofNat 72, UInt8.ofNat 70, UInt8.ofNat 49] ↔ _
  simp only [List.map_cons, List.map_nil, List.cons.injEq, and_true]
  rw [u _ 82 (h 0) (by decide), u _ 72 (h 1) (by decide), u _ 70 (h 2) (by decide), u _ 49 (h 3) (by decide)]
  exact Iff.rfl
theorem loadE_8a {n : Nat} {B : Nat → Int} (h : n < 6) : loadE n B = 8 := by unfold loadE; rw [if_pos h]
theorem loadE_11 {n : Nat} {B : Nat → Int} (h : 6 ≤ n) (h1 : ¬ headB B) : loadE n B = 11 := by unfold loadE; rw [if_neg (by omega), if_neg h1]
theorem loadE_4 {n : Nat} {B : Nat → Int} (h : 6 ≤ n) (h1 : headB B) (h2 : ¬ Side (B 4) (B 5)) : loadE n B = 4 := by unfold loadE; rw [if_neg (by omega), if_pos h1, if_neg h2]
theorem loadE_8b {n : Nat} {B : Nat → Int} (h : 6 ≤ n) (h1 : headB B) (h2 : Side (B 4) (B 5)) (h3 : n < 10 + 21 * (B 4 * B 5).toNat) : loadE n B = 8 := by unfold loadE; rw [if_neg (by omega), if_pos h1, if_pos h2, if_pos h3]
theorem loadE_5 {n : Nat} {B : Nat → Int} (h : 6 ≤ n) (h1 : headB B) (h2 : Side (B 4) (B 5)) (h3 : n > 10 + 21 * (B 4 * B 5).toNat) : loadE n B = 5 := by unfold loadE; rw [if_neg (by omega), if_pos h1, if_pos h2, if_neg (by omega), if_pos h3]
theorem loadE_12 {n : Nat} {B : Nat → Int} (h1 : headB B) (h2 : Side (B 4) (B 5)) (h3 : n = 10 + 21 * (B 4 * B 5).toNat) (h4 : ¬ getV (shB B (n - 4)) 4 = IntKind.i64.wrap (sumV B (n - 4))) : loadE n B = 12 := by
  unfold loadE; rw [if_neg (by omega), if_pos h1, if_pos h2, if_neg (by omega), if_neg (by omega), if_neg h4]
theorem loadE_f {n : Nat} {B : Nat → Int} (h1 : headB B) (h2 : Side (B 4) (B 5)) (h3 : n = 10 + 21 * (B 4 * B 5).toNat) (h4 : getV (shB B (n - 4)) 4 = IntKind.i64.wrap (sumV B (n - 4))) :
    loadE n B = filmE (B 4) (B 5) (3 * (B 4 * B 5)).toNat (lightB B) (B 4 * B 5).toNat (shotB B (B 4 * B 5).toNat) := by
  unfold loadE; rw [if_neg (by omega), if_pos h1, if_pos h2, if_neg (by omega), if_neg (by omega), if_pos h4]
theorem cat_step {P : Nat → Int} {v : Int} {i j k : Nat} (h : j < i + 1) (e : v = P i) : P j = catI i (some k) P (fun _ => v) j := by
  rw [catI_some]
  split
  · rfl
  · obtain rfl : j = i := by omega
    exact e.symm
theorem shot_eq {B : Nat → Int} {q : Nat} : (fun j => getV (shB B (6 + 6 * (3 * q) + 3 * j)) 3) = shotB B q := by
  funext j; unfold shotB; rw [show 6 + 6 * (3 * q) + 3 * j = 6 + 18 * q + 3 * j by omega]
theorem load_end {n : Nat} {B : Nat → Int} {i k : Nat} (h1 : headB B) (h2 : Side (B 4) (B 5)) (h3 : n = 10 + 21 * (B 4 * B 5).toNat) (h4 : getV (fun j => B (n - 4 + j)) 4 = IntKind.i64.wrap (sumV B (n - 4)))
    (hi : (i : Int) ≤ 3 * (B 4 * B 5)) (hi' : 3 * (B 4 * B 5) ≤ (i : Int)) (hk : (k : Int) ≤ B 4 * B 5) (hk' : B 4 * B 5 ≤ (k : Int)) :
    loadE n B = filmE (B 4) (B 5) i (lightB B) k (fun j => getV (shB B (6 + 6 * i + 3 * j)) 3) ∧ i = (3 * (B 4 * B 5)).toNat ∧ k = (B 4 * B 5).toNat ∧ (∀ j, getV (shB B (6 + 6 * i + 3 * j)) 3 = shotB B (B 4 * B 5).toNat j) := by
  have hy := h2.wh
  have ei : i = (3 * (B 4 * B 5)).toNat := by omega
  have ek : k = (B 4 * B 5).toNat := by omega
  have ei' : i = 3 * (B 4 * B 5).toNat := by omega
  have es : (fun j => getV (shB B (6 + 6 * i + 3 * j)) 3) = shotB B (B 4 * B 5).toNat := by rw [ei']; exact shot_eq
  refine ⟨?_, ei, ek, fun j => congrFun es j⟩
  rw [es, loadE_f h1 h2 h3 h4, ← ei, ← ek]
theorem load_f : FnOk Try.prog 7 Try.f7 := ⟨Try.func7, by kernel_rfl⟩
theorem load_a (n : Nat) (B : Nat → Int) (hpre : n ≤ 1000000 ∧ U8s B) : ACalls Try.prog 7 [ints .u8 n B] (.tup [.agg [.int .i64 (ifz (loadE n B) (B 4)), .int .i64 (ifz (loadE n B) (B 5)), ints .i64 (ifn (loadE n B) (3 * (B 4 * B 5)).toNat) (lightB B), ints .i64 (ifn (loadE n B) (B 4 * B 5).toNat) (shotB B (B 4 * B 5).toNat)], .int .i64 (loadE n B)]) := by
  refine acalls_of (inl := hasI (P := Try.prog) [] []) (base [get_k, sumB_k, mayF_k] [] []) 0 load_f (And.intro (by kernel_rfl) ?_)
  have u4 : IntKind.i64.wrap (B 4) = B 4 := wrapI (by have := hpre.2 4; omega) (by have := hpre.2 4; omega)
  have u5 : IntKind.i64.wrap (B 5) = B 5 := wrapI (by have := hpre.2 5; omega) (by have := hpre.2 5; omega)
  have hq : 0 ≤ B 4 * B 5 := Int.mul_nonneg (hpre.2 4).1 (hpre.2 5).1
  repeat' (first | refine And.intro ?_ ?_ | (with_reducible exact ff_elim) | (with_reducible exact tf_elim) | refine num_elim ?_ | intro _ | (with_reducible rfl) | ((with_reducible refine lk_t ?_); exact rfl) | ((with_reducible refine pf_t ?_); exact rfl) | refine tell ?_ | exact True.intro | (refine IsT.of ?_; kernel_rfl))
  all_goals (try (refine loop_keep [2, 4, 5, 88] [0] ?_; refine LoopI.mk ({i : Nat // (i : Int) ≤ 3 * (B 4 * B 5)}) (fun i => [(89, .int .i64 i.1), (6, .sl (n - 6 - 6 * i.1) 1 fun j => .int .u8 (B (6 + 6 * i.1 + j)))]) (fun i => [(20, .row [.int .i64 (B 4), .int .i64 (B 5), .os 1 1 0 i.1, .nils]), (1, .nums .i64 i.1 (lightB B))]) (fun i => (3 * (B 4 * B 5)).toNat - i.1) (⟨0, by omega⟩) (wk_mk [some 20, none, some 0] ?_) (fun ⟨i, hi⟩ => ?_)))
  repeat' (first | refine And.intro ?_ ?_ | (with_reducible exact ff_elim) | (with_reducible exact tf_elim) | refine' stp_mk [some 20, some _, some 0] (⟨i + 1, ?_⟩) ?_ ?_ | refine num_elim ?_ | intro _ | (with_reducible rfl) | ((with_reducible refine lk_t ?_); exact rfl) | ((with_reducible refine pf_t ?_); exact rfl) | refine tell ?_ | exact True.intro | (refine IsT.of ?_; kernel_rfl))
  all_goals (try (refine loop_keep [2, 4, 102] [0, 1] ?_; refine LoopI.mk ({k : Nat // (k : Int) ≤ B 4 * B 5}) (fun k => [(103, .int .i64 k.1), (6, .sl (n - 6 - 6 * i - 3 * k.1) 1 fun j => .int .u8 (B (6 + 6 * i + 3 * k.1 + j)))]) (fun k => [(20, .row [.int .i64 (B 4), .int .i64 (B 5), .os 1 1 0 i, .os 2 1 0 k.1]), (2, .nums .i64 k.1 (fun j => getV (shB B (6 + 6 * i + 3 * j)) 3))]) (fun k => (B 4 * B 5).toNat - k.1) (⟨0, by omega⟩) (wk_mk [some 20, none, some 0, some 1] ?_) (fun ⟨k, hk⟩ => ?_)))
  repeat' (first | refine And.intro ?_ ?_ | (with_reducible exact ff_elim) | (with_reducible exact tf_elim) | refine' stp_mk [some 20, some _, some 0, some 1] (⟨k + 1, ?_⟩) ?_ ?_ | refine num_elim ?_ | intro _ | (with_reducible rfl) | ((with_reducible refine lk_t ?_); exact rfl) | ((with_reducible refine pf_t ?_); exact rfl) | refine tell ?_ | exact True.intro | (refine IsT.of ?_; kernel_rfl))
  all_goals (try refine Tell.mk ?_)
  all_goals first | with_reducible rfl | with_reducible exact isI_mk | with_reducible assumption | (with_reducible refine gb_t ?_; with_reducible assumption) | (with_reducible refine gb_f ?_; with_reducible assumption) | ((with_reducible refine lk_t ?_); rfl) | ((with_reducible refine okF_t ?_); kernel_rfl) | ((with_reducible refine ks_t ?_); rfl) | ((with_reducible refine pk_t ?_); rfl) | ((with_reducible refine pf_t ?_); rfl) | skip
  all_goals (try dsimp only at *)
  all_goals (try simp only [decide_eq_true_eq, decide_eq_false_iff_not, Bool.or_eq_true, Bool.or_eq_false_iff, Bool.and_eq_true, Bool.and_eq_false_iff, Bool.not_eq_true', Bool.not_eq_false', bne_iff_ne, ne_eq, beq_iff_eq, bne_eq_false_iff_eq, beq_eq_false_iff_ne, Int.not_lt, Int.not_le, gt_iff_lt, ge_iff_le] at *)
  all_goals (try simp only [mulN1, Nat.add_zero, Nat.zero_add, Nat.mul_one, Int.toNat_natCast, avInt_int, intF_mk, shiftA_none, shiftA_some, lenN_none, lenN_some] at *)
  all_goals first | with_reducible rfl | with_reducible exact nums_N | omega | ((with_reducible refine by_le 1 rfl ?_); omega) | ((with_reducible refine by_le 8 rfl ?_); omega) | (rw [wrapI (by omega) (by omega)] <;> omega) | skip
  all_goals obtain ⟨hn, hB⟩ := hpre
  all_goals simp only [tn3, tn4, tn5, tn6, u4, u5, head_iff hB] at *
  all_goals first | with_reducible exact isI_mk | exact (hB _).1 | exact (hB _).2 | skip
  all_goals first | (rw [loadE_8a (n := n) (B := B) (by omega)] <;> first | exact ifz1 (by decide) | exact ifn1 (by decide)) | (rw [loadE_11 (n := n) (B := B) (by omega) (by with_reducible assumption)] <;> first | exact ifz1 (by decide) | exact ifn1 (by decide)) | (rw [loadE_4 (n := n) (B := B) (by omega) (by with_reducible assumption) (by unfold Side; omega)] <;> first | exact ifz1 (by decide) | exact ifn1 (by decide)) | exact congrArg (fun z => AV.int .u8 (B z)) (by omega) | skip
  all_goals have hs : Side (B 4) (B 5) := by unfold Side; omega
  all_goals (have hy := hs.wh; have y1 := hs.wraps.1; have y2 := hs.wraps.2.1; have y3 : IntKind.i64.wrap (21 * (B 4 * B 5)) = 21 * (B 4 * B 5) := wrapI (by omega) (by omega); have y4 : IntKind.i64.wrap (10 + 21 * (B 4 * B 5)) = 10 + 21 * (B 4 * B 5) := wrapI (by omega) (by omega))
  all_goals (have y5 : IntKind.i64.wrap ((n : Int) - 4) = (n : Int) - 4 := wrapI (by omega) (by omega))
  all_goals (have y6 : (n : Int) - ((n : Int) - 4) = 4 := by omega)
  all_goals simp only [y1, y2, y3, y4, y5, y6, tn4] at *
  all_goals first | (rw [loadE_8b (n := n) (B := B) (by omega) (by with_reducible assumption) hs (by omega)] <;> first | exact ifz1 (by decide) | exact ifn1 (by decide)) | (rw [loadE_5 (n := n) (B := B) (by omega) (by with_reducible assumption) hs (by omega)] <;> first | exact ifz1 (by decide) | exact ifn1 (by decide)) | skip
  all_goals have hN : n = 10 + 21 * (B 4 * B 5).toNat := by omega
  all_goals (have y7 : ((n : Int) - 4).toNat = n - 4 := by omega)
  all_goals simp only [y7] at *
  all_goals first | omega | (rw [loadE_12 (n := n) (B := B) (by with_reducible assumption) hs hN (by with_reducible assumption)] <;> first | exact ifz1 (by decide) | exact ifn1 (by decide)) | skip
  all_goals first | exact cat_step (P := lightB B) (by assumption) rfl | exact cat_step (P := fun j => getV (shB B (6 + 6 * i + 3 * j)) 3) (by assumption) rfl | skip
  all_goals first | (with_reducible refine by_le 8 rfl ?_; omega) | (rw [wrapI (by omega) (by omega)]; omega) | skip
  all_goals obtain ⟨q1, q2, q3, q4⟩ := load_end (by with_reducible assumption) hs hN (by with_reducible assumption) hi (by with_reducible assumption) hk (by with_reducible assumption)
  all_goals first | exact q1 | (rw [q1]; with_reducible assumption) | (rw [q1]; first | exact ifz1 (by with_reducible assumption) | exact ifn1 (by with_reducible assumption) | exact ifz0 (by with_reducible assumption) | exact (ifn0 (by with_reducible assumption)).trans q2.symm | exact (ifn0 (by with_reducible assumption)).trans q3.symm) | rw [q4]
def load_r (n : Nat) (B : Nat → Int) : AV := .tup [.agg [.int .i64 (ifz (loadE n B) (B 4)), .int .i64 (ifz (loadE n B) (B 5)), ints .i64 (ifn (loadE n B) (3 * (B 4 * B 5)).toNat) (lightB B), ints .i64 (ifn (loadE n B) (B 4 * B 5).toNat) (shotB B (B 4 * B 5).toNat)], .int .i64 (loadE n B)]
def load_p (n : Nat) (B : Nat → Int) : Prop := n ≤ 1000000 ∧ U8s B
def load_k : Con Try.prog := ⟨7, fun args => match args with | [.sl n 1 g_B] => .ok (some (IsI .u8 g_B ∧ load_p n (intF g_B))) (load_r n (intF g_B)) | _ => .no, by
  intro args p r h hp
  split at h
  · cases h; obtain ⟨h_B, hp⟩ := hp; have e_B := h_B.eq; rw [e_B]; exact load_a _ _ hp
  · cases h⟩
end Go.Proofs.Ytehjhfifldefiaa
