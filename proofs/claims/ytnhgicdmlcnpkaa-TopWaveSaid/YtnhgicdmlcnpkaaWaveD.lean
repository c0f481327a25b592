/- Rows going round: the program's and the document's. -/
import Derived.Test.YtnhgicdmlcnpkaaWaveC
namespace Go.Proofs.Ytnhgicdmlcnpkaa
open Go.RowKit Ev
set_option linter.unusedVariables false
set_option linter.unusedSimpArgs false
set_option maxRecDepth 20000
set_option maxHeartbeats 4000000

/-- The floor of a float that is a number. -/
def Ffl (x : Nat) : Nat := cn (FloatKind.f64.encode ((FloatKind.f64.decode x).integral .down))
theorem find_floor : Extern.find Try.f20 = some (Extern.MathFloor.toIntegral "math.archFloor" .down) := by kernel_rfl
theorem run_floor {P : Program} (w : World) (x : Nat) (h : isN x = false) : (Extern.MathFloor.toIntegral "math.archFloor" .down #[.float .f64 x]).run P w = .ok (.float .f64 (FloatKind.f64.encode ((FloatKind.f64.decode x).integral .down))) w := by
  have e : isN x = (FloatKind.f64.decode x).isNaN := rfl
  rw [e] at h
  show Sem.run P (match FloatKind.f64.decode x with | .nan s t => (_ : Sem Value) | d => (pure (Value.float .f64 (FloatKind.f64.encode (d.integral .down))) : Sem Value)) w = _
  split
  · rename_i s t hd
    rw [hd] at h; cases h
  · rfl
theorem floorx_a (x : Nat) (hx : isN x = false) : ACalls Try.prog 20 [.flt x] (.flt (Ffl x)) := by
  intro w Im vals hIm ht
  cases ht with
  | cons h t =>
    cases t
    obtain ⟨b, rfl, hb⟩ := h.inv_flt
    have hbn : isN b = false := by
      cases hn : isN b with
      | false => rfl
      | true => unfold cn at hb; rw [hn, if_pos rfl] at hb; rw [← hb] at hx; rw [isN_nanC] at hx; cases hx
    have ebx : b = x := by unfold cn at hb; rw [hbn] at hb; exact hb
    subst ebx
    have e : (callFunc 20 [Value.float .f64 b].toArray).run Try.prog w = .ok (.value (.float .f64 (FloatKind.f64.encode ((FloatKind.f64.decode b).integral .down)))) w := by
      rw [run_callFunc_extern Try.func20 (by kernel_rfl) (by kernel_rfl) (by kernel_rfl) find_floor, run_floor w b hbn]
      rfl
    rw [e]
    exact ⟨Below.refl _ _, .flt _ _ rfl⟩
def floorx_k : Con Try.prog := ⟨20, fun args => match args with | [.flt x] => .ok (some (isN x = false)) (.flt (Ffl x)) | _ => .no, by
  intro args p r h hp
  split at h
  · cases h; exact floorx_a _ hp
  · cases h⟩
theorem floorC_f : FnOk Try.prog 15 Try.f15 := ⟨Try.func15, by kernel_rfl⟩
theorem floorC_a (x : Nat) (hpre : isN x = false) : ACalls Try.prog 15 [.flt x] (.flt (Ffl x)) := by
  refine acalls_of (inl := hasI (P := Try.prog) [] []) (base [floorx_k] [] []) 0 floorC_f (And.intro (by kernel_rfl) ?_)
  repeat' (first | refine And.intro ?_ ?_ | (with_reducible exact ff_elim) | (with_reducible exact tf_elim) | intro _ | (with_reducible rfl) | ((with_reducible refine lk_t ?_); exact rfl) | ((with_reducible refine pf_t ?_); exact rfl) | refine tell ?_ | exact True.intro | (refine IsT.of ?_; kernel_rfl))
  all_goals ((try refine Tell.mk ?_); first | with_reducible rfl | ((show (_ : Int) ≤ _); decide) | ((show (_ : Int) < _); decide) | (with_reducible refine gb_t ?_; with_reducible assumption) | with_reducible assumption | (with_reducible refine gb_f ?_; with_reducible assumption) | (simp only [gb, *, cond_true, cond_false]; done) | ((with_reducible refine ks_t ?_); rfl) | ((with_reducible refine pk_t ?_); rfl) | ((with_reducible refine pf_t ?_); rfl) | ((with_reducible refine lk_t ?_); rfl) | ((with_reducible refine okF_t ?_); kernel_rfl) | grind [gb])
def floorC_k : Con Try.prog := ⟨15, fun args => match args with | [.flt x] => .ok (some (isN x = false)) (.flt (Ffl x)) | _ => .no, by
  intro args p r h hp
  split at h
  · cases h; exact floorC_a _ hp
  · cases h⟩
def okI (A B : Nat → Int) (i : Nat) : Bool := decide (0 ≤ A i ∧ A i ≤ 255 ∧ 0 ≤ B i ∧ B i ≤ 255)
def pwB (n : Nat) : Bool := n == 1 || (n == 2 || (n == 4 || (n == 8 || (n == 16 || (n == 32 || n == 64)))))
theorem pwB_iff {n : Nat} : pwB n = true ↔ Pw n := by
  unfold pwB
  simp only [Bool.or_eq_true, beq_iff_eq]
  constructor
  · rintro (h | h | h | h | h | h | h)
    · exact ⟨0, by decide, by omega⟩
    · exact ⟨1, by decide, by omega⟩
    · exact ⟨2, by decide, by omega⟩
    · exact ⟨3, by decide, by omega⟩
    · exact ⟨4, by decide, by omega⟩
    · exact ⟨5, by decide, by omega⟩
    · exact ⟨6, by decide, by omega⟩
  · intro h
    rcases h.cases with ⟨h, _⟩ | ⟨h, _⟩ | ⟨h, _⟩ | ⟨h, _⟩ | ⟨h, _⟩ | ⟨h, _⟩ | ⟨h, _⟩ <;> omega
@[irreducible] def roundE (n m : Nat) (A B : Nat → Int) : Int := if n = m ∧ pwB n = true then (if ∀ i, i < n → okI A B i = true then 0 else 6) else 5
def inC (A : Nat → Int) : Nat → Nat × Nat := fun j => (cn (FloatKind.f64.nearest (A j)), 0)
def prdC (n : Int) (A B : Nat → Int) : Nat → Nat × Nat := fun j => (cm1 (wvN false n (inC A) j).1 (wvN false n (inC A) j).2 (wvN false n (inC B) j).1 (wvN false n (inC B) j).2, cm2 (wvN false n (inC A) j).1 (wvN false n (inC A) j).2 (wvN false n (inC B) j).1 (wvN false n (inC B) j).2)
def rndF (n : Int) (A B : Nat → Int) (i : Nat) : Nat := F .add (F .quo (wvN true n (prdC n A B) i).1 (cn (FloatKind.f64.nearest n))) 4602678819172646912
def rndV (n : Int) (A B : Nat → Int) (i : Nat) : Int := ((FloatKind.f64.decode (Ffl (rndF n A B i))).toInt .zero).getD 0
/-- Each number that comes out is a number that fits. -/
structure RndOk (n : Nat) (A B : Nat → Int) : Prop where
  num : ∀ i, i < n → isN (rndF n A B i) = false
  fit : ∀ i, i < n → ∃ z, (FloatKind.f64.decode (Ffl (rndF n A B i))).toInt .zero = some z ∧ IntKind.i64.min ≤ z ∧ z ≤ IntKind.i64.max
@[irreducible] def ifnE (e : Int) (x : Nat) : Nat := if e = 0 then x else 0
def mixC (X Y : Nat → Nat × Nat) (i : Nat) : Nat → Nat × Nat := fun j => if j < i then X j else Y j
theorem gX_cp0 (X : Nat → Nat × Nat) : gX (fun j => cpF X (0 + j)) = X := by funext j; show (reA (cpF X (0 + j)), imA (cpF X (0 + j))) = X j; rw [Nat.zero_add]; rfl
theorem and_all : ∀ n : Nat, n < 65 → 1 ≤ n → (decide (bitsA .and .i64 (n : Int) (IntKind.i64.wrap ((n : Int) - 1)) = 0)) = pwB n := by decide +kernel
theorem and_pw {n : Nat} (h1 : 1 ≤ (n : Int)) (h2 : (n : Int) ≤ 64) (h : bitsA .and .i64 (n : Int) (IntKind.i64.wrap ((n : Int) - 1)) = 0) : pwB n = true := by
  rw [← and_all n (by omega) (by omega), decide_eq_true_eq]; exact h
theorem pwB_le {n : Nat} (h : pwB n = true) : 1 ≤ n ∧ n ≤ 64 := by have := (pwB_iff.1 h).wide; omega
theorem roundE_5 {n m : Nat} {A B : Nat → Int} (h : ((¬ (n : Int) = m ∨ (n : Int) < 1) ∨ 64 < (n : Int)) ∨ ¬ bitsA .and .i64 (n : Int) (IntKind.i64.wrap ((n : Int) - 1)) = 0) : roundE n m A B = 5 := by
  unfold roundE
  rw [if_neg ?_]
  rintro ⟨h1, h2⟩
  have h3 := pwB_le h2
  rcases h with ((h | h) | h) | h
  · omega
  · omega
  · omega
  · rw [← and_all n (by omega) (by omega), decide_eq_true_eq] at h2; exact h h2
theorem roundE_6 {n m : Nat} {A B : Nat → Int} {i : Nat} (h1 : (n : Int) = m) (h2 : pwB n = true) (hi : (i : Int) < n) (h : ((A i < 0 ∨ 255 < A i) ∨ B i < 0) ∨ 255 < B i) : roundE n m A B = 6 := by
  unfold roundE
  rw [if_pos ⟨by omega, h2⟩, if_neg ?_]
  intro hc
  have := hc i (by omega)
  unfold okI at this
  rw [decide_eq_true_eq] at this
  omega
theorem roundE_0 {n m : Nat} {A B : Nat → Int} {i : Nat} (h1 : (n : Int) = m) (h2 : pwB n = true) (hi : (n : Int) ≤ i) (h : ∀ k, k < i → okI A B k = true) : roundE n m A B = 0 := by
  unfold roundE
  rw [if_pos ⟨by omega, h2⟩, if_pos fun k hk => h k (by omega)]
theorem roundE_ok {n m : Nat} {A B : Nat → Int} (h : roundE n m A B = 0) : n = m ∧ pwB n = true ∧ ∀ i, i < n → okI A B i = true := by
  unfold roundE at h
  split at h
  · rename_i hc
    split at h
    · exact ⟨hc.1, hc.2, by assumption⟩
    · cases h
  · cases h
theorem ifnE_1 {e : Int} {x : Nat} (h : e ≠ 0) : ifnE e x = 0 := by unfold ifnE; rw [if_neg h]
theorem ifnE_0 {e : Int} {x : Nat} (h : e = 0) : ifnE e x = x := by unfold ifnE; rw [if_pos h]
theorem okI_s {A B : Nat → Int} {i k : Nat} (ho : ∀ k, k < i → okI A B k = true) (hk : k < i + 1) (h : ((0 ≤ A i ∧ A i ≤ 255) ∧ 0 ≤ B i) ∧ B i ≤ 255) : okI A B k = true := by
  by_cases e : k = i
  · subst e; unfold okI; rw [decide_eq_true_eq]; omega
  · exact ho k (by omega)
theorem wv_congr (b : Bool) : ∀ {m : Nat} {X Y : Nat → Nat × Nat}, (∀ j, j < 2 ^ m → X j = Y j) → ∀ {k}, k < 2 ^ m → wv b m X k = wv b m Y k
  | 0, X, Y, h, k, hk => h k hk
  | m + 1, X, Y, h, k, hk => by
    have p : 2 ^ (m + 1) = 2 * 2 ^ m := by rw [Nat.pow_succ]; omega
    have e : ∀ j, j < 2 ^ m → wv b m (fun j => X (2 * j)) j = wv b m (fun j => Y (2 * j)) j := fun j hj => wv_congr b (fun i hi => h _ (by omega)) hj
    have o : ∀ j, j < 2 ^ m → wv b m (fun j => X (2 * j + 1)) j = wv b m (fun j => Y (2 * j + 1)) j := fun j hj => wv_congr b (fun i hi => h _ (by omega)) hj
    show (if k < 2 ^ m then lowC (rtB b (m + 1)) (wv b m fun j => X (2 * j)) (wv b m fun j => X (2 * j + 1)) k else highC (rtB b (m + 1)) (wv b m fun j => X (2 * j)) (wv b m fun j => X (2 * j + 1)) (k - 2 ^ m)) =
      (if k < 2 ^ m then lowC (rtB b (m + 1)) (wv b m fun j => Y (2 * j)) (wv b m fun j => Y (2 * j + 1)) k else highC (rtB b (m + 1)) (wv b m fun j => Y (2 * j)) (wv b m fun j => Y (2 * j + 1)) (k - 2 ^ m))
    by_cases g : k < 2 ^ m
    · rw [if_pos g, if_pos g]; unfold lowC; rw [e k g, o k g]
    · rw [if_neg g, if_neg g]; unfold highC; rw [e _ (by omega), o _ (by omega)]
theorem wvN_mix {b : Bool} {n i j : Nat} {P W : Nat → Nat × Nat} (h : Pw n) (hi : (n : Int) ≤ i) (hi' : i ≤ n) (hj : (n : Int) ≤ j) {l : Nat} (hl : l < n) : wvN b i (mixC P W j) l = wvN b n P l := by
  obtain rfl : i = n := by omega
  unfold wvN
  have := lg_pow h
  refine wv_congr b (fun k hk => ?_) (by omega)
  unfold mixC; rw [if_pos (by omega)]
theorem mix_0 {P W : Nat → Nat × Nat} {j : Nat} : mixC P W 0 j = W j := by unfold mixC; rw [if_neg (by omega)]
theorem mix_s {P W : Nat → Nat × Nat} {i j : Nat} {v : AV} (hv : v = .cpx (P i).1 (P i).2) : cpF (mixC P W (i + 1)) j = if j = i then v else cpF (mixC P W i) j := by
  subst hv
  unfold cpF mixC
  by_cases e : j = i
  · subst e; rw [if_pos (by omega), if_pos rfl]
  · rw [if_neg e]
    by_cases g : j < i
    · rw [if_pos (by omega), if_pos g]
    · rw [if_neg (by omega), if_neg g]
theorem prd_v {n : Int} {A B : Nat → Int} {i : Nat} {v : AV} (h : v = .cpx (cm1 (mixC (prdC n A B) (wvN false n (inC A)) i i).1 (mixC (prdC n A B) (wvN false n (inC A)) i i).2 (wvN false n (inC B) i).1 (wvN false n (inC B) i).2)
    (cm2 (mixC (prdC n A B) (wvN false n (inC A)) i i).1 (mixC (prdC n A B) (wvN false n (inC A)) i i).2 (wvN false n (inC B) i).1 (wvN false n (inC B) i).2)) : v = .cpx (prdC n A B i).1 (prdC n A B i).2 := by
  have e : mixC (prdC n A B) (wvN false n (inC A)) i i = wvN false n (inC A) i := by unfold mixC; rw [if_neg (by omega)]
  rw [h, e]; rfl
theorem catI_s {f : Nat → Int} {l j k : Nat} {v : Int} (h : j < l + 1) (hv : v = f l) : f j = catI l (some k) f (fun _ => v) j := by
  rw [catI_some]
  by_cases g : j < l
  · rw [if_pos g]
  · obtain rfl : j = l := by omega
    rw [if_neg g, hv]
theorem round_f : FnOk Try.prog 6 Try.f6 := ⟨Try.func6, by kernel_rfl⟩
theorem round_a (n m : Nat) (A B : Nat → Int) (hpre : n ≤ 9223372036854775807 ∧ m ≤ 9223372036854775807 ∧ (roundE n m A B = 0 → RndOk n A B)) : ACalls Try.prog 6 [ints .i64 n A, ints .i64 m B] (.tup [ints .i64 (ifnE (roundE n m A B) n) (rndV n A B), .int .i64 (roundE n m A B)]) := by
  refine acalls_of (inl := hasI (P := Try.prog) [] [waves_m]) (base [timesC_k, floorC_k] [] [waves_m]) 0 round_f (And.intro (by kernel_rfl) ?_)
  repeat' (first | refine And.intro ?_ ?_ | (with_reducible exact ff_elim) | (with_reducible exact tf_elim) | refine num_elim ?_ | intro _ | (with_reducible rfl) | ((with_reducible refine lk_t ?_); exact rfl) | ((with_reducible refine pf_t ?_); exact rfl) | refine tell ?_ | exact True.intro | (refine IsT.of ?_; kernel_rfl))
  all_goals (try (refine loop_keep [0, 1, 6, 36] [] ?_; refine LoopI.mk ({i : Nat // i ≤ n ∧ ∀ k, k < i → okI A B k = true}) (fun i => [(37, .int .i64 i.1), (7, .os 1 1 0 i.1), (8, .os 2 1 0 i.1)]) (fun i => [(1, .arr i.1 (cpF (inC A))), (2, .arr i.1 (cpF (inC B)))]) (fun i => n - i.1) (⟨0, Nat.zero_le _, fun k hk => (by omega)⟩) (wk_mk [none, none] ?_) (fun ⟨i, hi, ho⟩ => ?_)))
  repeat' (first | refine And.intro ?_ ?_ | (with_reducible exact ff_elim) | (with_reducible exact tf_elim) | refine' stp_mk [some _, some _] (⟨i + 1, ?_, ?_⟩) ?_ ?_ | refine num_elim ?_ | intro _ | (with_reducible rfl) | ((with_reducible refine lk_t ?_); exact rfl) | ((with_reducible refine pf_t ?_); exact rfl) | refine tell ?_ | exact True.intro | (refine IsT.of ?_; kernel_rfl))
  all_goals (try (refine loop_keep [6, 7, 8, 89, 90] [32] ?_; refine LoopI.mk ({j : Nat // j ≤ n}) (fun j => [(91, .int .i64 j.1)]) (fun j => [(30, .arr n (cpF (mixC (prdC n A B) (wvN false n (inC A)) j.1)))]) (fun j => n - j.1) (⟨0, Nat.zero_le _⟩) (wk_mk [some 30, some 32] ?_) (fun ⟨j, hj⟩ => ?_)))
  repeat' (first | refine And.intro ?_ ?_ | (with_reducible exact ff_elim) | (with_reducible exact tf_elim) | refine stp_mk [some 30, some 32] (⟨j + 1, ?_⟩) ?_ ?_ | refine num_elim ?_ | intro _ | (with_reducible rfl) | ((with_reducible refine lk_t ?_); exact rfl) | ((with_reducible refine pf_t ?_); exact rfl) | refine tell ?_ | exact True.intro | (refine IsT.of ?_; kernel_rfl))
  all_goals (try (refine loop_keep [6, 107, 108] [41] ?_; refine LoopI.mk ({l : Nat // l ≤ n}) (fun l => [(109, .int .i64 l.1), (12, .os 1 1 0 l.1)]) (fun l => [(1, .nums .i64 l.1 (rndV n A B))]) (fun l => n - l.1) (⟨0, Nat.zero_le _⟩) (wk_mk [none, some 41] ?_) (fun ⟨l, hl⟩ => ?_)))
  repeat' (first | refine And.intro ?_ ?_ | (with_reducible exact ff_elim) | (with_reducible exact tf_elim) | refine' stp_mk [some _, some 41] (⟨l + 1, ?_⟩) ?_ ?_ | refine num_elim ?_ | intro _ | (with_reducible rfl) | ((with_reducible refine lk_t ?_); exact rfl) | ((with_reducible refine pf_t ?_); exact rfl) | refine tell ?_ | exact True.intro | (refine IsT.of ?_; kernel_rfl))
  all_goals (try refine Tell.mk ?_)
  all_goals first | with_reducible rfl | with_reducible exact isI_mk | with_reducible assumption | (with_reducible refine gb_t ?_; with_reducible assumption) | (with_reducible refine gb_f ?_; with_reducible assumption) | ((with_reducible refine lk_t ?_); rfl) | ((with_reducible refine okF_t ?_); kernel_rfl) | ((with_reducible refine ks_t ?_); rfl) | ((with_reducible refine pk_t ?_); rfl) | ((with_reducible refine pf_t ?_); rfl) | skip
  all_goals (try dsimp only at *)
  all_goals (try simp only [decide_eq_true_eq, decide_eq_false_iff_not, Bool.or_eq_true, Bool.or_eq_false_iff, Bool.and_eq_true, Bool.and_eq_false_iff, Bool.not_eq_true', Bool.not_eq_false', bne_iff_ne, ne_eq, beq_iff_eq, bne_eq_false_iff_eq, beq_eq_false_iff_ne, Int.not_lt, Int.not_le, gt_iff_lt, ge_iff_le] at *)
  all_goals (try simp only [mulN1, Nat.add_zero, Nat.zero_add, Nat.mul_one, Int.toNat_natCast, avInt_int, intF_mk] at *)
  all_goals first | with_reducible rfl | with_reducible exact nums_N | omega | ((with_reducible refine by_le 1 rfl ?_); omega) | ((with_reducible refine by_le 8 rfl ?_); omega) | (rw [wrapI (by omega) (by omega)] <;> omega) | skip
  all_goals obtain ⟨hn, hm, hr⟩ := hpre
  all_goals (have s1 : (Tab.cx.ti 29).size = 1 := rfl)
  all_goals (have b1 : (Tab.cx.ti 29).bytes = 16 := rfl)
  all_goals (try simp only [s1, b1, Nat.mul_one, gX_cp] at *)
  all_goals first | omega | rfl | exact one_le _ | exact roundE_5 (by assumption) | (rw [roundE_5 (by assumption)]; exact ifnE_1 (by decide)) | (refine cat1 (by omega) rfl) | exact okI_s ho (by assumption) (by assumption) | skip
  all_goals (have ha : (((n : Int) = m ∧ 1 ≤ (n : Int)) ∧ (n : Int) ≤ 64) ∧ bitsA .and .i64 (n : Int) (IntKind.i64.wrap ((n : Int) - 1)) = 0 := by assumption)
  all_goals (have hp := and_pw ha.1.1.2 ha.1.2 ha.2; have hP := pwB_iff.1 hp)
  all_goals first | (rw [roundE_6 ha.1.1.1 hp (by assumption) (by assumption)]; exact ifnE_1 (by decide)) | exact roundE_6 ha.1.1.1 hp (by assumption) (by assumption) | skip
  all_goals (have hE := roundE_0 (A := A) (B := B) ha.1.1.1 hp (by assumption) ho; have hrr := hr hE)
  all_goals (obtain rfl : i = n := (by omega))
  all_goals first | exact hP | exact hE | (rw [ifnE_0 hE]; omega) | (unfold cpF; rw [mix_0]) | (refine mix_s (prd_v ?_); rfl) | skip
  all_goals (have hmx := wvN_mix (b := true) (P := prdC i A B) (W := wvN false i (inC A)) (i := i) (j := j) hP (Int.le_refl _) (Nat.le_refl _) (by assumption) (l := l) (by omega); try simp only [hmx])
  all_goals first | exact hrr.num l (by omega) | exact hrr.fit l (by omega) | exact catI_s (by assumption) rfl
def round_r (n m : Nat) (A B : Nat → Int) : AV := .tup [ints .i64 (ifnE (roundE n m A B) n) (rndV n A B), .int .i64 (roundE n m A B)]
def round_p (n m : Nat) (A B : Nat → Int) : Prop := n ≤ 9223372036854775807 ∧ m ≤ 9223372036854775807 ∧ (roundE n m A B = 0 → RndOk n A B)
def round_k : Con Try.prog := ⟨6, fun args => match args with | [.sl n 1 g_A, .sl m 1 g_B] => .ok (some (IsI .i64 g_A ∧ IsI .i64 g_B ∧ round_p n m (intF g_A) (intF g_B))) (round_r n m (intF g_A) (intF g_B)) | _ => .no, by
  intro args p r h hp
  split at h
  · cases h; obtain ⟨h_A, h_B, hp⟩ := hp; have e_A := h_A.eq; have e_B := h_B.eq; rw [e_A, e_B]; exact round_a _ _ _ _ hp
  · cases h⟩
theorem roundE_5r {n m : Nat} {A B : Nat → Int} (h : ¬ (n : Int) = m ∨ (((((¬ (n : Int) = 1 ∧ ¬ (n : Int) = 2) ∧ ¬ (n : Int) = 4) ∧ ¬ (n : Int) = 8) ∧ ¬ (n : Int) = 16) ∧ ¬ (n : Int) = 32) ∧ ¬ (n : Int) = 64) : roundE n m A B = 5 := by
  unfold roundE
  rw [if_neg ?_]
  rintro ⟨h1, h2⟩
  unfold pwB at h2
  simp only [Bool.or_eq_true, beq_iff_eq] at h2
  omega
theorem or_pw {n : Nat} (h : (((((((n : Int) = 1 ∨ (n : Int) = 2) ∨ (n : Int) = 4) ∨ (n : Int) = 8) ∨ (n : Int) = 16) ∨ (n : Int) = 32) ∨ (n : Int) = 64)) : pwB n = true := by
  unfold pwB
  simp only [Bool.or_eq_true, beq_iff_eq]
  omega
theorem gX_self (X : Nat → Nat × Nat) : gX (fun j => cpF X j) = X := rfl
theorem strX_1_ (X : Nat → Nat × Nat) : strX X 0 1 = X := by
  funext j
  unfold strX
  rw [show ((0 : Int) + 1 * (j : Int)).toNat = j by omega]
theorem Sp.one {n : Nat} (h : pwB n = true) : Sp n 0 1 where
  s1 := by omega
  f0 := by omega
  fs := by omega
  pw := by rw [Int.ediv_one]; exact pwB_iff.1 h
  mul := by rw [Int.ediv_one, Int.mul_one]
  le := (pwB_le h).2
theorem roundR_f : FnOk Try.prog 7 Try.f7 := ⟨Try.func7, by kernel_rfl⟩
theorem roundR_a (n m : Nat) (A B : Nat → Int) (hpre : n ≤ 9223372036854775807 ∧ m ≤ 9223372036854775807 ∧ (roundE n m A B = 0 → RndOk n A B)) : ACalls Try.prog 7 [ints .i64 n A, ints .i64 m B] (.tup [ints .i64 (ifnE (roundE n m A B) n) (rndV n A B), .int .i64 (roundE n m A B)]) := by
  refine acalls_of (inl := hasI (P := Try.prog) [] []) (base [product_k, floorC_k, wavesR_k] [] []) 0 roundR_f (And.intro (by kernel_rfl) ?_)
  repeat' (first | refine And.intro ?_ ?_ | (with_reducible exact ff_elim) | (with_reducible exact tf_elim) | refine num_elim ?_ | intro _ | (with_reducible rfl) | ((with_reducible refine lk_t ?_); exact rfl) | ((with_reducible refine pf_t ?_); exact rfl) | refine tell ?_ | exact True.intro | (refine IsT.of ?_; kernel_rfl))
  all_goals (try (refine loop_keep [0, 1, 6] [] ?_; refine LoopI.mk ({i : Nat // i ≤ n ∧ ∀ k, k < i → okI A B k = true}) (fun i => [(9, .int .i64 i.1), (7, .os 1 1 0 i.1), (8, .os 2 1 0 i.1)]) (fun i => [(1, .arr i.1 (cpF (inC A))), (2, .arr i.1 (cpF (inC B)))]) (fun i => n - i.1) (⟨0, Nat.zero_le _, fun k hk => (by omega)⟩) (wk_mk [none, none] ?_) (fun ⟨i, hi, ho⟩ => ?_)))
  repeat' (first | refine And.intro ?_ ?_ | (with_reducible exact ff_elim) | (with_reducible exact tf_elim) | refine' stp_mk [some _, some _] (⟨i + 1, ?_, ?_⟩) ?_ ?_ | refine num_elim ?_ | intro _ | (with_reducible rfl) | ((with_reducible refine lk_t ?_); exact rfl) | ((with_reducible refine pf_t ?_); exact rfl) | refine tell ?_ | exact True.intro | (refine IsT.of ?_; kernel_rfl))
  all_goals (try (refine loop_keep [6, 7, 8] [] ?_; refine LoopI.mk ({j : Nat // j ≤ n}) (fun j => [(11, .int .i64 j.1), (10, .os 1 1 0 j.1)]) (fun j => [(1, .arr j.1 (cpF (prdC n A B)))]) (fun j => n - j.1) (⟨0, Nat.zero_le _⟩) (wk_mk [none] ?_) (fun ⟨j, hj⟩ => ?_)))
  repeat' (first | refine And.intro ?_ ?_ | (with_reducible exact ff_elim) | (with_reducible exact tf_elim) | refine' stp_mk [some _] (⟨j + 1, ?_⟩) ?_ ?_ | refine num_elim ?_ | intro _ | (with_reducible rfl) | ((with_reducible refine lk_t ?_); exact rfl) | ((with_reducible refine pf_t ?_); exact rfl) | refine tell ?_ | exact True.intro | (refine IsT.of ?_; kernel_rfl))
  all_goals (try (refine loop_keep [6, 10] [] ?_; refine LoopI.mk ({l : Nat // l ≤ n}) (fun l => [(13, .int .i64 l.1), (12, .os 1 1 0 l.1)]) (fun l => [(1, .nums .i64 l.1 (rndV n A B))]) (fun l => n - l.1) (⟨0, Nat.zero_le _⟩) (wk_mk [none] ?_) (fun ⟨l, hl⟩ => ?_)))
  repeat' (first | refine And.intro ?_ ?_ | (with_reducible exact ff_elim) | (with_reducible exact tf_elim) | refine' stp_mk [some _] (⟨l + 1, ?_⟩) ?_ ?_ | refine num_elim ?_ | intro _ | (with_reducible rfl) | ((with_reducible refine lk_t ?_); exact rfl) | ((with_reducible refine pf_t ?_); exact rfl) | refine tell ?_ | exact True.intro | (refine IsT.of ?_; kernel_rfl))
  all_goals (try refine Tell.mk ?_)
  all_goals first | with_reducible rfl | with_reducible exact isI_mk | with_reducible assumption | (with_reducible refine gb_t ?_; with_reducible assumption) | (with_reducible refine gb_f ?_; with_reducible assumption) | ((with_reducible refine lk_t ?_); rfl) | ((with_reducible refine okF_t ?_); kernel_rfl) | ((with_reducible refine ks_t ?_); rfl) | ((with_reducible refine pk_t ?_); rfl) | ((with_reducible refine pf_t ?_); rfl) | skip
  all_goals (try dsimp only at *)
  all_goals (try simp only [decide_eq_true_eq, decide_eq_false_iff_not, Bool.or_eq_true, Bool.or_eq_false_iff, Bool.and_eq_true, Bool.and_eq_false_iff, Bool.not_eq_true', Bool.not_eq_false', bne_iff_ne, ne_eq, beq_iff_eq, bne_eq_false_iff_eq, beq_eq_false_iff_ne, Int.not_lt, Int.not_le, gt_iff_lt, ge_iff_le] at *)
  all_goals (try simp only [mulN1, Nat.add_zero, Nat.zero_add, Nat.mul_one, Int.toNat_natCast, avInt_int, intF_mk] at *)
  all_goals first | with_reducible rfl | with_reducible exact nums_N | omega | ((with_reducible refine by_le 1 rfl ?_); omega) | ((with_reducible refine by_le 8 rfl ?_); omega) | (rw [wrapI (by omega) (by omega)] <;> omega) | skip
  all_goals first | (refine ⟨by assumption, ?_⟩; (with_reducible refine gb_t ?_); simp only [Bool.and_eq_true, bne_iff_ne, ne_eq]; assumption) | skip
  all_goals obtain ⟨hn, hm, hr⟩ := hpre
  all_goals (have s1 : (Tab.cx.ti 29).size = 1 := rfl)
  all_goals (have b1 : (Tab.cx.ti 29).bytes = 16 := rfl)
  all_goals (try simp only [s1, b1, Nat.mul_one, gX_self, strX_1_, Int.ediv_one] at *)
  all_goals first | omega | rfl | exact one_le _ | exact roundE_5r (by assumption) | (rw [roundE_5r (by assumption)]; exact ifnE_1 (by decide)) | (refine cat1 (by omega) rfl) | exact okI_s ho (by assumption) (by assumption) | skip
  all_goals (have ha : (n : Int) = m ∧ (((((((n : Int) = 1 ∨ (n : Int) = 2) ∨ (n : Int) = 4) ∨ (n : Int) = 8) ∨ (n : Int) = 16) ∨ (n : Int) = 32) ∨ (n : Int) = 64) := by assumption)
  all_goals (have hp := or_pw ha.2)
  all_goals first | (rw [roundE_6 ha.1 hp (by assumption) (by assumption)]; exact ifnE_1 (by decide)) | exact roundE_6 ha.1 hp (by assumption) (by assumption) | skip
  all_goals (have hE := roundE_0 (A := A) (B := B) ha.1 hp (by assumption) ho; have hrr := hr hE)
  all_goals (obtain rfl : i = n := (by omega))
  all_goals first | exact Sp.one hp | exact hE | (rw [ifnE_0 hE]; omega) | (refine cat1 (by omega) rfl) | skip
  all_goals (obtain rfl : j = i := (by omega))
  all_goals first | exact Sp.one hp | exact hrr.num l (by omega) | exact hrr.fit l (by omega) | exact catI_s (by assumption) rfl
def roundR_r (n m : Nat) (A B : Nat → Int) : AV := .tup [ints .i64 (ifnE (roundE n m A B) n) (rndV n A B), .int .i64 (roundE n m A B)]
def roundR_p (n m : Nat) (A B : Nat → Int) : Prop := n ≤ 9223372036854775807 ∧ m ≤ 9223372036854775807 ∧ (roundE n m A B = 0 → RndOk n A B)
def roundR_k : Con Try.prog := ⟨7, fun args => match args with | [.sl n 1 g_A, .sl m 1 g_B] => .ok (some (IsI .i64 g_A ∧ IsI .i64 g_B ∧ roundR_p n m (intF g_A) (intF g_B))) (roundR_r n m (intF g_A) (intF g_B)) | _ => .no, by
  intro args p r h hp
  split at h
  · cases h; obtain ⟨h_A, h_B, hp⟩ := hp; have e_A := h_A.eq; have e_B := h_B.eq; rw [e_A, e_B]; exact roundR_a _ _ _ _ hp
  · cases h⟩
end Go.Proofs.Ytnhgicdmlcnpkaa
