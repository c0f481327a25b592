/- Stores of films: waking. -/
import Derived.Test.YtehjhfifldefiaaStoreB
namespace Go.Proofs.Ytehjhfifldefiaa
open Go.RowKit Ev
set_option linter.unusedVariables false
set_option linter.unusedSimpArgs false
set_option maxRecDepth 20000
set_option maxHeartbeats 4000000

/-- Where a waking is, and the last film that is whole. -/
structure WF where
  p : Nat
  w : Int
  h : Int
  nl : Nat
  L : Nat → Int
  ns : Nat
  S : Nat → Int
  ok : Bool
def WF.zero : WF := ⟨0, 0, 0, 0, fun _ => 0, 0, fun _ => 0, false⟩
@[irreducible] def wkG (B : Nat → Int) (p : Nat) : Nat := (getV (shB B p) 4).toNat
def wkOk (n : Nat) (B : Nat → Int) (p : Nat) : Bool := decide (p + 4 ≤ n) && (decide (p + 4 + wkG B p ≤ n) && decide (loadE (wkG B p) (shB B (p + 4)) = 0))
def wkS (B : Nat → Int) (s : WF) : WF := ⟨s.p + 4 + wkG B s.p, B (s.p + 4 + 4), B (s.p + 4 + 5), (3 * (B (s.p + 4 + 4) * B (s.p + 4 + 5))).toNat, lightB (shB B (s.p + 4)), (B (s.p + 4 + 4) * B (s.p + 4 + 5)).toNat, shotB (shB B (s.p + 4)) (B (s.p + 4 + 4) * B (s.p + 4 + 5)).toNat, true⟩
def wkW (n : Nat) (B : Nat → Int) : Nat → WF
  | 0 => WF.zero
  | k + 1 => bif wkOk n B (wkW n B k).p then wkS B (wkW n B k) else wkW n B k
@[irreducible] def wkN (n : Nat) (B : Nat → Int) (k : Nat) : WF := wkW n B k
theorem wkN_0 (n : Nat) (B : Nat → Int) : wkN n B 0 = WF.zero := by unfold wkN; rfl
theorem wkN_s {n : Nat} {B : Nat → Int} {k : Nat} (h : wkOk n B (wkN n B k).p = true) : wkN n B (k + 1) = wkS B (wkN n B k) := by
  unfold wkN at *
  show (bif wkOk n B (wkW n B k).p then _ else _) = _
  rw [h]; rfl
theorem wkN_n {n : Nat} {B : Nat → Int} {k : Nat} (h : wkOk n B (wkN n B k).p = false) : wkN n B (k + 1) = wkN n B k := by
  unfold wkN at *
  show (bif wkOk n B (wkW n B k).p then _ else _) = _
  rw [h]; rfl
theorem wkN_stop {n : Nat} {B : Nat → Int} {k : Nat} (h : wkOk n B (wkN n B k).p = false) : ∀ d, wkN n B (k + d) = wkN n B k
  | 0 => rfl
  | d + 1 => by
    have e := wkN_stop h d
    have : wkN n B (k + d + 1) = wkN n B (k + d) := wkN_n (by rw [e]; exact h)
    rw [show k + (d + 1) = k + d + 1 from rfl, this, e]
theorem wkN_end {n : Nat} {B : Nat → Int} {k : Nat} (h : wkOk n B (wkN n B k).p = false) (hk : k ≤ n) : wkN n B n = wkN n B k := by
  have := wkN_stop h (n - k)
  rwa [show k + (n - k) = n by omega] at this
theorem wk_no1 {n : Nat} {B : Nat → Int} {p : Nat} (h : ¬ p + 4 ≤ n) : wkOk n B p = false := by unfold wkOk; rw [decide_eq_false h]; rfl
theorem wk_no2 {n : Nat} {B : Nat → Int} {p : Nat} (h : ¬ p + 4 + wkG B p ≤ n) : wkOk n B p = false := by unfold wkOk; rw [decide_eq_false h, Bool.false_and, Bool.and_false]
theorem wk_no3 {n : Nat} {B : Nat → Int} {p : Nat} (h : ¬ loadE (wkG B p) (shB B (p + 4)) = 0) : wkOk n B p = false := by unfold wkOk; rw [decide_eq_false h, Bool.and_false, Bool.and_false]
theorem wk_yes {n : Nat} {B : Nat → Int} {p : Nat} (h1 : p + 4 ≤ n) (h2 : p + 4 + wkG B p ≤ n) (h3 : loadE (wkG B p) (shB B (p + 4)) = 0) : wkOk n B p = true := by unfold wkOk; rw [decide_eq_true h1, decide_eq_true h2, decide_eq_true h3]; rfl
theorem wkG_eq {B : Nat → Int} (hB : U8s B) (p : Nat) : getV (fun j => B (p + j)) 4 = (wkG B p : Int) := by
  have := getV_lt (B := shB B p) (fun j => hB _) (n := 4) (by omega)
  unfold wkG
  show getV (shB B p) 4 = _
  omega
theorem wkG_bd {B : Nat → Int} (hB : U8s B) (p : Nat) : wkG B p < 4294967296 := by
  have := getV_bd (B := shB B p) (fun j => hB _) 4
  have e : ((256 ^ 4 : Nat) : Int) = 4294967296 := by decide
  unfold wkG
  omega
theorem wakeM_f : FnOk Try.prog 19 Try.f19 := ⟨Try.func19, by kernel_rfl⟩
theorem wakeM_a (n N : Nat) (B : Nat → Int) (hpre : n ≤ N ∧ n ≤ 1000000 ∧ U8s B) : MCalls Try.prog 19 ([.os 0 1 0 n]) [.nums .u8 N B] (.tup [.own 1 0, .agg [.int .i64 (wkN n B n).w, .int .i64 (wkN n B n).h, ints .i64 (wkN n B n).nl (wkN n B n).L, ints .i64 (wkN n B n).ns (wkN n B n).S], .bool (wkN n B n).ok]) [.nums .u8 N B, .row [.os 2 1 0 (wkN n B n).p], .nums .u8 (wkN n B n).p B] := by
  refine mcallsF_of (inl := hasI (P := Try.prog) [] [loadO_m]) (base [get_k] [] [loadO_m]) 0 wakeM_f (And.intro (by kernel_rfl) ?_)
  repeat' (first | refine And.intro ?_ ?_ | (with_reducible exact ff_elim) | (with_reducible exact tf_elim) | refine' rho_mk [_, _] ?_ | refine num_elim ?_ | intro _ | (with_reducible rfl) | ((with_reducible refine lk_t ?_); exact rfl) | ((with_reducible refine pf_t ?_); exact rfl) | refine tell ?_ | exact True.intro | (refine IsT.of ?_; kernel_rfl))
  all_goals (try (refine loop_keep [0, 3] [0] ?_; refine LoopI.mk ({k : Nat // 4 * k ≤ (wkN n B k).p ∧ (wkN n B k).p ≤ n}) (fun k => [(5, .int .i64 ((wkN n B k.1).p : Int)), (4, .bool (wkN n B k.1).ok)]) (fun k => [(2, .row [.int .i64 (wkN n B k.1).w, .int .i64 (wkN n B k.1).h, ints .i64 (wkN n B k.1).nl (wkN n B k.1).L, ints .i64 (wkN n B k.1).ns (wkN n B k.1).S])]) (fun k => n - k.1) (⟨0, by rw [wkN_0]; exact ⟨Nat.le_refl _, Nat.zero_le _⟩⟩) (wk_mk [some 2, none] ?_) (fun ⟨k, hk⟩ => ?_)))
  repeat' (first | refine And.intro ?_ ?_ | (with_reducible exact ff_elim) | (with_reducible exact tf_elim) | refine stp_mk [some 2, none] (⟨k + 1, ?_⟩) ?_ ?_ | refine' rho_mk [_, _] ?_ | refine num_elim ?_ | intro _ | (with_reducible rfl) | ((with_reducible refine lk_t ?_); exact rfl) | ((with_reducible refine pf_t ?_); exact rfl) | refine tell ?_ | exact True.intro | (refine IsT.of ?_; kernel_rfl))
  all_goals (try refine Tell.mk ?_)
  all_goals obtain ⟨hN, hn, hB⟩ := hpre
  all_goals (try dsimp only)
  all_goals first | with_reducible rfl | with_reducible exact isI_mk | exact Nat.le_refl _ | (rw [wkN_0]; rfl) | exact (hB _).1 | exact (hB _).2 | skip
  all_goals first | (obtain ⟨hk1, hk2⟩ := hk) | (exfalso; omega) | (rw [catI_some, if_neg (Nat.not_lt_zero _)]; rfl)
  all_goals (try simp only [decide_eq_true_eq, decide_eq_false_iff_not, Nat.not_le, Int.not_le, gt_iff_lt, Int.not_lt, bne_iff_ne, ne_eq, bne_eq_false_iff_eq] at *)
  all_goals (try simp only [intF_mk, shiftA_none, shiftA_some, lenN_none, lenN_some, offA_none, offA_some, mulN1, Int.toNat_natCast, Nat.zero_add, Nat.mul_one, Nat.one_mul] at *)
  all_goals (have g1 := wkG_eq hB (wkN n B k).p; have g2 := wkG_bd hB (wkN n B k).p)
  all_goals (have w1 : IntKind.i64.wrap (((wkN n B k).p : Int) + 4) = (((wkN n B k).p + 4 : Nat) : Int) := (by rw [wrapI (by omega) (by omega)]; omega); have w2 : IntKind.i64.wrap ((((wkN n B k).p + 4 : Nat) : Int) + (wkG B (wkN n B k).p : Int)) = (((wkN n B k).p + 4 + wkG B (wkN n B k).p : Nat) : Int) := (by rw [wrapI (by omega) (by omega)]; omega))
  all_goals (have w3 : (((wkN n B k).p + 4 : Nat) : Int) - ((wkN n B k).p : Int) = 4 := (by omega); have w4 : (((wkN n B k).p + 4 + wkG B (wkN n B k).p : Nat) : Int) - (((wkN n B k).p + 4 : Nat) : Int) = (wkG B (wkN n B k).p : Int) := (by omega))
  all_goals (try simp only [w1, w3, show Int.toNat 4 = 4 from rfl, g1, w2, w4, Int.toNat_natCast] at *)
  all_goals (try simp only [decide_eq_true_eq, decide_eq_false_iff_not, Nat.not_le, Int.not_le, gt_iff_lt, Int.not_lt, bne_iff_ne, ne_eq, bne_eq_false_iff_eq] at *)
  all_goals first | omega | exact Nat.le_refl _ | (show 0 < N; omega) | (rw [catI_some, if_neg (Nat.not_lt_zero _)]; rfl) | rfl | (show _ * 1 ≤ _; omega) | skip
  all_goals first
    | (have he : wkN n B n = wkN n B k := wkN_end (by first | exact wk_no1 (by omega) | exact wk_no2 (by omega) | exact wk_no3 (by assumption)) (by omega)
       simp only [he]; first | done | exact Nat.le_refl _)
    | (have hz : loadE (wkG B (wkN n B k).p) (shB B ((wkN n B k).p + 4)) = 0 := (by assumption)
       have e := wkN_s (wk_yes (n := n) (B := B) (p := (wkN n B k).p) (by omega) (by omega) hz)
       simp only [e, wkS, ifz0 hz, ifn0 hz]
       first | done | omega)
    | trace_state
def wakeM_p (n N : Nat) (B : Nat → Int) : Prop := n ≤ N ∧ n ≤ 1000000 ∧ U8s B
def wakeM_r (n N : Nat) (B : Nat → Int) : AV := .tup [.own 1 0, .agg [.int .i64 (wkN n B n).w, .int .i64 (wkN n B n).h, ints .i64 (wkN n B n).nl (wkN n B n).L, ints .i64 (wkN n B n).ns (wkN n B n).S], .bool (wkN n B n).ok]
def wakeM_rows (n N : Nat) (B : Nat → Int) : List OB := [.nums .u8 N B]
def wakeM_rows2 (n N : Nat) (B : Nat → Int) : List OB := [.nums .u8 N B, .row [.os 2 1 0 (wkN n B n).p], .nums .u8 (wkN n B n).p B]
def wakeM_m : MCon Try.prog := ⟨19, fun args own => match args with | [.os k0_ 1 0 n] => (match own k0_ with | .nums .u8 N B => .ok [k0_] ([.os 0 1 0 n]) (wakeM_rows n N B) (some (wakeM_p n N B)) (wakeM_r n N B) (wakeM_rows2 n N B) | _ => .no) | _ => .no, by
  intro args own ks cargs rows p r rows2 h hp
  split at h
  · split at h
    · cases h; have hq := hp; exact wakeM_a _ _ _ hq
    · cases h
  · cases h⟩
end Go.Proofs.Ytehjhfifldefiaa
