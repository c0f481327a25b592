/- Scenes as text: a solid, walked. -/
import Derived.Test.YtphdjmaebdmdmaaGreatDoorScnD
import Derived.Test.YtphdjmaebdmdmaaGreatDoorScnC
import Derived.Test.YtphdjmaebdmdmaaGreatDoorScnA
namespace Go.Proofs.YtphdjmaebdmdmaaGreatDoor
open Go.RowKit Ev
set_option linter.unusedVariables false
set_option linter.unusedSimpArgs false
set_option maxRecDepth 20000
set_option maxHeartbeats 8000000

/-- How often the parts ahead of i name j. -/
def usG (Q : Nat → Prt) : Nat → Nat → Int
  | 0, _ => 0
  | i + 1, j => usG Q i j + (if (Q i).op = 0 then 0 else (if j = (Q i).l.toNat then 1 else 0) + (if j = (Q i).m.toNat then 1 else 0))
@[irreducible] def usT (Q : Nat → Prt) (i j : Nat) : Int := usG Q i j
theorem usT_0 (Q : Nat → Prt) (j : Nat) : usT Q 0 j = 0 := by unfold usT; rfl
theorem usT_s (Q : Nat → Prt) (i j : Nat) : usT Q (i + 1) j = usT Q i j + (if (Q i).op = 0 then 0 else (if j = (Q i).l.toNat then 1 else 0) + (if j = (Q i).m.toNat then 1 else 0)) := by unfold usT; rfl
theorem us_bd (Q : Nat → Prt) : ∀ i j, 0 ≤ usT Q i j ∧ usT Q i j ≤ 2 * (i : Int)
  | 0, j => by rw [usT_0]; omega
  | i + 1, j => by
    have := us_bd Q i j
    rw [usT_s]
    split
    · omega
    · split <;> split <;> omega
theorem us_s0 {Q : Nat → Prt} {i : Nat} (e : (Q i).op = 0) (j : Nat) : usT Q (i + 1) j = usT Q i j := by
  rw [usT_s, if_pos e]; omega
theorem us_s1 {Q : Nat → Prt} {i : Nat} (hi : i ≤ 16) (e : ¬ (Q i).op = 0) {a b : Nat} (ha : a = (Q i).l.toNat) (hb : b = (Q i).m.toNat) (j : Nat) :
    usT Q (i + 1) j = if j = b then IntKind.i64.wrap ((if b = a then IntKind.i64.wrap (usT Q i a + 1) else usT Q i b) + 1) else (if j = a then IntKind.i64.wrap (usT Q i a + 1) else usT Q i j) := by
  have b1 := us_bd Q i a
  have b2 := us_bd Q i b
  rw [usT_s, if_neg e, ← ha, ← hb, wrapI (x := usT Q i a + 1) (by omega) (by omega)]
  by_cases q : b = a
  · subst q
    rw [if_pos rfl, wrapI (by omega) (by omega)]
    by_cases c : j = b
    · subst c; rw [if_pos rfl, if_pos rfl]; omega
    · rw [if_neg c, if_neg c, if_neg c]; omega
  · rw [if_neg q, wrapI (by omega) (by omega)]
    by_cases c : j = b
    · subst c; rw [if_pos rfl, if_neg q, if_pos rfl]; omega
    · rw [if_neg c, if_neg c]
      by_cases d : j = a
      · subst d; rw [if_pos rfl, if_pos rfl]; omega
      · rw [if_neg d, if_neg d]; omega
/-- Is each part but the last named once? -/
@[irreducible] def usOk (Q : Nat → Prt) (m : Nat) : Bool := (List.range (m - 1)).all fun k => usT Q m k == 1
theorem usOk_iff {Q : Nat → Prt} {m : Nat} : usOk Q m = true ↔ ∀ k, k < m - 1 → usT Q m k = 1 := by
  unfold usOk
  simp only [List.all_eq_true, List.mem_range, beq_iff_eq]
theorem usOk_no {Q : Nat → Prt} {m k : Nat} (h : k < m - 1) (hne : ¬ usT Q m k = 1) : usOk Q m = false := by
  cases q : usOk Q m with
  | false => rfl
  | true => exact absurd (usOk_iff.1 q k h) hne
@[irreducible] def k_solid : ByteArray := ⟨#[115, 111, 108, 105, 100, 32]⟩
theorem k_solid_def : (⟨#[115, 111, 108, 105, 100, 32]⟩ : ByteArray) = k_solid := by unfold k_solid; rfl
theorem k_solid_sz : k_solid.size = 6 := by unfold k_solid; rfl
/-- A solid as text; can it not be told? -/
@[irreducible] def slS (Q : Nat → Prt) (m : Nat) (s : Int) : ByteArray := if usOk Q m = true then k_solid ++ (tS Q (m - 1) ++ skS s) else ⟨#[]⟩
@[irreducible] def slB (Q : Nat → Prt) (m : Nat) (bad : Bool) : Bool := if usOk Q m = true then tB Q (m - 1) 0 (bad || decide (dp Q (m - 1) > 3)) else true
theorem slS_1 {Q : Nat → Prt} {m : Nat} {s : Int} (h : usOk Q m = true) : slS Q m s = k_solid ++ (tS Q (m - 1) ++ skS s) := by unfold slS; rw [if_pos h]
theorem slB_1 {Q : Nat → Prt} {m : Nat} {bad : Bool} (h : usOk Q m = true) : slB Q m bad = tB Q (m - 1) 0 (bad || decide (dp Q (m - 1) > 3)) := by unfold slB; rw [if_pos h]
theorem slS_0 {Q : Nat → Prt} {m : Nat} {s : Int} (h : usOk Q m = false) : slS Q m s = ⟨#[]⟩ := by unfold slS; rw [if_neg (by rw [h]; decide)]
theorem slB_0 {Q : Nat → Prt} {m : Nat} {bad : Bool} (h : usOk Q m = false) : slB Q m bad = true := by unfold slB; rw [if_neg (by rw [h]; decide)]
theorem sl_sz {Q : Nat → Prt} {m : Nat} (h : SolP Q m) (h1 : 1 ≤ m) {s : Int} (hs : In64 s) : (slS Q m s).size ≤ 30000000 := by
  cases q : usOk Q m with
  | false => rw [slS_0 q]; show 0 ≤ _; omega
  | true =>
    rw [slS_1 q, ByteArray.size_append, ByteArray.size_append, k_solid_sz]
    have a := sk_sz hs
    have b := tS_le h.ord h.m16 (m - 1) (by omega)
    have c := tC_le h.ord h.m16 (m - 1) (by omega)
    have d : 2 ^ (m - 1 + 1) ≤ 2 ^ 16 := Nat.pow_le_pow_right (by omega) (by have := h.m16; omega)
    have e : (2 : Nat) ^ 16 = 65536 := by decide
    omega
def depthK (Q : Nat → Prt) (m : Nat) (h : 1 ≤ m ∧ m ≤ 16 ∧ SolK Q m) : Con Tryz.prog := ⟨83, fun args => match args with | [.sl m' 16 g] => .ok (some (m' = m ∧ g = partF Q)) (.int .i64 (dp Q (m - 1))) | _ => .no, by
  intro args p r h' hp
  split at h'
  · cases h'; obtain ⟨rfl, rfl⟩ := hp; exact pdepth_a _ _ h
  · cases h'⟩
/-- The same, with the bytes called by another name. -/
theorem relabel {f : FuncId} {args : List AV} {rows : List OB} {n : Nat} {P P' : Nat → Int} {b : Bool} (hr : rows.length = 2) (h0 : 0 < n) (hP : ∀ j, j < n → P' j = P j) (h : MCalls Tryz.prog f args rows (.tup []) [.row [.own 0 0, .os 1 1 0 n, .bool b], .bts n P]) :
    MCalls Tryz.prog f args rows (.tup []) [.row [.own 0 0, .os 2 1 0 n, .bool b], .gone, .bts n P'] := by
  intro w0 w σ Im vals hS hn ht
  refine (h w0 w σ Im vals hS hn ht).mono ?_
  rintro v w' ⟨σ', Im', hv, hS', hz, hg⟩
  rw [hr] at hz hg hn ⊢
  have z2 : ∀ k, 2 ≤ k → σ' k = none := fun k hk => hz k hk hk
  have up : ∀ k c, σ' k = some c → upd σ' 2 (σ' 1) k = some c := fun k c hk => by
    rw [upd_other]
    · exact hk
    · rintro rfl; rw [z2 2 (by omega)] at hk; cases hk
  have at2 : upd σ' 2 (σ' 1) 2 = σ' 1 := by unfold upd; simp
  have back : ∀ k c, upd σ' 2 (σ' 1) k = some c → ∃ k', σ' k' = some c := fun k c hk => by
    by_cases e : k = 2
    · subst e; rw [at2] at hk; exact ⟨1, hk⟩
    · rw [upd_other _ _ _ e] at hk; exact ⟨k, hk⟩
  have g1 : Go1 w' σ' Im' w' (upd σ' 2 (σ' 1)) Im' := ⟨fun _ h => h, fun _ _ => rfl, up, fun _ _ _ => rfl⟩
  obtain ⟨b1, hb1⟩ : ∃ c, σ' 1 = some c := by
    rcases hS'.held 1 trivial with ⟨q, _⟩ | ⟨c, q, _⟩
    · have q : n = 0 := q
      omega
    · exact ⟨c, q⟩
  obtain ⟨b0, hb0, i0, k0, B0⟩ : ∃ c, σ' 0 = some c ∧ ¬ Im' c ∧ ¬ w0.kp c ∧ Blk w' c 3 (fun i v => Rd w' σ' Im' ([AV.own 0 0, .os 1 1 0 n, .bool b].getD i .any) v) none := by
    rcases hS'.held 0 trivial with ⟨q, _⟩ | q
    · have q : (3 : Nat) = 0 := q
      omega
    · exact q
  have hB1 := held_blk hS' (k := 1) trivial hb1
  refine ⟨upd σ' 2 (σ' 1), Im', hv.mono g1, ⟨hS'.bel, hS'.im, fun k c hk => ?_, fun k hk => ?_, fun k k' c hk hk' e e' => ?_, hS'.imB, fun k c hk => ?_⟩, fun k hk hk' => ?_, hg.trans (g1.low _)⟩
  · obtain ⟨k', hk'⟩ := back k c hk; exact hS'.sg k' c hk'
  · rcases k with _ | _ | _ | k
    · refine .inr ⟨b0, up 0 b0 hb0, i0, k0, B0.1, B0.2.1, fun i hi => ?_⟩
      obtain ⟨u, u1, u2, u3⟩ := B0.2.2 i hi
      refine ⟨u, u1, u2, ?_⟩
      have hi : i < 3 := hi
      match i, hi with
      | 0, _ => exact u3.mono g1
      | 1, _ =>
        have u3 : Rd w' σ' Im' (.os 1 1 0 n) u := u3
        show Rd w' (upd σ' 2 (σ' 1)) Im' (.os 2 1 0 n) u
        rcases u3.inv_os with ⟨e0, _⟩ | ⟨g, cap, rfl, hg, k1, k2, k3⟩
        · omega
        · exact .os _ _ _ _ _ _ (at2.trans hg) k1 k2 k3
      | 2, _ => exact u3.mono g1
    · exact hk.elim
    · have q := hS'.held 1 trivial
      rcases q with ⟨q, _⟩ | ⟨c, q1, q2, q3, q4⟩
      · have q : n = 0 := q
        omega
      · exact .inr ⟨c, at2.trans q1, q2, q3, q4.1, q4.2.1, fun i hi => by
          have hi : i < n := hi
          obtain ⟨u, u1, u2, u3⟩ := q4.2.2 i hi
          have u3 : Rd w' σ' Im' (.int .u8 (P i)) u := u3
          refine ⟨u, u1, u2, ?_⟩
          show Rd w' (upd σ' 2 (σ' 1)) Im' (.int .u8 (P' i)) u
          rw [hP i hi]
          exact u3.mono g1⟩
    · exact hk.elim
  · have inj : ∀ c, σ' 0 = some c → σ' 1 = some c → False := fun c e e' => by
      have := hS'.inj 0 1 c trivial trivial e e'
      omega
    rcases k with _ | _ | _ | k
    · rcases k' with _ | _ | _ | k'
      · rfl
      · exact hk'.elim
      · rw [at2] at e'
        rw [upd_other _ _ _ (by omega)] at e
        exact (inj c e e').elim
      · exact hk'.elim
    · exact hk.elim
    · rcases k' with _ | _ | _ | k'
      · rw [at2] at e
        rw [upd_other _ _ _ (by omega)] at e'
        exact (inj c e' e).elim
      · exact hk'.elim
      · rfl
      · exact hk'.elim
    · exact hk.elim
  · obtain ⟨k', hk'⟩ := back k c hk; exact hS'.sgB k' c hk'
  · have hk' : 3 ≤ k := hk'
    rw [upd_other _ _ _ (by omega)]
    exact z2 k (by omega)
end Go.Proofs.YtphdjmaebdmdmaaGreatDoor
/- Scenes as text: a solid, walked (each part but the last named once, or not). -/
namespace Go.Proofs.YtphdjmaebdmdmaaGreatDoor
open Go.RowKit Ev
set_option linter.unusedVariables false
set_option linter.unusedSimpArgs false
set_option maxRecDepth 20000
set_option maxHeartbeats 8000000

structure SlI (m : Nat) where
  i : Nat
  hi : i ≤ m
structure SlJ (Q : Nat → Prt) (m : Nat) where
  i : Nat
  hi : i ≤ m
  hu : ∀ k, k < i → k < m - 1 → usT Q m k = 1
theorem sl_dead {Q : Nat → Prt} {m sz : Nat} {I : SlI m} {J : SlJ Q m} (hz : sz = 1) (m16 : m ≤ 16) (h1m : 1 ≤ m) (hu : ∀ k, k < m - 1 → usT Q m k = 1) (h2 : (decide ((J.i : Int) < IntKind.i64.wrap ((((m : Int).toNat : Nat) : Int) - 1)) && usT Q I.i (0 + mulN (J.i : Int).toNat sz) != 1) = true) (h1 : decide ((I.i : Int) < (m : Int)) = false) : False := by
  have h1 := of_decide_eq_false h1
  have hI := I.hi
  have hIm : I.i = m := by omega
  rw [hIm, hz, mulN1, Int.toNat_natCast, Int.toNat_natCast, Nat.zero_add, wrapI (by omega) (by omega)] at h2
  simp only [Bool.and_eq_true, decide_eq_true_eq, bne_iff_ne] at h2
  exact h2.2 (hu _ (by omega))
theorem sl_end {Q : Nat → Prt} {m : Nat} {I : SlI m} {J : SlJ Q m} (m16 : m ≤ 16) (h1m : 1 ≤ m) (hu : usOk Q m = false) (h2 : decide ((J.i : Int) < (((m : Int).toNat : Nat) : Int)) = false) (h1 : decide ((I.i : Int) < (m : Int)) = false) : False := by
  have h2 := of_decide_eq_false h2
  have : usOk Q m = true := usOk_iff.2 fun k hk => J.hu k (by omega) hk
  rw [this] at hu; cases hu
theorem psolidG_f : FnOk Tryz.prog 32 Tryz.f32 := ⟨Tryz.func32, by kernel_rfl⟩
theorem psolidG_a (n : Nat) (P : Nat → Int) (bad : Bool) (m : Nat) (Q : Nat → Prt) (s : Int) (hS : SolP Q m) (h1m : 1 ≤ m) (hpre : (0 < n ∧ n ≤ 400000000000) ∧ In64 s ∧ usOk Q m = true) : MCalls Tryz.prog 32 ([.own 0 0, .agg [.sl m 16 (partF Q), .int .i64 s]]) [.row [.own 0 0, .os 1 1 0 n, .bool bad], .bts n P] (.tup []) [.row [.own 0 0, .os 2 1 0 (n + (k_solid ++ (tS Q (m - 1) ++ skS s)).size), .bool (tB Q (m - 1) 0 (bad || decide (dp Q (m - 1) > 3)))], .gone, .bts (n + (k_solid ++ (tS Q (m - 1) ++ skS s)).size) (catB n P (k_solid ++ (tS Q (m - 1) ++ skS s)))] := by
  refine mcallsF_of (inl := hasI (P := Tryz.prog) [] [wstr_m, pskin_m, (partC Q m m (part_all hS m (Nat.le_refl m)))]) (base [(depthK Q m ⟨h1m, hS.m16, hS.ord⟩)] [] [wstr_m, pskin_m, (partC Q m m (part_all hS m (Nat.le_refl m)))]) 0 psolidG_f (And.intro (by kernel_rfl) ?_)
  obtain ⟨⟨h1, h2⟩, hs, hu⟩ := hpre
  have hu' := usOk_iff.1 hu
  have m16 := hS.m16
  have ls := sk_sz hs
  have lt := tS_le hS.ord hS.m16 (m - 1) (by omega)
  have lc : tC Q (m - 1) ≤ 65536 := Nat.le_trans (Nat.le_of_succ_le (tC_le hS.ord hS.m16 (m - 1) (by omega))) (Nat.le_trans (Nat.pow_le_pow_right (show 0 < 2 by omega) (show m - 1 + 1 ≤ 16 by omega)) (show 2 ^ 16 ≤ 65536 by decide))
  have ew := wrapI (x := (m : Int) - 1) (by omega) (by omega)
  have em : ((m : Int) - 1).toNat = m - 1 := by omega
  repeat' (first | refine And.intro ?_ ?_ | (with_reducible exact ff_elim) | (with_reducible exact tf_elim) | refine' rho_mk [_] ?_ | refine num_elim ?_ | intro _ | (with_reducible rfl) | ((with_reducible refine lk_t ?_); exact rfl) | ((with_reducible refine pf_t ?_); exact rfl) | refine tell ?_ | exact True.intro | (refine IsT.of ?_; kernel_rfl))
  all_goals (try (refine loop_keep [0, 3, 4, 15, 16] [0, 1, 2] ?_; refine LoopI.mk (SlI m) (fun j => [(17, .int .i64 j.i)]) (fun j => [(6, .nums .i64 m (usT Q j.i))]) (fun j => m - j.i) (⟨0, Nat.zero_le _⟩) (wk_mk [some 6, none, none, some 2] ?_) (fun ⟨i, hi⟩ => ?_)))
  repeat' (first | refine And.intro ?_ ?_ | (with_reducible exact ff_elim) | (with_reducible exact tf_elim) | refine stp_mk [some 6, none, none, some 2] ((⟨i + 1, ?_⟩ : SlI m)) ?_ ?_ | refine view_part ?_ | refine' rho_mk [_] ?_ | refine num_elim ?_ | intro _ | (with_reducible rfl) | ((with_reducible refine lk_t ?_); exact rfl) | ((with_reducible refine pf_t ?_); exact rfl) | refine tell ?_ | exact True.intro | (refine IsT.of ?_; kernel_rfl))
  all_goals (try (refine loop_keep [0, 3, 4, 39, 40] [0, 1, 2, 6] ?_; refine LoopI.mk (SlJ Q m) (fun j => [(41, .int .i64 j.i)]) (fun j => []) (fun j => m - j.i) (⟨0, Nat.zero_le _, fun k hk _ => absurd hk (Nat.not_lt_zero _)⟩) (wk_mk [none, none, some 2, some 6] ?_) (fun ⟨i, hi, hJ⟩ => ?_)))
  repeat' (first | refine And.intro ?_ ?_ | (with_reducible exact ff_elim) | (with_reducible exact tf_elim) | refine stp_mk [none, none, some 2, some 6] ((⟨i + 1, ?_, ?_⟩ : SlJ Q m)) ?_ ?_ | (intro h; exact (sl_dead rfl m16 h1m hu' h (by assumption)).elim) | refine' rho_mk [_] ?_ | refine num_elim ?_ | intro _ | (with_reducible rfl) | ((with_reducible refine lk_t ?_); exact rfl) | ((with_reducible refine pf_t ?_); exact rfl) | refine tell ?_ | exact True.intro | (refine IsT.of ?_; kernel_rfl))
  all_goals (try refine Tell.mk ?_)
  all_goals first | with_reducible rfl | with_reducible assumption | (with_reducible refine gb_t ?_; with_reducible assumption) | (with_reducible refine gb_f ?_; with_reducible assumption) | ((with_reducible refine ks_t ?_); rfl) | ((with_reducible refine okF_t ?_); kernel_rfl) | (show 0 < _; omega) | skip
  all_goals (try dsimp only at *)
  all_goals (try simp only [mulT, Int.toNat_natCast, Int.toNat_natCast, Nat.zero_add, ew, k_solid_def, decide_eq_true_eq, decide_eq_false_iff_not, bne_iff_ne, ne_eq, beq_iff_eq] at *)
  all_goals first | with_reducible rfl | omega | exact Nat.le_refl 16 | exact usT_0 Q _ | (show (8 : Int) * (m : Int) ≤ _; omega) | (show m ≤ m; exact Nat.le_refl _) | skip
  all_goals (try simp only [em] at *)
  all_goals (try simp only [ByteArray.size_append, k_solid_sz] at *)
  all_goals first | with_reducible rfl | omega | exact hu' _ (by assumption) | (have hq := solk1 (i := i) hS.ord (by omega) (by assumption); omega) | (rw [wrapI (by omega) (by omega)]; rfl) | exact us_s0 (by assumption) _ | exact us_s0 (by grind) _ | exact us_s1 (by omega) (by assumption) rfl rfl _ | (rw [ch3 (by rw [k_solid_sz]) rfl]; done) | trace_state
theorem sl_step {Q : Nat → Prt} {m sz : Nat} {I : SlI m} {J : SlJ Q m} (hz : sz = 1) (m16 : m ≤ 16) (h1m : 1 ≤ m) (h2 : (decide ((J.i : Int) < IntKind.i64.wrap ((((m : Int).toNat : Nat) : Int) - 1)) && usT Q I.i (0 + mulN (J.i : Int).toNat sz) != 1) = false) (h1 : decide ((I.i : Int) < (m : Int)) = false) : ∀ k, k < J.i + 1 → k < m - 1 → usT Q m k = 1 := by
  have h1 := of_decide_eq_false h1
  have hI := I.hi
  have hIm : I.i = m := by omega
  rw [hIm, hz, mulN1, Int.toNat_natCast, Int.toNat_natCast, Nat.zero_add, wrapI (by omega) (by omega)] at h2
  intro k hk hj
  by_cases e : k < J.i
  · exact J.hu k e hj
  have e' : k = J.i := by omega
  subst e'
  rw [decide_eq_true (by omega), Bool.true_and, bne_eq_false_iff_eq] at h2
  exact h2
theorem psolidB_f : FnOk Tryz.prog 32 Tryz.f32 := ⟨Tryz.func32, by kernel_rfl⟩
theorem psolidB_a (n : Nat) (P : Nat → Int) (bad : Bool) (m : Nat) (Q : Nat → Prt) (s : Int) (hS : SolP Q m) (h1m : 1 ≤ m) (hpre : (0 < n ∧ n ≤ 400000000000) ∧ usOk Q m = false) : MCalls Tryz.prog 32 ([.own 0 0, .agg [.sl m 16 (partF Q), .int .i64 s]]) [.row [.own 0 0, .os 1 1 0 n, .bool bad], .bts n P] (.tup []) [.row [.own 0 0, .os 1 1 0 n, .bool true], .bts n P] := by
  refine mcallsF_of (inl := hasI (P := Tryz.prog) [] []) (base [] [] []) 0 psolidB_f (And.intro (by kernel_rfl) ?_)
  obtain ⟨⟨h1, h2⟩, hu⟩ := hpre
  have m16 := hS.m16
  have ew := wrapI (x := (m : Int) - 1) (by omega) (by omega)
  have em : ((m : Int) - 1).toNat = m - 1 := by omega
  repeat' (first | refine And.intro ?_ ?_ | (with_reducible exact ff_elim) | (with_reducible exact tf_elim) | refine' rho_mk [] ?_ | refine num_elim ?_ | intro _ | (with_reducible rfl) | ((with_reducible refine lk_t ?_); exact rfl) | ((with_reducible refine pf_t ?_); exact rfl) | refine tell ?_ | exact True.intro | (refine IsT.of ?_; kernel_rfl))
  all_goals (try (refine loop_keep [0, 3, 4, 15, 16] [0, 1, 2] ?_; refine LoopI.mk (SlI m) (fun j => [(17, .int .i64 j.i)]) (fun j => [(6, .nums .i64 m (usT Q j.i))]) (fun j => m - j.i) (⟨0, Nat.zero_le _⟩) (wk_mk [some 6, none, none, some 2] ?_) (fun ⟨i, hi⟩ => ?_)))
  repeat' (first | refine And.intro ?_ ?_ | (with_reducible exact ff_elim) | (with_reducible exact tf_elim) | refine stp_mk [some 6, none, none, some 2] ((⟨i + 1, ?_⟩ : SlI m)) ?_ ?_ | refine view_part ?_ | refine' rho_mk [] ?_ | refine num_elim ?_ | intro _ | (with_reducible rfl) | ((with_reducible refine lk_t ?_); exact rfl) | ((with_reducible refine pf_t ?_); exact rfl) | refine tell ?_ | exact True.intro | (refine IsT.of ?_; kernel_rfl))
  all_goals (try (refine loop_keep [0, 3, 4, 39, 40] [0, 1, 2, 6] ?_; refine LoopI.mk (SlJ Q m) (fun j => [(41, .int .i64 j.i)]) (fun j => []) (fun j => m - j.i) (⟨0, Nat.zero_le _, fun k hk _ => absurd hk (Nat.not_lt_zero _)⟩) (wk_mk [none, none, some 2, some 6] ?_) (fun ⟨i, hi, hJ⟩ => ?_)))
  repeat' (first | refine And.intro ?_ ?_ | (with_reducible exact ff_elim) | (with_reducible exact tf_elim) | refine stp_mk [none, none, some 2, some 6] ((⟨i + 1, ?_, ?_⟩ : SlJ Q m)) ?_ ?_ | (intro h; exact (sl_end m16 h1m hu h (by assumption)).elim) | refine' rho_mk [] ?_ | refine num_elim ?_ | intro _ | (with_reducible rfl) | ((with_reducible refine lk_t ?_); exact rfl) | ((with_reducible refine pf_t ?_); exact rfl) | refine tell ?_ | exact True.intro | (refine IsT.of ?_; kernel_rfl))
  all_goals (try refine Tell.mk ?_)
  all_goals first | exact sl_step rfl m16 h1m (by assumption) (by assumption) _ (by assumption) (by assumption) | skip
  all_goals first | with_reducible rfl | with_reducible assumption | (with_reducible refine gb_t ?_; with_reducible assumption) | (with_reducible refine gb_f ?_; with_reducible assumption) | ((with_reducible refine ks_t ?_); rfl) | ((with_reducible refine okF_t ?_); kernel_rfl) | (show 0 < _; omega) | skip
  all_goals (try dsimp only at *)
  all_goals (try simp only [mulT, Int.toNat_natCast, Int.toNat_natCast, Nat.zero_add, ew, decide_eq_true_eq, decide_eq_false_iff_not, bne_iff_ne, ne_eq, beq_iff_eq] at *)
  all_goals first | with_reducible rfl | omega | exact Nat.le_refl 16 | exact usT_0 Q _ | (show (8 : Int) * (m : Int) ≤ _; omega) | (show m ≤ m; exact Nat.le_refl _) | skip
  all_goals (try simp only [em] at *)
  all_goals (try simp only [ByteArray.size_append] at *)
  all_goals first | with_reducible rfl | omega | (have hq := solk1 (i := i) hS.ord (by omega) (by assumption); omega) | (rw [wrapI (by omega) (by omega)]; rfl) | exact us_s0 (by assumption) _ | exact us_s0 (by grind) _ | exact us_s1 (by omega) (by assumption) rfl rfl _ | trace_state
end Go.Proofs.YtphdjmaebdmdmaaGreatDoor
/- Scenes as text: a solid in one contract; bytes of a text; lists of texts. -/
namespace Go.Proofs.YtphdjmaebdmdmaaGreatDoor
open Go.RowKit Ev
set_option linter.unusedVariables false
set_option linter.unusedSimpArgs false
set_option maxRecDepth 20000
set_option maxHeartbeats 8000000

/-- Sound parts. -/
theorem solP_of {n : Nat} {P : Nat → Prt} {s : Int} (h : solidE n P s = 0) : SolP P n ∧ 1 ≤ n ∧ 0 ≤ s ∧ s < 16 := by
  have h1 : 1 ≤ (n : Int) ∧ (n : Int) ≤ 16 := by
    by_cases c : (n : Int) < 1 ∨ 16 < (n : Int)
    · rw [solidE_5 c] at h; cases h
    · omega
  have h2 : 0 ≤ s ∧ s < 16 := by
    by_cases c : s < 0 ∨ 16 ≤ s
    · rw [solidE_4 h1 c] at h; cases h
    · omega
  rw [solidE_n h1 h2] at h
  have hp : ∀ i, i < n → partE P i = 0 := fun i hi => firstE_all h hi
  have hq : ∀ i, i < n → ((P i).op = 0 ∧ ((P i).p.k = 1 ∨ (P i).p.k = 2 ∨ (P i).p.k = 5)) ∨ (((P i).op = 1 ∨ (P i).op = 2 ∨ (P i).op = 3) ∧ (0 ≤ (P i).l ∧ (P i).l < i) ∧ (0 ≤ (P i).m ∧ (P i).m < i)) := fun i hi => by
    have := hp i hi
    unfold partE at this
    split at this
    · rename_i e
      split at this
      · split at this
        · rename_i k; exact .inl ⟨e, k⟩
        · cases this
      · rename_i c; exact absurd this c
    · split at this
      · rename_i o
        split at this
        · cases this
        · rename_i q; exact .inr ⟨o, by omega⟩
      · cases this
  refine ⟨⟨by omega, fun i hi => ?_, fun i hi => ?_, fun i hi e => ?_⟩, by omega, h2⟩
  · rcases hq i hi with ⟨a, _⟩ | ⟨_, b⟩
    · exact .inl a
    · exact .inr b
  · rcases hq i hi with ⟨a, _⟩ | ⟨a, _⟩ <;> omega
  · rcases hq i hi with ⟨_, a⟩ | ⟨a, _⟩ <;> omega
def psolid_rows (n : Nat) (P : Nat → Int) (bad : Bool) : List OB := [.row [.own 0 0, .os 1 1 0 n, .bool bad], .bts n P]
def psolid_rows2 (n : Nat) (P : Nat → Int) (bad : Bool) (m : Nat) (Q : Nat → Prt) (s : Int) : List OB := [.row [.own 0 0, .os 2 1 0 (n + (slS Q m s).size), .bool (slB Q m bad)], .gone, .bts (n + (slS Q m s).size) (catB n P (slS Q m s))]
def psolid_p (n m : Nat) (Q : Nat → Prt) (s : Int) : Prop := (0 < n ∧ n ≤ 400000000000) ∧ solidE m Q s = 0
theorem psolid_a (n : Nat) (P : Nat → Int) (bad : Bool) (m : Nat) (Q : Nat → Prt) (s : Int) (h : psolid_p n m Q s) : MCalls Tryz.prog 32 [.own 0 0, .agg [.sl m 16 (partF Q), .int .i64 s]] (psolid_rows n P bad) (.tup []) (psolid_rows2 n P bad m Q s) := by
  obtain ⟨hn, he⟩ := h
  obtain ⟨hS, h1m, hs⟩ := solP_of he
  have i64 : In64 s := in64_iff.2 (by omega)
  unfold psolid_rows psolid_rows2
  cases q : usOk Q m with
  | true => rw [slS_1 q, slB_1 q]; exact psolidG_a n P bad m Q s hS h1m ⟨hn, i64, q⟩
  | false =>
    rw [slS_0 q, slB_0 q]
    exact relabel (n := n) rfl hn.1 (fun j hj => by show (if j < n then P j else _) = P j; rw [if_pos hj]) (psolidB_a n P bad m Q s hS h1m ⟨hn, q⟩)
def psolid_m : MCon Tryz.prog := ⟨32, fun args own => match args with | [.own k0_ 0, .agg [.sl m 16 g, .int .i64 s]] => (match own k0_ with | .row [.own k0_ 0, .os k1_ 1 0 n, .bool bad] => (match own k1_ with | .bts n_ P => .ok [k0_, k1_] [.own 0 0, .agg [.sl m 16 (partF (unPrt g)), .int .i64 s]] (psolid_rows n P bad) (some (n_ = n ∧ psolid_p n m (unPrt g) s)) (.tup []) (psolid_rows2 n P bad m (unPrt g) s) | _ => .no) | _ => .no) | _ => .no, by
  intro args own ks cargs rows p r rows2 h hp
  split at h
  · split at h
    · split at h
      · cases h; obtain ⟨rfl, hq⟩ := hp; exact psolid_a _ _ _ _ _ _ hq
      · cases h
    · cases h
  · cases h⟩
/-- The bytes of a text, and of one behind it. -/
theorem catB_by {k : Nat} {t s : ByteArray} (h : k = t.size) : catB k (byteAt t) s = byteAt (t ++ s) := by
  subst h
  funext j
  show (if j < t.size then byteAt t j else byteAt s (j - t.size)) = byteAt (t ++ s) j
  unfold byteAt
  rw [ByteArray.data_append]
  by_cases c : j < t.size
  · rw [if_pos c, Array.getElem?_append_left (by show j < t.size; omega)]
  · rw [if_neg c, Array.getElem?_append_right (by show t.size ≤ j; omega)]
    rfl
theorem byteAt_rng (t : ByteArray) (j : Nat) : 0 ≤ byteAt t j ∧ byteAt t j < 256 := by
  unfold byteAt
  have := (t.data[j]?.getD 0).toNat_lt
  omega
theorem str_by (t : ByteArray) : (⟨(bysL t.size (byteAt t)).toArray⟩ : ByteArray) = t := by
  cases t with
  | mk a =>
    congr 1
    apply Array.ext'
    rw [List.toList_toArray]
    unfold bysL
    apply List.ext_getElem
    · simp; rfl
    · intro i h1 h2
      simp only [List.getElem_map, List.getElem_range]
      unfold byteAt
      have h2' : i < a.size := by simpa using h2
      simp [h2']
def catN (f : Nat → ByteArray) : Nat → ByteArray
  | 0 => ⟨#[]⟩
  | n + 1 => catN f n ++ f n
def anyN (f : Nat → Bool) : Nat → Bool
  | 0 => false
  | n + 1 => anyN f n || f n
theorem catN_0 (f : Nat → ByteArray) : catN f 0 = ⟨#[]⟩ := rfl
theorem catN_s (f : Nat → ByteArray) (n : Nat) : catN f (n + 1) = catN f n ++ f n := rfl
theorem anyN_0 (f : Nat → Bool) : anyN f 0 = false := rfl
theorem anyN_s (f : Nat → Bool) (n : Nat) : anyN f (n + 1) = (anyN f n || f n) := rfl
theorem catN_sz {f : Nat → ByteArray} {B : Nat} (n : Nat) (h : ∀ i, i < n → (f i).size ≤ B) : (catN f n).size ≤ B * n := by
  induction n with
  | zero => exact Nat.le_refl _
  | succ n ih =>
    have := ih (fun i hi => h i (by omega))
    have := h n (by omega)
    rw [catN_s, ByteArray.size_append, Nat.mul_succ]; omega
theorem anyN_iff {f : Nat → Bool} {n : Nat} : anyN f n = false ↔ ∀ i, i < n → f i = false := by
  induction n with
  | zero => exact ⟨fun _ i hi => absurd hi (Nat.not_lt_zero _), fun _ => rfl⟩
  | succ n ih =>
    rw [anyN_s, Bool.or_eq_false_iff, ih]
    refine ⟨fun ⟨a, b⟩ i hi => ?_, fun a => ⟨fun i hi => a i (by omega), a n (by omega)⟩⟩
    by_cases e : i = n
    · rw [e]; exact b
    · exact a i (by omega)
theorem catN_eq {f g : Nat → ByteArray} {n : Nat} (h : ∀ i, i < n → f i = g i) : catN f n = catN g n := by
  induction n with
  | zero => rfl
  | succ n ih => rw [catN_s, catN_s, ih (fun i hi => h i (by omega)), h n (by omega)]
attribute [irreducible] catN anyN
end Go.Proofs.YtphdjmaebdmdmaaGreatDoor
/- Scenes as text: numbers, as the program and as the document tell them (plain). -/
namespace Go.Proofs.YtphdjmaebdmdmaaGreatDoor
open Go.RowKit Ev Flt Ieee
set_option linter.unusedVariables false
set_option linter.unusedSimpArgs false
set_option maxRecDepth 20000
set_option maxHeartbeats 4000000

/-- The quotient of what is the other way about. -/
theorem quo_negk {x x' y : Nat} (hx : Flt.Fin x) (hx' : Flt.Fin x') (hy : Flt.Fin y) (h : V x' = -V x) (hz : V y ≠ 0) : isN (F .quo x y) = false ∧ isN (F .quo x' y) = false ∧ key (F .quo x' y) = -key (F .quo x y) := by
  obtain ⟨s, m, i, ex⟩ := hx
  obtain ⟨s', m', i', ex'⟩ := hx'
  obtain ⟨t, n, j, ey⟩ := hy
  obtain ⟨_, i0, _⟩ := read_form ex
  obtain ⟨_, i0', _⟩ := read_form ex'
  obtain ⟨_, j0, _⟩ := read_form ey
  have hn : n ≠ 0 := by
    rintro rfl
    exact hz (by rw [V_of ey, signed_0])
  obtain ⟨τ, r1, n1, k1⟩ := quo_key ex ey hn
  obtain ⟨τ', r2, n2, k2⟩ := quo_key ex' ey hn
  rw [V_sg ex, V_sg ex'] at h
  have hA : m * 2 ^ (i + 1074).toNat = m' * 2 ^ (i' + 1074).toNat ∧ (m * 2 ^ (i + 1074).toNat ≠ 0 → s' = !s) := by
    generalize m * 2 ^ (i + 1074).toNat = A at h ⊢
    generalize m' * 2 ^ (i' + 1074).toNat = A' at h ⊢
    unfold sg at h
    cases s <;> cases s' <;> simp only [if_true, if_false, Bool.false_eq_true] at h <;> refine ⟨by omega, fun hne => ?_⟩ <;> first | rfl | (exfalso; omega)
  have d1 : 0 < n * 2 ^ (j - i - 1074).toNat := Nat.mul_pos (Nat.pos_of_ne_zero hn) (Nat.two_pow_pos _)
  have d2 : 0 < n * 2 ^ (j - i' - 1074).toNat := Nat.mul_pos (Nat.pos_of_ne_zero hn) (Nat.two_pow_pos _)
  have er := Nat.le_antisymm (rung_mono (I := II) d1 d2 (ratio_le i0 i0' j0 (Nat.le_of_eq hA.1)) r1 r2) (rung_mono (I := II) d2 d1 (ratio_le i0' i0 j0 (Nat.le_of_eq hA.1.symm)) r2 r1)
  refine ⟨n1, n2, ?_⟩
  rw [k1, k2, ← er]
  by_cases h0 : m = 0
  · subst h0
    have r1' := r1
    rw [Nat.zero_mul] at r1'
    have z := rng_0 (by decide) d1 r1'
    rw [Nat.zero_mul, z]
    unfold sg
    split <;> split <;> rfl
  · have hs := hA.2 (by
      have := Nat.mul_pos (Nat.pos_of_ne_zero h0) (Nat.two_pow_pos (i + 1074).toNat)
      omega)
    rw [hs, Bool.not_xor, sg_not]
theorem V1000 : V 4652007308841189376 ≠ 0 := fun e => by
  have v : val 4652007308841189376 = 1000 := by rw [iv_1000.eq]; rfl
  have : val 4652007308841189376 = 0 := by unfold val; rw [e, Rat.intCast_zero, Rat.div_def, Rat.zero_mul]
  rw [v] at this; exact absurd this (by decide)
theorem mil_neg {n : Int} (h : -9007199254740992 < n ∧ n < 9007199254740992) : isN (milF n) = false ∧ isN (milF (-n)) = false ∧ key (milF (-n)) = -key (milF n) := by
  have a := iv_near h
  have b := iv_near (z := -n) (by omega)
  obtain ⟨κ, hκ, hU⟩ := U_nat
  exact quo_negk a.fin b.fin iv_1000.fin (by rw [a.V hU, b.V hU, Int.neg_mul]) V1000
theorem mil_mono {n m : Int} (h : -9007199254740992 < n ∧ n < 9007199254740992) (h' : -9007199254740992 < m ∧ m < 9007199254740992) (hnm : n ≤ m) : key (milF n) ≤ key (milF m) := by
  have a := iv_near h
  have b := iv_near h'
  obtain ⟨κ, hκ, hU⟩ := U_nat
  have hp : (0 : Int) < ((2 ^ κ : Nat) : Int) := by have := Nat.two_pow_pos κ; omega
  have hv : V (cn (FloatKind.f64.nearest n)) ≤ V (cn (FloatKind.f64.nearest m)) := by
    rw [a.V hU, b.V hU]; exact Int.mul_le_mul_of_nonneg_right hnm (Int.le_of_lt hp)
  have hk := V_key a.fin b.fin
  have hy : 0 < V 4652007308841189376 := by
    rw [iv_1000.V hU]; omega
  exact (quo_mono a.fin b.fin iv_1000.fin (by omega) V1000).2.2.1 hy
theorem mil_0 : milF 0 = 0 := by decide +kernel
theorem mil_top : milF 1000000 = 4652007308841189376 := by decide +kernel
theorem mil_low : milF (-1000000) = 13875379345695965184 := by decide +kernel
/-- Cut off. -/
theorem trunc_at {x : Nat} {z : Int} (f : Flt.Fin x) (hz : 0 ≤ z) (h1 : (z : Rat) ≤ val x) (h2 : val x < ((z + 1 : Int) : Rat)) : (FloatKind.f64.decode x).toInt .zero = some z := by
  obtain ⟨s, m, i, ex⟩ := f
  obtain ⟨_, i0, _⟩ := read_form ex
  obtain ⟨κ, hκ, hU⟩ := U_nat
  have b1 : z * (2 ^ κ : Nat) ≤ V x := of_le_val hU h1
  have b2 : V x < (z + 1) * (2 ^ κ : Nat) := by
    rcases Int.lt_or_le (V x) ((z + 1) * (2 ^ κ : Nat)) with q | q
    · exact q
    · exact absurd (le_val_of hU q) (Rat.not_le.2 h2)
  have v := V_sg ex
  have hp := Nat.two_pow_pos (-i).toNat
  have hk := Nat.two_pow_pos κ
  have e : m * 2 ^ (i + 1074).toNat * 2 ^ (-i).toNat = m * 2 ^ i.toNat * 2 ^ κ := by
    rw [Nat.mul_assoc, Nat.mul_assoc, ← Nat.pow_add, ← Nat.pow_add, show (i + 1074).toNat + (-i).toNat = i.toNat + κ by omega]
  have c1 : (m * 2 ^ i.toNat / 2 ^ (-i).toNat) * 2 ^ κ ≤ m * 2 ^ (i + 1074).toNat := by
    refine Nat.le_of_mul_le_mul_right ?_ hp
    rw [e, Nat.mul_right_comm]
    exact Nat.mul_le_mul_right _ (Nat.div_mul_le_self _ _)
  have c2 : m * 2 ^ (i + 1074).toNat < (m * 2 ^ i.toNat / 2 ^ (-i).toNat + 1) * 2 ^ κ := by
    refine Nat.lt_of_mul_lt_mul_right (a := 2 ^ (-i).toNat) ?_
    have q : m * 2 ^ i.toNat < (m * 2 ^ i.toNat / 2 ^ (-i).toNat + 1) * 2 ^ (-i).toNat := by rw [Nat.mul_comm (_ + 1)]; exact Nat.lt_mul_div_succ _ hp
    rw [e, Nat.mul_right_comm (_ / _ + 1)]
    exact Nat.mul_lt_mul_of_pos_right q hk
  show Datum.toInt .zero (double.read x) = _
  rw [ex]
  show some (signed s (Toward.zero.cut s (m <<< i.toNat) (-i).toNat) 0) = _
  rw [cut_zeroT, Nat.shiftLeft_eq, signedT]
  generalize m * 2 ^ i.toNat / 2 ^ (-i).toNat = c at *
  generalize m * 2 ^ (i + 1074).toNat = A at *
  generalize (2 ^ κ : Nat) = K at *
  have c1' : (c : Int) * (K : Int) ≤ (A : Int) := by rw [← Int.natCast_mul]; exact Int.ofNat_le.2 c1
  have c2' : (A : Int) < ((c : Int) + 1) * (K : Int) := by
    have := Int.ofNat_lt.2 c2
    rw [Int.natCast_mul, Int.natCast_add] at this
    exact this
  have hK : (0 : Int) < (K : Int) := by omega
  have hzK : 0 ≤ z * (K : Int) := Int.mul_nonneg hz (Int.le_of_lt hK)
  unfold sg at v
  congr 1
  cases s
  · rw [if_neg (by decide)] at v ⊢
    rw [v] at b1 b2
    have g1 : (c : Int) < z + 1 := Int.lt_of_mul_lt_mul_right (Int.lt_of_le_of_lt c1' b2) (Int.le_of_lt hK)
    have g2 : z < (c : Int) + 1 := Int.lt_of_mul_lt_mul_right (Int.lt_of_le_of_lt b1 c2') (Int.le_of_lt hK)
    omega
  · rw [if_pos rfl] at v ⊢
    have hA : (A : Int) = 0 := by omega
    have g1 : (c : Int) < 1 := Int.lt_of_mul_lt_mul_right (a := (K : Int)) (by rw [Int.one_mul]; omega) (Int.le_of_lt hK)
    have g2 : z < 1 := Int.lt_of_mul_lt_mul_right (a := (K : Int)) (by rw [Int.one_mul]; omega) (Int.le_of_lt hK)
    omega
theorem h0_small : 0 ≤ h0 ∧ h0 ≤ 1 / 1000000000 := by
  refine ⟨h0_nn, ?_⟩
  have hU : (1073741824 : Rat) ≤ U := by
    obtain ⟨κ, hκ, hU⟩ := U_nat
    rw [hU]
    have : (1073741824 : Nat) ≤ 2 ^ κ := by
      rw [show (1073741824 : Nat) = 2 ^ 30 by decide]
      exact Nat.pow_le_pow_right (by decide) (by omega)
    exact_mod_cast this
  have e := h0_U
  have p := h0_nn
  have q : h0 * 1073741824 ≤ h0 * U := Rat.mul_le_mul_of_nonneg_left hU p
  rw [e] at q
  grind
theorem half_val : val 4602678819172646912 = 1 / 2 := by
  obtain ⟨κ, hκ, hU⟩ := U_nat
  have e : double.read 4602678819172646912 = .number false 4503599627370496 (-53) := by decide +kernel
  have v := V_sg e
  have w : 2 * V 4602678819172646912 = ((2 ^ κ : Nat) : Int) := by
    rw [v]
    unfold sg
    rw [if_neg (by decide), show ((-53 : Int) + 1074).toNat = κ - 53 by omega]
    have : 2 * (4503599627370496 * 2 ^ (κ - 53)) = 2 ^ κ := by
      rw [← Nat.mul_assoc, show 2 * 4503599627370496 = 2 ^ 53 by decide, ← Nat.pow_add, show 53 + (κ - 53) = κ by omega]
    exact_mod_cast this
  have hu := val_U 4602678819172646912
  have hp := U_pos
  have q : (2 : Rat) * (V 4602678819172646912 : Rat) = U := by
    rw [hU]; exact_mod_cast w
  have q2 : (2 * val 4602678819172646912) * U = 1 * U := by rw [Rat.mul_assoc, hu, q, Rat.one_mul]
  have q3 : 2 * val 4602678819172646912 = 1 := Rat.le_antisymm (Rat.le_of_mul_le_mul_right (c := U) (by rw [q2]; exact Rat.le_refl) hp) (Rat.le_of_mul_le_mul_right (c := U) (by rw [q2]; exact Rat.le_refl) hp)
  clear hκ hU w v e q q2 hu hp
  grind
/-- A number times a thousand, and a half. -/
theorem up_val {a : Nat} {e : Rat} (f : Flt.Fin a) (h : Nr (val a) e (1 / 1000000)) (hb : Bd e 1001) : Flt.Fin (upF a) ∧ Nr (val (upF a)) (e * 1000 + 1 / 2) (1 / 4) := by
  have k : val 4652007308841189376 = 1000 := by rw [iv_1000.eq]; rfl
  obtain ⟨z0, z1⟩ := h0_small
  have hu : u = 1 / 9007199254740992 := rfl
  have b1 : Bd (val a * val 4652007308841189376) 1002000 := by
    rw [k]; unfold Nr at h; unfold Bd at *; grind
  obtain ⟨f1, e1⟩ := mul_err f iv_1000.fin b1 (by decide)
  rw [k] at e1
  have fh := halfQ.fin
  have b2 : Bd (val (F .mul a 4652007308841189376) + val 4602678819172646912) 1002001 := by
    rw [half_val]; unfold Nr at h e1; unfold Bd at *; rw [k] at b1; rw [hu] at e1; grind
  obtain ⟨f2, e2⟩ := add_err f1 fh b2 (by decide)
  rw [half_val] at e2
  refine ⟨f2, ?_⟩
  show Nr (val (F .add (F .mul a 4652007308841189376) 4602678819172646912)) _ _
  unfold Nr at *
  rw [hu] at e1 e2
  grind
/-- What is above nought comes to nought or more. -/
theorem tz_nn {x : Nat} (f : Flt.Fin x) (h : 0 ≤ V x) : ∃ z, (FloatKind.f64.decode x).toInt .zero = some z ∧ 0 ≤ z := by
  obtain ⟨κ, hκ, hU⟩ := U_nat
  have hp : (0 : Int) < ((2 ^ κ : Nat) : Int) := by have := Nat.two_pow_pos κ; omega
  have hz := Int.ediv_nonneg h (Int.le_of_lt hp)
  refine ⟨V x / ((2 ^ κ : Nat) : Int), trunc_at f hz (le_val_of hU (Int.ediv_mul_le _ (by omega))) ?_, hz⟩
  rw [← Rat.not_le]
  intro c
  have := of_le_val hU c
  have := Int.lt_ediv_add_one_mul_self (V x) hp
  omega
theorem nn_val {x : Nat} (h : 0 ≤ val x) : 0 ≤ V x := by
  obtain ⟨κ, hκ, hU⟩ := U_nat
  have := of_le_val (M := 0) hU (by rw [Rat.intCast_zero]; exact h)
  rwa [Int.zero_mul] at this
theorem V_negk {x y : Nat} (hx : Flt.Fin x) (hy : Flt.Fin y) (h : key y = -key x) : V y = -V x := by
  have a := V_absK hx
  have b := V_absK hy
  rw [h, Int.natAbs_neg, ← a] at b
  have p := V_nonneg hx
  have q := V_nonneg hy
  have p' := V_pos hx
  have q' := V_pos hy
  rw [h] at q q'
  omega
theorem val_negk {x y : Nat} (hx : Flt.Fin x) (hy : Flt.Fin y) (h : key y = -key x) : val y = -val x := by
  unfold val
  rw [V_negk hx hy h, Rat.intCast_neg, Rat.div_def, Rat.div_def, Rat.neg_mul]
theorem rg_of {x : Nat} (hx : isN x = false) (h1 : key 13875379345695965184 ≤ key x) (h2 : key x ≤ key 4652007308841189376) : rgB x = true := by
  unfold rgB
  rw [fgt_key hx (by decide +kernel), feq_key hx (by decide +kernel), flt_key hx (by decide +kernel), feq_key hx (by decide +kernel)]
  simp only [Bool.and_eq_true, Bool.or_eq_true, decide_eq_true_eq]
  omega
theorem rg_val {x : Nat} (h : rgB x = true) : Flt.Fin x ∧ Flt.Fin (Fneg x) ∧ val (Fneg x) = -val x ∧ Bd (val x) 1000 := by
  obtain ⟨hx, h1, h2⟩ := rg_num h
  obtain ⟨g1, g2⟩ := rg_near h
  have f1 := (near_Q g1).fin
  have f2 := (near_Q g2).fin
  have hv := val_negk f1 f2 (key_Fneg hx).2
  refine ⟨f1, f2, hv, ?_⟩
  have k1 : Flt.Fin 4652007308841189376 := iv_1000.fin
  have k2 : Flt.Fin 13875379345695965184 := ⟨true, 8796093022208000, -43, by decide +kernel⟩
  have a1 := V_key k2 f1
  have a2 := V_key f1 k1
  have e1 : val 4652007308841189376 = 1000 := by rw [iv_1000.eq]; rfl
  have e2 : val 13875379345695965184 = -val 4652007308841189376 := val_negk k1 k2 (by decide +kernel)
  have l1 := val_le (x := 13875379345695965184) (y := x) (by omega)
  have l2 := val_le (x := x) (y := 4652007308841189376) (by omega)
  unfold Bd
  rw [e1] at l2 e2
  rw [e2] at l1
  exact ⟨l1, l2⟩
/-- The document's number of thousandths is not below nought. -/
theorem tz_pos {x : Nat} (h : rgB x = true) : (flt x 0 = false → 0 ≤ tzF (upF x)) ∧ (flt x 0 = true → 0 ≤ tzF (upF (Fneg x))) := by
  obtain ⟨f1, f2, hv, hb⟩ := rg_val h
  have hn : ∀ {a : Nat}, Flt.Fin a → 0 ≤ val a → Bd (val a) 1000 → 0 ≤ tzF (upF a) := fun {a} fa ha hb => by
    obtain ⟨f, e⟩ := up_val (e := val a) fa (by unfold Nr; grind) (by unfold Bd at *; grind)
    obtain ⟨z, hz, h0⟩ := tz_nn f (nn_val (by unfold Nr at e; grind))
    unfold tzF
    rw [hz]; exact h0
  rw [flt_V f1 Fin_0, V_0]
  refine ⟨fun c => hn f1 (val_pos_U (by simpa using c)) hb, fun c => hn f2 ?_ (by unfold Bd at *; grind)⟩
  have := V_negk f1 f2 (key_Fneg (rg_num h).1).2
  exact val_pos_U (by have : V x < 0 := by simpa using c
                      omega)
/-- A whole number of thousandths up to a million is told. -/
theorem mil_val {n : Int} (h : -1000000 ≤ n ∧ n ≤ 1000000) : rgB (milF n) = true ∧ Flt.Fin (milF n) ∧ Nr (val (milF n)) ((n : Rat) / 1000) (1 / 1000000) ∧ Bd ((n : Rat) / 1000) 1000 := by
  have a := iv_near (z := n) (by omega)
  have k : val 4652007308841189376 = 1000 := by rw [iv_1000.eq]; rfl
  obtain ⟨z0, z1⟩ := h0_small
  have hu : u = 1 / 9007199254740992 := rfl
  have l1 : (n : Rat) ≤ 1000000 := by have := Rat.intCast_le_intCast.2 h.2; exact this
  have l2 : -1000000 ≤ (n : Rat) := by have := Rat.intCast_le_intCast.2 h.1; rw [Rat.intCast_neg] at this; exact this
  have hb : Bd ((n : Rat) / 1000) 1000 := by unfold Bd; grind
  obtain ⟨f, e⟩ := quo_err (x := cn (FloatKind.f64.nearest n)) a.fin iv_1000.fin V1000 (e := (n : Rat) / 1000) (by rw [k, a.eq]; grind) hb (by decide)
  refine ⟨?_, f, ?_, hb⟩
  · have m1 := mil_mono (n := n) (m := 1000000) (by omega) (by omega) h.2
    have m2 := mil_mono (n := -1000000) (m := n) (by omega) (by omega) h.1
    rw [mil_top] at m1
    rw [mil_low] at m2
    exact rg_of f.notN m2 m1
  · show Nr (val (F .quo (cn (FloatKind.f64.nearest n)) 4652007308841189376)) _ _
    unfold Nr at *
    rw [hu] at e
    grind
theorem mil_back {n : Int} (h : -1000000 ≤ n ∧ n ≤ 1000000) : tnI (milF n) = n := by
  obtain ⟨hr, f, e, hb⟩ := mil_val h
  have at1 : ∀ {a : Nat} {k : Int}, 0 ≤ k → Flt.Fin a → Nr (val a) ((k : Rat) / 1000) (1 / 1000000) → Bd ((k : Rat) / 1000) 1000 → tzF (upF a) = k := fun {a k} hk fa ea hb => by
    obtain ⟨f2, e2⟩ := up_val (e := (k : Rat) / 1000) fa ea (by unfold Bd at *; grind)
    have e3 : (k : Rat) / 1000 * 1000 = k := by grind
    rw [e3] at e2
    unfold tzF
    rw [trunc_at f2 hk (by unfold Nr at e2; grind) (by rw [Rat.intCast_add]; unfold Nr at e2; grind)]
    rfl
  obtain ⟨f1, f2, hv, hb'⟩ := rg_val hr
  unfold tnI
  rw [flt_V f1 Fin_0, V_0]
  by_cases c : V (milF n) < 0
  · rw [if_pos (by simpa using c)]
    have hn : n ≤ 0 := by
      rcases Int.lt_or_le 0 n with q | q
      · exfalso
        have := mil_mono (n := 0) (m := n) (by omega) (by omega) (by omega)
        rw [mil_0, key_0] at this
        have := V_nonneg f1
        omega
      · exact q
    rw [at1 (k := -n) (by omega) f2 (by rw [hv, Rat.intCast_neg]; unfold Nr at *; grind) (by rw [Rat.intCast_neg]; unfold Bd at *; grind)]
    omega
  · rw [if_neg (by simpa using c)]
    by_cases hn : 0 ≤ n
    · exact at1 hn f1 e hb
    · exfalso
      have h1 : (n : Rat) ≤ -1 := by have := Rat.intCast_le_intCast.2 (show n ≤ -1 by omega); rw [Rat.intCast_neg] at this; exact this
      have := val_pos_U (x := milF n) (by omega)
      unfold Nr at e
      grind
theorem mil_told {n : Int} (h : -1000000 ≤ n ∧ n ≤ 1000000) : thB (milF n) = true := by
  obtain ⟨hr, f, _, _⟩ := mil_val h
  unfold thB
  rw [hr, mil_back h, feq_refl f.notN]
  rfl
/-- The document's way: the sign, then what is left. -/
def abF (x : Nat) : Nat := if flt x 0 = true then Fneg x else x
def tdB (x : Nat) : Bool := rgB x && feq (milF (tzF (upF (abF x)))) (abF x)
theorem td_th {x : Nat} : tdB x = thB x ∧ (thB x = true → (flt x 0 = true → tnI x < 0) ∧ (flt x 0 = false → 0 ≤ tnI x) ∧ mxF (tnI x) = tzF (upF (abF x))) := by
  unfold tdB thB
  cases hr : rgB x with
  | false => exact ⟨rfl, fun h => (by cases h)⟩
  | true =>
    rw [Bool.true_and, Bool.true_and]
    obtain ⟨p1, p2⟩ := tz_pos hr
    obtain ⟨hx, h1, h2⟩ := rg_num hr
    obtain ⟨kx, ky⟩ := key_Fneg hx
    have bd := tn_bd hr
    cases hs : flt x 0 with
    | false =>
      have e : abF x = x := by unfold abF; rw [if_neg (by rw [hs]; decide)]
      have q := p1 hs
      rw [e, ← tn_pos hs] at *
      refine ⟨rfl, fun _ => ⟨fun c => (by cases c), fun _ => q, ?_⟩⟩
      unfold mxF; rw [if_neg (by omega)]
    | true =>
      have e : abF x = Fneg x := by unfold abF; rw [if_pos hs]
      have q := p2 hs
      have et : tnI x = -tzF (upF (Fneg x)) := by unfold tnI; rw [if_pos hs]
      rw [e]
      generalize tzF (upF (Fneg x)) = z at *
      obtain ⟨n1, n2, n3⟩ := mil_neg (n := z) (by omega)
      rw [et] at *
      have e1 : feq (milF z) (Fneg x) = feq (milF (-z)) x := by
        rw [feq_key n1 kx, feq_key n2 hx, ky, n3]
        exact decide_eq_decide.2 (by omega)
      refine ⟨e1, fun ht => ?_⟩
      have hz : z ≠ 0 := fun hz => by
        rw [hz] at ht
        rw [show -(0 : Int) = 0 from rfl, mil_0, feq_key (by decide +kernel) hx, key_0] at ht
        rw [flt_key hx (by decide +kernel), key_0] at hs
        simp only [decide_eq_true_eq] at ht hs
        omega
      refine ⟨fun _ => by omega, fun c => (by cases c), ?_⟩
      unfold mxF; split <;> omega
/-- Three digits, without the noughts at their end. -/
def dgt (k : Int) : UInt8 := UInt8.ofNat (48 + k.toNat)
theorem dg_ne {k : Int} (h : 0 ≤ k ∧ k < 10) : dgt k ≠ 46 ∧ (dgt k == 48) = decide (k = 0) := by
  obtain ⟨n, rfl⟩ : ∃ n : Nat, k = n := ⟨k.toNat, by omega⟩
  have : n = 0 ∨ n = 1 ∨ n = 2 ∨ n = 3 ∨ n = 4 ∨ n = 5 ∨ n = 6 ∨ n = 7 ∨ n = 8 ∨ n = 9 := by omega
  rcases this with e | e | e | e | e | e | e | e | e | e <;> subst e <;> decide
theorem pad3 {d : Int} (h : 0 ≤ d ∧ d < 1000) : Lib.repeatL [48] (3 - ((bz (itL d)).size : Int)).toNat ++ itL d = [dgt (d / 100), dgt (d / 10 % 10), dgt (d % 10)] := by
  obtain ⟨n, rfl⟩ : ∃ n : Nat, d = n := ⟨d.toNat, by omega⟩
  have e : itL (n : Int) = decM n := by
    unfold itL Lib.itoa
    rw [if_neg (by omega)]
    exact decM_lib (by omega)
  rw [bz_size, e]
  unfold decM dgt
  by_cases a : n < 10
  · rw [if_pos a, show ((n : Int) / 100).toNat = 0 by omega, show ((n : Int) / 10 % 10).toNat = 0 by omega, show ((n : Int) % 10).toNat = n by omega]
    rfl
  · rw [if_neg a]
    by_cases b : n < 100
    · rw [if_pos b, show ((n : Int) / 100).toNat = 0 by omega, show ((n : Int) / 10 % 10).toNat = n / 10 by omega, show ((n : Int) % 10).toNat = n % 10 by omega]
      rfl
    · rw [if_neg b, show ((n : Int) / 100).toNat = n / 100 by omega, show ((n : Int) / 10 % 10).toNat = n / 10 % 10 by omega, show ((n : Int) % 10).toNat = n % 10 by omega]
      rfl
def tail3 (d : Int) : List UInt8 := if d = 0 then [] else if d % 100 = 0 then [46, dgt (d / 100)] else if d % 10 = 0 then [46, dgt (d / 100), dgt (d / 10 % 10)] else [46, dgt (d / 100), dgt (d / 10 % 10), dgt (d % 10)]
theorem trim3 (X : List UInt8) {a b c : UInt8} : Lib.trimRightB (X ++ [46, a, b, c]) 48 = X ++ (if c = 48 then (if b = 48 then (if a = 48 then [46] else [46, a]) else [46, a, b]) else [46, a, b, c]) := by
  unfold Lib.trimRightB
  rw [List.reverse_append]
  simp only [List.reverse_cons, List.reverse_nil, List.nil_append, List.cons_append, List.dropWhile_cons]
  by_cases hc : c = 48
  · by_cases hb : b = 48
    · by_cases ha : a = 48
      · simp [hc, hb, ha]
      · simp [hc, hb, ha]
    · simp [hc, hb]
  · simp [hc]
theorem suf_dot (X : List UInt8) : Lib.trimSuffix (X ++ [46]) [46] = X := by
  unfold Lib.trimSuffix Lib.hasSuffix
  rw [if_pos (by simp)]
  simp
theorem suf_no (X : List UInt8) {y : UInt8} (h : y ≠ 46) : Lib.trimSuffix (X ++ [y]) [46] = X ++ [y] := by
  unfold Lib.trimSuffix Lib.hasSuffix
  rw [if_neg]
  rw [List.isSuffixOf_iff_suffix]
  rintro ⟨t, ht⟩
  have := congrArg List.getLast? ht
  simp at this
  exact h this.symm
theorem fm_tail {m : Int} (h : 0 ≤ m ∧ m ≤ 2000000000) : fmtS m = bz (itL (m.tdiv 1000) ++ tail3 (m.tmod 1000)) := by
  have e1 : m.tmod 1000 = m % 1000 := Int.tmod_eq_emod_of_nonneg h.1
  have eX : (fmX m).data.toList = itL (m.tdiv 1000) ++ [46, dgt (m.tmod 1000 / 100), dgt (m.tmod 1000 / 10 % 10), dgt (m.tmod 1000 % 10)] := by
    unfold fmX
    rw [ByteArray.append_assoc, ByteArray.append_assoc, bz_app, pad3 (by omega)]
    rw [show (⟨#[46]⟩ : ByteArray) = bz [46] from rfl, bz_app, bz_app, bz_list]
    rfl
  unfold fmtS fmT
  rw [bz_list, eX, trim3]
  congr 1
  generalize m.tmod 1000 = d at *
  have hd : 0 ≤ d ∧ d < 1000 := by omega
  obtain ⟨a1, a2⟩ := dg_ne (k := d / 100) (by omega)
  obtain ⟨b1, b2⟩ := dg_ne (k := d / 10 % 10) (by omega)
  obtain ⟨c1, c2⟩ := dg_ne (k := d % 10) (by omega)
  have a3 : dgt (d / 100) = 48 ↔ d / 100 = 0 := by rw [← beq_iff_eq, a2, decide_eq_true_eq]
  have b3 : dgt (d / 10 % 10) = 48 ↔ d / 10 % 10 = 0 := by rw [← beq_iff_eq, b2, decide_eq_true_eq]
  have c3 : dgt (d % 10) = 48 ↔ d % 10 = 0 := by rw [← beq_iff_eq, c2, decide_eq_true_eq]
  generalize itL (m.tdiv 1000) = X
  unfold tail3
  by_cases k1 : d % 10 = 0
  · rw [if_pos (c3.2 k1)]
    by_cases k2 : d / 10 % 10 = 0
    · rw [if_pos (b3.2 k2)]
      by_cases k3 : d / 100 = 0
      · rw [if_pos (a3.2 k3), if_pos (show d = 0 by omega), suf_dot, List.append_nil]
      · rw [if_neg (fun c => k3 (a3.1 c)), if_neg (show ¬ d = 0 by omega), if_pos (show d % 100 = 0 by omega)]
        exact (by have := suf_no (X ++ [46]) a1; simpa using this)
    · rw [if_neg (fun c => k2 (b3.1 c)), if_neg (show ¬ d = 0 by omega), if_neg (show ¬ d % 100 = 0 by omega), if_pos k1]
      exact (by have := suf_no (X ++ [46, dgt (d / 100)]) b1; simpa using this)
  · rw [if_neg (fun c => k1 (c3.1 c)), if_neg (show ¬ d = 0 by omega), if_neg (show ¬ d % 100 = 0 by omega), if_neg k1]
    exact (by have := suf_no (X ++ [46, dgt (d / 100), dgt (d / 10 % 10)]) c1; simpa using this)
theorem th_text {x : Nat} (h : thB x = true) : thS x = (if flt x 0 = true then ⟨#[45]⟩ else ⟨#[]⟩) ++ bz (itL ((tzF (upF (abF x))).tdiv 1000) ++ tail3 ((tzF (upF (abF x))).tmod 1000)) := by
  obtain ⟨e1, e2, e3⟩ := td_th.2 h
  have hr : rgB x = true := by
    unfold thB at h
    rw [Bool.and_eq_true] at h
    exact h.1
  have hm := mx_bd (tn_bd hr)
  rw [← e3]
  unfold thS
  rw [if_pos h, fm_tail hm]
  cases hs : flt x 0 with
  | true => rw [if_pos (e1 hs), if_pos rfl]
  | false =>
    have := e2 hs
    rw [if_neg (by omega), if_neg (by decide)]; exact ByteArray.empty_append.symm
end Go.Proofs.YtphdjmaebdmdmaaGreatDoor
/- Scenes as text: how the document tells a number. -/
namespace Go.Proofs.YtphdjmaebdmdmaaGreatDoor
open Go.RowKit Ev Flt Ieee
set_option linter.unusedVariables false
set_option linter.unusedSimpArgs false
set_option maxRecDepth 20000
set_option maxHeartbeats 8000000

theorem dg_it {k : Int} (h : 0 ≤ k ∧ k < 10) : itL k = [dgt k] := by rw [itL_one h]; rfl
theorem e1s' (x : UInt8) : (⟨#[x]⟩ : ByteArray).size = 1 := rfl
theorem bz1 (x : UInt8) : (⟨#[x]⟩ : ByteArray) = bz [x] := rfl
section
variable {d : Int} (A : List UInt8)
theorem tl0 (h : 0 ≤ d ∧ d < 1000) (h0' : decide (d > 0) = false) : bz A = bz (A ++ tail3 d) := by
  have h0 := of_decide_eq_false h0'
  unfold tail3; rw [if_pos (by omega), List.append_nil]
theorem tl1 (h : 0 ≤ d ∧ d < 1000) (h0' : decide (d > 0) = true) (h1' : decide (d.tmod 100 > 0) = false) : bz A ++ ⟨#[46]⟩ ++ bz (itL (d.tdiv 100)) = bz (A ++ tail3 d) := by
  have h0 := of_decide_eq_true h0'
  have h1 := of_decide_eq_false h1'
  rw [Int.tmod_eq_emod_of_nonneg h.1] at h1
  rw [Int.tdiv_eq_ediv_of_nonneg h.1, dg_it (by omega), bz1, bz_app, bz_app, List.append_assoc]
  unfold tail3; rw [if_neg (by omega), if_pos (by omega)]; rfl
theorem tl2 (h : 0 ≤ d ∧ d < 1000) (h0' : decide (d > 0) = true) (h1' : decide (d.tmod 100 > 0) = true) (h2' : decide (d.tmod 10 > 0) = false) : bz A ++ ⟨#[46]⟩ ++ bz (itL (d.tdiv 100)) ++ bz (itL ((d.tdiv 10).tmod 10)) = bz (A ++ tail3 d) := by
  have e10 : d.tdiv 10 = d / 10 := Int.tdiv_eq_ediv_of_nonneg h.1
  have h0 := of_decide_eq_true h0'
  have h1 := of_decide_eq_true h1'
  have h2 := of_decide_eq_false h2'
  rw [Int.tmod_eq_emod_of_nonneg h.1] at h1 h2
  rw [Int.tdiv_eq_ediv_of_nonneg h.1, e10, Int.tmod_eq_emod_of_nonneg (show 0 ≤ d / 10 by omega), dg_it (k := d / 100) (by omega), dg_it (by omega), bz1, bz_app, bz_app, bz_app, List.append_assoc, List.append_assoc]
  unfold tail3; rw [if_neg (by omega), if_neg (by omega), if_pos (by omega)]; rfl
theorem tl3 (h : 0 ≤ d ∧ d < 1000) (h0' : decide (d > 0) = true) (h1' : decide (d.tmod 100 > 0) = true) (h2' : decide (d.tmod 10 > 0) = true) : bz A ++ ⟨#[46]⟩ ++ bz (itL (d.tdiv 100)) ++ bz (itL ((d.tdiv 10).tmod 10)) ++ bz (itL (d.tmod 10)) = bz (A ++ tail3 d) := by
  have e10 : d.tdiv 10 = d / 10 := Int.tdiv_eq_ediv_of_nonneg h.1
  have h0 := of_decide_eq_true h0'
  have h1 := of_decide_eq_true h1'
  have h2 := of_decide_eq_true h2'
  rw [Int.tmod_eq_emod_of_nonneg h.1] at h1 h2 ⊢
  rw [Int.tdiv_eq_ediv_of_nonneg h.1, e10, Int.tmod_eq_emod_of_nonneg (show 0 ≤ d / 10 by omega), dg_it (k := d / 100) (by omega), dg_it (k := d / 10 % 10) (by omega), dg_it (by omega), bz1, bz_app, bz_app, bz_app, bz_app, List.append_assoc, List.append_assoc, List.append_assoc]
  unfold tail3; rw [if_neg (by omega), if_neg (by omega), if_neg (by omega)]; rfl
theorem tlx (h : 0 ≤ d ∧ d < 1000) (h1' : decide (d.tmod 100 > 0) = false) (h2' : decide (d.tmod 10 > 0) = true) : False := by
  have h1 := of_decide_eq_false h1'
  have h2 := of_decide_eq_true h2'
  rw [Int.tmod_eq_emod_of_nonneg h.1] at h1 h2
  omega
end
structure TdO (z : Int) : Prop where
  b : 0 ≤ z ∧ z ≤ 2000000000
  q0 : 0 ≤ z.tdiv 1000 ∧ z.tdiv 1000 ≤ 2000000
  wq : IntKind.i64.wrap (z.tdiv 1000) = z.tdiv 1000
  d0 : 0 ≤ z.tmod 1000 ∧ z.tmod 1000 < 1000
  d1 : 0 ≤ (z.tmod 1000).tdiv 100 ∧ (z.tmod 1000).tdiv 100 < 10
  w1 : IntKind.i64.wrap ((z.tmod 1000).tdiv 100) = (z.tmod 1000).tdiv 100
  d2 : 0 ≤ (z.tmod 1000).tdiv 10 ∧ (z.tmod 1000).tdiv 10 < 100
  w2 : IntKind.i64.wrap ((z.tmod 1000).tdiv 10) = (z.tmod 1000).tdiv 10
  d3 : 0 ≤ ((z.tmod 1000).tdiv 10).tmod 10 ∧ ((z.tmod 1000).tdiv 10).tmod 10 < 10
  d4 : 0 ≤ (z.tmod 1000).tmod 10 ∧ (z.tmod 1000).tmod 10 < 10
  d5 : 0 < (z.tmod 1000).tmod 10 → (z.tmod 1000).tmod 100 ≤ 0 → False
  s0 : (bz (itL (z.tdiv 1000))).size ≤ 21
  s1 : (bz (itL ((z.tmod 1000).tdiv 100))).size ≤ 21
  s2 : (bz (itL (((z.tmod 1000).tdiv 10).tmod 10))).size ≤ 21
  s3 : (bz (itL ((z.tmod 1000).tmod 10))).size ≤ 21
theorem td_o {z : Int} (h : 0 ≤ z ∧ z ≤ 2000000000) : TdO z := by
  have e1 : z.tmod 1000 = z % 1000 := Int.tmod_eq_emod_of_nonneg h.1
  have e2 : z.tdiv 1000 = z / 1000 := Int.tdiv_eq_ediv_of_nonneg h.1
  have d0 : 0 ≤ z.tmod 1000 ∧ z.tmod 1000 < 1000 := by omega
  have f1 : (z.tmod 1000).tdiv 100 = z.tmod 1000 / 100 := Int.tdiv_eq_ediv_of_nonneg d0.1
  have f2 : (z.tmod 1000).tdiv 10 = z.tmod 1000 / 10 := Int.tdiv_eq_ediv_of_nonneg d0.1
  have f3 : (z.tmod 1000).tmod 10 = z.tmod 1000 % 10 := Int.tmod_eq_emod_of_nonneg d0.1
  have f4 : (z.tmod 1000).tmod 100 = z.tmod 1000 % 100 := Int.tmod_eq_emod_of_nonneg d0.1
  have d2 : 0 ≤ (z.tmod 1000).tdiv 10 ∧ (z.tmod 1000).tdiv 10 < 100 := by omega
  have f5 : ((z.tmod 1000).tdiv 10).tmod 10 = (z.tmod 1000).tdiv 10 % 10 := Int.tmod_eq_emod_of_nonneg d2.1
  exact ⟨h, by omega, wrapI (by omega) (by omega), d0, by omega, wrapI (by omega) (by omega), d2, wrapI (by omega) (by omega), by omega, by omega, by omega, it_len ⟨by omega, by omega⟩, it_len ⟨by omega, by omega⟩, it_len ⟨by omega, by omega⟩, it_len ⟨by omega, by omega⟩⟩
theorem td_f {x : Nat} (hr : rgB x = true) (h0 : flt x 0 = false) : TdO (tzF (upF x)) ∧ thB x = feq (milF (tzF (upF x))) x ∧ (thB x = true → thS x = bz (itL ((tzF (upF x)).tdiv 1000) ++ tail3 ((tzF (upF x)).tmod 1000))) := by
  have ea : abF x = x := by unfold abF; rw [if_neg (by rw [h0]; decide)]
  have bd := tn_bd hr
  rw [← tn_pos h0] at bd
  refine ⟨td_o ⟨(tz_pos hr).1 h0, bd.2⟩, ?_, fun h => ?_⟩
  · have := (td_th (x := x)).1
    unfold tdB at this
    rw [ea, hr, Bool.true_and] at this
    exact this.symm
  · rw [th_text h, ea, if_neg (by rw [h0]; decide)]
    exact ByteArray.empty_append
theorem td_t {x : Nat} (hr : rgB x = true) (h0 : flt x 0 = true) : TdO (tzF (upF (Fneg x))) ∧ thB x = feq (milF (tzF (upF (Fneg x)))) (Fneg x) ∧ (thB x = true → thS x = ⟨#[45]⟩ ++ bz (itL ((tzF (upF (Fneg x))).tdiv 1000) ++ tail3 ((tzF (upF (Fneg x))).tmod 1000))) := by
  have ea : abF x = Fneg x := by unfold abF; rw [if_pos h0]
  have bd := tn_bd hr
  have et : tnI x = -tzF (upF (Fneg x)) := by unfold tnI; rw [if_pos h0]
  refine ⟨td_o ⟨(tz_pos hr).2 h0, by omega⟩, ?_, fun h => ?_⟩
  · have := (td_th (x := x)).1
    unfold tdB at this
    rw [ea, hr, Bool.true_and] at this
    exact this.symm
  · rw [th_text h, ea, if_pos h0]
theorem thS_0 {x : Nat} (h : thB x = false) : thS x = ⟨#[]⟩ := by unfold thS; rw [if_neg (by rw [h]; decide)]
theorem told_f : FnOk Tryz.prog 38 Tryz.f38 := ⟨Tryz.func38, by kernel_rfl⟩
theorem told_a (x : Nat) : ACalls Tryz.prog 38 [.flt x] (.tup [.str (thS x), .bool (thB x)]) := by
  refine acalls_of (inl := hasI (P := Tryz.prog) [⟨39, Tryz.f39, Tryz.func39, by kernel_rfl⟩] []) (base [dec_k] [⟨39, Tryz.f39, Tryz.func39, by kernel_rfl⟩] []) 4 told_f (And.intro (by kernel_rfl) ?_)
  repeat' (first | refine And.intro ?_ ?_ | (with_reducible exact ff_elim) | (with_reducible exact tf_elim) | refine num_elim ?_ | intro _ | (with_reducible rfl) | ((with_reducible refine lk_t ?_); exact rfl) | ((with_reducible refine pf_t ?_); exact rfl) | refine tell ?_ | exact True.intro | (refine IsT.of ?_; kernel_rfl))
  all_goals (try refine Tell.mk ?_)
  all_goals first | with_reducible rfl | with_reducible assumption | ((with_reducible refine okF_t ?_); kernel_rfl) | (with_reducible refine gb_t ?_; with_reducible assumption) | (with_reducible refine gb_f ?_; with_reducible assumption) | (exfalso; omega) | skip
  all_goals (try dsimp only at *)
  all_goals (try simp only [tz_def, up_def, mil_def, rg_def, decide_eq_true_eq, decide_eq_false_iff_not, Bool.not_eq_true', Bool.not_eq_false'] at *)
  all_goals first | (have hr : rgB x = false := (by assumption); unfold thB; rw [hr]; rfl) | (have hr : rgB x = false := (by assumption); unfold thS thB; rw [hr]; rfl) | skip
  all_goals (have hr : rgB x = true := (by assumption))
  all_goals first | (obtain ⟨z, hz, h1, h2⟩ := up_tz (rg_near hr).1; exact ⟨z, hz, by show (-9223372036854775808 : Int) ≤ z; omega, by show z ≤ 9223372036854775807; omega⟩) | (obtain ⟨z, hz, h1, h2⟩ := up_tz (rg_near hr).2; exact ⟨z, hz, by show (-9223372036854775808 : Int) ≤ z; omega, by show z ≤ 9223372036854775807; omega⟩) | skip
  all_goals first | (exfalso; exact absurd (show flt x 0 = true by assumption) (by rw [show flt x 0 = false by assumption]; decide)) | skip
  all_goals first | (have h0 : flt x 0 = true := (by assumption); obtain ⟨⟨b, q0, wq, d0, d1, w1, d2, w2, d3, d4, d5, s0, s1, s2, s3⟩, eB, eS⟩ := td_t hr h0; simp only [wq, w1, w2] at *) | (have h0 : flt x 0 = false := (by assumption); obtain ⟨⟨b, q0, wq, d0, d1, w1, d2, w2, d3, d4, d5, s0, s1, s2, s3⟩, eB, eS⟩ := td_f hr h0; simp only [wq, w1, w2] at *)
  all_goals (try simp only [ByteArray.size_append, e1s'] at *)
  all_goals first | omega | (exfalso; omega) | (exact thS_0 (eB.trans (by assumption))) | (exact eB.trans (by assumption)) | (exact (eB.trans (by assumption)).symm) | skip
  all_goals first | (exfalso; exact tlx d0 (by assumption) (by assumption)) | skip
  all_goals (have eT : thB x = true := eB.trans (by assumption); rw [eS eT])
  all_goals first | (rw [← tl3 _ d0 (by assumption) (by assumption) (by assumption)]; done) | (rw [← tl2 _ d0 (by assumption) (by assumption) (by assumption)]; done) | (rw [← tl1 _ d0 (by assumption) (by assumption)]; done) | (rw [← tl0 _ d0 (by assumption)]; done) | trace_state
def told_k : Con Tryz.prog := ⟨38, fun args => match args with | [.flt x] => .ok (none) (.tup [.str (thS x), .bool (thB x)]) | _ => .no, by
  intro args p r h hp
  split at h
  · cases h; exact told_a _
  · cases h⟩
end Go.Proofs.YtphdjmaebdmdmaaGreatDoor
/- Scenes as text: shapes and solids, as the program and as the document tell them (plain). -/
namespace Go.Proofs.YtphdjmaebdmdmaaGreatDoor
open Go.RowKit Ev Flt Ieee
set_option linter.unusedVariables false
set_option linter.unusedSimpArgs false
set_option maxRecDepth 20000
set_option maxHeartbeats 4000000

/-- Nought is told. -/
theorem th_zero {x : Nat} (h : feq x 0 = true) : thB x = true := by
  have hx := feq_notN h
  rw [feq_key hx (by decide +kernel), decide_eq_true_eq, key_0] at h
  have a1 : key 13875379345695965184 ≤ 0 := by decide +kernel
  have a2 : 0 ≤ key 4652007308841189376 := by decide +kernel
  have hr := rg_of hx (by omega) (by omega)
  obtain ⟨f1, f2, hv, hb⟩ := rg_val hr
  have v1 := V_nonneg f1
  have v2 := V_pos f1
  have v0 : V x = 0 := by omega
  have e0 : val x = 0 := by unfold val; rw [v0, Rat.intCast_zero, Rat.div_def, Rat.zero_mul]
  obtain ⟨g1, g2⟩ := up_val (e := 0) f1 (by rw [e0]; unfold Nr; grind) (by unfold Bd; grind)
  have ht : tzF (upF x) = 0 := by
    unfold tzF
    rw [trunc_at (z := 0) g1 (by omega) (by unfold Nr at g2; rw [Rat.intCast_zero]; grind) (by unfold Nr at g2; rw [show ((0 + 1 : Int) : Rat) = 1 from rfl]; grind)]
    rfl
  unfold thB tnI
  rw [hr, flt_V f1 Fin_0, V_0, v0, if_neg (by decide), ht, mil_0, feq_key (by decide +kernel) hx, key_0, h]
  rfl
theorem fBT_or {bad : Bool} {p : Shp} : fBT bad p = (bad || fBT false p) := by
  unfold fBT
  repeat' split
  · unfold fB1; simp only [Bool.or_assoc, Bool.false_or]
  · unfold fB2; simp only [Bool.or_assoc, Bool.false_or]
  · unfold fB3; simp only [Bool.or_assoc, Bool.false_or]
  · unfold fB4; simp only [Bool.or_assoc, Bool.false_or]
  · unfold fB5; simp only [Bool.or_assoc, Bool.false_or]
  · unfold fB6; simp only [Bool.or_assoc, Bool.false_or]
/-- Three noughts? -/
def ntB (a b c : Nat) : Bool := feq a 0 && (feq b 0 && feq c 0)
def v3B (a b c : Nat) : Bool := thB a && (thB b && thB c)
/-- All numbers of a shape are told. -/
@[irreducible] def alT (p : Shp) : Bool := v3B p.a p.b p.c && (v3B p.d p.e p.f && (v3B p.g p.h p.i && (thB p.r && thB p.q)))
@[irreducible] def kdB (p : Shp) : Bool := if p.k = 1 then ntB p.d p.e p.f && (ntB p.g p.h p.i && feq p.q 0) else if p.k = 2 then ntB p.g p.h p.i && (feq p.r 0 && feq p.q 0) else if p.k = 3 then feq p.r 0 && feq p.q 0 else if p.k = 4 then ntB p.g p.h p.i && feq p.q 0 else if p.k = 5 then ntB p.g p.h p.i && feq p.q 0 else ntB p.g p.h p.i
@[irreducible] def foB (p : Shp) : Bool := alT p && kdB p
@[irreducible] def foS (p : Shp) : ByteArray := if alT p = true then fST p else ⟨#[]⟩
theorem feq_00 : feq 0 0 = true := by decide +kernel
theorem fo_eq {p : Shp} (h : 1 ≤ p.k ∧ p.k ≤ 6) : foB p = !fBT false p := by
  obtain ⟨k, a, b, c, d, e, f, g, h', i, r, q, s⟩ := p
  have hk : k = 1 ∨ k = 2 ∨ k = 3 ∨ k = 4 ∨ k = 5 ∨ k = 6 := by
    have := h.1; have := h.2; simp only at *; omega
  have z : ∀ x, feq x 0 = true → thB x = true := fun x => th_zero
  have zd := z d
  have ze := z e
  have zf := z f
  have zg := z g
  have zh := z h'
  have zi := z i
  have zr := z r
  have zq := z q
  clear z h
  unfold foB alT kdB fBT v3B ntB
  rcases hk with rfl | rfl | rfl | rfl | rfl | rfl
  · simp only [if_true, fB1, nzB, feq_00, Bool.and_true]
    rw [Bool.eq_iff_iff]
    simp only [Bool.and_eq_true, Bool.not_eq_true', Bool.or_eq_false_iff, Bool.not_eq_false', true_and]
    grind
  · simp only [if_true, fB2, nzB, feq_00, Bool.and_true]
    rw [Bool.eq_iff_iff]
    simp only [show ¬ (2 : Int) = 1 by decide, if_false, Bool.and_eq_true, Bool.not_eq_true', Bool.or_eq_false_iff, Bool.not_eq_false', true_and]
    grind
  · simp only [if_true, fB3, nzB, feq_00, Bool.and_true]
    rw [Bool.eq_iff_iff]
    simp only [show ¬ (3 : Int) = 1 by decide, show ¬ (3 : Int) = 2 by decide, if_false, Bool.and_eq_true, Bool.not_eq_true', Bool.or_eq_false_iff, Bool.not_eq_false', true_and]
    grind
  · simp only [if_true, fB4, nzB, feq_00, Bool.and_true]
    rw [Bool.eq_iff_iff]
    simp only [show ¬ (4 : Int) = 1 by decide, show ¬ (4 : Int) = 2 by decide, show ¬ (4 : Int) = 3 by decide, if_false, Bool.and_eq_true, Bool.not_eq_true', Bool.or_eq_false_iff, Bool.not_eq_false', true_and]
    grind
  · simp only [if_true, fB5, nzB, feq_00, Bool.and_true]
    rw [Bool.eq_iff_iff]
    simp only [show ¬ (5 : Int) = 1 by decide, show ¬ (5 : Int) = 2 by decide, show ¬ (5 : Int) = 3 by decide, show ¬ (5 : Int) = 4 by decide, if_false, Bool.and_eq_true, Bool.not_eq_true', Bool.or_eq_false_iff, Bool.not_eq_false', true_and]
    grind
  · simp only [if_true, fB6, nzB, feq_00, Bool.and_true]
    rw [Bool.eq_iff_iff]
    simp only [show ¬ (6 : Int) = 1 by decide, show ¬ (6 : Int) = 2 by decide, show ¬ (6 : Int) = 3 by decide, show ¬ (6 : Int) = 4 by decide, show ¬ (6 : Int) = 5 by decide, if_false, Bool.and_eq_true, Bool.not_eq_true', Bool.or_eq_false_iff, Bool.not_eq_false', true_and]
    grind
theorem fo_text {p : Shp} (h : foB p = true) : foS p = fST p := by
  unfold foB at h
  rw [Bool.and_eq_true] at h
  unfold foS
  rw [if_pos h.1]
/-- The document's parts. -/
def noD : ByteArray × Int × Bool := (⟨#[]⟩, 0, false)
def dG (Q : Nat → Prt) : Nat → Nat → Int → Int → ByteArray × Int × Bool
  | 0, _, _, _ => noD
  | f + 1, k, fr, de => if (Q k).op = 0 then (foS (Q k).p, fr, foB (Q k).p && ((k : Int) == fr && ((Q k).l == 0 && ((Q k).m == 0 && (Q k).p.s == 0)))) else
    if de = 3 ∨ shN (Q k).p = true ∨ (Q k).l < fr ∨ ¬ (Q k).m = (k : Int) - 1 then noD else
    if (dG Q f (Q k).l.toNat fr (de + 1)).2.2 = false ∨ ¬ (dG Q f (Q k).l.toNat fr (de + 1)).2.1 = (Q k).l then noD else
    if (dG Q f (Q k).m.toNat ((Q k).l + 1) (de + 1)).2.2 = false ∨ ¬ (dG Q f (Q k).m.toNat ((Q k).l + 1) (de + 1)).2.1 = (Q k).m then noD else
    (opS (Q k).op ++ ((dG Q f (Q k).l.toNat fr (de + 1)).1 ++ (k_sp ++ ((dG Q f (Q k).m.toNat ((Q k).l + 1) (de + 1)).1 ++ k_cl))), k, true)
theorem dG_s (Q : Nat → Prt) (f k : Nat) (fr de : Int) : dG Q (f + 1) k fr de = if (Q k).op = 0 then (foS (Q k).p, fr, foB (Q k).p && ((k : Int) == fr && ((Q k).l == 0 && ((Q k).m == 0 && (Q k).p.s == 0)))) else
    if de = 3 ∨ shN (Q k).p = true ∨ (Q k).l < fr ∨ ¬ (Q k).m = (k : Int) - 1 then noD else
    if (dG Q f (Q k).l.toNat fr (de + 1)).2.2 = false ∨ ¬ (dG Q f (Q k).l.toNat fr (de + 1)).2.1 = (Q k).l then noD else
    if (dG Q f (Q k).m.toNat ((Q k).l + 1) (de + 1)).2.2 = false ∨ ¬ (dG Q f (Q k).m.toNat ((Q k).l + 1) (de + 1)).2.1 = (Q k).m then noD else
    (opS (Q k).op ++ ((dG Q f (Q k).l.toNat fr (de + 1)).1 ++ (k_sp ++ ((dG Q f (Q k).m.toNat ((Q k).l + 1) (de + 1)).1 ++ k_cl))), k, true) := rfl
theorem dG_fuel {Q : Nat → Prt} {n : Nat} (h : SolK Q n) : ∀ (f g k : Nat) (fr de : Int), k < n → k < f → k < g → dG Q f k fr de = dG Q g k fr de := by
  intro f
  induction f with
  | zero => intro g k _ _ _ hf; omega
  | succ f ih =>
    intro g k fr de hk hf hg
    obtain ⟨g, rfl⟩ : ∃ g', g = g' + 1 := ⟨g - 1, by omega⟩
    rw [dG_s, dG_s]
    rcases h k hk with e | ⟨⟨a, b⟩, ⟨c, d⟩⟩
    · rw [if_pos e, if_pos e]
    · rw [ih g (Q k).l.toNat _ _ (by omega) (by omega) (by omega), ih g (Q k).m.toNat _ _ (by omega) (by omega) (by omega)]
@[irreducible] def dD (Q : Nat → Prt) (k : Nat) (fr de : Int) : ByteArray × Int × Bool := dG Q 16 k fr de
section
variable {Q : Nat → Prt} {n k : Nat} {fr de : Int}
theorem dD_0 (e : (Q k).op = 0) : dD Q k fr de = (foS (Q k).p, fr, foB (Q k).p && ((k : Int) == fr && ((Q k).l == 0 && ((Q k).m == 0 && (Q k).p.s == 0)))) := by
  unfold dD; rw [dG_s, if_pos e]
theorem dD_1 (h : SolK Q n) (hn : n ≤ 16) (hk : k < n) (e : ¬ (Q k).op = 0) : dD Q k fr de =
    if de = 3 ∨ shN (Q k).p = true ∨ (Q k).l < fr ∨ ¬ (Q k).m = (k : Int) - 1 then noD else
    if (dD Q (Q k).l.toNat fr (de + 1)).2.2 = false ∨ ¬ (dD Q (Q k).l.toNat fr (de + 1)).2.1 = (Q k).l then noD else
    if (dD Q (Q k).m.toNat ((Q k).l + 1) (de + 1)).2.2 = false ∨ ¬ (dD Q (Q k).m.toNat ((Q k).l + 1) (de + 1)).2.1 = (Q k).m then noD else
    (opS (Q k).op ++ ((dD Q (Q k).l.toNat fr (de + 1)).1 ++ (k_sp ++ ((dD Q (Q k).m.toNat ((Q k).l + 1) (de + 1)).1 ++ k_cl))), k, true) := by
  obtain ⟨⟨a, b⟩, ⟨c, d⟩⟩ := solk1 h hk e
  unfold dD
  rw [dG_s, if_neg e, dG_fuel h 15 16 (Q k).l.toNat _ _ (by omega) (by omega) (by omega), dG_fuel h 15 16 (Q k).m.toNat _ _ (by omega) (by omega) (by omega)]
end
theorem lfB_or {bad : Bool} {x : Prt} {k nx : Int} : lfB bad x k nx = (bad || lfB false x k nx) := by
  unfold lfB
  rw [fBT_or]
  simp only [Bool.or_assoc]
theorem tB_or {Q : Nat → Prt} {m : Nat} (h : SolK Q m) (hm : m ≤ 16) : ∀ k, k < m → ∀ (nx : Int) (b : Bool), tB Q k nx b = (b || tB Q k nx false) := by
  intro k
  induction k using Nat.strongRecOn with
  | ind k ih =>
    intro hk nx b
    by_cases e : (Q k).op = 0
    · rw [tB_0 e, tB_0 e, lfB_or]
    · obtain ⟨⟨a1, b1⟩, ⟨c1, d1⟩⟩ := solk1 h hk e
      rw [tB_1 h hm hk e, tB_1 h hm hk e]
      have il := ih (Q k).l.toNat (by omega) (by omega)
      have im := ih (Q k).m.toNat (by omega) (by omega)
      rw [im _ (tB Q (Q k).l.toNat nx (b || shN (Q k).p)), il _ (b || shN (Q k).p), im _ (tB Q (Q k).l.toNat nx (false || shN (Q k).p)), il _ (false || shN (Q k).p)]
      simp only [Bool.or_assoc, Bool.false_or]
/-- A part that is told as a part of two. -/
theorem tok_1 {Q : Nat → Prt} {m k : Nat} {nx : Int} (h : SolK Q m) (hm : m ≤ 16) (hk : k < m) (e : ¬ (Q k).op = 0) : tB Q k nx false = false ↔ shN (Q k).p = false ∧ tB Q (Q k).l.toNat nx false = false ∧ tB Q (Q k).m.toNat (nx + tC Q (Q k).l.toNat) false = false ∧ (k : Int) = nx + tC Q (Q k).l.toNat + tC Q (Q k).m.toNat := by
  obtain ⟨⟨a1, b1⟩, ⟨c1, d1⟩⟩ := solk1 h hk e
  rw [tB_1 h hm hk e, tB_or h hm _ (by omega) _ (tB Q (Q k).l.toNat nx (false || shN (Q k).p)), tB_or h hm _ (by omega) nx (false || shN (Q k).p)]
  simp only [Bool.or_eq_false_iff, Bool.false_or, bne_eq_false_iff_eq]
  constructor
  · rintro ⟨⟨⟨a, b⟩, c⟩, d⟩; exact ⟨a, b, c, d⟩
  · rintro ⟨a, b, c, d⟩; exact ⟨⟨⟨a, b⟩, c⟩, d⟩
theorem tok_0 {Q : Nat → Prt} {k : Nat} {nx : Int} (e : (Q k).op = 0) : tB Q k nx false = false ↔ fBT false (Q k).p = false ∧ (Q k).l = 0 ∧ (Q k).m = 0 ∧ (Q k).p.s = 0 ∧ (k : Int) = nx := by
  rw [tB_0 e]
  unfold lfB
  simp only [Bool.or_eq_false_iff, bne_eq_false_iff_eq]
  constructor
  · rintro ⟨⟨⟨⟨a, b⟩, c⟩, d⟩, f⟩; exact ⟨a, b, c, d, f⟩
  · rintro ⟨a, b, c, d, f⟩; exact ⟨⟨⟨⟨a, b⟩, c⟩, d⟩, f⟩
theorem tok_num {Q : Nat → Prt} {m : Nat} (h : SolK Q m) (hm : m ≤ 16) {k : Nat} (hk : k < m) {nx : Int} (ht : tB Q k nx false = false) : (k : Int) = nx + tC Q k - 1 := by
  by_cases e : (Q k).op = 0
  · rw [tC_0 e]
    have := ((tok_0 e).1 ht).2.2.2.2
    omega
  · rw [tC_1 h hm hk e]
    have := ((tok_1 h hm hk e).1 ht).2.2.2
    omega
theorem tC_pos {Q : Nat → Prt} {m : Nat} (h : SolK Q m) (hm : m ≤ 16) {k : Nat} (hk : k < m) : 1 ≤ tC Q k := by
  by_cases e : (Q k).op = 0
  · rw [tC_0 e]; omega
  · rw [tC_1 h hm hk e]; omega
/-- The document tells a part just where the program does. -/
theorem doc_part {Q : Nat → Prt} {m : Nat} (hS : SolP Q m) : ∀ k, k < m → ∀ (fr de : Int), 0 ≤ fr → 0 ≤ de → de ≤ 3 → ((dD Q k fr de).2.2 = true ↔ tB Q k fr false = false ∧ dp Q k + de ≤ 3) ∧ ((dD Q k fr de).2.2 = true → (dD Q k fr de).2.1 = k ∧ (dD Q k fr de).1 = tS Q k) := by
  have h := hS.ord
  have hm := hS.m16
  intro k
  induction k using Nat.strongRecOn with
  | ind k ih =>
    intro hk fr de h0 h1 h3
    by_cases e : (Q k).op = 0
    · rw [dD_0 e, tok_0 e, dp_0 e]
      have hkd := hS.kin k hk e
      simp only [Bool.and_eq_true, beq_iff_eq]
      rw [fo_eq hkd]
      simp only [Bool.not_eq_true']
      refine ⟨⟨fun ⟨a, b, c, d, f⟩ => ⟨⟨a, c, d, f, b⟩, by omega⟩, fun ⟨⟨a, c, d, f, b⟩, _⟩ => ⟨a, b, c, d, f⟩⟩, fun ⟨a, b, c, d, f⟩ => ⟨b.symm, ?_⟩⟩
      rw [tS_0 e]
      exact fo_text (by rw [fo_eq hkd, a]; rfl)
    · obtain ⟨⟨a1, b1⟩, ⟨c1, d1⟩⟩ := solk1 h hk e
      have lk : (Q k).l.toNat < m := by omega
      have mk : (Q k).m.toNat < m := by omega
      have pl := tC_pos h hm lk
      have pm := tC_pos h hm mk
      have dl := dp_le h hm _ lk
      have dm := dp_le h hm _ mk
      rw [dD_1 h hm hk e, tok_1 h hm hk e, dp_1 h hm hk e]
      by_cases g1 : de = 3 ∨ shN (Q k).p = true ∨ (Q k).l < fr ∨ ¬ (Q k).m = (k : Int) - 1
      · rw [if_pos g1]
        refine ⟨⟨fun c => (by cases c), fun ⟨⟨s1, s2, s3, s4⟩, s5⟩ => ?_⟩, fun c => (by cases c)⟩
        exfalso
        have n1 := tok_num h hm lk s2
        have n2 := tok_num h hm mk s3
        rcases g1 with g | g | g | g
        · omega
        · rw [s1] at g; cases g
        · omega
        · omega
      · rw [if_neg g1]
        have hde : ¬ de = 3 := fun c => g1 (.inl c)
        have hsh : shN (Q k).p = false := by
          cases q : shN (Q k).p with
          | false => rfl
          | true => exact absurd (.inr (.inl q)) g1
        have hfr : fr ≤ (Q k).l := by
          rcases Int.lt_or_le (Q k).l fr with q | q
          · exact absurd (.inr (.inr (.inl q))) g1
          · exact q
        have hmk : (Q k).m = (k : Int) - 1 := by
          by_cases q : (Q k).m = (k : Int) - 1
          · exact q
          · exact absurd (.inr (.inr (.inr q))) g1
        obtain ⟨i1, i2⟩ := ih (Q k).l.toNat (by omega) lk fr (de + 1) h0 (by omega) (by omega)
        obtain ⟨j1, j2⟩ := ih (Q k).m.toNat (by omega) mk ((Q k).l + 1) (de + 1) (by omega) (by omega) (by omega)
        have el : (((Q k).l.toNat : Nat) : Int) = (Q k).l := by omega
        have em : (((Q k).m.toNat : Nat) : Int) = (Q k).m := by omega
        rw [el] at i2
        rw [em] at j2
        by_cases g2 : (dD Q (Q k).l.toNat fr (de + 1)).2.2 = false ∨ ¬ (dD Q (Q k).l.toNat fr (de + 1)).2.1 = (Q k).l
        · rw [if_pos g2]
          refine ⟨⟨fun c => (by cases c), fun ⟨⟨s1, s2, s3, s4⟩, s5⟩ => ?_⟩, fun c => (by cases c)⟩
          exfalso
          have t := i1.2 ⟨s2, by omega⟩
          rcases g2 with g | g
          · rw [t] at g; cases g
          · exact g (i2 t).1
        · rw [if_neg g2]
          have t1 : (dD Q (Q k).l.toNat fr (de + 1)).2.2 = true := by
            cases q : (dD Q (Q k).l.toNat fr (de + 1)).2.2 with
            | true => rfl
            | false => exact absurd (.inl q) g2
          obtain ⟨u1, u2⟩ := i1.1 t1
          have n1 := tok_num h hm lk u1
          have e1 : fr + (tC Q (Q k).l.toNat : Int) = (Q k).l + 1 := by omega
          rw [e1]
          by_cases g3 : (dD Q (Q k).m.toNat ((Q k).l + 1) (de + 1)).2.2 = false ∨ ¬ (dD Q (Q k).m.toNat ((Q k).l + 1) (de + 1)).2.1 = (Q k).m
          · rw [if_pos g3]
            refine ⟨⟨fun c => (by cases c), fun ⟨⟨s1, s2, s3, s4⟩, s5⟩ => ?_⟩, fun c => (by cases c)⟩
            exfalso
            have t := j1.2 ⟨s3, by omega⟩
            rcases g3 with g | g
            · rw [t] at g; cases g
            · exact g (j2 t).1
          · rw [if_neg g3]
            have t2 : (dD Q (Q k).m.toNat ((Q k).l + 1) (de + 1)).2.2 = true := by
              cases q : (dD Q (Q k).m.toNat ((Q k).l + 1) (de + 1)).2.2 with
              | true => rfl
              | false => exact absurd (.inl q) g3
            obtain ⟨w1, w2⟩ := j1.1 t2
            have n2 := tok_num h hm mk w1
            refine ⟨⟨fun _ => ⟨⟨hsh, u1, w1, by omega⟩, by omega⟩, fun _ => rfl⟩, fun _ => ⟨rfl, ?_⟩⟩
            show opS (Q k).op ++ _ = _
            rw [tS_1 h hm hk e, (i2 t1).2, (j2 t2).2]
/-- How often each part is named. -/
theorem tok_used {Q : Nat → Prt} {m : Nat} (h : SolK Q m) (hm : m ≤ 16) : ∀ k, k < m → ∀ nx : Nat, tB Q k nx false = false → ∀ j, usT Q (k + 1) j = usT Q nx j + (if nx ≤ j ∧ j < k then 1 else 0) := by
  intro k
  induction k using Nat.strongRecOn with
  | ind k ih =>
    intro hk nx ht j
    rw [usT_s]
    by_cases e : (Q k).op = 0
    · have := ((tok_0 e).1 ht).2.2.2.2
      have hkn : k = nx := by omega
      rw [if_pos e, hkn, if_neg (by omega)]
    · obtain ⟨⟨a1, b1⟩, ⟨c1, d1⟩⟩ := solk1 h hk e
      have lk : (Q k).l.toNat < m := by omega
      have mk : (Q k).m.toNat < m := by omega
      obtain ⟨s1, s2, s3, s4⟩ := (tok_1 h hm hk e).1 ht
      have n1 := tok_num h hm lk s2
      have pl := tC_pos h hm lk
      have e1 : (nx : Int) + (tC Q (Q k).l.toNat : Int) = ((nx + tC Q (Q k).l.toNat : Nat) : Int) := by omega
      rw [e1] at s3
      have n2 := tok_num h hm mk s3
      have pm := tC_pos h hm mk
      have il := ih _ (by omega) lk nx s2 j
      have im := ih _ (by omega) mk _ s3 j
      rw [show (Q k).l.toNat + 1 = nx + tC Q (Q k).l.toNat by omega] at il
      rw [show (Q k).m.toNat + 1 = k by omega] at im
      rw [if_neg e, im, il]
      generalize (Q k).l.toNat = L at *
      generalize (Q k).m.toNat = M at *
      by_cases x1 : j < L
      · rw [if_neg (show ¬ j = L by omega), if_neg (show ¬ j = M by omega), if_neg (show ¬ (nx + tC Q L ≤ j ∧ j < M) by omega)]
        by_cases x2 : nx ≤ j
        · rw [if_pos ⟨x2, x1⟩, if_pos ⟨x2, by omega⟩]; omega
        · rw [if_neg (fun c => x2 c.1), if_neg (fun c => x2 c.1)]; omega
      · rw [if_neg (show ¬ (nx ≤ j ∧ j < L) by omega)]
        by_cases x3 : j = L
        · rw [if_pos x3, if_neg (show ¬ j = M by omega), if_neg (show ¬ (nx + tC Q L ≤ j ∧ j < M) by omega), if_pos (show nx ≤ j ∧ j < k by omega)]; omega
        · rw [if_neg x3]
          by_cases x4 : j < M
          · rw [if_neg (show ¬ j = M by omega), if_pos (show nx + tC Q L ≤ j ∧ j < M by omega), if_pos (show nx ≤ j ∧ j < k by omega)]; omega
          · rw [if_neg (show ¬ (nx + tC Q L ≤ j ∧ j < M) by omega)]
            by_cases x5 : j = M
            · rw [if_pos x5, if_pos (show nx ≤ j ∧ j < k by omega)]; omega
            · rw [if_neg x5, if_neg (show ¬ (nx ≤ j ∧ j < k) by omega)]; omega
/-- A solid is told just where the program tells it. -/
theorem doc_solid {Q : Nat → Prt} {m : Nat} (hS : SolP Q m) (h1 : 1 ≤ m) : (slB Q m false = false ↔ (dD Q (m - 1) 0 0).2.2 = true ∧ (dD Q (m - 1) 0 0).2.1 = (m : Int) - 1) ∧ (slB Q m false = false → usOk Q m = true ∧ (dD Q (m - 1) 0 0).1 = tS Q (m - 1)) := by
  have h := hS.ord
  have hm := hS.m16
  obtain ⟨i1, i2⟩ := doc_part hS (m - 1) (by omega) 0 0 (by omega) (by omega) (by omega)
  have key : slB Q m false = false ↔ (dD Q (m - 1) 0 0).2.2 = true := by
    rw [i1]
    unfold slB
    constructor
    · intro hs
      cases hu : usOk Q m with
      | false => rw [hu, if_neg (by decide)] at hs; cases hs
      | true =>
        rw [hu, if_pos rfl, tB_or h hm _ (by omega)] at hs
        simp only [Bool.false_or, Bool.or_eq_false_iff, decide_eq_false_iff_not] at hs
        exact ⟨hs.2, by omega⟩
    · rintro ⟨t1, t2⟩
      have hu : usOk Q m = true := by
        rw [usOk_iff]
        intro j hj
        have := tok_used h hm (m - 1) (by omega) 0 t1 j
        rw [show m - 1 + 1 = m by omega, usT_0, if_pos (by omega)] at this
        omega
      rw [hu, if_pos rfl, tB_or h hm _ (by omega), t1]
      simp only [Bool.false_or, Bool.or_false, decide_eq_false_iff_not]
      omega
  have en : ((m - 1 : Nat) : Int) = (m : Int) - 1 := by omega
  rw [en] at i2
  refine ⟨⟨fun q => ⟨key.1 q, (i2 (key.1 q)).1⟩, fun q => key.2 q.1⟩, fun q => ⟨?_, (i2 (key.1 q)).2⟩⟩
  unfold slB at q
  cases hu : usOk Q m with
  | false => rw [hu, if_neg (by decide)] at q; cases q
  | true => rfl
end Go.Proofs.YtphdjmaebdmdmaaGreatDoor
/- Scenes as text: how the document tells places, shapes, fields. -/
namespace Go.Proofs.YtphdjmaebdmdmaaGreatDoor
open Go.RowKit Ev
set_option linter.unusedVariables false
set_option linter.unusedSimpArgs false
set_option maxRecDepth 20000
set_option maxHeartbeats 8000000

/-- Three numbers as text, if all are told. -/
@[irreducible] def vcT (a b c : Nat) : ByteArray := if v3B a b c = true then vcS a b c else ⟨#[]⟩
theorem vcT_1 {a b c : Nat} (h : v3B a b c = true) : vcT a b c = vcS a b c := by unfold vcT; rw [if_pos h]
theorem vcT_0 {a b c : Nat} (h : v3B a b c = false) : vcT a b c = ⟨#[]⟩ := by unfold vcT; rw [if_neg (by rw [h]; decide)]
theorem vcT_sz (a b c : Nat) : (vcT a b c).size ≤ 90 := by
  unfold vcT; split
  · exact vc_sz a b c
  · show 0 ≤ 90; omega
@[irreducible] def nmT (a : Nat) : ByteArray := if thB a = true then nmS a else ⟨#[]⟩
theorem nmT_1 {a : Nat} (h : thB a = true) : nmT a = nmS a := by unfold nmT; rw [if_pos h]
theorem nmT_0 {a : Nat} (h : thB a = false) : nmT a = ⟨#[]⟩ := by unfold nmT; rw [if_neg (by rw [h]; decide)]
theorem nmT_sz (a : Nat) : (nmT a).size ≤ 30 := by
  unfold nmT; split
  · exact nm_sz a
  · show 0 ≤ 30; omega
theorem e0s : (⟨#[]⟩ : ByteArray).size = 0 := rfl
theorem v3_0 {a b c : Nat} (h : thB a = false) : v3B a b c = false := by unfold v3B; rw [h]; rfl
theorem v3_1 {a b c : Nat} (h : thB a = true) (h' : thB b = false) : v3B a b c = false := by unfold v3B; rw [h, h']; rfl
theorem v3_2 {a b c : Nat} (h : thB a = true) (h' : thB b = true) (h'' : thB c = false) : v3B a b c = false := by unfold v3B; rw [h, h', h'']; rfl
theorem v3_3 {a b c : Nat} (h : thB a = true) (h' : thB b = true) (h'' : thB c = true) : v3B a b c = true := by unfold v3B; rw [h, h', h'']; rfl
theorem vc_tx {a b c : Nat} : (⟨#[]⟩ : ByteArray) ++ ⟨#[32]⟩ ++ thS a ++ ⟨#[32]⟩ ++ thS b ++ ⟨#[32]⟩ ++ thS c = vcS a b c := by
  unfold vcS nmS
  rw [show (⟨#[]⟩ : ByteArray) ++ ⟨#[32]⟩ = ⟨#[32]⟩ from ByteArray.empty_append]
  simp only [ByteArray.append_assoc]
theorem nm_tx {a : Nat} : (⟨#[]⟩ : ByteArray) ++ ⟨#[32]⟩ ++ thS a = nmS a := by
  unfold nmS
  rw [show (⟨#[]⟩ : ByteArray) ++ ⟨#[32]⟩ = ⟨#[32]⟩ from ByteArray.empty_append]
theorem toldVec_f : FnOk Tryz.prog 35 Tryz.f35 := ⟨Tryz.func35, by kernel_rfl⟩
theorem toldVec_a (a b c : Nat) : ACalls Tryz.prog 35 [.agg [.flt a, .flt b, .flt c]] (.tup [.str (vcT a b c), .bool (v3B a b c)]) := by
  refine acalls_of (inl := hasI (P := Tryz.prog) [⟨36, Tryz.f36, Tryz.func36, by kernel_rfl⟩] []) (base [told_k] [⟨36, Tryz.f36, Tryz.func36, by kernel_rfl⟩] []) 4 toldVec_f (And.intro (by kernel_rfl) ?_)
  repeat' (first | refine And.intro ?_ ?_ | (with_reducible exact ff_elim) | (with_reducible exact tf_elim) | refine unr_in 4 ?_ | refine num_lit 0 (by decide) ?_ | refine num_lit 1 (by decide) ?_ | refine num_lit 2 (by decide) ?_ | refine num_lit 3 (by decide) ?_ | refine num_lit 4 (by decide) ?_ | refine num_lit 5 (by decide) ?_ | refine num_lit 6 (by decide) ?_ | refine num_lit 7 (by decide) ?_ | refine num_lit 8 (by decide) ?_ | (intro h; exact absurd h (by decide)) | refine num_elim ?_ | intro _ | (with_reducible rfl) | ((with_reducible refine lk_t ?_); exact rfl) | ((with_reducible refine pf_t ?_); exact rfl) | refine tell ?_ | exact True.intro | (refine IsT.of ?_; kernel_rfl))
  all_goals (try refine Tell.mk ?_)
  all_goals first | with_reducible rfl | with_reducible assumption | ((with_reducible refine okF_t ?_); kernel_rfl) | (show (_ : Int) ≤ _; decide) | (show (_ : Int) < _; decide) | skip
  all_goals (try dsimp only at *)
  all_goals (try simp only [Bool.not_eq_true', Bool.not_eq_false'] at *)
  all_goals (have z1 := thS_sz a; have z2 := thS_sz b; have z3 := thS_sz c)
  all_goals first | exact v3_0 (by assumption) | exact v3_1 (by assumption) (by assumption) | exact v3_2 (by assumption) (by assumption) (by assumption) | exact v3_3 (by assumption) (by assumption) (by assumption) | exact vcT_0 (v3_0 (by assumption)) | exact vcT_0 (v3_1 (by assumption) (by assumption)) | exact vcT_0 (v3_2 (by assumption) (by assumption) (by assumption)) | (rw [vcT_1 (v3_3 (by assumption) (by assumption) (by assumption)), vc_tx]; done) | (simp only [ByteArray.size_append, e1s', e0s]; omega) | trace_state
def toldVec_k : Con Tryz.prog := ⟨35, fun args => match args with | [.agg [.flt a, .flt b, .flt c]] => .ok (none) (.tup [.str (vcT a b c), .bool (v3B a b c)]) | _ => .no, by
  intro args p r h hp
  split at h
  · cases h; exact toldVec_a _ _ _
  · cases h⟩
theorem noughtS_f : FnOk Tryz.prog 85 Tryz.f85 := ⟨Tryz.func85, by kernel_rfl⟩
theorem noughtS_a (a b c : Nat) : ACalls Tryz.prog 85 [.agg [.flt a, .flt b, .flt c]] (.bool (ntB a b c)) := by
  refine acalls_of (inl := hasI (P := Tryz.prog) [] []) (base [] [] []) 0 noughtS_f (And.intro (by kernel_rfl) ?_)
  repeat' (first | refine And.intro ?_ ?_ | (with_reducible exact ff_elim) | (with_reducible exact tf_elim) | refine num_elim ?_ | intro _ | (with_reducible rfl) | ((with_reducible refine lk_t ?_); exact rfl) | ((with_reducible refine pf_t ?_); exact rfl) | refine tell ?_ | exact True.intro | (refine IsT.of ?_; kernel_rfl))
  all_goals (try refine Tell.mk ?_)
  all_goals first | with_reducible rfl | with_reducible assumption | (with_reducible refine gb_t ?_; with_reducible assumption) | (with_reducible refine gb_f ?_; with_reducible assumption) | (unfold ntB; rw [Bool.and_assoc]; done) | (unfold ntB; rfl) | trace_state
def noughtS_k : Con Tryz.prog := ⟨85, fun args => match args with | [.agg [.flt a, .flt b, .flt c]] => .ok (none) (.bool (ntB a b c)) | _ => .no, by
  intro args p r h hp
  split at h
  · cases h; exact noughtS_a _ _ _
  · cases h⟩
theorem toldSkin_f : FnOk Tryz.prog 41 Tryz.f41 := ⟨Tryz.func41, by kernel_rfl⟩
theorem toldSkin_a (k : Int) (hpre : 0 ≤ k ∧ k < 10000000) : ACalls Tryz.prog 41 [.int .i64 k] (.str (skS k)) := by
  refine acalls_of (inl := hasI (P := Tryz.prog) [] []) (base [dec_k] [] []) 0 toldSkin_f (And.intro (by kernel_rfl) ?_)
  have hk := it_len (n := k) ⟨by omega, by omega⟩
  repeat' (first | refine And.intro ?_ ?_ | (with_reducible exact ff_elim) | (with_reducible exact tf_elim) | refine num_elim ?_ | intro _ | (with_reducible rfl) | ((with_reducible refine lk_t ?_); exact rfl) | ((with_reducible refine pf_t ?_); exact rfl) | refine tell ?_ | exact True.intro | (refine IsT.of ?_; kernel_rfl))
  all_goals (try refine Tell.mk ?_)
  all_goals first | with_reducible rfl | with_reducible assumption | omega | exact hpre.1 | exact hpre.2 | (unfold skS; rfl) | (show (2 : Nat) + _ ≤ _; omega) | (simp only [ByteArray.size_append]; show (2 : Nat) + _ + 3 ≤ _; omega) | trace_state
def toldSkin_k : Con Tryz.prog := ⟨41, fun args => match args with | [.int .i64 k] => .ok (some (0 ≤ k ∧ k < 10000000)) (.str (skS k)) | _ => .no, by
  intro args p r h hp
  split at h
  · cases h; exact toldSkin_a _ hp
  · cases h⟩
theorem toldWhole_f : FnOk Tryz.prog 37 Tryz.f37 := ⟨Tryz.func37, by kernel_rfl⟩
theorem toldWhole_a (a b c : Int) (hpre : (0 ≤ a ∧ a < 10000000) ∧ (0 ≤ b ∧ b < 10000000) ∧ (0 ≤ c ∧ c < 10000000)) : ACalls Tryz.prog 37 [.agg [.int .i64 a, .int .i64 b, .int .i64 c]] (.str (ptS a ++ ptS b ++ ptS c)) := by
  refine acalls_of (inl := hasI (P := Tryz.prog) [] []) (base [dec_k] [] []) 0 toldWhole_f (And.intro (by kernel_rfl) ?_)
  obtain ⟨⟨a0, a1⟩, ⟨b0, b1⟩, ⟨c0, c1⟩⟩ := hpre
  have ha := it_len (n := a) ⟨by omega, by omega⟩
  have hb := it_len (n := b) ⟨by omega, by omega⟩
  have hc := it_len (n := c) ⟨by omega, by omega⟩
  repeat' (first | refine And.intro ?_ ?_ | (with_reducible exact ff_elim) | (with_reducible exact tf_elim) | refine num_elim ?_ | intro _ | (with_reducible rfl) | ((with_reducible refine lk_t ?_); exact rfl) | ((with_reducible refine pf_t ?_); exact rfl) | refine tell ?_ | exact True.intro | (refine IsT.of ?_; kernel_rfl))
  all_goals (try refine Tell.mk ?_)
  all_goals first | with_reducible rfl | with_reducible assumption | (show (_ : Int) ≤ _; decide) | (show (_ : Int) < _; decide) | (unfold ptS; simp only [ByteArray.append_assoc]; done) | (simp only [ByteArray.size_append, e1s']; omega) | trace_state
def toldWhole_k : Con Tryz.prog := ⟨37, fun args => match args with | [.agg [.int .i64 a, .int .i64 b, .int .i64 c]] => .ok (some ((0 ≤ a ∧ a < 10000000) ∧ (0 ≤ b ∧ b < 10000000) ∧ (0 ≤ c ∧ c < 10000000))) (.str (ptS a ++ ptS b ++ ptS c)) | _ => .no, by
  intro args p r h hp
  split at h
  · cases h; exact toldWhole_a _ _ _ hp
  · cases h⟩
end Go.Proofs.YtphdjmaebdmdmaaGreatDoor
/- Scenes as text: how the document tells shapes and fields. -/
namespace Go.Proofs.YtphdjmaebdmdmaaGreatDoor
open Go.RowKit Ev
set_option linter.unusedVariables false
set_option linter.unusedSimpArgs false
set_option maxRecDepth 20000
set_option maxHeartbeats 8000000

theorem al_no {p : Shp} {r q : Bool} (hr : thB p.r = r) (hq : thB p.q = q) (h : (!v3B p.a p.b p.c || !v3B p.d p.e p.f || !v3B p.g p.h p.i || !r || !q) = true) : foS p = ⟨#[]⟩ ∧ foB p = false := by
  have : alT p = false := by
    unfold alT
    rw [hr, hq]
    revert h
    cases v3B p.a p.b p.c <;> cases v3B p.d p.e p.f <;> cases v3B p.g p.h p.i <;> cases r <;> cases q <;> decide
  refine ⟨?_, ?_⟩
  · unfold foS; rw [if_neg (by rw [this]; decide)]
  · unfold foB; rw [this]; rfl
structure AlY (p : Shp) : Prop where
  a : v3B p.a p.b p.c = true
  b : v3B p.d p.e p.f = true
  c : v3B p.g p.h p.i = true
  r : thB p.r = true
  q : thB p.q = true
  s : foS p = fST p
  k : foB p = kdB p
theorem al_yes {p : Shp} {r q : Bool} (hr : thB p.r = r) (hq : thB p.q = q) (h : (!v3B p.a p.b p.c || !v3B p.d p.e p.f || !v3B p.g p.h p.i || !r || !q) = false) : AlY p := by
  have : v3B p.a p.b p.c = true ∧ v3B p.d p.e p.f = true ∧ v3B p.g p.h p.i = true ∧ r = true ∧ q = true := by
    revert h
    cases v3B p.a p.b p.c <;> cases v3B p.d p.e p.f <;> cases v3B p.g p.h p.i <;> cases r <;> cases q <;> decide
  obtain ⟨a, b, c, d, e⟩ := this
  have ha : alT p = true := by unfold alT; rw [a, b, c, hr, hq, d, e]; rfl
  refine ⟨a, b, c, hr.trans d, hq.trans e, ?_, ?_⟩
  · unfold foS; rw [if_pos ha]
  · unfold foB; rw [ha]; rfl
theorem kd1 {p : Shp} (h : p.k = 1) : kdB p = (ntB p.d p.e p.f && (ntB p.g p.h p.i && feq p.q 0)) := by unfold kdB; rw [if_pos h]
theorem kd2 {p : Shp} (h : p.k = 2) : kdB p = (ntB p.g p.h p.i && (feq p.r 0 && feq p.q 0)) := by unfold kdB; rw [if_neg (by omega), if_pos h]
theorem kd3 {p : Shp} (h : p.k = 3) : kdB p = (feq p.r 0 && feq p.q 0) := by unfold kdB; rw [if_neg (by omega), if_neg (by omega), if_pos h]
theorem kd4 {p : Shp} (h : p.k = 4) : kdB p = (ntB p.g p.h p.i && feq p.q 0) := by unfold kdB; rw [if_neg (by omega), if_neg (by omega), if_neg (by omega), if_pos h]
theorem kd5 {p : Shp} (h : p.k = 5) : kdB p = (ntB p.g p.h p.i && feq p.q 0) := by unfold kdB; rw [if_neg (by omega), if_neg (by omega), if_neg (by omega), if_neg (by omega), if_pos h]
theorem kd6 {p : Shp} (h : p.k = 6) : kdB p = ntB p.g p.h p.i := by unfold kdB; rw [if_neg (by omega), if_neg (by omega), if_neg (by omega), if_neg (by omega), if_neg (by omega)]
theorem k6_of {k : Int} (h : 1 ≤ k ∧ k ≤ 6) (h1 : (k == 1) = false) (h2 : (k == 2) = false) (h3 : (k == 3) = false) (h4 : (k == 4) = false) (h5 : (k == 5) = false) : k = 6 := by
  simp only [beq_eq_false_iff_ne, ne_eq] at *; omega
theorem toldForm_f : FnOk Tryz.prog 40 Tryz.f40 := ⟨Tryz.func40, by kernel_rfl⟩
theorem toldForm_a (p : Shp) (hpre : 1 ≤ p.k ∧ p.k ≤ 6) : ACalls Tryz.prog 40 [.agg [.int .i64 p.k, .flt p.a, .flt p.b, .flt p.c, .flt p.d, .flt p.e, .flt p.f, .flt p.g, .flt p.h, .flt p.i, .flt p.r, .flt p.q, .int .i64 p.s]] (.tup [.str (foS p), .bool (foB p)]) := by
  refine acalls_of (inl := hasI (P := Tryz.prog) [⟨36, Tryz.f36, Tryz.func36, by kernel_rfl⟩] []) (base [told_k, toldVec_k, noughtS_k] [⟨36, Tryz.f36, Tryz.func36, by kernel_rfl⟩] []) 4 toldForm_f (And.intro (by kernel_rfl) ?_)
  obtain ⟨h1, h6⟩ := hpre
  repeat' (first | refine And.intro ?_ ?_ | (with_reducible exact ff_elim) | (with_reducible exact tf_elim) | refine unr_in 2 ?_ | (intro h; exact absurd h (by decide)) | refine num_elim ?_ | intro _ | (with_reducible rfl) | ((with_reducible refine lk_t ?_); exact rfl) | ((with_reducible refine pf_t ?_); exact rfl) | refine tell ?_ | exact True.intro | (refine IsT.of ?_; kernel_rfl))
  all_goals (try refine Tell.mk ?_)
  all_goals first | with_reducible rfl | with_reducible assumption | (with_reducible refine gb_t ?_; with_reducible assumption) | (with_reducible refine gb_f ?_; with_reducible assumption) | ((with_reducible refine okF_t ?_); kernel_rfl) | (show (_ : Int) ≤ _; decide) | (show (_ : Int) < _; decide) | skip
  all_goals (have z1 := vcT_sz p.a p.b p.c; have z2 := vcT_sz p.d p.e p.f; have z3 := vcT_sz p.g p.h p.i; have z4 := thS_sz p.r; have z5 := thS_sz p.q)
  all_goals first | (simp only [ByteArray.size_append, e1s', e0s]; show (4 : Nat) + _ ≤ _; omega) | skip
  all_goals (try dsimp only at *)
  all_goals (try simp only [Bool.not_eq_true', Bool.not_eq_false'] at *)
  all_goals first | exact (al_no (by assumption) (by assumption) (by assumption)).1 | exact (al_no (by assumption) (by assumption) (by assumption)).2 | skip
  all_goals first | (simp only [ByteArray.size_append, e1s', e0s]; omega) | skip
  all_goals (obtain ⟨va, vb, vc, hr, hq, es, ek⟩ := al_yes (p := p) (by assumption) (by assumption) (by assumption))
  all_goals first | (exfalso; exact absurd (show thB p.r = false by assumption) (by rw [hr]; decide)) | (exfalso; exact absurd (show thB p.q = false by assumption) (by rw [hq]; decide)) | skip
  all_goals try simp only [k_ball_def, k_block_def, k_tri_def, k_plate_def, k_tube_def, k_ring_def, k_radius_def, k_to_def, k_up_def, k_along_def, k_comma_def, nm_tx]
  all_goals (have z6 := nm_sz p.r; have z7 := nm_sz p.q)
  all_goals first | (simp only [ByteArray.size_append, k_ball_sz, k_block_sz, k_tri_sz, k_plate_sz, k_tube_sz, k_ring_sz, k_radius_sz, k_to_sz, k_up_sz, k_along_sz, k_comma_sz]; omega) | skip
  all_goals first | (have hk : p.k = 1 := eq_of_beq (by assumption); first | (rw [es, fST_1 hk, vcT_1 va]; unfold fS1; rfl) | (rw [ek, kd1 hk, Bool.and_assoc])) | (have hk : p.k = 2 := eq_of_beq (by assumption); first | (rw [es, fST_2 hk, vcT_1 va, vcT_1 vb]; unfold fS2; rfl) | (rw [ek, kd2 hk, Bool.and_assoc])) | (have hk : p.k = 3 := eq_of_beq (by assumption); first | (rw [es, fST_3 hk, vcT_1 va, vcT_1 vb, vcT_1 vc]; unfold fS3; rfl) | (rw [ek, kd3 hk])) | (have hk : p.k = 4 := eq_of_beq (by assumption); first | (rw [es, fST_4 hk, vcT_1 va, vcT_1 vb]; unfold fS4; rfl) | (rw [ek, kd4 hk])) | (have hk : p.k = 5 := eq_of_beq (by assumption); first | (rw [es, fST_5 hk, vcT_1 va, vcT_1 vb]; unfold fS5; rfl) | (rw [ek, kd5 hk])) | (have hk : p.k = 6 := k6_of ⟨h1, h6⟩ (by assumption) (by assumption) (by assumption) (by assumption) (by assumption); first | (rw [es, fST_6 hk, vcT_1 va, vcT_1 vb]; unfold fS6; rfl) | (rw [ek, kd6 hk])) | trace_state
def toldForm_k : Con Tryz.prog := ⟨40, fun args => match args with | [.agg [.int .i64 kd, .flt a0, .flt a1, .flt a2, .flt b0, .flt b1, .flt b2, .flt c0, .flt c1, .flt c2, .flt r, .flt q, .int .i64 s]] => .ok (some (1 ≤ kd ∧ kd ≤ 6)) (.tup [.str (foS ⟨kd, a0, a1, a2, b0, b1, b2, c0, c1, c2, r, q, s⟩), .bool (foB ⟨kd, a0, a1, a2, b0, b1, b2, c0, c1, c2, r, q, s⟩)]) | _ => .no, by
  intro args p r h hp
  split at h
  · cases h; exact toldForm_a ⟨_, _, _, _, _, _, _, _, _, _, _, _, _⟩ hp
  · cases h⟩
theorem k_side_blank : (⟨#[32, 115, 105, 100, 101, 32]⟩ : ByteArray) = k_side ++ ⟨#[32]⟩ := by unfold k_side; rfl
/-- A field, up to its heights. -/
@[irreducible] def fdT (W H : Int) (a b c d : Nat) : ByteArray := fdS W H ++ (vcT a b c ++ (k_side ++ (nmS d ++ k_high)))
theorem fdT_sz {W H : Int} (hW : In64 W) (hH : In64 H) (a b c d : Nat) : (fdT W H a b c d).size ≤ 182 := by
  have z1 := fd_sz hW hH
  have z2 := vcT_sz a b c
  have z3 := nm_sz d
  unfold fdT
  simp only [ByteArray.size_append, k_side_sz, k_high_sz]; omega
theorem fd_tx (W H : Int) (a b c d : Nat) : fdS W H ++ vcT a b c ++ (k_side ++ ⟨#[32]⟩) ++ thS d ++ k_high = fdT W H a b c d := by
  unfold fdT nmS
  simp only [ByteArray.append_assoc]
theorem hi_tx (X : ByteArray) (F : Nat → Int) (i : Nat) : X ++ hiS F (i + 1) = X ++ hiS F i ++ ⟨#[32]⟩ ++ thS (milF (F i)) := by
  rw [hi_s]
  unfold nmS
  simp only [ByteArray.append_assoc]
theorem toldField_f : FnOk Tryz.prog 43 Tryz.f43 := ⟨Tryz.func43, by kernel_rfl⟩
theorem toldField_a (W H : Int) (a b c d : Nat) (m : Nat) (F : Nat → Int) (k : Int) (hpre : (0 ≤ W ∧ W < 10000000) ∧ (0 ≤ H ∧ H < 10000000) ∧ (0 ≤ k ∧ k < 10000000) ∧ m ≤ 100) : ACalls Tryz.prog 43 [.agg [.int .i64 W, .int .i64 H, .flt a, .flt b, .flt c, .flt d, ints .i64 m F, .int .i64 k]] (.tup [.str (fdT W H a b c d ++ hiS F m ++ skS k), .bool (v3B a b c && thB d)]) := by
  refine acalls_of (inl := hasI (P := Tryz.prog) [⟨39, Tryz.f39, Tryz.func39, by kernel_rfl⟩] []) (base [dec_k, told_k, toldVec_k, toldSkin_k] [⟨39, Tryz.f39, Tryz.func39, by kernel_rfl⟩] []) 4 toldField_f (And.intro (by kernel_rfl) ?_)
  obtain ⟨hW, hH, hk, hm⟩ := hpre
  have iW := in64_iff.2 (show -9223372036854775808 ≤ W ∧ W ≤ 9223372036854775807 by omega)
  have iH := in64_iff.2 (show -9223372036854775808 ≤ H ∧ H ≤ 9223372036854775807 by omega)
  have ik := in64_iff.2 (show -9223372036854775808 ≤ k ∧ k ≤ 9223372036854775807 by omega)
  have lW := it_len (n := W) (in64_iff.1 iW)
  have lH := it_len (n := H) (in64_iff.1 iH)
  have z1 := fd_sz iW iH
  have z2 := vcT_sz a b c
  have z3 := thS_sz d
  have z4 := fdT_sz iW iH a b c d
  have z5 := hi_sz F
  have z6 := fun i => thS_sz (milF (F i))
  have z7 := sk_sz ik
  repeat' (first | refine And.intro ?_ ?_ | (with_reducible exact ff_elim) | (with_reducible exact tf_elim) | refine num_elim ?_ | intro _ | (with_reducible rfl) | ((with_reducible refine lk_t ?_); exact rfl) | ((with_reducible refine pf_t ?_); exact rfl) | refine tell ?_ | exact True.intro | (refine IsT.of ?_; kernel_rfl))
  all_goals (try (refine loop_keep [1, 5, 7] [0] ?_; refine LoopI.mk (FdI m) (fun j => [(8, .str (fdT W H a b c d ++ hiS F j.i)), (9, .int .i64 j.i)]) (fun j => []) (fun j => m - j.i) (⟨0, Nat.zero_le _⟩) (wk_mk [some 0] ?_) (fun ⟨i, hi⟩ => ?_)))
  repeat' (first | refine And.intro ?_ ?_ | (with_reducible exact ff_elim) | (with_reducible exact tf_elim) | refine stp_mk [some 0] ((⟨i + 1, ?_⟩ : FdI m)) ?_ ?_ | refine num_elim ?_ | intro _ | (with_reducible rfl) | ((with_reducible refine lk_t ?_); exact rfl) | ((with_reducible refine pf_t ?_); exact rfl) | refine tell ?_ | exact True.intro | (refine IsT.of ?_; kernel_rfl))
  all_goals (try refine Tell.mk ?_)
  all_goals first | with_reducible rfl | with_reducible assumption | (with_reducible refine gb_t ?_; with_reducible assumption) | (with_reducible refine gb_f ?_; with_reducible assumption) | ((with_reducible refine okF_t ?_); kernel_rfl) | (show (0 : Nat) < _; decide) | omega | skip
  all_goals (try dsimp only at *)
  all_goals (try simp only [mul1, mil_def, decide_eq_true_eq, decide_eq_false_iff_not, k_side_blank, k_high_def] at *)
  all_goals first | omega | (simp only [fd_def, fd_tx]; exact ByteArray.append_empty) | (simp only [ByteArray.size_append, e6f, e1s, e3a, k_side_sz, k_high_sz]; omega) | (have := z5 i; have := z6 i; simp only [ByteArray.size_append, e1s]; omega) | (rw [wrapI (by omega) (by omega)]; rfl) | exact hi_tx _ F i | (have e : i = m := (by omega); rw [e]) | trace_state
def toldField_r (W H : Int) (a b c d : Nat) (m : Nat) (F : Nat → Int) (k : Int) : AV := .tup [.str (fdT W H a b c d ++ hiS F m ++ skS k), .bool (v3B a b c && thB d)]
def toldField_p (W H : Int) (a b c d : Nat) (m : Nat) (F : Nat → Int) (k : Int) : Prop := (0 ≤ W ∧ W < 10000000) ∧ (0 ≤ H ∧ H < 10000000) ∧ (0 ≤ k ∧ k < 10000000) ∧ m ≤ 100
def toldField_k : Con Tryz.prog := ⟨43, fun args => match args with | [.agg [.int .i64 W, .int .i64 H, .flt a, .flt b, .flt c, .flt d, .sl m 1 g_F, .int .i64 k]] => .ok (some (IsI .i64 g_F ∧ toldField_p W H a b c d m (intF g_F) k)) (toldField_r W H a b c d m (intF g_F) k) | _ => .no, by
  intro args p r h hp
  split at h
  · cases h; obtain ⟨h_F, hp⟩ := hp; have e_F := h_F.eq; rw [e_F]; exact toldField_a _ _ _ _ _ _ _ _ _ hp
  · cases h⟩
end Go.Proofs.YtphdjmaebdmdmaaGreatDoor
/- Scenes as text: how the document tells a solid's parts. -/
namespace Go.Proofs.YtphdjmaebdmdmaaGreatDoor
open Go.RowKit Ev
set_option linter.unusedVariables false
set_option linter.unusedSimpArgs false
set_option maxRecDepth 20000
set_option maxHeartbeats 8000000

theorem foS_sz (p : Shp) : (foS p).size ≤ 400 := by
  unfold foS; split
  · exact fST_sz p
  · show 0 ≤ 400; omega
theorem dD_sz {Q : Nat → Prt} {m : Nat} (h : SolK Q m) (hm : m ≤ 16) : ∀ k, k < m → ∀ fr de : Int, (dD Q k fr de).1.size ≤ 420 * tC Q k := by
  intro k
  induction k using Nat.strongRecOn with
  | ind k ih =>
    intro hk fr de
    by_cases e : (Q k).op = 0
    · rw [dD_0 e, tC_0 e]
      have := foS_sz (Q k).p
      show (foS (Q k).p).size ≤ _
      omega
    · obtain ⟨⟨a1, b1⟩, ⟨c1, d1⟩⟩ := solk1 h hk e
      rw [dD_1 h hm hk e, tC_1 h hm hk e]
      have il := ih (Q k).l.toNat (by omega) (by omega)
      have im := ih (Q k).m.toNat (by omega) (by omega)
      have z0 : (noD).1.size ≤ 420 * (tC Q (Q k).l.toNat + tC Q (Q k).m.toNat + 1) := Nat.zero_le _
      split
      · exact z0
      · split
        · exact z0
        · split
          · exact z0
          · have q1 := il fr (de + 1)
            have q2 := im ((Q k).l + 1) (de + 1)
            have z := opS_sz (Q k).op
            show (opS (Q k).op ++ _).size ≤ _
            simp only [ByteArray.size_append, k_sp_sz, k_cl_sz]
            omega
def docR (Q : Nat → Prt) (k fr de : Int) : AV := .tup [.str (dD Q k.toNat fr de).1, .int .i64 (dD Q k.toNat fr de).2.1, .bool (dD Q k.toNat fr de).2.2]
def doc_p (B : Nat) (k fr de : Int) : Prop := (0 ≤ k ∧ k < B) ∧ (0 ≤ fr ∧ fr ≤ 1000) ∧ (0 ≤ de ∧ de ≤ 3)
def DocTo (Q : Nat → Prt) (m B : Nat) : Prop := ∀ k fr de : Int, doc_p B k fr de → ACalls Tryz.prog 42 [.sl m 16 (partF Q), .int .i64 k, .int .i64 fr, .int .i64 de] (docR Q k fr de)
def docC (Q : Nat → Prt) (m B : Nat) (hB : DocTo Q m B) : Con Tryz.prog := ⟨42, fun args => match args with | [.sl m' 16 g, .int .i64 k, .int .i64 fr, .int .i64 de] => .ok (some ((m' = m ∧ g = partF Q) ∧ doc_p B k fr de)) (docR Q k fr de) | _ => .no, by
  intro args p r h hp
  split at h
  · cases h; obtain ⟨⟨rfl, rfl⟩, hq⟩ := hp; exact hB _ _ _ hq
  · cases h⟩
theorem dpart0_f : FnOk Tryz.prog 42 Tryz.f42 := ⟨Tryz.func42, by kernel_rfl⟩
theorem dpart0_a (m : Nat) (Q : Nat → Prt) (k fr de : Int) (hpre : (0 ≤ k ∧ k < m ∧ m ≤ 16) ∧ (Q k.toNat).op = 0 ∧ 1 ≤ (Q k.toNat).p.k ∧ (Q k.toNat).p.k ≤ 6) : ACalls Tryz.prog 42 [.sl m 16 (partF Q), .int .i64 k, .int .i64 fr, .int .i64 de] (.tup [.str (foS (Q k.toNat).p), .int .i64 fr, .bool (foB (Q k.toNat).p && (k == fr && ((Q k.toNat).l == 0 && ((Q k.toNat).m == 0 && (Q k.toNat).p.s == 0))))]) := by
  refine acalls_of (inl := hasI (P := Tryz.prog) [] []) (base [toldForm_k] [] []) 0 dpart0_f (And.intro (by kernel_rfl) ?_)
  obtain ⟨⟨h3, h4, h5⟩, h8, h9, h10⟩ := hpre
  repeat' (first | refine And.intro ?_ ?_ | (with_reducible exact ff_elim) | (with_reducible exact tf_elim) | refine view_op h3 h8 ?_ | (intro h; exact absurd h (by decide)) | refine num_elim ?_ | intro _ | (with_reducible rfl) | ((with_reducible refine lk_t ?_); exact rfl) | ((with_reducible refine pf_t ?_); exact rfl) | refine tell ?_ | exact True.intro | (refine IsT.of ?_; kernel_rfl))
  all_goals (try refine Tell.mk ?_)
  all_goals first | with_reducible rfl | with_reducible assumption | (with_reducible refine gb_t ?_; with_reducible assumption) | (with_reducible refine gb_f ?_; with_reducible assumption) | ((with_reducible refine okF_t ?_); kernel_rfl) | skip
  all_goals (try dsimp only at *)
  all_goals first | with_reducible rfl | omega | exact Nat.le_refl 16 | (simp only [Bool.and_assoc]; done) | rfl | trace_state
structure DpH (Q : Nat → Prt) (m B : Nat) (k fr de : Int) (c : Int) : Prop where
  p : doc_p (B + 1) k fr de
  s : SolP Q m
  b : B < m
  e : k = B
  o : (Q k.toNat).op = c
structure DdK (A : ByteArray × Int × Bool) (l : Int) : Prop where
  h : A.2.2 = true ∧ A.2.1 = l
structure DdE (X A B T : ByteArray × Int × Bool) (de l fr mm k1 : Int) (sh : Bool) : Prop where
  h : X = if de = 3 ∨ sh = true ∨ l < fr ∨ ¬ mm = k1 then noD else if A.2.2 = false ∨ ¬ A.2.1 = l then noD else if B.2.2 = false ∨ ¬ B.2.1 = mm then noD else T
section
variable {X A B T : ByteArray × Int × Bool} {de l fr mm k1 : Int} {sh : Bool} (eD : DdE X A B T de l fr mm k1 sh)
theorem dd_h (h : (!A.2.2 || A.2.1 != l) = false) : DdK A l := by
  simp only [Bool.or_eq_false_iff, Bool.not_eq_false', bne_eq_false_iff_eq] at h; exact ⟨h⟩
theorem dd_n (h : DdK A l) : ¬ (A.2.2 = false ∨ ¬ A.2.1 = l) := by
  rintro (c | c)
  · rw [h.h.1] at c; cases c
  · exact c h.h.2
theorem dd_c (h : (de == 3 || sh || decide (l < fr) || mm != k1) = false) : ¬ (de = 3 ∨ sh = true ∨ l < fr ∨ ¬ mm = k1) := by
  simp only [Bool.or_eq_false_iff, beq_eq_false_iff_ne, decide_eq_false_iff_not, bne_eq_false_iff_eq] at h
  rintro (c | c | c | c)
  · exact h.1.1.1 c
  · rw [h.1.1.2] at c; cases c
  · exact h.1.2 c
  · exact c h.2
include eD
theorem dd_no1 (h : (de == 3 || sh || decide (l < fr) || mm != k1) = true) : X = noD := by
  rw [eD.h, if_pos]
  simp only [Bool.or_eq_true, beq_iff_eq, decide_eq_true_eq, bne_iff_ne] at h
  rcases h with ((h | h) | h) | h
  · exact .inl h
  · exact .inr (.inl h)
  · exact .inr (.inr (.inl h))
  · exact .inr (.inr (.inr h))
theorem dd_no2 (h : (de == 3 || sh || decide (l < fr) || mm != k1) = false) (h2 : (!A.2.2 || A.2.1 != l) = true) : X = noD := by
  rw [eD.h, if_neg (dd_c h), if_pos]
  simp only [Bool.or_eq_true, Bool.not_eq_true', bne_iff_ne] at h2
  exact h2
theorem dd_no3 (h : (de == 3 || sh || decide (l < fr) || mm != k1) = false) (h2 : DdK A l) (h3 : (!B.2.2 || B.2.1 != mm) = true) : X = noD := by
  rw [eD.h, if_neg (dd_c h), if_neg (dd_n h2), if_pos]
  simp only [Bool.or_eq_true, Bool.not_eq_true', bne_iff_ne] at h3
  exact h3
theorem dd_yes (h : (de == 3 || sh || decide (l < fr) || mm != k1) = false) (h2 : DdK A l) (h3 : (!B.2.2 || B.2.1 != mm) = false) : X = T := by
  rw [eD.h, if_neg (dd_c h), if_neg (dd_n h2), if_neg (dd_n (dd_h h3))]
omit eD in
theorem dd_de (h : (de == 3 || sh || decide (l < fr) || mm != k1) = false) : ¬ de = 3 := fun c => dd_c h (.inl c)
end
theorem dop1_def : (⟨#[98, 111, 116, 104]⟩ : ByteArray) ++ ⟨#[32, 123, 32]⟩ = opS 1 := op1_def
theorem dpart1_f : FnOk Tryz.prog 42 Tryz.f42 := ⟨Tryz.func42, by kernel_rfl⟩
theorem dpart1_a (m : Nat) (Q : Nat → Prt) (B : Nat) (hB : DocTo Q m B) (k fr de : Int) (hpre : DpH Q m B k fr de 1) : ACalls Tryz.prog 42 [.sl m 16 (partF Q), .int .i64 k, .int .i64 fr, .int .i64 de] (docR Q k fr de) := by
  refine acalls_of (inl := hasI (P := Tryz.prog) [] []) (base [(docC Q m B hB)] [] []) 0 dpart1_f (And.intro (by kernel_rfl) ?_)
  obtain ⟨⟨⟨h3, h4⟩, ⟨f0, f1⟩, ⟨g0, g1⟩⟩, hS, hBm, hkB, h8⟩ := hpre
  have hkm : k.toNat < m := by omega
  have hop : ¬ (Q k.toNat).op = 0 := by omega
  have hm16 := hS.m16
  obtain ⟨⟨l0, l1⟩, ⟨m0, m1⟩⟩ := solk1 hS.ord hkm hop
  have ek : ((k.toNat : Nat) : Int) = k := by omega
  have eD := dD_1 (fr := fr) (de := de) hS.ord hS.m16 hkm hop
  rw [ek, h8] at eD
  replace eD : DdE _ _ _ _ _ _ _ _ _ _ := ⟨eD⟩
  have s1 := dD_sz hS.ord hS.m16 (Q k.toNat).l.toNat (by omega)
  have s2 := dD_sz hS.ord hS.m16 (Q k.toNat).m.toNat (by omega)
  have c1 := Nat.le_trans (tC_le hS.ord hS.m16 (Q k.toNat).l.toNat (by omega)) (Nat.pow_le_pow_right (show 0 < 2 by omega) (show (Q k.toNat).l.toNat + 1 ≤ 16 by omega))
  have c2 := Nat.le_trans (tC_le hS.ord hS.m16 (Q k.toNat).m.toNat (by omega)) (Nat.pow_le_pow_right (show 0 < 2 by omega) (show (Q k.toNat).m.toNat + 1 ≤ 16 by omega))
  have c3 : (2 : Nat) ^ 16 = 65536 := by decide
  rw [c3] at c1 c2
  have w1 := wrapI (x := de + 1) (by omega) (by omega)
  have w2 := wrapI (x := k - 1) (by omega) (by omega)
  have w3 := wrapI (x := (Q k.toNat).l + 1) (by omega) (by omega)
  have zz := opS_sz 1
  repeat' (first | refine And.intro ?_ ?_ | (with_reducible exact ff_elim) | (with_reducible exact tf_elim) | refine view_op h3 h8 ?_ | (intro h; exact absurd h (by decide)) | refine num_elim ?_ | intro _ | (with_reducible rfl) | ((with_reducible refine lk_t ?_); exact rfl) | ((with_reducible refine pf_t ?_); exact rfl) | refine tell ?_ | exact True.intro | (refine IsT.of ?_; kernel_rfl))
  all_goals (try refine Tell.mk ?_)
  all_goals first | with_reducible rfl | with_reducible assumption | (with_reducible refine gb_t ?_; with_reducible assumption) | (with_reducible refine gb_f ?_; with_reducible assumption) | ((with_reducible refine okF_t ?_); kernel_rfl) | exact Nat.le_refl 16 | (show (_ : Int) ≤ _; decide) | (show (_ : Int) < _; decide) | (show (4 : Nat) + 3 ≤ _; decide) | skip
  all_goals (try dsimp only at *)
  all_goals (try simp only [shN_def, w1, w2, dop1_def, k_sp_def, k_cl_def] at *)
  all_goals first | omega | (have hd := dd_de (by assumption); omega) | skip
  all_goals first | (rw [dd_no1 eD (by assumption)]; rfl) | (rw [dd_no2 eD (by assumption) (by assumption)]; rfl) | skip
  all_goals (have hl := dd_h (A := dD Q (Q k.toNat).l.toNat fr (de + 1)) (by assumption))
  all_goals (try simp only [hl.h.2, w3] at *)
  all_goals first | omega | (have hd := dd_de (by assumption); omega) | skip
  all_goals first | (rw [dd_no3 eD (by assumption) hl (by assumption)]; rfl) | skip
  all_goals (have q1 := s1 fr (de + 1); have q2 := s2 ((Q k.toNat).l + 1) (de + 1))
  all_goals first | omega | (simp only [ByteArray.size_append, k_sp_sz, k_cl_sz]; omega) | skip
  all_goals (have eY := dd_yes eD (by assumption) hl (by assumption); rw [eY])
  all_goals first | rfl | (simp only [ByteArray.append_assoc]; done) | trace_state
theorem dop2_def : (⟨#[101, 105, 116, 104, 101, 114]⟩ : ByteArray) ++ ⟨#[32, 123, 32]⟩ = opS 2 := op2_def
theorem dpart2_f : FnOk Tryz.prog 42 Tryz.f42 := ⟨Tryz.func42, by kernel_rfl⟩
theorem dpart2_a (m : Nat) (Q : Nat → Prt) (B : Nat) (hB : DocTo Q m B) (k fr de : Int) (hpre : DpH Q m B k fr de 2) : ACalls Tryz.prog 42 [.sl m 16 (partF Q), .int .i64 k, .int .i64 fr, .int .i64 de] (docR Q k fr de) := by
  refine acalls_of (inl := hasI (P := Tryz.prog) [] []) (base [(docC Q m B hB)] [] []) 0 dpart2_f (And.intro (by kernel_rfl) ?_)
  obtain ⟨⟨⟨h3, h4⟩, ⟨f0, f1⟩, ⟨g0, g1⟩⟩, hS, hBm, hkB, h8⟩ := hpre
  have hkm : k.toNat < m := by omega
  have hop : ¬ (Q k.toNat).op = 0 := by omega
  have hm16 := hS.m16
  obtain ⟨⟨l0, l1⟩, ⟨m0, m1⟩⟩ := solk1 hS.ord hkm hop
  have ek : ((k.toNat : Nat) : Int) = k := by omega
  have eD := dD_1 (fr := fr) (de := de) hS.ord hS.m16 hkm hop
  rw [ek, h8] at eD
  replace eD : DdE _ _ _ _ _ _ _ _ _ _ := ⟨eD⟩
  have s1 := dD_sz hS.ord hS.m16 (Q k.toNat).l.toNat (by omega)
  have s2 := dD_sz hS.ord hS.m16 (Q k.toNat).m.toNat (by omega)
  have c1 := Nat.le_trans (tC_le hS.ord hS.m16 (Q k.toNat).l.toNat (by omega)) (Nat.pow_le_pow_right (show 0 < 2 by omega) (show (Q k.toNat).l.toNat + 1 ≤ 16 by omega))
  have c2 := Nat.le_trans (tC_le hS.ord hS.m16 (Q k.toNat).m.toNat (by omega)) (Nat.pow_le_pow_right (show 0 < 2 by omega) (show (Q k.toNat).m.toNat + 1 ≤ 16 by omega))
  have c3 : (2 : Nat) ^ 16 = 65536 := by decide
  rw [c3] at c1 c2
  have w1 := wrapI (x := de + 1) (by omega) (by omega)
  have w2 := wrapI (x := k - 1) (by omega) (by omega)
  have w3 := wrapI (x := (Q k.toNat).l + 1) (by omega) (by omega)
  have zz := opS_sz 2
  repeat' (first | refine And.intro ?_ ?_ | (with_reducible exact ff_elim) | (with_reducible exact tf_elim) | refine view_op h3 h8 ?_ | (intro h; exact absurd h (by decide)) | refine num_elim ?_ | intro _ | (with_reducible rfl) | ((with_reducible refine lk_t ?_); exact rfl) | ((with_reducible refine pf_t ?_); exact rfl) | refine tell ?_ | exact True.intro | (refine IsT.of ?_; kernel_rfl))
  all_goals (try refine Tell.mk ?_)
  all_goals first | with_reducible rfl | with_reducible assumption | (with_reducible refine gb_t ?_; with_reducible assumption) | (with_reducible refine gb_f ?_; with_reducible assumption) | ((with_reducible refine okF_t ?_); kernel_rfl) | exact Nat.le_refl 16 | (show (_ : Int) ≤ _; decide) | (show (_ : Int) < _; decide) | (show (6 : Nat) + 3 ≤ _; decide) | skip
  all_goals (try dsimp only at *)
  all_goals (try simp only [shN_def, w1, w2, dop2_def, k_sp_def, k_cl_def] at *)
  all_goals first | omega | (have hd := dd_de (by assumption); omega) | skip
  all_goals first | (rw [dd_no1 eD (by assumption)]; rfl) | (rw [dd_no2 eD (by assumption) (by assumption)]; rfl) | skip
  all_goals (have hl := dd_h (A := dD Q (Q k.toNat).l.toNat fr (de + 1)) (by assumption))
  all_goals (try simp only [hl.h.2, w3] at *)
  all_goals first | omega | (have hd := dd_de (by assumption); omega) | skip
  all_goals first | (rw [dd_no3 eD (by assumption) hl (by assumption)]; rfl) | skip
  all_goals (have q1 := s1 fr (de + 1); have q2 := s2 ((Q k.toNat).l + 1) (de + 1))
  all_goals first | omega | (simp only [ByteArray.size_append, k_sp_sz, k_cl_sz]; omega) | skip
  all_goals (have eY := dd_yes eD (by assumption) hl (by assumption); rw [eY])
  all_goals first | rfl | (simp only [ByteArray.append_assoc]; done) | trace_state
theorem dop3_def : (⟨#[108, 101, 115, 115]⟩ : ByteArray) ++ ⟨#[32, 123, 32]⟩ = opS 3 := op3_def
theorem dpart3_f : FnOk Tryz.prog 42 Tryz.f42 := ⟨Tryz.func42, by kernel_rfl⟩
theorem dpart3_a (m : Nat) (Q : Nat → Prt) (B : Nat) (hB : DocTo Q m B) (k fr de : Int) (hpre : DpH Q m B k fr de 3) : ACalls Tryz.prog 42 [.sl m 16 (partF Q), .int .i64 k, .int .i64 fr, .int .i64 de] (docR Q k fr de) := by
  refine acalls_of (inl := hasI (P := Tryz.prog) [] []) (base [(docC Q m B hB)] [] []) 0 dpart3_f (And.intro (by kernel_rfl) ?_)
  obtain ⟨⟨⟨h3, h4⟩, ⟨f0, f1⟩, ⟨g0, g1⟩⟩, hS, hBm, hkB, h8⟩ := hpre
  have hkm : k.toNat < m := by omega
  have hop : ¬ (Q k.toNat).op = 0 := by omega
  have hm16 := hS.m16
  obtain ⟨⟨l0, l1⟩, ⟨m0, m1⟩⟩ := solk1 hS.ord hkm hop
  have ek : ((k.toNat : Nat) : Int) = k := by omega
  have eD := dD_1 (fr := fr) (de := de) hS.ord hS.m16 hkm hop
  rw [ek, h8] at eD
  replace eD : DdE _ _ _ _ _ _ _ _ _ _ := ⟨eD⟩
  have s1 := dD_sz hS.ord hS.m16 (Q k.toNat).l.toNat (by omega)
  have s2 := dD_sz hS.ord hS.m16 (Q k.toNat).m.toNat (by omega)
  have c1 := Nat.le_trans (tC_le hS.ord hS.m16 (Q k.toNat).l.toNat (by omega)) (Nat.pow_le_pow_right (show 0 < 2 by omega) (show (Q k.toNat).l.toNat + 1 ≤ 16 by omega))
  have c2 := Nat.le_trans (tC_le hS.ord hS.m16 (Q k.toNat).m.toNat (by omega)) (Nat.pow_le_pow_right (show 0 < 2 by omega) (show (Q k.toNat).m.toNat + 1 ≤ 16 by omega))
  have c3 : (2 : Nat) ^ 16 = 65536 := by decide
  rw [c3] at c1 c2
  have w1 := wrapI (x := de + 1) (by omega) (by omega)
  have w2 := wrapI (x := k - 1) (by omega) (by omega)
  have w3 := wrapI (x := (Q k.toNat).l + 1) (by omega) (by omega)
  have zz := opS_sz 3
  repeat' (first | refine And.intro ?_ ?_ | (with_reducible exact ff_elim) | (with_reducible exact tf_elim) | refine view_op h3 h8 ?_ | (intro h; exact absurd h (by decide)) | refine num_elim ?_ | intro _ | (with_reducible rfl) | ((with_reducible refine lk_t ?_); exact rfl) | ((with_reducible refine pf_t ?_); exact rfl) | refine tell ?_ | exact True.intro | (refine IsT.of ?_; kernel_rfl))
  all_goals (try refine Tell.mk ?_)
  all_goals first | with_reducible rfl | with_reducible assumption | (with_reducible refine gb_t ?_; with_reducible assumption) | (with_reducible refine gb_f ?_; with_reducible assumption) | ((with_reducible refine okF_t ?_); kernel_rfl) | exact Nat.le_refl 16 | (show (_ : Int) ≤ _; decide) | (show (_ : Int) < _; decide) | (show (4 : Nat) + 3 ≤ _; decide) | skip
  all_goals (try dsimp only at *)
  all_goals (try simp only [shN_def, w1, w2, dop3_def, k_sp_def, k_cl_def] at *)
  all_goals first | omega | (have hd := dd_de (by assumption); omega) | skip
  all_goals first | (rw [dd_no1 eD (by assumption)]; rfl) | (rw [dd_no2 eD (by assumption) (by assumption)]; rfl) | skip
  all_goals (have hl := dd_h (A := dD Q (Q k.toNat).l.toNat fr (de + 1)) (by assumption))
  all_goals (try simp only [hl.h.2, w3] at *)
  all_goals first | omega | (have hd := dd_de (by assumption); omega) | skip
  all_goals first | (rw [dd_no3 eD (by assumption) hl (by assumption)]; rfl) | skip
  all_goals (have q1 := s1 fr (de + 1); have q2 := s2 ((Q k.toNat).l + 1) (de + 1))
  all_goals first | omega | (simp only [ByteArray.size_append, k_sp_sz, k_cl_sz]; omega) | skip
  all_goals (have eY := dd_yes eD (by assumption) hl (by assumption); rw [eY])
  all_goals first | rfl | (simp only [ByteArray.append_assoc]; done) | trace_state
theorem doc_all {Q : Nat → Prt} {m : Nat} (hS : SolP Q m) : ∀ B, B ≤ m → DocTo Q m B := by
  intro B
  induction B with
  | zero => intro _ k fr de h; obtain ⟨⟨h3, h4⟩, _⟩ := h; omega
  | succ B ih =>
    intro hB k fr de h
    have hT := ih (by omega)
    by_cases hk : k < B
    · exact hT k fr de ⟨⟨h.1.1, hk⟩, h.2.1, h.2.2⟩
    · have h' := h
      obtain ⟨⟨h3, h4⟩, hf, hd⟩ := h'
      have hkB : k = B := by omega
      have hkm : k.toNat < m := by omega
      have ho := hS.ops k.toNat hkm
      have hc : (Q k.toNat).op = 0 ∨ (Q k.toNat).op = 1 ∨ (Q k.toNat).op = 2 ∨ (Q k.toNat).op = 3 := by omega
      rcases hc with e | e | e | e
      · have hk6 := hS.kin k.toNat hkm e
        have a := dpart0_a m Q k fr de ⟨⟨h3, by omega, hS.m16⟩, e, hk6.1, hk6.2⟩
        unfold docR
        rw [dD_0 e, show ((k.toNat : Nat) : Int) = k by omega]
        exact a
      · exact dpart1_a m Q B hT k fr de ⟨h, hS, by omega, hkB, e⟩
      · exact dpart2_a m Q B hT k fr de ⟨h, hS, by omega, hkB, e⟩
      · exact dpart3_a m Q B hT k fr de ⟨h, hS, by omega, hkB, e⟩
end Go.Proofs.YtphdjmaebdmdmaaGreatDoor
/- Scenes as text: what is told of a scene (plain). -/
namespace Go.Proofs.YtphdjmaebdmdmaaGreatDoor
open Go.RowKit Ev
set_option linter.unusedVariables false
set_option linter.unusedSimpArgs false
set_option maxRecDepth 20000
set_option maxHeartbeats 4000000

structure SkOk (k : Skn) : Prop where
  a : 0 ≤ k.a ∧ k.a ≤ 1000
  b : 0 ≤ k.b ∧ k.b ≤ 1000
  c : 0 ≤ k.c ∧ k.c ≤ 1000
  d : 0 ≤ k.d ∧ k.d ≤ 1000
  e : 0 ≤ k.e ∧ k.e ≤ 1000
  f : 0 ≤ k.f ∧ k.f ≤ 1000
  g : 0 ≤ k.g ∧ k.g ≤ 1000
  h : 0 ≤ k.h ∧ k.h ≤ 1000
  i : 0 ≤ k.i ∧ k.i ≤ 1000
  n : 100 ≤ k.n ∧ k.n ≤ 10000
theorem sk_ok {k : Skn} (h : k.err = 0) : SkOk k := by
  unfold Skn.err skinE at h
  split at h
  · rename_i q
    obtain ⟨q1, q2, q3, q4, q5⟩ := q
    unfold skin3 at q1 q2 q3
    exact ⟨⟨by omega, by omega⟩, ⟨by omega, by omega⟩, ⟨by omega, by omega⟩, ⟨by omega, by omega⟩, ⟨by omega, by omega⟩, ⟨by omega, by omega⟩, ⟨by omega, by omega⟩, ⟨by omega, by omega⟩, ⟨by omega, by omega⟩, ⟨q4, q5⟩⟩
  · cases h
theorem shp_ok {p : Shp} (h : p.err = 0) : (1 ≤ p.k ∧ p.k ≤ 6) ∧ (0 ≤ p.s ∧ p.s < 16) := by
  unfold Shp.err shapeE at h
  cases h1 : (decide (p.s < 0) || decide (16 ≤ p.s)) with
  | true => rw [h1] at h; cases h
  | false =>
    rw [h1, cond_false] at h
    simp only [Bool.or_eq_false_iff, decide_eq_false_iff_not] at h1
    refine ⟨?_, by omega⟩
    cases h2 : (!(fineB p.a p.b p.c) || (!(fineB p.d p.e p.f) || (!(fineB p.g p.h p.i) || (!(nearB p.r) || !(nearB p.q))))) with
    | true => rw [h2] at h; cases h
    | false =>
      rw [h2, cond_false] at h
      by_cases k1 : p.k = 1
      · omega
      rw [show (p.k == 1) = false from beq_eq_false_iff_ne.2 k1, cond_false] at h
      by_cases k2 : p.k = 2
      · omega
      rw [show (p.k == 2) = false from beq_eq_false_iff_ne.2 k2, cond_false] at h
      by_cases k3 : p.k = 3
      · omega
      rw [show (p.k == 3) = false from beq_eq_false_iff_ne.2 k3, cond_false] at h
      by_cases k4 : p.k = 4
      · omega
      rw [show (p.k == 4) = false from beq_eq_false_iff_ne.2 k4, cond_false] at h
      by_cases k5 : p.k = 5
      · omega
      rw [show (p.k == 5) = false from beq_eq_false_iff_ne.2 k5, cond_false] at h
      by_cases k6 : p.k = 6
      · omega
      rw [show (p.k == 6) = false from beq_eq_false_iff_ne.2 k6, cond_false] at h
      cases h
theorem fld_ok {f : Fld} (h : f.err = 0) : (2 ≤ f.w ∧ f.w ≤ 8) ∧ (2 ≤ f.h ∧ f.h ≤ 8) ∧ f.n ≤ 64 ∧ (0 ≤ f.s ∧ f.s < 16) ∧ ∀ j, j < f.n → -1000000 ≤ f.H j ∧ f.H j ≤ 1000000 := by
  unfold Fld.err at h
  by_cases c1 : f.w < 2 ∨ f.h < 2 ∨ 8 < f.w ∨ 8 < f.h
  · rw [fieldE_4 c1] at h; cases h
  by_cases c2 : (f.n : Int) = f.w * f.h
  · by_cases c3 : f.s < 0 ∨ 16 ≤ f.s
    · rw [fieldE_s c1 c2 c3] at h; cases h
    · have hn : f.w * f.h ≤ 8 * 8 := Int.mul_le_mul (by omega) (by omega) (by omega) (by omega)
      refine ⟨by omega, by omega, by omega, by omega, fun j hj => ?_⟩
      unfold fieldE at h
      rw [if_neg c1, if_neg (fun c => c c2), if_neg c3] at h
      split at h
      · cases h
      · split at h
        · cases h
        · split at h
          · rename_i q; exact absurd h q
          · rename_i q
            have q : firstE (hiE f.H) f.n = 0 := Decidable.byContradiction q
            have := firstE_all q hj
            unfold hiE at this
            split at this
            · cases this
            · omega
  · rw [fieldE_5 c1 c2] at h; cases h
theorem lmp_ok {l : Lmp} (h : l.err = 0) : (0 ≤ l.a ∧ l.a ≤ 65536) ∧ (0 ≤ l.b ∧ l.b ≤ 65536) ∧ (0 ≤ l.c ∧ l.c ≤ 65536) := by
  unfold Lmp.err at h
  split at h
  · cases h
  · split at h
    · cases h
    · rename_i q
      have q : lightB l.a l.b l.c = true := by simpa using q
      unfold lightB at q
      have := of_decide_eq_true q
      omega
theorem orE_z {a b : Int} (h : orE a b = 0) : a = 0 ∧ b = 0 := by
  unfold orE at h
  split at h
  · rename_i q; exact ⟨q, h⟩
  · rename_i q; exact absurd h q
theorem named_z {e s : Int} {n : Nat} (h : named e s n = 0) : e = 0 ∧ s < (n : Int) := by
  unfold named at h
  split at h
  · rename_i q; exact absurd h q
  · rename_i q
    split at h
    · cases h
    · exact ⟨Decidable.byContradiction q, by omega⟩
structure ScOk (s : Scn) : Prop where
  n1 : s.n1 ≤ 64
  n2 : s.n2 ≤ 8
  n3 : s.n3 ≤ 2
  n4 : s.n4 ≤ 16
  n5 : s.n5 ≤ 4
  k : ∀ i, i < s.n4 → SkOk (s.K i)
  p : ∀ i, i < s.n1 → (1 ≤ (s.S i).k ∧ (s.S i).k ≤ 6) ∧ (0 ≤ (s.S i).s ∧ (s.S i).s < 16)
  t : ∀ i, i < s.n2 → solidE (s.T i).n (s.T i).P (s.T i).s = 0
  g : ∀ i, i < s.n3 → (2 ≤ (s.G i).w ∧ (s.G i).w ≤ 8) ∧ (2 ≤ (s.G i).h ∧ (s.G i).h ≤ 8) ∧ (s.G i).n ≤ 64 ∧ (0 ≤ (s.G i).s ∧ (s.G i).s < 16) ∧ ∀ j, j < (s.G i).n → -1000000 ≤ (s.G i).H j ∧ (s.G i).H j ≤ 1000000
  l : ∀ i, i < s.n5 → (0 ≤ (s.L i).a ∧ (s.L i).a ≤ 65536) ∧ (0 ≤ (s.L i).b ∧ (s.L i).b ≤ 65536) ∧ (0 ≤ (s.L i).c ∧ (s.L i).c ≤ 65536)
  y : (0 ≤ s.a ∧ s.a ≤ 65536) ∧ (0 ≤ s.b ∧ s.b ≤ 65536) ∧ (0 ≤ s.c ∧ s.c ≤ 65536)
theorem sc_ok {s : Scn} (h : sceneE s = 0) : ScOk s := by
  have hl : s.lim := by
    by_cases c : 64 < (s.n1 : Int) ∨ 8 < (s.n2 : Int) ∨ 2 < (s.n3 : Int) ∨ 16 < (s.n4 : Int) ∨ 4 < (s.n5 : Int)
    · rw [scene_0 c] at h; cases h
    · unfold Scn.lim; omega
  rw [scene_l hl] at h
  obtain ⟨h4, h⟩ := orE_z h
  obtain ⟨h1, h⟩ := orE_z h
  obtain ⟨h2, h⟩ := orE_z h
  obtain ⟨h3, h⟩ := orE_z h
  obtain ⟨h5, h⟩ := orE_z h
  obtain ⟨hy, h⟩ := orE_z h
  unfold Scn.lim at hl
  refine ⟨by omega, by omega, by omega, by omega, by omega, fun i hi => sk_ok (firstE_all h4 hi), fun i hi => shp_ok (named_z (firstE_all h1 hi)).1, fun i hi => (named_z (firstE_all h2 hi)).1, fun i hi => fld_ok (named_z (firstE_all h3 hi)).1, fun i hi => lmp_ok (firstE_all h5 hi), ?_⟩
  split at hy
  · rename_i q
    unfold lightB at q
    have := of_decide_eq_true q
    omega
  · cases hy
/-- Three whole numbers. -/
def pt3 (a b c : Int) : ByteArray := ptS a ++ ptS b ++ ptS c
theorem pt_sz' {n : Int} (h : 0 ≤ n ∧ n ≤ 65536) : (ptS n).size ≤ 22 := pt_sz (in64_iff.2 (by omega))
@[irreducible] def k_eye : ByteArray := ⟨#[101, 121, 101]⟩
theorem k_eye_def : (⟨#[101, 121, 101]⟩ : ByteArray) = k_eye := by unfold k_eye; rfl
theorem k_eye_sz : k_eye.size = 3 := by unfold k_eye; rfl
@[irreducible] def k_wide : ByteArray := ⟨#[32, 119, 105, 100, 101]⟩
theorem k_wide_def : (⟨#[32, 119, 105, 100, 101]⟩ : ByteArray) = k_wide := by unfold k_wide; rfl
theorem k_wide_sz : k_wide.size = 5 := by unfold k_wide; rfl
@[irreducible] def k_sky : ByteArray := ⟨#[32, 59, 10, 115, 107, 121]⟩
theorem k_sky_def : (⟨#[32, 59, 10, 115, 107, 121]⟩ : ByteArray) = k_sky := by unfold k_sky; rfl
theorem k_sky_sz : k_sky.size = 6 := by unfold k_sky; rfl
@[irreducible] def k_end : ByteArray := ⟨#[32, 59, 10]⟩
theorem k_end_def : (⟨#[32, 59, 10]⟩ : ByteArray) = k_end := by unfold k_end; rfl
theorem k_end_sz : k_end.size = 3 := by unfold k_end; rfl
@[irreducible] def k_skin : ByteArray := ⟨#[115, 107, 105, 110, 32, 115]⟩
theorem k_skin_def : (⟨#[115, 107, 105, 110, 32, 115]⟩ : ByteArray) = k_skin := by unfold k_skin; rfl
theorem k_skin_sz : k_skin.size = 6 := by unfold k_skin; rfl
@[irreducible] def k_spread : ByteArray := ⟨#[32, 115, 112, 114, 101, 97, 100]⟩
theorem k_spread_def : (⟨#[32, 115, 112, 114, 101, 97, 100]⟩ : ByteArray) = k_spread := by unfold k_spread; rfl
theorem k_spread_sz : k_spread.size = 7 := by unfold k_spread; rfl
@[irreducible] def k_mirror : ByteArray := ⟨#[32, 109, 105, 114, 114, 111, 114]⟩
theorem k_mirror_def : (⟨#[32, 109, 105, 114, 114, 111, 114]⟩ : ByteArray) = k_mirror := by unfold k_mirror; rfl
theorem k_mirror_sz : k_mirror.size = 7 := by unfold k_mirror; rfl
@[irreducible] def k_glass : ByteArray := ⟨#[32, 103, 108, 97, 115, 115]⟩
theorem k_glass_def : (⟨#[32, 103, 108, 97, 115, 115]⟩ : ByteArray) = k_glass := by unfold k_glass; rfl
theorem k_glass_sz : k_glass.size = 6 := by unfold k_glass; rfl
@[irreducible] def k_bend : ByteArray := ⟨#[32, 98, 101, 110, 100]⟩
theorem k_bend_def : (⟨#[32, 98, 101, 110, 100]⟩ : ByteArray) = k_bend := by unfold k_bend; rfl
theorem k_bend_sz : k_bend.size = 5 := by unfold k_bend; rfl
theorem k_bend_blank : (⟨#[32, 98, 101, 110, 100, 32]⟩ : ByteArray) = k_bend ++ ⟨#[32]⟩ := by unfold k_bend; rfl
@[irreducible] def k_lamp : ByteArray := ⟨#[108, 97, 109, 112]⟩
theorem k_lamp_def : (⟨#[108, 97, 109, 112]⟩ : ByteArray) = k_lamp := by unfold k_lamp; rfl
theorem k_lamp_sz : k_lamp.size = 4 := by unfold k_lamp; rfl
@[irreducible] def k_light : ByteArray := ⟨#[32, 108, 105, 103, 104, 116]⟩
theorem k_light_def : (⟨#[32, 108, 105, 103, 104, 116]⟩ : ByteArray) = k_light := by unfold k_light; rfl
theorem k_light_sz : k_light.size = 6 := by unfold k_light; rfl
/-- The texts. -/
@[irreducible] def hdS (s : Scn) : ByteArray := k_eye ++ (vcS s.e0 s.e1 s.e2 ++ (k_to ++ (vcS s.e3 s.e4 s.e5 ++ (k_up ++ (vcS s.e6 s.e7 s.e8 ++ (k_wide ++ (nmS s.e9 ++ (k_sky ++ (pt3 s.a s.b s.c ++ k_end)))))))))
@[irreducible] def sknT (i : Nat) (k : Skn) : ByteArray := k_skin ++ (bz (itL i) ++ (k_spread ++ (pt3 k.a k.b k.c ++ (k_mirror ++ (pt3 k.d k.e k.f ++ (k_glass ++ (pt3 k.g k.h k.i ++ (k_bend ++ (nmS (milF k.n) ++ k_end)))))))))
@[irreducible] def lmpT (l : Lmp) : ByteArray := k_lamp ++ (vcS l.x l.y l.z ++ (k_light ++ (pt3 l.a l.b l.c ++ k_end)))
@[irreducible] def shpT (p : Shp) : ByteArray := fST p ++ skS p.s
@[irreducible] def solT (t : Sol) : ByteArray := slS t.P t.n t.s
@[irreducible] def fldT (f : Fld) : ByteArray := fpS f.w f.h f.x f.y f.z f.d ++ (hiS f.H f.n ++ skS f.s)
@[irreducible] def hdB (s : Scn) : Bool := !(v3B s.e0 s.e1 s.e2 && (v3B s.e3 s.e4 s.e5 && (v3B s.e6 s.e7 s.e8 && thB s.e9)))
@[irreducible] def lmpB (l : Lmp) : Bool := !v3B l.x l.y l.z
@[irreducible] def shpB (p : Shp) : Bool := fBT false p
@[irreducible] def solB' (t : Sol) : Bool := slB t.P t.n false
@[irreducible] def fldB (f : Fld) : Bool := !(v3B f.x f.y f.z && thB f.d)
def sk_f (s : Scn) (i : Nat) : ByteArray := sknT i (s.K i)
def lm_f (s : Scn) (i : Nat) : ByteArray := lmpT (s.L i)
def sh_f (s : Scn) (i : Nat) : ByteArray := shpT (s.S i)
def so_f (s : Scn) (i : Nat) : ByteArray := solT (s.T i)
def fl_f (s : Scn) (i : Nat) : ByteArray := fldT (s.G i)
def lm_b (s : Scn) (i : Nat) : Bool := lmpB (s.L i)
def sh_b (s : Scn) (i : Nat) : Bool := shpB (s.S i)
def so_b (s : Scn) (i : Nat) : Bool := solB' (s.T i)
def fl_b (s : Scn) (i : Nat) : Bool := fldB (s.G i)
@[irreducible] def tx1 (s : Scn) (i : Nat) : ByteArray := hdS s ++ catN (sk_f s) i
@[irreducible] def tx2 (s : Scn) (i : Nat) : ByteArray := tx1 s s.n4 ++ catN (lm_f s) i
@[irreducible] def tx3 (s : Scn) (i : Nat) : ByteArray := tx2 s s.n5 ++ catN (sh_f s) i
@[irreducible] def tx4 (s : Scn) (i : Nat) : ByteArray := tx3 s s.n1 ++ catN (so_f s) i
@[irreducible] def tx5 (s : Scn) (i : Nat) : ByteArray := tx4 s s.n2 ++ catN (fl_f s) i
@[irreducible] def bd2 (s : Scn) (i : Nat) : Bool := hdB s || anyN (lm_b s) i
@[irreducible] def bd3 (s : Scn) (i : Nat) : Bool := bd2 s s.n5 || anyN (sh_b s) i
@[irreducible] def bd4 (s : Scn) (i : Nat) : Bool := bd3 s s.n1 || anyN (so_b s) i
@[irreducible] def bd5 (s : Scn) (i : Nat) : Bool := bd4 s s.n2 || anyN (fl_b s) i
theorem cat0 (X : ByteArray) (f : Nat → ByteArray) : X ++ catN f 0 = X := by rw [catN_0]; exact ByteArray.append_empty
theorem tx1_0 (s : Scn) : tx1 s 0 = hdS s := by unfold tx1; exact cat0 _ _
theorem tx2_0 (s : Scn) : tx2 s 0 = tx1 s s.n4 := by unfold tx2; exact cat0 _ _
theorem tx3_0 (s : Scn) : tx3 s 0 = tx2 s s.n5 := by unfold tx3; exact cat0 _ _
theorem tx4_0 (s : Scn) : tx4 s 0 = tx3 s s.n1 := by unfold tx4; exact cat0 _ _
theorem tx5_0 (s : Scn) : tx5 s 0 = tx4 s s.n2 := by unfold tx5; exact cat0 _ _
theorem tx1_s (s : Scn) (i : Nat) : tx1 s (i + 1) = tx1 s i ++ sknT i (s.K i) := by unfold tx1; rw [catN_s, ByteArray.append_assoc]; rfl
theorem tx2_s (s : Scn) (i : Nat) : tx2 s (i + 1) = tx2 s i ++ lmpT (s.L i) := by unfold tx2; rw [catN_s, ByteArray.append_assoc]; rfl
theorem tx3_s (s : Scn) (i : Nat) : tx3 s (i + 1) = tx3 s i ++ shpT (s.S i) := by unfold tx3; rw [catN_s, ByteArray.append_assoc]; rfl
theorem tx4_s (s : Scn) (i : Nat) : tx4 s (i + 1) = tx4 s i ++ solT (s.T i) := by unfold tx4; rw [catN_s, ByteArray.append_assoc]; rfl
theorem tx5_s (s : Scn) (i : Nat) : tx5 s (i + 1) = tx5 s i ++ fldT (s.G i) := by unfold tx5; rw [catN_s, ByteArray.append_assoc]; rfl
theorem bd2_0 (s : Scn) : bd2 s 0 = hdB s := by unfold bd2; rw [anyN_0, Bool.or_false]
theorem bd3_0 (s : Scn) : bd3 s 0 = bd2 s s.n5 := by unfold bd3; rw [anyN_0, Bool.or_false]
theorem bd4_0 (s : Scn) : bd4 s 0 = bd3 s s.n1 := by unfold bd4; rw [anyN_0, Bool.or_false]
theorem bd5_0 (s : Scn) : bd5 s 0 = bd4 s s.n2 := by unfold bd5; rw [anyN_0, Bool.or_false]
theorem bd2_s (s : Scn) (i : Nat) : bd2 s (i + 1) = (bd2 s i || lmpB (s.L i)) := by unfold bd2; rw [anyN_s, Bool.or_assoc]; rfl
theorem bd3_s (s : Scn) (i : Nat) : bd3 s (i + 1) = (bd3 s i || shpB (s.S i)) := by unfold bd3; rw [anyN_s, Bool.or_assoc]; rfl
theorem bd4_s (s : Scn) (i : Nat) : bd4 s (i + 1) = (bd4 s i || solB' (s.T i)) := by unfold bd4; rw [anyN_s, Bool.or_assoc]; rfl
theorem bd5_s (s : Scn) (i : Nat) : bd5 s (i + 1) = (bd5 s i || fldB (s.G i)) := by unfold bd5; rw [anyN_s, Bool.or_assoc]; rfl
theorem or_mono {a : Bool} {f : Nat → Bool} {i n : Nat} (h : i ≤ n) (h1 : (a || anyN f i) = true) : (a || anyN f n) = true := by
  cases q : (a || anyN f n) with
  | true => rfl
  | false =>
    rw [Bool.or_eq_false_iff] at q
    rw [q.1, anyN_iff.2 fun j hj => anyN_iff.1 q.2 j (by omega)] at h1
    cases h1
theorem bd2_le {s : Scn} {i : Nat} (hi : i ≤ s.n5) (h : bd2 s i = true) : bd5 s s.n3 = true := by
  unfold bd5 bd4 bd3 bd2
  unfold bd2 at h
  rw [or_mono hi h]; rfl
theorem bd3_le {s : Scn} {i : Nat} (hi : i ≤ s.n1) (h : bd3 s i = true) : bd5 s s.n3 = true := by
  unfold bd5 bd4 bd3
  unfold bd3 at h
  rw [or_mono hi h]; rfl
theorem bd4_le {s : Scn} {i : Nat} (hi : i ≤ s.n2) (h : bd4 s i = true) : bd5 s s.n3 = true := by
  unfold bd5 bd4
  unfold bd4 at h
  rw [or_mono hi h]; rfl
theorem bd5_le {s : Scn} {i : Nat} (hi : i ≤ s.n3) (h : bd5 s i = true) : bd5 s s.n3 = true := by
  unfold bd5 at *
  exact or_mono hi h
/-- What Print answers. -/
def prT (s : Scn) : ByteArray := if sceneE s = 0 ∧ bd5 s s.n3 = false then tx5 s s.n3 else ⟨#[]⟩
def prE' (s : Scn) : Int := if sceneE s = 0 then (if bd5 s s.n3 = true then 11 else 0) else sceneE s
theorem pr_1 {s : Scn} (h : ¬ sceneE s = 0) : prT s = ⟨#[]⟩ ∧ prE' s = sceneE s := ⟨if_neg fun c => h c.1, if_neg h⟩
theorem pr_2 {s : Scn} (h : sceneE s = 0) (hb : bd5 s s.n3 = true) : prT s = ⟨#[]⟩ ∧ prE' s = 11 := by
  refine ⟨if_neg fun c => ?_, ?_⟩
  · rw [hb] at c; cases c.2
  · unfold prE'; rw [if_pos h, if_pos hb]
theorem pr_3 {s : Scn} (h : sceneE s = 0) (hb : bd5 s s.n3 = false) : prT s = tx5 s s.n3 ∧ prE' s = 0 := by
  refine ⟨if_pos ⟨h, hb⟩, ?_⟩
  unfold prE'; rw [if_pos h, if_neg (by rw [hb]; decide)]
/-- Sizes. -/
theorem pt3_sz {a b c : Int} (ha : 0 ≤ a ∧ a ≤ 65536) (hb : 0 ≤ b ∧ b ≤ 65536) (hc : 0 ≤ c ∧ c ≤ 65536) : (pt3 a b c).size ≤ 66 := by
  have := pt_sz' ha
  have := pt_sz' hb
  have := pt_sz' hc
  unfold pt3
  simp only [ByteArray.size_append]; omega
section
variable {s : Scn} (h : ScOk s)
include h
theorem hd_sz : (hdS s).size ≤ 500 := by
  have a := vc_sz s.e0 s.e1 s.e2
  have b := vc_sz s.e3 s.e4 s.e5
  have c := vc_sz s.e6 s.e7 s.e8
  have d := nm_sz s.e9
  have e := pt3_sz h.y.1 h.y.2.1 h.y.2.2
  unfold hdS
  simp only [ByteArray.size_append, k_eye_sz, k_to_sz, k_up_sz, k_wide_sz, k_sky_sz, k_end_sz]; omega
theorem skT_sz {i : Nat} (hi : i < s.n4) : (sknT i (s.K i)).size ≤ 500 := by
  have k := h.k i hi
  have a := pt3_sz (a := (s.K i).a) (b := (s.K i).b) (c := (s.K i).c) (by have := k.a; omega) (by have := k.b; omega) (by have := k.c; omega)
  have b := pt3_sz (a := (s.K i).d) (b := (s.K i).e) (c := (s.K i).f) (by have := k.d; omega) (by have := k.e; omega) (by have := k.f; omega)
  have c := pt3_sz (a := (s.K i).g) (b := (s.K i).h) (c := (s.K i).i) (by have := k.g; omega) (by have := k.h; omega) (by have := k.i; omega)
  have d := nm_sz (milF (s.K i).n)
  have e := it_len (n := (i : Int)) (by have := h.n4; omega)
  unfold sknT
  simp only [ByteArray.size_append, k_skin_sz, k_spread_sz, k_mirror_sz, k_glass_sz, k_bend_sz, k_end_sz]; omega
theorem lmT_sz {i : Nat} (hi : i < s.n5) : (lmpT (s.L i)).size ≤ 500 := by
  have k := h.l i hi
  have a := pt3_sz k.1 k.2.1 k.2.2
  have b := vc_sz (s.L i).x (s.L i).y (s.L i).z
  unfold lmpT
  simp only [ByteArray.size_append, k_lamp_sz, k_light_sz, k_end_sz]; omega
theorem shT_sz {i : Nat} (hi : i < s.n1) : (shpT (s.S i)).size ≤ 500 := by
  have k := h.p i hi
  have a := fST_sz (s.S i)
  have b := sk_sz (k := (s.S i).s) (in64_iff.2 (by omega))
  unfold shpT
  simp only [ByteArray.size_append]; omega
theorem soT_sz {i : Nat} (hi : i < s.n2) : (solT (s.T i)).size ≤ 30000000 := by
  obtain ⟨k, k1, k2⟩ := solP_of (h.t i hi)
  unfold solT
  exact sl_sz k k1 (in64_iff.2 (by omega))
theorem flT_sz {i : Nat} (hi : i < s.n3) : (fldT (s.G i)).size ≤ 3000 := by
  obtain ⟨k1, k2, k3, k4, k5⟩ := h.g i hi
  have a := fp_sz (W := (s.G i).w) (H := (s.G i).h) (in64_iff.2 (by omega)) (in64_iff.2 (by omega)) (s.G i).x (s.G i).y (s.G i).z (s.G i).d
  have b := sk_sz (k := (s.G i).s) (in64_iff.2 (by omega))
  have c := hi_sz (s.G i).H (s.G i).n
  unfold fldT
  simp only [ByteArray.size_append]; omega
theorem tx1_sz {i : Nat} (hi : i ≤ s.n4) : (tx1 s i).size ≤ 9000 := by
  have a := hd_sz h
  have b := catN_sz (f := sk_f s) (B := 500) i fun j hj => skT_sz h (by omega)
  have := h.n4
  unfold tx1; rw [ByteArray.size_append]; omega
theorem tx2_sz {i : Nat} (hi : i ≤ s.n5) : (tx2 s i).size ≤ 11000 := by
  have a := tx1_sz h (Nat.le_refl _)
  have b := catN_sz (f := lm_f s) (B := 500) i fun j hj => lmT_sz h (by omega)
  have := h.n5
  unfold tx2; rw [ByteArray.size_append]; omega
theorem tx3_sz {i : Nat} (hi : i ≤ s.n1) : (tx3 s i).size ≤ 50000 := by
  have a := tx2_sz h (Nat.le_refl _)
  have b := catN_sz (f := sh_f s) (B := 500) i fun j hj => shT_sz h (by omega)
  have := h.n1
  unfold tx3; rw [ByteArray.size_append]; omega
theorem tx4_sz {i : Nat} (hi : i ≤ s.n2) : (tx4 s i).size ≤ 250000000 := by
  have a := tx3_sz h (Nat.le_refl _)
  have b := catN_sz (f := so_f s) (B := 30000000) i fun j hj => soT_sz h (by omega)
  have := h.n2
  unfold tx4; rw [ByteArray.size_append]; omega
theorem tx5_sz {i : Nat} (hi : i ≤ s.n3) : (tx5 s i).size ≤ 260000000 := by
  have a := tx4_sz h (Nat.le_refl _)
  have b := catN_sz (f := fl_f s) (B := 3000) i fun j hj => flT_sz h (by omega)
  have := h.n3
  unfold tx5; rw [ByteArray.size_append]; omega
/-- Heights are told. -/
theorem hi_told {i : Nat} (hi : i < s.n3) : ∀ j, j ≤ (s.G i).n → hiB (s.G i).H j = false := by
  obtain ⟨k1, k2, k3, k4, k5⟩ := h.g i hi
  intro j
  induction j with
  | zero => intro _; rfl
  | succ j ih => intro hj; rw [hiB_s, ih (by omega), mil_told (k5 j (by omega))]; rfl
end
end Go.Proofs.YtphdjmaebdmdmaaGreatDoor
/- Scenes as text: how the document tells a scene. -/
namespace Go.Proofs.YtphdjmaebdmdmaaGreatDoor
open Go.RowKit Ev
set_option linter.unusedVariables false
set_option linter.unusedSimpArgs false
set_option maxRecDepth 20000
set_option maxHeartbeats 8000000

def docK : Con Tryz.prog := ⟨42, fun args => match args with | [.sl m 16 g, .int .i64 k, .int .i64 fr, .int .i64 de] => .ok (some (g = partF (unPrt g) ∧ SolP (unPrt g) m ∧ doc_p m k fr de)) (docR (unPrt g) k fr de) | _ => .no, by
  intro args p r h hp
  split at h
  · cases h; obtain ⟨hg, hS, hq⟩ := hp; have a := doc_all hS _ (Nat.le_refl _) _ _ _ hq; rw [← hg] at a; exact a
  · cases h⟩
structure IxA (s : Scn) where
  i : Nat
  h : i ≤ s.n4
structure IxB (s : Scn) where
  i : Nat
  h : i ≤ s.n5
  b : bd2 s i = false
structure IxC (s : Scn) where
  i : Nat
  h : i ≤ s.n1
  b : bd3 s i = false
structure IxD (s : Scn) where
  i : Nat
  h : i ≤ s.n2
  b : bd4 s i = false
structure IxE (s : Scn) where
  i : Nat
  h : i ≤ s.n3
  b : bd5 s i = false
theorem or4_dead {a b c : Bool} (h : (a || b || c || !false) = false) : False := by
  cases a <;> cases b <;> cases c <;> cases h
theorem un_scn1 (s : Scn) : unScn [.sl s.n1 13 (flatF 13 fun i => (s.S i).row), .sl s.n2 2 (flatF 2 fun i => (s.T i).row), .sl s.n3 8 (flatF 8 fun i => (s.G i).row), .sl s.n4 10 (flatF 10 fun i => (s.K i).row), .sl s.n5 6 (flatF 6 fun i => (s.L i).row), .int .i64 s.a, .int .i64 s.b, .int .i64 s.c, .flt s.e0, .flt s.e1, .flt s.e2, .flt s.e3, .flt s.e4, .flt s.e5, .flt s.e6, .flt s.e7, .flt s.e8, .flt s.e9] = s := un_scn s
theorem shp_eta (p : Shp) : (⟨p.k, p.a, p.b, p.c, p.d, p.e, p.f, p.g, p.h, p.i, p.r, p.q, p.s⟩ : Shp) = p := rfl
theorem hd_no {s : Scn} {r : Bool} (hr : thB s.e9 = r) (h : (!v3B s.e0 s.e1 s.e2 || !v3B s.e3 s.e4 s.e5 || !v3B s.e6 s.e7 s.e8 || !r) = true) : bd5 s s.n3 = true := by
  refine bd2_le (i := 0) (Nat.zero_le _) ?_
  rw [bd2_0]
  unfold hdB
  rw [hr]
  revert h
  cases v3B s.e0 s.e1 s.e2 <;> cases v3B s.e3 s.e4 s.e5 <;> cases v3B s.e6 s.e7 s.e8 <;> cases r <;> decide
structure HdY (s : Scn) : Prop where
  a : v3B s.e0 s.e1 s.e2 = true
  b : v3B s.e3 s.e4 s.e5 = true
  c : v3B s.e6 s.e7 s.e8 = true
  d : thB s.e9 = true
  h : bd2 s 0 = false
theorem hd_yes {s : Scn} {r : Bool} (hr : thB s.e9 = r) (h : (!v3B s.e0 s.e1 s.e2 || !v3B s.e3 s.e4 s.e5 || !v3B s.e6 s.e7 s.e8 || !r) = false) : HdY s := by
  have : v3B s.e0 s.e1 s.e2 = true ∧ v3B s.e3 s.e4 s.e5 = true ∧ v3B s.e6 s.e7 s.e8 = true ∧ r = true := by
    revert h
    cases v3B s.e0 s.e1 s.e2 <;> cases v3B s.e3 s.e4 s.e5 <;> cases v3B s.e6 s.e7 s.e8 <;> cases r <;> decide
  obtain ⟨a, b, c, d⟩ := this
  refine ⟨a, b, c, hr.trans d, ?_⟩
  rw [bd2_0]; unfold hdB; rw [a, b, c, hr, d]; rfl
theorem hd_tx {s : Scn} (h : HdY s) : k_eye ++ vcT s.e0 s.e1 s.e2 ++ k_to ++ vcT s.e3 s.e4 s.e5 ++ k_up ++ vcT s.e6 s.e7 s.e8 ++ k_wide ++ nmS s.e9 ++ k_sky ++ (ptS s.a ++ ptS s.b ++ ptS s.c) ++ k_end = hdS s := by
  rw [vcT_1 h.a, vcT_1 h.b, vcT_1 h.c]
  unfold hdS pt3
  simp only [ByteArray.append_assoc]
theorem sk_tx (X : ByteArray) (i : Nat) (k : Skn) : X ++ k_skin ++ bz (itL i) ++ k_spread ++ (ptS k.a ++ ptS k.b ++ ptS k.c) ++ k_mirror ++ (ptS k.d ++ ptS k.e ++ ptS k.f) ++ k_glass ++ (ptS k.g ++ ptS k.h ++ ptS k.i) ++ (k_bend ++ ⟨#[32]⟩) ++ thS (milF k.n) ++ k_end = X ++ sknT i k := by
  unfold sknT pt3 nmS
  simp only [ByteArray.append_assoc]
theorem lm_tx (X : ByteArray) (l : Lmp) (h : v3B l.x l.y l.z = true) : X ++ k_lamp ++ vcT l.x l.y l.z ++ k_light ++ (ptS l.a ++ ptS l.b ++ ptS l.c) ++ k_end = X ++ lmpT l := by
  rw [vcT_1 h]
  unfold lmpT pt3
  simp only [ByteArray.append_assoc]
theorem sh_tx (X : ByteArray) (p : Shp) (h : foB p = true) : X ++ foS p ++ skS p.s = X ++ shpT p := by
  rw [fo_text h]
  unfold shpT
  rw [ByteArray.append_assoc]
theorem so_tx (X : ByteArray) {t : Sol} (he : solidE t.n t.P t.s = 0) (h : solB' t = false) : X ++ k_solid ++ (dD t.P (t.n - 1) 0 0).1 ++ skS t.s = X ++ solT t := by
  obtain ⟨hS, h1, _⟩ := solP_of he
  unfold solB' at h
  obtain ⟨u, e⟩ := (doc_solid hS h1).2 h
  unfold solT
  rw [slS_1 u, e]
  simp only [ByteArray.append_assoc]
theorem fl_tx (X : ByteArray) (f : Fld) (h : v3B f.x f.y f.z = true) : X ++ (fdT f.w f.h f.x f.y f.z f.d ++ hiS f.H f.n ++ skS f.s) = X ++ fldT f := by
  unfold fdT fldT fpS
  rw [vcT_1 h]
  simp only [ByteArray.append_assoc]
theorem lm_no {s : Scn} {i : Nat} (hi : i < s.n5) (h : v3B (s.L i).x (s.L i).y (s.L i).z = false) : bd5 s s.n3 = true := by
  refine bd2_le (i := i + 1) (by omega) ?_
  rw [bd2_s]; unfold lmpB; rw [h]; exact Bool.or_true _
theorem lm_yes {s : Scn} {i : Nat} (hb : bd2 s i = false) (h : v3B (s.L i).x (s.L i).y (s.L i).z = true) : bd2 s (i + 1) = false := by
  rw [bd2_s, hb]; unfold lmpB; rw [h]; rfl
theorem sh_no {s : Scn} {i : Nat} (hi : i < s.n1) (hk : 1 ≤ (s.S i).k ∧ (s.S i).k ≤ 6) (h : foB (s.S i) = false) : bd5 s s.n3 = true := by
  refine bd3_le (i := i + 1) (by omega) ?_
  rw [fo_eq hk] at h
  rw [bd3_s]; unfold shpB
  rw [show fBT false (s.S i) = true by simpa using h]; exact Bool.or_true _
theorem sh_yes {s : Scn} {i : Nat} (hb : bd3 s i = false) (hk : 1 ≤ (s.S i).k ∧ (s.S i).k ≤ 6) (h : foB (s.S i) = true) : bd3 s (i + 1) = false := by
  rw [fo_eq hk] at h
  rw [bd3_s, hb]; unfold shpB
  rw [show fBT false (s.S i) = false by simpa using h]; rfl
theorem so_iff {t : Sol} (he : solidE t.n t.P t.s = 0) : solB' t = (!(dD t.P (t.n - 1) 0 0).2.2 || (dD t.P (t.n - 1) 0 0).2.1 != (t.n : Int) - 1) := by
  obtain ⟨hS, h1, _⟩ := solP_of he
  have := (doc_solid hS h1).1
  unfold solB'
  cases q : slB t.P t.n false with
  | false =>
    obtain ⟨a, b⟩ := this.1 q
    rw [a, b]; simp
  | true =>
    symm
    cases r : (!(dD t.P (t.n - 1) 0 0).2.2 || (dD t.P (t.n - 1) 0 0).2.1 != (t.n : Int) - 1) with
    | true => rfl
    | false =>
      simp only [Bool.or_eq_false_iff, Bool.not_eq_false', bne_eq_false_iff_eq] at r
      rw [this.2 r] at q; cases q
theorem so_no {s : Scn} {i : Nat} (hi : i < s.n2) (h : solB' (s.T i) = true) : bd5 s s.n3 = true := by
  refine bd4_le (i := i + 1) (by omega) ?_
  rw [bd4_s, h]; exact Bool.or_true _
theorem so_yes {s : Scn} {i : Nat} (hb : bd4 s i = false) (h : solB' (s.T i) = false) : bd4 s (i + 1) = false := by
  rw [bd4_s, hb, h]; rfl
theorem fl_no {s : Scn} {i : Nat} (hi : i < s.n3) (h : (v3B (s.G i).x (s.G i).y (s.G i).z && thB (s.G i).d) = false) : bd5 s s.n3 = true := by
  refine bd5_le (i := i + 1) (by omega) ?_
  rw [bd5_s]; unfold fldB; rw [h]; exact Bool.or_true _
theorem fl_yes {s : Scn} {i : Nat} (hb : bd5 s i = false) (h : (v3B (s.G i).x (s.G i).y (s.G i).z && thB (s.G i).d) = true) : bd5 s (i + 1) = false ∧ v3B (s.G i).x (s.G i).y (s.G i).z = true := by
  rw [bd5_s, hb]; unfold fldB; rw [h]
  rw [Bool.and_eq_true] at h
  exact ⟨rfl, h.1⟩
structure SoF (t : Sol) : Prop where
  P : SolP t.P t.n
  n : 1 ≤ t.n ∧ t.n ≤ 16
  s : 0 ≤ t.s ∧ t.s < 16
  w : IntKind.i64.wrap ((t.n : Int) - 1) = (t.n : Int) - 1
  m : ((t.n : Int) - 1).toNat = t.n - 1
  z : (dD t.P (t.n - 1) 0 0).1.size ≤ 28000000
theorem so_f' {t : Sol} (he : solidE t.n t.P t.s = 0) : SoF t := by
  obtain ⟨hS, h1, h2⟩ := solP_of he
  have h16 := hS.m16
  have z := dD_sz hS.ord hS.m16 (t.n - 1) (by omega) 0 0
  have c := Nat.le_trans (tC_le hS.ord hS.m16 (t.n - 1) (by omega)) (Nat.pow_le_pow_right (show 0 < 2 by omega) (show t.n - 1 + 1 ≤ 16 by omega))
  have e : (2 : Nat) ^ 16 = 65536 := by decide
  exact ⟨hS, ⟨h1, h16⟩, h2, wrapI (by omega) (by omega), by omega, by omega⟩
theorem sprintR_f : FnOk Tryz.prog 10 Tryz.f10 := ⟨Tryz.func10, by kernel_rfl⟩
theorem sprintR_a (s : Scn) : ACalls Tryz.prog 10 [.agg s.row] (.tup [.str (prT s), .int .i64 (prE' s)]) := by
  refine acalls_of (inl := hasI (P := Tryz.prog) [⟨36, Tryz.f36, Tryz.func36, by kernel_rfl⟩, ⟨39, Tryz.f39, Tryz.func39, by kernel_rfl⟩] []) (base [dec_k, told_k, toldVec_k, toldWhole_k, toldForm_k, toldSkin_k, toldField_k, sceneMayR_k, docK] [⟨36, Tryz.f36, Tryz.func36, by kernel_rfl⟩, ⟨39, Tryz.f39, Tryz.func39, by kernel_rfl⟩] []) 4 sprintR_f (And.intro (by kernel_rfl) ?_)
  repeat' (first | refine And.intro ?_ ?_ | (with_reducible exact ff_elim) | (with_reducible exact tf_elim) | (intro h; exact (or4_dead h).elim) | refine unr_in 2 ?_ | (intro h; exact absurd h (by decide)) | refine view_flat rfl rfl ?_ | refine view_cell rfl ?_ | (refine view_sub ?_ ?_ ?_; exact rfl; exact rfl) | refine num_elim ?_ | intro _ | (with_reducible rfl) | ((with_reducible refine lk_t ?_); exact rfl) | ((with_reducible refine pf_t ?_); exact rfl) | refine tell ?_ | exact True.intro | (refine IsT.of ?_; kernel_rfl))
  all_goals (try (refine loop_keep [1] [0] ?_; refine LoopI.mk (IxA s) (fun j => [(13, .str (tx1 s j.i)), (14, .int .i64 j.i)]) (fun j => []) (fun j => s.n4 - j.i) (⟨0, Nat.zero_le _⟩) (wk_mk [some 0] ?_) (fun ⟨iA, hA⟩ => ?_)))
  repeat' (first | refine And.intro ?_ ?_ | (with_reducible exact ff_elim) | (with_reducible exact tf_elim) | refine stp_mk [some 0] ((⟨iA + 1, ?_⟩ : IxA s)) ?_ ?_ | (intro h; exact (or4_dead h).elim) | refine unr_in 2 ?_ | (intro h; exact absurd h (by decide)) | refine view_flat rfl rfl ?_ | refine view_cell rfl ?_ | (refine view_sub ?_ ?_ ?_; exact rfl; exact rfl) | refine num_elim ?_ | intro _ | (with_reducible rfl) | ((with_reducible refine lk_t ?_); exact rfl) | ((with_reducible refine pf_t ?_); exact rfl) | refine tell ?_ | exact True.intro | (refine IsT.of ?_; kernel_rfl))
  all_goals (try (refine loop_keep [1] [0] ?_; refine LoopI.mk (IxB s) (fun j => [(13, .str (tx2 s j.i)), (18, .int .i64 j.i)]) (fun j => []) (fun j => s.n5 - j.i) (⟨0, Nat.zero_le _, ?_⟩) (wk_mk [some 0] ?_) (fun ⟨iB, hB, bB⟩ => ?_)))
  repeat' (first | refine And.intro ?_ ?_ | (with_reducible exact ff_elim) | (with_reducible exact tf_elim) | refine stp_mk [some 0] ((⟨iB + 1, ?_, ?_⟩ : IxB s)) ?_ ?_ | (intro h; exact (or4_dead h).elim) | refine unr_in 2 ?_ | (intro h; exact absurd h (by decide)) | refine view_flat rfl rfl ?_ | refine view_cell rfl ?_ | (refine view_sub ?_ ?_ ?_; exact rfl; exact rfl) | refine num_elim ?_ | intro _ | (with_reducible rfl) | ((with_reducible refine lk_t ?_); exact rfl) | ((with_reducible refine pf_t ?_); exact rfl) | refine tell ?_ | exact True.intro | (refine IsT.of ?_; kernel_rfl))
  all_goals (try (refine loop_keep [1] [0] ?_; refine LoopI.mk (IxC s) (fun j => [(13, .str (tx3 s j.i)), (21, .int .i64 j.i)]) (fun j => []) (fun j => s.n1 - j.i) (⟨0, Nat.zero_le _, ?_⟩) (wk_mk [some 0] ?_) (fun ⟨iC, hC, bC⟩ => ?_)))
  repeat' (first | refine And.intro ?_ ?_ | (with_reducible exact ff_elim) | (with_reducible exact tf_elim) | refine stp_mk [some 0] ((⟨iC + 1, ?_, ?_⟩ : IxC s)) ?_ ?_ | (intro h; exact (or4_dead h).elim) | refine unr_in 2 ?_ | (intro h; exact absurd h (by decide)) | refine view_flat rfl rfl ?_ | refine view_cell rfl ?_ | (refine view_sub ?_ ?_ ?_; exact rfl; exact rfl) | refine num_elim ?_ | intro _ | (with_reducible rfl) | ((with_reducible refine lk_t ?_); exact rfl) | ((with_reducible refine pf_t ?_); exact rfl) | refine tell ?_ | exact True.intro | (refine IsT.of ?_; kernel_rfl))
  all_goals (try (refine loop_keep [1] [0] ?_; refine LoopI.mk (IxD s) (fun j => [(13, .str (tx4 s j.i)), (24, .int .i64 j.i)]) (fun j => []) (fun j => s.n2 - j.i) (⟨0, Nat.zero_le _, ?_⟩) (wk_mk [some 0] ?_) (fun ⟨iD, hD, bD⟩ => ?_)))
  repeat' (first | refine And.intro ?_ ?_ | (with_reducible exact ff_elim) | (with_reducible exact tf_elim) | refine stp_mk [some 0] ((⟨iD + 1, ?_, ?_⟩ : IxD s)) ?_ ?_ | (intro h; exact (or4_dead h).elim) | refine unr_in 2 ?_ | (intro h; exact absurd h (by decide)) | refine view_flat rfl rfl ?_ | refine view_cell rfl ?_ | (refine view_sub ?_ ?_ ?_; exact rfl; exact rfl) | refine num_elim ?_ | intro _ | (with_reducible rfl) | ((with_reducible refine lk_t ?_); exact rfl) | ((with_reducible refine pf_t ?_); exact rfl) | refine tell ?_ | exact True.intro | (refine IsT.of ?_; kernel_rfl))
  all_goals (try (refine loop_keep [1] [0] ?_; refine LoopI.mk (IxE s) (fun j => [(13, .str (tx5 s j.i)), (29, .int .i64 j.i)]) (fun j => []) (fun j => s.n3 - j.i) (⟨0, Nat.zero_le _, ?_⟩) (wk_mk [some 0] ?_) (fun ⟨iE, hE, bE⟩ => ?_)))
  repeat' (first | refine And.intro ?_ ?_ | (with_reducible exact ff_elim) | (with_reducible exact tf_elim) | refine stp_mk [some 0] ((⟨iE + 1, ?_, ?_⟩ : IxE s)) ?_ ?_ | (intro h; exact (or4_dead h).elim) | refine unr_in 2 ?_ | (intro h; exact absurd h (by decide)) | refine view_flat rfl rfl ?_ | refine view_cell rfl ?_ | (refine view_sub ?_ ?_ ?_; exact rfl; exact rfl) | refine num_elim ?_ | intro _ | (with_reducible rfl) | ((with_reducible refine lk_t ?_); exact rfl) | ((with_reducible refine pf_t ?_); exact rfl) | refine tell ?_ | exact True.intro | (refine IsT.of ?_; kernel_rfl))
  all_goals (try refine Tell.mk ?_)
  all_goals first | with_reducible rfl | with_reducible assumption | (with_reducible refine gb_t ?_; with_reducible assumption) | (with_reducible refine gb_f ?_; with_reducible assumption) | ((with_reducible refine okF_t ?_); kernel_rfl) | (show (_ : Int) ≤ _; decide) | (show (_ : Int) < _; decide) | (show (_ : Nat) ≤ _; decide) | (show (_ : Nat) < _; decide) | skip
  all_goals (try dsimp only at *)
  all_goals (try simp only [un_scn1, un_part, shp_eta, mil_def, bne_iff_ne, ne_eq, bne_eq_false_iff_eq, decide_eq_true_eq, decide_eq_false_iff_not, Bool.not_eq_true', Bool.not_eq_false', k_eye_def, k_to_def, k_up_def, k_wide_def, k_sky_def, k_end_def, k_skin_def, k_spread_def, k_mirror_def, k_glass_def, k_bend_def, k_bend_blank, k_lamp_def, k_light_def, k_solid_def, nm_tx] at *)
  all_goals first | rfl | exact (pr_1 (by assumption)).1 | exact (pr_1 (by assumption)).2 | (have z5 := thS_sz s.e9; simp only [ByteArray.size_append, e1s', e0s]; omega) | skip
  all_goals (have h0 : sceneE s = 0 := (by assumption); have hs := sc_ok h0)
  all_goals first | exact (pr_2 h0 (hd_no (by assumption) (by assumption))).1 | exact (pr_2 h0 (hd_no (by assumption) (by assumption))).2 | skip
  all_goals (try simp only [intF_mk] at *)
  all_goals (have hy := hd_yes (s := s) (by assumption) (by assumption))
  all_goals first | omega | exact hy.h | exact isI_mk | (rw [wrapI (by omega) (by omega)]; rfl) | skip
  all_goals first | exact (tx1_0 s).trans (hd_tx hy).symm | (have e : iA = s.n4 := (by omega); rw [tx2_0, e]; done) | (have e : iB = s.n5 := (by omega); rw [tx3_0, e]; done) | (have e : iC = s.n1 := (by omega); rw [tx4_0, e]; done) | (have e : iD = s.n2 := (by omega); rw [tx5_0, e]; done) | (have e : iB = s.n5 := (by omega); rw [bd3_0, ← e]; assumption) | (have e : iC = s.n1 := (by omega); rw [bd4_0, ← e]; assumption) | (have e : iD = s.n2 := (by omega); rw [bd5_0, ← e]; assumption) | (have e : iE = s.n3 := (by omega); have q := bE; rw [e] at q ⊢; exact (pr_3 h0 q).1) | (have e : iE = s.n3 := (by omega); have q := bE; rw [e] at q; exact (pr_3 h0 q).2) | skip
  all_goals first | (have y := hs.y; have p1 := pt_sz' y.1; have p2 := pt_sz' y.2.1; have p3 := pt_sz' y.2.2; have z1 := vcT_sz s.e0 s.e1 s.e2; have z2 := vcT_sz s.e3 s.e4 s.e5; have z3 := vcT_sz s.e6 s.e7 s.e8; have z4 := nm_sz s.e9; first | omega | (simp only [ByteArray.size_append, k_eye_sz, k_to_sz, k_up_sz, k_wide_sz, k_sky_sz, k_end_sz, k_skin_sz, k_spread_sz, k_mirror_sz, k_glass_sz, k_bend_sz, k_lamp_sz, k_light_sz, k_solid_sz, e1s, e1s']; omega)) | skip
  all_goals first | (have kA : iA < s.n4 := (by omega); obtain ⟨ka, kb, kc, kd, ke, kf, kg, kh, ki, kn⟩ := hs.k iA kA; have tz := tx1_sz hs hA; have n4 := hs.n4; have il := it_len (n := (iA : Int)) ⟨by omega, by omega⟩; have p1 := pt_sz' (n := (s.K iA).a) ⟨by omega, by omega⟩; have p2 := pt_sz' (n := (s.K iA).b) ⟨by omega, by omega⟩; have p3 := pt_sz' (n := (s.K iA).c) ⟨by omega, by omega⟩; have p4 := pt_sz' (n := (s.K iA).d) ⟨by omega, by omega⟩; have p5 := pt_sz' (n := (s.K iA).e) ⟨by omega, by omega⟩; have p6 := pt_sz' (n := (s.K iA).f) ⟨by omega, by omega⟩; have p7 := pt_sz' (n := (s.K iA).g) ⟨by omega, by omega⟩; have p8 := pt_sz' (n := (s.K iA).h) ⟨by omega, by omega⟩; have p9 := pt_sz' (n := (s.K iA).i) ⟨by omega, by omega⟩; have z4 := thS_sz (milF (s.K iA).n); first | omega | (simp only [ByteArray.size_append, k_eye_sz, k_to_sz, k_up_sz, k_wide_sz, k_sky_sz, k_end_sz, k_skin_sz, k_spread_sz, k_mirror_sz, k_glass_sz, k_bend_sz, k_lamp_sz, k_light_sz, k_solid_sz, e1s, e1s']; omega) | (rw [tx1_s]; exact (sk_tx _ _ _).symm) | (rw [wrapI (by omega) (by omega)]; rfl)) | skip
  all_goals first | (have kB : iB < s.n5 := (by omega); obtain ⟨ka, kb, kc⟩ := hs.l iB kB; have tz := tx2_sz hs hB; have n4 := hs.n5; have p1 := pt_sz' ka; have p2 := pt_sz' kb; have p3 := pt_sz' kc; have z1 := vcT_sz (s.L iB).x (s.L iB).y (s.L iB).z; first | omega | (simp only [ByteArray.size_append, k_eye_sz, k_to_sz, k_up_sz, k_wide_sz, k_sky_sz, k_end_sz, k_skin_sz, k_spread_sz, k_mirror_sz, k_glass_sz, k_bend_sz, k_lamp_sz, k_light_sz, k_solid_sz, e1s, e1s']; omega) | exact (pr_2 h0 (lm_no kB (by assumption))).1 | exact (pr_2 h0 (lm_no kB (by assumption))).2 | exact lm_yes bB (by assumption) | (rw [tx2_s]; exact (lm_tx _ _ (by assumption)).symm) | (rw [wrapI (by omega) (by omega)]; rfl)) | skip
  all_goals first | (have kC : iC < s.n1 := (by omega); obtain ⟨ka, kb⟩ := hs.p iC kC; have tz := tx3_sz hs hC; have n4 := hs.n1; have z1 := foS_sz (s.S iC); have z2 := sk_sz (k := (s.S iC).s) (in64_iff.2 ⟨by omega, by omega⟩); first | omega | (simp only [ByteArray.size_append, k_eye_sz, k_to_sz, k_up_sz, k_wide_sz, k_sky_sz, k_end_sz, k_skin_sz, k_spread_sz, k_mirror_sz, k_glass_sz, k_bend_sz, k_lamp_sz, k_light_sz, k_solid_sz, e1s, e1s']; omega) | exact (pr_2 h0 (sh_no kC ka (by assumption))).1 | exact (pr_2 h0 (sh_no kC ka (by assumption))).2 | exact sh_yes bC ka (by assumption) | (rw [tx3_s]; exact (sh_tx _ _ (by assumption)).symm) | (rw [wrapI (by omega) (by omega)]; rfl)) | skip
  all_goals first | (have kD : iD < s.n2 := (by omega); have ht := hs.t iD kD; obtain ⟨fP, fn, fs, fw, fm, fz⟩ := so_f' ht; have tz := tx4_sz hs hD; have n4 := hs.n2; simp only [fw, fm] at *; have z2 := sk_sz (k := (s.T iD).s) (in64_iff.2 ⟨by omega, by omega⟩); have hq := so_iff ht; first | omega | exact fP | (simp only [ByteArray.size_append, k_eye_sz, k_to_sz, k_up_sz, k_wide_sz, k_sky_sz, k_end_sz, k_skin_sz, k_spread_sz, k_mirror_sz, k_glass_sz, k_bend_sz, k_lamp_sz, k_light_sz, k_solid_sz, e1s, e1s']; omega) | exact (pr_2 h0 (so_no kD (hq.trans (by assumption)))).1 | exact (pr_2 h0 (so_no kD (hq.trans (by assumption)))).2 | exact so_yes bD (hq.trans (by assumption)) | (rw [tx4_s]; exact (so_tx _ ht (hq.trans (by assumption))).symm) | (rw [wrapI (by omega) (by omega)]; rfl)) | skip
  all_goals first | (have kE : iE < s.n3 := (by omega); obtain ⟨k1, k2, k3, k4, k5⟩ := hs.g iE kE; have tz := tx5_sz hs hE; have n4 := hs.n3; have z1 := fdT_sz (W := (s.G iE).w) (H := (s.G iE).h) (in64_iff.2 ⟨by omega, by omega⟩) (in64_iff.2 ⟨by omega, by omega⟩) (s.G iE).x (s.G iE).y (s.G iE).z (s.G iE).d; have z2 := sk_sz (k := (s.G iE).s) (in64_iff.2 ⟨by omega, by omega⟩); have z3 := hi_sz (s.G iE).H (s.G iE).n; first | omega | (simp only [ByteArray.size_append, k_eye_sz, k_to_sz, k_up_sz, k_wide_sz, k_sky_sz, k_end_sz, k_skin_sz, k_spread_sz, k_mirror_sz, k_glass_sz, k_bend_sz, k_lamp_sz, k_light_sz, k_solid_sz, e1s, e1s']; omega) | exact (pr_2 h0 (fl_no kE (by assumption))).1 | exact (pr_2 h0 (fl_no kE (by assumption))).2 | exact (fl_yes bE (by assumption)).1 | (rw [tx5_s]; exact (fl_tx _ _ (fl_yes bE (by assumption)).2).symm) | (rw [wrapI (by omega) (by omega)]; rfl)) | skip
  trace_state
end Go.Proofs.YtphdjmaebdmdmaaGreatDoor
