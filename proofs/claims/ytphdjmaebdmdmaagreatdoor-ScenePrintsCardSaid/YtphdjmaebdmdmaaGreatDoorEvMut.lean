/- The abstract machine: contracts of functions that write the caller's blocks. -/
import Derived.Test.YtphdjmaebdmdmaaGreatDoorEvSound
namespace Go.Proofs.YtphdjmaebdmdmaaGreatDoor
open Go.RowKit
set_option linter.unusedVariables false
set_option linter.unusedSimpArgs false
namespace Ev

def rowsO : List OB → Nat → OB
  | [], _ => .gone
  | o :: _, 0 => o
  | _ :: r, k + 1 => rowsO r k
def upds : (Nat → OB) → List Nat → List OB → (Nat → OB)
  | own, k :: ks, o :: r => upds (upd own k o) ks r
  | own, _, _ => own
/-- A contract: blocks 0, 1, .. of the caller's are such, and afterwards so. -/
def MCalls (P : Program) (f : FuncId) (args : List AV) (rows : List OB) (r : AV) (rows' : List OB) : Prop :=
  ∀ (w0 : St0) (w : World) (σ : Nat → Option Nat) (Im : Nat → Prop) (vals : List Value), Sat w0 w σ Im (rowsO rows) → (∀ k, rows.length ≤ k → σ k = none) → Two (Rd w σ Im) args vals →
    Runs P ((callFunc f vals.toArray).run P w) fun v w' => ∃ σ' Im', Rd w' σ' Im' r v ∧ Sat w0 w' σ' Im' (rowsO rows') ∧ (∀ k, rows.length ≤ k → rows'.length ≤ k → σ' k = none) ∧ GoL rows.length w σ Im w' σ' Im'
def pinK (n : Nat) (k : Nat) : Option Nat := bif Nat.blt k n then some k else none
def agrRows (f : Nat → Option Nat) (own : Nat → OB) : List OB → Nat → Prop
  | [], _ => True
  | b :: r, k => agrB f b (own k) ∧ agrRows f own r (k + 1)
def outM (n : Nat) (r : AV) (rows' : List OB) : AV → (Nat → OB) → Nat → Prop := fun u own _ => agr (pinK n) r u ∧ (IsT (Nat.ble rows'.length n) ∧ agrRows (pinK n) own rows' 0)

section
variable {P : Program} {w0 : St0}
theorem rowsO_ge : ∀ (l : List OB) (k : Nat), l.length ≤ k → rowsO l k = .gone
  | [], k, _ => rfl
  | _ :: r, 0, h => by simp at h
  | _ :: r, k + 1, h => rowsO_ge r k (by simpa using h)
theorem agrRows_get {f : Nat → Option Nat} {own : Nat → OB} : ∀ (l : List OB) (n k : Nat), agrRows f own l n → k < l.length → agrB f (rowsO l k) (own (n + k))
  | [], n, k, _, h => by simp at h
  | b :: r, n, 0, h, _ => h.1
  | b :: r, n, k + 1, h, hk => by
    have := agrRows_get r (n + 1) k h.2 (by simpa using hk)
    rwa [show n + 1 + k = n + (k + 1) by omega] at this
theorem pinK_some {n k k' : Nat} (h : pinK n k = some k') : k = k' ∧ k < n := by
  unfold pinK at h
  cases hb : Nat.blt k n with
  | false => rw [hb] at h; cases h
  | true => rw [hb] at h; cases h; exact ⟨rfl, Nat.le_of_ble_eq_true hb⟩
theorem pinK_lt {n k : Nat} (h : k < n) : pinK n k = some k := by
  unfold pinK
  rw [show Nat.blt k n = true from Nat.ble_eq_true_of_le h]; rfl
theorem Sat.pin {w σ Im own} (hS : Sat w0 w σ Im own) {n : Nat} {rows : List OB} (hn : rows.length ≤ n) (h : agrRows (pinK n) own rows 0) : Sat w0 w (fun k => (pinK n k).bind σ) Im (rowsO rows) := by
  have live : ∀ k, (rowsO rows k).live → k < rows.length := fun k hk => by
    rcases Nat.lt_or_ge k rows.length with h | h
    · exact h
    · rw [rowsO_ge rows k h] at hk; exact hk.elim
  have get : ∀ k, k < rows.length → agrB (pinK n) (rowsO rows k) (own k) := fun k hk => by simpa using agrRows_get rows 0 k h hk
  have hsg : ∀ k b, (pinK n k).bind σ = some b → σ k = some b := fun k b e => by
    simp only [Option.bind_eq_some_iff] at e
    obtain ⟨k', e1, e2⟩ := e
    rw [(pinK_some e1).1]; exact e2
  refine ⟨hS.bel, hS.im, fun k b e => hS.sg k b (hsg k b e), fun k hk => ?_, fun k k' b hk hk' e e' => hS.inj k k' b (agrB_live (get k (live k hk)) hk) (agrB_live (get k' (live k' hk')) hk') (hsg _ _ e) (hsg _ _ e'), hS.imB, fun k b e => hS.sgB k b (hsg k b e)⟩
  have hlt := live k hk
  exact agrB_held (pinK_lt (by omega)) (get k hlt) hk (hS.held k (agrB_live (get k hlt) hk))

def ren0 (g : Nat → Nat) (v : AV) : AV :=
  match v with
  | .own k off => .own (g k) off
  | .os k sz off n => .os (g k) sz off n
  | .agg _ | .tup _ | .fn _ _ | .gd _ _ => .any
  | v => v
def ren1 (g : Nat → Nat) (v : AV) : AV :=
  match v with
  | .agg l => .agg (l.map (ren0 g))
  | .fn f l => .fn f (l.map (ren0 g))
  | v => ren0 g v
def ren (g : Nat → Nat) (v : AV) : AV :=
  match v with
  | .tup l => .tup (l.map (ren1 g))
  | v => ren1 g v
def renB (g : Nat → Nat) (o : OB) : OB :=
  match o with
  | .row l => .row (l.map (ren0 g))
  | o => o
theorem getD_map (f : AV → AV) (l : List AV) (i : Nat) (h : i < l.length) : (l.map f).getD i .any = f (l.getD i .any) := by
  simp [List.getD, h]
theorem ren0_rd {w : World} {σ τ : Nat → Option Nat} {Im : Nat → Prop} {g : Nat → Nat} {v : AV} {V : Value} (hτ : ∀ k b, σ k = some b → τ (g k) = some b) (h : Rd w σ Im v V) : Rd w τ Im (ren0 g v) V := by
  cases v <;> first | exact .any _ | exact Rd.imm0 rfl h | skip
  · obtain ⟨b, rfl, hb⟩ := h.inv_own
    exact .own _ _ _ (hτ _ _ hb)
  · rcases h.inv_os with ⟨rfl, a, rfl⟩ | ⟨b, cap, rfl, hb, h1, h2, h3⟩
    · exact .os0 _ _ _ _
    · exact .os _ _ _ _ _ _ (hτ _ _ hb) h1 h2 h3
theorem ren1_rd {w : World} {σ τ : Nat → Option Nat} {Im : Nat → Prop} {g : Nat → Nat} {v : AV} {V : Value} (hτ : ∀ k b, σ k = some b → τ (g k) = some b) (h : Rd w σ Im v V) : Rd w τ Im (ren1 g v) V := by
  unfold ren1
  split
  · obtain ⟨cs, rfl, h1, h2, h3⟩ := h.inv_agg
    exact .agg _ _ (by simpa using h1) (fun i hi => h2 i (by rw [List.length_map] at hi; exact hi)) fun i hi => by
      rw [List.length_map] at hi
      rw [getD_map _ _ _ hi]; exact ren0_rd hτ (h3 i hi)
  · obtain ⟨cs, rfl, h1, h3⟩ := h.inv_fn
    exact .fn _ _ _ (by simpa using h1) fun i hi => by
      rw [List.length_map] at hi
      rw [getD_map _ _ _ hi]; exact ren0_rd hτ (h3 i hi)
  · exact ren0_rd hτ h
theorem ren_rd {w : World} {σ τ : Nat → Option Nat} {Im : Nat → Prop} {g : Nat → Nat} {v : AV} {V : Value} (hτ : ∀ k b, σ k = some b → τ (g k) = some b) (h : Rd w σ Im v V) : Rd w τ Im (ren g v) V := by
  unfold ren
  split
  · obtain ⟨cs, rfl, h1, h3⟩ := h.inv_tup
    exact .tup _ _ (by simpa using h1) fun i hi => by
      rw [List.length_map] at hi
      rw [getD_map _ _ _ hi]; exact ren1_rd hτ (h3 i hi)
  · exact ren1_rd hτ h

inductive MR where
  | no
  | ok (ks : List Nat) (cargs : List AV) (rows : List OB) (p : Option Prop) (r : AV) (rows' : List OB)
def MConOk (P : Program) (mc : Nat → List AV → (Nat → OB) → MR) : Prop := ∀ f args own ks cargs rows p r rows', mc f args own = .ok ks cargs rows p r rows' → p.getD True → MCalls P f cargs rows r rows'
def posR (o : OB) : Prop :=
  match o with
  | .row l => match l with
    | [] => False
    | _ :: _ => True
  | .nums _ N _ => 0 < N
  | .arr N _ => 0 < N
  | .gone => False
  | .bts N _ => 0 < N
def posAll : List OB → Prop
  | [] => True
  | o :: r => posR o ∧ posAll r
def nodupB : List Nat → Bool
  | [] => true
  | k :: r => !memB r k && nodupB r
def gks : List Nat → Nat → Nat
  | [], _ => 0
  | k :: _, 0 => k
  | _ :: r, i + 1 => gks r i
def ksO : List Nat → Nat → Option Nat
  | [], _ => none
  | k :: _, 0 => some k
  | _ :: r, i + 1 => ksO r i
def agrKs (f : Nat → Option Nat) (own : Nat → OB) : List OB → List Nat → Prop
  | [], [] => True
  | b :: r, k :: ks => agrB f b (own k) ∧ agrKs f own r ks
  | _, _ => False
/-- The caller's name of the callee's block: beyond those that were handed over lie new ones. -/
def gksF : List Nat → Nat → Nat → Nat
  | [], nk, i => nk + i
  | k :: _, _, 0 => k
  | _ :: r, nk, i + 1 => gksF r nk i
def updsF (g : Nat → Nat) : (Nat → OB) → List Nat → List OB → Nat → ((Nat → OB) → Nat → Prop) → Prop
  | own, k :: ks, o :: r, nk, K => forceOB (renB g o) fun o => updsF g (upd own k o) ks r nk K
  | own, [], o :: r, nk, K => forceOB (renB g o) fun o => forceN (nk + 1) fun n1 => updsF g (upd own nk o) [] r n1 K
  | own, _, [], nk, K => K own nk
def updsG (g : Nat → Nat) : (Nat → OB) → List Nat → List OB → Nat → (Nat → OB)
  | own, k :: ks, o :: r, nk => updsG g (upd own k (renB g o)) ks r nk
  | own, [], o :: r, nk => updsG g (upd own nk (renB g o)) [] r (nk + 1)
  | own, _, [], _ => own
def mcal (mc : Nat → List AV → (Nat → OB) → MR) : Cal := fun f args K own nk =>
  match mc f args own with
  | .no => False
  | .ok ks cargs rows p r rows' => preE p (agrL1 (ksO ks) cargs args ∧ (agrKs (ksO ks) own rows ks ∧ (posAll rows ∧ (IsT (nodupB ks && Nat.ble ks.length rows'.length) ∧
      force (ren (gksF ks nk) r) fun r => updsF (gksF ks nk) own ks rows' nk fun own nk => K r own nk))))
theorem updsF_eq (g : Nat → Nat) : ∀ (ks : List Nat) (rows : List OB) (own : Nat → OB) (nk : Nat) (K : (Nat → OB) → Nat → Prop), updsF g own ks rows nk K = K (updsG g own ks rows nk) (nk + (rows.length - ks.length))
  | [], [], own, nk, K => by unfold updsF updsG; simp
  | _ :: _, [], own, nk, K => by unfold updsF updsG; simp
  | [], o :: r, own, nk, K => by
    show forceOB (renB g o) (fun o => forceN (nk + 1) fun n1 => updsF g (upd own nk o) [] r n1 K) = _
    rw [forceOB_eq, forceN_eq, updsF_eq g [] r]
    show K _ _ = K (updsG g (upd own nk (renB g o)) [] r (nk + 1)) _
    congr 1
    simp; omega
  | k :: ks, o :: r, own, nk, K => by
    show forceOB (renB g o) (fun o => updsF g (upd own k o) ks r nk K) = _
    rw [forceOB_eq, updsF_eq g ks r]
    show K _ _ = K (updsG g (upd own k (renB g o)) ks r nk) _
    congr 1
    simp
theorem gksF_lt : ∀ {ks : List Nat} {nk i : Nat}, i < ks.length → gksF ks nk i = gks ks i
  | [], nk, i, h => by simp at h
  | k :: r, nk, 0, h => rfl
  | k :: r, nk, i + 1, h => gksF_lt (ks := r) (by simpa using h)
theorem gksF_ge : ∀ {ks : List Nat} {nk i : Nat}, ks.length ≤ i → gksF ks nk i = nk + (i - ks.length)
  | [], nk, i, h => rfl
  | k :: r, nk, 0, h => by simp at h
  | k :: r, nk, i + 1, h => by
    show gksF r nk i = _
    rw [gksF_ge (ks := r) (by simpa using h)]
    simp
theorem updsG_new (g : Nat → Nat) : ∀ (rows : List OB) (own : Nat → OB) (nk k : Nat), updsG g own [] rows nk k = if nk ≤ k ∧ k < nk + rows.length then renB g (rowsO rows (k - nk)) else own k
  | [], own, nk, k => by unfold updsG; rw [if_neg (by rw [List.length_nil]; omega)]
  | o :: r, own, nk, k => by
    show updsG g (upd own nk (renB g o)) [] r (nk + 1) k = _
    rw [updsG_new g r]
    by_cases h : k = nk
    · subst h
      rw [if_neg (by omega), if_pos (by simp), upd_same, Nat.sub_self]; rfl
    · by_cases h2 : nk + 1 ≤ k ∧ k < nk + 1 + r.length
      · rw [if_pos h2, if_pos (by simp; omega), show k - nk = (k - (nk + 1)) + 1 by omega]; rfl
      · rw [if_neg h2, if_neg (by simp; omega), upd_other _ _ _ h]
theorem updsG_out (g : Nat → Nat) : ∀ (ks : List Nat) (rows : List OB) (own : Nat → OB) (nk k : Nat), k ∉ ks → (k < nk ∨ nk + (rows.length - ks.length) ≤ k) → updsG g own ks rows nk k = own k
  | [], rows, own, nk, k, _, h => by rw [updsG_new, if_neg (by simp at h; omega)]
  | j :: ks, [], own, nk, k, _, _ => by unfold updsG; rfl
  | j :: ks, o :: r, own, nk, k, hk, h => by
    show updsG g (upd own j (renB g o)) ks r nk k = own k
    rw [updsG_out g ks r _ nk k (fun hc => hk (by simp [hc])) (by simp at h; omega), upd_other _ _ _ (fun e => hk (by simp [e]))]
theorem updsG_in (g : Nat → Nat) : ∀ (ks : List Nat) (rows : List OB) (own : Nat → OB) (nk i : Nat), nodupB ks = true → (∀ k ∈ ks, k < nk) → ks.length ≤ rows.length → i < rows.length → updsG g own ks rows nk (gksF ks nk i) = renB g (rowsO rows i)
  | [], rows, own, nk, i, _, _, _, hi => by
    rw [updsG_new, gksF_ge (by simp), if_pos (by simp only [List.length_nil, Nat.sub_zero]; omega)]; simp
  | j :: ks, [], own, nk, i, _, _, h, _ => by simp at h
  | j :: ks, o :: r, own, nk, i, hn, hlt, hl, hi => by
    unfold nodupB at hn
    rw [Bool.and_eq_true] at hn
    have hk : j ∉ ks := fun hc => by have := memB_of hc; rw [this] at hn; cases hn.1
    show updsG g (upd own j (renB g o)) ks r nk _ = _
    cases i with
    | zero =>
      show updsG g (upd own j (renB g o)) ks r nk j = renB g o
      rw [updsG_out g ks r _ nk j hk (.inl (hlt j (by simp))), upd_same]
    | succ i => exact updsG_in g ks r _ nk i hn.2 (fun k hk => hlt k (by simp [hk])) (by simpa using hl) (by simpa using hi)
theorem ksO_lt : ∀ {ks : List Nat} {i a : Nat}, ksO ks i = some a → i < ks.length ∧ gks ks i = a ∧ a ∈ ks
  | [], i, a, h => by cases h
  | k :: r, 0, a, h => by cases h; exact ⟨by simp, rfl, by simp⟩
  | k :: r, i + 1, a, h => by
    obtain ⟨h1, h2, h3⟩ := ksO_lt (ks := r) h
    exact ⟨by simpa using h1, h2, by simp [h3]⟩
theorem ksO_some : ∀ {ks : List Nat} {i : Nat}, i < ks.length → ksO ks i = some (gks ks i)
  | [], i, h => by simp at h
  | k :: r, 0, h => rfl
  | k :: r, i + 1, h => ksO_some (ks := r) (by simpa using h)
theorem ksO_inj : ∀ {ks : List Nat}, nodupB ks = true → ∀ {i j a : Nat}, ksO ks i = some a → ksO ks j = some a → i = j
  | [], _, i, j, a, h, _ => by cases h
  | k :: r, hn, i, j, a, h, h' => by
    unfold nodupB at hn
    rw [Bool.and_eq_true] at hn
    have hk : k ∉ r := fun hc => by have := memB_of hc; rw [this] at hn; cases hn.1
    cases i with
    | zero =>
      cases j with
      | zero => rfl
      | succ j => cases h; exact absurd (ksO_lt (ks := r) h').2.2 hk
    | succ i =>
      cases j with
      | zero => cases h'; exact absurd (ksO_lt (ks := r) h).2.2 hk
      | succ j => rw [ksO_inj (ks := r) hn.2 h h']
theorem ksO_mem : ∀ {ks : List Nat} {k : Nat}, k ∈ ks → ∃ i, ksO ks i = some k
  | [], k, h => by simp at h
  | a :: r, k, h => by
    rcases List.mem_cons.1 h with rfl | h
    · exact ⟨0, rfl⟩
    · obtain ⟨i, hi⟩ := ksO_mem h
      exact ⟨i + 1, hi⟩
theorem agrKs_get {f : Nat → Option Nat} {own : Nat → OB} : ∀ {rows : List OB} {ks : List Nat}, agrKs f own rows ks → rows.length = ks.length ∧ ∀ i, i < ks.length → agrB f (rowsO rows i) (own (gks ks i))
  | [], [], _ => ⟨rfl, fun i hi => by simp at hi⟩
  | b :: r, k :: ks, h => by
    obtain ⟨h1, h2⟩ := agrKs_get (rows := r) (ks := ks) h.2
    refine ⟨by simp [h1], fun i hi => ?_⟩
    cases i with
    | zero => exact h.1
    | succ i => exact h2 i (by simpa using hi)
  | [], _ :: _, h => h.elim
  | _ :: _, [], h => h.elim
theorem posAll_get : ∀ {rows : List OB}, posAll rows → ∀ i, i < rows.length → 0 < (rowsO rows i).N ∧ (rowsO rows i).live
  | [], _, i, h => by simp at h
  | o :: r, h, i, hi => by
    cases i with
    | zero =>
      have := h.1
      show 0 < o.N ∧ o.live
      cases o with
      | row l => cases l with
        | nil => exact this.elim
        | cons a l => exact ⟨by show 0 < (a :: l).length; simp, trivial⟩
      | nums k N P => exact ⟨this, trivial⟩
      | arr N g => exact ⟨this, trivial⟩
      | gone => exact this.elim
      | bts N Q => exact ⟨this, trivial⟩
    | succ i => exact posAll_get (rows := r) h.2 i (by simpa using hi)
theorem agrL1_two {w : World} {σ : Nat → Option Nat} {Im : Nat → Prop} {f : Nat → Option Nat} : ∀ {l m : List AV} {vals : List Value}, agrL1 f l m → Two (Rd w σ Im) m vals → Two (Rd w (fun k => (f k).bind σ) Im) l vals
  | [], [], _, _, ht => by cases ht; exact .nil
  | v :: r, u :: s, _, h, ht => by
    cases ht with
    | cons h1 h2 => exact .cons (agr1_rd h.1 h1) (agrL1_two h.2 h2)
  | [], _ :: _, _, h, _ => h.elim
  | _ :: _, [], _, h, _ => h.elim
theorem mcal_ok {mc : Nat → List AV → (Nat → OB) → MR} (hmc : MConOk P mc) : CalOk P w0 (mcal mc) := by
  intro f args K own nk h w σ Im vals hS hnew hdead ht
  unfold mcal at h
  split at h
  · exact h.elim
  rename_i ks cargs rows p r rows' e
  obtain ⟨hp, h1, h2, h3, h4, h5⟩ := preE_iff h
  rw [force_eq, updsF_eq] at h5
  have h4 := h4.eq
  rw [Bool.and_eq_true] at h4
  obtain ⟨hnd, hl'⟩ := h4
  have hl' := Nat.le_of_ble_eq_true hl'
  obtain ⟨hl, hag⟩ := agrKs_get h2
  have hM := hmc f args own ks cargs rows p r rows' e hp
  have hinj : ∀ {i j a}, ksO ks i = some a → ksO ks j = some a → i = j := fun h h' => ksO_inj hnd h h'
  -- the blocks named by the callee
  obtain ⟨σc, hσc⟩ : ∃ σc : Nat → Option Nat, σc = fun k => (ksO ks k).bind σ := ⟨_, rfl⟩
  have sc : ∀ i b, σc i = some b → i < ks.length ∧ σ (gks ks i) = some b := fun i b hb => by
    rw [hσc] at hb
    simp only [Option.bind_eq_some_iff] at hb
    obtain ⟨a, ha, hb⟩ := hb
    obtain ⟨q1, q2, _⟩ := ksO_lt ha
    exact ⟨q1, by rw [q2]; exact hb⟩
  have cs : ∀ i b, i < ks.length → σ (gks ks i) = some b → σc i = some b := fun i b hi hb => by
    rw [hσc]; simp only [ksO_some hi, Option.bind_some, hb]
  have rlive : ∀ i, (rowsO rows i).live → i < ks.length := fun i hi => by
    rcases Nat.lt_or_ge i rows.length with h | h
    · omega
    · rw [rowsO_ge rows i h] at hi; exact hi.elim
  have olive : ∀ i, i < ks.length → (own (gks ks i)).live := fun i hi => agrB_live (hag i hi) (posAll_get h3 i (by omega)).2
  have klt : ∀ k ∈ ks, k < nk := fun k hk => by
    obtain ⟨i, hi⟩ := ksO_mem hk
    obtain ⟨q1, q2, _⟩ := ksO_lt hi
    rcases Nat.lt_or_ge k nk with h | h
    · exact h
    · exact absurd (olive i q1) (by rw [q2]; exact hdead k h)
  have held0 : ∀ i, i < ks.length → Held w0.kp w σc Im i (rowsO rows i) := fun i hi => by
    rw [hσc]
    exact agrB_held (ksO_some hi) (hag i hi) (posAll_get h3 i (by omega)).2 (hS.held _ (olive i hi))
  have heldc : ∀ i, i < ks.length → ∃ b, σc i = some b ∧ ¬ Im b := fun i hi => by
    rcases held0 i hi with q | ⟨b, q1, q2, _, _⟩
    · have := (posAll_get h3 i (by omega)).1; omega
    · exact ⟨b, q1, q2⟩
  have hSc : Sat ⟨w, Im, fun b => b < w.heap.size ∧ ∀ k, σc k ≠ some b, fun b hb => hb.1, w0.gl, (fun b hb => ⟨Nat.lt_of_lt_of_le (w0.kpl b (w0.glk b hb)) hS.bel.size, fun i hi => hS.sgB _ b (sc i b hi).2 (w0.glk b hb)⟩), fun w' hb => w0.tw w' (Below.trans ⟨hS.bel.os, hS.bel.tape, hS.bel.output, hS.bel.size, fun b h => hS.bel.block b (w0.glk b h)⟩ hb)⟩ w σc Im (rowsO rows) := by
    refine ⟨⟨rfl, rfl, rfl, Nat.le_refl _, fun _ _ => rfl⟩, hS.im, fun k b hb => hS.sg _ b (sc k b hb).2, fun k hk => ?_, fun i j b hi hj ei ej => ?_, fun b hb => .inl hb, fun k b hb hc => hc.2 k hb⟩
    · rcases held0 k (rlive k hk) with q | ⟨b, q1, q2, q3, q4⟩
      · exact .inl q
      · exact .inr ⟨b, q1, q2, fun hc => hc.2 k q1, q4⟩
    · have li := rlive i hi
      have lj := rlive j hj
      have := hS.inj _ _ b (olive i li) (olive j lj) (sc i b ei).2 (sc j b ej).2
      exact hinj (ksO_some li) (by rw [ksO_some lj, this])
  refine (hM _ w σc Im vals hSc (fun k hk => ?_) (by rw [hσc]; exact agrL1_two h1 ht)).mono fun v w' ⟨σ', Im', hr, hS', hn', hg⟩ => ?_
  · cases hb : σc k with
    | none => rfl
    | some b => have := (sc k b hb).1; omega
  · -- the caller's names afterwards
    obtain ⟨σ2, hσ2⟩ : ∃ σ2 : Nat → Option Nat, σ2 = fun k => if k < nk then σ k else if k < nk + (rows'.length - ks.length) then σ' (ks.length + (k - nk)) else none := ⟨_, rfl⟩
    have s2lt : ∀ k, k < nk → σ2 k = σ k := fun k hk => by rw [hσ2]; simp only [if_pos hk]
    have s2ge : ∀ i, ks.length ≤ i → i < rows'.length → σ2 (nk + (i - ks.length)) = σ' i := fun i hi hi' => by
      rw [hσ2]
      simp only [if_neg (show ¬ nk + (i - ks.length) < nk by omega), if_pos (show nk + (i - ks.length) < nk + (rows'.length - ks.length) by omega)]
      congr 1; omega
    have s2up : ∀ k b, σ k = some b → σ2 k = some b := fun k b hb => by
      rcases Nat.lt_or_ge k nk with h | h
      · rw [s2lt k h]; exact hb
      · rw [hnew k h] at hb; cases hb
    have s2cases : ∀ k b, σ2 k = some b → (k < nk ∧ σ k = some b) ∨ ∃ i, ks.length ≤ i ∧ i < rows'.length ∧ k = nk + (i - ks.length) ∧ σ' i = some b := fun k b hb => by
      rcases Nat.lt_or_ge k nk with h | h
      · rw [s2lt k h] at hb; exact .inl ⟨h, hb⟩
      · by_cases h2 : k < nk + (rows'.length - ks.length)
        · refine .inr ⟨ks.length + (k - nk), by omega, by omega, by omega, ?_⟩
          rw [hσ2] at hb
          simpa only [if_neg (show ¬ k < nk by omega), if_pos h2] using hb
        · rw [hσ2] at hb
          simp only [if_neg (show ¬ k < nk by omega), if_neg h2] at hb
          cases hb
    have sback : ∀ i b, i < ks.length → σ' i = some b → σ (gks ks i) = some b := fun i b hi hb => by
      obtain ⟨b0, q1, _⟩ := heldc i hi
      have := hg.sg i b0 (by omega) q1
      rw [hb] at this
      cases this
      exact (sc i b q1).2
    have back : ∀ k b, σ' k = some b → σ2 (gksF ks nk k) = some b := fun k b hb => by
      rcases Nat.lt_or_ge k ks.length with hk | hk
      · rw [gksF_lt hk]; exact s2up _ _ (sback k b hk hb)
      · rcases Nat.lt_or_ge k rows'.length with hk' | hk'
        · rw [gksF_ge hk, s2ge k hk hk']; exact hb
        · rw [hn' k (by omega) hk'] at hb; cases hb
    have same : ∀ b, b < w.heap.size → (∀ i, σc i ≠ some b) → w'.heap[b]? = w.heap[b]? := fun b hb hi => hS'.bel.block b ⟨hb, hi⟩
    have hlen : ∀ k b, σ k = some b → blen w' b = blen w b := fun k b hb => by
      by_cases hx : ∃ i, σc i = some b
      · obtain ⟨i, hi⟩ := hx
        exact hg.len i b (by have := (sc i b hi).1; omega) hi
      · unfold blen
        rw [same b (hS.sg k b hb) fun i hi => hx ⟨i, hi⟩]
    have g1 : Go1 w σ Im w' σ2 Im' := ⟨hg.im, hg.blk, s2up, hlen⟩
    have hsize : w.heap.size ≤ w'.heap.size := hS'.bel.size
    have notkp : ∀ i b, σ' i = some b → ¬ w0.kp b := fun i b hb hk => by
      by_cases hx : ∃ j, σc j = some b
      · obtain ⟨j, hj⟩ := hx
        exact hS.sgB _ b (sc j b hj).2 hk
      · exact hS'.sgB i b hb ⟨Nat.lt_of_lt_of_le (w0.kpl b hk) hS.bel.size, fun j hj => hx ⟨j, hj⟩⟩
    have cases_k : ∀ k, (k ∉ ks ∧ (k < nk ∨ nk + (rows'.length - ks.length) ≤ k) ∧ updsG (gksF ks nk) own ks rows' nk k = own k) ∨ ∃ i, i < rows'.length ∧ k = gksF ks nk i ∧ updsG (gksF ks nk) own ks rows' nk k = renB (gksF ks nk) (rowsO rows' i) := fun k => by
      by_cases hk : k ∈ ks
      · obtain ⟨i, hi⟩ := ksO_mem hk
        obtain ⟨q1, q2, _⟩ := ksO_lt hi
        refine .inr ⟨i, by omega, by rw [gksF_lt q1, q2], ?_⟩
        rw [← q2, ← gksF_lt (nk := nk) q1, updsG_in _ ks _ own nk i hnd klt hl' (by omega)]
      · by_cases hk2 : k < nk ∨ nk + (rows'.length - ks.length) ≤ k
        · exact .inl ⟨hk, hk2, updsG_out _ _ _ _ _ _ hk hk2⟩
        · refine .inr ⟨ks.length + (k - nk), by omega, by rw [gksF_ge (by omega)]; omega, ?_⟩
          have e : k = gksF ks nk (ks.length + (k - nk)) := by rw [gksF_ge (by omega)]; omega
          have := updsG_in (gksF ks nk) ks rows' own nk (ks.length + (k - nk)) hnd klt hl' (by omega)
          rwa [← e] at this
    have rB : ∀ o : OB, (renB (gksF ks nk) o).live → o.live := fun o ho => by cases o <;> first | trivial | exact ho
    -- what lies behind a name that the callee did not touch
    have other : ∀ k b, k ∉ ks → (own k).live → σ k = some b → ∀ i, σ' i ≠ some b := fun k b hk hl hb i hi => by
      have hne : ∀ j, σc j ≠ some b := fun j hj => by
        obtain ⟨lj, hj⟩ := sc j b hj
        have := hS.inj _ _ b hl (olive j lj) hb hj
        exact hk (this ▸ (ksO_lt (ksO_some lj)).2.2)
      exact hS'.sgB i b hi ⟨hS.sg k b hb, hne⟩
    have s2of : ∀ i b, i < rows'.length → σ2 (gksF ks nk i) = some b → σ' i = some b ∨ (i < ks.length ∧ σ' i = none) := fun i b hi hb => by
      rcases Nat.lt_or_ge i ks.length with h | h
      · cases hs : σ' i with
        | none => exact .inr ⟨h, rfl⟩
        | some c =>
          have := back i c hs
          rw [hb] at this; cases this; exact .inl rfl
      · rw [gksF_ge h, s2ge i h hi] at hb; exact .inl hb
    have s'some : ∀ i, i < ks.length → ∃ b, σ' i = some b := fun i hi => by
      obtain ⟨b0, q1, _⟩ := heldc i hi
      exact ⟨b0, hg.sg i b0 (by omega) q1⟩
    have s2of' : ∀ i b, i < rows'.length → σ2 (gksF ks nk i) = some b → σ' i = some b := fun i b hi hb => by
      rcases s2of i b hi hb with h | ⟨h, h'⟩
      · exact h
      · obtain ⟨c, hc⟩ := s'some i h
        rw [h'] at hc; cases hc
    refine ⟨σ2, Im', _, _, nk + (rows'.length - ks.length), h5, ren_rd back hr, ⟨⟨hS'.bel.os.trans hS.bel.os, hS'.bel.tape.trans hS.bel.tape, hS'.bel.output.trans hS.bel.output, Nat.le_trans hS.bel.size hsize, fun b hb => ?_⟩, hS'.im, fun k b hb => ?_, fun k hk => ?_, fun i j b hi hj ei ej => ?_, fun b hb => ?_, fun k b hb => ?_⟩, fun k hk => ?_, fun k hk hl => ?_, g1⟩
    · rw [same b (Nat.lt_of_lt_of_le (w0.kpl b hb) hS.bel.size) fun i hi => hS.sgB _ b (sc i b hi).2 hb]
      exact hS.bel.block b hb
    · rcases s2cases k b hb with ⟨_, q⟩ | ⟨i, _, _, _, q⟩
      · exact Nat.lt_of_lt_of_le (hS.sg k b q) hsize
      · exact hS'.sg i b q
    · rcases cases_k k with ⟨hnk, hk2, q⟩ | ⟨i, hi, rfl, q⟩
      · rw [q] at hk ⊢
        have hlt : k < nk := by
          rcases Nat.lt_or_ge k nk with h | h
          · exact h
          · exact absurd hk (hdead k h)
        rcases hS.held k hk with ⟨q0, q1⟩ | ⟨b, q1, q2, q3, q4⟩
        · exact .inl ⟨q0, by rw [s2lt k hlt]; exact q1⟩
        · have hne : ∀ i, σc i ≠ some b := fun i hi => by
            obtain ⟨li, hi⟩ := sc i b hi
            have := hS.inj _ _ b hk (olive i li) q1 hi
            exact hnk (this ▸ (ksO_lt (ksO_some li)).2.2)
          refine .inr ⟨b, s2up k b q1, fun hc => ?_, q3, q4.mono (same b (hS.sg k b q1) hne) fun i v hv => hv.mono (g1.sg' _)⟩
          rcases hS'.imB b hc with q5 | q5
          · exact q2 q5
          · exact q5 ⟨hS.sg k b q1, hne⟩
      · rw [q] at hk ⊢
        have hN : (renB (gksF ks nk) (rowsO rows' i)).N = (rowsO rows' i).N := by
          cases rowsO rows' i <;> first | rfl | (show List.length (List.map _ _) = _; simp; rfl)
        rcases hS'.held i (rB _ hk) with ⟨q0, q1⟩ | ⟨b, q1, q2, q3, q4⟩
        · rcases Nat.lt_or_ge i ks.length with h | h
          · obtain ⟨c, hc⟩ := s'some i h
            rw [q1] at hc; cases hc
          · exact .inl ⟨by rw [hN]; exact q0, by rw [gksF_ge h, s2ge i h hi]; exact q1⟩
        · have hb := back i b q1
          refine .inr ⟨b, hb, q2, notkp i b q1, ?_⟩
          have hTy : (renB (gksF ks nk) (rowsO rows' i)).ty = (rowsO rows' i).ty := by cases rowsO rows' i <;> rfl
          rw [hN, hTy]
          obtain ⟨z1, z2, z3⟩ := q4
          refine ⟨z1, z2, fun j hj => ?_⟩
          obtain ⟨v, c1, c2, c3⟩ := z3 j hj
          refine ⟨v, c1, c2, ?_⟩
          cases ho : rowsO rows' i with
          | row l =>
            rw [ho] at c3 hj
            have hj : j < l.length := hj
            show Rd w' σ2 Im' ((l.map (ren0 (gksF ks nk))).getD j .any) v
            rw [getD_map _ _ _ hj]
            exact ren0_rd back c3
          | nums kd N Q => rw [ho] at c3; exact flat0_rd rfl c3
          | arr N g => rw [ho] at c3; exact c3
          | gone => rw [ho] at hk; exact hk.elim
          | bts N Q => rw [ho] at c3; exact flat0_rd rfl c3
    · rcases cases_k i with ⟨hni, hi2, qi⟩ | ⟨a, ha, rfl, qi⟩ <;> rcases cases_k j with ⟨hnj, hj2, qj⟩ | ⟨c, hc, rfl, qj⟩
      · rw [qi] at hi
        rw [qj] at hj
        have hlt : ∀ k, (own k).live → k < nk := fun k hk => by
          rcases Nat.lt_or_ge k nk with h | h
          · exact h
          · exact absurd hk (hdead k h)
        rw [s2lt i (hlt i hi)] at ei
        rw [s2lt j (hlt j hj)] at ej
        exact hS.inj i j b hi hj ei ej
      · rw [qi] at hi
        have hlt : i < nk := by
          rcases Nat.lt_or_ge i nk with h | h
          · exact h
          · exact absurd hi (hdead i h)
        rw [s2lt i hlt] at ei
        exact absurd (s2of' c b hc ej) (other i b hni hi ei c)
      · rw [qj] at hj
        have hlt : j < nk := by
          rcases Nat.lt_or_ge j nk with h | h
          · exact h
          · exact absurd hj (hdead j h)
        rw [s2lt j hlt] at ej
        exact absurd (s2of' a b ha ei) (other j b hnj hj ej a)
      · rw [qi] at hi
        rw [qj] at hj
        rw [hS'.inj a c b (rB _ hi) (rB _ hj) (s2of' a b ha ei) (s2of' c b hc ej)]
    · rcases hS'.imB b hb with q | q
      · exact hS.imB b q
      · by_cases hx : ∃ i, σc i = some b
        · obtain ⟨i, hi⟩ := hx
          exact .inr (hS.sgB _ b (sc i b hi).2)
        · refine .inr fun hk => q ⟨Nat.lt_of_lt_of_le (w0.kpl b hk) hS.bel.size, fun i hi => hx ⟨i, hi⟩⟩
    · rcases s2cases k b hb with ⟨_, q⟩ | ⟨i, _, _, _, q⟩
      · exact hS.sgB k b q
      · exact notkp i b q
    · rw [hσ2]
      simp only [if_neg (show ¬ k < nk by omega), if_neg (show ¬ k < nk + (rows'.length - ks.length) by omega)]
    · rcases cases_k k with ⟨_, _, q⟩ | ⟨i, hi, rfl, q⟩
      · rw [q] at hl; exact hdead k (by omega) hl
      · rcases Nat.lt_or_ge i ks.length with h | h
        · have := klt (gksF ks nk i) (by rw [gksF_lt h]; exact (ksO_lt (ksO_some h)).2.2)
          omega
        · rw [gksF_ge h] at hk; omega
/-- The callee's names of what is handed back: first the blocks that were handed over, then new ones. -/
def nthO : List Nat → Nat → Option Nat
  | [], _ => none
  | k :: _, 0 => some k
  | _ :: r, i + 1 => nthO r i
def pinF (n : Nat) (ρ : List Nat) (k : Nat) : Option Nat := bif Nat.blt k n then some k else nthO ρ (k - n)
def agrRowsF (f : Nat → Option Nat) (own : Nat → OB) : List OB → Nat → Prop
  | [], _ => True
  | b :: r, k => (match f k with | some k' => agrB f b (own k') | none => False) ∧ agrRowsF f own r (k + 1)
def outF (n : Nat) (r : AV) (rows' : List OB) : AV → (Nat → OB) → Nat → Prop := fun u own _ =>
  ∃ ρ : List Nat, agr (pinF n ρ) r u ∧ (agrRowsF (pinF n ρ) own rows' 0 ∧ IsT (Nat.beq rows'.length (n + ρ.length) && (nodupB ρ && ρ.all (Nat.ble n))))
theorem rho_mk {p : List Nat → Prop} (ρ : List Nat) (h : p ρ) : ∃ ρ, p ρ := ⟨ρ, h⟩
theorem nthO_lt : ∀ {l : List Nat} {i a : Nat}, nthO l i = some a → i < l.length ∧ a ∈ l
  | [], i, a, h => by cases h
  | k :: r, 0, a, h => by cases h; exact ⟨by simp, by simp⟩
  | k :: r, i + 1, a, h => by
    obtain ⟨h1, h2⟩ := nthO_lt (l := r) h
    exact ⟨by simpa using h1, by simp [h2]⟩
theorem nthO_inj : ∀ {l : List Nat}, nodupB l = true → ∀ {i j a : Nat}, nthO l i = some a → nthO l j = some a → i = j
  | [], _, i, j, a, h, _ => by cases h
  | k :: r, hn, i, j, a, h, h' => by
    unfold nodupB at hn
    rw [Bool.and_eq_true] at hn
    have hk : k ∉ r := fun hc => by have := memB_of hc; rw [this] at hn; cases hn.1
    cases i with
    | zero =>
      cases j with
      | zero => rfl
      | succ j => cases h; exact absurd (nthO_lt (l := r) h').2 hk
    | succ i =>
      cases j with
      | zero => cases h'; exact absurd (nthO_lt (l := r) h).2 hk
      | succ j => rw [nthO_inj (l := r) hn.2 h h']
theorem pinF_cases {n : Nat} {ρ : List Nat} {k a : Nat} (h : pinF n ρ k = some a) : (k < n ∧ a = k) ∨ (n ≤ k ∧ nthO ρ (k - n) = some a) := by
  unfold pinF at h
  cases hb : Nat.blt k n with
  | true => rw [hb] at h; cases h; exact .inl ⟨Nat.le_of_ble_eq_true hb, rfl⟩
  | false =>
    rw [hb] at h
    refine .inr ⟨?_, h⟩
    rcases Nat.lt_or_ge k n with g | g
    · have : Nat.blt k n = true := Nat.ble_eq_true_of_le g
      rw [hb] at this; cases this
    · exact g
theorem pinF_lt {n : Nat} {ρ : List Nat} {k : Nat} (h : k < n) : pinF n ρ k = some k := by
  unfold pinF
  rw [show Nat.blt k n = true from Nat.ble_eq_true_of_le h]; rfl
theorem pinF_inj {n : Nat} {ρ : List Nat} (h1 : nodupB ρ = true) (h2 : ρ.all (Nat.ble n) = true) {k k' a : Nat} (e : pinF n ρ k = some a) (e' : pinF n ρ k' = some a) : k = k' := by
  have ge : ∀ a ∈ ρ, n ≤ a := fun a ha => Nat.le_of_ble_eq_true (List.all_eq_true.1 h2 a ha)
  rcases pinF_cases e with ⟨c1, c2⟩ | ⟨c1, c2⟩ <;> rcases pinF_cases e' with ⟨d1, d2⟩ | ⟨d1, d2⟩
  · omega
  · have := ge a (nthO_lt d2).2; omega
  · have := ge a (nthO_lt c2).2; omega
  · have := nthO_inj h1 c2 d2; omega
theorem agrRowsF_get {f : Nat → Option Nat} {own : Nat → OB} : ∀ (l : List OB) (n k : Nat), agrRowsF f own l n → k < l.length → ∃ k', f (n + k) = some k' ∧ agrB f (rowsO l k) (own k')
  | [], n, k, _, h => by simp at h
  | b :: r, n, 0, h, _ => by
    have h := h.1
    rw [Nat.add_zero]
    split at h
    · rename_i k' e; exact ⟨k', e, h⟩
    · exact h.elim
  | b :: r, n, k + 1, h, hk => by
    have := agrRowsF_get r (n + 1) k h.2 (by simpa using hk)
    rwa [show n + 1 + k = n + (k + 1) by omega] at this
theorem Sat.pinF {w σ Im own} (hS : Sat w0 w σ Im own) {n : Nat} {ρ : List Nat} {rows : List OB} (h1 : nodupB ρ = true) (h2 : ρ.all (Nat.ble n) = true) (h : agrRowsF (Ev.pinF n ρ) own rows 0) : Sat w0 w (fun k => (Ev.pinF n ρ k).bind σ) Im (rowsO rows) := by
  have live : ∀ k, (rowsO rows k).live → k < rows.length := fun k hk => by
    rcases Nat.lt_or_ge k rows.length with h | h
    · exact h
    · rw [rowsO_ge rows k h] at hk; exact hk.elim
  have get : ∀ k, k < rows.length → ∃ k', Ev.pinF n ρ k = some k' ∧ agrB (Ev.pinF n ρ) (rowsO rows k) (own k') := fun k hk => by
    have := agrRowsF_get rows 0 k h hk
    rwa [Nat.zero_add] at this
  have hsg : ∀ k b, (Ev.pinF n ρ k).bind σ = some b → ∃ k', Ev.pinF n ρ k = some k' ∧ σ k' = some b := fun k b e => by
    simp only [Option.bind_eq_some_iff] at e
    exact e
  refine ⟨hS.bel, hS.im, fun k b e => ?_, fun k hk => ?_, fun k k' b hk hk' e e' => ?_, hS.imB, fun k b e => ?_⟩
  · obtain ⟨k', _, e2⟩ := hsg k b e; exact hS.sg k' b e2
  · obtain ⟨k', e1, e2⟩ := get k (live k hk)
    exact agrB_held e1 e2 hk (hS.held k' (agrB_live e2 hk))
  · obtain ⟨c, e1, e2⟩ := hsg k b e
    obtain ⟨c', f1, f2⟩ := hsg k' b e'
    obtain ⟨d, g1, g2⟩ := get k (live k hk)
    obtain ⟨d', g1', g2'⟩ := get k' (live k' hk')
    rw [e1] at g1; cases g1
    rw [f1] at g1'; cases g1'
    have := hS.inj c c' b (agrB_live g2 hk) (agrB_live g2' hk') e2 f2
    subst this
    exact pinF_inj h1 h2 e1 f1
  · obtain ⟨k', _, e2⟩ := hsg k b e; exact hS.sgB k' b e2

/-- Arguments as what reads alone; pointers to the call's own blocks as they are. -/
def pubP (own : Nat → OB) : List AV → PL
  | [] => .ok [] [] none
  | v :: r => match v with
    | .own k o => match pubP own r with
      | .no => .no
      | .ok l ls q => .ok (.own k o :: l) ls q
    | v => match pub1 own v with
      | .no => .no
      | .ok v ks p => match pubP own r with
        | .no => .no
        | .ok l ls q => .ok (v :: l) (ks ++ ls) (andP p q)
def mcalP (mc : Nat → List AV → (Nat → OB) → MR) : Cal := fun f args K own nk =>
  match mc f args own with
  | .ok _ _ _ _ _ _ => mcal mc f args K own nk
  | .no => match pubP own args with
    | .no => False
    | .ok l ls p => preE p (forceL1 l fun l => applyK (ls.map fun k => (k, .gone)) own fun own => mcal mc f l K own nk)
theorem pubP_sound {w : World} {σ : Nat → Option Nat} {Im : Nat → Prop} {own : Nat → OB} (hS : Sat w0 w σ Im own) : ∀ {l u : List AV} {ks : List Nat} {p : Option Prop} (vals : List Value), pubP own l = .ok u ks p → p.getD True → Two (Rd w σ Im) l vals → Two (Rd w σ (Lent σ Im ks)) u vals ∧ ∀ k ∈ ks, (own k).live
  | [], u, ks, p, vals, h, _, ht => by cases h; cases ht; exact ⟨.nil, fun k hk => by simp at hk⟩
  | v :: r, u, ks, p, vals, h, hp, ht => by
    cases ht
    rename_i V vs hv ht
    unfold pubP at h
    split at h
    · rename_i k o
      split at h
      · cases h
      rename_i l' k2 p2 e2
      cases h
      obtain ⟨a1, a2⟩ := pubP_sound hS vs e2 hp ht
      exact ⟨.cons (hv.wide fun b hb => .inl hb) a1, a2⟩
    · split at h
      · cases h
      rename_i v' k1 p1 e1
      split at h
      · cases h
      rename_i l' k2 p2 e2
      cases h
      obtain ⟨a1, a2⟩ := pubP_sound hS vs e2 (andP_r hp) ht
      obtain ⟨b1, b2⟩ := pub1_sound hS e1 (andP_l hp) hv
      refine ⟨.cons (b1.wide fun b hb => Lent.l hb).up ?_, fun k hk => (List.mem_append.1 hk).elim (b2 k) (a2 k)⟩
      clear hp ht e2
      induction a1 with
      | nil => exact .nil
      | cons h t ih => exact .cons (h.wide fun b hb => Lent.r hb) ih
theorem applyW_gone (own : Nat → OB) : ∀ (ks : List Nat) (k : Nat), (applyW own (ks.map fun k => (k, OB.gone)) k).live → (own k).live
  | [], k, h => h
  | j :: ks, k, h => by
    have : applyW own ((j :: ks).map fun k => (k, OB.gone)) = applyW (upd own j .gone) (ks.map fun k => (k, OB.gone)) := rfl
    rw [this] at h
    have := applyW_gone (upd own j .gone) ks k h
    rcases upd_cases own j .gone k with ⟨_, e⟩ | ⟨_, e⟩
    · rw [e] at this; exact this.elim
    · rwa [e] at this
theorem mcalP_ok {mc : Nat → List AV → (Nat → OB) → MR} (hmc : MConOk P mc) : CalOk P w0 (mcalP mc) := by
  intro f args K own nk h w σ Im vals hS hnew hdead ht
  unfold mcalP at h
  split at h
  · exact mcal_ok hmc f args K own nk h w σ Im vals hS hnew hdead ht
  split at h
  · exact h.elim
  rename_i l ls p e
  obtain ⟨hp, h⟩ := preE_iff h
  rw [forceL1_eq, applyK_eq] at h
  obtain ⟨a1, a2⟩ := pubP_sound hS vals e hp ht
  have hsh := shuts hS ls a2 Im own hS (fun _ _ => rfl) hS.im (fun k h h' => absurd h h')
  refine (mcal_ok hmc f l K _ nk h w σ _ vals hsh hnew (fun k hk hl => hdead k hk (applyW_gone own ls k hl)) a1).mono fun v w' ⟨σ', Im', u, own', nk', b1, b2, b3, b4, b5, b6⟩ => ?_
  exact ⟨σ', Im', u, own', nk', b1, b2, b3, b4, b5, ⟨fun b hb => b6.im b (.inl hb), fun b hb => b6.blk b (.inl hb), b6.sg, b6.len⟩⟩
end
end Ev
end Go.Proofs.YtphdjmaebdmdmaaGreatDoor
