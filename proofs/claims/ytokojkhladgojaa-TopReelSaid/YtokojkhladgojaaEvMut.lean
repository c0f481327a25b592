/- The abstract machine: contracts of functions that write the caller's blocks. -/
import Derived.Test.YtokojkhladgojaaEvSound
namespace Go.Proofs.Ytokojkhladgojaa
open Go.RowKit
set_option linter.unusedVariables false
set_option linter.unusedSimpArgs false
namespace Ev

def rowsO : List OB → Nat → OB
  | [], _ => .gone
  | o :: _, 0 => o
  | _ :: r, k + 1 => rowsO r k
def upds : (Nat → OB) → List Nat → List OB → (Nat → OB)
  | own, k :: ks, o :: r => upds (upd own k o) ks r
  | own, _, _ => own
/-- A contract: blocks 0, 1, .. of the caller's are such, and afterwards so. -/
def MCalls (P : Program) (f : FuncId) (args : List AV) (rows : List OB) (r : AV) (rows' : List OB) : Prop :=
  ∀ (w0 : St0) (w : World) (σ : Nat → Option Nat) (Im : Nat → Prop) (vals : List Value), Sat w0 w σ Im (rowsO rows) → (∀ k, rows.length ≤ k → σ k = none) → Two (Rd w σ Im) args vals →
    Runs P ((callFunc f vals.toArray).run P w) fun v w' => ∃ σ' Im', Rd w' σ' Im' r v ∧ Sat w0 w' σ' Im' (rowsO rows') ∧ (∀ k, rows.length ≤ k → σ' k = none) ∧ GoL rows.length w σ Im w' σ' Im'
def pinK (n : Nat) (k : Nat) : Option Nat := bif Nat.blt k n then some k else none
def agrRows (f : Nat → Option Nat) (own : Nat → OB) : List OB → Nat → Prop
  | [], _ => True
  | b :: r, k => agrB f b (own k) ∧ agrRows f own r (k + 1)
def outM (n : Nat) (r : AV) (rows' : List OB) : AV → (Nat → OB) → Nat → Prop := fun u own _ => agr (pinK n) r u ∧ (IsT (Nat.ble rows'.length n) ∧ agrRows (pinK n) own rows' 0)

section
variable {P : Program} {w0 : St0}
theorem rowsO_ge : ∀ (l : List OB) (k : Nat), l.length ≤ k → rowsO l k = .gone
  | [], k, _ => rfl
  | _ :: r, 0, h => by simp at h
  | _ :: r, k + 1, h => rowsO_ge r k (by simpa using h)
theorem agrRows_get {f : Nat → Option Nat} {own : Nat → OB} : ∀ (l : List OB) (n k : Nat), agrRows f own l n → k < l.length → agrB f (rowsO l k) (own (n + k))
  | [], n, k, _, h => by simp at h
  | b :: r, n, 0, h, _ => h.1
  | b :: r, n, k + 1, h, hk => by
    have := agrRows_get r (n + 1) k h.2 (by simpa using hk)
    rwa [show n + 1 + k = n + (k + 1) by omega] at this
theorem pinK_some {n k k' : Nat} (h : pinK n k = some k') : k = k' ∧ k < n := by
  unfold pinK at h
  cases hb : Nat.blt k n with
  | false => rw [hb] at h; cases h
  | true => rw [hb] at h; cases h; exact ⟨rfl, Nat.le_of_ble_eq_true hb⟩
theorem pinK_lt {n k : Nat} (h : k < n) : pinK n k = some k := by
  unfold pinK
  rw [show Nat.blt k n = true from Nat.ble_eq_true_of_le h]; rfl
theorem Sat.pin {w σ Im own} (hS : Sat w0 w σ Im own) {n : Nat} {rows : List OB} (hn : rows.length ≤ n) (h : agrRows (pinK n) own rows 0) : Sat w0 w (fun k => (pinK n k).bind σ) Im (rowsO rows) := by
  have live : ∀ k, (rowsO rows k).live → k < rows.length := fun k hk => by
    rcases Nat.lt_or_ge k rows.length with h | h
    · exact h
    · rw [rowsO_ge rows k h] at hk; exact hk.elim
  have get : ∀ k, k < rows.length → agrB (pinK n) (rowsO rows k) (own k) := fun k hk => by simpa using agrRows_get rows 0 k h hk
  have hsg : ∀ k b, (pinK n k).bind σ = some b → σ k = some b := fun k b e => by
    simp only [Option.bind_eq_some_iff] at e
    obtain ⟨k', e1, e2⟩ := e
    rw [(pinK_some e1).1]; exact e2
  refine ⟨hS.bel, hS.im, fun k b e => hS.sg k b (hsg k b e), fun k hk => ?_, fun k k' b hk hk' e e' => hS.inj k k' b (agrB_live (get k (live k hk)) hk) (agrB_live (get k' (live k' hk')) hk') (hsg _ _ e) (hsg _ _ e'), hS.imB, fun k b e => hS.sgB k b (hsg k b e)⟩
  have hlt := live k hk
  exact agrB_held (pinK_lt (by omega)) (get k hlt) hk (hS.held k (agrB_live (get k hlt) hk))

def ren0 (g : Nat → Nat) (v : AV) : AV :=
  match v with
  | .own k off => .own (g k) off
  | .os k sz off n => .os (g k) sz off n
  | .agg _ | .tup _ | .fn _ _ | .gd _ _ => .any
  | v => v
def ren1 (g : Nat → Nat) (v : AV) : AV :=
  match v with
  | .agg l => .agg (l.map (ren0 g))
  | .fn f l => .fn f (l.map (ren0 g))
  | v => ren0 g v
def ren (g : Nat → Nat) (v : AV) : AV :=
  match v with
  | .tup l => .tup (l.map (ren1 g))
  | v => ren1 g v
def renB (g : Nat → Nat) (o : OB) : OB :=
  match o with
  | .row l => .row (l.map (ren0 g))
  | o => o
theorem getD_map (f : AV → AV) (l : List AV) (i : Nat) (h : i < l.length) : (l.map f).getD i .any = f (l.getD i .any) := by
  simp [List.getD, h]
theorem ren0_rd {w : World} {σ τ : Nat → Option Nat} {Im : Nat → Prop} {g : Nat → Nat} {v : AV} {V : Value} (hτ : ∀ k b, σ k = some b → τ (g k) = some b) (h : Rd w σ Im v V) : Rd w τ Im (ren0 g v) V := by
  cases v <;> first | exact .any _ | exact Rd.imm0 rfl h | skip
  · obtain ⟨b, rfl, hb⟩ := h.inv_own
    exact .own _ _ _ (hτ _ _ hb)
  · rcases h.inv_os with ⟨rfl, a, rfl⟩ | ⟨b, cap, rfl, hb, h1, h2, h3⟩
    · exact .os0 _ _ _ _
    · exact .os _ _ _ _ _ _ (hτ _ _ hb) h1 h2 h3
theorem ren1_rd {w : World} {σ τ : Nat → Option Nat} {Im : Nat → Prop} {g : Nat → Nat} {v : AV} {V : Value} (hτ : ∀ k b, σ k = some b → τ (g k) = some b) (h : Rd w σ Im v V) : Rd w τ Im (ren1 g v) V := by
  unfold ren1
  split
  · obtain ⟨cs, rfl, h1, h2, h3⟩ := h.inv_agg
    exact .agg _ _ (by simpa using h1) (fun i hi => h2 i (by rw [List.length_map] at hi; exact hi)) fun i hi => by
      rw [List.length_map] at hi
      rw [getD_map _ _ _ hi]; exact ren0_rd hτ (h3 i hi)
  · obtain ⟨cs, rfl, h1, h3⟩ := h.inv_fn
    exact .fn _ _ _ (by simpa using h1) fun i hi => by
      rw [List.length_map] at hi
      rw [getD_map _ _ _ hi]; exact ren0_rd hτ (h3 i hi)
  · exact ren0_rd hτ h
theorem ren_rd {w : World} {σ τ : Nat → Option Nat} {Im : Nat → Prop} {g : Nat → Nat} {v : AV} {V : Value} (hτ : ∀ k b, σ k = some b → τ (g k) = some b) (h : Rd w σ Im v V) : Rd w τ Im (ren g v) V := by
  unfold ren
  split
  · obtain ⟨cs, rfl, h1, h3⟩ := h.inv_tup
    exact .tup _ _ (by simpa using h1) fun i hi => by
      rw [List.length_map] at hi
      rw [getD_map _ _ _ hi]; exact ren1_rd hτ (h3 i hi)
  · exact ren1_rd hτ h

inductive MR where
  | no
  | ok (ks : List Nat) (cargs : List AV) (rows : List OB) (p : Option Prop) (r : AV) (rows' : List OB)
def MConOk (P : Program) (mc : Nat → List AV → (Nat → OB) → MR) : Prop := ∀ f args own ks cargs rows p r rows', mc f args own = .ok ks cargs rows p r rows' → p.getD True → MCalls P f cargs rows r rows'
def posR (o : OB) : Prop :=
  match o with
  | .row l => match l with
    | [] => False
    | _ :: _ => True
  | .nums _ N _ => 0 < N
  | .arr N _ => 0 < N
  | .gone => False
def posAll : List OB → Prop
  | [] => True
  | o :: r => posR o ∧ posAll r
def nodupB : List Nat → Bool
  | [] => true
  | k :: r => !memB r k && nodupB r
def gks : List Nat → Nat → Nat
  | [], _ => 0
  | k :: _, 0 => k
  | _ :: r, i + 1 => gks r i
def ksO : List Nat → Nat → Option Nat
  | [], _ => none
  | k :: _, 0 => some k
  | _ :: r, i + 1 => ksO r i
def agrKs (f : Nat → Option Nat) (own : Nat → OB) : List OB → List Nat → Prop
  | [], [] => True
  | b :: r, k :: ks => agrB f b (own k) ∧ agrKs f own r ks
  | _, _ => False
def updsK (g : Nat → Nat) : (Nat → OB) → List Nat → List OB → ((Nat → OB) → Prop) → Prop
  | own, k :: ks, o :: r, K => forceOB (renB g o) fun o => updsK g (upd own k o) ks r K
  | own, _, _, K => K own
def mcal (mc : Nat → List AV → (Nat → OB) → MR) : Cal := fun f args K own nk =>
  match mc f args own with
  | .no => False
  | .ok ks cargs rows p r rows' => preE p (agrL1 (ksO ks) cargs args ∧ (agrKs (ksO ks) own rows ks ∧ (posAll rows ∧ (IsT (nodupB ks && Nat.beq rows'.length ks.length) ∧
      force (ren (gks ks) r) fun r => updsK (gks ks) own ks rows' fun own => K r own nk))))
theorem updsK_eq (g : Nat → Nat) : ∀ (ks : List Nat) (rows : List OB) (own : Nat → OB) (K : (Nat → OB) → Prop), updsK g own ks rows K = K (upds own ks (rows.map (renB g)))
  | [], _, own, K => by unfold updsK upds; rfl
  | _ :: _, [], own, K => by unfold updsK; rfl
  | k :: ks, o :: r, own, K => by
    show forceOB (renB g o) (fun o => updsK g (upd own k o) ks r K) = _
    rw [forceOB_eq, updsK_eq g ks r]
    rfl
theorem ksO_lt : ∀ {ks : List Nat} {i a : Nat}, ksO ks i = some a → i < ks.length ∧ gks ks i = a ∧ a ∈ ks
  | [], i, a, h => by cases h
  | k :: r, 0, a, h => by cases h; exact ⟨by simp, rfl, by simp⟩
  | k :: r, i + 1, a, h => by
    obtain ⟨h1, h2, h3⟩ := ksO_lt (ks := r) h
    exact ⟨by simpa using h1, h2, by simp [h3]⟩
theorem ksO_some : ∀ {ks : List Nat} {i : Nat}, i < ks.length → ksO ks i = some (gks ks i)
  | [], i, h => by simp at h
  | k :: r, 0, h => rfl
  | k :: r, i + 1, h => ksO_some (ks := r) (by simpa using h)
theorem ksO_inj : ∀ {ks : List Nat}, nodupB ks = true → ∀ {i j a : Nat}, ksO ks i = some a → ksO ks j = some a → i = j
  | [], _, i, j, a, h, _ => by cases h
  | k :: r, hn, i, j, a, h, h' => by
    unfold nodupB at hn
    rw [Bool.and_eq_true] at hn
    have hk : k ∉ r := fun hc => by have := memB_of hc; rw [this] at hn; cases hn.1
    cases i with
    | zero =>
      cases j with
      | zero => rfl
      | succ j => cases h; exact absurd (ksO_lt (ks := r) h').2.2 hk
    | succ i =>
      cases j with
      | zero => cases h'; exact absurd (ksO_lt (ks := r) h).2.2 hk
      | succ j => rw [ksO_inj (ks := r) hn.2 h h']
theorem ksO_mem : ∀ {ks : List Nat} {k : Nat}, k ∈ ks → ∃ i, ksO ks i = some k
  | [], k, h => by simp at h
  | a :: r, k, h => by
    rcases List.mem_cons.1 h with rfl | h
    · exact ⟨0, rfl⟩
    · obtain ⟨i, hi⟩ := ksO_mem h
      exact ⟨i + 1, hi⟩
theorem agrKs_get {f : Nat → Option Nat} {own : Nat → OB} : ∀ {rows : List OB} {ks : List Nat}, agrKs f own rows ks → rows.length = ks.length ∧ ∀ i, i < ks.length → agrB f (rowsO rows i) (own (gks ks i))
  | [], [], _ => ⟨rfl, fun i hi => by simp at hi⟩
  | b :: r, k :: ks, h => by
    obtain ⟨h1, h2⟩ := agrKs_get (rows := r) (ks := ks) h.2
    refine ⟨by simp [h1], fun i hi => ?_⟩
    cases i with
    | zero => exact h.1
    | succ i => exact h2 i (by simpa using hi)
  | [], _ :: _, h => h.elim
  | _ :: _, [], h => h.elim
theorem posAll_get : ∀ {rows : List OB}, posAll rows → ∀ i, i < rows.length → 0 < (rowsO rows i).N ∧ (rowsO rows i).live
  | [], _, i, h => by simp at h
  | o :: r, h, i, hi => by
    cases i with
    | zero =>
      have := h.1
      show 0 < o.N ∧ o.live
      cases o with
      | row l => cases l with
        | nil => exact this.elim
        | cons a l => exact ⟨by show 0 < (a :: l).length; simp, trivial⟩
      | nums k N P => exact ⟨this, trivial⟩
      | arr N g => exact ⟨this, trivial⟩
      | gone => exact this.elim
    | succ i => exact posAll_get (rows := r) h.2 i (by simpa using hi)
theorem upds_out : ∀ (ks : List Nat) (rows : List OB) (own : Nat → OB) (k : Nat), k ∉ ks → upds own ks rows k = own k
  | [], rows, own, k, _ => by unfold upds; rfl
  | j :: ks, [], own, k, _ => by unfold upds; rfl
  | j :: ks, o :: r, own, k, h => by
    show upds (upd own j o) ks r k = own k
    rw [upds_out ks r _ k (fun hc => h (by simp [hc])), upd_other _ _ _ (fun e => h (by simp [e]))]
theorem upds_in : ∀ (ks : List Nat) (rows : List OB) (own : Nat → OB) (i : Nat), nodupB ks = true → rows.length = ks.length → i < ks.length → upds own ks rows (gks ks i) = rowsO rows i
  | [], rows, own, i, _, _, h => by simp at h
  | j :: ks, [], own, i, _, h, _ => by simp at h
  | j :: ks, o :: r, own, i, hn, hl, hi => by
    unfold nodupB at hn
    rw [Bool.and_eq_true] at hn
    have hk : j ∉ ks := fun hc => by have := memB_of hc; rw [this] at hn; cases hn.1
    show upds (upd own j o) ks r (gks (j :: ks) i) = _
    cases i with
    | zero =>
      show upds (upd own j o) ks r j = o
      rw [upds_out ks r _ j hk, upd_same]
    | succ i => exact upds_in ks r _ i hn.2 (by simpa using hl) (by simpa using hi)
theorem rowsO_map (g : Nat → Nat) : ∀ (rows : List OB) (i : Nat), i < rows.length → rowsO (rows.map (renB g)) i = renB g (rowsO rows i)
  | [], i, h => by simp at h
  | o :: r, 0, h => rfl
  | o :: r, i + 1, h => rowsO_map g r i (by simpa using h)
theorem agrL1_two {w : World} {σ : Nat → Option Nat} {Im : Nat → Prop} {f : Nat → Option Nat} : ∀ {l m : List AV} {vals : List Value}, agrL1 f l m → Two (Rd w σ Im) m vals → Two (Rd w (fun k => (f k).bind σ) Im) l vals
  | [], [], _, _, ht => by cases ht; exact .nil
  | v :: r, u :: s, _, h, ht => by
    cases ht with
    | cons h1 h2 => exact .cons (agr1_rd h.1 h1) (agrL1_two h.2 h2)
  | [], _ :: _, _, h, _ => h.elim
  | _ :: _, [], _, h, _ => h.elim
theorem mcal_ok {mc : Nat → List AV → (Nat → OB) → MR} (hmc : MConOk P mc) : CalOk P w0 (mcal mc) := by
  intro f args K own nk h w σ Im vals hS hnew hdead ht
  unfold mcal at h
  split at h
  · exact h.elim
  rename_i ks cargs rows p r rows' e
  obtain ⟨hp, h1, h2, h3, h4, h5⟩ := preE_iff h
  rw [force_eq, updsK_eq] at h5
  have h4 := h4.eq
  rw [Bool.and_eq_true] at h4
  obtain ⟨hnd, hl'⟩ := h4
  have hl' := Nat.eq_of_beq_eq_true hl'
  obtain ⟨hl, hag⟩ := agrKs_get h2
  have hM := hmc f args own ks cargs rows p r rows' e hp
  have hinj : ∀ {i j a}, ksO ks i = some a → ksO ks j = some a → i = j := fun h h' => ksO_inj hnd h h'
  -- the blocks named by the callee
  obtain ⟨σc, hσc⟩ : ∃ σc : Nat → Option Nat, σc = fun k => (ksO ks k).bind σ := ⟨_, rfl⟩
  have sc : ∀ i b, σc i = some b → i < ks.length ∧ σ (gks ks i) = some b := fun i b hb => by
    rw [hσc] at hb
    simp only [Option.bind_eq_some_iff] at hb
    obtain ⟨a, ha, hb⟩ := hb
    obtain ⟨q1, q2, _⟩ := ksO_lt ha
    exact ⟨q1, by rw [q2]; exact hb⟩
  have cs : ∀ i b, i < ks.length → σ (gks ks i) = some b → σc i = some b := fun i b hi hb => by
    rw [hσc]; simp only [ksO_some hi, Option.bind_some, hb]
  have rlive : ∀ i, (rowsO rows i).live → i < ks.length := fun i hi => by
    rcases Nat.lt_or_ge i rows.length with h | h
    · omega
    · rw [rowsO_ge rows i h] at hi; exact hi.elim
  have olive : ∀ i, i < ks.length → (own (gks ks i)).live := fun i hi => agrB_live (hag i hi) (posAll_get h3 i (by omega)).2
  have held0 : ∀ i, i < ks.length → Held w0.kp w σc Im i (rowsO rows i) := fun i hi => by
    rw [hσc]
    exact agrB_held (ksO_some hi) (hag i hi) (posAll_get h3 i (by omega)).2 (hS.held _ (olive i hi))
  have heldc : ∀ i, i < ks.length → ∃ b, σc i = some b ∧ ¬ Im b := fun i hi => by
    rcases held0 i hi with q | ⟨b, q1, q2, _, _⟩
    · have := (posAll_get h3 i (by omega)).1; omega
    · exact ⟨b, q1, q2⟩
  have hSc : Sat ⟨w, Im, fun b => b < w.heap.size ∧ ∀ k, σc k ≠ some b, fun b hb => hb.1⟩ w σc Im (rowsO rows) := by
    refine ⟨⟨rfl, rfl, rfl, Nat.le_refl _, fun _ _ => rfl⟩, hS.im, fun k b hb => hS.sg _ b (sc k b hb).2, fun k hk => ?_, fun i j b hi hj ei ej => ?_, fun b hb => .inl hb, fun k b hb hc => hc.2 k hb⟩
    · rcases held0 k (rlive k hk) with q | ⟨b, q1, q2, q3, q4⟩
      · exact .inl q
      · exact .inr ⟨b, q1, q2, fun hc => hc.2 k q1, q4⟩
    · have li := rlive i hi
      have lj := rlive j hj
      have := hS.inj _ _ b (olive i li) (olive j lj) (sc i b ei).2 (sc j b ej).2
      exact hinj (ksO_some li) (by rw [ksO_some lj, this])
  refine (hM _ w σc Im vals hSc (fun k hk => ?_) (by rw [hσc]; exact agrL1_two h1 ht)).mono fun v w' ⟨σ', Im', hr, hS', hn', hg⟩ => ?_
  · cases hb : σc k with
    | none => rfl
    | some b => have := (sc k b hb).1; omega
  · have back : ∀ k b, σ' k = some b → σ (gks ks k) = some b := fun k b hb => by
      rcases Nat.lt_or_ge k rows.length with hk | hk
      · obtain ⟨b0, q1, _⟩ := heldc k (by omega)
        have := hg.sg k b0 hk q1
        rw [hb] at this
        cases this
        exact (sc k b q1).2
      · rw [hn' k hk] at hb; cases hb
    have same : ∀ b, b < w.heap.size → (∀ i, σc i ≠ some b) → w'.heap[b]? = w.heap[b]? := fun b hb hi => hS'.bel.block b ⟨hb, hi⟩
    have hlen : ∀ k b, σ k = some b → blen w' b = blen w b := fun k b hb => by
      by_cases hx : ∃ i, σc i = some b
      · obtain ⟨i, hi⟩ := hx
        exact hg.len i b (by have := (sc i b hi).1; omega) hi
      · unfold blen
        rw [same b (hS.sg k b hb) fun i hi => hx ⟨i, hi⟩]
    have g1 : Go1 w σ Im w' σ Im' := ⟨hg.im, hg.blk, fun _ _ h => h, hlen⟩
    have hsize : w.heap.size ≤ w'.heap.size := hS'.bel.size
    have cases_k : ∀ k, (k ∉ ks ∧ upds own ks (rows'.map (renB (gks ks))) k = own k) ∨ ∃ i, i < ks.length ∧ k = gks ks i ∧ upds own ks (rows'.map (renB (gks ks))) k = renB (gks ks) (rowsO rows' i) := fun k => by
      by_cases hk : k ∈ ks
      · obtain ⟨i, hi⟩ := ksO_mem hk
        obtain ⟨q1, q2, _⟩ := ksO_lt hi
        refine .inr ⟨i, q1, q2.symm, ?_⟩
        rw [← q2, upds_in ks _ own i hnd (by simpa using hl') q1, rowsO_map _ _ _ (by omega)]
      · exact .inl ⟨hk, upds_out _ _ _ _ hk⟩
    have rB : ∀ o : OB, (renB (gks ks) o).live → o.live := fun o ho => by cases o <;> first | trivial | exact ho
    have L : ∀ k, (upds own ks (rows'.map (renB (gks ks))) k).live → (own k).live := fun k hk => by
      rcases cases_k k with ⟨_, q⟩ | ⟨i, hi, rfl, q⟩
      · rw [q] at hk; exact hk
      · exact olive i hi
    refine ⟨σ, Im', _, _, nk, h5, ren_rd back hr, ⟨⟨hS'.bel.os.trans hS.bel.os, hS'.bel.tape.trans hS.bel.tape, hS'.bel.output.trans hS.bel.output, Nat.le_trans hS.bel.size hsize, fun b hb => ?_⟩, hS'.im, fun k b hb => Nat.lt_of_lt_of_le (hS.sg k b hb) hsize, fun k hk => ?_, fun i j b hi hj => hS.inj i j b (L i hi) (L j hj), fun b hb => ?_, hS.sgB⟩, hnew, fun k hk hl => hdead k hk (L k hl), g1⟩
    · rw [same b (Nat.lt_of_lt_of_le (w0.kpl b hb) hS.bel.size) fun i hi => hS.sgB _ b (sc i b hi).2 hb]
      exact hS.bel.block b hb
    · rcases cases_k k with ⟨hnk, q⟩ | ⟨i, hi, rfl, q⟩
      · rw [q] at hk ⊢
        rcases hS.held k hk with q1 | ⟨b, q1, q2, q3, q4⟩
        · exact .inl q1
        · have hne : ∀ i, σc i ≠ some b := fun i hi => by
            obtain ⟨li, hi⟩ := sc i b hi
            have := hS.inj _ _ b hk (olive i li) q1 hi
            exact hnk (this ▸ (ksO_lt (ksO_some li)).2.2)
          refine .inr ⟨b, q1, fun hc => ?_, q3, q4.mono (same b (hS.sg k b q1) hne) fun i v hv => hv.mono (g1.sg' _)⟩
          rcases hS'.imB b hc with q5 | q5
          · exact q2 q5
          · exact q5 ⟨hS.sg k b q1, hne⟩
      · rw [q] at hk ⊢
        rcases hS'.held i (rB _ hk) with q1 | ⟨b, q1, q2, q3, q4⟩
        · obtain ⟨b0, z1, _⟩ := heldc i hi
          rw [hg.sg i b0 (by omega) z1] at q1
          cases q1.2
        · have hb := back i b q1
          have hN : (renB (gks ks) (rowsO rows' i)).N = (rowsO rows' i).N := by
            cases rowsO rows' i <;> first | rfl | (show List.length (List.map _ _) = _; simp; rfl)
          refine .inr ⟨b, hb, q2, hS.sgB _ b hb, ?_⟩
          rw [hN]
          obtain ⟨z1, z2, z3⟩ := q4
          refine ⟨z1, z2, fun j hj => ?_⟩
          obtain ⟨v, c1, c2, c3⟩ := z3 j hj
          refine ⟨v, c1, c2, ?_⟩
          cases ho : rowsO rows' i with
          | row l =>
            rw [ho] at c3 hj
            have hj : j < l.length := hj
            show Rd w' σ Im' ((l.map (ren0 (gks ks))).getD j .any) v
            rw [getD_map _ _ _ hj]
            exact ren0_rd back c3
          | nums kd N Q => rw [ho] at c3; exact flat0_rd rfl c3
          | arr N g => rw [ho] at c3; exact c3
          | gone => rw [ho] at hk; exact hk.elim
    · rcases hS'.imB b hb with q | q
      · exact hS.imB b q
      · by_cases hx : ∃ i, σc i = some b
        · obtain ⟨i, hi⟩ := hx
          exact .inr (hS.sgB _ b (sc i b hi).2)
        · refine .inr fun hk => q ⟨Nat.lt_of_lt_of_le (w0.kpl b hk) hS.bel.size, fun i hi => hx ⟨i, hi⟩⟩
end
end Ev
end Go.Proofs.Ytokojkhladgojaa
