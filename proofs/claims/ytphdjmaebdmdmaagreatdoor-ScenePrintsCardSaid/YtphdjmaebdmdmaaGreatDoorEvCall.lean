/- The abstract machine: calls with contracts. -/
import Derived.Test.YtphdjmaebdmdmaaGreatDoorEvMix
namespace Go.Proofs.YtphdjmaebdmdmaaGreatDoor
open Go.RowKit
set_option linter.unusedVariables false
set_option linter.unusedSimpArgs false
namespace Ev

def flat0 : AV → Bool
  | .int _ _ | .bool _ | .flt _ | .cpx _ _ | .str _ | .nilp | .nils | .nilf | .nili => true
  | _ => false
def flat1 : AV → Bool
  | .agg l => l.all flat0
  | v => flat0 v
/-- No word of memory. -/
def flat : AV → Bool
  | .tup l => l.all flat1
  | v => flat1 v
/-- What is handed to a call: of the call's own slices a view that reads alone. -/
inductive PV where
  | no
  | ok (v : AV) (ks : List Nat) (p : Option Prop)
def pub0 (own : Nat → OB) (v : AV) : PV :=
  match v with
  | .os k sz off n => match own k with
    | .nums kd N P => match Nat.beq sz 1 with
      | true => .ok (.sl n 1 fun j => .int kd (P (off + j))) [k] (some (off + n ≤ N))
      | false => .no
    | .arr N g => .ok (.sl n sz fun j => g (off + j)) [k] (some (off + n * sz ≤ N))
    | .row l => match l.all imm0 with
      | true => .ok (.sl n sz fun j => l.getD (off + j) .any) [k] (some (off + n * sz ≤ l.length))
      | false => .no
    | .gone => .no
    | .bts _ _ => .no
  | v => match imm0 v with
    | true => .ok v [] none
    | false => .no
def andP (p q : Option Prop) : Option Prop :=
  match p, q with
  | none, q => q
  | p, none => p
  | some p, some q => some (p ∧ q)
inductive PL where
  | no
  | ok (l : List AV) (ks : List Nat) (p : Option Prop)
def pubs (own : Nat → OB) : List AV → PL
  | [] => .ok [] [] none
  | v :: r => match pub0 own v with
    | .no => .no
    | .ok v ks p => match pubs own r with
      | .no => .no
      | .ok l ls q => .ok (v :: l) (ks ++ ls) (andP p q)
def pub1 (own : Nat → OB) (v : AV) : PV :=
  match v with
  | .agg l => match pubs own l with
    | .no => .no
    | .ok l ks p => .ok (.agg l) ks p
  | .fn f l => match l with
    | [] => .ok (.fn f []) [] none
    | _ => .no
  | .own k off => match own k with
    | .row l => match pubs own l with
      | .no => .no
      | .ok u ks p => .ok (.ref (l.length - off) fun j => u.getD (off + j) .any) (k :: ks) p
    | _ => .no
  | v => pub0 own v
def pubL (own : Nat → OB) : List AV → PL
  | [] => .ok [] [] none
  | v :: r => match pub1 own v with
    | .no => .no
    | .ok v ks p => match pubL own r with
      | .no => .no
      | .ok l ls q => .ok (v :: l) (ks ++ ls) (andP p q)

theorem andP_l {p q : Option Prop} (h : (andP p q).getD True) : p.getD True := by
  cases p <;> cases q <;> simp [andP] at h ⊢ <;> first | exact h.1 | exact h
theorem andP_r {p q : Option Prop} (h : (andP p q).getD True) : q.getD True := by
  cases p <;> cases q <;> simp [andP] at h ⊢ <;> first | exact h.2 | exact h

section
variable {P : Program} {w : World} {w0 : St0} {σ : Nat → Option Nat} {Im : Nat → Prop} {own : Nat → OB} {ix : Nat}
theorem flat0_rd {v : AV} {V : Value} (hf : flat0 v = true) (h : Rd w σ Im v V) {w' τ J} : Rd w' τ J v V := by
  cases h <;> first | (cases hf; done) | skip
  · exact .int _ _
  · exact .bool _
  · exact .flt _ _ ‹_›
  · exact .cpx _ _ _ _ ‹_› ‹_›
  · exact .str _
  · exact .nilp
  · exact .nils
  · exact .nilf
  · exact .nili
theorem flat1_rd {v : AV} {V : Value} (hf : flat1 v = true) (h : Rd w σ Im v V) {w' τ J} : Rd w' τ J v V := by
  by_cases ha : ∃ l, v = .agg l
  · obtain ⟨l, rfl⟩ := ha
    obtain ⟨cs, rfl, h1, h2, h3⟩ := h.inv_agg
    refine .agg _ _ h1 h2 fun i hi => flat0_rd ?_ (h3 i hi)
    have := List.all_eq_true.1 hf l[i] (List.getElem_mem hi)
    simpa [List.getD, hi] using this
  · refine flat0_rd ?_ h
    cases v <;> first | exact hf | exact absurd ⟨_, rfl⟩ ha
theorem flat_rd {v : AV} {V : Value} (hf : flat v = true) (h : Rd w σ Im v V) {w' τ J} : Rd w' τ J v V := by
  by_cases ha : ∃ l, v = .tup l
  · obtain ⟨l, rfl⟩ := ha
    obtain ⟨cs, rfl, h1, h3⟩ := h.inv_tup
    refine .tup _ _ h1 fun i hi => flat1_rd ?_ (h3 i hi)
    have := List.all_eq_true.1 hf l[i] (List.getElem_mem hi)
    simpa [List.getD, hi] using this
  · refine flat1_rd ?_ h
    cases v <;> first | exact hf | exact absurd ⟨_, rfl⟩ ha

/-- What nobody writes while a call reads it. -/
def Lent (σ : Nat → Option Nat) (Im : Nat → Prop) (ks : List Nat) : Nat → Prop := fun b => Im b ∨ ∃ k, k ∈ ks ∧ σ k = some b
theorem Rd.wide {v : AV} {V : Value} {J : Nat → Prop} (h : Rd w σ Im v V) (hJ : ∀ b, Im b → J b) : Rd w σ J v V := h.mono ⟨hJ, fun _ _ => rfl, fun _ _ h => h, fun _ _ _ => rfl⟩
theorem Lent.l {ks ls : List Nat} {b : Nat} (h : Lent σ Im ks b) : Lent σ Im (ks ++ ls) b := by
  rcases h with h | ⟨k, h1, h2⟩
  · exact .inl h
  · exact .inr ⟨k, List.mem_append_left _ h1, h2⟩
theorem Lent.r {ks ls : List Nat} {b : Nat} (h : Lent σ Im ls b) : Lent σ Im (ks ++ ls) b := by
  rcases h with h | ⟨k, h1, h2⟩
  · exact .inl h
  · exact .inr ⟨k, List.mem_append_right _ h1, h2⟩
theorem pub0_sound (hS : Sat w0 w σ Im own) {v u : AV} {V : Value} {ks : List Nat} {p : Option Prop} (h : pub0 own v = .ok u ks p) (hp : p.getD True) (hv : Rd w σ Im v V) :
    Rd w (fun _ => none) (Lent σ Im ks) u V ∧ ∀ k ∈ ks, (own k).live := by
  unfold pub0 at h
  split at h
  case h_1 k sz off n =>
    have key : ∀ (g : Nat → AV), (own k).live → (∀ j, j < n * sz → g j = (own k).at (off + j)) → off + n * sz ≤ (own k).N → (∀ j v, j < n * sz → Rd w ((own k).sg σ) Im (g j) v → Rd w (fun _ => none) Im (g j) v) →
        Rd w (fun _ => none) (Lent σ Im [k]) (.sl n sz g) V := fun g hl hg hN hs => by
      rcases hv.inv_os with ⟨rfl, a, rfl⟩ | ⟨b, cap, rfl, hb, h1, h2, h3⟩
      · exact .sl0 _ _ _ _ (Nat.zero_le _)
      · have hblk := held_blk hS hl hb
        have hex : ∀ j, j < n * sz → ∃ v, w.cell? ⟨b, off + j, none⟩ = some v ∧ v.oneCell' = true ∧ Rd w (fun _ => none) Im (g j) v := fun j hj => by
          obtain ⟨v, c1, _, c3, c4⟩ := hblk.cell (i := off + j) (by omega)
          rw [← hg j hj] at c4
          exact ⟨v, c1, c3, hs j v hj c4⟩
        refine .sl _ _ _ _ _ _ (fun j => if hj : j < n * sz then Classical.choose (hex j hj) else undef) (.inr ⟨k, by simp, hb⟩) h1 h2 (fun j hj => ?_) (fun j hj => ?_) (fun j hj => ?_)
        · simp only [hj, dite_true]; exact (Classical.choose_spec (hex j hj)).1
        · simp only [hj, dite_true]; exact (Classical.choose_spec (hex j hj)).2.1
        · simp only [hj, dite_true]; exact (Classical.choose_spec (hex j hj)).2.2.wide fun b hb => .inl hb
    split at h
    case h_1 kd N Q ho =>
      have hl : (own k).live := by rw [ho]; trivial
      split at h
      case h_2 => cases h
      rename_i hsz
      have hsz := Nat.eq_of_beq_eq_true hsz
      subst hsz
      cases h
      refine ⟨key _ hl (fun j _ => by rw [ho]; rfl) (by rw [ho]; simp at hp ⊢; exact hp) (fun j v _ _ => ?_), fun k hk => by simp at hk; subst hk; exact hl⟩
      rename_i hr
      rw [ho] at hr
      exact flat0_rd rfl hr
    case h_2 N g ho =>
      have hl : (own k).live := by rw [ho]; trivial
      cases h
      exact ⟨key _ hl (fun j _ => by rw [ho]; rfl) (by rw [ho]; exact hp) (fun j v _ hr => by rw [ho] at hr; exact hr), fun k hk => by simp at hk; subst hk; exact hl⟩
    case h_3 l ho =>
      have hl : (own k).live := by rw [ho]; trivial
      split at h
      case h_2 => cases h
      rename_i hall
      cases h
      simp only [Option.getD_some] at hp
      exact ⟨key _ hl (fun j _ => by rw [ho]; rfl) (by rw [ho]; exact hp) (fun j v hj hr => Rd.imm0 (all_getD hall _ (by omega)) hr), fun k hk => by simp at hk; subst hk; exact hl⟩
    case h_4 => cases h
    case h_5 => cases h
  case h_2 =>
    split at h
    case h_2 => cases h
    rename_i hi
    cases h
    exact ⟨(Rd.imm0 hi hv).wide fun b hb => .inl hb, fun k hk => by simp at hk⟩
theorem pubs_sound (hS : Sat w0 w σ Im own) : ∀ {l u : List AV} {ks : List Nat} {p : Option Prop}, pubs own l = .ok u ks p → p.getD True → u.length = l.length ∧ (∀ k ∈ ks, (own k).live) ∧
    ∀ i V, i < l.length → Rd w σ Im (l.getD i .any) V → Rd w (fun _ => none) (Lent σ Im ks) (u.getD i .any) V
  | [], u, ks, p, h, _ => by cases h; exact ⟨rfl, fun k hk => by simp at hk, fun i V hi => by simp at hi⟩
  | v :: r, u, ks, p, h, hp => by
    unfold pubs at h
    split at h
    · cases h
    rename_i v' k1 p1 e1
    split at h
    · cases h
    rename_i l' k2 p2 e2
    cases h
    obtain ⟨a1, a2, a3⟩ := pubs_sound hS e2 (andP_r hp)
    refine ⟨by simp [a1], fun k hk => ?_, fun i V hi hr => ?_⟩
    · rcases List.mem_append.1 hk with h | h
      · by_cases hne : k1 = []
        · subst hne; simp at h
        · -- some value is read so: the block is live in any case
          revert e1
          unfold pub0
          split
          · rename_i kk sz off n
            split
            case h_1 ho => split <;> intro e1 <;> cases e1; simp at h; subst h; rw [ho]; trivial
            case h_2 ho => intro e1; cases e1; simp at h; subst h; rw [ho]; trivial
            case h_3 ho => split <;> intro e1 <;> cases e1; simp at h; subst h; rw [ho]; trivial
            case h_4 => intro e1; cases e1
            case h_5 => intro e1; cases e1
          · split <;> intro e1 <;> cases e1; exact absurd rfl hne
      · exact a2 k h
    · cases i with
      | zero => exact (pub0_sound hS e1 (andP_l hp) hr).1.wide fun b hb => Lent.l hb
      | succ i =>
        have := a3 i V (by simp at hi; omega) (by simpa using hr)
        simpa using this.wide fun b hb => Lent.r hb
theorem pub1_sound (hS : Sat w0 w σ Im own) {v u : AV} {V : Value} {ks : List Nat} {p : Option Prop} (h : pub1 own v = .ok u ks p) (hp : p.getD True) (hv : Rd w σ Im v V) :
    Rd w (fun _ => none) (Lent σ Im ks) u V ∧ ∀ k ∈ ks, (own k).live := by
  unfold pub1 at h
  split at h
  case h_1 l =>
    split at h
    · cases h
    rename_i l' ks' p' e
    cases h
    obtain ⟨a1, a2, a3⟩ := pubs_sound hS e hp
    obtain ⟨cs, rfl, h1, h2, h3⟩ := hv.inv_agg
    exact ⟨.agg _ _ (by rw [h1, a1]) (fun i hi => h2 i (by omega)) (fun i hi => a3 i _ (by omega) (h3 i (by omega))), a2⟩
  case h_2 f l =>
    split at h
    · cases h
      obtain ⟨cs, rfl, h1, h2⟩ := hv.inv_fn
      exact ⟨.fn _ _ _ h1 (fun i hi => by simp at hi), fun k hk => by simp at hk⟩
    · cases h
  case h_3 k off =>
    split at h
    · rename_i l ho
      split at h
      · cases h
      rename_i u' ks' p' e
      cases h
      obtain ⟨a1, a2, a3⟩ := pubs_sound hS e hp
      obtain ⟨b, rfl, hb⟩ := hv.inv_own
      have hl : (own k).live := by rw [ho]; trivial
      have hblk := held_blk hS hl hb
      have hex : ∀ j, j < l.length - off → ∃ v, w.cell? ⟨b, off + j, none⟩ = some v ∧ v.oneCell' = true ∧ Rd w (fun _ => none) (Lent σ Im (k :: ks')) (u'.getD (off + j) .any) v := fun j hj => by
        obtain ⟨v, c1, _, c3, c4⟩ := hblk.cell (i := off + j) (by rw [ho]; show off + j < l.length; omega)
        rw [ho] at c4
        exact ⟨v, c1, c3, (a3 (off + j) v (by omega) c4).wide fun b hb => Lent.r (ks := [k]) hb⟩
      refine ⟨.ref _ _ b off (fun j => if hj : j < l.length - off then Classical.choose (hex j hj) else undef) (.inr ⟨k, by simp, hb⟩) (fun j hj => ?_) (fun j hj => ?_) (fun j hj => ?_), fun q hq => ?_⟩
      · simp only [hj, dite_true]; exact (Classical.choose_spec (hex j hj)).1
      · simp only [hj, dite_true]; exact (Classical.choose_spec (hex j hj)).2.1
      · simp only [hj, dite_true]; exact (Classical.choose_spec (hex j hj)).2.2
      · rcases List.mem_cons.1 hq with rfl | hq
        · exact hl
        · exact a2 q hq
    · cases h
  case h_4 => exact pub0_sound hS h hp hv
theorem pubL_sound (hS : Sat w0 w σ Im own) : ∀ {l u : List AV} {ks : List Nat} {p : Option Prop} (vals : List Value), pubL own l = .ok u ks p → p.getD True → Two (Rd w σ Im) l vals → Two (Rd w (fun _ => none) (Lent σ Im ks)) u vals ∧ ∀ k ∈ ks, (own k).live
  | [], u, ks, p, vals, h, _, ht => by cases h; cases ht; exact ⟨.nil, fun k hk => by simp at hk⟩
  | v :: r, u, ks, p, vals, h, hp, ht => by
    cases ht
    rename_i V vs hv ht
    unfold pubL at h
    split at h
    · cases h
    rename_i v' k1 p1 e1
    split at h
    · cases h
    rename_i l' k2 p2 e2
    cases h
    obtain ⟨a1, a2⟩ := pubL_sound hS vs e2 (andP_r hp) ht
    obtain ⟨b1, b2⟩ := pub1_sound hS e1 (andP_l hp) hv
    refine ⟨.cons (b1.wide fun b hb => Lent.l hb) ?_, fun k hk => (List.mem_append.1 hk).elim (b2 k) (a2 k)⟩
    clear hp ht e2
    induction a1 with
    | nil => exact .nil
    | cons h t ih => exact .cons (h.wide fun b hb => Lent.r hb) ih
/-- What a step of the program hands on. -/
def Runs (P : Program) (r : Result Next) (Φ : Value → World → Prop) : Prop :=
  match r with
  | .ok (.value v) w' => Φ v w'
  | .ok .skip w' => Φ undef w'
  | .ok (.enter f args) w' => Calls P f args w' fun e w'' => ∃ v, e = .returned v ∧ Φ v w''
  | _ => False
theorem Runs.mono {r : Result Next} {Φ Ψ : Value → World → Prop} (h : Runs P r Φ) (hp : ∀ v w, Φ v w → Ψ v w) : Runs P r Ψ := by
  unfold Runs at *
  split <;> simp_all
  · exact Calls.mono h fun e w ⟨v, e', hv⟩ => ⟨v, e', hp _ _ hv⟩
/-- A contract: whatever memory there is, so called the function hands back what this stands for, and writes nothing that was there. -/
def ACalls (P : Program) (f : FuncId) (args : List AV) (r : AV) : Prop :=
  ∀ (w : World) (Im : Nat → Prop) (vals : List Value), (∀ b, Im b → b < w.heap.size) → Two (Rd w (fun _ => none) Im) args vals → TW w →
    Runs P ((callFunc f vals.toArray).run P w) fun v w' => Below w.heap.size w w' ∧ Rd w' (fun _ => none) (fun b => Im b ∨ (w.heap.size ≤ b ∧ b < w'.heap.size)) r v
/-- What comes of a call that makes one block: it is the new block's. -/
def renK0 (ix : Nat) (v : AV) : AV :=
  match v with
  | .os _ sz off n => .os ix sz off n
  | .own _ off => .own ix off
  | v => match flat0 v with
    | true => v
    | false => .any
def renK1 (ix : Nat) (v : AV) : AV :=
  match v with
  | .agg l => .agg (l.map (renK0 ix))
  | v => renK0 ix v
def renK (ix : Nat) (v : AV) : AV :=
  match v with
  | .tup l => .tup (l.map (renK1 ix))
  | v => renK1 ix v
/-- A contract: so called the function writes nothing that was there, makes a block (none, if it is empty), and hands back what this stands for: it speaks of the block as of block 0. -/
def NCalls (P : Program) (f : FuncId) (args : List AV) (r : AV) (ob : OB) : Prop :=
  ∀ (w : World) (Im : Nat → Prop) (vals : List Value), (∀ b, Im b → b < w.heap.size) → Two (Rd w (fun _ => none) Im) args vals → TW w →
    Runs P ((callFunc f vals.toArray).run P w) fun v w' => Below w.heap.size w w' ∧ ∃ (c : Option Nat) (Im' : Nat → Prop), (∀ b, Im b → Im' b) ∧ (∀ b, Im' b → Im b ∨ (w.heap.size ≤ b ∧ b < w'.heap.size)) ∧
      Rd w' (upd (fun _ => none) 0 c) Im' r v ∧ ((ob.N = 0 ∧ c = none) ∨ ∃ b, c = some b ∧ w.heap.size ≤ b ∧ b < w'.heap.size ∧ ¬ Im' b ∧ Blk w' b ob.N (fun i v => Rd w' (fun _ => none) Im' (ob.at i) v) ob.ty)
/-- A contract: so called the function writes nothing that was there, and hands back what this stands for, in new blocks alone. -/
def FCalls (P : Program) (f : FuncId) (args : List AV) (r : AV) : Prop :=
  ∀ (w : World) (Im : Nat → Prop) (vals : List Value), (∀ b, Im b → b < w.heap.size) → Two (Rd w (fun _ => none) Im) args vals → TW w →
    Runs P ((callFunc f vals.toArray).run P w) fun v w' => Below w.heap.size w w' ∧ Rd w' (fun _ => none) (fun b => w.heap.size ≤ b ∧ b < w'.heap.size) r v
inductive CR where
  | no
  | ok (p : Option Prop) (r : AV)
  | new (p : Option Prop) (r : AV) (ob : OB)
  | fre (p : Option Prop) (r : AV)
/-- Contracts that hold. -/
structure ConOk (P : Program) (con : Nat → List AV → CR) : Prop where
  a : ∀ f args p r, con f args = .ok p r → p.getD True → ACalls P f args r
  n : ∀ f args p r ob, con f args = .new p r ob → p.getD True → NCalls P f args r ob
  f : ∀ f args p r, con f args = .fre p r → p.getD True → FCalls P f args r
/-- Blocks of numbers hold no word of memory. -/
def OB.plain : OB → Bool
  | .nums _ _ _ => true
  | _ => false
def callA (con : Nat → List AV → CR) (own : Nat → OB) (ix : Nat) (f : FuncId) (args : List AV) : SR :=
  match pubL own args with
  | .no => .no
  | .ok args ks p => match con f args with
    | .no => .no
    | .ok q r => match flat r with
      | true => .ok (andP p q) false r ks [] none
      | false => .ok (andP p q) false r [] (ks.map fun k => (k, .gone)) none
    | .new q r ob => match ob.plain with
      | true => .ok (andP p q) false (renK ix r) ks [] (some ob)
      | false => .ok (andP p q) false (renK ix r) [] (ks.map fun k => (k, .gone)) (some ob)
    | .fre q r => .ok (andP p q) false r ks [] none
/-- A new block is taken for the call's own. -/
theorem Sat.adopt (h : Sat w0 w σ Im own) (hs : σ ix = none) (c : Option Nat) (ob : OB)
    (hc : (ob.N = 0 ∧ c = none) ∨ ∃ b, c = some b ∧ b < w.heap.size ∧ ¬ Im b ∧ ¬ w0.kp b ∧ (∀ k, σ k ≠ some b) ∧ Blk w b ob.N (fun i v => Rd w (fun _ => none) Im (ob.at i) v) ob.ty) :
    Go1 w σ Im w (upd σ ix c) Im ∧ Sat w0 w (upd σ ix c) Im (upd own ix ob) := by
  rcases hc with ⟨hn, rfl⟩ | ⟨b, rfl, hlt, hni, hnk, hne, hB⟩
  · have e : upd σ ix none = σ := by
      funext k
      rcases upd_cases σ ix none k with ⟨rfl, e⟩ | ⟨_, e⟩
      · rw [e, hs]
      · exact e
    rw [e]
    exact ⟨Go1.refl _ _ _, h.empty hs ob hn⟩
  have hup : ∀ k d, σ k = some d → upd σ ix (some b) k = some d := fun k d hk => by
    rw [upd_other]
    · exact hk
    · rintro rfl; rw [hs] at hk; cases hk
  have hg : Go1 w σ Im w (upd σ ix (some b)) Im := ⟨fun _ h => h, fun _ _ => rfl, hup, fun _ _ _ => rfl⟩
  refine ⟨hg, ⟨h.bel, h.im, fun k d hk => ?_, fun k hk => ?_, fun k k' d hk hk' e e' => ?_, h.imB, fun k d hk => ?_⟩⟩
  · rcases upd_cases σ ix (some b) k with ⟨rfl, e⟩ | ⟨_, e⟩
    · rw [e] at hk; cases hk; exact hlt
    · rw [e] at hk; exact h.sg k d hk
  · rcases upd_cases own ix ob k with ⟨rfl, e⟩ | ⟨hx, e⟩
    · rw [e]
      exact .inr ⟨b, upd_same _ _ _, hni, hnk, hB.mono rfl fun i v hv => hv.up⟩
    · rw [e] at hk ⊢
      rcases h.held k hk with h1 | ⟨d, h1, h2, h3, h4⟩
      · exact .inl ⟨h1.1, by rw [upd_other _ _ _ hx]; exact h1.2⟩
      · exact .inr ⟨d, hup k d h1, h2, h3, h4.mono rfl fun i v hv => hv.mono (hg.sg' _)⟩
  · rcases upd_cases σ ix (some b) k with ⟨h1, f⟩ | ⟨h1, f⟩ <;> rcases upd_cases σ ix (some b) k' with ⟨h2, f'⟩ | ⟨h2, f'⟩
    · rw [h1, h2]
    · rw [f] at e; cases e; rw [f'] at e'; exact absurd e' (hne k')
    · rw [f'] at e'; cases e'; rw [f] at e; exact absurd e (hne k)
    · rw [f] at e; rw [f'] at e'
      rw [upd_other _ _ _ h1] at hk; rw [upd_other _ _ _ h2] at hk'
      exact h.inj k k' d hk hk' e e'
  · rcases upd_cases σ ix (some b) k with ⟨rfl, e⟩ | ⟨_, e⟩
    · rw [e] at hk; cases hk; exact hnk
    · rw [e] at hk; exact h.sgB k d hk
theorem renK0_rd {w : World} {σ : Nat → Option Nat} {Im J : Nat → Prop} {ix : Nat} {c : Option Nat} {r : AV} {v : Value} (h : Rd w (upd (fun _ => none) 0 c) J r v) : Rd w (upd σ ix c) Im (renK0 ix r) v := by
  have hk : ∀ k b, upd (fun _ => none) 0 c k = some b → upd σ ix c ix = some b := fun k b e => by
    rcases upd_cases (fun _ => (none : Option Nat)) 0 c k with ⟨rfl, f⟩ | ⟨_, f⟩
    · rw [f] at e; rw [upd_same]; exact e
    · rw [f] at e; cases e
  unfold renK0
  split
  · rcases h.inv_os with ⟨rfl, a, rfl⟩ | ⟨b, cap, rfl, hb, h1, h2, h3⟩
    · exact .os0 _ _ _ _
    · exact .os _ _ _ _ _ _ (hk _ _ hb) h1 h2 h3
  · obtain ⟨b, rfl, hb⟩ := h.inv_own
    exact .own _ _ _ (hk _ _ hb)
  · split
    · rename_i hf; exact flat0_rd hf h
    · exact .any _
theorem getD_mapA (f : AV → AV) (l : List AV) (i : Nat) (h : i < l.length) : (l.map f).getD i .any = f (l.getD i .any) := by
  simp [List.getD, h]
theorem renK1_rd {w : World} {σ : Nat → Option Nat} {Im J : Nat → Prop} {ix : Nat} {c : Option Nat} {r : AV} {v : Value} (h : Rd w (upd (fun _ => none) 0 c) J r v) : Rd w (upd σ ix c) Im (renK1 ix r) v := by
  unfold renK1
  split
  · obtain ⟨cs, rfl, h1, h2, h3⟩ := h.inv_agg
    exact .agg _ _ (by simpa using h1) (fun i hi => h2 i (by rw [List.length_map] at hi; exact hi)) fun i hi => by
      rw [List.length_map] at hi
      rw [getD_mapA _ _ _ hi]; exact renK0_rd (h3 i hi)
  · exact renK0_rd h
theorem renK_plain {w : World} {σ : Nat → Option Nat} {Im J : Nat → Prop} {ix : Nat} {c : Option Nat} {r : AV} {v : Value} (h : Rd w (upd (fun _ => none) 0 c) J r v) : Rd w (upd σ ix c) Im (renK ix r) v := by
  unfold renK
  split
  · obtain ⟨cs, rfl, h1, h3⟩ := h.inv_tup
    exact .tup _ _ (by simpa using h1) fun i hi => by
      rw [List.length_map] at hi
      rw [getD_mapA _ _ _ hi]; exact renK1_rd (h3 i hi)
  · exact renK1_rd h
theorem renK_rd {w : World} {σ : Nat → Option Nat} {Im : Nat → Prop} {ix : Nat} {c : Option Nat} {r : AV} {v : Value} (h : Rd w (upd (fun _ => none) 0 c) Im r v) : Rd w (upd σ ix c) Im (renK ix r) v := renK_plain h
theorem shuts (hS : Sat w0 w σ Im own) : ∀ (ks : List Nat), (∀ k ∈ ks, (own k).live) → ∀ (J : Nat → Prop) (own' : Nat → OB), Sat w0 w σ J own' → (∀ k, (own' k).live → own' k = own k) → (∀ b, J b → b < w.heap.size) → (∀ k, (own k).live → ¬ (own' k).live → ∀ b, σ k = some b → J b) →
    Sat w0 w σ (fun b => J b ∨ ∃ k, k ∈ ks ∧ σ k = some b) (applyW own' (ks.map fun k => (k, .gone)))
  | [], _, J, own', h, _, _, _ => by
    have e : (fun b => J b ∨ ∃ k, k ∈ ([] : List Nat) ∧ σ k = some b) = J := by funext b; simp
    rw [e]; exact h
  | k :: ks, hl, J, own', h, hsame, hlt, hdead => by
    have hk := hl k (by simp)
    by_cases hk' : (own' k).live
    · cases hb : σ k with
      | none =>
        have h1 := h.drop k
        have := shuts hS ks (fun i hi => hl i (by simp [hi])) J _ h1 (fun i hi => by
          rcases upd_cases own' k .gone i with ⟨rfl, e⟩ | ⟨_, e⟩
          · rw [e] at hi; exact hi.elim
          · rw [e] at hi ⊢; exact hsame i hi) hlt (fun i hi hn b hb' => by
          rcases upd_cases own' k .gone i with ⟨rfl, e⟩ | ⟨_, e⟩
          · rw [hb] at hb'; cases hb'
          · rw [e] at hn; exact hdead i hi hn b hb')
        have e : (fun b => J b ∨ ∃ i, i ∈ k :: ks ∧ σ i = some b) = (fun b => J b ∨ ∃ i, i ∈ ks ∧ σ i = some b) := by
          funext b
          apply propext
          constructor
          · rintro (h | ⟨i, hi, e⟩)
            · exact .inl h
            · rcases List.mem_cons.1 hi with rfl | hi
              · rw [hb] at e; cases e
              · exact .inr ⟨i, hi, e⟩
          · rintro (h | ⟨i, hi, e⟩)
            · exact .inl h
            · exact .inr ⟨i, by simp [hi], e⟩
        rw [e]
        exact this
      | some c =>
        have h1 := (h.shut hk' hb).2
        have := shuts hS ks (fun i hi => hl i (by simp [hi])) (fun i => J i ∨ i = c) _ h1 (fun i hi => by
          rcases upd_cases own' k .gone i with ⟨rfl, e⟩ | ⟨_, e⟩
          · rw [e] at hi; exact hi.elim
          · rw [e] at hi ⊢; exact hsame i hi) (fun b hb' => hb'.elim (hlt b) fun e => by rw [e]; exact h.sg k c hb) (fun i hi hn b hb' => by
          rcases upd_cases own' k .gone i with ⟨rfl, e⟩ | ⟨_, e⟩
          · rw [hb] at hb'; cases hb'; exact .inr rfl
          · rw [e] at hn; exact .inl (hdead i hi hn b hb'))
        have e : (fun b => J b ∨ ∃ i, i ∈ k :: ks ∧ σ i = some b) = (fun b => (J b ∨ b = c) ∨ ∃ i, i ∈ ks ∧ σ i = some b) := by
          funext b
          apply propext
          constructor
          · rintro (h | ⟨i, hi, e⟩)
            · exact .inl (.inl h)
            · rcases List.mem_cons.1 hi with rfl | hi
              · rw [hb] at e; cases e; exact .inl (.inr rfl)
              · exact .inr ⟨i, hi, e⟩
          · rintro ((h | rfl) | ⟨i, hi, e⟩)
            · exact .inl h
            · exact .inr ⟨k, by simp, hb⟩
            · exact .inr ⟨i, by simp [hi], e⟩
        rw [e]
        exact this
    · have hgone : upd own' k .gone = own' := by
        funext i
        rcases upd_cases own' k .gone i with ⟨rfl, e⟩ | ⟨_, e⟩
        · rw [e]; cases ho : own' i <;> first | rfl | (rw [ho] at hk'; exact absurd trivial hk')
        · exact e
      have := shuts hS ks (fun i hi => hl i (by simp [hi])) J own' h hsame hlt hdead
      have e : (fun b => J b ∨ ∃ i, i ∈ k :: ks ∧ σ i = some b) = (fun b => J b ∨ ∃ i, i ∈ ks ∧ σ i = some b) := by
        funext b
        apply propext
        constructor
        · rintro (h | ⟨i, hi, e⟩)
          · exact .inl h
          · rcases List.mem_cons.1 hi with rfl | hi
            · exact .inl (hdead i hk hk' b e)
            · exact .inr ⟨i, hi, e⟩
        · rintro (h | ⟨i, hi, e⟩)
          · exact .inl h
          · exact .inr ⟨i, by simp [hi], e⟩
      rw [e]
      show Sat w0 w σ _ (applyW (upd own' k .gone) (ks.map fun k => (k, .gone)))
      rw [hgone]
      exact this
theorem call_sound {con : Nat → List AV → CR} (hcon : ConOk P con) (hS : Sat w0 w σ Im own) (hs : σ ix = none) {f : FuncId} {args : List AV} {vals : List Value} (ha : Two (Rd w σ Im) args vals) :
    (callA con own ix f args).runs fun r wr nw => Runs P ((callFunc f vals.toArray).run P w) fun v w' => Post w0 w σ Im own ix r wr nw v w' := by
  unfold callA
  split
  · trivial
  rename_i args' ks p e1
  have hlent : ∀ b, Lent σ Im ks b → b < w.heap.size := fun b hb => hb.elim (hS.im b) fun ⟨k, _, h⟩ => hS.sg k b h
  split
  · trivial
  · rename_i q r e2
    have key : (andP p q).getD True → Two (Rd w (fun _ => none) (Lent σ Im ks)) args' vals ∧ (∀ k ∈ ks, (own k).live) ∧ ACalls P f args' r := fun hp => by
      obtain ⟨a1, a2⟩ := pubL_sound hS vals e1 (andP_l hp) ha
      exact ⟨a1, a2, hcon.a f args' q r e2 (andP_r hp)⟩
    split
    case h_1 hf =>
      intro hp
      obtain ⟨a1, a2, a3⟩ := key hp
      refine (a3 w _ vals hlent a1 hS.bel.tw).mono fun v w' ⟨hb, hr⟩ => ?_
      obtain ⟨g1, g2⟩ := hS.go (Im' := Im) hb (fun _ h => h) (fun _ h => .inl h)
      exact ⟨σ, Im, g1, fun _ _ => rfl, fun _ => rfl, flat_rd hf hr, g2⟩
    case h_2 hf =>
      intro hp
      obtain ⟨a1, a2, a3⟩ := key hp
      refine (a3 w _ vals hlent a1 hS.bel.tw).mono fun v w' ⟨hb, hr⟩ => ?_
      have hsh := shuts hS ks a2 Im own hS (fun _ _ => rfl) hS.im (fun k h h' => absurd h h')
      obtain ⟨g1, g2⟩ := hsh.go (Im' := fun b => Lent σ Im ks b ∨ (w.heap.size ≤ b ∧ b < w'.heap.size)) hb (fun _ h => .inl h) (fun _ h => h)
      have g0 : Go1 w σ Im w σ (fun b => Im b ∨ ∃ k, k ∈ ks ∧ σ k = some b) := ⟨fun _ h => .inl h, fun _ _ => rfl, fun _ _ h => h, fun _ _ _ => rfl⟩
      exact ⟨σ, _, g0.trans g1, fun _ _ => rfl, fun _ => rfl, hr.up, g2⟩
  · rename_i q r ob e2
    have a3 := hcon.n f args' q r ob e2
    split
    · rename_i hpl
      intro hp
      obtain ⟨a1, a2⟩ := pubL_sound hS vals e1 (andP_l hp) ha
      refine (a3 (andP_r hp) w _ vals hlent a1 hS.bel.tw).mono fun v w' ⟨hb, c, Im', i1, i2, hr, ho⟩ => ?_
      obtain ⟨g1, g2⟩ := hS.go (Im' := Im) hb (fun _ h => h) (fun _ h => .inl h)
      obtain ⟨g3, g4⟩ := g2.adopt hs c ob (ho.imp (fun h => h) fun ⟨b, b1, b2, b3, b4, b5⟩ => ⟨b, b1, b3, (fun h => b4 (i1 b (.inl h))), hS.bel.lt b2, fun k hk => by
        have := hS.sg k b hk; omega, b5.mono rfl fun i v hv => by
          cases ob with
          | nums kd N Q => exact flat0_rd rfl hv
          | row l => cases hpl
          | arr N g => cases hpl
          | gone => cases hpl
          | bts N Q => cases hpl⟩)
      exact ⟨upd σ ix c, Im, g1.trans g3, fun j hj => upd_other _ _ _ hj, fun h => (nomatch h), renK_plain hr, g4⟩
    · intro hp
      obtain ⟨a1, a2⟩ := pubL_sound hS vals e1 (andP_l hp) ha
      refine (a3 (andP_r hp) w _ vals hlent a1 hS.bel.tw).mono fun v w' ⟨hb, c, Im', i1, i2, hr, ho⟩ => ?_
      have hsh := shuts hS ks a2 Im own hS (fun _ _ => rfl) hS.im (fun k h h' => absurd h h')
      obtain ⟨g1, g2⟩ := hsh.go (Im' := Im') hb i1 i2
      have g0 : Go1 w σ Im w σ (fun b => Im b ∨ ∃ k, k ∈ ks ∧ σ k = some b) := ⟨fun _ h => .inl h, fun _ _ => rfl, fun _ _ h => h, fun _ _ _ => rfl⟩
      obtain ⟨g3, g4⟩ := g2.adopt hs c ob (ho.imp (fun h => h) fun ⟨b, b1, b2, b3, b4, b5⟩ => ⟨b, b1, b3, b4, hS.bel.lt b2, fun k hk => by
        have := hS.sg k b hk; omega, b5⟩)
      exact ⟨upd σ ix c, Im', (g0.trans g1).trans g3, fun j hj => upd_other _ _ _ hj, fun h => (nomatch h), renK_rd hr, g4⟩
  · rename_i q r e2
    intro hp
    obtain ⟨a1, a2⟩ := pubL_sound hS vals e1 (andP_l hp) ha
    refine (hcon.f f args' q r e2 (andP_r hp) w _ vals hlent a1 hS.bel.tw).mono fun v w' ⟨hb, hr⟩ => ?_
    obtain ⟨g1, g2⟩ := hS.go (Im' := fun b => Im b ∨ (w.heap.size ≤ b ∧ b < w'.heap.size)) hb (fun _ h => .inl h) (fun _ h => h)
    exact ⟨σ, _, g1, fun _ _ => rfl, fun _ => rfl, (hr.wide fun b hb => .inr hb).up, g2⟩
end
end Ev
end Go.Proofs.YtphdjmaebdmdmaaGreatDoor
