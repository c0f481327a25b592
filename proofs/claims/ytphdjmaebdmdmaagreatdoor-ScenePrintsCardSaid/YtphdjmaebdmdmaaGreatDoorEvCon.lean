/- The abstract machine: contracts, gathered. -/
import Derived.Test.YtphdjmaebdmdmaaGreatDoorEvTab
namespace Go.Proofs.YtphdjmaebdmdmaaGreatDoor
open Go.RowKit
set_option linter.unusedVariables false
namespace Ev

/-- An equation that the machine leaves. -/
@[irreducible] def Tell (p : Prop) : Prop := p
theorem tell {α : Sort _} {a b : α} (h : Tell (a = b)) : a = b := by unfold Tell at h; exact h
theorem Tell.mk {p : Prop} (h : p) : Tell p := by unfold Tell; exact h
theorem num_lit {e : Int} {K : Int → Prop} (l : Int) (h : e = l) (hk : K l) : ∀ n, n = e → K n := by
  intro n hn; rw [hn, h]; exact hk
theorem num_elim {e : Int} {K : Int → Prop} (hk : K e) : ∀ n, n = e → K n := fun n h => h ▸ hk
theorem gb_t {x : Bool} (h : x = true) : gb x true = true := h
theorem ff_elim {K : Prop} : false = true → K := fun h => by cases h
theorem tf_elim {K : Prop} : true = false → K := fun h => by cases h
theorem okF_t {fn : Func} {n : Nat} (h : okF fn n = true) : okF fn n = true := h
theorem ks_t {l : List Nat} {i k : Nat} (h : ksO l i = some k) : ksO l i = some k := h
theorem pk_t {l i k : Nat} (h : pinK l i = some k) : pinK l i = some k := h
theorem pf_t {l : Nat} {ρ : List Nat} {i k : Nat} (h : pinF l ρ i = some k) : pinF l ρ i = some k := h
theorem lk_t {a : Nat} {l : List (Nat × OB)} {r : List (Option Nat)} {i k : Nat} (h : lkR a l r i = some k) : lkR a l r i = some k := h
theorem gb_f {x : Bool} (h : x = false) : gb x false = true := by rw [h]; rfl
/-- A contract of one function. -/
structure Con (P : Program) where
  f : Nat
  c : List AV → CR
  ok : ∀ args p r, c args = .ok p r → p.getD True → ACalls P f args r
def conL {P : Program} : List (Con P) → Nat → List AV → CR
  | [], _, _ => .no
  | k :: l, f, args => bif Nat.beq f k.f then (match k.c args with | .ok p r => .ok p r | _ => conL l f args) else conL l f args
theorem conL_ok0 {P : Program} : ∀ (l : List (Con P)) f args, (∀ p r, conL l f args = .ok p r → p.getD True → ACalls P f args r) ∧ (∀ p r ob, conL l f args ≠ .new p r ob) ∧ ∀ p r, conL l f args ≠ .fre p r
  | [], f, args => ⟨(fun _ _ h => by cases h), (fun _ _ _ h => by cases h), fun _ _ h => by cases h⟩
  | k :: l, f, args => by
    have h0 := conL_ok0 l f args
    unfold conL
    cases hb : Nat.beq f k.f with
    | true =>
      show (∀ p r, (match k.c args with | .ok p r => CR.ok p r | _ => conL l f args) = .ok p r → _) ∧ (∀ p r ob, (match k.c args with | .ok p r => CR.ok p r | _ => conL l f args) ≠ .new p r ob) ∧ ∀ p r, (match k.c args with | .ok p r => CR.ok p r | _ => conL l f args) ≠ .fre p r
      cases hc : k.c args with
      | no => exact h0
      | ok q s => exact ⟨fun p r h hp => by cases h; rw [Nat.eq_of_beq_eq_true hb]; exact k.ok args _ _ hc hp, (fun _ _ _ h => by cases h), fun _ _ h => by cases h⟩
      | new q s ob => exact h0
      | fre q s => exact h0
    | false => exact h0
theorem conL_ok {P : Program} (l : List (Con P)) : ConOk P (conL l) := ⟨fun f args => (conL_ok0 l f args).1, (fun f args p r ob h => absurd h ((conL_ok0 l f args).2.1 p r ob)), fun f args p r h => absurd h ((conL_ok0 l f args).2.2 p r)⟩
/-- Functions that may be stepped into. -/
structure Inl (P : Program) where
  f : Nat
  fn : Func
  ok : FnOk P f fn
def inlL {P : Program} : List (Inl P) → Nat → Option Func
  | [], _ => none
  | k :: l, f => bif Nat.beq f k.f then some k.fn else inlL l f
theorem inlL_ok {P : Program} : ∀ (l : List (Inl P)) (f : Nat) (fn : Func), inlL l f = some fn → FnOk P f fn
  | [], f, fn, h => by cases h
  | k :: l, f, fn, h => by
    unfold inlL at h
    cases hb : Nat.beq f k.f with
    | true => rw [hb] at h; cases h; rw [Nat.eq_of_beq_eq_true hb]; exact k.ok
    | false => rw [hb] at h; exact inlL_ok l f fn h
/-- Contracts of functions that write. -/
structure MCon (P : Program) where
  f : Nat
  c : List AV → (Nat → OB) → MR
  ok : ∀ args own ks cargs rows p r rows', c args own = .ok ks cargs rows p r rows' → p.getD True → MCalls P f cargs rows r rows'
def mcL {P : Program} : List (MCon P) → Nat → List AV → (Nat → OB) → MR
  | [], _, _, _ => .no
  | k :: l, f, args, own => bif Nat.beq f k.f then k.c args own else mcL l f args own
theorem mcL_ok {P : Program} : ∀ (l : List (MCon P)), MConOk P (mcL l)
  | [], f, args, own, ks, cargs, rows, p, r, rows', h, _ => by cases h
  | k :: l, f, args, own, ks, cargs, rows, p, r, rows', h, hp => by
    unfold mcL at h
    cases hb : Nat.beq f k.f with
    | true => rw [hb] at h; rw [Nat.eq_of_beq_eq_true hb]; exact k.ok args own ks cargs rows p r rows' h hp
    | false => rw [hb] at h; exact mcL_ok l f args own ks cargs rows p r rows' h hp
/-- What is handed back out of new blocks of numbers. -/
def pubN0 (own : Nat → OB) (v : AV) : PV :=
  match v with
  | .os k sz off n => match own k with
    | .nums kd N P => match Nat.beq sz 1 with
      | true => .ok (.sl n 1 fun j => .int kd (P (off + j))) [] (some (off + n ≤ N))
      | false => .no
    | _ => .no
  | v => match flat0 v with
    | true => .ok v [] none
    | false => .no
def pubNs (own : Nat → OB) : List AV → PL
  | [] => .ok [] [] none
  | v :: r => match pubN0 own v with
    | .no => .no
    | .ok v _ p => match pubNs own r with
      | .no => .no
      | .ok l _ q => .ok (v :: l) [] (andP p q)
def pubN1 (own : Nat → OB) (v : AV) : PV :=
  match v with
  | .agg l => match pubNs own l with
    | .no => .no
    | .ok l _ p => .ok (.agg l) [] p
  | v => pubN0 own v
def pubNL (own : Nat → OB) : List AV → PL
  | [] => .ok [] [] none
  | v :: r => match pubN1 own v with
    | .no => .no
    | .ok v _ p => match pubNL own r with
      | .no => .no
      | .ok l _ q => .ok (v :: l) [] (andP p q)
def pubNT (own : Nat → OB) (v : AV) : PV :=
  match v with
  | .tup l => match pubNL own l with
    | .no => .no
    | .ok l _ p => .ok (.tup l) [] p
  | v => pubN1 own v
section
variable {w : World} {w0 : St0} {σ : Nat → Option Nat} {Im : Nat → Prop} {own : Nat → OB}
theorem pubN0_sound (hS : Sat w0 w σ Im own) {v u : AV} {V : Value} {ks : List Nat} {p : Option Prop} (h : pubN0 own v = .ok u ks p) (hp : p.getD True) (hv : Rd w σ Im v V) : Rd w (fun _ => none) (fun b => ∃ k, σ k = some b) u V := by
  unfold pubN0 at h
  split at h
  · rename_i k sz off n
    split at h
    case h_2 => cases h
    rename_i kd N Q ho
    split at h
    case h_2 => cases h
    rename_i hsz
    have hsz := Nat.eq_of_beq_eq_true hsz
    subst hsz
    cases h
    simp only [Option.getD_some] at hp
    rcases hv.inv_os with ⟨rfl, a, rfl⟩ | ⟨b, cap, rfl, hb, h1, h2, h3⟩
    · exact .sl0 _ _ _ _ (Nat.zero_le _)
    · have hl : (own k).live := by rw [ho]; trivial
      have hblk := held_blk hS hl hb
      rw [ho] at hblk
      have hex : ∀ j, j < n * 1 → w.cell? ⟨b, off + j, none⟩ = some (.int kd (Q (off + j))) := fun j hj => by
        obtain ⟨v, c1, _, c3, c4⟩ := hblk.cell (i := off + j) (by show _ < N; omega)
        rw [c1, Rd.inv_int c4]
      exact .sl _ _ _ _ _ _ (fun j => .int kd (Q (off + j))) ⟨k, hb⟩ h1 h2 hex (fun j hj => rfl) fun j hj => .int _ _
  · split at h
    · rename_i hf; cases h; exact flat0_rd hf hv
    · cases h
theorem pubNs_sound (hS : Sat w0 w σ Im own) : ∀ {l u : List AV} {ks : List Nat} {p : Option Prop}, pubNs own l = .ok u ks p → p.getD True → u.length = l.length ∧ ∀ i V, i < l.length → Rd w σ Im (l.getD i .any) V → Rd w (fun _ => none) (fun b => ∃ k, σ k = some b) (u.getD i .any) V
  | [], u, ks, p, h, _ => by cases h; exact ⟨rfl, fun i V hi => by simp at hi⟩
  | v :: r, u, ks, p, h, hp => by
    unfold pubNs at h
    split at h
    · cases h
    rename_i v' k1 p1 e1
    split at h
    · cases h
    rename_i l' k2 p2 e2
    cases h
    obtain ⟨a1, a3⟩ := pubNs_sound hS e2 (andP_r hp)
    refine ⟨by simp [a1], fun i V hi hr => ?_⟩
    cases i with
    | zero => exact pubN0_sound hS e1 (andP_l hp) hr
    | succ i => simpa using a3 i V (by simp at hi; omega) (by simpa using hr)
theorem pubN1_sound (hS : Sat w0 w σ Im own) {v u : AV} {V : Value} {ks : List Nat} {p : Option Prop} (h : pubN1 own v = .ok u ks p) (hp : p.getD True) (hv : Rd w σ Im v V) : Rd w (fun _ => none) (fun b => ∃ k, σ k = some b) u V := by
  unfold pubN1 at h
  split at h
  · split at h
    · cases h
    rename_i l' ks' p' e
    cases h
    obtain ⟨a1, a3⟩ := pubNs_sound hS e hp
    obtain ⟨cs, rfl, h1, h2, h3⟩ := hv.inv_agg
    exact .agg _ _ (by rw [h1, a1]) (fun i hi => h2 i (by omega)) (fun i hi => a3 i _ (by omega) (h3 i (by omega)))
  · exact pubN0_sound hS h hp hv
theorem pubNL_sound (hS : Sat w0 w σ Im own) : ∀ {l u : List AV} {ks : List Nat} {p : Option Prop}, pubNL own l = .ok u ks p → p.getD True → u.length = l.length ∧ ∀ i V, i < l.length → Rd w σ Im (l.getD i .any) V → Rd w (fun _ => none) (fun b => ∃ k, σ k = some b) (u.getD i .any) V
  | [], u, ks, p, h, _ => by cases h; exact ⟨rfl, fun i V hi => by simp at hi⟩
  | v :: r, u, ks, p, h, hp => by
    unfold pubNL at h
    split at h
    · cases h
    rename_i v' k1 p1 e1
    split at h
    · cases h
    rename_i l' k2 p2 e2
    cases h
    obtain ⟨a1, a3⟩ := pubNL_sound hS e2 (andP_r hp)
    refine ⟨by simp [a1], fun i V hi hr => ?_⟩
    cases i with
    | zero => exact pubN1_sound hS e1 (andP_l hp) hr
    | succ i => simpa using a3 i V (by simp at hi; omega) (by simpa using hr)
theorem pubNT_sound (hS : Sat w0 w σ Im own) {v u : AV} {V : Value} {ks : List Nat} {p : Option Prop} (h : pubNT own v = .ok u ks p) (hp : p.getD True) (hv : Rd w σ Im v V) : Rd w (fun _ => none) (fun b => ∃ k, σ k = some b) u V := by
  unfold pubNT at h
  split at h
  · split at h
    · cases h
    rename_i l' ks' p' e
    cases h
    obtain ⟨a1, a3⟩ := pubNL_sound hS e hp
    obtain ⟨cs, rfl, h1, h3⟩ := hv.inv_tup
    exact .tup _ _ (by rw [h1, a1]) (fun i hi => a3 i _ (by omega) (h3 i (by omega)))
  · exact pubN1_sound hS h hp hv
end
theorem fcalls {P : Program} {f : FuncId} {args : List AV} {r u : AV} {rows : List OB} {ks : List Nat} {p : Option Prop} (he : pubNT (rowsO rows) r = .ok u ks p) (hp : p.getD True) (h : MCalls P f args [] r rows) : FCalls P f args u := by
  intro w Im vals hIm ht htw
  have S := Sat.first w Im hIm htw
  have e : rowsO [] = fun _ => OB.gone := funext fun k => by cases k <;> rfl
  rw [← e] at S
  refine (h _ w _ Im vals S (fun _ _ => rfl) ht).mono fun v w' ⟨σ', Im', hv, hS, hn, hg⟩ => ⟨⟨hS.bel.os, hS.bel.tape, hS.bel.output, hS.bel.size, hS.bel.block⟩, ?_⟩
  exact (pubNT_sound hS he hp hv).wide fun b ⟨k, hk⟩ => ⟨Nat.le_of_not_lt (hS.sgB k b hk), hS.sg k b hk⟩
/-- A contract that hands back one new block, for statements whose order is open; or several, of numbers. -/
def newC (m : MR) (args : List AV) : CR :=
  match m with
  | .ok ks cargs rows p r rows2 => match ks with
    | [] => match rows with
      | [] => match rows2 with
        | [ob] => match ob with
          | .arr _ _ => .new (andP (some (cargs = args)) p) r ob
          | .nums _ _ _ => .new (andP (some (cargs = args)) p) r ob
          | .row l => match l.all imm0 with
            | true => .new (andP (some (cargs = args)) p) r ob
            | false => .no
          | .gone => .no
          | .bts _ _ => .no
        | _ => match pubNT (rowsO rows2) r with
          | .ok u _ q => .fre (andP (andP (some (cargs = args)) p) q) u
          | .no => .no
      | _ => .no
    | _ => .no
  | .no => .no
theorem ncalls {P : Program} {f : FuncId} {args : List AV} {r : AV} {ob : OB} (hl : ob.live) (hi : ∀ (w : World) (σ : Nat → Option Nat) (Im : Nat → Prop) i v, i < ob.N → Rd w (ob.sg σ) Im (ob.at i) v → Rd w (fun _ => none) Im (ob.at i) v) (h : MCalls P f args [] r [ob]) : NCalls P f args r ob := by
  intro w Im vals hIm ht htw
  have S := Sat.first w Im hIm htw
  have e : rowsO [] = fun _ => OB.gone := funext fun k => by cases k <;> rfl
  rw [← e] at S
  refine (h _ w _ Im vals S (fun _ _ => rfl) ht).mono fun v w' ⟨σ', Im', hv, hS, hn, hg⟩ => ⟨⟨hS.bel.os, hS.bel.tape, hS.bel.output, hS.bel.size, hS.bel.block⟩, σ' 0, Im', hg.im, fun b hb => ?_, ?_, ?_⟩
  · rcases hS.imB b hb with q | q
    · exact .inl q
    · exact .inr ⟨Nat.le_of_not_lt q, hS.im b hb⟩
  · have : upd (fun _ => none) 0 (σ' 0) = σ' := by
      funext k
      rcases upd_cases (fun _ => (none : Option Nat)) 0 (σ' 0) k with ⟨rfl, e⟩ | ⟨h1, e⟩
      · exact e
      · rw [e]; exact (hn k (Nat.zero_le _) (by show 1 ≤ k; omega)).symm
    rw [this]; exact hv
  · rcases hS.held 0 hl with q | ⟨b, q1, q2, q3, q4⟩
    · exact .inl q
    · refine .inr ⟨b, q1, Nat.le_of_not_lt q3, hS.sg 0 b q1, q2, ?_⟩
      obtain ⟨z1, z2, z3⟩ := q4
      exact ⟨z1, z2, fun i hi' => by
        obtain ⟨v, c1, c2, c3⟩ := z3 i hi'
        exact ⟨v, c1, c2, hi w' σ' Im' i v hi' c3⟩⟩
theorem newC_ok {P : Program} {f : FuncId} {args : List AV} {m : MR} (hm : ∀ ks cargs rows p r rows2, m = .ok ks cargs rows p r rows2 → p.getD True → MCalls P f cargs rows r rows2) :
    (∀ p r ob, newC m args = .new p r ob → p.getD True → NCalls P f args r ob) ∧ (∀ p r, newC m args ≠ .ok p r) ∧ ∀ p r, newC m args = .fre p r → p.getD True → FCalls P f args r := by
  unfold newC
  split
  case h_2 => exact ⟨(fun _ _ _ h => by cases h), (fun _ _ h => by cases h), fun _ _ h => by cases h⟩
  rename_i ks cargs rows q s rows2
  split
  case h_2 => exact ⟨(fun _ _ _ h => by cases h), (fun _ _ h => by cases h), fun _ _ h => by cases h⟩
  split
  case h_2 => exact ⟨(fun _ _ _ h => by cases h), (fun _ _ h => by cases h), fun _ _ h => by cases h⟩
  have key : (andP (some (cargs = args)) q).getD True → MCalls P f args [] s rows2 := fun hp => by
    have e := andP_l hp
    simp only [Option.getD_some] at e
    rw [← e]
    exact hm _ _ _ _ _ _ rfl (andP_r hp)
  split
  · rename_i ob'
    split
    · exact ⟨(fun _ _ _ h hp => by cases h; exact ncalls trivial (fun _ _ _ _ _ _ h => h) (key hp)), (fun _ _ h => by cases h), fun _ _ h => by cases h⟩
    · exact ⟨(fun _ _ _ h hp => by cases h; exact ncalls trivial (fun _ _ _ _ _ _ h => flat0_rd rfl h) (key hp)), (fun _ _ h => by cases h), fun _ _ h => by cases h⟩
    · split
      · rename_i hall
        exact ⟨(fun _ _ _ h hp => by cases h; exact ncalls trivial (fun _ _ _ i v hi h => Rd.imm0 (all_getD hall i hi) h) (key hp)), (fun _ _ h => by cases h), fun _ _ h => by cases h⟩
      · exact ⟨(fun _ _ _ h => by cases h), (fun _ _ h => by cases h), fun _ _ h => by cases h⟩
    · exact ⟨(fun _ _ _ h => by cases h), (fun _ _ h => by cases h), fun _ _ h => by cases h⟩
    · exact ⟨(fun _ _ _ h => by cases h), (fun _ _ h => by cases h), fun _ _ h => by cases h⟩
  · split
    · rename_i u ks2 q2 e
      exact ⟨(fun _ _ _ h => by cases h), (fun _ _ h => by cases h), fun _ _ h hp => by cases h; exact fcalls e (andP_r hp) (key (andP_l hp))⟩
    · exact ⟨(fun _ _ _ h => by cases h), (fun _ _ h => by cases h), fun _ _ h => by cases h⟩
/-- Both kinds. -/
def conW {P : Program} (l : List (Con P)) (k : List (MCon P)) (f : Nat) (args : List AV) : CR :=
  match conL l f args with
  | .ok p r => .ok p r
  | _ => newC (mcL k f args fun _ => .gone) args
theorem conW_ok {P : Program} (l : List (Con P)) (k : List (MCon P)) : ConOk P (conW l k) := by
  have hn := fun f args => newC_ok (args := args) (m := mcL k f args fun _ => .gone) (fun ks cargs rows p r rows2 e hp => mcL_ok k f args _ ks cargs rows p r rows2 e hp)
  refine ⟨fun f args p r h hp => ?_, fun f args p r ob h hp => ?_, fun f args p r h hp => ?_⟩
  · unfold conW at h
    split at h
    · rename_i e; cases h; exact (conL_ok0 l f args).1 _ _ e hp
    · exact absurd h ((hn f args).2.1 p r)
  · unfold conW at h
    split at h
    · cases h
    · exact (hn f args).1 p r ob h hp
  · unfold conW at h
    split at h
    · cases h
    · exact (hn f args).2.2 p r h hp
def hasM {P : Program} : List (MCon P) → Nat → Bool
  | [], _ => false
  | k :: l, f => bif Nat.beq f k.f then true else hasM l f
def hasI {P : Program} : List (Inl P) → List (MCon P) → Nat → Bool
  | [], m, f => hasM m f
  | k :: l, m, f => bif Nat.beq f k.f then true else hasI l m f
end Ev
end Go.Proofs.YtphdjmaebdmdmaaGreatDoor
