/- The abstract machine: steps that make or write memory of the call's own. -/
import Derived.Test.YtphdjmaebdmdmaaGreatDoorEvCut
namespace Go.Proofs.YtphdjmaebdmdmaaGreatDoor
open Go.RowKit
set_option linter.unusedVariables false
set_option linter.unusedSimpArgs false
namespace Ev

def applyW (own : Nat → OB) (wr : List (Nat × OB)) : Nat → OB := wr.foldl (fun o p => upd o p.1 p.2) own
def applyO (own : Nat → OB) (wr : List (Nat × OB)) (nw : Option OB) (ix : Nat) : Nat → OB :=
  match nw with
  | some ob => upd (applyW own wr) ix ob
  | none => applyW own wr
/-- What holds behind a step. -/
def Post (w0 : St0) (w : World) (σ : Nat → Option Nat) (Im : Nat → Prop) (own : Nat → OB) (ix : Nat) (r : AV) (wr : List (Nat × OB)) (nw : Option OB) (v : Value) (w' : World) : Prop :=
  ∃ σ' Im', Go1 w σ Im w' σ' Im' ∧ (∀ j, j ≠ ix → σ' j = σ j) ∧ (nw = none → σ' ix = σ ix) ∧ Rd w' σ' Im' r v ∧ Sat w0 w' σ' Im' (applyO own wr nw ix)
/-- A step that runs. -/
def SR.runs (s : SR) (Q : AV → List (Nat × OB) → Option OB → Prop) : Prop :=
  match s with
  | .no => True
  | .ok p _ r _ wr nw => p.getD True → Q r wr nw

def boxA (x : AV) (ix : Nat) : SR :=
  match cellsA x with
  | some l => .ok none false (.own ix 0) [] [] (some (.row l))
  | none => .no
def allocA (ti : TI) (ix : Nat) : SR :=
  match ti.d with
  | .other => .no
  | _ => .ok none false (.own ix 0) [] [] (some (.row (ti.zero.map ofV0)))
/-- Cells that are put over others. -/
def setA (off : Nat) (vs : List AV) (g : Nat → AV) (j : Nat) : AV := if off ≤ j ∧ j < off + vs.length then vs.getD (j - off) .any else g j
def storeA (ti : TI) (own : Nat → OB) (a v : AV) : SR :=
  match ti.d with
  | .other => .no
  | _ => match a with
    | .own k off => match own k with
      | .row l => match cellsA v with
        | some vs => match Nat.beq vs.length ti.size with
          | true => match Nat.ble (off + vs.length) l.length with
            | true => .ok none false (.tup []) [] [(k, .row (putA l off vs))] none
            | false => .no
          | false => .no
        | none => .no
      | .nums kd N P => match v with
        | .int kd' x => match decide (kd = kd') with
          | true => match Nat.beq 1 ti.size with
            | true => .ok (some (off < N)) false (.tup []) [] [(k, .nums kd N fun j => if j = off then x else P j)] none
            | false => .no
          | false => .no
        | _ => .no
      | .arr N g => match cellsA v with
        | some [v] => match Nat.beq 1 ti.size with
          | true => match imm0 v with
            | true => .ok (some (off < N)) false (.tup []) [] [(k, .arr N fun j => if j = off then v else g j)] none
            | false => .no
          | false => .no
        | some vs => match Nat.beq vs.length ti.size with
          | true => match vs.all imm0 with
            | true => .ok (some (off + vs.length ≤ N)) false (.tup []) [] [(k, .arr N (setA off vs g))] none
            | false => .no
          | false => .no
        | none => .no
      | .gone => .no
      | .bts _ _ => .no
    | _ => .no
def zeroA (ti : TI) (N : Nat) : OB :=
  match ti.d with
  | .int k => match ti.zero with
    | [.int k' n] => match decide (k = k') with
      | true => .nums k N fun _ => n
      | false => .arr N fun j => (ti.zero.map ofV0).getD (j % ti.zero.length) .any
    | _ => .arr N fun j => (ti.zero.map ofV0).getD (j % ti.zero.length) .any
  | _ => match ti.zero with
    | [z] => .arr N fun _ => ofV0 z
    | _ => .arr N fun j => (ti.zero.map ofV0).getD (j % ti.zero.length) .any
def makeA (ti : Nat → TI) (d : TD) (ix : Nat) (l c : AV) : SR :=
  match d with
  | .sl e => match (ti e).d with
    | .other => .no
    | _ => match l, c with
      | .int _ l, .int _ c => .ok (some (0 ≤ l ∧ l ≤ c ∧ c ≤ 140737488355328 ∧ ((ti e).bytes : Int) * c ≤ 140737488355328)) false (.os ix (ti e).size 0 l.toNat) [] [] (some (zeroA (ti e) (mulN c.toNat (ti e).size)))
      | _, _ => .no
  | _ => .no

section
variable {P : Program} {w : World} {w0 : St0} {σ : Nat → Option Nat} {Im : Nat → Prop} {own : Nat → OB} {ix : Nat}
theorem cells_store {t : Nat} {ti : TI} (ht : TIok P t ti) {b off : Nat} {V : Value} {vs : List AV} (hv : RdL w σ Im vs V.cells) (hsz : vs.length = ti.size) (hfit : off + vs.length ≤ blen w b) (hfr : ∀ i, i < blen w b → w.frozen? ⟨b, i, none⟩ = false) :
    (Instr.storeAt t (.pointer (some ⟨b, off, none⟩)) V).run P w = .ok () (w.setCells b off V.cells.toList) := by
  obtain ⟨desc, i, z, hu, hd, hi, hs, _⟩ := ht.ex
  have hc : ∀ j, j < V.cells.toList.length → (w.cell? ⟨b, off + j, none⟩).isSome = true := fun j hj => by
    have hj' : off + j < blen w b := by have := hv.1; simp at hj; omega
    unfold blen at hj'
    cases hh : w.heap[b]? with
    | none => simp [hh] at hj'
    | some obj => cases obj <;> simp [hh, World.cell?] at hj' ⊢; exact hj'
  have := run_storeCells_cells (P := P) b off V.cells.toList 0 w (fun j hj => by simpa using hc j hj) (fun j hj => by
    have hj' : off + j < blen w b := by have := hv.1; simp at hj; omega
    simpa using hfr _ hj') (fun v hv' => by
    obtain ⟨j, hj, rfl⟩ := List.getElem_of_mem hv'
    have hj' : j < V.cells.size := by simpa using hj
    have := hv.2.1 j (by have := hv.1; omega)
    simpa [hj'] using this)
  have h1 : V.cells.size = i.size := by rw [hv.1, hsz, hs]
  simp only [Nat.add_zero] at this
  simp [Instr.storeAt, Instr.sureAddr, storeVar, sizeOf, typeInfo, hi, h1, this]

theorem box_sound (hS : Sat w0 w σ Im own) (hs : σ ix = none) (hx : ¬ (own ix).live) {t : Nat} {x : AV} {X : Value} (hr : Rd w σ Im x X) :
    (boxA x ix).runs fun r wr nw => ∃ v w', (Instr.box t X).run P w = .ok v w' ∧ Post w0 w σ Im own ix r wr nw v w' := by
  unfold boxA
  split
  case h_2 => trivial
  rename_i l hl
  intro _
  have hc := cells_rd hl hr
  obtain ⟨g1, g2⟩ := hS.alloc hs hx X.cells t (.row l) (by show l.length ≤ _; rw [hc.1]; exact Nat.le_refl _) (fun i hi => ⟨hc.2.1 i hi, hc.2.2 i hi⟩)
  exact ⟨.pointer (some ⟨w.heap.size, 0, none⟩), w.alloc (.cells X.cells t), (by simp [Instr.box, newVar, newRow]), upd σ ix (some w.heap.size), Im, g1, fun j hj => upd_other _ _ _ hj, fun h => (nomatch h), .own _ _ _ (upd_same _ _ _), g2⟩
theorem alloc_sound (hS : Sat w0 w σ Im own) (hs : σ ix = none) (hx : ¬ (own ix).live) {t : Nat} {ti : TI} (ht : ti.d ≠ .other → TIok P t ti) :
    (allocA ti ix).runs fun r wr nw => ∃ v w', (Instr.alloc t true (.tuple #[])).run P w = .ok v w' ∧ Post w0 w σ Im own ix r wr nw v w' := by
  unfold allocA
  split
  · trivial
  rename_i hne
  intro _
  obtain ⟨desc, i, z, hu, hd, hi, hs', hb, hz, hzc, hzs, h1, _⟩ := (ht hne).ex
  have hc := zero_rd (w := w) (σ := σ) (Im := Im) _ h1 _ hzc
  obtain ⟨g1, g2⟩ := hS.alloc hs hx z.cells t (.row (ti.zero.map ofV0)) (by show (ti.zero.map ofV0).length ≤ _; rw [hc.1]; exact Nat.le_refl _) (fun i hi => ⟨hc.2.1 i hi, hc.2.2 i hi⟩)
  exact ⟨.pointer (some ⟨w.heap.size, 0, none⟩), w.alloc (.cells z.cells t), (by simp [Instr.alloc, zeroValue, typeInfo, hi, hz, newVar, newRow]), upd σ ix (some w.heap.size), Im, g1, fun j hj => upd_other _ _ _ hj, fun h => (nomatch h), .own _ _ _ (upd_same _ _ _), g2⟩

theorem held_blk (hS : Sat w0 w σ Im own) {k b : Nat} (hl : (own k).live) (hb : σ k = some b) : Blk w b (own k).N (fun i v => Rd w ((own k).sg σ) Im ((own k).at i) v) (own k).ty := by
  rcases hS.held k hl with e | ⟨b', e1, _, _, e4⟩
  · rw [e.2] at hb; cases hb
  · rw [hb] at e1; cases e1; exact e4
theorem undef_rd : Rd w σ Im (.tup []) undef := .tup _ _ rfl fun i hi => by simp at hi
theorem store_sound (hS : Sat w0 w σ Im own) {t : Nat} {ti : TI} (ht : ti.d ≠ .other → TIok P t ti) {a x : AV} {A X : Value} (ha : Rd w σ Im a A) (hx : Rd w σ Im x X) :
    (storeA ti own a x).runs fun r wr nw => ∃ w', (Instr.storeAt t A X).run P w = .ok () w' ∧ Post w0 w σ Im own ix r wr nw undef w' := by
  unfold storeA
  split
  · trivial
  rename_i hne
  have ht := ht hne
  split
  case h_2 => trivial
  case h_1 k off =>
  obtain ⟨b, rfl, hb⟩ := ha.inv_own
  split
  case h_4 => trivial
  case h_5 => trivial
  case h_1 l hl =>
    split
    case h_2 => trivial
    rename_i vs hvs
    split
    case h_2 => trivial
    rename_i hsz
    have hsz := Nat.eq_of_beq_eq_true hsz
    split
    case h_2 => trivial
    rename_i hfit
    have hfit := Nat.le_of_ble_eq_true hfit
    intro _
    have hlive : (own k).live := by rw [hl]; trivial
    obtain ⟨g1, ⟨g2, _⟩, g3⟩ := held_blk hS hlive hb
    have hN : (own k).N = l.length := by rw [hl]; rfl
    have hv := cells_rd hvs hx
    have hlen : X.cells.toList.length = vs.length := by simp [hv.1]
    have hrun := cells_store ht hv hsz (b := b) (off := off) (by omega) g2
    obtain ⟨k1, k2⟩ := hS.store hlive hb off X.cells.toList (by rw [hlen]; omega) (.row (putA l off vs)) (by show (putA l off vs).length ≤ _; rw [putA_length _ _ _ hfit, hN]; omega)
      (fun j hj _ => by
        rw [hlen] at hj
        have e : X.cells.toList.getD j undef = X.cells.getD j undef := by simp [List.getD]
        rw [e]
        refine ⟨hv.2.1 j hj, ?_⟩
        show Rd w σ Im ((putA l off vs).getD (off + j) .any) _
        rw [putA_get _ _ _ hfit, if_pos ⟨by omega, by omega⟩, Nat.add_sub_cancel_left]
        exact hv.2.2 j hj)
      (fun i v _ _ hr => by rw [hl] at hr ⊢; exact hr)
      (fun i hi ho => by
        rw [hlen] at ho
        show (putA l off vs).getD i .any = _
        rw [putA_get _ _ _ hfit, if_neg (by omega), hl]; rfl)
    exact ⟨_, hrun, σ, Im, k1, fun _ _ => rfl, fun _ => rfl, undef_rd, k2⟩
  case h_2 kd N Q hl =>
    split
    case h_2 => trivial
    case h_1 kd' n =>
    have := hx.inv_int
    subst this
    split
    case h_2 => trivial
    rename_i hk
    have hk := of_decide_eq_true hk
    subst hk
    split
    case h_2 => trivial
    rename_i hsz
    have hsz := Nat.eq_of_beq_eq_true hsz
    intro hlt
    simp only [Option.getD_some] at hlt
    have hlive : (own k).live := by rw [hl]; trivial
    obtain ⟨g1, ⟨g2, _⟩, g3⟩ := held_blk hS hlive hb
    have hN : (own k).N = N := by rw [hl]; rfl
    have hv := cells_rd (v := .int kd n) (l := [.int kd n]) rfl hx
    have hrun := cells_store ht hv (by simpa using hsz) (b := b) (off := off) (by simp; omega) g2
    obtain ⟨k1, k2⟩ := hS.store hlive hb off [.int kd n] (by simp; omega) (.nums kd N fun j => if j = off then n else Q j) (by show N ≤ _; omega)
      (fun j hj _ => by
        have : j = 0 := by simp at hj; omega
        subst this
        refine ⟨rfl, ?_⟩
        show Rd w σ Im (.int kd (if off + 0 = off then n else Q (off + 0))) _
        simp
        exact .int _ _)
      (fun i v _ _ hr => by rw [hl] at hr ⊢; exact hr)
      (fun i hi ho => by
        show AV.int kd (if i = off then n else Q i) = _
        rw [if_neg (by simp at ho; omega), hl]; rfl)
    exact ⟨_, hrun, σ, Im, k1, fun _ _ => rfl, fun _ => rfl, undef_rd, k2⟩
  case h_3 N g hl =>
    split
    case h_3 => trivial
    case h_2 vs hne1 hvs =>
      split
      case h_2 => trivial
      rename_i hsz
      have hsz := Nat.eq_of_beq_eq_true hsz
      split
      case h_2 => trivial
      rename_i himm
      intro hlt
      simp only [Option.getD_some] at hlt
      have hlive : (own k).live := by rw [hl]; trivial
      obtain ⟨g1, ⟨g2, _⟩, g3⟩ := held_blk hS hlive hb
      have hN : (own k).N = N := by rw [hl]; rfl
      have hv := cells_rd hvs hx
      have hlen : X.cells.toList.length = vs.length := by simp [hv.1]
      have hrun := cells_store ht hv hsz (b := b) (off := off) (by omega) g2
      obtain ⟨k1, k2⟩ := hS.store hlive hb off X.cells.toList (by rw [hlen]; omega) (.arr N (setA off vs g)) (by show N ≤ _; omega)
        (fun j hj _ => by
          rw [hlen] at hj
          have e : X.cells.toList.getD j undef = X.cells.getD j undef := by simp [List.getD]
          rw [e]
          refine ⟨hv.2.1 j hj, ?_⟩
          show Rd w (fun _ => none) Im (setA off vs g (off + j)) _
          unfold setA
          rw [if_pos ⟨by omega, by omega⟩, Nat.add_sub_cancel_left]
          refine Rd.imm0 ?_ (hv.2.2 j hj)
          have := List.all_eq_true.1 himm vs[j] (List.getElem_mem hj)
          simpa [List.getD, hj] using this)
        (fun i v _ _ hr => by rw [hl] at hr ⊢; exact hr)
        (fun i hi ho => by
          rw [hlen] at ho
          show setA off vs g i = _
          unfold setA
          rw [if_neg (by omega), hl]; rfl)
      exact ⟨_, hrun, σ, Im, k1, fun _ _ => rfl, fun _ => rfl, undef_rd, k2⟩
    rename_i u hvs
    split
    case h_2 => trivial
    rename_i hsz
    have hsz := Nat.eq_of_beq_eq_true hsz
    split
    case h_2 => trivial
    rename_i himm
    intro hlt
    simp only [Option.getD_some] at hlt
    have hlive : (own k).live := by rw [hl]; trivial
    obtain ⟨g1, ⟨g2, _⟩, g3⟩ := held_blk hS hlive hb
    have hN : (own k).N = N := by rw [hl]; rfl
    have hv := cells_rd hvs hx
    have hlen : X.cells.toList.length = 1 := by simp [hv.1]
    have hrun := cells_store ht hv (by simpa using hsz) (b := b) (off := off) (by simp; omega) g2
    obtain ⟨k1, k2⟩ := hS.store hlive hb off X.cells.toList (by rw [hlen]; omega) (.arr N fun j => if j = off then u else g j) (by show N ≤ _; omega)
      (fun j hj _ => by
        have : j = 0 := by omega
        subst this
        have e : X.cells.toList.getD 0 undef = X.cells.getD 0 undef := by simp [List.getD]
        rw [e]
        refine ⟨hv.2.1 0 (by simp), ?_⟩
        show Rd w (fun _ => none) Im (if off + 0 = off then u else g (off + 0)) _
        simp only [Nat.add_zero, if_true]
        exact Rd.imm0 himm (hv.2.2 0 (by simp)))
      (fun i v _ _ hr => by rw [hl] at hr ⊢; exact hr)
      (fun i hi ho => by
        show (if i = off then u else g i) = _
        rw [if_neg (by omega), hl]; rfl)
    exact ⟨_, hrun, σ, Im, k1, fun _ _ => rfl, fun _ => rfl, undef_rd, k2⟩

theorem zeroA_N (ti : TI) (N : Nat) : (zeroA ti N).N = N := by
  unfold zeroA
  split
  · split
    · split <;> rfl
    · rfl
  · split <;> rfl
theorem zeroA_ty (ti : TI) (N : Nat) : (zeroA ti N).ty = none := by
  unfold zeroA
  split
  · split
    · split <;> rfl
    · rfl
  · split <;> rfl
theorem zeroA_at (ti : TI) (N : Nat) (cs : Array Value) (hc : cs.toList = ti.zero) (h1 : ∀ v ∈ ti.zero, v.oneCell' = true) (h0 : 0 < cs.size) (j : Nat) :
    (cs.getD (j % cs.size) undef).oneCell' = true ∧ Rd w σ Im ((zeroA ti N).at j) (cs.getD (j % cs.size) undef) := by
  have hz := zero_rd (w := w) (σ := σ) (Im := Im) _ h1 _ hc
  have hlen : cs.size = ti.zero.length := by rw [← hc]; simp
  have hlt : j % cs.size < cs.size := Nat.mod_lt _ h0
  have hg : (cs.getD (j % cs.size) undef).oneCell' = true ∧ Rd w σ Im ((ti.zero.map ofV0).getD (j % ti.zero.length) .any) (cs.getD (j % cs.size) undef) := by
    refine ⟨hz.2.1 _ (by simp; omega), ?_⟩
    rw [← hlen]
    exact hz.2.2 _ (by simp; omega)
  have hsing : ∀ z, ti.zero = [z] → (ti.zero.map ofV0).getD (j % ti.zero.length) .any = ofV0 z := fun z hz => by
    rw [hz]; simp [Nat.mod_one]
  refine ⟨hg.1, ?_⟩
  unfold zeroA
  split
  · split
    · rename_i k n hzz
      rw [hsing _ hzz] at hg
      split
      · rename_i hk
        have hk := of_decide_eq_true hk
        subst hk
        exact hg.2
      · rw [← hsing _ hzz] at hg
        simp only [hzz] at hg ⊢
        exact hg.2
    · exact hg.2
  · split
    · rename_i z hzz
      rw [hsing _ hzz] at hg
      exact hg.2
    · exact hg.2
theorem make_sound {cx : Cx} (hcx : cx.ok P) (hS : Sat w0 w σ Im own) (hs : σ ix = none) (hx : ¬ (own ix).live) {t : Nat} {l c : AV} {L C : Value} (hl : Rd w σ Im l L) (hc : Rd w σ Im c C) :
    (makeA cx.ti (cx.ti t).d ix l c).runs fun r wr nw => ∃ v w', (Instr.makeSlice t L C).run P w = .ok v w' ∧ Post w0 w σ Im own ix r wr nw v w' := by
  unfold makeA
  split
  case h_2 => trivial
  case h_1 e hd =>
  obtain ⟨desc, _, _, hu, hd', _⟩ := (hcx.ti t (by rw [hd]; intro h; cases h)).ex
  rw [hd] at hd'
  have := tdOf_sl hd'
  subst this
  split
  · trivial
  rename_i hne
  obtain ⟨desc', i, z, hu', _, hi, hs', hby, hz, hzc, hzs, h1, _⟩ := (hcx.ti e hne).ex
  split
  case h_2 => trivial
  case h_1 _ _ kl l kc c =>
  have := hl.inv_int
  subst this
  have := hc.inv_int
  subst this
  intro hp
  simp only [Option.getD_some] at hp
  obtain ⟨p0, p1, p2, p3⟩ := hp
  have hrun := run_make (P := P) w t e i z hu hi hz kl kc l c p0 p1 (by rw [hby]; omega) (by omega)
  rw [hs'] at hrun
  have hml : ∀ j, j < c.toNat * (cx.ti e).size → ((madeCells z.cells (c.toNat * (cx.ti e).size)).getD j undef).oneCell' = true ∧ Rd w ((zeroA (cx.ti e) (mulN c.toNat (cx.ti e).size)).sg σ) Im ((zeroA (cx.ti e) (mulN c.toNat (cx.ti e).size)).at j) ((madeCells z.cells (c.toNat * (cx.ti e).size)).getD j undef) := fun j hj => by
    have h0 : 0 < z.cells.size := by
      rw [hzs]
      rcases Nat.eq_zero_or_pos (cx.ti e).size with h | h
      · rw [h, Nat.mul_zero] at hj; omega
      · exact h
    have hlt : j % z.cells.size < z.cells.size := Nat.mod_lt _ h0
    have := zeroA_at (w := w) (σ := (zeroA (cx.ti e) (mulN c.toNat (cx.ti e).size)).sg σ) (Im := Im) (cx.ti e) (mulN c.toNat (cx.ti e).size) z.cells hzc h1 h0 j
    have e : (madeCells z.cells (c.toNat * (cx.ti e).size)).getD j undef = z.cells.getD (j % z.cells.size) undef := by
      simp [madeCells, hj, hlt]
    rw [e]
    exact this
  obtain ⟨g1, g2⟩ := hS.alloc hs hx (madeCells z.cells (c.toNat * (cx.ti e).size)) e (zeroA (cx.ti e) (mulN c.toNat (cx.ti e).size)) (by rw [zeroA_N, size_madeCells, mulN_eq]; exact Nat.le_refl _) (fun j hj => hml j (by rw [zeroA_N, mulN_eq] at hj; exact hj)) (fun t' h' => by rw [zeroA_ty] at h'; cases h')
  refine ⟨_, _, hrun, upd σ ix (some w.heap.size), Im, g1, fun j hj => upd_other _ _ _ hj, fun h => (nomatch h), ?_, g2⟩
  refine .os _ _ _ _ _ _ (upd_same _ _ _) (by omega) (by unfold maxLen; omega) ?_
  rw [blen_cells (heap_alloc_new w _), size_madeCells]; omega
end
end Ev
end Go.Proofs.YtphdjmaebdmdmaaGreatDoor
