/- The abstract machine: values that are put together, slices of slices, conversions, choices. -/
import Derived.Test.YtphdjmaebdmdmaaGreatDoorEvVal
import Derived.Laws.Tables
namespace Go.Proofs.YtphdjmaebdmdmaaGreatDoor
open Go.RowKit
set_option linter.unusedVariables false
set_option linter.unusedSimpArgs false
namespace Ev

def lowA : Option AV → Option Int
  | none => some 0
  | some (.int _ i) => some i
  | _ => none
def hiA (n : Nat) : Option AV → Option Int
  | none => some n
  | some (.int _ i) => some i
  | _ => none
def lenN (lo : Option AV) (l h : Int) : Nat := match lo with | none => h.toNat | _ => (h - l).toNat
def shiftA (lo : Option AV) (l : Int) (sz : Nat) (g : Nat → AV) : Nat → AV := match lo with | none => g | _ => fun j => g (mulN l.toNat sz + j)
def offA (lo : Option AV) (l : Int) (sz off : Nat) : Nat := match lo with | none => off | _ => off + mulN l.toNat sz
def sliceA (ti : Nat → TI) (own : Nat → OB) (d : TD) (x : AV) (lo hi mx : Option AV) : SR :=
  match lowA lo with
  | none => .no
  | some l => match d with
    | .str => match x with
      | .str s => match mx with
        | none => match hiA s.size hi with
          | some h => svp (0 ≤ l ∧ l ≤ h ∧ h ≤ s.size) (.str (s.extract l.toNat h.toNat))
          | none => .no
        | _ => .no
      | _ => .no
    | .sl e => match (ti e).d with
      | .other => .no
      | _ => match x with
        | .sl n sz g => match Nat.beq sz (ti e).size with
          | false => .no
          | true => match hiA n hi with
            | none => .no
            | some h => match mx with
              | none => svp (0 ≤ l ∧ l ≤ h ∧ h ≤ n) (.sl (lenN lo l h) sz (shiftA lo l sz g))
              | some (.int _ m) => match hi with
                | some _ => svp (0 ≤ l ∧ l ≤ h ∧ h ≤ m ∧ m ≤ n) (.sl (lenN lo l h) sz (shiftA lo l sz g))
                | none => .no
              | _ => .no
        | .os k sz off n => match Nat.beq sz (ti e).size with
          | false => .no
          | true => match hiA n hi with
            | none => .no
            | some h => match mx with
              | none => svp (0 ≤ l ∧ l ≤ h ∧ h ≤ n) (.os k sz (offA lo l sz off) (lenN lo l h))
              | _ => .no
        | .nils => match hiA 0 hi with
          | none => .no
          | some h => match mx with
            | none => svp (l = 0 ∧ h = 0) .nils
            | _ => .no
        | _ => .no
    | .arr len e => match (ti e).d with
      | .other => .no
      | _ => match hiA len hi with
        | none => .no
        | some h => match mx with
          | none => match x with
            | .own k off => svp ((0 ≤ l ∧ l ≤ h ∧ h ≤ len) ∧ off + len * (ti e).size ≤ (own k).N ∧ len ≤ 1000000) (.os k (ti e).size (offA lo l (ti e).size off) (lenN lo l h))
            | .ref N g => svp ((0 ≤ l ∧ l ≤ h ∧ h ≤ len) ∧ len * (ti e).size ≤ N ∧ len ≤ 1000000) (.sl (lenN lo l h) (ti e).size (shiftA lo l (ti e).size g))
            | _ => .no
          | _ => .no
    | _ => .no

/-- The bounds are worked out first. -/
def sliceN (ti : Nat → TI) (own : Nat → OB) (d : TD) (x : AV) (lo hi mx : Option AV) : SR :=
  match lo with
  | none => sliceA ti own d x none hi mx
  | some v => match v with
    | .int k i => sliceA ti own d x (some (.int k i)) hi mx
    | _ => .no
theorem sliceN_pure {ti : Nat → TI} {own : Nat → OB} {d : TD} {x : AV} {lo hi mx : Option AV} {Q : AV → Prop} (h : (sliceA ti own d x lo hi mx).pure Q) : (sliceN ti own d x lo hi mx).pure Q := by
  unfold sliceN
  split
  · exact h
  · split
    · exact h
    · trivial
theorem lenN_none (l h : Int) : lenN none l h = h.toNat := rfl
theorem lenN_some (v : AV) (l h : Int) : lenN (some v) l h = (h - l).toNat := rfl
theorem offA_none (l : Int) (sz off : Nat) : offA none l sz off = off := rfl
theorem offA_some (v : AV) (l : Int) (sz off : Nat) : offA (some v) l sz off = off + mulN l.toNat sz := rfl
theorem shiftA_none (l : Int) (sz : Nat) (g : Nat → AV) : shiftA none l sz g = g := rfl
theorem shiftA_some (v : AV) (l : Int) (sz : Nat) (g : Nat → AV) : shiftA (some v) l sz g = fun j => g (mulN l.toNat sz + j) := rfl

section
variable {P : Program} {w : World} {σ : Nat → Option Nat} {Im : Nat → Prop}
theorem build_sound {cx : Cx} (hcx : cx.ok P) {t : Nat} {parts : List (Nat × AV)} {vals : Array (Nat × Value)} (hp : Two (fun p q => p.1 = q.1 ∧ Rd w σ Im p.2 q.2) parts vals.toList) :
    (buildA cx.ti (cx.ti t) parts).pure fun r => Pure1 P w σ Im (Instr.build t vals) r := by
  unfold buildA
  split
  case h_3 => trivial
  case h_1 fs hd =>
    obtain ⟨desc, i, z, hu, hd', hi, hs, hb, hz, hzc, hzs, h1, _⟩ := (hcx.ti t (by rw [hd]; intro h; cases h)).ex
    rw [hd] at hd'
    obtain ⟨gs, rfl, rfl⟩ := tdOf_struct hd'
    split
    · trivial
    rename_i hpl
    split
    case h_2 => trivial
    rename_i l hl
    refine ⟨rfl, rfl, fun _ => ?_⟩
    obtain ⟨out, ho, hr⟩ := fill_sound _ _ _ _ z.cells _ hp (zero_rd _ h1 _ hzc) hl
    refine pure_of (v := .agg out) (run_build w t vals out ?_) (.agg _ _ hr.1 hr.2.1 hr.2.2)
    have hplaces : gs.toList.mapM (fun f => (P.info? f.type).map fun i => (f.offset, i.size)) = some (gs.toList.map fun f => (f.offset, (cx.ti f.type).size)) := by
      have hall : ∀ f ∈ gs.toList, (cx.ti f.type).d ≠ .other := fun f hf => by
        unfold placesA at hpl
        have := List.all_eq_true.1 hpl (f.offset, f.type) (List.mem_map.2 ⟨f, hf, rfl⟩)
        intro hc
        simp only [hc] at this
        cases this
      clear hpl hl ho
      generalize gs.toList = L at hall
      induction L with
      | nil => rfl
      | cons f L ih =>
        obtain ⟨_, i', _, _, _, hi', hs', _⟩ := (hcx.ti f.type (hall f (by simp))).ex
        rw [List.mapM_cons, ih fun g hg => hall g (by simp [hg])]
        simp [hi', hs']
    unfold Program.built
    simp only [hi, hu, hz, hplaces]
    rw [← ho]
    congr 1
    funext j
    simp only [List.getElem?_map, List.getElem?_toArray]
    cases gs.toList[j]? <;> rfl
  case h_2 n e hd =>
    obtain ⟨desc, i, z, hu, hd', hi, hs, hb, hz, hzc, hzs, h1, _⟩ := (hcx.ti t (by rw [hd]; intro h; cases h)).ex
    rw [hd] at hd'
    have := tdOf_arr hd'
    subst this
    split
    · trivial
    rename_i hne
    obtain ⟨_, i', _, _, _, hi', hs', _⟩ := (hcx.ti e hne).ex
    split
    case h_2 => trivial
    rename_i l hl
    refine ⟨rfl, rfl, fun _ => ?_⟩
    obtain ⟨out, ho, hr⟩ := fill_sound _ _ _ _ z.cells _ hp (zero_rd _ h1 _ hzc) hl
    refine pure_of (v := .agg out) (run_build w t vals out ?_) (.agg _ _ hr.1 hr.2.1 hr.2.2)
    unfold Program.built
    simp only [hi, hu, hz, hi', hs']
    exact ho

/-- A bound that is there or not. -/
def OptRd (w : World) (σ : Nat → Option Nat) (Im : Nat → Prop) (a : Option AV) (v : Option Value) : Prop :=
  match a, v with
  | none, none => True
  | some a, some v => Rd w σ Im a v
  | _, _ => False
theorem low_inv {lo : Option AV} {low : Option Value} {l : Int} (h : OptRd w σ Im lo low) (hl : lowA lo = some l) : (lo = none ∧ low = none ∧ l = 0) ∨ ∃ a k, lo = some a ∧ low = some (.int k l) := by
  cases lo with
  | none => cases low with
    | none => cases hl; exact .inl ⟨rfl, rfl, rfl⟩
    | some _ => exact h.elim
  | some a => cases low with
    | none => exact h.elim
    | some v =>
      cases a <;> first | (cases hl; done) | skip
      rename_i k n
      cases hl
      have := Rd.inv_int (w := w) (σ := σ) (Im := Im) h
      subst this
      exact .inr ⟨_, k, rfl, rfl⟩
theorem hi_inv {n : Nat} {hi : Option AV} {high : Option Value} {l : Int} (h : OptRd w σ Im hi high) (hl : hiA n hi = some l) : (hi = none ∧ high = none ∧ l = n) ∨ ∃ a k, hi = some a ∧ high = some (.int k l) := by
  cases hi with
  | none => cases high with
    | none => cases hl; exact .inl ⟨rfl, rfl, rfl⟩
    | some _ => exact h.elim
  | some a => cases high with
    | none => exact h.elim
    | some v =>
      cases a <;> first | (cases hl; done) | skip
      rename_i k n
      cases hl
      have := Rd.inv_int (w := w) (σ := σ) (Im := Im) h
      subst this
      exact .inr ⟨_, k, rfl, rfl⟩
theorem bound_run (k : IntKind) (i : Int) (y : Nat) (c : BoundsCode) (h0 : 0 ≤ i) (h1 : i ≤ y) : (Instr.sliceBound (.int k i) y c).run P w = .ok i.toNat w := by
  simp [Instr.sliceBound, asIntOf, h0, h1]
theorem bounds_run (isS : Bool) (n c : Nat) {lo hi : Option AV} {low high : Option Value} {l h : Int} (hl : OptRd w σ Im lo low) (hh : OptRd w σ Im hi high) (el : lowA lo = some l) (eh : hiA n hi = some h) (h0 : 0 ≤ l) (h1 : l ≤ h) (h2 : h ≤ n) (h3 : n ≤ c) :
    (Instr.sliceBounds isS n c low high none).run P w = .ok (l.toNat, h.toNat, c) w := by
  unfold Instr.sliceBounds
  rcases low_inv hl el with ⟨_, rfl, rfl⟩ | ⟨_, k, _, rfl⟩ <;> rcases hi_inv hh eh with ⟨_, rfl, rfl⟩ | ⟨_, k', _, rfl⟩
  · simp
  · simp [bound_run k' h c _ (by omega) (by omega)]
  · simp [bound_run k l n _ h0 (by omega)]
  · simp [bound_run k' h c _ (by omega) (by omega), bound_run k l h.toNat _ h0 (by omega)]
theorem bounds_run3 (n c : Nat) {lo hi : Option AV} {low high : Option Value} {l h m : Int} (km : IntKind) (hl : OptRd w σ Im lo low) (hh : OptRd w σ Im hi high) (el : lowA lo = some l) (eh : hiA n hi = some h) (hs : hi.isSome = true) (h0 : 0 ≤ l) (h1 : l ≤ h) (h2 : h ≤ m) (h3 : m ≤ n) (h4 : n ≤ c) :
    (Instr.sliceBounds true n c low high (some (.int km m))).run P w = .ok (l.toNat, h.toNat, m.toNat) w := by
  unfold Instr.sliceBounds
  rcases low_inv hl el with ⟨_, rfl, rfl⟩ | ⟨_, k, _, rfl⟩ <;> rcases hi_inv hh eh with ⟨rfl, _, _⟩ | ⟨_, k', _, rfl⟩
  · cases hs
  · simp [bound_run km m c _ (by omega) (by omega), bound_run k' h m.toNat _ (by omega) (by omega)]
  · cases hs
  · simp [bound_run km m c _ (by omega) (by omega), bound_run k' h m.toNat _ (by omega) (by omega), bound_run k l h.toNat _ h0 (by omega)]
theorem lenN_eq {lo : Option AV} {l h : Int} (el : lowA lo = some l) : lenN lo l h = (h - l).toNat := by
  cases lo with
  | none => cases el; simp [lenN]
  | some _ => rfl
theorem shiftA_eq {lo : Option AV} {l : Int} (el : lowA lo = some l) (sz : Nat) (g : Nat → AV) : shiftA lo l sz g = fun j => g (l.toNat * sz + j) := by
  cases lo with
  | none => cases el; funext j; simp [shiftA]
  | some _ => funext j; simp [shiftA, mulN_eq]
theorem offA_eq {lo : Option AV} {l : Int} (el : lowA lo = some l) (sz off : Nat) : offA lo l sz off = off + l.toNat * sz := by
  cases lo with
  | none => cases el; simp [offA]
  | some _ => simp [offA, mulN_eq]
/-- A piece of a slice that nobody writes. -/
theorem Rd.piece {n sz : Nat} {g : Nat → AV} {b off : Nat} {U : Nat → Value} (him : Im b) (hc : ∀ j, j < n * sz → w.cell? ⟨b, off + j, none⟩ = some (U j)) (hu : ∀ j, j < n * sz → (U j).oneCell' = true) (hr : ∀ j, j < n * sz → Rd w (fun _ => none) Im (g j) (U j))
    {l h m cap : Nat} (h1 : l ≤ h) (h2 : h ≤ n) (h3 : h ≤ m) (h4 : m ≤ cap) (h5 : cap ≤ maxLen) :
    Rd w σ Im (.sl (h - l) sz fun j => g (l * sz + j)) (.slice (if m = l then some ⟨b, off, none⟩ else some ((⟨b, off, none⟩ : Addr).add (l * sz))) (h - l) (m - l)) := by
  by_cases hm : m = l
  · rw [if_pos hm]
    have : h - l = 0 := by omega
    rw [this]
    exact .sl0 _ _ _ _ (by omega)
  · rw [if_neg hm, add_addr]
    have hle : l * sz + (h - l) * sz ≤ n * sz := by rw [← Nat.add_mul]; exact Nat.mul_le_mul_right _ (by omega)
    exact .sl _ _ _ _ _ _ (fun j => U (l * sz + j)) him (by omega) (by omega) (fun j hj => by rw [Nat.add_assoc]; exact hc _ (by omega)) (fun j hj => hu _ (by omega)) (fun j hj => hr _ (by omega))
theorem Rd.cut {k sz off b : Nat} (hb : σ k = some b) {l h n cap : Nat} (h1 : l ≤ h) (h2 : h ≤ n) (h3 : n ≤ cap) (h4 : cap ≤ maxLen) (hf : off + cap * sz ≤ blen w b) :
    Rd w σ Im (.os k sz (off + l * sz) (h - l)) (.slice (if cap = l then some ⟨b, off, none⟩ else some ((⟨b, off, none⟩ : Addr).add (l * sz))) (h - l) (cap - l)) := by
  by_cases hm : cap = l
  · rw [if_pos hm]
    have e1 : h - l = 0 := by omega
    have e2 : cap - l = 0 := by omega
    rw [e1, e2]
    exact .os0 _ _ _ _
  · rw [if_neg hm, add_addr]
    have hle : l * sz + (cap - l) * sz = cap * sz := by rw [← Nat.add_mul]; congr 1; omega
    exact .os _ _ _ _ _ _ hb (by omega) (by omega) (by omega)

theorem held_blen {own : Nat → OB} {w0 : St0} (hS : Sat w0 w σ Im own) {k b : Nat} (hb : σ k = some b) (h0 : 0 < (own k).N) : (own k).N ≤ blen w b := by
  have hl : (own k).live := by
    cases ho : own k <;> simp [ho, OB.N, OB.live] at h0 ⊢
  rcases hS.held k hl with e | ⟨b', e1, _, _, e4⟩
  · omega
  · rw [hb] at e1; cases e1; exact e4.1
theorem toNat_sub' {l h : Int} (h0 : 0 ≤ l) (h1 : l ≤ h) : (h - l).toNat = h.toNat - l.toNat := by omega
theorem maxLen_big : 1000000 ≤ maxLen := by unfold maxLen; omega
theorem slice_sound {cx : Cx} (hcx : cx.ok P) {own : Nat → OB} {w0 : St0} (hS : Sat w0 w σ Im own) {t : Nat} {x : AV} {X : Value} {lo hi mx : Option AV} {low high max : Option Value} (hx : Rd w σ Im x X) (hl : OptRd w σ Im lo low) (hh : OptRd w σ Im hi high) (hm : OptRd w σ Im mx max) :
    (sliceA cx.ti own (cx.ti t).d x lo hi mx).pure fun r => Pure1 P w σ Im (Instr.sliceAt t X low high max) r := by
  unfold sliceA
  split
  case h_1 => trivial
  case h_2 l el =>
  split
  case h_4 => trivial
  case h_1 hd =>
    obtain ⟨desc, _, _, hu, hd', _⟩ := (hcx.ti t (by rw [hd]; intro h; cases h)).ex
    rw [hd] at hd'
    have := tdOf_str hd'
    subst this
    split
    case h_2 => trivial
    rename_i s
    have := hx.inv_str
    subst this
    split
    case h_2 => trivial
    split
    case h_2 => trivial
    rename_i h eh
    cases max with
    | some _ => exact hm.elim
    | none =>
    refine ⟨rfl, rfl, fun hp => ?_⟩
    simp only [Option.getD_some] at hp
    obtain ⟨p0, p1, p2⟩ := hp
    have hb := bounds_run (P := P) false s.size s.size hl hh el eh p0 p1 p2 (Nat.le_refl _)
    refine pure_of (v := .string (s.extract l.toNat h.toNat)) ?_ (.str _)
    simp [Instr.sliceAt, Instr.slice, run_underlying hu, hb]
  case h_2 e hd =>
    obtain ⟨desc, _, _, hu, hd', _⟩ := (hcx.ti t (by rw [hd]; intro h; cases h)).ex
    rw [hd] at hd'
    have := tdOf_sl hd'
    subst this
    split
    · trivial
    rename_i hne
    obtain ⟨_, i', _, _, _, hi', hs', _⟩ := (hcx.ti e hne).ex
    split
    case h_4 => trivial
    case h_1 n sz g =>
      split
      · trivial
      rename_i hsz
      have hsz := Nat.eq_of_beq_eq_true hsz
      split
      · trivial
      rename_i h eh
      split
      case h_3 => trivial
      case h_1 =>
        cases max with
        | some _ => exact hm.elim
        | none =>
        refine ⟨rfl, rfl, fun hp => ?_⟩
        simp only [Option.getD_some] at hp
        obtain ⟨p0, p1, p2⟩ := hp
        rw [lenN_eq el, shiftA_eq el, toNat_sub' p0 p1]
        rcases hx.inv_sl with ⟨rfl, a, cap, rfl, hcap⟩ | ⟨b, off, cap, U, rfl, him, h1, h2, hc, hu1, hr⟩
        · have hb := bounds_run (P := P) true 0 cap hl hh el eh p0 p1 p2 (Nat.zero_le _)
          have l0 : l = 0 := by omega
          have h0 : h = 0 := by omega
          subst l0 h0
          refine pure_of (v := .slice (if cap = 0 then a else a.map (·.add (0 * i'.size))) 0 cap) ?_ (.sl0 _ _ _ _ hcap)
          simp [Instr.sliceAt, Instr.slice, run_underlying hu, hb, sizeOf, typeInfo, hi']
        · have hb := bounds_run (P := P) true n cap hl hh el eh p0 p1 p2 h1
          refine pure_of (v := .slice (if cap = l.toNat then some ⟨b, off, none⟩ else some ((⟨b, off, none⟩ : Addr).add (l.toNat * sz))) (h.toNat - l.toNat) (cap - l.toNat)) ?_ ?_
          · simp [Instr.sliceAt, Instr.slice, run_underlying hu, hb, sizeOf, typeInfo, hi', hs', ← hsz]
          · exact Rd.piece (m := cap) him hc hu1 hr (by omega) (by omega) (by omega) (Nat.le_refl _) h2
      case h_2 km m =>
        cases max with
        | none => exact hm.elim
        | some mv =>
        split
        case h_2 => trivial
        rename_i hs
        have := Rd.inv_int (w := w) (σ := σ) (Im := Im) hm
        subst this
        refine ⟨rfl, rfl, fun hp => ?_⟩
        simp only [Option.getD_some] at hp
        obtain ⟨p0, p1, p2, p3⟩ := hp
        rw [lenN_eq el, shiftA_eq el, toNat_sub' p0 p1]
        rcases hx.inv_sl with ⟨rfl, a, cap, rfl, hcap⟩ | ⟨b, off, cap, U, rfl, him, h1, h2, hc, hu1, hr⟩
        · have hb := bounds_run3 (P := P) 0 cap km hl hh el eh rfl p0 p1 p2 p3 (Nat.zero_le _)
          have l0 : l = 0 := by omega
          have h0 : h = 0 := by omega
          have m0 : m = 0 := by omega
          subst l0 h0 m0
          refine pure_of (v := .slice a 0 0) ?_ (.sl0 _ _ _ _ (Nat.zero_le _))
          simp [Instr.sliceAt, Instr.slice, run_underlying hu, hb, sizeOf, typeInfo, hi']
        · have hb := bounds_run3 (P := P) n cap km hl hh el eh rfl p0 p1 p2 p3 h1
          refine pure_of (v := .slice (if m.toNat = l.toNat then some ⟨b, off, none⟩ else some ((⟨b, off, none⟩ : Addr).add (l.toNat * sz))) (h.toNat - l.toNat) (m.toNat - l.toNat)) ?_ ?_
          · simp [Instr.sliceAt, Instr.slice, run_underlying hu, hb, sizeOf, typeInfo, hi', hs', ← hsz]
          · exact Rd.piece (m := m.toNat) (cap := m.toNat) him hc hu1 hr (by omega) (by omega) (by omega) (Nat.le_refl _) (by omega)
    case h_2 k sz off n =>
      split
      · trivial
      rename_i hsz
      have hsz := Nat.eq_of_beq_eq_true hsz
      split
      · trivial
      rename_i h eh
      split
      case h_2 => trivial
      cases max with
      | some _ => exact hm.elim
      | none =>
      refine ⟨rfl, rfl, fun hp => ?_⟩
      simp only [Option.getD_some] at hp
      obtain ⟨p0, p1, p2⟩ := hp
      rw [lenN_eq el, offA_eq el, toNat_sub' p0 p1]
      rcases hx.inv_os with ⟨rfl, a, rfl⟩ | ⟨b, cap, rfl, hb', h1, h2, h3⟩
      · have hb := bounds_run (P := P) true 0 0 hl hh el eh p0 p1 p2 (Nat.zero_le _)
        have l0 : l = 0 := by omega
        have h0 : h = 0 := by omega
        subst l0 h0
        refine pure_of (v := .slice a 0 0) ?_ (.os0 _ _ _ _)
        simp [Instr.sliceAt, Instr.slice, run_underlying hu, hb, sizeOf, typeInfo, hi']
      · have hb := bounds_run (P := P) true n cap hl hh el eh p0 p1 p2 h1
        refine pure_of (v := .slice (if cap = l.toNat then some ⟨b, off, none⟩ else some ((⟨b, off, none⟩ : Addr).add (l.toNat * sz))) (h.toNat - l.toNat) (cap - l.toNat)) ?_ ?_
        · simp [Instr.sliceAt, Instr.slice, run_underlying hu, hb, sizeOf, typeInfo, hi', hs', ← hsz]
        · exact Rd.cut hb' (by omega) (by omega) h1 h2 h3
    case h_3 =>
      split
      · trivial
      rename_i h eh
      split
      case h_2 => trivial
      cases max with
      | some _ => exact hm.elim
      | none =>
      have := hx.inv_nils
      subst this
      refine ⟨rfl, rfl, fun hp => ?_⟩
      simp only [Option.getD_some] at hp
      obtain ⟨rfl, rfl⟩ := hp
      have hb := bounds_run (P := P) true 0 0 hl hh el eh (Int.le_refl _) (Int.le_refl _) (Int.le_refl _) (Nat.zero_le _)
      refine pure_of (v := .slice none 0 0) ?_ .nils
      simp [Instr.sliceAt, Instr.slice, run_underlying hu, hb, sizeOf, typeInfo, hi']
  case h_3 len e hd =>
    obtain ⟨desc, _, _, hu, hd', _⟩ := (hcx.ti t (by rw [hd]; intro h; cases h)).ex
    rw [hd] at hd'
    have := tdOf_arr hd'
    subst this
    split
    · trivial
    rename_i hne
    obtain ⟨_, i', _, _, _, hi', hs', _⟩ := (hcx.ti e hne).ex
    split
    · trivial
    rename_i h eh
    split
    case h_2 => trivial
    cases max with
    | some _ => exact hm.elim
    | none =>
    split
    case h_3 => trivial
    case h_1 k off =>
      refine ⟨rfl, rfl, fun hp => ?_⟩
      simp only [Option.getD_some] at hp
      obtain ⟨⟨p0, p1, p2⟩, p3, p4⟩ := hp
      obtain ⟨b, rfl, hb'⟩ := hx.inv_own
      rw [lenN_eq el, offA_eq el, toNat_sub' p0 p1]
      have hb := bounds_run (P := P) false len len hl hh el eh p0 p1 p2 (Nat.le_refl _)
      refine pure_of (v := .slice (if len = l.toNat then some ⟨b, off, none⟩ else some ((⟨b, off, none⟩ : Addr).add (l.toNat * (cx.ti e).size))) (h.toNat - l.toNat) (len - l.toNat)) ?_ ?_
      · simp [Instr.sliceAt, run_underlying hu, hb, sizeOf, typeInfo, hi', hs', Instr.sureAddr]
        split <;> rfl
      · by_cases hN : 0 < (own k).N
        · exact Rd.cut hb' (by omega) (by omega) (Nat.le_refl _) (by have := maxLen_big; omega) (by have := held_blen hS hb' hN; omega)
        · have z1 : off = 0 := by omega
          have z2 : len * (cx.ti e).size = 0 := by omega
          exact Rd.cut hb' (by omega) (by omega) (Nat.le_refl _) (by have := maxLen_big; omega) (by omega)
    case h_2 N g =>
      refine ⟨rfl, rfl, fun hp => ?_⟩
      simp only [Option.getD_some] at hp
      obtain ⟨⟨p0, p1, p2⟩, p3, p4⟩ := hp
      obtain ⟨b, off, U, rfl, him, hc, hu1, hr⟩ := hx.inv_ref
      rw [lenN_eq el, shiftA_eq el, toNat_sub' p0 p1]
      have hb := bounds_run (P := P) false len len hl hh el eh p0 p1 p2 (Nat.le_refl _)
      refine pure_of (v := .slice (if len = l.toNat then some ⟨b, off, none⟩ else some ((⟨b, off, none⟩ : Addr).add (l.toNat * (cx.ti e).size))) (h.toNat - l.toNat) (len - l.toNat)) ?_ ?_
      · simp [Instr.sliceAt, run_underlying hu, hb, sizeOf, typeInfo, hi', hs', Instr.sureAddr]
        split <;> rfl
      · exact Rd.piece (n := len) (m := len) him (fun j hj => hc j (by omega)) (fun j hj => hu1 j (by omega)) (fun j hj => hr j (by omega)) (by omega) (by omega) (by omega) (Nat.le_refl _) (by have := maxLen_big; omega)
end
end Ev
end Go.Proofs.YtphdjmaebdmdmaaGreatDoor
