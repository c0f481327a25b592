/- The abstract machine's slices, lengths, parts of values, values that are put together. -/
import Derived.Test.YtphdjmaebdmdmaaGreatDoorEvAdr
namespace Go.Proofs.YtphdjmaebdmdmaaGreatDoor
open Go.RowKit
set_option linter.unusedVariables false
set_option linter.unusedSimpArgs false
namespace Ev

def ofV0 : Value → AV
  | .int k n => .int k n
  | .bool b => .bool b
  | .float .f64 b => bif Nat.ble (b % 9223372036854775808) 9218868437227405312 then .flt b else .any
  | .complex .f64 a b => bif Nat.ble (a % 9223372036854775808) 9218868437227405312 then (bif Nat.ble (b % 9223372036854775808) 9218868437227405312 then .cpx a b else .any) else .any
  | .string s => .str s
  | .pointer none => .nilp
  | .slice none 0 0 => .nils
  | .nilFunc => .nilf
  | .nilIface => .nili
  | _ => .any
def ofV : Value → AV
  | .agg cs => match cs.toList.all (·.oneCell') with
    | true => .agg (cs.toList.map ofV0)
    | false => .any
  | .tuple cs => match cs.toList with | [] => .tup [] | _ => .any
  | v => ofV0 v
def isOne : AV → Bool
  | .int _ _ | .bool _ | .flt _ | .cpx _ _ | .str _ | .nilp | .nils | .nilf | .nili | .ifc _ _ | .own _ _ | .os _ _ _ _ | .ref _ _ | .sl _ _ _ | .fn _ _ => true
  | _ => false
/-- The cells of a value. -/
def cellsA (v : AV) : Option (List AV) :=
  match v with
  | .agg l => some l
  | v => match isOne v with
    | true => some [v]
    | false => none
def putA (cells : List AV) (off : Nat) (vs : List AV) : List AV := cells.take off ++ (vs ++ cells.drop (off + vs.length))
def fillA (place : Nat → Option (Nat × Nat)) (cells : List AV) : List (Nat × AV) → Option (List AV)
  | [] => some cells
  | (i, v) :: rest => match place i with
    | none => none
    | some (off, size) => match cellsA v with
      | none => none
      | some vs => match Nat.beq vs.length size with
        | false => none
        | true => match Nat.ble (off + vs.length) cells.length with
          | false => none
          | true => fillA place (putA cells off vs) rest
def placesA (ti : Nat → TI) (fs : List (Nat × Nat)) : Bool := fs.all fun p => match (ti p.2).d with | .other => false | _ => true
def buildA (ti : Nat → TI) (t : TI) (parts : List (Nat × AV)) : SR :=
  match t.d with
  | .struct fs => match placesA ti fs with
    | false => .no
    | true => match fillA (fun i => match fs[i]? with | some (off, u) => some (off, (ti u).size) | none => none) (t.zero.map ofV0) parts with
      | some l => sv (.agg l)
      | none => .no
  | .arr _ e => match (ti e).d with
    | .other => .no
    | _ => match fillA (fun i => some (i * (ti e).size, (ti e).size)) (t.zero.map ofV0) parts with
      | some l => sv (.agg l)
      | none => .no
  | _ => .no
def fieldvA (ti : Nat → TI) (d : TD) (x : AV) (f : Nat) : SR :=
  match d with
  | .struct fs => match fs[f]? with
    | some (off, t) => match (ti t).d with
      | .other => .no
      | _ => match x with
        | .agg l => partA (ti t) l off
        | _ => .no
    | none => .no
  | _ => .no
def extractA (x : AV) (i : Nat) : SR :=
  match x with
  | .tup l => match l[i]? with
    | some v => sv v
    | none => .no
  | _ => .no
def byteAt (s : ByteArray) (i : Nat) : Int := ((s.data[i]?).getD 0).toNat
def indexA (ti : Nat → TI) (d : TD) (x ix : AV) : SR :=
  match ix with
  | .int _ i => match d with
    | .str => match x with
      | .str s => svp (0 ≤ i ∧ i < s.size) (.int .u8 (byteAt s i.toNat))
      | _ => .no
    | .arr len e => match (ti e).d with
      | .other => .no
      | _ => match x with
        | .agg l => match decide (0 ≤ i ∧ i < len) with
          | true => partA (ti e) l (i.toNat * (ti e).size)
          | false => .no
        | _ => .no
    | _ => .no
  | _ => .no
def lenA (d : TD) (x : AV) : SR :=
  match d with
  | .str => match x with
    | .str s => sv (.int .i64 s.size)
    | _ => .no
  | .sl _ => match x with
    | .sl n _ _ => sv (.int .i64 n)
    | .os _ _ _ n => sv (.int .i64 n)
    | .nils => sv (.int .i64 0)
    | _ => .no
  | .arr n _ => sv (.int .i64 n)
  | _ => .no

section
variable {P : Program} {w : World} {σ : Nat → Option Nat} {Im : Nat → Prop}
theorem isN_small {b : Nat} (h : b % 9223372036854775808 ≤ 9218868437227405312) : isN b = false := by
  have hs : Ieee.double.signWeight = 9223372036854775808 := by decide +kernel
  have hi : Ieee.double.infRung = 9218868437227405312 := by decide +kernel
  unfold isN Ieee.Format.read
  simp only [hs, hi]
  split
  · rfl
  · split
    · rfl
    · split
      · rfl
      · omega
theorem cn_small {b : Nat} (h : Nat.ble (b % 9223372036854775808) 9218868437227405312 = true) : cn b = b := by
  unfold cn; rw [isN_small (Nat.le_of_ble_eq_true h)]; rfl
theorem ofV0_rd (v : Value) : Rd w σ Im (ofV0 v) v := by
  unfold ofV0
  split
  · exact .int _ _
  · exact .bool _
  · rename_i b
    cases h : Nat.ble (b % 9223372036854775808) 9218868437227405312 with
    | true => exact .flt _ _ (cn_small h)
    | false => exact .any _
  · rename_i a b
    cases h : Nat.ble (a % 9223372036854775808) 9218868437227405312 with
    | true =>
      cases h' : Nat.ble (b % 9223372036854775808) 9218868437227405312 with
      | true => exact .cpx _ _ _ _ (cn_small h) (cn_small h')
      | false => exact .any _
    | false => exact .any _
  · exact .str _
  · exact .nilp
  · exact .nils
  · exact .nilf
  · exact .nili
  · exact .any _
theorem one_rd {v : AV} {V : Value} (h : isOne v = true) (hr : Rd w σ Im v V) : V.oneCell' = true ∧ V.cells = #[V] := by
  cases hr <;> first | exact ⟨rfl, rfl⟩ | cases h
/-- The cells of a value, one by one. -/
def RdL (w : World) (σ : Nat → Option Nat) (Im : Nat → Prop) (l : List AV) (cs : Array Value) : Prop :=
  cs.size = l.length ∧ (∀ i, i < l.length → (cs.getD i undef).oneCell' = true) ∧ ∀ i, i < l.length → Rd w σ Im (l.getD i .any) (cs.getD i undef)
theorem cells_rd {v : AV} {V : Value} {l : List AV} (h : cellsA v = some l) (hr : Rd w σ Im v V) : RdL w σ Im l V.cells := by
  unfold cellsA at h
  split at h
  · cases h
    obtain ⟨cs, rfl, h1, h2, h3⟩ := hr.inv_agg
    exact ⟨h1, h2, h3⟩
  · split at h
    · rename_i hone
      cases h
      obtain ⟨h1, h2⟩ := one_rd hone hr
      rw [h2]
      refine ⟨rfl, fun i hi => ?_, fun i hi => ?_⟩
      · have : i = 0 := by simp at hi; omega
        subst this; exact h1
      · have : i = 0 := by simp at hi; omega
        subst this; exact hr
    · cases h
theorem zero_rd (l : List Value) (h1 : ∀ v ∈ l, v.oneCell' = true) (cs : Array Value) (hc : cs.toList = l) : RdL w σ Im (l.map ofV0) cs := by
  subst hc
  refine ⟨by simp, fun i hi => ?_, fun i hi => ?_⟩
  · have hlt : i < cs.size := by simpa using hi
    have : cs.getD i undef = cs[i] := by simp [hlt]
    rw [this]
    exact h1 _ (by simp)
  · have hlt : i < cs.size := by simpa using hi
    have e1 : cs.getD i undef = cs[i] := by simp [hlt]
    have e2 : (cs.toList.map ofV0).getD i .any = ofV0 cs[i] := by simp [List.getD, hlt]
    rw [e1, e2]
    exact ofV0_rd _

theorem ofV_rd (v : Value) : Rd w σ Im (ofV v) v := by
  unfold ofV
  split
  · rename_i cs
    split
    · rename_i h
      have := zero_rd (w := w) (σ := σ) (Im := Im) cs.toList (fun v hv => List.all_eq_true.1 h v hv) cs rfl
      exact .agg _ _ this.1 this.2.1 this.2.2
    · exact .any _
  · rename_i cs
    split
    · rename_i h
      have : cs = #[] := by cases cs; simp at h; subst h; rfl
      subst this
      exact .tup _ _ rfl fun i hi => by simp at hi
    · exact .any _
  · exact ofV0_rd v
theorem fold_set (off : Nat) : ∀ (vs : List Value) (j : Nat) (cells : Array Value), ((vs.zipIdx j).foldl (fun cs (p : Value × Nat) => cs.setIfInBounds (off + p.2) p.1) cells).size = cells.size := by
  intro vs
  induction vs with
  | nil => intro j cells; rfl
  | cons v r ih => intro j cells; simp only [List.zipIdx_cons, List.foldl_cons]; rw [ih]; simp
theorem fold_get (off : Nat) : ∀ (vs : List Value) (j : Nat) (cells : Array Value) (i : Nat), off + j + vs.length ≤ cells.size → i < cells.size →
    ((vs.zipIdx j).foldl (fun cs (p : Value × Nat) => cs.setIfInBounds (off + p.2) p.1) cells).getD i undef = if off + j ≤ i ∧ i < off + j + vs.length then vs.getD (i - (off + j)) undef else cells.getD i undef := by
  intro vs
  induction vs with
  | nil => intro j cells i _ _; simp; omega
  | cons v r ih =>
    intro j cells i hfit hi
    simp only [List.zipIdx_cons, List.foldl_cons]
    simp only [List.length_cons] at hfit
    rw [ih (j + 1) _ i (by simp; omega) (by simpa using hi)]
    by_cases h1 : off + (j + 1) ≤ i ∧ i < off + (j + 1) + r.length
    · rw [if_pos h1, if_pos (by simp; omega)]
      have : i - (off + j) = (i - (off + (j + 1))) + 1 := by omega
      rw [this]; simp
    · rw [if_neg h1]
      by_cases h2 : i = off + j
      · subst h2
        rw [if_pos (by simp)]
        have : off + j < cells.size := hi
        simp [this]
      · rw [if_neg (by simp; omega)]
        simp [Array.getElem?_setIfInBounds, Ne.symm h2]
theorem putA_length (cells : List AV) (off : Nat) (vs : List AV) (h : off + vs.length ≤ cells.length) : (putA cells off vs).length = cells.length := by
  simp [putA]; omega
theorem putA_get (cells : List AV) (off : Nat) (vs : List AV) (h : off + vs.length ≤ cells.length) (i : Nat) : (putA cells off vs).getD i .any = if off ≤ i ∧ i < off + vs.length then vs.getD (i - off) .any else cells.getD i .any := by
  unfold putA
  simp only [List.getD_eq_getElem?_getD]
  by_cases h1 : i < off
  · rw [if_neg (by omega), List.getElem?_append_left (by simp; omega), List.getElem?_take, if_pos h1]
  · rw [List.getElem?_append_right (by simp; omega)]
    have e : i - (List.take off cells).length = i - off := by simp; omega
    rw [e]
    by_cases h2 : i < off + vs.length
    · rw [if_pos ⟨by omega, h2⟩, List.getElem?_append_left (by omega)]
    · rw [if_neg (by omega), List.getElem?_append_right (by omega), List.getElem?_drop]
      congr 2; omega
theorem RdL.put {cells : List AV} {CS : Array Value} (h : RdL w σ Im cells CS) {vs : List AV} {VS : Array Value} (hv : RdL w σ Im vs VS) {off : Nat} (hfit : off + vs.length ≤ cells.length) :
    RdL w σ Im (putA cells off vs) (VS.zipIdx.foldl (fun cs (c, j) => cs.setIfInBounds (off + j) c) CS) := by
  have e : VS.zipIdx.foldl (fun cs (c, j) => cs.setIfInBounds (off + j) c) CS = (VS.toList.zipIdx 0).foldl (fun cs (p : Value × Nat) => cs.setIfInBounds (off + p.2) p.1) CS := by
    rw [← Array.foldl_toList]; simp
  rw [e]
  have hsz : CS.size = cells.length := h.1
  have hvs : VS.toList.length = vs.length := by rw [Array.length_toList]; exact hv.1
  have hget : ∀ i, i < cells.length → ((VS.toList.zipIdx 0).foldl (fun cs (p : Value × Nat) => cs.setIfInBounds (off + p.2) p.1) CS).getD i undef = if off ≤ i ∧ i < off + vs.length then VS.getD (i - off) undef else CS.getD i undef := fun i hi => by
    have := fold_get off VS.toList 0 CS i (by omega) (by omega)
    rw [this, Nat.add_zero, hvs]
    split <;> simp [List.getD, Array.getD_eq_getD_getElem?]
  refine ⟨by rw [fold_set, putA_length _ _ _ hfit]; exact hsz, fun i hi => ?_, fun i hi => ?_⟩
  · rw [putA_length _ _ _ hfit] at hi
    rw [hget i hi]
    split
    · exact hv.2.1 _ (by omega)
    · exact h.2.1 _ hi
  · rw [putA_length _ _ _ hfit] at hi
    rw [hget i hi, putA_get _ _ _ hfit]
    split
    · exact hv.2.2 _ (by omega)
    · exact h.2.2 _ hi
inductive Two {α β : Type} (R : α → β → Prop) : List α → List β → Prop
  | nil : Two R [] []
  | cons {a b l m} (h : R a b) (t : Two R l m) : Two R (a :: l) (b :: m)
theorem fill_sound (place : Nat → Option (Nat × Nat)) : ∀ (parts : List (Nat × AV)) (vals : List (Nat × Value)) (cells : List AV) (CS : Array Value) (l : List AV),
    Two (fun p q => p.1 = q.1 ∧ Rd w σ Im p.2 q.2) parts vals → RdL w σ Im cells CS → fillA place cells parts = some l → ∃ out, Instr.fill place CS vals = some out ∧ RdL w σ Im l out := by
  intro parts
  induction parts with
  | nil => intro vals cells CS l hp hc h; cases hp; cases h; exact ⟨CS, rfl, hc⟩
  | cons p r ih =>
    intro vals cells CS l hp hc h
    cases hp
    rename_i q vals hpq hr
    obtain ⟨i, v⟩ := p
    obtain ⟨i', V⟩ := q
    obtain ⟨e, hv⟩ := hpq
    simp only at e hv
    subst e
    unfold fillA at h
    split at h
    · cases h
    rename_i off size hpl
    split at h
    · cases h
    rename_i vs hvs
    split at h
    · cases h
    rename_i hsz
    have hsz := Nat.eq_of_beq_eq_true hsz
    split at h
    · cases h
    rename_i hfit
    have hfit := Nat.le_of_ble_eq_true hfit
    have hV := cells_rd hvs hv
    obtain ⟨out, ho, hl⟩ := ih vals _ _ l hr (hc.put hV hfit) h
    refine ⟨out, ?_, hl⟩
    unfold Instr.fill
    rw [hpl]
    have a1 := hV.1
    have a2 := hc.1
    have h1 : (decide (V.cells.size ≠ size) || decide (off + V.cells.size > CS.size)) = false := by
      simp; omega
    simp only [h1]
    exact ho

theorem part_sound {t : Nat} {ti : TI} (ht : TIok P t ti) {l : List AV} {CS : Array Value} (h : RdL w σ Im l CS) (off : Nat) : (partA ti l off).pure fun r => Pure1 P w σ Im (part t CS off) r := by
  obtain ⟨desc, i, hu, hi, hs, hrow⟩ := oneCell_isAgg ht
  have hagg : (isAgg t).run P w = .ok desc.isRow w := by
    unfold isAgg
    rw [Sem.run_bind, run_underlying hu w]
    cases desc <;> rfl
  unfold partA
  cases hag : ti.d.isAgg with
  | true =>
    simp only [hag]
    split
    · rename_i hle
      have hle := Nat.le_of_ble_eq_true hle
      refine ⟨rfl, rfl, fun _ => pure_of (v := .agg (CS.extract off (off + ti.size))) ?_ ?_⟩
      · simp [part, Sem.run_bind, hagg, hrow, hag, sizeOf, typeInfo, hi, hs]
      · have hsz := h.1
        have hx : ∀ j, j < ti.size → (CS.extract off (off + ti.size)).getD j undef = CS.getD (off + j) undef := fun j hj => by
          simp only [Array.getD_eq_getD_getElem?, Array.getElem?_extract]
          rw [if_pos (by omega)]
        refine .agg _ _ ?_ (fun j hj => ?_) (fun j hj => ?_)
        · simp; omega
        · have hj : j < ti.size := by simp at hj; omega
          rw [hx j hj]; exact h.2.1 _ (by omega)
        · have hj : j < ti.size := by simp at hj; omega
          rw [hx j hj, getD_drop_take l off ti.size j hj hle]; exact h.2.2 _ (by omega)
    · trivial
  | false =>
    simp only [hag]
    split
    · rename_i v hv
      have hlt : off < l.length := by
        rcases Nat.lt_or_ge off l.length with h | h
        · exact h
        · rw [List.getElem?_eq_none h] at hv; cases hv
      have h3 := h.2.2 off hlt
      have hlt' : off < CS.size := by rw [h.1]; exact hlt
      rw [List.getD, hv] at h3
      refine ⟨rfl, rfl, fun _ => pure_of (v := CS.getD off undef) ?_ h3⟩
      simp [part, Sem.run_bind, hagg, hrow, hag, hlt']
    · trivial

theorem fieldv_sound {cx : Cx} (hcx : cx.ok P) {t : Nat} (f : Nat) {a : AV} {A : Value} (ha : Rd w σ Im a A) :
    (fieldvA cx.ti (cx.ti t).d a f).pure fun r => Pure1 P w σ Im (Instr.field t A f) r := by
  unfold fieldvA
  split
  case h_2 => trivial
  rename_i fs hfs
  obtain ⟨desc, i, z, hu, hd, _⟩ := (hcx.ti t (by rw [hfs]; intro h; cases h)).ex
  rw [hfs] at hd
  obtain ⟨gs, rfl, rfl⟩ := tdOf_struct hd
  split
  case h_2 => trivial
  rename_i off ft hf
  simp only [List.getElem?_map, Option.map_eq_some_iff] at hf
  obtain ⟨fd, hf, e⟩ := hf
  cases e
  split
  · trivial
  rename_i hne
  have hf' : gs[f]? = some fd := by simpa using hf
  split
  case h_2 => trivial
  rename_i l
  obtain ⟨cs, rfl, h1, h2, h3⟩ := ha.inv_agg
  have := part_sound (hcx.ti fd.type hne) (w := w) (σ := σ) (Im := Im) (l := l) (CS := cs) ⟨h1, h2, h3⟩ fd.offset
  have e : (Instr.field t (.agg cs) f).run P w = (part fd.type cs fd.offset).run P w := by
    simp [Instr.field, run_underlying hu, hf', asAgg]
  unfold Pure1 at this ⊢
  rw [e]
  exact this

theorem extract_sound (i : Nat) {a : AV} {A : Value} (ha : Rd w σ Im a A) : (extractA a i).pure fun r => Pure1 P w σ Im (Instr.extract A i) r := by
  unfold extractA
  split
  case h_2 => trivial
  split
  case h_2 => trivial
  rename_i l _ v hv
  obtain ⟨cs, rfl, h1, h2⟩ := ha.inv_tup
  have hlt : i < l.length := by
    rcases Nat.lt_or_ge i l.length with h | h
    · exact h
    · rw [List.getElem?_eq_none h] at hv; cases hv
  have h3 := h2 i hlt
  rw [List.getD, hv] at h3
  have hlt' : i < cs.size := by omega
  refine ⟨rfl, rfl, fun _ => pure_of (v := cs.getD i undef) ?_ h3⟩
  simp [Instr.extract, hlt']

theorem len_sound {t : Nat} {ti : TI} (ht : ti.d ≠ .other → TIok P t ti) {ty : Nat} {a : AV} {A : Value} (ha : Rd w σ Im a A) : (lenA ti.d a).pure fun r => Pure1 P w σ Im (Builtin.len_ #[t] ty #[A]) r := by
  unfold lenA
  split
  case h_4 => trivial
  case h_1 hd =>
    obtain ⟨desc, _, _, hu, hd', _⟩ := (ht (by rw [hd]; intro h; cases h)).ex
    rw [hd] at hd'
    have := tdOf_str hd'
    subst this
    split
    case h_2 => trivial
    have := ha.inv_str
    subst this
    exact ⟨rfl, rfl, fun _ => pure_of (v := .int .i64 _) (by simp [Builtin.len_, run_underlying hu, goInt]) (.int _ _)⟩
  case h_2 e hd =>
    obtain ⟨desc, _, _, hu, hd', _⟩ := (ht (by rw [hd]; intro h; cases h)).ex
    rw [hd] at hd'
    have := tdOf_sl hd'
    subst this
    split
    case h_4 => trivial
    case h_1 =>
      rcases ha.inv_sl with ⟨rfl, x, c, rfl, _⟩ | ⟨b, off, cap, U, rfl, _⟩
      · exact ⟨rfl, rfl, fun _ => pure_of (v := .int .i64 _) (by simp [Builtin.len_, run_underlying hu, goInt]) (.int _ _)⟩
      · exact ⟨rfl, rfl, fun _ => pure_of (v := .int .i64 _) (by simp [Builtin.len_, run_underlying hu, goInt]) (.int _ _)⟩
    case h_2 =>
      rcases ha.inv_os with ⟨rfl, x, rfl⟩ | ⟨b, cap, rfl, _⟩
      · exact ⟨rfl, rfl, fun _ => pure_of (v := .int .i64 _) (by simp [Builtin.len_, run_underlying hu, goInt]) (.int _ _)⟩
      · exact ⟨rfl, rfl, fun _ => pure_of (v := .int .i64 _) (by simp [Builtin.len_, run_underlying hu, goInt]) (.int _ _)⟩
    case h_3 =>
      have := ha.inv_nils
      subst this
      exact ⟨rfl, rfl, fun _ => pure_of (v := .int .i64 _) (by simp [Builtin.len_, run_underlying hu, goInt]) (.int _ _)⟩
  case h_3 n e hd =>
    obtain ⟨desc, _, _, hu, hd', _⟩ := (ht (by rw [hd]; intro h; cases h)).ex
    rw [hd] at hd'
    have := tdOf_arr hd'
    subst this
    exact ⟨rfl, rfl, fun _ => pure_of (v := .int .i64 _) (by cases A <;> simp [Builtin.len_, run_underlying hu, goInt]) (.int _ _)⟩

theorem index_sound {cx : Cx} (hcx : cx.ok P) {t : Nat} {a c : AV} {A C : Value} (ha : Rd w σ Im a A) (hc : Rd w σ Im c C) : (indexA cx.ti (cx.ti t).d a c).pure fun r => Pure1 P w σ Im (Instr.index t A C) r := by
  unfold indexA
  split
  case h_2 => trivial
  case h_1 kd i =>
  have := hc.inv_int
  subst this
  split
  case h_3 => trivial
  case h_1 hd =>
    obtain ⟨desc, _, _, hu, hd', _⟩ := (hcx.ti t (by rw [hd]; intro h; cases h)).ex
    rw [hd] at hd'
    have := tdOf_str hd'
    subst this
    split
    case h_2 => trivial
    rename_i s
    have := ha.inv_str
    subst this
    refine ⟨rfl, rfl, fun hp => ?_⟩
    simp only [Option.getD_some] at hp
    have hlt : i.toNat < s.size := by omega
    refine pure_of (v := .int .u8 (byteAt s i.toNat)) ?_ (.int _ _)
    have hg : s[i.toNat]? = some s[i.toNat] := by simp [hlt]
    have e : byteAt s i.toNat = (s[i.toNat].toNat : Int) := by
      unfold byteAt
      have : s.data[i.toNat]? = some (s.data[i.toNat]'hlt) := Array.getElem?_eq_getElem hlt
      rw [this]; rfl
    rw [e]
    simp [Instr.index, run_underlying hu, asIntOf, hp.1, hg]
  case h_2 len e hd =>
    obtain ⟨desc, _, _, hu, hd', _⟩ := (hcx.ti t (by rw [hd]; intro h; cases h)).ex
    rw [hd] at hd'
    have := tdOf_arr hd'
    subst this
    split
    · trivial
    rename_i hne
    obtain ⟨_, i', _, _, _, hi', hs', _⟩ := (hcx.ti e hne).ex
    split
    case h_2 => trivial
    rename_i l
    split
    case h_2 => trivial
    rename_i hb
    have hb := of_decide_eq_true hb
    obtain ⟨cs, rfl, h1, h2, h3⟩ := ha.inv_agg
    have := part_sound (hcx.ti e hne) (w := w) (σ := σ) (Im := Im) (l := l) (CS := cs) ⟨h1, h2, h3⟩ (i.toNat * (cx.ti e).size)
    have e : (Instr.index t (.agg cs) (.int kd i)).run P w = (part e cs (i.toNat * (cx.ti e).size)).run P w := by
      simp [Instr.index, run_underlying hu, asIntOf, hb, sizeOf, typeInfo, hi', hs']
    unfold Pure1 at this ⊢
    rw [e]
    exact this
end
end Ev
end Go.Proofs.YtphdjmaebdmdmaaGreatDoor
