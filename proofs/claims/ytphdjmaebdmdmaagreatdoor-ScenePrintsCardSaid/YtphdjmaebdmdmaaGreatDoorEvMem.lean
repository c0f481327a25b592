/- The abstract machine's operations on memory that read alone. -/
import Derived.Test.YtphdjmaebdmdmaaGreatDoorEvEq
namespace Go.Proofs.YtphdjmaebdmdmaaGreatDoor
open Go.RowKit
set_option linter.unusedVariables false
set_option linter.unusedSimpArgs false
namespace Ev

/-- A method of a type, and its function. -/
def methB (P : Program) (t : Nat) (name : String) (f : Nat) : Bool :=
  match P.underlying t with
  | none => false
  | some d => match P.info? t with
    | none => false
    | some i => match i.methods.find? (·.name == name) with
      | none => false
      | some m => m.path.isEmpty && (match m.func with
        | some (g, pr) => Nat.beq g f && (pr == (match d with | .pointer _ => true | _ => false))
        | none => false)
/-- A type that has the methods of an interface. -/
def impB (P : Program) (t u : Nat) : Bool :=
  match P.underlying t with
  | some (.interface want) => match P.info? u with
    | some i => (Instr.missingMethod want i.methods).isNone
    | none => false
  | _ => false
structure Cx where
  ti : Nat → TI
  eq : Nat → List TD
  mt : Nat → String → Option Nat
  im : Nat → Nat → Bool
structure Cx.ok (cx : Cx) (P : Program) : Prop where
  ti : ∀ t, (cx.ti t).d ≠ .other → TIok P t (cx.ti t)
  eq : ∀ t, cx.eq t ≠ [] → eqTok P t (cx.eq t) = true
  mt : ∀ t name f, cx.mt t name = some f → methB P t name f = true
  im : ∀ t u, cx.im t u = true → impB P t u = true

/-- A part of the cells of a value. -/
def partA (ti : TI) (l : List AV) (off : Nat) : SR :=
  match ti.d.isAgg with
  | true => match Nat.ble (off + ti.size) l.length with
    | true => sv (.agg ((l.drop off).take ti.size))
    | false => .no
  | false => match l[off]? with
    | some v => sv v
    | none => .no
/-- A variable that lies in a block of which the first N cells are known. -/
def varA (ti : TI) (k : List Nat) (N : Nat) (g : Nat → AV) : SR :=
  match ti.d.isAgg with
  | true => .ok (some (ti.size ≤ N)) false (.agg ((List.range ti.size).map g)) k [] none
  | false => .ok (some (0 < N)) false (g 0) k [] none
def withRd (k : Nat) (s : SR) : SR :=
  match s with
  | .ok p nm r _ wr nw => .ok p nm r [k] wr nw
  | .no => .no
def loadA (ti : TI) (own : Nat → OB) (a : AV) : SR :=
  match ti.d with
  | .other => .no
  | _ => match a with
    | .own k off => match own k with
      | .row l => withRd k (partA ti l off)
      | .nums kd N P => match ti.d.isAgg with
        | true => .no
        | false => .ok (some (off < N)) false (.int kd (P off)) [k] [] none
      | .arr N g => match ti.d.isAgg with
        | true => .ok (some (off + ti.size ≤ N)) false (.agg ((List.range ti.size).map fun j => g (off + j))) [k] [] none
        | false => .ok (some (off < N)) false (g off) [k] [] none
      | .gone => .no
      | .bts _ _ => .no
    | .ref N g => varA ti [] N g
    | _ => .no

section
variable {P : Program} {w : World} {σ : Nat → Option Nat} {Im : Nat → Prop}
theorem oneCell_isAgg {ti : TI} {t : Nat} (ht : TIok P t ti) : ∃ desc i, P.underlying t = some desc ∧ P.info? t = some i ∧ i.size = ti.size ∧ desc.isRow = ti.d.isAgg := by
  obtain ⟨desc, i, z, hu, hd, hi, hs, _⟩ := ht.ex
  refine ⟨desc, i, hu, hi, hs, ?_⟩
  rw [← hd]
  unfold tdOf
  split <;> first | rfl | (rename_i h1 h2 h3 h4 h5 h6 h7 h8 h9 h10 h11; cases desc <;> first | rfl | (exfalso; first | exact h8 _ _ rfl | exact h9 _ rfl | exact h7 _ _ rfl))
theorem meth_run {t : Nat} {name : String} {f : Nat} (h : methB P t name f = true) (n : Nat) (V : Value) : (method (n + 1) t V name).run P w = .ok (f, V) w := by
  unfold methB at h
  split at h
  · cases h
  rename_i d hd
  split at h
  · cases h
  rename_i i hi
  split at h
  · cases h
  rename_i m hm
  rw [Bool.and_eq_true] at h
  obtain ⟨hp, h⟩ := h
  split at h
  case h_2 => cases h
  rename_i g pr hf
  rw [Bool.and_eq_true] at h
  have hg := Nat.eq_of_beq_eq_true h.1
  subst hg
  have hpr := eq_of_beq h.2
  have hpath : m.path = #[] := by simpa using hp
  unfold method
  simp only [Sem.run_bind, typeInfo, run_program, hi, Result.andThen_ok, Sem.run_pure, hm, hpath, follow, hf, receiverAt, run_underlying hd, hpr]
  cases d <;> simp [Place.get]
theorem load_one {t : Nat} {desc : TypeDesc} (hu : P.underlying t = some desc) (hr : desc.isRow = false) {a : Addr} {v : Value} (h : w.cell? a = some v) : (Instr.loadAt t (.pointer (some a))).run P w = .ok v w := by
  have hagg : (isAgg t).run P w = .ok false w := by
    unfold isAgg
    rw [Sem.run_bind, run_underlying hu w]
    cases desc <;> simp_all
  simp [Instr.loadAt, Instr.sureAddr, loadVar, Sem.run_bind, hagg, h]
theorem load_row {t : Nat} {ti : TI} {desc : TypeDesc} {i : TypeInfo} (hu : P.underlying t = some desc) (hr : desc.isRow = true) (hi : P.info? t = some i) (hs : i.size = ti.size) {b off : Nat} {g : Nat → AV}
    (h : ∀ j, j < ti.size → ∃ v, w.cell? ⟨b, off + j, none⟩ = some v ∧ v.oneCell' = true ∧ Rd w σ Im (g j) v) :
    ∃ v, (Instr.loadAt t (.pointer (some ⟨b, off, none⟩))).run P w = .ok v w ∧ ∀ l : List AV, l.length = ti.size → (∀ j, j < ti.size → l.getD j .any = g j) → Rd w σ Im (.agg l) v := by
  have hex : ∃ f : Nat → Value, ∀ j, j < ti.size → w.cell? ⟨b, off + j, none⟩ = some (f j) ∧ (f j).oneCell' = true ∧ Rd w σ Im (g j) (f j) := by
    refine ⟨fun j => if hj : j < ti.size then Classical.choose (h j hj) else undef, fun j hj => ?_⟩
    simp only [hj, dite_true]
    exact Classical.choose_spec (h j hj)
  obtain ⟨f, hf⟩ := hex
  have hrange : w.rangeAt b off ((List.range ti.size).map f) := fun j v hv => by
    by_cases hj : j < ti.size
    · simp [hj] at hv
      subst hv
      exact (hf j hj).1
    · simp [hj] at hv
  refine ⟨_, run_loadAt_mid w b off t ((List.range ti.size).map f) desc hrange hu hr (by simp [hi, hs]), fun l hl hg => ?_⟩
  refine .agg _ _ (by simp [hl]) (fun j hj => ?_) (fun j hj => ?_)
  · have : j < ti.size := by omega
    simpa [this] using (hf j this).2.1
  · have : j < ti.size := by omega
    rw [hg j this]
    simpa [this] using (hf j this).2.2
theorem Rd.cellsAt {own : Nat → OB} {w0 : St0} (hS : Sat w0 w σ Im own) {k off b : Nat} (hk : (own k).live) (hs : σ k = some b) {i : Nat} (hi : i < (own k).N) :
    ∃ v, w.cell? ⟨b, i, none⟩ = some v ∧ v.oneCell' = true ∧ Rd w σ Im ((own k).at i) v := by
  rcases hS.held k hk with e | ⟨b', e1, e2, e3, e4⟩
  · rw [e.2] at hs; cases hs
  · rw [hs] at e1; cases e1
    obtain ⟨v, h1, _, h2, h3⟩ := e4.cell hi
    exact ⟨v, h1, h2, h3.ofSg⟩
theorem getD_drop_take (l : List AV) (off n j : Nat) (h : j < n) (hl : off + n ≤ l.length) : ((l.drop off).take n).getD j .any = l.getD (off + j) .any := by
  simp [List.getD, List.getElem?_take, h, List.getElem?_drop]
/-- It runs, and draws nothing. -/
def Pure0 (P : Program) (w : World) (σ : Nat → Option Nat) (Im : Nat → Prop) (s : Sem Value) (r : AV) : Prop := ∃ v, s.run P w = .ok v w ∧ Rd w σ Im r v
theorem pure0_of {s : Sem Value} {r : AV} {v : Value} (h : s.run P w = .ok v w) (hr : Rd w σ Im r v) : Pure0 P w σ Im s r := ⟨v, h, hr⟩
theorem load_sound0 {t : Nat} {ti : TI} (ht : ti.d ≠ .other → TIok P t ti) {own : Nat → OB} {w0 : St0} (hS : Sat w0 w σ Im own) {a : AV} {A : Value} (ha : Rd w σ Im a A) :
    (loadA ti own a).pure fun r => Pure0 P w σ Im (Instr.loadAt t A) r := by
  unfold loadA
  split
  · trivial
  rename_i hne
  obtain ⟨desc, i, hu, hi, hs, hrow⟩ := oneCell_isAgg (ht hne)
  split
  case h_1 k off =>
    cases ha
    rename_i b hb
    split
    case h_1 l hl =>
      have hlive : (own k).live := by rw [hl]; trivial
      have hN : (own k).N = l.length := by rw [hl]; rfl
      have hat : ∀ j, (own k).at j = l.getD j .any := fun j => by rw [hl]; rfl
      unfold partA
      cases hag : ti.d.isAgg with
      | true =>
        simp only [hag]
        split
        · rename_i hle
          have hle' := Nat.le_of_ble_eq_true hle
          refine ⟨rfl, rfl, fun _ => ?_⟩
          obtain ⟨v, hv, hr⟩ := load_row (w := w) (σ := σ) (Im := Im) (b := b) (off := off) (g := fun j => l.getD (off + j) .any) hu (hrow.trans hag) hi hs (fun j hj => by
            have := Rd.cellsAt (off := 0) hS hlive hb (i := off + j) (by omega)
            rwa [hat] at this)
          exact pure0_of hv (hr _ (by simp; omega) fun j hj => getD_drop_take l off ti.size j hj hle')
        · trivial
      | false =>
        simp only [hag]
        split
        · rename_i v hv
          refine ⟨rfl, rfl, fun _ => ?_⟩
          have hlt : off < l.length := by
            rcases Nat.lt_or_ge off l.length with h | h
            · exact h
            · rw [List.getElem?_eq_none h] at hv; cases hv
          obtain ⟨u, h1, h2, h3⟩ := Rd.cellsAt (off := 0) hS hlive hb (i := off) (by omega)
          rw [hat, List.getD, hv] at h3
          exact pure0_of (load_one hu (hrow.trans hag) h1) h3
        · trivial
    case h_2 kd N Q hl =>
      have hlive : (own k).live := by rw [hl]; trivial
      cases hag : ti.d.isAgg with
      | true => simp only [hag]; trivial
      | false =>
        simp only [hag]
        refine ⟨rfl, rfl, fun hlt => ?_⟩
        obtain ⟨u, h1, h2, h3⟩ := Rd.cellsAt (off := 0) hS hlive hb (i := off) (by rw [hl]; exact hlt)
        rw [hl] at h3
        exact pure0_of (load_one hu (hrow.trans hag) h1) h3
    case h_3 N g hl =>
      have hlive : (own k).live := by rw [hl]; trivial
      cases hag : ti.d.isAgg with
      | true =>
        simp only [hag]
        refine ⟨rfl, rfl, fun hle => ?_⟩
        simp only [Option.getD_some] at hle
        obtain ⟨v, hv, hr⟩ := load_row (w := w) (σ := σ) (Im := Im) (b := b) (off := off) (g := fun j => g (off + j)) hu (hrow.trans hag) hi hs (fun j hj => by
          have := Rd.cellsAt (off := 0) hS hlive hb (i := off + j) (by rw [hl]; show _ < N; omega)
          rwa [hl] at this)
        exact pure0_of hv (hr _ (by simp) fun j hj => by simp [List.getD, hj])
      | false =>
        simp only [hag]
        refine ⟨rfl, rfl, fun hlt => ?_⟩
        obtain ⟨u, h1, h2, h3⟩ := Rd.cellsAt (off := 0) hS hlive hb (i := off) (by rw [hl]; exact hlt)
        rw [hl] at h3
        exact pure0_of (load_one hu (hrow.trans hag) h1) h3
    case h_4 => trivial
    case h_5 => trivial
  case h_2 N g =>
    cases ha
    rename_i b off U him hc h1 hr
    unfold varA
    cases hag : ti.d.isAgg with
    | true =>
      simp only [hag]
      refine ⟨rfl, rfl, fun hle => ?_⟩
      simp only [Option.getD_some] at hle
      obtain ⟨v, hv, hrr⟩ := load_row (w := w) (σ := σ) (Im := Im) (b := b) (off := off) (g := g) hu (hrow.trans hag) hi hs (fun j hj => ⟨U j, hc j (by omega), h1 j (by omega), (hr j (by omega)).up⟩)
      exact pure0_of hv (hrr _ (by simp) fun j hj => by simp [List.getD, hj])
    | false =>
      simp only [hag]
      refine ⟨rfl, rfl, fun hlt => ?_⟩
      simp only [Option.getD_some] at hlt
      exact pure0_of (load_one hu (hrow.trans hag) (by simpa using hc 0 hlt)) (hr 0 hlt).up
  case h_3 => trivial
theorem load_sound {t : Nat} {ti : TI} (ht : ti.d ≠ .other → TIok P t ti) {own : Nat → OB} {w0 : St0} (hS : Sat w0 w σ Im own) {a : AV} {A : Value} (ha : Rd w σ Im a A) :
    (loadA ti own a).pure fun r => Pure1 P w σ Im (Instr.loadAt t A) r := by
  have := load_sound0 (P := P) ht hS ha
  revert this
  cases loadA ti own a with
  | no => exact fun _ => trivial
  | ok p nm r rd wr nw => exact fun ⟨h1, h2, h3⟩ => ⟨h1, h2, fun hp => let ⟨v, e1, e2⟩ := h3 hp; ⟨v, 0, e1, e2⟩⟩
end
end Ev
end Go.Proofs.YtphdjmaebdmdmaaGreatDoor
