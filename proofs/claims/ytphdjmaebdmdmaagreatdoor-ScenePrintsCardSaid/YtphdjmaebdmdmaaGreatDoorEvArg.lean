/- The abstract machine: arguments of a law, opened whatever their type; from a contract to a law. -/
import Derived.Test.YtphdjmaebdmdmaaGreatDoorEvTab
import Derived.ProofKit
import Derived.OpenShut
import Derived.Laws.Cover2
import Derived.Lib.SmallJoins
namespace Go.Proofs.YtphdjmaebdmdmaaGreatDoor
open Go.RowKit Go.ChangeShapes Go.WideShapes
set_option linter.unusedVariables false
set_option linter.unusedSimpArgs false
namespace Ev

/-- What a cell may hold. -/
inductive CS where
  | int (k : IntKind) | bool | flt | str | sl (sz : Nat) (cs : Nat → CS) | other
def Shape : CS → AV → Prop
  | .int k, v => ∃ n, v = .int k n ∧ (Lit.int k n).wf = true
  | .bool, v => ∃ b, v = .bool b
  | .flt, v => ∃ x, v = .flt x ∧ (cn x = x ∧ x < 18446744073709551616)
  | .str, v => ∃ s, v = .str s ∧ s.size ≤ maxLen
  | .sl sz cs, v => ∃ n g, v = .sl n sz g ∧ (n ≤ maxLen ∧ ∀ j, Shape (cs (j % sz)) (g j))
  | .other, v => v = .any
def defS : CS → AV
  | .int k => .int k 0
  | .bool => .bool false
  | .flt => .flt 0
  | .str => .str ⟨#[]⟩
  | .sl sz cs => .sl 0 sz fun j => defS (cs (j % sz))
  | .other => .any
theorem cn0 : cn 0 = 0 := by decide +kernel
theorem shape_def : ∀ s, Shape s (defS s)
  | .int k => ⟨0, rfl, by cases k <;> decide⟩
  | .bool => ⟨false, rfl⟩
  | .flt => ⟨0, rfl, cn0, by omega⟩
  | .str => ⟨⟨#[]⟩, rfl, Nat.zero_le _⟩
  | .sl sz cs => ⟨0, _, rfl, Nat.zero_le _, fun j => shape_def (cs (j % sz))⟩
  | .other => rfl
def csF (f : TypeId → Option (List CS)) : List (Nat × TypeId) → Nat → Option (List CS)
  | [], _ => some []
  | (off, t) :: r, o => match Nat.beq off o with
    | false => none
    | true => match f t with
      | none => none
      | some l => match csF f r (o + l.length) with
        | none => none
        | some m => some (l ++ m)
def csOf (P : Program) : Nat → TypeId → Option (List CS)
  | 0, _ => none
  | d + 1, t => match P.underlying t with
    | some (.int k) => some [.int k]
    | some .bool => some [.bool]
    | some (.float .f64) => some [.flt]
    | some .string => some [.str]
    | some (.slice e) => match csOf P d e with
      | none => none
      | some l => match Nat.beq (P.cellsOf e) l.length && Nat.ble 1 l.length with
        | true => some [.sl l.length fun i => l.getD i .other]
        | false => none
    | some (.struct fs) => match csF (csOf P d) (fs.toList.map fun f => (f.offset, f.type)) 0 with
      | none => none
      | some l => match Nat.beq (P.cellsOf t) l.length with
        | true => some l
        | false => none
    | some (.array n e) => match csF (csOf P d) ((List.range n).map fun i => (i * P.cellsOf e, e)) 0 with
      | none => none
      | some l => match Nat.beq (P.cellsOf t) l.length with
        | true => some l
        | false => none
    | _ => none

section
variable {H : Type} {enc : TypeId × Value → H} {P : Program} {w : World} {base : Nat} {spare : Nat → Bool} {held : Bool}
/-- A cell, and what is known of it. -/
def Known (w : World) (s : CS) (c : Value) : Prop := ∃ a, Shape s a ∧ Rd w (fun _ => none) (fun b => b < w.heap.size) a c ∧ c.oneCell' = true
theorem rows_cs {f : TypeId → Option (List CS)} {g : TypeId → List Value → Option (DataW H × List MemPlace)} (hf : ∀ t l cs x, f t = some l → g t cs = some x → cs.length = l.length ∧ ∀ i, i < l.length → Known w (l.getD i .other) (cs.getD i undef)) {cs : List Value} {sz : TypeId → Nat} :
    ∀ (r : List (Nat × TypeId)) (o : Nat) (L : List CS), csF f r o = some L → (∀ p ∈ r, ∃ y, g p.2 ((cs.drop p.1).take (sz p.2)) = some y) → ∀ i, i < L.length → Known w (L.getD i .other) (cs.getD (o + i) undef)
  | [], o, L, h, _, i, hi => by cases h; simp at hi
  | (off, t) :: r, o, L, h, hm, i, hi => by
    unfold csF at h
    split at h
    · cases h
    rename_i hoff
    have hoff := Nat.eq_of_beq_eq_true hoff
    split at h
    · cases h
    rename_i l hl
    split at h
    · cases h
    rename_i m hm'
    cases h
    obtain ⟨y, hy⟩ := hm (off, t) (by simp)
    simp only at hy
    obtain ⟨h1, h2⟩ := hf t l _ y hl hy
    subst hoff
    by_cases hc : i < l.length
    · have h3 := h2 i hc
      have e1 : (l ++ m).getD i .other = l.getD i .other := by simp [List.getD, List.getElem?_append_left hc]
      have e2 : ((cs.drop off).take (sz t)).getD i undef = cs.getD (off + i) undef := by
        have hlt : i < sz t := by have := List.length_take_le (sz t) (cs.drop off); omega
        simp [List.getD, List.getElem?_take, List.getElem?_drop, hlt]
      rw [e1, ← e2]; exact h3
    · have h3 := rows_cs hf r (off + l.length) m hm' (fun p hp => hm p (by simp [hp])) (i - l.length) (by simp at hi; omega)
      have e1 : (l ++ m).getD i .other = m.getD (i - l.length) .other := by simp [List.getD, List.getElem?_append_right (Nat.le_of_not_lt hc)]
      rw [e1]
      have e3 : off + l.length + (i - l.length) = off + i := by omega
      rw [e3] at h3
      exact h3
theorem mapM_get {α β : Type} {f : α → Option β} : ∀ {l : List α} {r : List β}, l.mapM f = some r → r.length = l.length ∧ ∀ i (h : i < l.length) (h' : i < r.length), f l[i] = some r[i]
  | [], r, h => by simp at h; subst h; exact ⟨rfl, fun i hi => by simp at hi⟩
  | x :: l, r, h => by
    rw [List.mapM_cons] at h
    simp only [bind, Option.bind_eq_some_iff] at h
    obtain ⟨b, hb, r', hr, e⟩ := h
    cases e
    obtain ⟨h1, h2⟩ := mapM_get hr
    refine ⟨by simp [h1], fun i hi hi' => ?_⟩
    cases i with
    | zero => exact hb
    | succ i => simpa using h2 i (by simpa using hi) (by simpa using hi')
theorem cells_get {w : World} {base : Nat} {a : Addr} {n : Nat} {cs : List Value} (h : w.cells? base a n = some cs) : cs.length = n ∧ ∀ i, i < n → w.cell? (a.add i) = some (cs.getD i undef) := by
  unfold World.cells? at h
  split at h
  · obtain ⟨h1, h2⟩ := mapM_get h
    rw [List.length_range] at h1
    refine ⟨h1, fun i hi => ?_⟩
    have := h2 i (by simpa using hi) (by omega)
    simp only [List.getElem_range] at this
    rw [this]
    simp [List.getD, h1, hi]
  · cases h
theorem trod_cs : ∀ (d : Nat) {fuel : Nat} {t : TypeId} {cs : List Value} {x : DataW H × List MemPlace} {l : List CS}, csOf P d t = some l → DataW.trod enc P w base spare held fuel t cs = some x → cs.length = l.length ∧ ∀ i, i < l.length → Known w (l.getD i .other) (cs.getD i undef)
  | 0, _, _, _, _, _, h, _ => by cases h
  | d + 1, 0, _, _, _, _, _, h => by simp [DataW.trod] at h
  | d + 1, fuel + 1, t, cs, x, l, hc, h => by
    have one : ∀ (s : CS) (c : Value), Known w s c → [c].length = [s].length ∧ ∀ i, i < [s].length → Known w ([s].getD i .other) ([c].getD i undef) := fun s c hk => ⟨rfl, fun i hi => by
      cases i with
      | zero => exact hk
      | succ i => simp at hi⟩
    unfold csOf at hc
    unfold DataW.trod at h
    cases hu : P.underlying t with
    | none => rw [hu] at hc; cases hc
    | some u =>
      rw [hu] at hc h
      cases u
      case int k =>
        cases hc
        split at h <;> (first | (cases h; done) | skip)
        all_goals (first | (rename_i k0 k1 n0 e0; cases e0; split at h; rotate_left; (· cases h); rename_i hw; obtain ⟨rfl, hw⟩ := hw; exact one _ _ ⟨_, ⟨_, rfl, hw⟩, .int _ _, rfl⟩) | (simp_all; done))
      case bool =>
        cases hc
        split at h <;> (first | (cases h; done) | skip)
        all_goals (first | (exact one _ _ ⟨_, ⟨_, rfl⟩, .bool _, rfl⟩) | (simp_all; done))
      case float k =>
        cases k
        · cases hc
        cases hc
        split at h <;> (first | (cases h; done) | skip)
        all_goals (first | (rename_i k0 k1 n0 e0; cases e0; split at h; rotate_left; (· cases h); rename_i hw; obtain ⟨rfl, hw⟩ := hw; exact one _ _ ⟨.flt (cn n0), ⟨_, rfl, cn_cn _, by
          have hw : n0 < 18446744073709551616 := by simpa [Lit.wf] using hw
          unfold cn; split
          · decide
          · exact hw⟩, .flt _ _ rfl, rfl⟩) | (simp_all; done))
      case string =>
        cases hc
        split at h <;> (first | (cases h; done) | skip)
        all_goals (first | (split at h; rotate_left; (· cases h); rename_i hw; exact one _ _ ⟨_, ⟨_, rfl, hw⟩, .str _, rfl⟩) | (simp_all; done))
      case slice e =>
        simp only at hc
        split at hc
        · cases hc
        rename_i le hle
        split at hc
        rotate_left
        · cases hc
        rename_i hsz
        rw [Bool.and_eq_true] at hsz
        obtain ⟨hs1, hs2⟩ := hsz
        have hs1 := Nat.eq_of_beq_eq_true hs1
        have hs2 := Nat.le_of_ble_eq_true hs2
        cases hc
        have nilc : ∀ (a : Option Addr) (cap : Nat), cap ≤ maxLen → Known w (.sl le.length fun i => le.getD i .other) (.slice a 0 cap) := fun a cap hcap =>
          ⟨.sl 0 le.length fun j => defS (le.getD (j % le.length) .other), ⟨_, _, rfl, Nat.zero_le _, fun j => shape_def _⟩, .sl0 _ _ _ _ hcap, rfl⟩
        split at h <;> (first | (cases h; done) | skip)
        all_goals first | (exact one _ _ (nilc none 0 (Nat.zero_le _))) | skip
        all_goals try (simp_all; done)
        rename_i a len cap e0
        cases e0
        split at h
        rotate_left
        · cases h
        rename_i hb
        obtain ⟨hb1, hb2, hb3⟩ := hb
        simp only [Option.bind_eq_some_iff] at h
        obtain ⟨elems, hel, _⟩ := h
        obtain ⟨g1, g2⟩ := mapM_get hel
        rw [List.length_range] at g1
        refine one _ _ ?_
        by_cases hl : len = 0
        · subst hl; exact nilc _ _ hb3
        have key : ∀ i, i < len → ∃ ecs : List Value, ecs.length = le.length ∧ ∀ q, q < le.length → w.cell? (a.add (i * le.length) |>.add q) = some (ecs.getD q undef) ∧ Known w (le.getD q .other) (ecs.getD q undef) := fun i hi => by
          have := g2 i (by simpa using hi) (by omega)
          simp only [List.getElem_range, Option.bind_eq_some_iff] at this
          obtain ⟨ecs, he1, he2⟩ := this
          obtain ⟨k1, k2⟩ := cells_get he1
          obtain ⟨k3, k4⟩ := trod_cs d hle he2
          rw [hs1] at k2
          exact ⟨ecs, k3, fun q hq => ⟨k2 q hq, k4 q hq⟩⟩
        obtain ⟨b, off, spot⟩ := a
        obtain ⟨ec0, _, hk0⟩ := key 0 (by omega)
        have hc0 := (hk0 0 (by omega)).1
        have hspot : spot = none := by simpa [Addr.add] using World.cell?_spot hc0
        subst hspot
        have hlt : b < w.heap.size := by simpa [Addr.add] using World.block_lt_of_cell? w _ hc0
        have all : ∀ j, ∃ p : AV × Value, Shape (le.getD (j % le.length) .other) p.1 ∧ (j < len * le.length → w.cell? ⟨b, off + j, none⟩ = some p.2 ∧ p.2.oneCell' = true ∧ Rd w (fun _ => none) (fun b => b < w.heap.size) p.1 p.2) := fun j => by
          by_cases hj : j < len * le.length
          · have hq := Nat.mod_lt j hs2
            have hi : j / le.length < len := (Nat.div_lt_iff_lt_mul hs2).2 hj
            obtain ⟨ecs, _, hk⟩ := key (j / le.length) hi
            obtain ⟨k1, v, k2, k3, k4⟩ := hk (j % le.length) hq
            refine ⟨(v, ecs.getD (j % le.length) undef), k2, fun _ => ⟨?_, k4, k3⟩⟩
            show w.cell? _ = some (ecs.getD (j % le.length) undef)
            have e : j / le.length * le.length + j % le.length = j := by rw [Nat.mul_comm]; exact Nat.div_add_mod j le.length
            rw [← k1]
            congr 1
            rw [add_addr, add_addr, Nat.add_assoc, e]
          · exact ⟨(_, undef), shape_def _, fun hc => absurd hc hj⟩
        obtain ⟨G, hG⟩ := Classical.axiomOfChoice all
        exact ⟨.sl len le.length fun j => (G j).1, ⟨_, _, rfl, Nat.le_trans hb2 hb3, fun j => (hG j).1⟩, .sl _ _ _ _ _ _ (fun j => (G j).2) hlt hb2 hb3 (fun j hj => ((hG j).2 hj).1) (fun j hj => ((hG j).2 hj).2.1) (fun j hj => ((hG j).2 hj).2.2), rfl⟩
      case struct fs =>
        simp only at hc h
        split at hc
        · cases hc
        rename_i L hL
        split at hc
        rotate_left
        · cases hc
        rename_i hsz
        have hsz := Nat.eq_of_beq_eq_true hsz
        cases hc
        split at h
        rotate_left
        · cases h
        rename_i hlen
        simp only [Option.map_eq_some_iff] at h
        obtain ⟨xs, hxs, _⟩ := h
        refine ⟨by omega, fun i hi => ?_⟩
        have := rows_cs (fun t l cs x h1 h2 => trod_cs d h1 h2) (cs := cs) (sz := P.cellsOf) _ 0 _ hL (fun p hp => by
          obtain ⟨f, hf, rfl⟩ := List.mem_map.1 hp
          exact mapM_each hxs f hf) i hi
        rwa [Nat.zero_add] at this
      case array n e =>
        simp only at hc h
        split at hc
        · cases hc
        rename_i L hL
        split at hc
        rotate_left
        · cases hc
        rename_i hsz
        have hsz := Nat.eq_of_beq_eq_true hsz
        cases hc
        split at h
        rotate_left
        · cases h
        rename_i hlen
        simp only [Option.map_eq_some_iff] at h
        obtain ⟨xs, hxs, _⟩ := h
        refine ⟨by omega, fun i hi => ?_⟩
        have := rows_cs (fun t l cs x h1 h2 => trod_cs d h1 h2) (cs := cs) (sz := P.cellsOf) _ 0 _ hL (fun p hp => by
          obtain ⟨f, hf, rfl⟩ := List.mem_map.1 hp
          exact mapM_each hxs f hf) i hi
        rwa [Nat.zero_add] at this
      all_goals cases hc

def ShL : List CS → List AV → Prop
  | [], [] => True
  | s :: S, a :: l => Shape s a ∧ ShL S l
  | _, _ => False
theorem shL_of {S : List CS} {cs : List Value} (hl : cs.length = S.length) (h : ∀ i, i < S.length → Known w (S.getD i .other) (cs.getD i undef)) :
    ∃ l, ShL S l ∧ l.length = S.length ∧ ∀ i, i < S.length → Rd w (fun _ => none) (fun b => b < w.heap.size) (l.getD i .any) (cs.getD i undef) ∧ (cs.getD i undef).oneCell' = true := by
  induction S generalizing cs with
  | nil => exact ⟨[], trivial, rfl, fun i hi => by simp at hi⟩
  | cons s S ih =>
    cases cs with
    | nil => simp at hl
    | cons c cs =>
      obtain ⟨l, h1, h2, h3⟩ := ih (cs := cs) (by simpa using hl) fun i hi => by simpa using h (i + 1) (by simpa using hi)
      obtain ⟨a, k1, k2, k3⟩ := h 0 (by simp)
      refine ⟨a :: l, ⟨k1, h1⟩, by simp [h2], fun i hi => ?_⟩
      cases i with
      | zero => exact ⟨k2, k3⟩
      | succ i => simpa using h3 i (by simpa using hi)
def rowT (P : Program) (t : TypeId) : Bool := match P.underlying t with | some (.struct _) | some (.array _ _) => true | _ => false
/-- A struct or array, opened. -/
theorem open_row {b0 : Nat} {t : TypeId} {v : Value} {d : DataW H} {p : List MemPlace} {r : Reach} {S : List CS} (hs : csOf P 9 t = some S) (hr : rowT P t = true) (hv : Value.okWide P w r b0 t v) (h : DataW.Trod enc P w base spare held t v d p) :
    ∃ l, ShL S l ∧ Rd w (fun _ => none) (fun b => b < w.heap.size) (.agg l) v := by
  have : ∃ cs, v = .agg cs := by
    unfold rowT at hr
    unfold Value.okWide at hv
    split at hr
    · rename_i hu; rw [hu] at hv; obtain ⟨cs, e, _⟩ := hv; exact ⟨cs, e⟩
    · rename_i hu; rw [hu] at hv; obtain ⟨cs, e, _⟩ := hv; exact ⟨cs, e⟩
    · cases hr
  obtain ⟨cs, rfl⟩ := this
  obtain ⟨fuel, hf⟩ := h
  obtain ⟨h1, h2⟩ := trod_cs 9 hs hf
  obtain ⟨l, k1, k2, k3⟩ := shL_of h1 h2
  have e : ∀ i, cs.getD i undef = (Value.agg cs).cells.toList.getD i undef := fun i => by simp [Value.cells, List.getD, Array.getD_eq_getD_getElem?]
  refine ⟨l, k1, .agg _ _ (by rw [k2, ← h1]; simp [Value.cells]) (fun i hi => ?_) fun i hi => ?_⟩
  · rw [e]; exact (k3 i (by omega)).2
  · rw [e]; exact (k3 i (by omega)).1
/-- A value of one cell, opened. -/
theorem open_cell {b0 : Nat} {t : TypeId} {v : Value} {d : DataW H} {p : List MemPlace} {r : Reach} {s : CS} (hs : csOf P 9 t = some [s]) (hr : rowT P t = false) (hv : Value.okWide P w r b0 t v) (h : DataW.Trod enc P w base spare held t v d p) :
    ∃ a, Shape s a ∧ Rd w (fun _ => none) (fun b => b < w.heap.size) a v := by
  have : v.cells = #[v] := by
    unfold rowT at hr
    unfold csOf at hs
    cases hu : P.underlying t with
    | none => rw [hu] at hs; cases hs
    | some u =>
      rw [hu] at hr hs
      cases u <;> first | (cases hr; done) | (cases hs; done) | skip
      all_goals first
        | (obtain ⟨n, rfl⟩ := okWide_int hu hv; rfl)
        | (obtain ⟨n, rfl⟩ := okWide_bool hu hv; rfl)
        | (obtain ⟨n, rfl⟩ := okWide_string hu hv; rfl)
        | (obtain ⟨_, _, _, rfl⟩ := okWide_slice hu hv; rfl)
        | (simp only [Value.okWide, hu, Cell.okWide] at hv; cases v <;> first | rfl | (simp_all [Cell.ok]; done))
  obtain ⟨fuel, hf⟩ := h
  obtain ⟨h1, h2⟩ := trod_cs 9 hs hf
  obtain ⟨a, k1, k2, k3⟩ := h2 0 (by simp)
  rw [this] at k2
  exact ⟨a, k1, k2⟩
theorem shL_cons {s : CS} {S : List CS} {l : List AV} (h : ShL (s :: S) l) : ∃ a r, l = a :: r ∧ Shape s a ∧ ShL S r := by
  cases l with
  | nil => exact h.elim
  | cons a r => exact ⟨a, r, rfl, h.1, h.2⟩
theorem shL_nil {l : List AV} (h : ShL [] l) : l = [] := by
  cases l with
  | nil => rfl
  | cons a r => exact h.elim
/-- A slice of whole numbers, as a function. -/
theorem ints_of {k : IntKind} {cs : Nat → CS} {g : Nat → AV} (hcs : cs 0 = .int k) (h : ∀ j, Shape (cs (j % 1)) (g j)) : ∃ F : Nat → Int, g = (fun j => .int k (F j)) ∧ ∀ j, (Lit.int k (F j)).wf = true := by
  have h' : ∀ j, ∃ n, g j = .int k n ∧ (Lit.int k n).wf = true := fun j => by
    have := h j
    rw [Nat.mod_one, hcs] at this
    exact this
  obtain ⟨F, hF⟩ := Classical.axiomOfChoice h'
  exact ⟨F, funext fun j => (hF j).1, fun j => (hF j).2⟩
end
/-- From a contract to what a law asks. -/
theorem law_of {P : Program} {f : FuncId} {fn : Func} (hf : FnOk P f fn) (hb : fn.body.isSome = true) {args : List AV} (h : ACalls P f args (.bool true)) {w : World} {vals : List Value} (ht : Two (Rd w (fun _ => none) (fun b => b < w.heap.size)) args vals) (htw : TW w := by first | exact trivial | assumption) :
    Calls P f vals.toArray w fun e w' => e = .returned (.bool true) ∧ Below w.heap.size w w' := by
  have h1 := h w (fun b => b < w.heap.size) vals (fun _ h => h) ht htw
  have e : (callFunc f vals.toArray).run P w = .ok (.enter f vals.toArray) w := by
    have hne : ¬ fn.name = "runtime.NumGoroutine" := by simpa using hf.nm
    cases hbb : fn.body with
    | none => rw [hbb] at hb; cases hb
    | some c => simp [callFunc, hf.at_, hbb, hne]
  rw [e] at h1
  exact Calls.mono h1 fun e w' ⟨v, e', hbel, hr⟩ => ⟨by rw [e', hr.inv_bool], hbel⟩
end Ev
end Go.Proofs.YtphdjmaebdmdmaaGreatDoor
