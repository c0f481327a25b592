/- The abstract machine: structs that are compared. -/
import Derived.Test.YtphdjmaebdmdmaaGreatDoorEvOps
import Derived.ChangeKeysEq
namespace Go.Proofs.YtphdjmaebdmdmaaGreatDoor
open Go.RowKit
set_option linter.unusedVariables false
set_option linter.unusedSimpArgs false
namespace Ev

def eqF (P : Program) (rec : Nat → List TD → Option (List TD)) : List Field → Nat → List TD → Option (List TD)
  | [], _, S => some S
  | f :: r, n, S => bif (f.name != "_") && Nat.beq (f.offset + S.length) n then
      match rec f.type S with
      | some S' => eqF P rec r n S'
      | none => none
    else none
def eqR (rec : List TD → Option (List TD)) (sz : Nat) : Nat → List TD → Option (List TD)
  | 0, S => some S
  | n + 1, S => match rec S with
    | some S' => bif Nat.beq (S'.length + sz) S.length then eqR rec sz n S' else none
    | none => none
/-- The cells of a type, in order: what is left of a list of them. -/
def eqT (P : Program) : Nat → Nat → List TD → Option (List TD)
  | 0, _, _ => none
  | d + 1, t, S => match P.underlying t with
    | some (.int k) => match S with
      | .int k' :: r => bif decide (k = k') then some r else none
      | _ => none
    | some (.float .f64) => match S with
      | .flt :: r => some r
      | _ => none
    | some .bool => match S with
      | .bool :: r => some r
      | _ => none
    | some .string => match S with
      | .str :: r => some r
      | _ => none
    | some (.struct fs) => match P.info? t with
      | none => none
      | some i => match eqF P (eqT P d) fs.toList S.length S with
        | none => none
        | some S' => bif !P.stoodInHeld t && Nat.beq (i.size + S'.length) S.length then some S' else none
    | some (.array n e) => match P.info? e with
      | none => none
      | some i => match P.info? t with
        | none => none
        | some it => match eqR (eqT P d e) i.size n S with
          | none => none
          | some S' => bif Nat.beq (it.size + S'.length) S.length then some S' else none
    | _ => none
def eqV1 (td : TD) (a b : Value) : Option Bool :=
  match td with
  | .int k => match a with
    | .int k1 x => match b with
      | .int k2 y => bif decide (k1 = k2) then some (x == y) else none
      | _ => none
    | _ => none
  | .flt => match a with
    | .float .f64 x => match b with
      | .float .f64 y => some (feq x y)
      | _ => none
    | _ => none
  | .bool => match a with
    | .bool x => match b with
      | .bool y => some (x == y)
      | _ => none
    | _ => none
  | .str => match a with
    | .string x => match b with
      | .string y => some (x.toList == y.toList)
      | _ => none
    | _ => none
  | _ => none
def eqCs : List TD → List Value → List Value → Option Bool
  | [], _, _ => some true
  | td :: r, a :: X, b :: Y => match eqV1 td a b with
    | some p => match eqCs r X Y with
      | some q => some (p && q)
      | none => none
    | none => none
  | _, _, _ => none
def eqA1 (td : TD) (a b : AV) : Option Bool :=
  match td with
  | .int _ => match a with
    | .int k1 x => match b with
      | .int k2 y => match decide (k1 = k2) with
        | true => some (x == y)
        | false => none
      | _ => none
    | _ => none
  | .flt => match a with
    | .flt x => match b with
      | .flt y => some (feq x y)
      | _ => none
    | _ => none
  | .bool => match a with
    | .bool x => match b with
      | .bool y => some (x == y)
      | _ => none
    | _ => none
  | .str => match a with
    | .str x => match b with
      | .str y => some (x.toList == y.toList)
      | _ => none
    | _ => none
  | _ => none
def eqAs : List TD → List AV → List AV → Option Bool
  | [], l, m => match l, m with
    | [], [] => some true
    | _, _ => none
  | td :: r, a :: X, b :: Y => match eqA1 td a b with
    | some p => match eqAs r X Y with
      | some q => some (p && q)
      | none => none
    | none => none
  | _, _, _ => none
/-- Two structs, the cells of which are known. -/
def eqSA (S : List TD) (op : BinOp) (x y : AV) : SR :=
  match S with
  | [] => .no
  | S => match x with
    | .agg l => match y with
      | .agg m => match eqAs S l m with
        | some b => eqB op b
        | none => .no
      | _ => .no
    | _ => .no
def eqTok (P : Program) (t : Nat) (S : List TD) : Bool :=
  match P.underlying t with
  | some (.struct _) => (match eqT P 30 t S with | some [] => true | _ => false) && !P.eqGuardType P.depth t
  | some (.array _ _) => (match eqT P 30 t S with | some [] => true | _ => false) && !P.eqGuardType P.depth t
  | _ => false

section
variable {P : Program} {w : World} {σ : Nat → Option Nat} {Im : Nat → Prop}
theorem eqCs_app : ∀ (T U : List TD) (X Y : List Value) (b : Bool), eqCs (T ++ U) X Y = some b → ∃ p q, eqCs T X Y = some p ∧ eqCs U (X.drop T.length) (Y.drop T.length) = some q ∧ b = (p && q)
  | [], U, X, Y, b, h => ⟨true, b, rfl, h, rfl⟩
  | td :: r, U, a :: X, c :: Y, b, h => by
    simp only [List.cons_append, eqCs] at h
    split at h
    · rename_i p hp
      split at h
      · rename_i q hq
        cases h
        obtain ⟨p', q', h1, h2, h3⟩ := eqCs_app r U X Y q hq
        refine ⟨p && p', q', ?_, h2, by rw [h3, Bool.and_assoc]⟩
        simp only [eqCs, hp, h1]
      · cases h
    · cases h
  | td :: r, U, [], Y, b, h => by cases h
  | td :: r, U, _ :: _, [], b, h => by cases h
theorem eqCs_take : ∀ (T : List TD) (X Y : List Value) (n : Nat), T.length ≤ n → eqCs T (X.take n) (Y.take n) = eqCs T X Y
  | [], X, Y, n, _ => by simp [eqCs]
  | td :: r, [], Y, n, _ => by simp [eqCs]
  | td :: r, a :: X, [], n, hn => by
    obtain ⟨n, rfl⟩ : ∃ k, n = k + 1 := ⟨n - 1, by simp at hn; omega⟩
    simp [eqCs]
  | td :: r, a :: X, c :: Y, n, hn => by
    obtain ⟨n, rfl⟩ : ∃ k, n = k + 1 := ⟨n - 1, by simp at hn; omega⟩
    simp only [List.take_succ_cons, eqCs]
    rw [eqCs_take r X Y n (by simp at hn; omega)]
def EqRun (P : Program) (w : World) (D t : Nat) (T : List TD) : Prop :=
  ∀ (off : Nat) (xs ys : Array Value) (b : Bool), eqCs T (xs.toList.drop off) (ys.toList.drop off) = some b →
    ∃ A B, (part t xs off).run P w = .ok A w ∧ (part t ys off).run P w = .ok B w ∧ (Op.equalIn D t A B).run P w = .ok b w
theorem leaf_run {t : Nat} {d : TypeDesc} (hu : P.underlying t = some d) (hr : d.isRow = false) {td : TD} {D : Nat} (h : ∀ a c b, eqV1 td a c = some b → (Op.equalIn D t a c).run P w = .ok b w) : EqRun P w D t [td] := by
  intro off xs ys b he
  have hagg : (isAgg t).run P w = .ok false w := by
    unfold isAgg
    rw [Sem.run_bind, run_underlying hu w]
    cases d <;> simp_all
  have get : ∀ (zs : Array Value) a r, zs.toList.drop off = a :: r → zs[off]? = some a := fun zs a r hz => by
    have : (zs.toList.drop off)[0]? = some a := by rw [hz]; rfl
    simpa [List.getElem?_drop] using this
  cases hx : xs.toList.drop off with
  | nil => rw [hx] at he; cases he
  | cons a X =>
    cases hy : ys.toList.drop off with
    | nil => rw [hx, hy] at he; cases he
    | cons c Y =>
      rw [hx, hy] at he
      simp only [eqCs] at he
      split at he
      · rename_i p hp
        cases he
        refine ⟨a, c, ?_, ?_, by rw [Bool.and_true]; exact h a c p hp⟩
        · simp [part, Sem.run_bind, hagg, get xs a X hx]
        · simp [part, Sem.run_bind, hagg, get ys c Y hy]
      · cases he
theorem eqF_sound {rec : Nat → List TD → Option (List TD)} {D : Nat} (hrec : ∀ t S S', rec t S = some S' → ∃ T, S = T ++ S' ∧ EqRun P w D t T) :
    ∀ (l : List Field) (n : Nat) (S S' : List TD), eqF P rec l n S = some S' → S.length ≤ n → ∃ T, S = T ++ S' ∧ ∀ (xs ys : Array Value) (b : Bool), eqCs T (xs.toList.drop (n - S.length)) (ys.toList.drop (n - S.length)) = some b → (Op.eqFields D xs ys l).run P w = .ok b w
  | [], n, S, S', h, _ => by
    cases h
    exact ⟨[], rfl, fun xs ys b hb => by cases hb; rfl⟩
  | f :: r, n, S, S', h, hn => by
    unfold eqF at h
    cases hc : (f.name != "_") && Nat.beq (f.offset + S.length) n with
    | false => rw [hc] at h; cases h
    | true =>
      rw [hc] at h
      rw [Bool.and_eq_true] at hc
      have hoff : f.offset = n - S.length := by have := Nat.eq_of_beq_eq_true hc.2; omega
      have hne : f.name ≠ "_" := by simpa using hc.1
      simp only [cond_true] at h
      split at h
      · rename_i S1 h1
        obtain ⟨T1, e1, r1⟩ := hrec _ _ _ h1
        have hl : S.length = T1.length + S1.length := by rw [e1]; simp
        obtain ⟨T2, e2, r2⟩ := eqF_sound hrec r n S1 S' h (by omega)
        refine ⟨T1 ++ T2, by rw [e1, e2, List.append_assoc], fun xs ys b hb => ?_⟩
        obtain ⟨p, q, h2, h3, rfl⟩ := eqCs_app _ _ _ _ _ hb
        obtain ⟨A, B, p1, p2, p3⟩ := r1 (n - S.length) xs ys p h2
        rw [List.drop_drop, List.drop_drop] at h3
        have hd : n - S.length + T1.length = n - S1.length := by omega
        rw [hd] at h3
        have h4 := r2 xs ys q h3
        unfold Op.eqFields
        rw [if_pos hne]
        simp only [Sem.run_bind, hoff, p1, p2, p3, Result.andThen_ok]
        cases p with
        | false => simp
        | true => simp [h4]
      · cases h
theorem cellsOf_size (w : World) {e : TypeId} {i : TypeInfo} (hi : P.info? e = some i) : P.cellsOf e = i.size := by
  have := run_sizeOf w hi
  simp [sizeOf, typeInfo, hi] at this
  exact this.symm
theorem eqR_sound {rec : List TD → Option (List TD)} {D e sz : Nat} (hrec : ∀ S S', rec S = some S' → ∃ T, S = T ++ S' ∧ EqRun P w D e T) :
    ∀ (n k : Nat) (S S' : List TD), eqR rec sz n S = some S' → ∃ T, S = T ++ S' ∧ ∀ (xs ys : Array Value) (b : Bool), eqCs T (xs.toList.drop (k * sz)) (ys.toList.drop (k * sz)) = some b → (Op.eqItems D e sz xs ys (List.range' k n)).run P w = .ok b w
  | 0, k, S, S', h => by
    cases h
    exact ⟨[], rfl, fun xs ys b hb => by cases hb; simp [Op.eqItems]⟩
  | n + 1, k, S, S', h => by
    unfold eqR at h
    split at h
    · rename_i S1 h1
      cases hc : Nat.beq (S1.length + sz) S.length with
      | false => rw [hc] at h; cases h
      | true =>
        rw [hc] at h
        have hsz := Nat.eq_of_beq_eq_true hc
        obtain ⟨T1, e1, r1⟩ := hrec _ _ h1
        have hl : T1.length = sz := by have := congrArg List.length e1; simp at this; omega
        obtain ⟨T2, e2, r2⟩ := eqR_sound hrec n (k + 1) S1 S' h
        refine ⟨T1 ++ T2, by rw [e1, e2, List.append_assoc], fun xs ys b hb => ?_⟩
        obtain ⟨p, q, h2, h3, rfl⟩ := eqCs_app _ _ _ _ _ hb
        obtain ⟨A, B, p1, p2, p3⟩ := r1 (k * sz) xs ys p h2
        rw [List.drop_drop, List.drop_drop, hl, ← Nat.succ_mul] at h3
        have h4 := r2 xs ys q h3
        rw [List.range'_succ]
        unfold Op.eqItems
        simp only [Sem.run_bind, p1, p2, p3, Result.andThen_ok]
        cases p with
        | false => simp
        | true => simp [h4]
    · cases h
theorem eqT_sound : ∀ (d t : Nat) (S S' : List TD), eqT P d t S = some S' → ∀ D, d ≤ D → ∃ T, S = T ++ S' ∧ EqRun P w D t T
  | 0, t, S, S', h, _, _ => by cases h
  | d + 1, t, S, S', h, D, hD => by
    obtain ⟨D, rfl⟩ : ∃ k, D = k + 1 := ⟨D - 1, by omega⟩
    unfold eqT at h
    split at h
    · rename_i k hu
      split at h
      · rename_i k' r
        cases hk : decide (k = k') with
        | false => rw [hk] at h; cases h
        | true =>
          rw [hk] at h
          cases h
          refine ⟨[.int k'], rfl, leaf_run hu rfl fun a c b he => ?_⟩
          simp only [eqV1] at he
          split at he
          · split at he
            · rename_i k1 x _ k2 y
              cases h1 : decide (k1 = k2) with
              | false => rw [h1] at he; cases he
              | true =>
                rw [h1] at he
                cases he
                rw [of_decide_eq_true h1]
                exact run_equalIn_int w D t k2 k x y hu
            · cases he
          · cases he
      · cases h
    · rename_i hu
      split at h
      · cases h
        refine ⟨[.flt], rfl, leaf_run hu rfl fun a c b he => ?_⟩
        simp only [eqV1] at he
        split at he
        · split at he
          · cases he
            simp [Op.equalIn, run_underlying hu, Op.floatEq, feq]
          · cases he
        · cases he
      · cases h
    · rename_i hu
      split at h
      · cases h
        refine ⟨[.bool], rfl, leaf_run hu rfl fun a c b he => ?_⟩
        simp only [eqV1] at he
        split at he
        · split at he
          · cases he; exact run_equalIn_bool' w D t _ _ hu
          · cases he
        · cases he
      · cases h
    · rename_i hu
      split at h
      · cases h
        refine ⟨[.str], rfl, leaf_run hu rfl fun a c b he => ?_⟩
        simp only [eqV1] at he
        split at he
        · split at he
          · cases he; exact run_equalIn_string w D t _ _ hu
          · cases he
        · cases he
      · cases h
    · rename_i fs hu
      split at h
      · cases h
      rename_i i hi
      split at h
      · cases h
      rename_i S1 hF
      cases hc : !P.stoodInHeld t && Nat.beq (i.size + S1.length) S.length with
      | false => rw [hc] at h; cases h
      | true =>
        rw [hc] at h
        cases h
        rw [Bool.and_eq_true] at hc
        have hst : P.stoodInHeld t = false := by simpa using hc.1
        have hsz := Nat.eq_of_beq_eq_true hc.2
        obtain ⟨T, e, r⟩ := eqF_sound (w := w) (D := D) (fun t S S' h => eqT_sound d t S S' h D (by omega)) fs.toList S.length S S' hF (Nat.le_refl _)
        refine ⟨T, e, fun off xs ys b hb => ?_⟩
        have hT : i.size = T.length := by have := congrArg List.length e; simp at this; omega
        have hagg : (isAgg t).run P w = .ok true w := by
          unfold isAgg
          rw [Sem.run_bind, run_underlying hu w]
          rfl
        have hp : ∀ zs : Array Value, (part t zs off).run P w = .ok (.agg (zs.extract off (off + T.length))) w := fun zs => by
          simp [part, Sem.run_bind, hagg, sizeOf, typeInfo, hi, hT]
        refine ⟨_, _, hp xs, hp ys, ?_⟩
        have hfo : P.underlying t = some (.struct (P.fieldsOf t)) := by simp [Program.fieldsOf, hu]
        have hfe : P.fieldsOf t = fs := by simp [Program.fieldsOf, hu]
        rw [run_equalIn_struct w D t _ _ hfo hst, hfe]
        refine r _ _ b ?_
        have hz : ∀ zs : Array Value, ((zs.extract off (off + T.length)).toList).drop (S.length - S.length) = (zs.toList.drop off).take T.length := fun zs => by simp
        rw [hz, hz, eqCs_take _ _ _ _ (Nat.le_refl _)]
        exact hb
    · rename_i n e hu
      split at h
      · cases h
      rename_i i hi
      split at h
      · cases h
      rename_i it hit
      split at h
      · cases h
      rename_i S1 hF
      cases hc : Nat.beq (it.size + S1.length) S.length with
      | false => rw [hc] at h; cases h
      | true =>
        rw [hc] at h
        cases h
        have hsz := Nat.eq_of_beq_eq_true hc
        obtain ⟨T, e', r⟩ := eqR_sound (w := w) (D := D) (e := e) (fun S S' h => eqT_sound d e S S' h D (by omega)) n 0 S S' hF
        refine ⟨T, e', fun off xs ys b hb => ?_⟩
        have hT : it.size = T.length := by have := congrArg List.length e'; simp at this; omega
        have hagg : (isAgg t).run P w = .ok true w := by
          unfold isAgg
          rw [Sem.run_bind, run_underlying hu w]
          rfl
        have hp : ∀ zs : Array Value, (part t zs off).run P w = .ok (.agg (zs.extract off (off + T.length))) w := fun zs => by
          simp [part, Sem.run_bind, hagg, sizeOf, typeInfo, hit, hT]
        refine ⟨_, _, hp xs, hp ys, ?_⟩
        rw [run_equalIn_array w D _ _ hu hi, cellsOf_size w hi, List.range_eq_range']
        refine r _ _ b ?_
        have hz : ∀ zs : Array Value, ((zs.extract off (off + T.length)).toList).drop (0 * i.size) = (zs.toList.drop off).take T.length := fun zs => by simp
        rw [hz, hz, eqCs_take _ _ _ _ (Nat.le_refl _)]
        exact hb
    · cases h
theorem eqAs_cs : ∀ (S : List TD) (l m : List AV) (X Y : List Value) (b : Bool), eqAs S l m = some b → X.length = l.length → Y.length = m.length → (∀ i, i < l.length → Rd w σ Im (l.getD i .any) (X.getD i undef)) → (∀ i, i < m.length → Rd w σ Im (m.getD i .any) (Y.getD i undef)) → eqCs S X Y = some b
  | [], l, m, X, Y, b, h, _, _, _, _ => by
    unfold eqAs at h
    split at h
    · cases h; rfl
    · cases h
  | td :: r, a :: l, c :: m, x :: X, y :: Y, b, h, h1, h2, h3, h4 => by
    unfold eqAs at h
    split at h
    · rename_i p hp
      split at h
      · rename_i q hq
        cases h
        have ih := eqAs_cs r l m X Y q hq (by simpa using h1) (by simpa using h2) (fun i hi => by simpa using h3 (i + 1) (by simpa using hi)) (fun i hi => by simpa using h4 (i + 1) (by simpa using hi))
        have ra := h3 0 (by simp)
        have rb := h4 0 (by simp)
        have ra : Rd w σ Im a x := ra
        have rb : Rd w σ Im c y := rb
        have key : eqV1 td x y = some p := by
          unfold eqA1 at hp
          split at hp
          · split at hp
            · split at hp
              · split at hp
                · rename_i hk
                  cases hp
                  rw [ra.inv_int, rb.inv_int]
                  simp only [eqV1, hk, cond_true]
                · cases hp
              · cases hp
            · cases hp
          · split at hp
            · split at hp
              · cases hp
                obtain ⟨u, rfl, hu⟩ := ra.inv_flt
                obtain ⟨v, rfl, hv⟩ := rb.inv_flt
                simp only [eqV1, feq, ← hu, ← hv]
                rw [show FloatKind.f64.format.order (cn u) (cn v) = FloatKind.f64.format.order u v from ord_cn u v]
              · cases hp
            · cases hp
          · split at hp
            · split at hp
              · cases hp; rw [ra.inv_bool, rb.inv_bool]; rfl
              · cases hp
            · cases hp
          · split at hp
            · split at hp
              · cases hp; rw [ra.inv_str, rb.inv_str]; rfl
              · cases hp
            · cases hp
          · cases hp
        simp only [eqCs, key, ih]
      · cases h
    · cases h
  | td :: r, [], m, X, Y, b, h, _, _, _, _ => by cases h
  | td :: r, _ :: _, [], X, Y, b, h, _, _, _, _ => by cases h
  | td :: r, _ :: _, _ :: _, [], Y, b, h, h1, _, _, _ => by simp at h1
  | td :: r, _ :: _, _ :: _, _ :: _, [], b, h, _, h2, _, _ => by simp at h2
theorem eqS_sound {t : Nat} {S : List TD} (hS : S ≠ [] → eqTok P t S = true) (op : BinOp) (a b : AV) (A B : Value) (x y : Operand) (ha : Rd w σ Im a A) (hb : Rd w σ Im b B) :
    (eqSA S op a b).pure fun r => Pure1 P w σ Im (do eqGuard op t x y A B; binOp op t A B) r := by
  unfold eqSA
  split
  · trivial
  rename_i hne
  have hne : S ≠ [] := fun e => hne e
  have hS := hS hne
  split
  case h_2 => trivial
  rename_i l
  split
  case h_2 => trivial
  rename_i m
  split
  case h_2 => trivial
  rename_i c he
  obtain ⟨xs, rfl, h1, _, h2⟩ := ha.inv_agg
  obtain ⟨ys, rfl, h3, _, h4⟩ := hb.inv_agg
  have hS2 : ((match eqT P 30 t S with | some [] => true | _ => false) && !P.eqGuardType P.depth t) = true ∧ ((∃ fs, P.underlying t = some (.struct fs)) ∨ ∃ n e, P.underlying t = some (.array n e)) := by
    unfold eqTok at hS
    split at hS
    · exact ⟨hS, .inl ⟨_, ‹_›⟩⟩
    · exact ⟨hS, .inr ⟨_, _, ‹_›⟩⟩
    · cases hS
  obtain ⟨hS, hus⟩ := hS2
  rw [Bool.and_eq_true] at hS
  have hg : P.eqGuardType P.depth t = false := by simpa using hS.2
  have hT : eqT P 30 t S = some [] := by
    have := hS.1
    split at this
    · assumption
    · cases this
  have hcs : eqCs S xs.toList ys.toList = some c := eqAs_cs S l m xs.toList ys.toList c he (by simpa using h1) (by simpa using h3) (fun i hi => by simpa using h2 i hi) (fun i hi => by simpa using h4 i hi)
  have hrun : (Op.equal t (.agg xs) (.agg ys)).run P w = .ok c w := by
    rcases hus with ⟨fs, hu⟩ | ⟨n, e, hu⟩
    case inr =>
      unfold eqT at hT
      rw [hu] at hT
      simp only at hT
      split at hT
      · cases hT
      rename_i i hi
      split at hT
      · cases hT
      rename_i it hit
      split at hT
      · cases hT
      rename_i S1 hF
      cases hc : Nat.beq (it.size + S1.length) S.length with
      | false => rw [hc] at hT; cases hT
      | true =>
        rw [hc] at hT
        cases hT
        obtain ⟨T, e', r⟩ := eqR_sound (w := w) (D := 9999) (e := e) (fun S S' h => eqT_sound 29 e S S' h 9999 (by omega)) n 0 S [] hF
        rw [equal_unf, run_equalIn_array w 9999 _ _ hu hi, cellsOf_size w hi, List.range_eq_range']
        refine r _ _ c ?_
        have : T = S := by simpa using e'.symm
        rw [this]
        simpa using hcs
    unfold eqT at hT
    rw [hu] at hT
    simp only at hT
    split at hT
    · cases hT
    rename_i i hi
    split at hT
    · cases hT
    rename_i S1 hF
    cases hc : !P.stoodInHeld t && Nat.beq (i.size + S1.length) S.length with
    | false => rw [hc] at hT; cases hT
    | true =>
      rw [hc] at hT
      cases hT
      rw [Bool.and_eq_true] at hc
      have hst : P.stoodInHeld t = false := by simpa using hc.1
      obtain ⟨T, e, r⟩ := eqF_sound (w := w) (D := 9999) (fun t S S' h => eqT_sound 29 t S S' h 9999 (by omega)) fs.toList S.length S [] hF (Nat.le_refl _)
      have hfo : P.underlying t = some (.struct (P.fieldsOf t)) := by simp [Program.fieldsOf, hu]
      have hfe : P.fieldsOf t = fs := by simp [Program.fieldsOf, hu]
      rw [equal_unf, run_equalIn_struct w 9999 t _ _ hfo hst, hfe]
      refine r _ _ c ?_
      have : T = S := by simpa using e.symm
      rw [this]
      simpa using hcs
  have h0 : eqGuard op t x y (.agg xs) (.agg ys) = pure () ∨ True := .inr trivial
  cases op <;> simp only [eqB, SR.pure, sv, Option.getD_none, forall_const] <;> try (first | trivial | (refine ⟨trivial, trivial, ?_⟩))
  · refine pure_of (v := .bool _) ?_ (.bool _)
    rw [Sem.run_bind, run_eqGuard_agg w _ t x y xs ys hg]
    simp only [Result.andThen_ok]
    show (do pure (.bool (← Op.equal t (.agg xs) (.agg ys))) : Sem Value).run P w = _
    simp [hrun]
  · refine pure_of (v := .bool _) ?_ (.bool _)
    rw [Sem.run_bind, run_eqGuard_agg w _ t x y xs ys hg]
    simp only [Result.andThen_ok]
    show (do pure (.bool (!(← Op.equal t (.agg xs) (.agg ys)))) : Sem Value).run P w = _
    simp [hrun]
end
end Ev
end Go.Proofs.YtphdjmaebdmdmaaGreatDoor
