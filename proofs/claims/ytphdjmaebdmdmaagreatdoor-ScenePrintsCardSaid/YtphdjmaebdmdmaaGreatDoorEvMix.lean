/- The abstract machine: appends, literal slices, conversions, choices, calls with contracts. -/
import Derived.Test.YtphdjmaebdmdmaaGreatDoorEvApp
namespace Go.Proofs.YtphdjmaebdmdmaaGreatDoor
open Go.RowKit
set_option linter.unusedVariables false
set_option linter.unusedSimpArgs false
namespace Ev

def avInt : AV → Int
  | .int _ n => n
  | _ => 0
def allInt (k : IntKind) (l : List AV) : Bool := l.all fun v => match v with | .int k' _ => decide (k = k') | _ => false
/-- Integers that are appended, copied, turned into a text. -/
inductive IV where
  | no
  | ok (m : Nat) (rd : List Nat) (P : Nat → Int) (p : Prop)
def viewI (k : IntKind) (own : Nat → OB) (x : AV) : IV :=
  match x with
  | .nils => .ok 0 [] (fun _ => 0) True
  | .sl m sz g => match Nat.beq sz 1 with
    | true => .ok m [] (fun j => avInt (g j)) (∀ j, j < m → g j = .int k (avInt (g j)))
    | false => .no
  | .str s => match decide (k = .u8) with
    | true => .ok s.size [] (byteAt s) True
    | false => .no
  | .os kk sz off m => match Nat.beq sz 1 with
    | false => .no
    | true => match own kk with
      | .nums k' N P => match decide (k = k') with
        | true => .ok m [kk] (fun j => P (off + j)) (off + m ≤ N)
        | false => .no
      | .row l => match allInt k l with
        | false => .no
        | true => match l with
          | [v] => .ok m [kk] (fun _ => avInt v) (off + m ≤ 1)
          | l => .ok m [kk] (fun j => avInt (l.getD (off + j) .any)) (off + m ≤ l.length)
      | _ => .no
  | _ => .no
inductive DV where
  | no
  | ok (n : Nat) (k : Option Nat) (P : Nat → Int) (p : Prop) (b : Bool)
def dstI (kd : IntKind) (own : Nat → OB) (x : AV) : DV :=
  match x with
  | .nils => .ok 0 none (fun _ => 0) True false
  | .os kk sz off n => match Nat.beq sz 1 with
    | false => .no
    | true => match Nat.beq off 0 with
      | false => .no
      | true => match own kk with
        | .nums k' N P => match decide (kd = k') with
          | true => .ok n (some kk) P (n ≤ N) false
          | false => .no
        | .row l => match allInt kd l with
          | true => .ok n (some kk) (fun j => avInt (l.getD j .any)) (n ≤ l.length) false
          | false => .no
        | .bts N P => match decide (kd = .u8) with
          | true => .ok n (some kk) P (n ≤ N) true
          | false => .no
        | _ => .no
  | _ => .no
/-- Bytes whose type is told stay so. -/
def catOB (b : Bool) (e : Nat) (kd : IntKind) (N : Nat) (P : Nat → Int) : OB :=
  match b with
  | true => match Nat.beq e u8T with
    | true => match decide (kd = .u8) with
      | true => .bts N P
      | false => .nums kd N P
    | false => .nums kd N P
  | false => .nums kd N P
def catI (n : Nat) (k : Option Nat) (P Q : Nat → Int) : Nat → Int := match k with | none => Q | some _ => fun j => if j < n then P j else Q (j - n)
/-- Elements of any kind. -/
inductive VV where
  | no
  | ok (m : Nat) (rd : List Nat) (g : Nat → AV) (p : Prop)
def viewV (sz : Nat) (own : Nat → OB) (x : AV) : VV :=
  match x with
  | .nils => .ok 0 [] (fun _ => .any) True
  | .sl m s g => match Nat.beq s sz with
    | true => .ok m [] g True
    | false => .no
  | .os kk s off m => match Nat.beq s sz with
    | false => .no
    | true => match own kk with
      | .arr N g => .ok m [kk] (fun j => g (off + j)) (off + m * sz ≤ N)
      | .row l => match l.all imm0 with
        | false => .no
        | true => .ok m [kk] (fun j => l.getD (off + j) .any) (off + m * sz ≤ l.length)
      | _ => .no
  | _ => .no
inductive DVV where
  | no
  | ok (n : Nat) (k : Option Nat) (g : Nat → AV) (p : Prop)
def dstV (sz : Nat) (own : Nat → OB) (x : AV) : DVV :=
  match x with
  | .nils => .ok 0 none (fun _ => .any) True
  | .os kk s off n => match Nat.beq s sz with
    | false => .no
    | true => match Nat.beq off 0 with
      | false => .no
      | true => match own kk with
        | .arr N g => .ok n (some kk) g (n * sz ≤ N)
        | .row l => match l.all imm0 with
          | true => .ok n (some kk) (fun j => l.getD j .any) (n * sz ≤ l.length)
          | false => .no
        | _ => .no
  | _ => .no
/-- Rows of cells that may hold words of the call's own blocks: all of a row is taken. -/
inductive RL where
  | no
  | ok (n : Nat) (k : Option Nat) (l : List AV)
def rowL (sz : Nat) (own : Nat → OB) (x : AV) : RL :=
  match x with
  | .nils => .ok 0 none []
  | .os kk s off n => match Nat.beq s sz with
    | false => .no
    | true => match Nat.beq off 0 with
      | false => .no
      | true => match own kk with
        | .row l => match Nat.beq l.length (n * sz) with
          | true => .ok n (some kk) l
          | false => .no
        | _ => .no
  | _ => .no
def someL (k : Option Nat) : List Nat := match k with | some k => [k] | none => []
def appendR (ti : Nat → TI) (own : Nat → OB) (ix : Nat) (e : Nat) (x y : AV) : SR :=
  match rowL (ti e).size own x, rowL (ti e).size own y with
  | .ok n k l, .ok m k2 l2 => .ok (some (n + m ≤ 140737488355328 ∧ (n + m) * (ti e).bytes ≤ 140737488355328)) false (.os ix (ti e).size 0 (n + m)) (someL k2) (wrOf k) (some (.row (l ++ l2)))
  | _, _ => .no
def appendE (ti : Nat → TI) (own : Nat → OB) (ix : Nat) (e : Nat) (x y : AV) : SR :=
  match (ti e).d with
  | .other => .no
  | .int kd => match dstI kd own x, viewI kd own y with
    | .ok n k P p b, .ok m rd Q q => match Nat.beq (ti e).size 1 with
      | true => .ok (some (p ∧ q ∧ n + m ≤ 140737488355328 ∧ (n + m) * (ti e).bytes ≤ 140737488355328)) false (.os ix 1 0 (n + m)) rd (wrOf k) (some (catOB b e kd (n + m) (catI n k P Q)))
      | false => .no
    | _, _ => .no
  | _ => match dstV (ti e).size own x, viewV (ti e).size own y with
    | .ok n k g p, .ok m rd h q => .ok (some (p ∧ q ∧ n + m ≤ 140737488355328 ∧ (n + m) * (ti e).bytes ≤ 140737488355328)) false (.os ix (ti e).size 0 (n + m)) rd (wrOf k) (some (.arr ((n + m) * (ti e).size) (catA (n * (ti e).size) g h)))
    | _, _ => appendR ti own ix e x y
def appendA (ti : Nat → TI) (own : Nat → OB) (ix : Nat) (d d2 : TD) (x y : AV) : SR :=
  match d2 with
  | .sl _ | .str => match d with
    | .sl e => appendE ti own ix e x y
    | _ => .no
  | _ => .no

section
variable {P : Program} {w : World} {w0 : St0} {σ : Nat → Option Nat} {Im : Nat → Prop} {own : Nat → OB} {ix : Nat}
theorem allInt_get {k : IntKind} {l : List AV} (h : allInt k l = true) {i : Nat} (hi : i < l.length) : l.getD i .any = .int k (avInt (l.getD i .any)) := by
  have := List.all_eq_true.1 h l[i] (List.getElem_mem hi)
  have e : l.getD i .any = l[i] := by simp [List.getD, hi]
  rw [e]
  cases hv : l[i] <;> rw [hv] at this <;> simp at this
  subst this; rfl
theorem firstCells_at (sz n : Nat) (b off cap : Nat) (f : Nat → Value) (h : ∀ j, j < n * sz → w.cell? ⟨b, off + j, none⟩ = some (f j)) : (Builtin.firstCells sz n (.slice (some ⟨b, off, none⟩) n cap)).run P w = .ok ((List.range (n * sz)).map f).toArray w := by
  have := run_loadCells (P := P) w ⟨b, off, none⟩ (n * sz) f (fun j hj => by rw [add_addr]; exact h j hj)
  simpa [Builtin.firstCells] using this
theorem vw_empty (sz : Nat) (g : Nat → AV) (a : Option Addr) (c : Nat) : Vw P w σ Im sz 0 g (.slice a 0 c) := by
  refine ⟨fun _ => undef, fun j hj => by simp at hj, by simp [Builtin.lenOf], fun n => ?_⟩
  cases a <;> simp [Builtin.firstCells, loadCells, loadCellsFrom]
/-- A piece of a block of the call's own, as it is read. -/
theorem vw_own (hS : Sat w0 w σ Im own) {k b : Nat} (hl : (own k).live) (hb : σ k = some b) (sz m off cap : Nat) (g : Nat → AV) (hN : off + m * sz ≤ (own k).N) (hg : ∀ j, j < m * sz → g j = (own k).at (off + j)) : Vw P w σ Im sz m g (.slice (some ⟨b, off, none⟩) m cap) := by
  have hblk := held_blk hS hl hb
  refine ⟨fun j => if hj : j < m * sz then Classical.choose (hblk.cell (i := off + j) (by omega)) else undef, fun j hj => ?_, by simp [Builtin.lenOf], fun n => ?_⟩
  · simp only [hj, dite_true]
    obtain ⟨c1, c2, c3, c4⟩ := Classical.choose_spec (hblk.cell (i := off + j) (by omega))
    exact ⟨c3, by rw [hg j hj]; exact Rd.ofSg c4⟩
  · refine firstCells_at (w := w.drewN n) sz m b off cap _ fun j hj => ?_
    simp only [hj, dite_true, World.cell?_drewN]
    exact (Classical.choose_spec (hblk.cell (i := off + j) (by omega))).1
theorem vw_str (s : ByteArray) : Vw P w σ Im 1 s.size (fun j => .int .u8 (byteAt s j)) (.string s) := by
  refine ⟨fun j => .int .u8 (byteAt s j), fun j hj => ⟨rfl, .int _ _⟩, by simp [Builtin.lenOf], fun n => ?_⟩
  have e : ((s.extract 0 s.size).data.map fun b => (Value.int .u8 b.toNat)) = ((List.range (s.size * 1)).map fun j => Value.int .u8 (byteAt s j)).toArray := by
    apply Array.ext
    · simp
    · intro i h1 h2
      have hi : i < s.size := by simp at h1; exact h1
      have hi' : i < s.data.size := hi
      have e : s.data[i]? = some s.data[i] := Array.getElem?_eq_getElem hi'
      simp [byteAt, e]
  simp only [Builtin.firstCells, Sem.run_pure]
  rw [e]
theorem viewI_sound (hS : Sat w0 w σ Im own) {kd : IntKind} {y : AV} {Y : Value} (hy : Rd w σ Im y Y) {m : Nat} {rd : List Nat} {Q : Nat → Int} {q : Prop} (h : viewI kd own y = .ok m rd Q q) (hq : q) : Vw P w σ Im 1 m (fun j => .int kd (Q j)) Y := by
  unfold viewI at h
  split at h
  case h_1 => cases h; rw [hy.inv_nils]; exact vw_empty _ _ _ _
  case h_2 m' sz g =>
    split at h
    case h_2 => cases h
    rename_i hsz
    have hsz := Nat.eq_of_beq_eq_true hsz
    subst hsz
    cases h
    rcases hy.inv_sl with ⟨rfl, a, cap, rfl, _⟩ | ⟨b, off, cap, U, rfl, him, h1, h2, hc, hu1, hr⟩
    · exact vw_empty _ _ _ _
    · refine ⟨U, fun j hj => ⟨hu1 j hj, ?_⟩, by simp [Builtin.lenOf], fun n => firstCells_at (w := w.drewN n) 1 _ b off cap U fun j hj => hc j hj⟩
      show Rd w σ Im (.int kd (avInt (g j))) (U j)
      rw [← hq j (by omega)]
      exact (hr j hj).up
  case h_3 s =>
    split at h
    case h_2 => cases h
    rename_i hk
    have hk := of_decide_eq_true hk
    subst hk
    cases h
    rw [hy.inv_str]
    exact vw_str s
  case h_4 kk sz off m' =>
    split at h
    case h_1 => cases h
    rename_i hsz
    have hsz := Nat.eq_of_beq_eq_true hsz
    subst hsz
    split at h
    case h_1 k' N P' ho =>
      split at h
      case h_2 => cases h
      rename_i hk
      have hk := of_decide_eq_true hk
      subst hk
      cases h
      rcases hy.inv_os with ⟨rfl, a, rfl⟩ | ⟨b, cap, rfl, hb, _⟩
      · exact vw_empty _ _ _ _
      · exact vw_own hS (by rw [ho]; trivial) hb 1 _ off cap _ (by rw [ho]; show _ ≤ N; omega) (fun j hj => by rw [ho]; rfl)
    case h_2 l ho =>
      split at h
      case h_1 => cases h
      rename_i hall
      split at h
      case h_1 v =>
        cases h
        rcases hy.inv_os with ⟨rfl, a, rfl⟩ | ⟨b, cap, rfl, hb, _⟩
        · exact vw_empty _ _ _ _
        · refine vw_own hS (by rw [ho]; trivial) hb 1 _ off cap _ (by rw [ho]; show _ ≤ 1; omega) (fun j hj => ?_)
          have : off + j = 0 := by omega
          rw [ho, this]
          exact (allInt_get hall (i := 0) (by simp)).symm
      case h_2 =>
        cases h
        rcases hy.inv_os with ⟨rfl, a, rfl⟩ | ⟨b, cap, rfl, hb, _⟩
        · exact vw_empty _ _ _ _
        · refine vw_own hS (by rw [ho]; trivial) hb 1 _ off cap _ (by rw [ho]; show _ ≤ l.length; omega) (fun j hj => ?_)
          rw [ho]
          exact (allInt_get hall (i := off + j) (by omega)).symm
    case h_3 => cases h
  case h_5 => cases h
theorem catOB_cases (b : Bool) (e : Nat) (kd : IntKind) (N : Nat) (Q : Nat → Int) : catOB b e kd N Q = .nums kd N Q ∨ (catOB b e kd N Q = .bts N Q ∧ kd = .u8 ∧ e = u8T ∧ b = true) := by
  unfold catOB
  split
  · split
    · rename_i he
      split
      · rename_i hk
        exact .inr ⟨rfl, of_decide_eq_true hk, Nat.eq_of_beq_eq_true he, rfl⟩
      · exact .inl rfl
    · exact .inl rfl
  · exact .inl rfl
theorem catOB_sg {b : Bool} {e : Nat} {kd : IntKind} {N : Nat} {Q : Nat → Int} : (catOB b e kd N Q).sg σ = σ := by
  rcases catOB_cases b e kd N Q with h | ⟨h, _⟩ <;> rw [h] <;> rfl
theorem catOB_N {b : Bool} {e : Nat} {kd : IntKind} {N : Nat} {Q : Nat → Int} : (catOB b e kd N Q).N = N := by
  rcases catOB_cases b e kd N Q with h | ⟨h, _⟩ <;> rw [h] <;> rfl
theorem catOB_at {b : Bool} {e : Nat} {kd : IntKind} {N : Nat} {Q : Nat → Int} {j : Nat} : (catOB b e kd N Q).at j = .int kd (Q j) := by
  rcases catOB_cases b e kd N Q with h | ⟨h, hk, _⟩
  · rw [h]; rfl
  · rw [h, hk]; rfl
theorem catOB_ty {b : Bool} {k : Option Nat} {e : Nat} {kd : IntKind} {N : Nat} {Q : Nat → Int} (hb : b = true → ∀ kk, k = some kk → (own kk).ty = some u8T) (t' : TypeId) (ht : (catOB b e kd N Q).ty = some t') : e = t' ∧ ∀ kk, k = some kk → (own kk).ty = some t' := by
  rcases catOB_cases b e kd N Q with h | ⟨h, _, h1, h2⟩
  · rw [h] at ht; cases ht
  · rw [h] at ht
    have e1 : u8T = t' := Option.some.inj ht
    rw [← e1]; exact ⟨h1, hb h2⟩
theorem dstI_sound (hS : Sat w0 w σ Im own) {kd : IntKind} {x : AV} {X : Value} (hx : Rd w σ Im x X) {n : Nat} {k : Option Nat} {Q : Nat → Int} {q : Prop} {bb : Bool} (h : dstI kd own x = .ok n k Q q bb) (hq : q) : Dst w σ Im own 1 n k (fun j => .int kd (Q j)) X ∧ (k = none → n = 0) ∧ (bb = true → ∀ kk, k = some kk → (own kk).ty = some u8T) := by
  unfold dstI at h
  split at h
  case h_1 => cases h; rw [hx.inv_nils]; exact ⟨.inl ⟨rfl, _, rfl⟩, fun _ => rfl, fun h => by cases h⟩
  case h_2 kk sz off n' =>
    split at h
    case h_1 => cases h
    rename_i hsz
    have hsz := Nat.eq_of_beq_eq_true hsz
    subst hsz
    split at h
    case h_1 => cases h
    rename_i ho0
    have ho0 := Nat.eq_of_beq_eq_true ho0
    subst ho0
    split at h
    case h_1 k' N P' ho =>
      split at h
      case h_2 => cases h
      rename_i hk
      have hk := of_decide_eq_true hk
      subst hk
      cases h
      refine ⟨?_, (fun h => (nomatch h)), fun h => by cases h⟩
      rcases hx.inv_os with ⟨rfl, a, rfl⟩ | ⟨b, cap, rfl, hb, h1, h2, h3⟩
      · exact .inl ⟨rfl, _, rfl⟩
      · exact .inr ⟨kk, b, cap, rfl, by rw [ho]; trivial, rfl, hb, h1, h2, by omega, by rw [ho]; show _ ≤ N; omega, fun j hj => by rw [ho]; rfl⟩
    case h_2 l ho =>
      split at h
      case h_2 => cases h
      rename_i hall
      cases h
      refine ⟨?_, (fun h => (nomatch h)), fun h => by cases h⟩
      rcases hx.inv_os with ⟨rfl, a, rfl⟩ | ⟨b, cap, rfl, hb, h1, h2, h3⟩
      · exact .inl ⟨rfl, _, rfl⟩
      · exact .inr ⟨kk, b, cap, rfl, by rw [ho]; trivial, rfl, hb, h1, h2, by omega, by rw [ho]; show _ ≤ l.length; omega, fun j hj => by rw [ho]; exact (allInt_get hall (i := j) (by omega)).symm⟩
    case h_3 N P' ho =>
      split at h
      case h_2 => cases h
      rename_i hk
      have hk := of_decide_eq_true hk
      subst hk
      cases h
      refine ⟨?_, (fun h => (nomatch h)), fun _ kk h => by cases h; rw [ho]; rfl⟩
      rcases hx.inv_os with ⟨rfl, a, rfl⟩ | ⟨b, cap, rfl, hb, h1, h2, h3⟩
      · exact .inl ⟨rfl, _, rfl⟩
      · exact .inr ⟨kk, b, cap, rfl, by rw [ho]; trivial, rfl, hb, h1, h2, by omega, by rw [ho]; show _ ≤ N; omega, fun j hj => by rw [ho]; rfl⟩
    case h_4 => cases h
  case h_3 => cases h
theorem vw_arr (hS : Sat w0 w σ Im own) {k b : Nat} (hl : (own k).live) (hb : σ k = some b) (sz m off cap : Nat) (g : Nat → AV) (hN : off + m * sz ≤ (own k).N) (hg : ∀ j, j < m * sz → g j = (own k).at (off + j))
    (hi : (∃ N h, own k = .arr N h) ∨ ∀ j, j < m * sz → imm0 (g j) = true) : Vw P w (fun _ => none) Im sz m g (.slice (some ⟨b, off, none⟩) m cap) := by
  have hblk := held_blk hS hl hb
  refine ⟨fun j => if hj : j < m * sz then Classical.choose (hblk.cell (i := off + j) (by omega)) else undef, fun j hj => ?_, by simp [Builtin.lenOf], fun n => ?_⟩
  · simp only [hj, dite_true]
    obtain ⟨c1, c2, c3, c4⟩ := Classical.choose_spec (hblk.cell (i := off + j) (by omega))
    generalize Classical.choose (hblk.cell (i := off + j) (by omega)) = V at c1 c2 c3 c4 ⊢
    refine ⟨c3, ?_⟩
    rcases hi with ⟨N, h, e⟩ | hi
    · rw [hg j hj]
      have : (own k).sg σ = fun _ => none := by rw [e]; rfl
      rwa [this] at c4
    · rw [← hg j hj] at c4
      exact Rd.imm0 (hi j hj) c4
  · refine firstCells_at (w := w.drewN n) sz m b off cap _ fun j hj => ?_
    simp only [hj, dite_true, World.cell?_drewN]
    exact (Classical.choose_spec (hblk.cell (i := off + j) (by omega))).1
theorem viewV_sound (hS : Sat w0 w σ Im own) {sz : Nat} {y : AV} {Y : Value} (hy : Rd w σ Im y Y) {m : Nat} {rd : List Nat} {g : Nat → AV} {q : Prop} (h : viewV sz own y = .ok m rd g q) (hq : q) : Vw P w (fun _ => none) Im sz m g Y := by
  unfold viewV at h
  split at h
  case h_1 => cases h; rw [hy.inv_nils]; exact vw_empty _ _ _ _
  case h_2 m' s g' =>
    split at h
    case h_2 => cases h
    rename_i hsz
    have hsz := Nat.eq_of_beq_eq_true hsz
    subst hsz
    cases h
    rcases hy.inv_sl with ⟨rfl, a, cap, rfl, _⟩ | ⟨b, off, cap, U, rfl, him, h1, h2, hc, hu1, hr⟩
    · exact vw_empty _ _ _ _
    · exact ⟨U, fun j hj => ⟨hu1 j hj, hr j hj⟩, by simp [Builtin.lenOf], fun n => firstCells_at (w := w.drewN n) _ _ b off cap U fun j hj => hc j hj⟩
  case h_3 kk s off m' =>
    split at h
    case h_1 => cases h
    rename_i hsz
    have hsz := Nat.eq_of_beq_eq_true hsz
    subst hsz
    split at h
    case h_1 N g' ho =>
      cases h
      rcases hy.inv_os with ⟨rfl, a, rfl⟩ | ⟨b, cap, rfl, hb, _⟩
      · exact vw_empty _ _ _ _
      · exact vw_arr hS (by rw [ho]; trivial) hb _ _ off cap _ (by rw [ho]; exact hq) (fun j hj => by rw [ho]; rfl) (.inl ⟨_, _, ho⟩)
    case h_2 l ho =>
      split at h
      case h_1 => cases h
      rename_i hall
      cases h
      rcases hy.inv_os with ⟨rfl, a, rfl⟩ | ⟨b, cap, rfl, hb, _⟩
      · exact vw_empty _ _ _ _
      · exact vw_arr hS (by rw [ho]; trivial) hb _ _ off cap _ (by rw [ho]; exact hq) (fun j hj => by rw [ho]; rfl) (.inr fun j hj => all_getD hall _ (by omega))
    case h_3 => cases h
  case h_4 => cases h
theorem dstV_sound (hS : Sat w0 w σ Im own) {sz : Nat} {x : AV} {X : Value} (hx : Rd w σ Im x X) {n : Nat} {k : Option Nat} {g : Nat → AV} {q : Prop} (h : dstV sz own x = .ok n k g q) (hq : q) :
    Dst w σ Im own sz n k g X ∧ ∀ kk j v, k = some kk → j < n * sz → Rd w ((own kk).sg σ) Im (g j) v → Rd w (fun _ => none) Im (g j) v := by
  unfold dstV at h
  split at h
  case h_1 => cases h; rw [hx.inv_nils]; exact ⟨.inl ⟨rfl, _, rfl⟩, fun _ _ _ h => (nomatch h)⟩
  case h_2 kk s off n' =>
    split at h
    case h_1 => cases h
    rename_i hsz
    have hsz := Nat.eq_of_beq_eq_true hsz
    subst hsz
    split at h
    case h_1 => cases h
    rename_i ho0
    have ho0 := Nat.eq_of_beq_eq_true ho0
    subst ho0
    split at h
    case h_1 N g' ho =>
      cases h
      refine ⟨?_, fun k2 j v h _ hr => ?_⟩
      · rcases hx.inv_os with ⟨rfl, a, rfl⟩ | ⟨b, cap, rfl, hb, h1, h2, h3⟩
        · exact .inl ⟨rfl, _, rfl⟩
        · exact .inr ⟨kk, b, cap, rfl, by rw [ho]; trivial, rfl, hb, h1, h2, by omega, by rw [ho]; exact hq, fun j hj => by rw [ho]; rfl⟩
      · cases h; rw [ho] at hr; exact hr
    case h_2 l ho =>
      split at h
      case h_2 => cases h
      rename_i hall
      cases h
      refine ⟨?_, fun k2 j v h hj hr => ?_⟩
      · rcases hx.inv_os with ⟨rfl, a, rfl⟩ | ⟨b, cap, rfl, hb, h1, h2, h3⟩
        · exact .inl ⟨rfl, _, rfl⟩
        · exact .inr ⟨kk, b, cap, rfl, by rw [ho]; trivial, rfl, hb, h1, h2, by omega, by rw [ho]; exact hq, fun j hj => by rw [ho]; rfl⟩
      · exact Rd.imm0 (all_getD hall j (by omega)) hr
    case h_3 => cases h
  case h_3 => cases h
theorem catI_at (kd : IntKind) (n m : Nat) (k : Option Nat) (hk : k = none → n = 0) (Q R : Nat → Int) (j : Nat) : AV.int kd (catI n k Q R j) = catA (n * 1) (fun j => .int kd (Q j)) (fun j => .int kd (R j)) j := by
  unfold catI catA
  rw [Nat.mul_one]
  cases k with
  | none => rw [if_neg (by have := hk rfl; omega), hk rfl]; rfl
  | some _ => simp only []; split <;> rfl
theorem rowL_sound (hS : Sat w0 w σ Im own) {sz : Nat} {x : AV} {X : Value} (hx : Rd w σ Im x X) {n : Nat} {k : Option Nat} {l : List AV} (h : rowL sz own x = .ok n k l) :
    l.length = n * sz ∧ Dst w σ Im own sz n k (fun j => l.getD j .any) X ∧ Vw P w σ Im sz n (fun j => l.getD j .any) X ∧ ∀ kk, k = some kk → own kk = .row l := by
  unfold rowL at h
  split at h
  case h_1 => cases h; rw [hx.inv_nils]; exact ⟨by simp, .inl ⟨rfl, _, rfl⟩, vw_empty _ _ _ _, fun kk h => (nomatch h)⟩
  case h_2 kk s off n' =>
    split at h
    case h_1 => cases h
    rename_i hsz
    have hsz := Nat.eq_of_beq_eq_true hsz
    subst hsz
    split at h
    case h_1 => cases h
    rename_i ho0
    have ho0 := Nat.eq_of_beq_eq_true ho0
    subst ho0
    split at h
    case h_2 => cases h
    rename_i l' ho
    split at h
    case h_2 => cases h
    rename_i hl
    have hl := Nat.eq_of_beq_eq_true hl
    cases h
    rcases hx.inv_os with ⟨rfl, a, rfl⟩ | ⟨b, cap, rfl, hb, h1, h2, h3⟩
    · exact ⟨hl, .inl ⟨rfl, _, rfl⟩, vw_empty _ _ _ _, fun kk h => by cases h; exact ho⟩
    · refine ⟨hl, .inr ⟨kk, b, cap, rfl, by rw [ho]; trivial, rfl, hb, h1, h2, by omega, by rw [ho]; show _ ≤ l.length; omega, fun j hj => by rw [ho]; rfl⟩, ?_, fun kk h => by cases h; exact ho⟩
      exact vw_own hS (by rw [ho]; trivial) hb _ _ 0 cap _ (by rw [ho]; show _ ≤ l.length; omega) (fun j hj => by rw [ho, Nat.zero_add]; rfl)
  case h_3 => cases h
theorem appendA_sound {cx : Cx} (hcx : cx.ok P) (hS : Sat w0 w σ Im own) (hs : σ ix = none) (hx : ¬ (own ix).live) {t t2 ty : Nat} {x y : AV} {X Y : Value} (hX : Rd w σ Im x X) (hY : Rd w σ Im y Y) :
    (appendA cx.ti own ix (cx.ti t).d (cx.ti t2).d x y).runs fun r wr nw => ∃ v w', (Builtin.append_ #[t, t2] ty #[X, Y]).run P w = .ok v w' ∧ Post w0 w σ Im own ix r wr nw v w' := by
  have main : ∀ e, (cx.ti t).d = .sl e → ∀ d2, P.underlying t2 = some d2 → ((∃ e2, d2 = .slice e2) ∨ d2 = .string) →
      (appendE cx.ti own ix e x y).runs fun r wr nw => ∃ v w', (Builtin.append_ #[t, t2] ty #[X, Y]).run P w = .ok v w' ∧ Post w0 w σ Im own ix r wr nw v w' := by
    intro e hd d2 hu2 hd2
    obtain ⟨desc, _, _, hu, hd', _⟩ := (hcx.ti t (by rw [hd]; intro h; cases h)).ex
    rw [hd] at hd'
    have := tdOf_sl hd'
    subst this
    unfold appendE
    split
    case h_1 => trivial
    case h_2 kd hk =>
      have he := hcx.ti e (by rw [hk]; intro h; cases h)
      split
      case h_2 => trivial
      rename_i n k Q p bb m rd R q e1 e2
      split
      case h_2 => trivial
      rename_i hsz
      have hsz := Nat.eq_of_beq_eq_true hsz
      intro hp
      simp only [Option.getD_some] at hp
      obtain ⟨p1, p2, p3, p4⟩ := hp
      obtain ⟨d1, dk, dty⟩ := dstI_sound hS hX e1 p1
      have v1 := viewI_sound (P := P) hS hY e2 p2
      rw [← hsz] at d1 v1
      have := append_sound (ty := ty) hS hs hx he hu hu2 hd2 d1 p4 p3 (catOB bb e kd (n + m) (catI n k Q R)) (by rw [catOB_sg]; exact v1) (by rw [hsz, catOB_N]; simp) (fun j _ => by rw [hsz, catOB_at]; exact catI_at kd n m k dk Q R j) (fun _ _ _ _ _ hr => by rw [catOB_sg]; exact hr.ofSg) (catOB_ty dty)
      rwa [hsz] at this
    case h_3 hno hk =>
      have he := hcx.ti e (fun h => by rw [h] at hno; exact hno rfl)
      split
      case h_2 =>
        unfold appendR
        split
        case h_2 => trivial
        rename_i n k l m k2 l2 e1 e2
        intro hp
        simp only [Option.getD_some] at hp
        obtain ⟨p3, p4⟩ := hp
        obtain ⟨a1, a2, _, a4⟩ := rowL_sound (P := P) hS hX e1
        obtain ⟨b1, _, b3, _⟩ := rowL_sound (P := P) hS hY e2
        refine append_sound (ty := ty) hS hs hx he hu hu2 hd2 a2 p4 p3 (.row (l ++ l2)) b3 (by show (l ++ l2).length = _; rw [List.length_append, a1, b1, Nat.add_mul]) (fun j _ => ?_) (fun kk j v hk hj hr => ?_)
        · show (l ++ l2).getD j .any = _
          unfold catA
          by_cases hj : j < n * (cx.ti e).size
          · rw [if_pos hj]; simp [List.getD, List.getElem?_append_left (show j < l.length by omega)]
          · rw [if_neg hj]; simp [List.getD, List.getElem?_append_right (show l.length ≤ j by omega), a1]
        · rw [a4 kk hk] at hr
          exact hr
      rename_i n k g p m rd h q e1 e2
      intro hp
      simp only [Option.getD_some] at hp
      obtain ⟨p1, p2, p3, p4⟩ := hp
      obtain ⟨d1, d2'⟩ := dstV_sound hS hX e1 p1
      have v1 := viewV_sound (P := P) hS hY e2 p2
      exact append_sound (ty := ty) hS hs hx he hu hu2 hd2 d1 p4 p3 (.arr ((n + m) * (cx.ti e).size) (catA (n * (cx.ti e).size) g h)) v1 rfl (fun j _ => rfl) d2'
  unfold appendA
  split
  case h_1 e2 hd2 =>
    obtain ⟨desc, _, _, hu, hd', _⟩ := (hcx.ti t2 (by rw [hd2]; intro h; cases h)).ex
    rw [hd2] at hd'
    split
    case h_2 => trivial
    exact main _ ‹_› _ hu (.inl ⟨_, tdOf_sl hd'⟩)
  case h_2 hd2 =>
    obtain ⟨desc, _, _, hu, hd', _⟩ := (hcx.ti t2 (by rw [hd2]; intro h; cases h)).ex
    rw [hd2] at hd'
    split
    case h_2 => trivial
    exact main _ ‹_› _ hu (.inr (tdOf_str hd'))
  case h_3 => trivial
end
end Ev
end Go.Proofs.YtphdjmaebdmdmaaGreatDoor
