/- An abstract machine: what its values stand for, what it knows of memory. -/
import Derived.Test.YtphdjmaebdmdmaaGreatDoorTw
import Derived.Deep.MidRow
import Derived.Laws.MakeOwn
import Derived.Laws.BytesArg
namespace Go.Proofs.YtphdjmaebdmdmaaGreatDoor
open Go.RowKit
set_option linter.unusedVariables false
set_option linter.unusedSimpArgs false

/-- Abstract values. -/
inductive AV where
  | any
  | int (k : IntKind) (n : Int)
  | bool (b : Bool)
  | flt (x : Nat)
  | cpx (x y : Nat)
  | str (s : ByteArray)
  | nilp
  | nils
  | nilf
  | nili
  | ifc (t : TypeId) (v : AV)
  | own (k off : Nat)
  | os (k sz off n : Nat)
  | ref (n : Nat) (g : Nat → AV)
  | sl (n sz : Nat) (g : Nat → AV)
  | agg (l : List AV)
  | tup (l : List AV)
  | fn (f : FuncId) (caps : List AV)
  | gd (c : Bool) (r : AV)
namespace Ev

def blen (w : World) (b : Nat) : Nat := match w.heap[b]? with | some (.cells cs _ _) => cs.size | _ => 0

/-- What an abstract value stands for, in a world: σ tells the blocks of the call's own, Im those that nobody writes any more. -/
inductive Rd (w : World) : (Nat → Option Nat) → (Nat → Prop) → AV → Value → Prop
  | any {σ : Nat → Option Nat} {Im : Nat → Prop} (v : Value) : Rd w σ Im .any v
  | int {σ : Nat → Option Nat} {Im : Nat → Prop} (k n) : Rd w σ Im (.int k n) (.int k n)
  | bool {σ : Nat → Option Nat} {Im : Nat → Prop} (b) : Rd w σ Im (.bool b) (.bool b)
  | flt {σ : Nat → Option Nat} {Im : Nat → Prop} (x b) (h : cn b = x) : Rd w σ Im (.flt x) (.float .f64 b)
  | cpx {σ : Nat → Option Nat} {Im : Nat → Prop} (x y a b) (h : cn a = x) (h' : cn b = y) : Rd w σ Im (.cpx x y) (.complex .f64 a b)
  | str {σ : Nat → Option Nat} {Im : Nat → Prop} (s) : Rd w σ Im (.str s) (.string s)
  | nilp {σ : Nat → Option Nat} {Im : Nat → Prop} : Rd w σ Im .nilp (.pointer none)
  | nils {σ : Nat → Option Nat} {Im : Nat → Prop} : Rd w σ Im .nils (.slice none 0 0)
  | nilf {σ : Nat → Option Nat} {Im : Nat → Prop} : Rd w σ Im .nilf .nilFunc
  | nili {σ : Nat → Option Nat} {Im : Nat → Prop} : Rd w σ Im .nili .nilIface
  | ifc {σ : Nat → Option Nat} {Im : Nat → Prop} (t v V) (h : Rd w (fun _ => none) Im v V) : Rd w σ Im (.ifc t v) (.iface t V)
  | own {σ : Nat → Option Nat} {Im : Nat → Prop} (k off b) (h : σ k = some b) : Rd w σ Im (.own k off) (.pointer (some ⟨b, off, none⟩))
  | os {σ : Nat → Option Nat} {Im : Nat → Prop} (k sz off n b cap) (h : σ k = some b) (h1 : n ≤ cap) (h2 : cap ≤ maxLen) (h3 : off + cap * sz ≤ blen w b) : Rd w σ Im (.os k sz off n) (.slice (some ⟨b, off, none⟩) n cap)
  | os0 {σ : Nat → Option Nat} {Im : Nat → Prop} (k sz off a) : Rd w σ Im (.os k sz off 0) (.slice a 0 0)
  | ref {σ : Nat → Option Nat} {Im : Nat → Prop} (n g b off) (U : Nat → Value) (h : Im b) (hc : ∀ j, j < n → w.cell? ⟨b, off + j, none⟩ = some (U j)) (h1 : ∀ j, j < n → (U j).oneCell' = true) (hr : ∀ j, j < n → Rd w (fun _ => none) Im (g j) (U j)) : Rd w σ Im (.ref n g) (.pointer (some ⟨b, off, none⟩))
  | sl0 {σ : Nat → Option Nat} {Im : Nat → Prop} (sz g a cap) (h : cap ≤ maxLen) : Rd w σ Im (.sl 0 sz g) (.slice a 0 cap)
  | sl {σ : Nat → Option Nat} {Im : Nat → Prop} (n sz g b off cap) (U : Nat → Value) (h : Im b) (h1 : n ≤ cap) (h2 : cap ≤ maxLen) (hc : ∀ j, j < n * sz → w.cell? ⟨b, off + j, none⟩ = some (U j)) (hu : ∀ j, j < n * sz → (U j).oneCell' = true) (hr : ∀ j, j < n * sz → Rd w (fun _ => none) Im (g j) (U j)) : Rd w σ Im (.sl n sz g) (.slice (some ⟨b, off, none⟩) n cap)
  | agg {σ : Nat → Option Nat} {Im : Nat → Prop} (l cs) (h : cs.size = l.length) (h1 : ∀ i, i < l.length → (cs.getD i undef).oneCell' = true) (hr : ∀ i, i < l.length → Rd w σ Im (l.getD i .any) (cs.getD i undef)) : Rd w σ Im (.agg l) (.agg cs)
  | tup {σ : Nat → Option Nat} {Im : Nat → Prop} (l cs) (h : cs.size = l.length) (hr : ∀ i, i < l.length → Rd w σ Im (l.getD i .any) (cs.getD i undef)) : Rd w σ Im (.tup l) (.tuple cs)
  | fn {σ : Nat → Option Nat} {Im : Nat → Prop} (f l cs) (h : cs.size = l.length) (hr : ∀ i, i < l.length → Rd w σ Im (l.getD i .any) (cs.getD i undef)) : Rd w σ Im (.fn f l) (.func (.func f) #[] cs)
  | gd {σ : Nat → Option Nat} {Im : Nat → Prop} (c r v) (h : c = true → Rd w σ Im r v) (h0 : c = false → v = undef) : Rd w σ Im (.gd c r) v

/-- How the world, and what is known of it, goes on. -/
structure Go1 (w : World) (σ : Nat → Option Nat) (Im : Nat → Prop) (w' : World) (σ' : Nat → Option Nat) (Im' : Nat → Prop) : Prop where
  im : ∀ b, Im b → Im' b
  blk : ∀ b, Im b → w'.heap[b]? = w.heap[b]?
  sg : ∀ k b, σ k = some b → σ' k = some b
  len : ∀ k b, σ k = some b → blen w' b = blen w b
theorem Go1.refl (w σ Im) : Go1 w σ Im w σ Im := ⟨fun _ h => h, fun _ _ => rfl, fun _ _ h => h, fun _ _ _ => rfl⟩
theorem Go1.trans {w σ Im w1 σ1 Im1 w2 σ2 Im2} (h : Go1 w σ Im w1 σ1 Im1) (k : Go1 w1 σ1 Im1 w2 σ2 Im2) : Go1 w σ Im w2 σ2 Im2 :=
  ⟨fun b hb => k.im b (h.im b hb), fun b hb => (k.blk b (h.im b hb)).trans (h.blk b hb), fun i b hb => k.sg i b (h.sg i b hb), fun i b hb => (k.len i b (h.sg i b hb)).trans (h.len i b hb)⟩

theorem Go1.nil {w σ Im w' σ' Im'} (h : Go1 w σ Im w' σ' Im') (τ : Nat → Option Nat) : Go1 w (fun _ => none) Im w' τ Im' := ⟨h.im, h.blk, (fun _ _ h => by cases h), (fun _ _ h => by cases h)⟩
theorem Rd.mono {w σ Im w' σ' Im'} (hg : Go1 w σ Im w' σ' Im') {a : AV} {v : Value} (h : Rd w σ Im a v) : Rd w' σ' Im' a v := by
  induction h generalizing σ' with
  | any v => exact .any v
  | int k n => exact .int k n
  | bool b => exact .bool b
  | flt x b h => exact .flt x b h
  | cpx x y a b h h' => exact .cpx x y a b h h'
  | str s => exact .str s
  | nilp => exact .nilp
  | nils => exact .nils
  | nilf => exact .nilf
  | nili => exact .nili
  | ifc t v V h ih => exact .ifc t v V (ih (hg.nil _))
  | own k off b h => exact .own k off b (hg.sg k b h)
  | os k sz off n b cap h h1 h2 h3 => exact .os k sz off n b cap (hg.sg k b h) h1 h2 (by rw [hg.len k b h]; exact h3)
  | os0 k sz off a => exact .os0 k sz off a
  | ref n g b off U h hc h1 hr ih => exact .ref n g b off U (hg.im b h) (fun j hj => (World.cell?_of_block (w := w) (a := ⟨b, off + j, none⟩) (hg.blk b h)).trans (hc j hj)) h1 fun j hj => ih j hj (hg.nil _)
  | sl0 sz g a cap h => exact .sl0 sz g a cap h
  | sl n sz g b off cap U h h1 h2 hc hu hr ih => exact .sl n sz g b off cap U (hg.im b h) h1 h2 (fun j hj => (World.cell?_of_block (w := w) (a := ⟨b, off + j, none⟩) (hg.blk b h)).trans (hc j hj)) hu fun j hj => ih j hj (hg.nil _)
  | agg l cs h h1 hr ih => exact .agg l cs h h1 fun i hi => ih i hi hg
  | tup l cs h hr ih => exact .tup l cs h fun i hi => ih i hi hg
  | fn f l cs h hr ih => exact .fn f l cs h fun i hi => ih i hi hg
  | gd c r v h h0 ih => exact .gd c r v (fun hc => ih hc hg) h0
theorem Rd.up {w σ Im} {a : AV} {v : Value} (h : Rd w (fun _ => none) Im a v) : Rd w σ Im a v :=
  h.mono ⟨fun _ h => h, fun _ _ => rfl, (fun _ _ h => by cases h), (fun _ _ h => by cases h)⟩
/-- No word of the call's own blocks. -/
def imm0 : AV → Bool
  | .own _ _ | .os _ _ _ _ | .agg _ | .tup _ | .fn _ _ | .gd _ _ => false
  | _ => true
def imm : AV → Bool
  | .agg l | .tup l | .fn _ l => l.all imm0
  | v => imm0 v
theorem Rd.imm0 {w σ Im} {a : AV} {v : Value} (hi : imm0 a = true) (h : Rd w σ Im a v) {τ : Nat → Option Nat} : Rd w τ Im a v := by
  cases h <;> first | (cases hi; done) | skip
  · exact .any _
  · exact .int _ _
  · exact .bool _
  · exact .flt _ _ ‹_›
  · exact .cpx _ _ _ _ ‹_› ‹_›
  · exact .str _
  · exact .nilp
  · exact .nils
  · exact .nilf
  · exact .nili
  · exact .ifc _ _ _ ‹_›
  · exact .ref _ _ _ _ _ ‹_› ‹_› ‹_› ‹_›
  · exact .sl0 _ _ _ _ ‹_›
  · exact .sl _ _ _ _ _ _ _ ‹_› ‹_› ‹_› ‹_› ‹_› ‹_›
theorem all_getD {l : List AV} (h : l.all Ev.imm0 = true) (i : Nat) (hi : i < l.length) : Ev.imm0 (l.getD i .any) = true := by
  have := List.all_eq_true.1 h l[i] (List.getElem_mem hi)
  simpa [List.getD, hi] using this
theorem Rd.imm {w σ Im} {a : AV} {v : Value} (hi : imm a = true) (h : Rd w σ Im a v) {τ : Nat → Option Nat} : Rd w τ Im a v := by
  cases h <;> first | exact .agg _ _ ‹_› ‹_› (fun i hl => Rd.imm0 (all_getD hi i hl) (by rename_i hr; exact hr i hl)) | exact .tup _ _ ‹_› (fun i hl => Rd.imm0 (all_getD hi i hl) (by rename_i hr; exact hr i hl)) | exact .fn _ _ _ ‹_› (fun i hl => Rd.imm0 (all_getD hi i hl) (by rename_i hr; exact hr i hl)) | skip
  · exact .any _
  · exact .int _ _
  · exact .bool _
  · exact .flt _ _ ‹_›
  · exact .cpx _ _ _ _ ‹_› ‹_›
  · exact .str _
  · exact .nilp
  · exact .nils
  · exact .nilf
  · exact .nili
  · exact .ifc _ _ _ ‹_›
  · cases hi
  · cases hi
  · cases hi
  · exact .ref _ _ _ _ _ ‹_› ‹_› ‹_› ‹_›
  · exact .sl0 _ _ _ _ ‹_›
  · exact .sl _ _ _ _ _ _ _ ‹_› ‹_› ‹_› ‹_› ‹_› ‹_›
  · cases hi
section
variable {w : World} {σ : Nat → Option Nat} {Im : Nat → Prop} {v : Value}
theorem Rd.inv_int {k n} (h : Rd w σ Im (.int k n) v) : v = .int k n := by cases h; rfl
theorem Rd.inv_bool {b} (h : Rd w σ Im (.bool b) v) : v = .bool b := by cases h; rfl
theorem Rd.inv_flt {x} (h : Rd w σ Im (.flt x) v) : ∃ b, v = .float .f64 b ∧ cn b = x := by cases h; exact ⟨_, rfl, ‹_›⟩
theorem Rd.inv_str {s} (h : Rd w σ Im (.str s) v) : v = .string s := by cases h; rfl
theorem Rd.inv_own {k off} (h : Rd w σ Im (.own k off) v) : ∃ b, v = .pointer (some ⟨b, off, none⟩) ∧ σ k = some b := by cases h; exact ⟨_, rfl, ‹_›⟩
theorem Rd.inv_nils (h : Rd w σ Im .nils v) : v = .slice none 0 0 := by cases h; rfl
theorem Rd.inv_os {k sz off n} (h : Rd w σ Im (.os k sz off n) v) : (n = 0 ∧ ∃ a, v = .slice a 0 0) ∨ ∃ b cap, v = .slice (some ⟨b, off, none⟩) n cap ∧ σ k = some b ∧ n ≤ cap ∧ cap ≤ maxLen ∧ off + cap * sz ≤ blen w b := by
  cases h
  · exact .inr ⟨_, _, rfl, ‹_›, ‹_›, ‹_›, ‹_›⟩
  · exact .inl ⟨rfl, _, rfl⟩
theorem Rd.inv_ref {n g} (h : Rd w σ Im (.ref n g) v) : ∃ (b off : Nat) (U : Nat → Value), v = .pointer (some ⟨b, off, none⟩) ∧ Im b ∧ (∀ j, j < n → w.cell? ⟨b, off + j, none⟩ = some (U j)) ∧ (∀ j, j < n → (U j).oneCell' = true) ∧ ∀ j, j < n → Rd w (fun _ => none) Im (g j) (U j) := by
  cases h; exact ⟨_, _, _, rfl, ‹_›, ‹_›, ‹_›, ‹_›⟩
theorem Rd.inv_sl {n sz g} (h : Rd w σ Im (.sl n sz g) v) : (n = 0 ∧ ∃ a cap, v = .slice a 0 cap ∧ cap ≤ maxLen) ∨ ∃ (b off cap : Nat) (U : Nat → Value), v = .slice (some ⟨b, off, none⟩) n cap ∧ Im b ∧ n ≤ cap ∧ cap ≤ maxLen ∧
    (∀ j, j < n * sz → w.cell? ⟨b, off + j, none⟩ = some (U j)) ∧ (∀ j, j < n * sz → (U j).oneCell' = true) ∧ ∀ j, j < n * sz → Rd w (fun _ => none) Im (g j) (U j) := by
  cases h
  · exact .inl ⟨rfl, _, _, rfl, ‹_›⟩
  · exact .inr ⟨_, _, _, _, rfl, ‹_›, ‹_›, ‹_›, ‹_›, ‹_›, ‹_›⟩
theorem Rd.inv_agg {l} (h : Rd w σ Im (.agg l) v) : ∃ cs, v = .agg cs ∧ cs.size = l.length ∧ (∀ i, i < l.length → (cs.getD i undef).oneCell' = true) ∧ ∀ i, i < l.length → Rd w σ Im (l.getD i .any) (cs.getD i undef) := by
  cases h; exact ⟨_, rfl, ‹_›, ‹_›, ‹_›⟩
theorem Rd.inv_tup {l} (h : Rd w σ Im (.tup l) v) : ∃ cs, v = .tuple cs ∧ cs.size = l.length ∧ ∀ i, i < l.length → Rd w σ Im (l.getD i .any) (cs.getD i undef) := by
  cases h; exact ⟨_, rfl, ‹_›, ‹_›⟩
theorem Rd.inv_fn {f l} (h : Rd w σ Im (.fn f l) v) : ∃ cs, v = .func (.func f) #[] cs ∧ cs.size = l.length ∧ ∀ i, i < l.length → Rd w σ Im (l.getD i .any) (cs.getD i undef) := by
  cases h; exact ⟨_, rfl, ‹_›, ‹_›⟩
theorem Rd.inv_gd {c r} (h : Rd w σ Im (.gd c r) v) (hc : c = true) : Rd w σ Im r v := by cases h with | gd _ _ _ h _ => exact h hc
theorem Rd.inv_gd0 {c r} (h : Rd w σ Im (.gd c r) v) (hc : c = false) : v = undef := by cases h with | gd _ _ _ _ h => exact h hc
end

theorem Rd.inv_ifc {w : World} {σ : Nat → Option Nat} {Im : Nat → Prop} {t : TypeId} {a : AV} {v : Value} (h : Rd w σ Im (.ifc t a) v) : ∃ V, v = .iface t V ∧ Rd w (fun _ => none) Im a V := by cases h; exact ⟨_, rfl, ‹_›⟩
theorem Rd.inv_nili {w : World} {σ : Nat → Option Nat} {Im : Nat → Prop} {v : Value} (h : Rd w σ Im .nili v) : v = .nilIface := by cases h; rfl
theorem Rd.inv_cpx {w : World} {σ : Nat → Option Nat} {Im : Nat → Prop} {x y : Nat} {v : Value} (h : Rd w σ Im (.cpx x y) v) : ∃ a b, v = .complex .f64 a b ∧ cn a = x ∧ cn b = y := by cases h; exact ⟨_, _, rfl, ‹_›, ‹_›⟩

/-- What is known of a block of the call's own. -/
inductive OB where
  | row (l : List AV)
  | nums (k : IntKind) (N : Nat) (P : Nat → Int)
  | arr (N : Nat) (g : Nat → AV)
  | gone
  | bts (N : Nat) (P : Nat → Int)
def OB.N : OB → Nat
  | .row l => l.length
  | .nums _ N _ => N
  | .arr N _ => N
  | .gone => 0
  | .bts N _ => N
def OB.at : OB → Nat → AV
  | .row l, i => l.getD i .any
  | .nums k _ P, i => .int k (P i)
  | .arr _ g, i => g i
  | .gone, _ => .any
  | .bts _ P, i => .int .u8 (P i)
/-- Bytes whose type is told. -/
def OB.ty : OB → Option TypeId
  | .bts _ _ => some u8T
  | _ => none
/-- Of the elements of an array that grows no word of the call's own blocks is let in. -/
def OB.sg (ob : OB) (σ : Nat → Option Nat) : Nat → Option Nat := match ob with | .arr _ _ => fun _ => none | _ => σ
def OB.live : OB → Prop
  | .gone => False
  | _ => True

/-- None of its cells is frozen, and what is frozen lies in order. -/
def FrB (w : World) (b : Nat) (T : Option TypeId) : Prop := (∀ i, i < blen w b → w.frozen? ⟨b, i, none⟩ = false) ∧ ∀ cs t lo hi, w.heap[b]? = some (.cells cs t (lo, hi)) → lo ≤ hi ∧ ∀ t', T = some t' → t = t'
/-- Its first n cells. -/
def Blk (w : World) (b n : Nat) (f : Nat → Value → Prop) (T : Option TypeId) : Prop :=
  n ≤ blen w b ∧ FrB w b T ∧ ∀ i, i < n → ∃ v, w.cell? ⟨b, i, none⟩ = some v ∧ v.oneCell' = true ∧ f i v

def Held (K : Nat → Prop) (w : World) (σ : Nat → Option Nat) (Im : Nat → Prop) (k : Nat) (ob : OB) : Prop :=
  (ob.N = 0 ∧ σ k = none) ∨ ∃ b, σ k = some b ∧ ¬ Im b ∧ ¬ K b ∧ Blk w b ob.N (fun i v => Rd w (ob.sg σ) Im (ob.at i) v) ob.ty

/-- Where a call began: the world, and the blocks that nobody writes. -/
structure St0 extends World where
  im0 : Nat → Prop
  kp : Nat → Prop
  kpl : ∀ b, kp b → b < heap.size
  gl : Nat
  glk : ∀ b, b < gl → kp b
  tw : ∀ w' : World, Below gl toWorld w' → TW w'
/-- What was to be kept is kept. -/
structure Keep (w0 : St0) (w : World) : Prop where
  os : w.os = w0.os
  tape : w.tape = w0.tape
  output : w.output = w0.output
  size : w0.heap.size ≤ w.heap.size
  block : ∀ b, w0.kp b → w.heap[b]? = w0.heap[b]?
theorem Keep.lt {w0 : St0} {w : World} (h : Keep w0 w) {b : Nat} (hb : w.heap.size ≤ b) : ¬ w0.kp b := fun hc => by
  have := w0.kpl b hc; have := h.size; omega
theorem Keep.below {w0 : St0} {w w' : World} (h : Keep w0 w) (hb : Below w.heap.size w w') : Keep w0 w' :=
  ⟨hb.os.trans h.os, hb.tape.trans h.tape, hb.output.trans h.output, Nat.le_trans h.size hb.size, fun b hk => (hb.block b (Nat.lt_of_lt_of_le (w0.kpl b hk) h.size)).trans (h.block b hk)⟩
theorem Keep.tw {w0 : St0} {w : World} (h : Keep w0 w) : TW w := w0.tw w ⟨h.os, h.tape, h.output, h.size, fun b hb => h.block b (w0.glk b hb)⟩
structure Sat (w0 : St0) (w : World) (σ : Nat → Option Nat) (Im : Nat → Prop) (own : Nat → OB) : Prop where
  bel : Keep w0 w
  im : ∀ b, Im b → b < w.heap.size
  sg : ∀ k b, σ k = some b → b < w.heap.size
  held : ∀ k, (own k).live → Held w0.kp w σ Im k (own k)
  inj : ∀ k k' b, (own k).live → (own k').live → σ k = some b → σ k' = some b → k = k'
  imB : ∀ b, Im b → w0.im0 b ∨ ¬ w0.kp b
  sgB : ∀ k b, σ k = some b → ¬ w0.kp b

def upd {α : Type} (f : Nat → α) (d : Nat) (v : α) : Nat → α := fun t => bif Nat.beq t d then v else f t
theorem upd_same {α : Type} (f : Nat → α) (d : Nat) (v : α) : upd f d v d = v := by simp [upd]
theorem upd_other {α : Type} (f : Nat → α) (d : Nat) (v : α) {t : Nat} (h : t ≠ d) : upd f d v t = f t := by
  have : Nat.beq t d = false := by
    cases hb : Nat.beq t d
    · rfl
    · exact absurd (Nat.eq_of_beq_eq_true hb) h
  unfold upd; rw [this]; rfl
theorem upd_cases {α : Type} (f : Nat → α) (d : Nat) (v : α) (t : Nat) : (t = d ∧ upd f d v t = v) ∨ (t ≠ d ∧ upd f d v t = f t) := by
  by_cases h : t = d
  · subst h; exact .inl ⟨rfl, upd_same _ _ _⟩
  · exact .inr ⟨h, upd_other _ _ _ h⟩

theorem Go1.sg' {w σ Im w' σ' Im'} (hg : Go1 w σ Im w' σ' Im') (ob : OB) : Go1 w (ob.sg σ) Im w' (ob.sg σ') Im' := by
  cases ob <;> first | exact hg | exact hg.nil _
theorem Rd.ofSg {w σ Im} {ob : OB} {a : AV} {v : Value} (h : Rd w (ob.sg σ) Im a v) : Rd w σ Im a v := by
  cases ob <;> first | exact h | exact h.up
theorem Blk.mono {w w' : World} {b n : Nat} {f g : Nat → Value → Prop} {T : Option TypeId} (h : Blk w b n f T) (hb : w'.heap[b]? = w.heap[b]?) (hfg : ∀ i v, f i v → g i v) : Blk w' b n g T := by
  obtain ⟨h1, h2, h3⟩ := h
  have hl : blen w' b = blen w b := by unfold blen; rw [hb]
  refine ⟨by omega, ⟨fun i hi => (World.frozen?_of_block (w := w) (a := ⟨b, i, none⟩) hb).trans (h2.1 i (by omega)), fun cs t lo hi hh => h2.2 cs t lo hi (hb ▸ hh)⟩, fun i hi => ?_⟩
  obtain ⟨v, k1, k2, k3⟩ := h3 i hi
  exact ⟨v, (World.cell?_of_block (w := w) (a := ⟨b, i, none⟩) hb).trans k1, k2, hfg _ _ k3⟩
theorem Blk.cell {w : World} {b n : Nat} {f : Nat → Value → Prop} {T : Option TypeId} (h : Blk w b n f T) {i : Nat} (hi : i < n) : ∃ v, w.cell? ⟨b, i, none⟩ = some v ∧ w.frozen? ⟨b, i, none⟩ = false ∧ v.oneCell' = true ∧ f i v := by
  obtain ⟨h1, h2, h3⟩ := h
  obtain ⟨v, k1, k2, k3⟩ := h3 i hi
  exact ⟨v, k1, h2.1 i (by omega), k2, k3⟩
theorem blen_cells {w : World} {b : Nat} {cs : Array Value} {t : TypeId} {fr : Nat × Nat} (h : w.heap[b]? = some (.cells cs t fr)) : blen w b = cs.size := by
  unfold blen; rw [h]
theorem Blk.new (w : World) (cs : Array Value) (t : TypeId) {n : Nat} {f : Nat → Value → Prop} {T : Option TypeId} (hT : ∀ t', T = some t' → t = t') (hn : n ≤ cs.size) (h : ∀ i, i < n → (cs.getD i undef).oneCell' = true ∧ f i (cs.getD i undef)) : Blk (w.alloc (.cells cs t)) w.heap.size n f T := by
  have hh := heap_alloc_new w (.cells cs t)
  have hl := blen_cells hh
  refine ⟨by omega, ⟨fun i _ => by unfold World.frozen?; simp only [hh]; simp, fun cs' t' lo hi h' => by
    rw [hh] at h'; cases h'; exact ⟨Nat.le_refl _, hT⟩⟩, fun i hi => ⟨cs.getD i undef, ?_, (h i hi).1, (h i hi).2⟩⟩
  have : i < cs.size := by omega
  unfold World.cell?
  simp only [hh]
  simp [this]

/-- Something that leaves alone what is known, and makes nothing that is told. -/
theorem Sat.go {w0 : St0} {w w' σ Im Im' own} (h : Sat w0 w σ Im own) (hb : Below w.heap.size w w') (hi : ∀ b, Im b → Im' b) (hi2 : ∀ b, Im' b → Im b ∨ (w.heap.size ≤ b ∧ b < w'.heap.size)) :
    Go1 w σ Im w' σ Im' ∧ Sat w0 w' σ Im' own := by
  have hg : Go1 w σ Im w' σ Im' := ⟨hi, fun b hb' => hb.block b (h.im b hb'), fun _ _ h => h, fun k b hk => by unfold blen; rw [hb.block b (h.sg k b hk)]⟩
  refine ⟨hg, ⟨h.bel.below hb, ?_, fun k b hk => Nat.lt_of_lt_of_le (h.sg k b hk) hb.size, ?_, h.inj, (fun b hb' => (hi2 b hb').elim (h.imB b) fun h1 => .inr (h.bel.lt h1.1)), h.sgB⟩⟩
  · intro b hb'
    rcases hi2 b hb' with h1 | h1
    · exact Nat.lt_of_lt_of_le (h.im b h1) hb.size
    · exact h1.2
  · intro k hk
    rcases h.held k hk with h1 | ⟨b, h1, h2, h3, h4⟩
    · exact .inl h1
    · refine .inr ⟨b, h1, ?_, h3, h4.mono (hb.block b (h.sg k b h1)) fun i v hv => hv.mono (hg.sg' _)⟩
      intro hc
      rcases hi2 b hc with h5 | h5
      · exact h2 h5
      · have := h.sg k b h1; omega

theorem heap_alloc_ne (w : World) (o : Obj) {b : Nat} (h : b < w.heap.size) : (w.alloc o).heap[b]? = w.heap[b]? := Below.heap_alloc w o b h

/-- A new block of the call's own. -/
theorem Sat.alloc {w0 : St0} {w σ Im own} (h : Sat w0 w σ Im own) {ix : Nat} (hs : σ ix = none) (hx : ¬ (own ix).live) (cs : Array Value) (t : TypeId) (ob : OB) (hn : ob.N ≤ cs.size)
    (hc : ∀ i, i < ob.N → (cs.getD i undef).oneCell' = true ∧ Rd w (ob.sg σ) Im (ob.at i) (cs.getD i undef)) (hT : ∀ t', ob.ty = some t' → t = t' := by intro _ h; cases h) :
    Go1 w σ Im (w.alloc (.cells cs t)) (upd σ ix (some w.heap.size)) Im ∧ Sat w0 (w.alloc (.cells cs t)) (upd σ ix (some w.heap.size)) Im (upd own ix ob) := by
  have hsz : (w.alloc (.cells cs t)).heap.size = w.heap.size + 1 := by simp
  have hup : ∀ k b, σ k = some b → upd σ ix (some w.heap.size) k = some b := fun k b hk => by
    rw [upd_other]
    · exact hk
    · rintro rfl; rw [hs] at hk; cases hk
  have hg : Go1 w σ Im (w.alloc (.cells cs t)) (upd σ ix (some w.heap.size)) Im :=
    ⟨fun _ h => h, fun b hb => heap_alloc_ne w _ (h.im b hb), hup, fun k b hk => by unfold blen; rw [heap_alloc_ne w _ (h.sg k b hk)]⟩
  refine ⟨hg, ⟨h.bel.below ((Below.refl _ _).alloc (Nat.le_refl _) _), fun b hb => by have := h.im b hb; omega, ?_, ?_, ?_, h.imB, (fun k b hk => by
    rcases upd_cases σ ix (some w.heap.size) k with ⟨rfl, e⟩ | ⟨hne, e⟩
    · rw [e] at hk; cases hk; exact h.bel.lt (Nat.le_refl _)
    · rw [e] at hk; exact h.sgB k b hk)⟩⟩
  · intro k b hk
    rcases upd_cases σ ix (some w.heap.size) k with ⟨rfl, e⟩ | ⟨hne, e⟩
    · rw [e] at hk; cases hk; omega
    · rw [e] at hk; have := h.sg k b hk; omega
  · intro k hk
    rcases upd_cases own ix ob k with ⟨rfl, e⟩ | ⟨hne, e⟩
    · rw [e]
      refine .inr ⟨w.heap.size, upd_same _ _ _, fun hc => by have := h.im _ hc; omega, h.bel.lt (Nat.le_refl _), Blk.new w cs t hT hn fun i hi => ⟨(hc i hi).1, (hc i hi).2.mono (hg.sg' ob)⟩⟩
    · rw [e] at hk ⊢
      rcases h.held k hk with h1 | ⟨b, h1, h2, h3, h4⟩
      · exact .inl ⟨h1.1, by rw [upd_other _ _ _ hne]; exact h1.2⟩
      · exact .inr ⟨b, hup k b h1, h2, h3, h4.mono (heap_alloc_ne w _ (h.sg k b h1)) fun i v hv => hv.mono (hg.sg' _)⟩
  · intro k k' b hk hk' e e'
    rcases upd_cases own ix ob k with ⟨rfl, f⟩ | ⟨hne, f⟩
    · rw [upd_same] at e
      rcases upd_cases own k ob k' with ⟨rfl, f'⟩ | ⟨hne', f'⟩
      · rfl
      · rw [upd_other _ _ _ hne'] at e'
        have := h.sg k' b e'
        cases e; omega
    · rw [upd_other _ _ _ hne] at e
      rcases upd_cases own ix ob k' with ⟨rfl, f'⟩ | ⟨hne', f'⟩
      · rw [upd_same] at e'
        have := h.sg k b e
        cases e'; omega
      · rw [upd_other _ _ _ hne'] at e'
        rw [f] at hk; rw [f'] at hk'
        exact h.inj k k' b hk hk' e e'

/-- A block of the call's own is written. -/
theorem Sat.write {w0 : St0} {w σ Im own} (h : Sat w0 w σ Im own) {k b : Nat} (hk : (own k).live) (hs : σ k = some b) (w' : World) (hos : w'.os = w.os) (htp : w'.tape = w.tape) (hou : w'.output = w.output) (hsz : w'.heap.size = w.heap.size) (hne : ∀ i, i ≠ b → w'.heap[i]? = w.heap[i]?)
    (ob : OB) (hlen : blen w' b = blen w b) (hB : Blk w' b ob.N (fun i v => Rd w (ob.sg σ) Im (ob.at i) v) ob.ty) :
    Go1 w σ Im w' σ Im ∧ Sat w0 w' σ Im (upd own k ob) := by
  have hnim : ¬ Im b := by
    rcases h.held k hk with h1 | ⟨b', h1, h2, h3, h4⟩
    · rw [h1.2] at hs; cases hs
    · rw [hs] at h1; cases h1; exact h2
  have hB0 : ¬ w0.kp b := by
    rcases h.held k hk with h1 | ⟨b', h1, h2, h3, h4⟩
    · rw [h1.2] at hs; cases hs
    · rw [hs] at h1; cases h1; exact h3
  have hg : Go1 w σ Im w' σ Im := ⟨fun _ h => h, fun i hi => hne i (fun e => hnim (e ▸ hi)), fun _ _ h => h, fun k' b' hk' => by
    by_cases e : b' = b
    · subst e; exact hlen
    · unfold blen; rw [hne b' e]⟩
  refine ⟨hg, ⟨⟨hos.trans h.bel.os, htp.trans h.bel.tape, hou.trans h.bel.output, by rw [hsz]; exact h.bel.size, fun i hi => (hne i (fun e => hB0 (e ▸ hi))).trans (h.bel.block i hi)⟩, fun i hi => by rw [hsz]; exact h.im i hi, fun k' b' hk' => by rw [hsz]; exact h.sg k' b' hk', ?_, ?_, h.imB, h.sgB⟩⟩
  · intro k' hk'
    rcases upd_cases own k ob k' with ⟨rfl, e⟩ | ⟨hne', e⟩
    · rw [e]
      exact .inr ⟨b, hs, hnim, hB0, hB.mono rfl fun i v hv => hv.mono (hg.sg' _)⟩
    · rw [e] at hk' ⊢
      rcases h.held k' hk' with h1 | ⟨b', h1, h2, h3, h4⟩
      · exact .inl h1
      · refine .inr ⟨b', h1, h2, h3, h4.mono (hne b' ?_) fun i v hv => hv.mono (hg.sg' _)⟩
        rintro rfl
        exact hne' (h.inj k' k b' hk' hk h1 hs)
  · intro k1 k2 b' h1 h2 e1 e2
    have L : ∀ i, (upd own k ob i).live → (own i).live := fun i hi => by
      rcases upd_cases own k ob i with ⟨rfl, e⟩ | ⟨_, e⟩
      · exact hk
      · rwa [e] at hi
    exact h.inj k1 k2 b' (L _ h1) (L _ h2) e1 e2

/-- A block of the call's own is given up. -/
theorem Sat.drop {w0 : St0} {w σ Im own} (h : Sat w0 w σ Im own) (k : Nat) : Sat w0 w σ Im (upd own k .gone) := by
  have L : ∀ i, (upd own k .gone i).live → (own i).live ∧ upd own k .gone i = own i := fun i hi => by
    rcases upd_cases own k .gone i with ⟨rfl, e⟩ | ⟨_, e⟩
    · rw [e] at hi; exact hi.elim
    · rw [e] at hi; exact ⟨hi, e⟩
  exact ⟨h.bel, h.im, h.sg, fun i hi => by rw [(L i hi).2]; exact h.held i (L i hi).1, fun i j b hi hj => h.inj i j b (L i hi).1 (L j hj).1, h.imB, h.sgB⟩
/-- A block of the call's own becomes one that nobody writes. -/
theorem Sat.shut {w0 : St0} {w σ Im own} (h : Sat w0 w σ Im own) {k b : Nat} (hk : (own k).live) (hs : σ k = some b) :
    Go1 w σ Im w σ (fun i => Im i ∨ i = b) ∧ Sat w0 w σ (fun i => Im i ∨ i = b) (upd own k .gone) := by
  have hg : Go1 w σ Im w σ (fun i => Im i ∨ i = b) := ⟨fun _ h => .inl h, fun _ _ => rfl, fun _ _ h => h, fun _ _ _ => rfl⟩
  have L : ∀ i, (upd own k .gone i).live → i ≠ k ∧ (own i).live ∧ upd own k .gone i = own i := fun i hi => by
    rcases upd_cases own k .gone i with ⟨rfl, e⟩ | ⟨hne, e⟩
    · rw [e] at hi; exact hi.elim
    · rw [e] at hi; exact ⟨hne, hi, e⟩
  refine ⟨hg, ⟨h.bel, ?_, h.sg, ?_, fun i j b hi hj => h.inj i j b (L i hi).2.1 (L j hj).2.1, (fun i hi => hi.elim (h.imB i) fun e => .inr (by rw [e]; exact h.sgB k b hs)), h.sgB⟩⟩
  · rintro i (hi | rfl)
    · exact h.im i hi
    · exact h.sg k _ hs
  · intro i hi
    obtain ⟨hne, hl, e⟩ := L i hi
    rw [e]
    rcases h.held i hl with h1 | ⟨b', h1, h2, h3, h4⟩
    · exact .inl h1
    · refine .inr ⟨b', h1, ?_, h3, h4.mono rfl fun i v hv => hv.mono (hg.sg' _)⟩
      rintro (hc | rfl)
      · exact h2 hc
      · exact hne (h.inj i k b' hl hk h1 hs)

theorem setCells_ord (b : Nat) (T : Option TypeId) : ∀ (vs : List Value) (o : Nat) (w : World), (∀ cs t lo hi, w.heap[b]? = some (.cells cs t (lo, hi)) → lo ≤ hi ∧ ∀ t', T = some t' → t = t') → ∀ cs t lo hi, (w.setCells b o vs).heap[b]? = some (.cells cs t (lo, hi)) → lo ≤ hi ∧ ∀ t', T = some t' → t = t'
  | [], _, _, h => h
  | v :: r, o, w, h => by
    rw [World.setCells]
    refine setCells_ord b T r (o + 1) _ fun cs t lo hi hh => ?_
    unfold World.setCell at hh
    rw [Array.getElem?_modify, if_pos rfl] at hh
    cases hb : w.heap[b]? with
    | none => rw [hb] at hh; cases hh
    | some obj =>
      rw [hb] at hh
      cases obj with
      | cells cs' t' fr =>
        obtain ⟨lo', hi'⟩ := fr
        simp only [Option.map_some, Option.some.injEq] at hh
        cases hh
        exact h _ _ _ _ hb
      | _ => simp only [Option.map_some, Option.some.injEq] at hh; cases hh
theorem setCells_heap (b : Nat) : ∀ (vs : List Value) (o : Nat) (w : World), (w.setCells b o vs).os = w.os ∧ (w.setCells b o vs).tape = w.tape ∧ (w.setCells b o vs).output = w.output ∧ (w.setCells b o vs).heap.size = w.heap.size ∧ (∀ i, i ≠ b → (w.setCells b o vs).heap[i]? = w.heap[i]?) ∧ blen (w.setCells b o vs) b = blen w b
  | [], o, w => ⟨rfl, rfl, rfl, rfl, fun _ _ => rfl, rfl⟩
  | v :: r, o, w => by
    obtain ⟨h1, h2, h3, h4, h5, h6⟩ := setCells_heap b r (o + 1) (w.setCell ⟨b, o, none⟩ v)
    rw [World.setCells]
    refine ⟨h1, h2, h3, by rw [h4]; simp [World.setCell], fun i hi => (h5 i hi).trans (Below.heap_setCell w _ v i hi), h6.trans ?_⟩
    unfold blen World.setCell
    rw [Array.getElem?_modify, if_pos rfl]
    cases w.heap[b]? with
    | none => rfl
    | some ob => cases ob <;> simp

/-- Cells of a block of the call's own are stored. -/
theorem Sat.store {w0 : St0} {w σ Im own} (h : Sat w0 w σ Im own) {k b : Nat} (hk : (own k).live) (hs : σ k = some b) (o : Nat) (vs : List Value) (hfit : o + vs.length ≤ blen w b)
    (ob : OB) (hn : ob.N ≤ max (own k).N (if o ≤ (own k).N then o + vs.length else 0))
    (hin : ∀ j, j < vs.length → o + j < ob.N → (vs.getD j undef).oneCell' = true ∧ Rd w (ob.sg σ) Im (ob.at (o + j)) (vs.getD j undef))
    (hsg : ∀ i v, i < ob.N → (i < o ∨ o + vs.length ≤ i) → Rd w ((own k).sg σ) Im ((own k).at i) v → Rd w (ob.sg σ) Im ((own k).at i) v)
    (hout : ∀ i, i < ob.N → (i < o ∨ o + vs.length ≤ i) → ob.at i = (own k).at i) (hT : ∀ t', ob.ty = some t' → (own k).ty = some t' := by intro _ h; cases h) :
    Go1 w σ Im (w.setCells b o vs) σ Im ∧ Sat w0 (w.setCells b o vs) σ Im (upd own k ob) := by
  obtain ⟨h1, h2, h3, h4, h5, h6⟩ := setCells_heap b vs o w
  obtain ⟨g1, g2, g3⟩ : Blk w b (own k).N (fun i v => Rd w ((own k).sg σ) Im ((own k).at i) v) (own k).ty := by
    rcases h.held k hk with e | ⟨b', e1, e2, e3, e4⟩
    · rw [e.2] at hs; cases hs
    · rw [hs] at e1; cases e1; exact e4
  refine h.write hk hs _ h1 h2 h3 h4 h5 ob h6 ⟨?_, ⟨fun i hi => ?_, fun cs t lo hi hh => ⟨(setCells_ord b _ vs o w g2.2 cs t lo hi hh).1, fun t' h' => (setCells_ord b _ vs o w g2.2 cs t lo hi hh).2 t' (hT t' h')⟩⟩, fun i hi => ?_⟩
  · rw [h6]; split at hn <;> omega
  · rw [World.frozen?_setCells]; exact g2.1 i (by omega)
  · by_cases hio : o ≤ i ∧ i < o + vs.length
    · obtain ⟨j, rfl⟩ : ∃ j, i = o + j := ⟨i - o, by omega⟩
      have hj : j < vs.length := by omega
      have hcs : ∀ j, j < vs.length → (w.cell? ⟨b, o + j, none⟩).isSome = true := fun j hj => by
        have hl : o + j < blen w b := by omega
        unfold blen at hl
        cases hh : w.heap[b]? with
        | none => simp [hh] at hl
        | some obj => cases obj <;> simp [hh, World.cell?] at hl ⊢; exact hl
      refine ⟨vs.getD j undef, ?_, (hin j hj hi).1, (hin j hj hi).2⟩
      rw [World.cell?_setCells_in b vs o w hcs j hj]
      simp [hj]
    · have hlt : i < (own k).N := by split at hn <;> omega
      obtain ⟨v, k1, k2, k3⟩ := g3 i hlt
      refine ⟨v, ?_, k2, by show Rd w (ob.sg σ) Im (ob.at i) v; rw [hout i hi (by omega)]; exact hsg i v hi (by omega) k3⟩
      rw [World.cell?_setCells_out b vs o w ⟨b, i, none⟩ (fun _ _ => by simp; omega)]
      exact k1
end Ev
end Go.Proofs.YtphdjmaebdmdmaaGreatDoor
