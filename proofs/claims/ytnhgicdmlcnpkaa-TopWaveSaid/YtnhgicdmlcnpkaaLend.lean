/- The abstract machine: a slice of the caller's own that is lent to a call which hands back a new block of plain cells. -/
import Derived.Test.YtnhgicdmlcnpkaaEvPub
namespace Go.Proofs.Ytnhgicdmlcnpkaa
open Go.RowKit
set_option linter.unusedVariables false
set_option linter.unusedSimpArgs false
namespace Ev
section
variable {P : Program}
/-- The names afterwards: the caller's own block, and the new one. -/
def lendS (σ σ' : Nat → Option Nat) : Nat → Option Nat
  | 0 => σ 0
  | 1 => σ' 0
  | _ => none
theorem two_flat {w w' : World} {σ τ : Nat → Option Nat} {Im J : Nat → Prop} : ∀ {l : List AV} {vs : List Value}, (∀ a ∈ l, flat0 a = true) → Two (Rd w σ Im) l vs → Two (Rd w' τ J) l vs
  | [], _, _, .nil => .nil
  | _ :: _, _, h, .cons a t => .cons (flat0_rd (h _ (List.mem_cons_self ..)) a) (two_flat (fun x hx => h x (List.mem_cons_of_mem _ hx)) t)
theorem MCalls.lend {f : FuncId} {n n' : Nat} {g g' : Nat → AV} {more : List AV} {r r' : AV} (h : MCalls P f (.sl n 1 g :: more) [] r [.arr n' g']) (hm : ∀ a ∈ more, flat0 a = true) (hg : ∀ j, flat0 (g j) = true) (hf : ∀ j, flat0 (g' j) = true)
    (hr : ∀ (w : World) (σ : Nat → Option Nat) (Im : Nat → Prop) (τ : Nat → Option Nat) (J : Nat → Prop) (v : Value), Rd w σ Im r v → τ 1 = σ 0 → Rd w τ J r' v) :
    MCalls P f (.os 0 1 0 n :: more) [.arr n g] r' [.arr n g, .arr n' g'] := by
  intro w0 w σ Im vals hS hn ht
  cases ht
  rename_i V vs hv ht
  have e0 : rowsO [OB.arr n g] 0 = .arr n g := rfl
  have hp : pub0 (rowsO [OB.arr n g]) (.os 0 1 0 n) = .ok (.sl n 1 fun j => g (0 + j)) [0] (some (0 + n * 1 ≤ n)) := rfl
  obtain ⟨hv', _⟩ := pub0_sound hS hp (by show 0 + n * 1 ≤ n; omega) hv
  have eg : (fun j => g (0 + j)) = g := by funext j; rw [Nat.zero_add]
  rw [eg] at hv'
  have hL : ∀ b, Lent σ Im [0] b → Im b ∨ σ 0 = some b := fun b hb => by
    rcases hb with hb | ⟨k, hk, e⟩
    · exact .inl hb
    · have : k = 0 := by simpa using hk
      subst this; exact .inr e
  have hS0 : Sat w0 w (fun _ => none) (Lent σ Im [0]) (rowsO []) := {
    bel := hS.bel
    im := fun b hb => (hL b hb).elim (hS.im b) (hS.sg 0 b)
    sg := fun k b e => by cases e
    held := fun k hk => hk.elim
    inj := fun k k' b hk => hk.elim
    imB := fun b hb => (hL b hb).elim (hS.imB b) fun e => .inr (hS.sgB 0 b e)
    sgB := fun k b e => by cases e }
  have hvs : Two (Rd w (fun _ => none) (Lent σ Im [0])) more vs := by
    exact two_flat hm ht
  refine (h w0 w (fun _ => none) (Lent σ Im [0]) (V :: vs) hS0 (fun _ _ => rfl) (.cons hv' hvs)).mono fun v w' ⟨σ', Im', h1, hS', h3, h4⟩ => ?_
  have hIm : ∀ b, Im b → Im' b := fun b hb => h4.im b (.inl hb)
  have hB : ∀ b, σ 0 = some b → Im' b ∧ w'.heap[b]? = w.heap[b]? := fun b e => ⟨h4.im b (.inr ⟨0, by simp, e⟩), h4.blk b (.inr ⟨0, by simp, e⟩)⟩
  have hBI : ∀ b, Im b → w'.heap[b]? = w.heap[b]? := fun b e => h4.blk b (.inl e)
  refine ⟨lendS σ σ', Im, hr _ _ _ _ _ _ h1 rfl, ?_, fun k hk hk' => ?_, ⟨fun _ hb => hb, hBI, fun k b hk e => ?_, fun k b hk e => ?_⟩⟩
  · refine ⟨hS'.bel, fun b hb => hS'.im b (hIm b hb), ?_, ?_, ?_, hS.imB, ?_⟩
    · intro k b e
      rcases k with _ | _ | k
      · exact hS'.im b (hB b e).1
      · exact hS'.sg 0 b e
      · cases e
    · intro k hk
      rcases k with _ | _ | k
      · rcases hS.held 0 trivial with q | ⟨b, q1, q2, q3, q4⟩
        · exact .inl q
        · exact .inr ⟨b, q1, q2, q3, q4.mono (hB b q1).2 fun i v hv => flat0_rd (hg i) hv⟩
      · rcases hS'.held 0 trivial with q | ⟨b, q1, q2, q3, q4⟩
        · exact .inl q
        · exact .inr ⟨b, q1, fun hc => q2 (hIm b hc), q3, q4.mono rfl fun i v hv => flat0_rd (hf i) hv⟩
      · exact hk.elim
    · intro k k' b hk hk' e e'
      have no : ∀ b, σ 0 = some b → σ' 0 = some b → False := fun b e e' => by
        rcases hS'.held 0 trivial with q | ⟨b', q1, q2, q3, q4⟩
        · rw [q.2] at e'; cases e'
        · rw [e'] at q1; cases q1; exact q2 (hB b e).1
      rcases k with _ | _ | k <;> rcases k' with _ | _ | k'
      · rfl
      · exact (no b e e').elim
      · exact hk'.elim
      · exact (no b e' e).elim
      · rfl
      · exact hk'.elim
      · exact hk.elim
      · exact hk.elim
      · exact hk.elim
    · intro k b e
      rcases k with _ | _ | k
      · exact hS.sgB 0 b e
      · exact hS'.sgB 0 b e
      · cases e
  · have h2 : 2 ≤ k := hk'
    rcases k with _ | _ | k
    · omega
    · omega
    · rfl
  · have : k = 0 := by have h1 : k < 1 := hk; omega
    subst this; exact e
  · have : k = 0 := by have h1 : k < 1 := hk; omega
    subst this
    unfold blen; rw [(hB b e).2]
theorem rd_os {n' : Nat} (w : World) (σ : Nat → Option Nat) (Im : Nat → Prop) (τ : Nat → Option Nat) (J : Nat → Prop) (v : Value) (h : Rd w σ Im (.os 0 1 0 n') v) (e : τ 1 = σ 0) : Rd w τ J (.os 1 1 0 n') v := by
  rcases h.inv_os with ⟨rfl, a, rfl⟩ | ⟨b, cap, rfl, hb, h1, h2, h3⟩
  · exact .os0 _ _ _ _
  · exact .os _ _ _ _ _ _ (e.trans hb) h1 h2 h3
theorem rd_tup2 {n' : Nat} {k : IntKind} {x : Int} (w : World) (σ : Nat → Option Nat) (Im : Nat → Prop) (τ : Nat → Option Nat) (J : Nat → Prop) (v : Value) (h : Rd w σ Im (.tup [.os 0 1 0 n', .int k x]) v) (e : τ 1 = σ 0) : Rd w τ J (.tup [.os 1 1 0 n', .int k x]) v := by
  obtain ⟨cs, rfl, h1, h3⟩ := h.inv_tup
  refine .tup _ _ h1 fun i hi => ?_
  have hi : i < 2 := hi
  rcases i with _ | _ | i
  · exact rd_os _ _ _ _ _ _ (h3 0 (show 0 < 2 by decide)) e
  · exact flat0_rd rfl (h3 1 (show 1 < 2 by decide))
  · omega
end
end Ev
end Go.Proofs.Ytnhgicdmlcnpkaa
