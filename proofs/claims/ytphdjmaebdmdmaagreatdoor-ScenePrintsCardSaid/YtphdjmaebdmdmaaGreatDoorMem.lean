/- Words for memory: a block that is known whole; a slice of integers that is read. -/
import Derived.Test.YtphdjmaebdmdmaaGreatDoorBase
import Derived.Deep.Draws
import Derived.ProofKit
import Derived.OpenShut
import Derived.Lib.SmallJoins
namespace Go.Proofs.YtphdjmaebdmdmaaGreatDoor
open Go.RowKit Go.ChangeShapes Go.WideShapes Go.Joins

/-- Block g is a row of just these cells, none of them frozen. -/
def Row (w : World) (g : Nat) (t : TypeId) (cs : Array Value) : Prop := w.heap[g]? = some (.cells cs t (0, 0))
section
variable {w w' : World} {g : Nat} {t : TypeId} {cs : Array Value}
theorem Row.cell (h : Row w g t cs) (i : Nat) : w.cell? ⟨g, i, none⟩ = cs[i]? := by
  unfold Row at h; simp [World.cell?, h]
theorem Row.free (h : Row w g t cs) (i : Nat) : w.frozen? ⟨g, i, none⟩ = false := by
  unfold Row at h; simp [World.frozen?, h]
theorem Row.lt (h : Row w g t cs) : g < w.heap.size := by
  rcases Nat.lt_or_ge g w.heap.size with h1 | h1
  · exact h1
  · unfold Row at h; rw [Array.getElem?_eq_none h1] at h; cases h
theorem Row.new (w : World) (t : TypeId) (cs : Array Value) : Row (w.alloc (.cells cs t)) w.heap.size t cs := heap_alloc_new w _
theorem Row.alloc (h : Row w g t cs) (o : Obj) : Row (w.alloc o) g t cs := (Below.heap_alloc w o g h.lt).trans h
theorem Row.drewN (h : Row w g t cs) (n : Nat) : Row (w.drewN n) g t cs := h
theorem Row.put (h : Row w g t cs) (i : Nat) (u : Value) : Row (w.setCell ⟨g, i, none⟩ u) g t (cs.setIfInBounds i u) := by
  unfold Row at h ⊢
  simp [World.setCell, Array.getElem?_modify, h]
theorem Row.far (h : Row w g t cs) {p : Addr} (hp : g ≠ p.block) (u : Value) : Row (w.setCell p u) g t cs := (Below.heap_setCell w p u g hp).trans h
theorem Row.below {B : Nat} (h : Row w g t cs) (hb : Below B w w') (hg : g < B) : Row w' g t cs := (hb.block g hg).trans h
theorem Row.grown {row : Option Nat} (h : Row w g t cs) (hb : w.grownBy w' row) (hg : some g ≠ row) : Row w' g t cs := (hb.block g h.lt hg).trans h
end

theorem Row.cells3 {w : World} {g : Nat} {t : TypeId} {a b c : Value} (h : Row w g t #[a, b, c]) :
    w.cell? ⟨g, 0, none⟩ = some a ∧ w.cell? ⟨g, 1, none⟩ = some b ∧ w.cell? ⟨g, 2, none⟩ = some c ∧ w.frozen? ⟨g, 0, none⟩ = false ∧ w.frozen? ⟨g, 1, none⟩ = false ∧ w.frozen? ⟨g, 2, none⟩ = false :=
  ⟨h.cell 0, h.cell 1, h.cell 2, h.free 0, h.free 1, h.free 2⟩
/-- A slice of n integers, nil let in, that lies below block B: the i-th is P i. -/
structure Nums (k : IntKind) (w : World) (B : Nat) (A : Option Addr) (n : Nat) (P : Nat → Int) : Prop where
  rd : 0 < n → ∃ b off, A = some ⟨b, off, none⟩ ∧ b < B ∧ ∀ i, i < n → w.cell? ⟨b, off + i, none⟩ = some (.int k (P i))
  ok : ∀ i, (Lit.int k (P i)).wf = true
section
variable {k : IntKind} {w w' : World} {B : Nat} {A : Option Addr} {n : Nat} {P : Nat → Int}
theorem Nums.keep (h : Nums k w B A n P) (hk : ∀ b, b < B → w'.heap[b]? = w.heap[b]?) : Nums k w' B A n P :=
  ⟨fun h0 => by
    obtain ⟨b, off, e, hb, hc⟩ := h.rd h0
    exact ⟨b, off, e, hb, fun i hi => (World.cell?_of_block (w := w) (a := ⟨b, off + i, none⟩) (hk b hb)).trans (hc i hi)⟩, h.ok⟩
theorem Nums.below (h : Nums k w B A n P) (hb : Below B w w') : Nums k w' B A n P := h.keep hb.block
theorem Nums.alloc (h : Nums k w B A n P) (hB : B ≤ w.heap.size) (o : Obj) : Nums k (w.alloc o) B A n P := h.keep fun b hb => Below.heap_alloc w o b (by omega)
theorem Nums.drewN (h : Nums k w B A n P) (m : Nat) : Nums k (w.drewN m) B A n P := ⟨h.rd, h.ok⟩
theorem Nums.more {B' : Nat} (h : Nums k w B A n P) (hB : B ≤ B') : Nums k w B' A n P :=
  ⟨fun h0 => by
    obtain ⟨b, off, e, hb, hc⟩ := h.rd h0
    exact ⟨b, off, e, by omega, hc⟩, h.ok⟩
theorem Nums.u8 (h : Nums .u8 w B A n P) (i : Nat) : 0 ≤ P i ∧ P i < 256 := by
  have := h.ok i
  simp [Lit.wf, IntKind.min, IntKind.max, IntKind.signed, IntKind.bits] at this
  omega
theorem Nums.of_ints {H : Type} {enc : TypeId × Value → H} {Q : Program} {base : Nat} {spare : Nat → Bool} {held : Bool} {t e : TypeId} {fuel : Nat} {v : Value} {x : DataW H × List MemPlace}
    (ht : Q.underlying t = some (.slice e)) (he : Q.underlying e = some (.int k)) (hC : Q.cellsOf e = 1) (h : DataW.trod enc Q w base spare held fuel t [v] = some x) (h0 : (Lit.int k 0).wf = true) :
    ∃ A n cap P, v = .slice A n cap ∧ n ≤ cap ∧ cap ≤ maxLen ∧ Nums k w w.heap.size A n P := by
  rcases open_ints ht he hC h with ⟨hcs, _⟩ | ⟨a, l, c, zs, hcs, _, hl, hm, hz, _, hcell, hwz⟩
  · simp at hcs
    exact ⟨none, 0, 0, fun _ => 0, hcs, Nat.le_refl _, Nat.zero_le _, fun hh => absurd hh (by omega), fun _ => h0⟩
  · simp at hcs
    refine ⟨some a, l, c, fun i => zs.getD i 0, hcs, hl, hm, fun hh => ?_, fun i => ?_⟩
    · obtain ⟨b, off, spot⟩ := a
      have hz' : l ≤ zs.length := by rw [hz]; split <;> omega
      have hc := hcell 0 (by omega)
      have hspot : spot = none := by simpa [Addr.add] using World.cell?_spot hc
      subst hspot
      refine ⟨b, off, rfl, World.block_lt_of_cell? w _ hc, fun i hi => ?_⟩
      have := hcell i (by omega)
      by_cases h1 : i = 0
      · subst h1; simpa [Addr.add] using this
      · simpa [Addr.add, h1] using this
    · by_cases hi : i < zs.length
      · have : zs.getD i 0 = zs[i] := by simp [List.getD, hi]
        rw [this]
        exact hwz _ (List.getElem_mem hi)
      · have : zs.getD i 0 = 0 := by simp [List.getD, List.getElem?_eq_none (Nat.le_of_not_lt hi)]
        rw [this]
        exact h0
end
end Go.Proofs.YtphdjmaebdmdmaaGreatDoor
