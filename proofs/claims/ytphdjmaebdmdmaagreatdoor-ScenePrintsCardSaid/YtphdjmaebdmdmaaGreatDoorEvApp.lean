/- The abstract machine: append. -/
import Derived.Test.YtphdjmaebdmdmaaGreatDoorEvEff
namespace Go.Proofs.YtphdjmaebdmdmaaGreatDoor
open Go.RowKit
set_option linter.unusedVariables false
set_option linter.unusedSimpArgs false
namespace Ev

section
variable {P : Program} {w : World} {w0 : St0} {σ : Nat → Option Nat} {Im : Nat → Prop} {own : Nat → OB} {ix : Nat}
/-- A block of the call's own gets another name. -/
theorem Sat.move (h : Sat w0 w σ Im own) {k b : Nat} (hl : (own k).live) (hb : σ k = some b) (hs : σ ix = none) (hx : ¬ (own ix).live) :
    Go1 w σ Im w (upd σ ix (some b)) Im ∧ Sat w0 w (upd σ ix (some b)) Im (upd (upd own k .gone) ix (own k)) := by
  have hne : k ≠ ix := by rintro rfl; rw [hs] at hb; cases hb
  have hup : ∀ j c, σ j = some c → upd σ ix (some b) j = some c := fun j c hj => by
    rw [upd_other]
    · exact hj
    · rintro rfl; rw [hs] at hj; cases hj
  have hg : Go1 w σ Im w (upd σ ix (some b)) Im := ⟨fun _ h => h, fun _ _ => rfl, hup, fun _ _ _ => rfl⟩
  have L : ∀ j, (upd (upd own k .gone) ix (own k) j).live → (j = ix ∧ upd (upd own k .gone) ix (own k) j = own k) ∨ (j ≠ ix ∧ j ≠ k ∧ (own j).live ∧ upd (upd own k .gone) ix (own k) j = own j) := fun j hj => by
    rcases upd_cases (upd own k .gone) ix (own k) j with ⟨rfl, e⟩ | ⟨h1, e⟩
    · exact .inl ⟨rfl, e⟩
    · rw [e] at hj
      rcases upd_cases own k .gone j with ⟨rfl, e'⟩ | ⟨h2, e'⟩
      · rw [e'] at hj; exact hj.elim
      · rw [e'] at hj; exact .inr ⟨h1, h2, hj, e.trans e'⟩
  refine ⟨hg, ⟨h.bel, h.im, ?_, ?_, ?_, h.imB, (fun j c hj => by
    rcases upd_cases σ ix (some b) j with ⟨rfl, e⟩ | ⟨_, e⟩
    · rw [e] at hj; cases hj; exact h.sgB k b hb
    · rw [e] at hj; exact h.sgB j c hj)⟩⟩
  · intro j c hj
    rcases upd_cases σ ix (some b) j with ⟨rfl, e⟩ | ⟨_, e⟩
    · rw [e] at hj; cases hj; exact h.sg k b hb
    · rw [e] at hj; exact h.sg j c hj
  · intro j hj
    rcases L j hj with ⟨rfl, e⟩ | ⟨h1, h2, h3, e⟩
    · rw [e]
      rcases h.held k hl with e' | ⟨b', e1, e2, e3, e4⟩
      · rw [e'.2] at hb; cases hb
      · rw [hb] at e1; cases e1
        exact .inr ⟨b, upd_same _ _ _, e2, e3, e4.mono rfl fun i v hv => hv.mono (hg.sg' _)⟩
    · rw [e]
      rcases h.held j h3 with e' | ⟨b', e1, e2, e3, e4⟩
      · exact .inl ⟨e'.1, by rw [upd_other _ _ _ h1]; exact e'.2⟩
      · exact .inr ⟨b', hup j b' e1, e2, e3, e4.mono rfl fun i v hv => hv.mono (hg.sg' _)⟩
  · intro i j c hi hj ei ej
    rcases L i hi with ⟨rfl, _⟩ | ⟨h1, h2, h3, _⟩
    · rcases L j hj with ⟨rfl, _⟩ | ⟨g1, g2, g3, _⟩
      · rfl
      · rw [upd_same] at ei; cases ei
        rw [upd_other _ _ _ g1] at ej
        exact absurd (h.inj j k b g3 hl ej hb) g2
    · rw [upd_other _ _ _ h1] at ei
      rcases L j hj with ⟨rfl, _⟩ | ⟨g1, g2, g3, _⟩
      · rw [upd_same] at ej; cases ej
        exact absurd (h.inj i k b h3 hl ei hb) h2
      · rw [upd_other _ _ _ g1] at ej
        exact h.inj i j c h3 g3 ei ej
theorem Sat.empty (h : Sat w0 w σ Im own) (hs : σ ix = none) (ob : OB) (hn : ob.N = 0) : Sat w0 w σ Im (upd own ix ob) := by
  refine ⟨h.bel, h.im, h.sg, fun k hk => ?_, fun i j c hi hj ei ej => ?_, h.imB, h.sgB⟩
  · rcases upd_cases own ix ob k with ⟨rfl, e⟩ | ⟨_, e⟩
    · rw [e]; exact .inl ⟨hn, hs⟩
    · rw [e] at hk ⊢; exact h.held k hk
  · have A : ∀ i c, σ i = some c → upd own ix ob i = own i := fun i c hi => by
      rw [upd_other]; intro e; rw [e, hs] at hi; cases hi
    rw [A i c ei] at hi
    rw [A j c ej] at hj
    exact h.inj i j c hi hj ei ej

/-- What is appended: m elements of so many cells. -/
def Vw (P : Program) (w : World) (σ : Nat → Option Nat) (Im : Nat → Prop) (sz m : Nat) (g : Nat → AV) (Y : Value) : Prop :=
  ∃ U : Nat → Value, (∀ j, j < m * sz → (U j).oneCell' = true ∧ Rd w σ Im (g j) (U j)) ∧ (Builtin.lenOf Y).run P w = .ok m w ∧
    ∀ n, (Builtin.firstCells sz m Y).run P (w.drewN n) = .ok ((List.range (m * sz)).map U).toArray (w.drewN n)
/-- What is appended to. -/
def Dst (w : World) (σ : Nat → Option Nat) (Im : Nat → Prop) (own : Nat → OB) (sz n : Nat) (k : Option Nat) (g : Nat → AV) (X : Value) : Prop :=
  (n = 0 ∧ ∃ a, X = .slice a 0 0) ∨ ∃ kk b cap, k = some kk ∧ (own kk).live ∧ X = .slice (some ⟨b, 0, none⟩) n cap ∧ σ kk = some b ∧ n ≤ cap ∧ cap ≤ maxLen ∧ cap * sz ≤ blen w b ∧ n * sz ≤ (own kk).N ∧ ∀ j, j < n * sz → g j = (own kk).at j
def catA (n : Nat) (g h : Nat → AV) : Nat → AV := fun j => if j < n then g j else h (j - n)
def wrOf (k : Option Nat) : List (Nat × OB) := match k with | some k => [(k, .gone)] | none => []

theorem firstCells_some (sz n : Nat) (b cap : Nat) (f : Nat → Value) (h : ∀ j, j < n * sz → w.cell? ⟨b, j, none⟩ = some (f j)) : (Builtin.firstCells sz n (.slice (some ⟨b, 0, none⟩) n cap)).run P w = .ok ((List.range (n * sz)).map f).toArray w := by
  have := run_loadCells (P := P) w ⟨b, 0, none⟩ (n * sz) f (fun j hj => by rw [add_addr, Nat.zero_add]; exact h j hj)
  simpa [Builtin.firstCells] using this

theorem append_sound (hS : Sat w0 w σ Im own) (hs : σ ix = none) (hx : ¬ (own ix).live) {t t2 ty e : Nat} {ti : TI} (he : TIok P e ti) (hu : P.underlying t = some (.slice e)) {d2 : TypeDesc} (hu2 : P.underlying t2 = some d2) (hd2 : (∃ e2, d2 = .slice e2) ∨ d2 = .string)
    {n m : Nat} {k : Option Nat} {g h : Nat → AV} {X Y : Value} (hX : Dst w σ Im own ti.size n k g X) (hby : (n + m) * ti.bytes ≤ 140737488355328) (hb1 : n + m ≤ 140737488355328) (ob : OB) (hY : Vw P w (ob.sg σ) Im ti.size m h Y) (hob : ob.N = (n + m) * ti.size) (hat : ∀ j, j < (n + m) * ti.size → ob.at j = catA (n * ti.size) g h j)
    (hgs : ∀ kk j v, k = some kk → j < n * ti.size → Rd w ((own kk).sg σ) Im (g j) v → Rd w (ob.sg σ) Im (g j) v) (hTy : ∀ t', ob.ty = some t' → e = t' ∧ ∀ kk, k = some kk → (own kk).ty = some t' := by intro _ h; cases h) :
    ∃ v w', (Builtin.append_ #[t, t2] ty #[X, Y]).run P w = .ok v w' ∧ Post w0 w σ Im own ix (.os ix ti.size 0 (n + m)) (wrOf k) (some ob) v w' := by
  obtain ⟨desc, i, z, hue, _, hi, hsz, hbys, hz, hzc, hzs, h1z, _⟩ := he.ex
  obtain ⟨U, hU, hlen, hfirst⟩ := hY
  have hml : n + m ≤ maxLen := by unfold maxLen; omega
  have hadd : (n + m) * ti.size = n * ti.size + m * ti.size := Nat.add_mul _ _ _
  -- a new block
  have fresh : ∀ (sLen sCap : Nat) (base : Option Addr) (olds : List Value), sLen = n → X = .slice base sLen sCap → sCap < n + m → olds.length = n * ti.size → (Builtin.firstCells ti.size n X).run P w.drew = .ok olds.toArray w.drew →
      (∀ j, j < n * ti.size → (olds.getD j undef).oneCell' = true ∧ Rd w (ob.sg σ) Im (g j) (olds.getD j undef)) →
      ∃ v w', (Builtin.append_ #[t, t2] ty #[X, Y]).run P w = .ok v w' ∧ Post w0 w σ Im own ix (.os ix ti.size 0 (n + m)) (wrOf k) (some ob) v w' := by
    intro sLen sCap base olds hsl hXe hcap holen hof hor
    subst hsl
    subst hXe
    have hneed : ¬ (sLen + m ≤ sCap) := by omega
    have h63 : ¬ (9223372036854775807 < ((sLen : Int) + (m : Int))) := by omega
    have hfit := growslice_fits (need := sLen + m) (old := sCap) (bytes := i.bytes) hcap (by rw [hbys]; exact hby)
    have h48 : ¬ (281474976710656 < Builtin.nextslicecap (sLen + m) sCap * i.bytes) := by omega
    have hge := grownCap_ge w (sLen + m) sCap e
    have hmx := grownCap_le_maxLen w (sLen + m) sCap e hml
    have hf1 := hfirst 1
    have hrun : (Builtin.append_ #[t, t2] ty #[.slice base sLen sCap, Y]).run P w =
        .ok (.slice (some ⟨w.heap.size, 0, none⟩) (sLen + m) (grownCap w (sLen + m) sCap e))
          (w.drew.alloc (.cells (olds.toArray ++ ((List.range (m * ti.size)).map U).toArray ++ Builtin.zeroCells z.cells (grownCap w (sLen + m) sCap e - (sLen + m))) e)) := by
      have hd1 : w.drew = w.drewN 1 := rfl
      rw [← hd1] at hf1
      simp [Builtin.append_, run_underlying hu, run_underlying hu2, sizeOf, typeInfo, zeroValue, hi, hz, hsz, hlen, hneed, h63, h48, Question.forced, hof, hf1, newRow, grownCap]
      rcases hd2 with ⟨e2, rfl⟩ | rfl
      all_goals
        simp
        congr 2
        apply Array.ext'
        simp [List.append_assoc]
    generalize hcs : olds.toArray ++ ((List.range (m * ti.size)).map U).toArray ++ Builtin.zeroCells z.cells (grownCap w (sLen + m) sCap e - (sLen + m)) = cs at hrun
    have hget : ∀ j, j < (sLen + m) * ti.size → cs.getD j undef = if j < sLen * ti.size then olds.getD j undef else U (j - sLen * ti.size) := fun j hj => by
      rw [← hcs]
      by_cases hlt : j < sLen * ti.size
      · rw [if_pos hlt]
        have : j < olds.length := by omega
        have h2 : j < olds.length + m * ti.size := by omega
        simp [Array.getElem?_append, List.getElem?_append, this, h2]
      · rw [if_neg hlt]
        have : ¬ j < olds.length := by omega
        have h2 : j < sLen * ti.size + m * ti.size := by omega
        have h3 : j - sLen * ti.size < m * ti.size := by omega
        have h4 : ¬ j < sLen * ti.size := hlt
        have h5 : (olds ++ (List.range (m * ti.size)).map U)[j]? = some (U (j - sLen * ti.size)) := by
          rw [List.getElem?_append_right (by omega), holen]
          simp [h3]
        simp only [Array.getD_eq_getD_getElem?, List.append_toArray, Array.getElem?_append, List.getElem?_toArray]
        rw [if_pos (by simp [holen]; omega), h5]; rfl
    have hcsz : cs.size = grownCap w (sLen + m) sCap e * ti.size := by
      rw [← hcs]
      simp only [Array.size_append, List.size_toArray, List.length_map, List.length_range, size_zeroCells, hzs, holen]
      rw [← hadd, ← Nat.add_mul]
      congr 1; omega
    have hS1 : Sat w0 w.drew σ Im (applyW own (wrOf k)) := by
      have h2 := (hS.go (w' := w.drew) (Im' := Im) ((Below.refl _ _).drew) (fun _ h => h) (fun _ h => .inl h)).2
      cases k with
      | none => exact h2
      | some kk => exact h2.drop kk
    have hx1 : ¬ (applyW own (wrOf k) ix).live := by
      cases k with
      | none => exact hx
      | some kk =>
        show ¬ (upd own kk .gone ix).live
        rcases upd_cases own kk .gone ix with ⟨_, e⟩ | ⟨_, e⟩
        · rw [e]; exact fun h => h
        · rw [e]; exact hx
    have g0 : Go1 w σ Im w.drew σ Im := ⟨fun _ h => h, fun _ _ => rfl, fun _ _ h => h, fun _ _ _ => rfl⟩
    obtain ⟨g1, g2⟩ := hS1.alloc hs hx1 cs e ob (by rw [hob, hcsz]; exact Nat.mul_le_mul_right _ hge) (fun j hj => by
      rw [hob] at hj
      rw [hget j hj, hat j hj]
      unfold catA
      split
      · rename_i hlt
        exact ⟨(hor j hlt).1, (hor j hlt).2.mono (g0.sg' ob)⟩
      · exact ⟨(hU _ (by omega)).1, (hU _ (by omega)).2.mono (g0.sg' ob)⟩) (fun t' h' => (hTy t' h').1)
    refine ⟨_, _, hrun, upd σ ix (some w.heap.size), Im, g0.trans g1, fun j hj => upd_other _ _ _ hj, fun h => (nomatch h), ?_, g2⟩
    refine .os _ _ _ _ _ _ (upd_same _ _ _) hge hmx ?_
    have : blen (w.drew.alloc (.cells cs e)) w.heap.size = cs.size := blen_cells (heap_alloc_new w.drew _)
    rw [this, hcsz]; omega
  rcases hX with ⟨rfl, a, rfl⟩ | ⟨kk, b, cap, rfl, hl, rfl, hb, h1, h2, h3, h4, h5⟩
  · -- an empty one
    rcases Nat.eq_zero_or_pos m with rfl | hm
    · have hrun : (Builtin.append_ #[t, t2] ty #[.slice a 0 0, Y]).run P w = .ok (.slice a 0 0) w := by
        have hf0 := hfirst 0
        simp only [Nat.zero_mul, List.range_zero, List.map_nil, drewN0] at hf0
        cases a with
        | none =>
          simp [Builtin.append_, run_underlying hu, run_underlying hu2, sizeOf, typeInfo, hi, hsz, hlen, hf0]
          rcases hd2 with ⟨e2, rfl⟩ | rfl <;> simp [hf0]
        | some a =>
          simp [Builtin.append_, run_underlying hu, run_underlying hu2, sizeOf, typeInfo, hi, hsz, hlen, hf0, storeCells]
          rcases hd2 with ⟨e2, rfl⟩ | rfl <;> simp [hf0, storeCells]
      have hS1 : Sat w0 w σ Im (applyW own (wrOf k)) := by
        cases k with
        | none => exact hS
        | some kk => exact hS.drop kk
      exact ⟨_, _, hrun, σ, Im, Go1.refl _ _ _, fun _ _ => rfl, fun h => (nomatch h), .os0 _ _ _ _, hS1.empty hs ob (by rw [hob]; simp)⟩
    · refine fresh 0 0 a [] rfl rfl (by omega) (by simp) ?_ (fun j hj => by simp at hj)
      cases a with
      | none => simp [Builtin.firstCells]
      | some a => simp [Builtin.firstCells, loadCells, loadCellsFrom]
  · have hblk := held_blk hS hl hb
    have hold : ∃ f : Nat → Value, ∀ j, j < n * ti.size → w.cell? ⟨b, j, none⟩ = some (f j) ∧ (f j).oneCell' = true ∧ Rd w (ob.sg σ) Im (g j) (f j) := by
      refine ⟨fun j => if hj : j < n * ti.size then Classical.choose (hblk.cell (i := j) (by omega)) else undef, fun j hj => ?_⟩
      simp only [hj, dite_true]
      obtain ⟨c1, c2, c3, c4⟩ := Classical.choose_spec (hblk.cell (i := j) (by omega))
      refine ⟨c1, c3, hgs kk j _ rfl hj ?_⟩
      rw [h5 j hj]
      exact c4
    obtain ⟨f, hf⟩ := hold
    by_cases hroom : n + m ≤ cap
    · -- there is room
      have hf0 := hfirst 0
      rw [drewN0] at hf0
      have hvl : ((List.range (m * ti.size)).map U).length = m * ti.size := by simp
      have hfit : n * ti.size + m * ti.size ≤ blen w b := by
        have : (n + m) * ti.size ≤ cap * ti.size := Nat.mul_le_mul_right _ hroom
        omega
      have hsome : ∀ i, i < blen w b → (w.cell? ⟨b, i, none⟩).isSome = true := fun i hi => by
        unfold blen at hi
        cases hh : w.heap[b]? with
        | none => simp [hh] at hi
        | some obj => cases obj <;> simp [hh, World.cell?] at hi ⊢; exact hi
      have hst := run_storeCells_cells (P := P) b (n * ti.size) ((List.range (m * ti.size)).map U) 0 w (fun j hj => by simpa using hsome (n * ti.size + j) (by rw [hvl] at hj; omega)) (fun j hj => by simpa using hblk.2.1.1 (n * ti.size + j) (by rw [hvl] at hj; omega))
        (fun v hv => by
          obtain ⟨j, hj, rfl⟩ := List.mem_map.1 hv
          exact (hU j (by simpa using hj)).1)
      simp only [Nat.add_zero] at hst
      have hrun : (Builtin.append_ #[t, t2] ty #[.slice (some ⟨b, 0, none⟩) n cap, Y]).run P w = .ok (.slice (some ⟨b, 0, none⟩) (n + m) cap) (w.setCells b (n * ti.size) ((List.range (m * ti.size)).map U)) := by
        simp [Builtin.append_, run_underlying hu, run_underlying hu2, sizeOf, typeInfo, hi, hsz, hlen, hroom]
        rcases hd2 with ⟨e2, rfl⟩ | rfl <;> simp [hf0, add_addr, hst]
      obtain ⟨k1, k2⟩ := hS.store hl hb (n * ti.size) ((List.range (m * ti.size)).map U) (by rw [hvl]; exact hfit) ob (by rw [hob, hvl, if_pos (by omega)]; omega)
        (fun j hj _ => by
          rw [hvl] at hj
          have e1 : ((List.range (m * ti.size)).map U).getD j undef = U j := by simp [List.getD, hj]
          rw [e1, hat _ (by omega)]
          unfold catA
          rw [if_neg (by omega), Nat.add_sub_cancel_left]
          exact hU j hj)
        (fun i v hi ho hr => by
          rw [hob] at hi
          rw [hvl] at ho
          rw [← h5 i (by omega)] at hr ⊢
          exact hgs kk i v rfl (by omega) hr)
        (fun j hj ho => by
          rw [hob] at hj
          rw [hvl] at ho
          rw [hat j hj]
          unfold catA
          rw [if_pos (by omega)]
          exact h5 j (by omega)) (fun t' h' => (hTy t' h').2 kk rfl)
      have hne : ix ≠ kk := by rintro rfl; rw [hs] at hb; cases hb
      have hlob : ob.live ∨ (n + m) * ti.size = 0 := by
        cases ob <;> simp [OB.live, OB.N] at hob ⊢
        omega
      by_cases hob' : ob.live
      · have hl' : (upd own kk ob kk).live := by rw [upd_same]; exact hob'
        have hx' : ¬ (upd own kk ob ix).live := by rw [upd_other _ _ _ hne]; exact hx
        obtain ⟨m1, m2⟩ := k2.move hl' hb hs hx'
        refine ⟨_, _, hrun, upd σ ix (some b), Im, k1.trans m1, fun j hj => upd_other _ _ _ hj, fun h => (nomatch h), ?_, ?_⟩
        · refine .os _ _ _ _ _ _ (upd_same _ _ _) hroom h2 ?_
          rw [k1.len kk b hb]; omega
        · have e : upd (upd (upd own kk ob) kk .gone) ix (upd own kk ob kk) = applyO own (wrOf (some kk)) (some ob) ix := by
            rw [upd_same]
            show _ = upd (upd own kk .gone) ix ob
            congr 1
            funext j
            rcases upd_cases (upd own kk ob) kk .gone j with ⟨rfl, e⟩ | ⟨h1, e⟩
            · rw [e, upd_same]
            · rw [e, upd_other _ _ _ h1, upd_other _ _ _ h1]
          rwa [e] at m2
      · -- nothing in it: it is not told
        have hl' : ¬ (upd own kk ob kk).live := by rw [upd_same]; exact hob'
        have hz0 : (n + m) * ti.size = 0 := hlob.resolve_left hob'
        have hup : Go1 (w.setCells b (n * ti.size) ((List.range (m * ti.size)).map U)) σ Im (w.setCells b (n * ti.size) ((List.range (m * ti.size)).map U)) (upd σ ix (some b)) Im :=
          ⟨fun _ h => h, fun _ _ => rfl, (fun j c hj => by
            rw [upd_other]
            · exact hj
            · intro e; rw [e, hs] at hj; cases hj), fun _ _ _ => rfl⟩
        have hA : ∀ j, (applyO own (wrOf (some kk)) (some ob) ix j).live → j ≠ ix ∧ j ≠ kk ∧ (own j).live ∧ applyO own (wrOf (some kk)) (some ob) ix j = own j := fun j hj => by
          rcases upd_cases (upd own kk .gone) ix ob j with ⟨rfl, e⟩ | ⟨h1, e⟩
          · exfalso; apply hob'
            have : applyO own (wrOf (some kk)) (some ob) j j = ob := e
            rwa [this] at hj
          · have e' : applyO own (wrOf (some kk)) (some ob) ix j = upd own kk .gone j := e
            rw [e'] at hj ⊢
            rcases upd_cases own kk .gone j with ⟨rfl, e2⟩ | ⟨h2, e2⟩
            · rw [e2] at hj; exact hj.elim
            · rw [e2] at hj ⊢; exact ⟨h1, h2, hj, rfl⟩
        refine ⟨_, _, hrun, upd σ ix (some b), Im, k1.trans hup, fun j hj => upd_other _ _ _ hj, fun h => (nomatch h), ?_, ⟨k2.bel, k2.im, ?_, ?_, ?_, k2.imB, (fun j c hj => by
          rcases upd_cases σ ix (some b) j with ⟨rfl, e⟩ | ⟨_, e⟩
          · rw [e] at hj; cases hj; exact k2.sgB kk b hb
          · rw [e] at hj; exact k2.sgB j c hj)⟩⟩
        · refine .os _ _ _ _ _ _ (upd_same _ _ _) hroom h2 ?_
          rw [k1.len kk b hb]; omega
        · intro j c hj
          rcases upd_cases σ ix (some b) j with ⟨rfl, e⟩ | ⟨_, e⟩
          · rw [e] at hj; cases hj; exact k2.sg kk b hb
          · rw [e] at hj; exact k2.sg j c hj
        · intro j hj
          obtain ⟨a1, a2, a3, a4⟩ := hA j hj
          rw [a4]
          have hj2 : (upd own kk ob j).live := by rw [upd_other _ _ _ a2]; exact a3
          have := k2.held j hj2
          rw [upd_other _ _ _ a2] at this
          rcases this with e | ⟨b', e1, e2, e3, e4⟩
          · exact .inl ⟨e.1, by rw [upd_other _ _ _ a1]; exact e.2⟩
          · exact .inr ⟨b', by rw [upd_other _ _ _ a1]; exact e1, e2, e3, e4.mono rfl fun i v hv => hv.mono (hup.sg' _)⟩
        · intro i j c hi hj ei ej
          obtain ⟨a1, a2, a3, _⟩ := hA i hi
          obtain ⟨c1, c2, c3, _⟩ := hA j hj
          rw [upd_other _ _ _ a1] at ei
          rw [upd_other _ _ _ c1] at ej
          exact hS.inj i j c a3 c3 ei ej
    · refine fresh n cap _ ((List.range (n * ti.size)).map f) rfl rfl (by omega) (by simp) ?_ (fun j hj => ?_)
      · exact firstCells_some (w := w.drew) ti.size n b cap f (fun j hj => (hf j hj).1)
      · have e1 : ((List.range (n * ti.size)).map f).getD j undef = f j := by simp [List.getD, hj]
        rw [e1]
        exact (hf j hj).2
end
end Ev
end Go.Proofs.YtphdjmaebdmdmaaGreatDoor
