/- The abstract machine: conversions, copies; that one step, of whatever kind, runs as it says. -/
import Derived.Test.YtphdjmaebdmdmaaGreatDoorEvStp
namespace Go.Proofs.YtphdjmaebdmdmaaGreatDoor
open Go.RowKit
set_option linter.unusedVariables false
set_option linter.unusedSimpArgs false
namespace Ev

section
variable {P : Program} {w : World} {w0 : St0} {σ : Nat → Option Nat} {Im : Nat → Prop} {own : Nat → OB} {ix : Nat}
theorem vw_bytes {m : Nat} {Q : Nat → Int} {X : Value} {src dst e : TypeId} (hs : P.underlying src = some (.slice e)) (he : P.underlying e = some (.int .u8)) (hd : P.underlying dst = some .string)
    (hX : ∃ a c, X = .slice a m c) (h : Vw P w σ Im 1 m (fun j => .int .u8 (Q j)) X) : (convert src dst X).run P w = .ok (.string (strI m Q)) w := by
  obtain ⟨a, c, rfl⟩ := hX
  obtain ⟨U, hU, _, hf⟩ := h
  have hf0 := hf 0
  rw [drewN0] at hf0
  have hUi : ((List.range (m * 1)).map U) = ((List.range m).map Q).map (Value.int .u8) := by
    rw [Nat.mul_one, List.map_map]
    apply List.map_congr_left
    intro j hj
    exact (hU j (by simpa using hj)).2.inv_int
  rw [hUi] at hf0
  cases a with
  | none =>
    have hm : m = 0 := by
      simp [Builtin.firstCells] at hf0
      cases m with
      | zero => rfl
      | succ n => simp [List.range_succ] at hf0
    subst hm
    rw [run_convert_bytes_string w src dst e _ _ _ hs he hd]
    simp [Conv.bytesToString, strI, strOfNums]
    rfl
  | some a =>
    have hl : (loadCells a m).run P w = .ok (((List.range m).map Q).map (Value.int .u8)).toArray w := by
      simpa [Builtin.firstCells] using hf0
    rw [run_convert_bytes_string w src dst e _ _ _ hs he hd, run_bytesToString w _ _ _ _ hl, foldl_push_bytes]
    simp [strI, strOfNums, ByteArray.empty, ByteArray.emptyWithCapacity]
    rfl
theorem viewI_slice {kd : IntKind} {y : AV} {Y : Value} (hy : Rd w σ Im y Y) {m : Nat} {rd : List Nat} {Q : Nat → Int} {q : Prop} (h : viewI kd own y = .ok m rd Q q) (hn : ∀ s, y ≠ .str s) : ∃ a c, Y = .slice a m c := by
  unfold viewI at h
  split at h
  case h_1 => cases h; rw [hy.inv_nils]; exact ⟨_, _, rfl⟩
  case h_2 =>
    split at h
    case h_2 => cases h
    cases h
    rcases hy.inv_sl with ⟨rfl, a, cap, rfl, _⟩ | ⟨b, off, cap, U, rfl, _⟩ <;> exact ⟨_, _, rfl⟩
  case h_3 => exact absurd rfl (hn _)
  case h_4 =>
    split at h
    case h_1 => cases h
    have hh : ∀ m', (∃ a c, Y = Value.slice a m' c) → m' = m → ∃ a c, Y = .slice a m c := fun m' h e => e ▸ h
    have hos := hy.inv_os
    split at h
    · split at h
      case h_2 => cases h
      cases h
      rcases hos with ⟨rfl, a, rfl⟩ | ⟨b, cap, rfl, _⟩ <;> exact ⟨_, _, rfl⟩
    · split at h
      case h_1 => cases h
      split at h
      · cases h
        rcases hos with ⟨rfl, a, rfl⟩ | ⟨b, cap, rfl, _⟩ <;> exact ⟨_, _, rfl⟩
      · cases h
        rcases hos with ⟨rfl, a, rfl⟩ | ⟨b, cap, rfl, _⟩ <;> exact ⟨_, _, rfl⟩
    · cases h
  case h_5 => cases h
theorem decode_cn_int (b : Nat) : (FloatKind.f64.decode (cn b)).toInt .zero = (FloatKind.f64.decode b).toInt .zero := by
  unfold cn
  split
  · rename_i h
    obtain ⟨s, t, e⟩ := read_nan h
    obtain ⟨s', t', e'⟩ := read_nan isN_nanC
    show (Ieee.double.read nanC).toInt .zero = (Ieee.double.read b).toInt .zero
    rw [e, e']; rfl
  · rfl

theorem upd_self {α : Type} (f : Nat → α) (d : Nat) : upd f d (f d) = f := by
  funext t
  rcases upd_cases f d (f d) t with ⟨rfl, e⟩ | ⟨_, e⟩ <;> exact e
theorem freeze_heap (w : World) (a : Addr) : (w.freeze a 1).os = w.os ∧ (w.freeze a 1).tape = w.tape ∧ (w.freeze a 1).output = w.output ∧ (w.freeze a 1).heap.size = w.heap.size ∧ ∀ i, i ≠ a.block → (w.freeze a 1).heap[i]? = w.heap[i]? := by
  unfold World.freeze
  refine ⟨rfl, rfl, rfl, by simp, fun i hi => ?_⟩
  simp only [Nat.succ_ne_zero, if_false, Array.getElem?_modify]
  rw [if_neg (by omega)]
theorem bytes_sound (hS : Sat w0 w σ Im own) (hs : σ ix = none) (hx : ¬ (own ix).live) {e : TypeId} {i : TypeInfo} (hi : P.info? e = some i) (t : ByteArray) (ht : t.size ≤ 140737488355328) :
    ∃ v w', (Conv.stringToBytes e t).run P w = .ok v w' ∧ Post w0 w σ Im own ix (.os ix 1 0 t.size) [] (some (.nums .u8 t.size (byteAt t))) v w' := by
  have hge := grownCap_ge w t.size 0 e
  have hmx := grownCap_le_maxLen w t.size 0 e (by unfold maxLen; omega)
  generalize hcap : grownCap w t.size 0 e = cap at hge hmx
  generalize hcs : (t.data.map fun b => (Value.int .u8 b.toNat)) ++ Array.replicate (cap - t.size) (Value.int .u8 0) = cs
  have hcsz : cs.size = cap := by
    rw [← hcs]
    have : t.data.size = t.size := rfl
    simp [this]; omega
  have hg0 : Go1 w σ Im w.drew σ Im := ⟨fun _ h => h, fun _ _ => rfl, fun _ _ h => h, fun _ _ _ => rfl⟩
  have hS1 : Sat w0 w.drew σ Im own := (hS.go (w' := w.drew) (Im' := Im) ((Below.refl _ _).drew) (fun _ h => h) (fun _ h => .inl h)).2
  have hget : ∀ j, j < t.size → cs.getD j undef = .int .u8 (byteAt t j) := fun j hj => by
    have hj' : j < t.data.size := hj
    have e1 : t.data[j]? = some t.data[j] := Array.getElem?_eq_getElem hj'
    rw [← hcs]
    simp [Array.getElem?_append, byteAt, hj, hj', e1]
  obtain ⟨g1, g2⟩ := hS1.alloc hs hx cs e (.nums .u8 t.size (byteAt t)) (by show t.size ≤ _; omega) (fun j hj => by
    rw [hget j hj]; exact ⟨rfl, .int _ _⟩)
  obtain ⟨f1, f2, f3, f4, f5⟩ := freeze_heap (w.drew.alloc (.cells cs e)) ⟨w.heap.size, cs.size, none⟩
  have hnew : (w.drew.alloc (.cells cs e)).heap[w.heap.size]? = some (.cells cs e (0, 0)) := heap_alloc_new w.drew _
  have hfr : ((w.drew.alloc (.cells cs e)).freeze ⟨w.heap.size, cs.size, none⟩ 1).heap[w.heap.size]? = some (.cells cs e (cs.size, cs.size + 1)) := by
    unfold World.freeze
    simp only [Nat.succ_ne_zero, if_false, Array.getElem?_modify, if_true, hnew]
    rfl
  have hb1 : blen (w.drew.alloc (.cells cs e)) w.heap.size = cs.size := blen_cells hnew
  have hb2 := blen_cells hfr
  obtain ⟨k1, k2⟩ := g2.write (k := ix) (b := w.heap.size) (by rw [upd_same]; trivial) (upd_same _ _ _) _ f1 f2 f3 f4 f5 (.nums .u8 t.size (byteAt t)) (by rw [hb2, hb1]) ⟨by rw [hb2]; show t.size ≤ _; omega, ⟨fun j hj => by
      rw [hb2] at hj
      unfold World.frozen?
      simp only [hfr]
      simp; omega, fun cs' t' lo hi h' => by
      rw [hfr] at h'; cases h'; exact ⟨by omega, fun _ h => by cases h⟩⟩, fun j hj => by
      have hj' : j < cs.size := by have : j < t.size := hj; omega
      refine ⟨cs.getD j undef, ?_, by rw [hget j hj]; rfl, by rw [hget j hj]; exact .int _ _⟩
      unfold World.cell?
      simp only [hfr]
      simp [hj']⟩
  have hup : upd (upd own ix (.nums .u8 t.size (byteAt t))) ix (.nums .u8 t.size (byteAt t)) = upd own ix (.nums .u8 t.size (byteAt t)) := by
    have := upd_self (upd own ix (OB.nums .u8 t.size (byteAt t))) ix
    rwa [upd_same] at this
  rw [hup] at k2
  refine ⟨.slice (some ⟨w.heap.size, 0, none⟩) t.size cap, _, ?_, upd σ ix (some w.heap.size), Im, hg0.trans (g1.trans k1), fun j hj => upd_other _ _ _ hj, fun h => (nomatch h), ?_, k2⟩
  · unfold grownCap at hcap
    have hsh : (w.drew.alloc (.cells cs e)).shape? w.heap.size = some (e, cs.size) := by unfold World.shape?; rw [hnew]
    have hd : (w.drew).heap.size = w.heap.size := rfl
    simp [Conv.stringToBytes, Question.forced, hcap, hcs, newRow, markStringish]
    have e1 : ({ w with drawn := w.drawn + 1 } : World) = w.drew := rfl
    simp [hsh]
  · refine .os _ _ _ _ _ _ (upd_same _ _ _) hge hmx ?_
    rw [hb2]; omega

/-- What was bytes is marked: beyond its end, so nothing that is known is changed. -/
theorem mark_sound (hS : Sat w0 w σ Im own) {k sz off n : Nat} {X : Value} (hl : (own k).live) (hX : Rd w σ Im (.os k sz off n) X) (hn : 0 < n) :
    ∃ w', (∀ b o l c, X = .slice (some ⟨b, o, none⟩) l c → (markStringish ⟨b, o, none⟩).run P w = .ok () w') ∧ Post w0 w σ Im own ix (.os k sz off n) [] none X w' := by
  rcases hX.inv_os with ⟨rfl, _⟩ | ⟨b, cap, rfl, hb, _⟩
  · omega
  have hblk := held_blk hS hl hb
  obtain ⟨g1, ⟨g2, g4⟩, g3⟩ := hblk
  cases hh : w.heap[b]? with
  | none =>
    refine ⟨w, fun b' o l c e => ?_, σ, Im, Go1.refl _ _ _, fun _ _ => rfl, fun _ => rfl, hX, hS⟩
    cases e
    simp [markStringish, World.shape?, hh]
  | some obj =>
    by_cases hc : ∃ cs t lo hi, obj = .cells cs t (lo, hi)
    case neg =>
      refine ⟨w, fun b' o l c e => ?_, σ, Im, Go1.refl _ _ _, fun _ _ => rfl, fun _ => rfl, hX, hS⟩
      cases e
      have hsh : w.shape? b = none := by
        unfold World.shape?; rw [hh]
        cases obj <;> first | rfl | (rename_i cs t fr; exact absurd ⟨cs, t, fr.1, fr.2, rfl⟩ hc)
      simp [markStringish, hsh]
    obtain ⟨cs, t, lo, hi, rfl⟩ := hc
    have hbl := blen_cells hh
    obtain ⟨hle, hty⟩ := g4 _ _ _ _ hh
    obtain ⟨f1, f2, f3, f4, f5⟩ := freeze_heap w ⟨b, cs.size, none⟩
    have hlo : lo = hi ∨ cs.size ≤ lo := by
      rcases Nat.lt_or_ge lo hi with h1 | h1
      · refine .inr (Nat.le_of_not_lt fun h2 => ?_)
        have := g2 lo (by omega)
        unfold World.frozen? at this
        simp only [hh] at this
        simp at this
        omega
      · exact .inl (by omega)
    have hfr : ∃ lo' hi', (w.freeze ⟨b, cs.size, none⟩ 1).heap[b]? = some (.cells cs t (lo', hi')) ∧ cs.size ≤ lo' ∧ lo' ≤ hi' := by
      unfold World.freeze
      simp only [Nat.succ_ne_zero, if_false, Array.getElem?_modify, if_true, hh, Option.map_some]
      by_cases he : lo = hi
      · refine ⟨cs.size, cs.size + 1, ?_, Nat.le_refl _, by omega⟩
        rw [if_pos (by simpa using he)]
      · refine ⟨min lo cs.size, max hi (cs.size + 1), ?_, ?_, ?_⟩
        · rw [if_neg (by simpa using he)]
        · rcases hlo with h1 | h1
          · exact absurd h1 he
          · omega
        · omega
    obtain ⟨lo', hi', hf, q1, q2⟩ := hfr
    have hb2 := blen_cells hf
    obtain ⟨k1, k2⟩ := hS.write hl hb _ f1 f2 f3 f4 f5 (own k) (by rw [hb2, hbl]) ⟨by rw [hb2, ← hbl]; exact g1, ⟨fun j hj => by
        rw [hb2] at hj
        unfold World.frozen?
        simp only [hf]
        simp; omega, fun cs' t' lo2 hi2 h' => by rw [hf] at h'; cases h'; exact ⟨q2, fun t' hT => hty t' hT⟩⟩, fun j hj => by
        obtain ⟨v, a1, a2, a3⟩ := g3 j hj
        refine ⟨v, ?_, a2, a3⟩
        rw [← a1]
        unfold World.cell?
        simp only [hf, hh]⟩
    rw [upd_self] at k2
    refine ⟨_, fun b' o l c e => ?_, σ, Im, k1, fun _ _ => rfl, fun _ => rfl, hX.mono k1, k2⟩
    cases e
    have hsh : w.shape? b = some (t, cs.size) := by unfold World.shape?; rw [hh]
    simp [markStringish, hsh]
theorem runs_of_pure (hS : Sat w0 w σ Im own) {sem : Sem Value} {p : Option Prop} {nm : Bool} {r : AV} {rd : List Nat} (h : p.getD True → Pure1 P w σ Im sem r) :
    (SR.ok p nm r rd [] none).runs fun r wr nw => ∃ v w', sem.run P w = .ok v w' ∧ Post w0 w σ Im own ix r wr nw v w' := fun hp => by
  obtain ⟨v, n, hrun, hr⟩ := h hp
  exact ⟨v, _, hrun, post_pure hS hr⟩
theorem convert_sound {cx : Cx} (hcx : cx.ok P) (hS : Sat w0 w σ Im own) (hs : σ ix = none) (hx : ¬ (own ix).live) {s d : Nat} {x : AV} {X : Value} (hX : Rd w σ Im x X) :
    (convertA cx.ti own ix (Nat.beq s d) (cx.ti s) (cx.ti d) x).runs fun r wr nw => ∃ v w', (convert s d X).run P w = .ok v w' ∧ Post w0 w σ Im own ix r wr nw v w' := by
  unfold convertA
  split
  · trivial
  rename_i hne
  obtain ⟨ds, _, _, hus, hds, _⟩ := (hcx.ti s hne).ex
  split
  case h_1 k hk =>
    obtain ⟨dd, _, _, hud, hdd, _⟩ := (hcx.ti d (by rw [hk]; intro h; cases h)).ex
    rw [hk] at hdd
    have := tdOf_int hdd
    subst this
    split
    case h_1 k' n =>
      have := hX.inv_int
      subst this
      refine runs_of_pure hS fun _ => pure_of (v := .int k (k.wrap n)) ?_ (.int _ _)
      simp [convert, run_underlying hus, run_underlying hud, Conv.intToInt]
    case h_2 b =>
      obtain ⟨B, rfl, hB⟩ := hX.inv_flt
      refine runs_of_pure hS fun hp => ?_
      obtain ⟨n, h1, h2, h3⟩ := hp
      subst hB
      rw [decode_cn_int] at h1 ⊢
      refine pure_of (v := .int k n) ?_ (by rw [h1]; exact .int _ _)
      simp [convert, run_underlying hus, run_underlying hud, Conv.floatToInt, h1, h2, h3]
    case h_3 => trivial
  case h_2 hk =>
    obtain ⟨dd, _, _, hud, hdd, _⟩ := (hcx.ti d (by rw [hk]; intro h; cases h)).ex
    rw [hk] at hdd
    have := tdOf_flt hdd
    subst this
    split
    case h_1 k' n =>
      have := hX.inv_int
      subst this
      refine runs_of_pure hS fun _ => pure_of (v := .float .f64 (FloatKind.f64.nearest n)) ?_ (.flt _ _ rfl)
      simp [convert, run_underlying hus, run_underlying hud, Conv.intToFloat]
    case h_2 b =>
      obtain ⟨B, rfl, hB⟩ := hX.inv_flt
      refine runs_of_pure hS fun _ => pure_of (v := .float .f64 B) ?_ (.flt _ _ hB)
      simp [convert, run_underlying hus, run_underlying hud, Conv.floatToFloat]
    case h_3 => trivial
  case h_3 hk =>
    obtain ⟨dd, _, _, hud, hdd, _⟩ := (hcx.ti d (by rw [hk]; intro h; cases h)).ex
    rw [hk] at hdd
    have := tdOf_str hdd
    subst this
    split
    case h_1 t =>
      have := hX.inv_str
      subst this
      refine runs_of_pure hS fun _ => pure_of (v := .string t) ?_ (.str _)
      simp [convert, run_underlying hus, run_underlying hud]
    case h_2 hn =>
      split
      case h_2 => trivial
      rename_i e he
      rw [he] at hds
      have := tdOf_sl hds
      subst this
      split
      case h_2 => trivial
      rename_i hu8
      obtain ⟨de, _, _, hue, hde, _⟩ := (hcx.ti e (by rw [hu8]; intro h; cases h)).ex
      rw [hu8] at hde
      have := tdOf_int hde
      subst this
      split
      case h_2 => trivial
      rename_i m rd Q q hv
      refine runs_of_pure hS fun hp => pure_of (v := .string (strI m Q)) ?_ (.str _)
      exact vw_bytes hus hue hud (viewI_slice hX hv hn) (viewI_sound (P := P) hS hX hv hp)
  case h_4 e hk =>
    obtain ⟨dd, _, _, hud, hdd, _⟩ := (hcx.ti d (by rw [hk]; intro h; cases h)).ex
    rw [hk] at hdd
    have := tdOf_sl hdd
    subst this
    split
    case h_2 => trivial
    rename_i hu8
    obtain ⟨de, ie, _, hue, hde, hie, _⟩ := (hcx.ti e (by rw [hu8]; intro h; cases h)).ex
    rw [hu8] at hde
    have := tdOf_int hde
    subst this
    split
    case h_3 => trivial
    case h_2 k sz off n =>
      cases hsd : Nat.beq s d with
      | false => trivial
      | true =>
        have hsd := Nat.eq_of_beq_eq_true hsd
        subst hsd
        have hes := hus.symm.trans hud
        have main : (own k).live → (SR.ok (some (0 < n)) false (.os k sz off n) [] [] none).runs fun r wr nw => ∃ v w', (convert s s X).run P w = .ok v w' ∧ Post w0 w σ Im own ix r wr nw v w' := fun hl hp => by
          simp only [Option.getD_some] at hp
          obtain ⟨w', h1, h2⟩ := mark_sound (P := P) hS hl hX hp
          refine ⟨X, w', ?_, h2⟩
          rcases hX.inv_os with ⟨rfl, _⟩ | ⟨b, cap, rfl, hb, _⟩
          · omega
          · cases hes
            simp [convert, run_underlying hud, run_underlying hue, h1 _ _ _ _ rfl]
        simp only
        split
        · rename_i hl; exact main (by rw [hl]; trivial)
        · rename_i hl; exact main (by rw [hl]; trivial)
        · trivial
    case h_1 t =>
    have := hX.inv_str
    subst this
    intro ht
    simp only [Option.getD_some] at ht
    obtain ⟨v, w', h1, h2⟩ := bytes_sound (P := P) hS hs hx hie t ht
    refine ⟨v, w', ?_, h2⟩
    rw [← h1]
    simp [convert, run_underlying hus, run_underlying hud, run_underlying hue]
  case h_5 => trivial

theorem minmax_sound (hS : Sat w0 w σ Im own) (mx : Bool) {x y : AV} {X Y : Value} (ts : Array TypeId) (ty : TypeId) (hX : Rd w σ Im x X) (hY : Rd w σ Im y Y) :
    (minmaxA mx x y).runs fun r wr nw => ∃ v w', (if mx then Builtin.max_ ts ty #[X, Y] else Builtin.min_ ts ty #[X, Y]).run P w = .ok v w' ∧ Post w0 w σ Im own ix r wr nw v w' := by
  unfold minmaxA
  split
  case h_2 => trivial
  have := hX.inv_int
  subst this
  have := hY.inv_int
  subst this
  cases mx
  · exact runs_of_pure hS fun _ => pure_of (v := .int _ _) (by simp [Builtin.min_, Builtin.min2]) (.int _ _)
  · exact runs_of_pure hS fun _ => pure_of (v := .int _ _) (by simp [Builtin.max_, Builtin.max2]) (.int _ _)

theorem copy_sound {cx : Cx} (hcx : cx.ok P) (hS : Sat w0 w σ Im own) {t t2 ty : Nat} {x y : AV} {X Y : Value} (hX : Rd w σ Im x X) (hY : Rd w σ Im y Y) :
    (copyA cx.ti own (cx.ti t).d (cx.ti t2).d x y).runs fun r wr nw => ∃ v w', (Builtin.copy_ #[t, t2] ty #[X, Y]).run P w = .ok v w' ∧ Post w0 w σ Im own ix r wr nw v w' := by
  have main : ∀ e, (cx.ti t).d = .sl e → (copyE cx.ti own e x y).runs fun r wr nw => ∃ v w', (Builtin.copy_ #[t, t2] ty #[X, Y]).run P w = .ok v w' ∧ Post w0 w σ Im own ix r wr nw v w' := by
    intro e hd
    obtain ⟨desc, _, _, hu, hd', _⟩ := (hcx.ti t (by rw [hd]; intro h; cases h)).ex
    rw [hd] at hd'
    have := tdOf_sl hd'
    subst this
    unfold copyE
    split
    case h_2 => trivial
    rename_i kd hk
    obtain ⟨_, ie, _, _, _, hie, hsz, _⟩ := (hcx.ti e (by rw [hk]; intro h; cases h)).ex
    split
    case h_2 => trivial
    rename_i k sz off n
    split
    · trivial
    rename_i hs1
    have hs1 := Nat.eq_of_beq_eq_true hs1
    subst hs1
    split
    case h_2 => trivial
    rename_i kd' N Q0 ho
    split
    · trivial
    rename_i hkk
    have hkk := of_decide_eq_true hkk
    subst hkk
    split
    case h_2 => trivial
    rename_i m rd Q q hv
    split
    case h_2 => trivial
    rename_i hsz1
    have hsz1 := Nat.eq_of_beq_eq_true hsz1
    intro hp
    simp only [Option.getD_some] at hp
    obtain ⟨p1, p2, p3⟩ := hp
    obtain ⟨U, hU, hlen, hfirst⟩ := viewI_sound (P := P) hS hY hv p1
    have hf0 := hfirst 0
    rw [drewN0, Nat.mul_one] at hf0
    have hmin : Nat.min m n = m := Nat.min_eq_left p2
    have hl : (own k).live := by rw [ho]; trivial
    rcases hX.inv_os with ⟨rfl, a, rfl⟩ | ⟨b, cap, rfl, hb, h1, h2, h3⟩
    · have hm : m = 0 := by omega
      subst hm
      refine ⟨.int .i64 0, w, ?_, σ, Im, Go1.refl _ _ _, fun _ _ => rfl, fun _ => rfl, .int _ _, ?_⟩
      · simp only [List.range_zero, List.map_nil] at hf0
        cases a <;> simp [Builtin.copy_, run_underlying hu, sizeOf, typeInfo, hie, hsz, hsz1, hlen, hf0, goInt, storeCells]
      · have e : applyO own [(k, OB.nums kd N fun j => if off ≤ j ∧ j < off + 0 then Q (j - off) else Q0 j)] none ix = own := by
          show upd own k _ = own
          have : (OB.nums kd N fun j => if off ≤ j ∧ j < off + 0 then Q (j - off) else Q0 j) = own k := by
            rw [ho]; congr 1; funext j; rw [if_neg (by omega)]
          rw [this, upd_self]
        rw [e]; exact hS
    · have hblk := held_blk hS hl hb
      have hN : (own k).N = N := by rw [ho]; rfl
      have hle : N ≤ blen w b := by rw [← hN]; exact hblk.1
      have hvl : ((List.range m).map U).length = m := by simp
      have hsome : ∀ i, i < blen w b → (w.cell? ⟨b, i, none⟩).isSome = true := fun i hi => by
        unfold blen at hi
        cases hh : w.heap[b]? with
        | none => simp [hh] at hi
        | some obj => cases obj <;> simp [hh, World.cell?] at hi ⊢; exact hi
      have hst := run_storeCells_cells (P := P) b off ((List.range m).map U) 0 w (fun j hj => by simpa using hsome (off + j) (by rw [hvl] at hj; omega)) (fun j hj => by simpa using hblk.2.1.1 (off + j) (by rw [hvl] at hj; omega))
        (fun v hv => by
          obtain ⟨j, hj, rfl⟩ := List.mem_map.1 hv
          exact (hU j (by simpa using hj)).1)
      simp only [Nat.add_zero] at hst
      obtain ⟨k1, k2⟩ := hS.store hl hb off ((List.range m).map U) (by rw [hvl]; omega) (.nums kd N fun j => if off ≤ j ∧ j < off + m then Q (j - off) else Q0 j) (by show N ≤ _; omega)
        (fun j hj _ => by
          rw [hvl] at hj
          have e1 : ((List.range m).map U).getD j undef = U j := by simp [List.getD, hj]
          rw [e1]
          refine ⟨(hU j (by omega)).1, ?_⟩
          show Rd w σ Im (.int kd (if off ≤ off + j ∧ off + j < off + m then Q (off + j - off) else Q0 (off + j))) _
          rw [if_pos (by omega), Nat.add_sub_cancel_left]
          exact (hU j (by omega)).2)
        (fun i v _ _ hr => by rw [ho] at hr ⊢; exact hr)
        (fun j hj hjo => by
          rw [hvl] at hjo
          show AV.int kd (if off ≤ j ∧ j < off + m then Q (j - off) else Q0 j) = _
          rw [if_neg (by omega), ho]; rfl)
      refine ⟨.int .i64 m, _, ?_, σ, Im, k1, fun _ _ => rfl, fun _ => rfl, .int _ _, k2⟩
      have hmm : m.min n = m := hmin
      have hmm' : min m n = m := hmin
      simp [Builtin.copy_, run_underlying hu, sizeOf, typeInfo, hie, hsz, hsz1, hlen, hmm, hf0, goInt, hst]
  unfold copyA
  split
  case h_3 => trivial
  all_goals
    split
    case h_2 => trivial
    exact main _ ‹_›
end
end Ev
end Go.Proofs.YtphdjmaebdmdmaaGreatDoor
