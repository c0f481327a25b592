/- Pictures as text: words, plain. -/
import Derived.Test.YtjnpngbgapigeaaDoorPctF
import Derived.Lib.FieldsP
import Derived.Lib.IndexLaws
namespace Go.Proofs.YtjnpngbgapigeaaDoor
open Go.RowKit Ev
set_option linter.unusedVariables false
set_option linter.unusedSimpArgs false
set_option maxRecDepth 20000
set_option maxHeartbeats 4000000

/-- Words between blanks: all words so far, and the one that is being read. -/
def sepB (c : UInt8) : Bool := c == 32 || (c == 9 || c == 13)
def flW (s : List (List UInt8) × List UInt8) : List (List UInt8) := if s.2 = [] then s.1 else s.1 ++ [s.2]
def fstep (s : List (List UInt8) × List UInt8) (c : UInt8) : List (List UInt8) × List UInt8 := if sepB c then (flW s, []) else (s.1, s.2 ++ [c])
def fwL (l : List UInt8) : List (List UInt8) := flW (l.foldl fstep ([], []))
def sepR (r : Nat) : Bool := r == 32 || (r == 9 || r == 13)
theorem sep_of (c : UInt8) : sepR c.toNat = sepB c := by
  unfold sepR sepB
  have e : ∀ k : UInt8, (c.toNat == k.toNat) = (c == k) := fun k => by
    rw [Bool.eq_iff_iff, beq_iff_eq, beq_iff_eq]; exact ⟨UInt8.toNat_inj.1, congrArg _⟩
  exact congr (congrArg _ (e 32)) (congr (congrArg _ (e 9)) (e 13))
theorem sepR_big {r : Nat} (h : 128 ≤ r) : sepR r = false := by
  unfold sepR
  rw [beq_eq_false_iff_ne.2 (by omega), beq_eq_false_iff_ne.2 (by omega), beq_eq_false_iff_ne.2 (by omega)]; rfl
theorem fold_run : ∀ (x : List UInt8) (W : List (List UInt8)) (w : List UInt8), (∀ c ∈ x, sepB c = false) → x.foldl fstep (W, w) = (W, w ++ x)
  | [], W, w, _ => by simp
  | c :: x, W, w, h => by
    have h1 : fstep (W, w) c = (W, w ++ [c]) := by unfold fstep; rw [h c (by simp)]; rfl
    rw [List.foldl_cons, h1, fold_run x _ _ fun d hd => h d (by simp [hd])]
    simp
theorem get_of {l : List UInt8} {i : Nat} (h : i < l.length) : (ByteArray.mk l.toArray).get! i = l.getD i 0 := by
  show (l.toArray)[i]! = _
  simp [h]
/-- What begins with a byte beyond 127: a rune beyond 127, all of whose bytes are. -/
theorem dec_big (l : List UInt8) (pos : Nat) (h : pos < l.length) (hb : 128 ≤ (l.getD pos 0).toNat) : 128 ≤ (Utf8.decode ⟨l.toArray⟩ pos).1 ∧ 1 ≤ (Utf8.decode ⟨l.toArray⟩ pos).2 ∧ pos + (Utf8.decode ⟨l.toArray⟩ pos).2 ≤ l.length ∧ ∀ j, j < (Utf8.decode ⟨l.toArray⟩ pos).2 → 128 ≤ (l.getD (pos + j) 0).toNat := by
  have hsz : (ByteArray.mk l.toArray).size = l.length := by show l.toArray.size = _; simp
  have one : 128 ≤ Utf8.runeError ∧ 1 ≤ 1 ∧ pos + 1 ≤ l.length ∧ ∀ j, j < 1 → 128 ≤ (l.getD (pos + j) 0).toNat := ⟨by decide, Nat.le_refl _, h, fun j hj => by rw [show j = 0 by omega]; exact hb⟩
  have g0 : (ByteArray.mk l.toArray).get! (pos + 0) = l.getD pos 0 := get_of h
  have ct : ∀ k, (pos + k < (ByteArray.mk l.toArray).size && ((ByteArray.mk l.toArray).get! (pos + k)).toNat / 64 == 2) = true → pos + k < l.length ∧ 128 ≤ (l.getD (pos + k) 0).toNat := fun k hk => by
    rw [Bool.and_eq_true, decide_eq_true_eq, hsz, beq_iff_eq] at hk
    rw [get_of hk.1] at hk
    exact ⟨hk.1, by omega⟩
  unfold Utf8.decode
  simp only [g0]
  rw [if_neg (by omega)]
  split
  · rename_i c1
    rw [Bool.and_eq_true] at c1
    have k1 := ct 1 c1.2
    split
    · rename_i c
      refine ⟨by simpa using c, by show 1 ≤ 2; decide, by show pos + 2 ≤ _; omega, fun j hj => ?_⟩
      have : j = 0 ∨ j = 1 := by have : j < 2 := hj; omega
      rcases this with rfl | rfl
      · exact hb
      · exact k1.2
    · exact one
  · split
    · rename_i c1
      rw [Bool.and_eq_true, Bool.and_eq_true] at c1
      have k1 := ct 1 c1.1.2
      have k2 := ct 2 c1.2
      split
      · rename_i c
        rw [Bool.and_eq_true, decide_eq_true_eq] at c
        refine ⟨by have := c.1; show 128 ≤ _; omega, by show 1 ≤ 3; decide, by show pos + 3 ≤ _; omega, fun j hj => ?_⟩
        have : j = 0 ∨ j = 1 ∨ j = 2 := by have : j < 3 := hj; omega
        rcases this with rfl | rfl | rfl
        · exact hb
        · exact k1.2
        · exact k2.2
      · exact one
    · split
      · rename_i c1
        rw [Bool.and_eq_true, Bool.and_eq_true, Bool.and_eq_true] at c1
        have k1 := ct 1 c1.1.1.2
        have k2 := ct 2 c1.1.2
        have k3 := ct 3 c1.2
        split
        · rename_i c
          rw [Bool.and_eq_true, decide_eq_true_eq] at c
          refine ⟨by have := c.1; show 128 ≤ _; omega, by show 1 ≤ 4; decide, by show pos + 4 ≤ _; omega, fun j hj => ?_⟩
          have : j = 0 ∨ j = 1 ∨ j = 2 ∨ j = 3 := by have : j < 4 := hj; omega
          rcases this with rfl | rfl | rfl | rfl
          · exact hb
          · exact k1.2
          · exact k2.2
          · exact k3.2
        · exact one
      · exact one
theorem dec_small (l : List UInt8) (pos : Nat) (h : pos < l.length) (hb : (l.getD pos 0).toNat < 128) : Utf8.decode ⟨l.toArray⟩ pos = ((l.getD pos 0).toNat, 1) := by
  have g0 : (ByteArray.mk l.toArray).get! (pos + 0) = l.getD pos 0 := get_of h
  unfold Utf8.decode
  simp only [g0]
  rw [if_pos hb]
theorem ext_of (l : List UInt8) (a b : Nat) : ((ByteArray.mk l.toArray).extract a b).data.toList = (l.drop a).take (b - a) := by
  simp [ByteArray.data_extract, Array.toList_extract, List.extract_eq_take_drop]
theorem drop_at {l : List UInt8} {pos : Nat} (h : pos < l.length) : l.drop pos = l.getD pos 0 :: l.drop (pos + 1) := by
  rw [List.drop_eq_getElem_cons h]; congr 1; simp [List.getD, h]
/-- Fields as runes go are words as bytes go. -/
theorem spans_eq (l : List UInt8) : ∀ (f pos : Nat) (st : Option Nat) (acc : List (Nat × Nat)) (W : List (List UInt8)) (w : List UInt8),
    l.length - pos ≤ f → pos ≤ l.length → W = acc.map (fun x => (l.drop x.1).take (x.2 - x.1)) → ((st = none ∧ w = []) ∨ ∃ a, st = some a ∧ a < pos ∧ w = (l.drop a).take (pos - a)) →
    (Lib.closeSpans ⟨l.toArray⟩ (Lib.spansFromP sepR ⟨l.toArray⟩ f pos st acc)).map (fun x => (l.drop x.1).take (x.2 - x.1)) = flW ((l.drop pos).foldl fstep (W, w)) := by
  have hsz : (ByteArray.mk l.toArray).size = l.length := by show l.toArray.size = _; simp
  have fin : ∀ (pos : Nat) (st : Option Nat) (acc : List (Nat × Nat)) (W : List (List UInt8)) (w : List UInt8), pos = l.length → W = acc.map (fun x => (l.drop x.1).take (x.2 - x.1)) → ((st = none ∧ w = []) ∨ ∃ a, st = some a ∧ a < pos ∧ w = (l.drop a).take (pos - a)) →
      (Lib.closeSpans ⟨l.toArray⟩ (acc, st)).map (fun x => (l.drop x.1).take (x.2 - x.1)) = flW ((l.drop pos).foldl fstep (W, w)) := by
    intro pos st acc W w hp hW hs
    rw [hp, List.drop_length, List.foldl_nil, hW]
    rcases hs with ⟨rfl, rfl⟩ | ⟨a, rfl, ha, rfl⟩
    · simp [Lib.closeSpans, flW]
    · have hne : (l.drop a).take (pos - a) ≠ [] := fun c => by
        have := congrArg List.length c
        simp at this; omega
      simp only [Lib.closeSpans, flW, hsz, List.map_append, List.map_cons, List.map_nil]
      rw [if_neg (by rwa [hp] at hne ⊢), hp]
  intro f
  induction f with
  | zero =>
    intro pos st acc W w hf hp hW hs
    exact fin pos st acc W w (by omega) hW hs
  | succ f ih =>
    intro pos st acc W w hf hp hW hs
    by_cases hlt : pos < l.length
    · have hcut : ∀ a k, a ≤ pos → pos + k ≤ l.length → (l.drop a).take (pos - a) ++ (l.drop pos).take k = (l.drop a).take (pos + k - a) := fun a k ha hk => by
        rw [show pos + k - a = (pos - a) + k by omega, List.take_add, List.drop_drop, show a + (pos - a) = pos by omega]
      unfold Lib.spansFromP
      rw [if_pos (by rw [hsz]; exact hlt)]
      by_cases hb : (l.getD pos 0).toNat < 128
      · rw [dec_small l pos hlt hb]
        dsimp only
        rw [sep_of, drop_at hlt, List.foldl_cons]
        cases hsep : sepB (l.getD pos 0) with
        | true =>
          rw [if_pos rfl]
          have e1 : fstep (W, w) (l.getD pos 0) = (flW (W, w), []) := by unfold fstep; rw [hsep]; rfl
          rw [e1]
          rcases hs with ⟨rfl, rfl⟩ | ⟨a, rfl, ha, rfl⟩
          · exact ih (pos + 1) none acc (flW (W, [])) [] (by omega) (by omega) (by simp [flW, hW]) (.inl ⟨rfl, rfl⟩)
          · have hne : (l.drop a).take (pos - a) ≠ [] := fun c => by
              have := congrArg List.length c
              simp at this; omega
            exact ih (pos + 1) none _ _ [] (by omega) (by omega) (by simp only [flW]; rw [if_neg hne, hW]; simp) (.inl ⟨rfl, rfl⟩)
        | false =>
          rw [if_neg (by simp)]
          have e1 : fstep (W, w) (l.getD pos 0) = (W, w ++ [l.getD pos 0]) := by unfold fstep; rw [hsep]; rfl
          have e2 : (l.drop pos).take 1 = [l.getD pos 0] := by rw [drop_at hlt]; rfl
          rw [e1]
          rcases hs with ⟨rfl, rfl⟩ | ⟨a, rfl, ha, rfl⟩
          · refine ih (pos + 1) (some pos) acc W _ (by omega) (by omega) hW (.inr ⟨pos, rfl, by omega, ?_⟩)
            rw [show pos + 1 - pos = 1 by omega, e2]; rfl
          · refine ih (pos + 1) (some a) acc W _ (by omega) (by omega) hW (.inr ⟨a, rfl, by omega, ?_⟩)
            rw [← hcut a 1 (by omega) (by omega), e2]
      · obtain ⟨d1, d2, d3, d4⟩ := dec_big l pos hlt (by omega)
        obtain ⟨r, k, hrk⟩ : ∃ r k, Utf8.decode ⟨l.toArray⟩ pos = (r, k) := ⟨_, _, rfl⟩
        rw [hrk] at d1 d2 d3 d4 ⊢
        dsimp only at d1 d2 d3 d4 ⊢
        rw [sepR_big d1, if_neg (by simp)]
        have e0 : l.drop pos = (l.drop pos).take k ++ l.drop (pos + k) := by rw [← List.drop_drop]; exact (List.take_append_drop k _).symm
        have hrun : ∀ c ∈ (l.drop pos).take k, sepB c = false := fun c hc => by
          obtain ⟨j, hj, rfl⟩ := List.getElem_of_mem hc
          have hj' : j < k := by have := List.length_take_le k (l.drop pos); omega
          have := d4 j hj'
          have e : ((l.drop pos).take k)[j] = l.getD (pos + j) 0 := by
            simp [List.getD, show pos + j < l.length by omega]
          rw [e, ← sep_of]
          exact sepR_big this
        rw [e0, List.foldl_append, fold_run _ _ _ hrun]
        rcases hs with ⟨rfl, rfl⟩ | ⟨a, rfl, ha, rfl⟩
        · refine ih (pos + k) (some pos) acc W _ (by omega) (by omega) hW (.inr ⟨pos, rfl, by omega, ?_⟩)
          rw [show pos + k - pos = k by omega]; rfl
        · refine ih (pos + k) (some a) acc W _ (by omega) (by omega) hW (.inr ⟨a, rfl, by omega, ?_⟩)
          exact hcut a k (by omega) (by omega)
    · unfold Lib.spansFromP
      rw [if_neg (by rw [hsz]; exact hlt)]
      exact fin pos st acc W w (by omega) hW hs
theorem fields_eq (l : List UInt8) : (Lib.goFieldsP sepR ⟨l.toArray⟩).map (fun b => b.data.toList) = fwL l := by
  have := spans_eq l l.length 0 none [] [] [] (by omega) (by omega) rfl (.inl ⟨rfl, rfl⟩)
  unfold Lib.goFieldsP Lib.spansOfP fwL
  rw [List.map_map, show (ByteArray.mk l.toArray).size = l.length by show l.toArray.size = _; simp]
  rw [List.drop_zero] at this
  rw [← this]
  exact List.map_congr_left fun x _ => ext_of l x.1 x.2
/-- Lines. -/
def linesOf : List UInt8 → List (List UInt8)
  | [] => [[]]
  | c :: l => if c = 10 then [] :: linesOf l else match linesOf l with | [] => [[c]] | x :: r => (c :: x) :: r
theorem lines_ne : ∀ l, linesOf l ≠ []
  | [] => by simp [linesOf]
  | c :: l => by unfold linesOf; split <;> (try split) <;> simp
theorem lines_none : ∀ l : List UInt8, Lib.indexByte l 10 = -1 → linesOf l = [l]
  | [], _ => rfl
  | c :: l, h => by
    unfold Lib.indexByte at h
    by_cases e : c = 10
    · subst e; simp at h
    · have hc : (c == 10) = false := beq_eq_false_iff_ne.2 e
      rw [hc] at h
      have ge := Lib.indexByte_ge l 10
      have : Lib.indexByte l 10 = -1 := by
        by_cases q : Lib.indexByte l 10 = -1
        · exact q
        · simp [q] at h <;> omega
      unfold linesOf
      rw [if_neg e, lines_none l this]
theorem lines_some : ∀ (l : List UInt8) (i : Nat), Lib.indexByte l 10 = i → linesOf l = l.take i :: linesOf (l.drop (i + 1))
  | [], i, h => by simp [Lib.indexByte] at h <;> omega
  | c :: l, i, h => by
    unfold Lib.indexByte at h
    by_cases e : c = 10
    · subst e
      have hi : i = 0 := by simp at h; omega
      subst hi
      rw [linesOf]; simp
    · have hc : (c == 10) = false := beq_eq_false_iff_ne.2 e
      rw [hc] at h
      have ge := Lib.indexByte_ge l 10
      have q : ¬ Lib.indexByte l 10 = -1 := fun q => by simp [q] at h <;> omega
      have h2 : Lib.indexByte l 10 + 1 = i := by simpa [q] using h
      obtain ⟨j, rfl⟩ : ∃ j, i = j + 1 := ⟨i - 1, by omega⟩
      have ih := lines_some l j (by omega)
      rw [linesOf, if_neg e, ih]
      simp
/-- A line without what stands behind #. -/
def cutL (l : List UInt8) : List UInt8 := l.takeWhile fun c => !(c == 35)
theorem cut_none : ∀ l : List UInt8, Lib.indexByte l 35 = -1 → cutL l = l
  | [], _ => rfl
  | c :: l, h => by
    unfold Lib.indexByte at h
    by_cases e : c = 35
    · subst e; simp at h
    · have hc : (c == 35) = false := beq_eq_false_iff_ne.2 e
      rw [hc] at h
      have ge := Lib.indexByte_ge l 35
      have : Lib.indexByte l 35 = -1 := by
        by_cases q : Lib.indexByte l 35 = -1
        · exact q
        · simp [q] at h <;> omega
      have ih := cut_none l this
      unfold cutL at *
      rw [List.takeWhile_cons, hc]
      simp [ih]
theorem cut_some : ∀ (l : List UInt8) (i : Nat), Lib.indexByte l 35 = i → cutL l = l.take i
  | [], i, h => by simp [cutL]
  | c :: l, i, h => by
    unfold Lib.indexByte at h
    by_cases e : c = 35
    · subst e
      have hi : i = 0 := by simp at h; omega
      subst hi
      simp [cutL]
    · have hc : (c == 35) = false := beq_eq_false_iff_ne.2 e
      rw [hc] at h
      have ge := Lib.indexByte_ge l 35
      have q : ¬ Lib.indexByte l 35 = -1 := fun q => by simp [q] at h <;> omega
      have h2 : Lib.indexByte l 35 + 1 = i := by simpa [q] using h
      obtain ⟨j, rfl⟩ : ∃ j, i = j + 1 := ⟨i - 1, by omega⟩
      have ih := cut_some l j (by omega)
      unfold cutL at *
      rw [List.takeWhile_cons, hc]
      simp [ih]
/-- The words of a text: as the document reads it, byte by byte. -/
structure PWS where
  out : List (List UInt8)
  w : List UInt8
  ov : Bool
def PWS.step (s : PWS) (c : UInt8) : PWS :=
  let ov := if c == 35 then true else if c == 10 then false else s.ov
  if ov || (sepB c || c == 10) then ⟨flW (s.out, s.w), [], ov⟩ else ⟨s.out, s.w ++ [c], ov⟩
def pwords (t : List UInt8) : List (List UInt8) := ((t ++ [10]).foldl PWS.step ⟨[], [], false⟩).out
theorem pw_over (out : List (List UInt8)) : ∀ l : List UInt8, (∀ c ∈ l, c ≠ 10) → l.foldl PWS.step ⟨out, [], true⟩ = ⟨out, [], true⟩
  | [], _ => rfl
  | c :: l, h => by
    have hc : (c == 10) = false := beq_eq_false_iff_ne.2 (h c (by simp))
    have e : PWS.step ⟨out, [], true⟩ c = ⟨out, [], true⟩ := by unfold PWS.step; simp [hc, flW]
    rw [List.foldl_cons, e]
    exact pw_over out l fun d hd => h d (by simp [hd])
theorem pw_line : ∀ (l : List UInt8) (out : List (List UInt8)) (w : List UInt8), (∀ c ∈ l, c ≠ 10) → (l ++ [10]).foldl PWS.step ⟨out, w, false⟩ = ⟨flW ((cutL l).foldl fstep (out, w)), [], false⟩
  | [], out, w, _ => by simp [PWS.step, cutL]
  | c :: l, out, w, h => by
    have hc : (c == 10) = false := beq_eq_false_iff_ne.2 (h c (by simp))
    have hl : ∀ d ∈ l, d ≠ 10 := fun d hd => h d (by simp [hd])
    rw [List.cons_append, List.foldl_cons]
    by_cases e : c = 35
    · subst e
      have e1 : PWS.step ⟨out, w, false⟩ 35 = ⟨flW (out, w), [], true⟩ := by simp [PWS.step]
      rw [e1, List.foldl_append, pw_over _ l hl]
      simp [PWS.step, cutL, flW]
    · have hh : (c == 35) = false := beq_eq_false_iff_ne.2 e
      have e0 : cutL (c :: l) = c :: cutL l := by unfold cutL; rw [List.takeWhile_cons, hh]; rfl
      rw [e0, List.foldl_cons]
      cases hs : sepB c with
      | true =>
        have e1 : PWS.step ⟨out, w, false⟩ c = ⟨flW (out, w), [], false⟩ := by simp [PWS.step, hc, hh, hs]
        have e2 : fstep (out, w) c = (flW (out, w), []) := by unfold fstep; rw [hs]; rfl
        rw [e1, e2]
        exact pw_line l _ _ hl
      | false =>
        have e1 : PWS.step ⟨out, w, false⟩ c = ⟨out, w ++ [c], false⟩ := by simp [PWS.step, hc, hh, hs]
        have e2 : fstep (out, w) c = (out, w ++ [c]) := by unfold fstep; rw [hs]; rfl
        rw [e1, e2]
        exact pw_line l _ _ hl
theorem fl_out : ∀ (l : List UInt8) (out : List (List UInt8)) (w : List UInt8), flW (l.foldl fstep (out, w)) = out ++ flW (l.foldl fstep ([], w))
  | [], out, w => by by_cases hw : w = [] <;> simp [flW, hw]
  | c :: l, out, w => by
    rw [List.foldl_cons, List.foldl_cons]
    cases hs : sepB c with
    | true =>
      have e1 : ∀ o, fstep (o, w) c = (flW (o, w), []) := fun o => by unfold fstep; rw [hs]; rfl
      rw [e1, e1, fl_out l (flW (out, w)), fl_out l (flW ([], w)), ← List.append_assoc]
      congr 1
      by_cases hw : w = [] <;> simp [flW, hw]
    | false =>
      have e1 : ∀ o, fstep (o, w) c = (o, w ++ [c]) := fun o => by unfold fstep; rw [hs]; rfl
      rw [e1, e1]
      exact fl_out l out (w ++ [c])
/-- The words of lines, one behind the other. -/
def lwords (ls : List (List UInt8)) : List (List UInt8) := ls.flatMap fun x => fwL (cutL x)
theorem lwords_snoc (ls : List (List UInt8)) (x : List UInt8) : lwords (ls ++ [x]) = lwords ls ++ fwL (cutL x) := by simp [lwords]
theorem pw_lines : ∀ (t pre : List UInt8) (out : List (List UInt8)), (∀ c ∈ pre, c ≠ 10) → ((pre ++ t) ++ [10]).foldl PWS.step ⟨out, [], false⟩ = ⟨out ++ (match linesOf t with | [] => [] | x :: r => lwords ((pre ++ x) :: r)), [], false⟩
  | [], pre, out, h => by
    rw [List.append_nil, pw_line pre out [] h, fl_out]
    simp [linesOf, lwords, fwL]
  | c :: t, pre, out, h => by
    by_cases e : c = 10
    · subst e
      have e0 : (pre ++ 10 :: t) ++ [10] = (pre ++ [10]) ++ (([] ++ t) ++ [10]) := by simp
      rw [e0, List.foldl_append, pw_line pre out [] h, fl_out, pw_lines t [] _ (by simp)]
      rw [linesOf, if_pos rfl]
      have hne := lines_ne t
      cases hl : linesOf t with
      | nil => exact absurd hl hne
      | cons x r => simp [lwords, fwL]
    · have e0 : (pre ++ c :: t) ++ [10] = ((pre ++ [c]) ++ t) ++ [10] := by simp
      rw [e0, pw_lines t (pre ++ [c]) out (fun d hd => by
        rcases List.mem_append.1 hd with q | q
        · exact h d q
        · simp at q; subst q; exact e)]
      rw [linesOf, if_neg e]
      have hne := lines_ne t
      cases hl : linesOf t with
      | nil => exact absurd hl hne
      | cons x r => simp
theorem pwords_eq (t : List UInt8) : pwords t = lwords (linesOf t) := by
  have := pw_lines t [] [] (by simp)
  unfold pwords
  rw [show t ++ [10] = ([] ++ t) ++ [10] by simp, this]
  have hne := lines_ne t
  cases hl : linesOf t with
  | nil => exact absurd hl hne
  | cons x r => simp
end Go.Proofs.YtjnpngbgapigeaaDoor
