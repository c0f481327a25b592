/- A region that draws its order, whose operations yield one of several values (a float operation that may come to some not-a-number; a call of which only a relation is known) in worlds of one class: one walk in the order of the text serves every order. The last operations (stores of the result) come in a row behind all others. -/
import Derived.Test.YtkfmpdoendggjaaFloat
import Derived.Deep.Quiet
namespace Go.Proofs.Ytkfmpdoendggjaa
open Go.RowKit
set_option linter.unusedVariables false

section
variable {P : Program} {ops : Array Oper} {md : Region.Mode} {C : World → Prop} {G : FuncId → Array Value → Value → Prop}

theorem list_cons {Q : Exit → Act → World → Prop} {o : Oper} {rest : List Oper} {a : Act} {w : World} :
    wpList P ops Q (o :: rest) a w = (if Region.wanted o (yielded ops a.tmps) = true then Oper.wp P o a w (wpList P ops Q rest) Q ∨ (o.asks P a w ∧ LetsOut Q) else wpList P ops Q rest (a.put o.dst undef) w) := rfl
theorem list_nil {Q : Exit → Act → World → Prop} {a : Act} {w : World} : wpList P ops Q [] a w = Q .normal a w := rfl

/-- Carried out within the class. -/
def runsIn (P : Program) (C : World → Prop) (G : FuncId → Array Value → Value → Prop) : Result Next → Prop
  | .ok (.value _) w' => C w'
  | .ok .skip w' => C w'
  | .ok (.enter f args) w' => C w' ∧ Calls P f args w' fun e w'' => ∃ v, G f args v ∧ e = .returned v ∧ C w''
  | _ => False
/-- A value that it may yield. -/
def mayYield (G : FuncId → Array Value → Value → Prop) (u : Value) : Result Next → Prop
  | .ok (.value v) _ => u = v
  | .ok .skip _ => u = undef
  | .ok (.enter f args) _ => G f args u
  | _ => False
def fairRun (P : Program) (C : World → Prop) (G : FuncId → Array Value → Value → Prop) (o : Oper) (a : Act) : Prop := ∀ w, C w → runsIn P C G ((execOp a.eval o).run P w)
def fairVal (P : Program) (C : World → Prop) (G : FuncId → Array Value → Value → Prop) (o : Oper) (a : Act) (u : Value) : Prop := ∃ w, C w ∧ mayYield G u ((execOp a.eval o).run P w)
/-- One operation: it runs within the class, and whatever it yields, the rest holds. -/
def fair (P : Program) (C : World → Prop) (G : FuncId → Array Value → Value → Prop) (o : Oper) (a : Act) (next : Act → Prop) : Prop :=
  fairRun P C G o a ∧ ∀ u, fairVal P C G o a u → next (a.put o.dst u)
def fairOp (P : Program) (ops : Array Oper) (C : World → Prop) (G : FuncId → Array Value → Value → Prop) (o : Oper) (a : Act) (next : Act → Prop) : Prop :=
  if Region.wanted o (yielded ops a.tmps) = true then fair P C G o a next else next (a.put o.dst undef)
/-- The walk in the order of the text. -/
def wpFair (P : Program) (ops : Array Oper) (C : World → Prop) (G : FuncId → Array Value → Value → Prop) (T : Act → Prop) : List Oper → Act → Prop
  | [], a => T a
  | o :: rest, a => fairOp P ops C G o a (wpFair P ops C G T rest)

theorem wp_of_fair {o : Oper} {a : Act} {K : Act → Prop} {K' : Act → World → Prop} {Q : Exit → Act → World → Prop} {w : World} (hw : C w) (h : ∀ a w', C w' → K a → K' a w') (hf : fair P C G o a K) : Oper.wp P o a w K' Q := by
  obtain ⟨h1, h2⟩ := hf
  have h3 := h1 w hw
  have h4 : ∀ u, mayYield G u ((execOp a.eval o).run P w) → K (a.put o.dst u) := fun u hu => h2 u ⟨w, hw, hu⟩
  unfold Oper.wp
  generalize (execOp a.eval o).run P w = r at *
  cases r with
  | halt x w' => exact h3.elim
  | ok n w' =>
    cases n <;> simp only [runsIn] at h3 <;> simp only [Oper.upon]
    case value v => exact h _ _ h3 (h4 v rfl)
    case skip => exact h _ _ h3 (h4 undef rfl)
    case enter f args => exact h3.2.mono fun e w'' ⟨v, hv, he, hw''⟩ => by subst he; exact h _ _ hw'' (h4 v hv)

/-- Some value is yielded. -/
theorem some_val {o : Oper} {a : Act} {w : World} (hw : C w) (h : fairRun P C G o a) : ∃ u, fairVal P C G o a u := by
  have h1 := h w hw
  cases hr : (execOp a.eval o).run P w with
  | halt x w' => rw [hr] at h1; exact h1.elim
  | ok n w' =>
    rw [hr] at h1
    cases n <;> simp only [runsIn] at h1
    case value v => exact ⟨v, w, hw, by rw [hr]; rfl⟩
    case skip => exact ⟨undef, w, hw, by rw [hr]; rfl⟩
    case enter f args =>
      obtain ⟨_, _, _, ⟨v, hv, _⟩, _⟩ := h1.2 []
      exact ⟨v, w, hw, by rw [hr]; exact hv⟩

/-- Whatever order is picked, as long as operations ahead of the tail are left ('f' of them). -/
def anyFair (P : Program) (md : Region.Mode) (ops : Array Oper) (C : World → Prop) (G : FuncId → Array Value → Value → Prop) (n : Nat) (T : Array Bool → Act → Prop) : Nat → Array Bool → Act → Prop
  | 0, listed, a => T listed a
  | f + 1, listed, a => Region.ready md ops listed ≠ [] ∧ ∀ i ∈ Region.ready md ops listed, i < n ∧ ∃ o, ops[i]? = some o ∧ fairOp P ops C G o a (anyFair P md ops C G n T f (listed.setIfInBounds i true))

theorem any_of_fair {n g : Nat} {T : Array Bool → Act → Prop} {Q : Exit → Act → World → Prop} (hT : ∀ listed a w, T listed a → C w → wpAny P md ops Q g listed a w) :
    ∀ (f : Nat) (listed : Array Bool) (a : Act) (w : World), anyFair P md ops C G n T f listed a → C w → wpAny P md ops Q (f + g) listed a w
  | 0, listed, a, w, h, hw => by rw [Nat.zero_add]; exact hT _ _ _ h hw
  | f + 1, listed, a, w, h, hw => by
    rw [show f + 1 + g = (f + g) + 1 by omega]
    refine ⟨fun h0 => absurd h0 h.1, fun i hi => ?_⟩
    obtain ⟨_, o, ho, hf⟩ := h.2 i hi
    refine wpOp_step ho fun K' hK => ?_
    unfold fairOp at hf
    split
    · rename_i hwn
      rw [if_pos hwn] at hf
      exact wp_of_fair hw (fun a' w' hw' h' => hK _ _ (any_of_fair hT f _ a' w' h' hw')) hf
    · rename_i hwn
      rw [if_neg hwn] at hf
      exact hK _ _ (any_of_fair hT f _ _ w hf hw)

theorem fair_same {o : Oper} {a a' : Act} (he : execOp a'.eval o = execOp a.eval o) : (fairRun P C G o a' ↔ fairRun P C G o a) ∧ ∀ u, fairVal P C G o a' u ↔ fairVal P C G o a u := by
  unfold fairRun fairVal
  rw [he]
  exact ⟨Iff.rfl, fun _ => Iff.rfl⟩

/-- What an operation may leave in its temporary: a value that it may yield, or nothing. -/
def leaves (P : Program) (ops : Array Oper) (C : World → Prop) (G : FuncId → Array Value → Value → Prop) (o : Oper) (a : Act) (u : Value) : Prop :=
  if Region.wanted o (yielded ops a.tmps) = true then fairVal P C G o a u else u = undef
def runs (P : Program) (ops : Array Oper) (C : World → Prop) (G : FuncId → Array Value → Value → Prop) (o : Oper) (a : Act) : Prop :=
  Region.wanted o (yielded ops a.tmps) = true → fairRun P C G o a
theorem fairOp_iff {o : Oper} {a : Act} {K : Act → Prop} : fairOp P ops C G o a K ↔ runs P ops C G o a ∧ ∀ u, leaves P ops C G o a u → K (a.put o.dst u) := by
  unfold fairOp runs leaves
  split
  · rename_i h
    exact ⟨fun x => ⟨fun _ => x.1, x.2⟩, fun x => ⟨x.1 h, x.2⟩⟩
  · rename_i h
    exact ⟨fun x => ⟨fun y => absurd y h, fun u hu => by rw [hu]; exact x⟩, fun x => x.2 _ rfl⟩
theorem some_left {o : Oper} {a : Act} {w : World} (hw : C w) (h : runs P ops C G o a) : ∃ u, leaves P ops C G o a u := by
  unfold leaves
  split
  · rename_i hn; exact some_val hw (h hn)
  · exact ⟨undef, rfl⟩
/-- An operation that is apart from another one does not see whether that one has come up. -/
theorem apart_same {oi : Oper} (hsi : ∀ cs b, oi.op ≠ .select cs b) (a : Act) (dst : Option Tmp) (v : Value) (h : ∀ d, dst = some d → ¬ d ∈ Oper.looksAt ops oi) :
    (runs P ops C G oi (a.put dst v) ↔ runs P ops C G oi a) ∧ ∀ u, leaves P ops C G oi (a.put dst v) u ↔ leaves P ops C G oi a u := by
  have h1 := wanted_put oi a dst v h
  have h2 := fair_same (P := P) (C := C) (G := G) (execOp_put oi hsi a dst v h)
  unfold runs leaves
  rw [h1]
  refine ⟨by rw [h2.1], fun u => ?_⟩
  split
  · exact h2.2 u
  · exact Iff.rfl

theorem fair_first {n i : Nat} {oi : Oper} {T : Array Bool → Act → Prop} {w0 : World} (hw0 : C w0) (hi : ops[i]? = some oi) (hsel : ∀ (j : Nat) (o : Oper) cs b, ops[j]? = some o → o.op ≠ .select cs b)
    (hin : i < n) (htail : ∀ t ot, n ≤ t → ops[t]? = some ot → ∃ e ∈ ot.after, Region.binds md e = true ∧ e.on = i)
    (hdone : ∀ listed a, T listed a → ∀ j ∈ Region.ready md ops listed, n ≤ j) :
    ∀ (f : Nat) (listed : Array Bool) (a : Act),
      (∀ j oj, ops[j]? = some oj → j ≠ i → listed.getD j true = false → (∀ e ∈ oj.after, Region.binds md e = true → e.on ≠ i) → oi.apart ops oj = true) →
      i ∈ Region.ready md ops listed → runs P ops C G oi a → (∀ u, leaves P ops C G oi a u → anyFair P md ops C G n T f (listed.setIfInBounds i true) (a.put oi.dst u)) → anyFair P md ops C G n T (f + 1) listed a := by
  intro f
  induction f with
  | zero =>
    intro listed a _ hr hy H
    refine ⟨fun h => (by rw [h] at hr; cases hr), fun j hj => ?_⟩
    have hun := (mem_ready.1 hr).1
    have hjn : j < n := by
      rcases Nat.lt_or_ge j n with h | h
      · exact h
      · exfalso
        obtain ⟨_, oj, hoj, hall⟩ := mem_ready.1 hj
        obtain ⟨e, he, hb, hon⟩ := htail j oj h hoj
        have h1 := hall e he hb
        rw [hon] at h1
        rcases Nat.lt_or_ge i listed.size with h' | h'
        · simp [h'] at h1 hun; rw [hun] at h1; cases h1
        · simp [Array.getElem?_eq_none h'] at h1
    refine ⟨hjn, ?_⟩
    by_cases hji : j = i
    · subst hji; exact ⟨oi, hi, fairOp_iff.2 ⟨hy, H⟩⟩
    · exfalso
      obtain ⟨u, hu⟩ := some_left hw0 hy
      have := hdone _ _ (H u hu) j (ready_mono hj hji)
      omega
  | succ f ih =>
    intro listed a hfree hr hy H
    refine ⟨fun h => (by rw [h] at hr; cases hr), fun j hj => ?_⟩
    by_cases hji : j = i
    · subst hji; exact ⟨hin, oi, hi, fairOp_iff.2 ⟨hy, H⟩⟩
    · have hun := (mem_ready.1 hr).1
      obtain ⟨hjun, oj, hoj, hall⟩ := mem_ready.1 hj
      have hnot : ∀ e ∈ oj.after, Region.binds md e = true → e.on ≠ i := fun e he hb heq => by
        have h1 := hall e he hb
        rw [heq] at h1
        rcases Nat.lt_or_ge i listed.size with h' | h'
        · simp [h'] at hun h1; rw [hun] at h1; cases h1
        · simp [Array.getElem?_eq_none h'] at h1
      obtain ⟨u0, hu0⟩ := some_left hw0 hy
      have hjn := ((H u0 hu0).2 j (ready_mono hj hji)).1
      obtain ⟨k1, k2, k3⟩ := Oper.apart_spec (hfree j oj hoj hji hjun hnot)
      refine ⟨hjn, oj, hoj, fairOp_iff.2 ⟨?_, fun v hv => ?_⟩⟩
      · obtain ⟨_, oj', hoj', hf⟩ := (H u0 hu0).2 j (ready_mono hj hji)
        have e : oj' = oj := Option.some.inj (hoj'.symm.trans hoj)
        subst e
        exact (apart_same (hsel j oj' · · hoj) a oi.dst u0 k1).1.1 (fairOp_iff.1 hf).1
      · have hfree' : ∀ k ok, ops[k]? = some ok → k ≠ i → (listed.setIfInBounds j true).getD k true = false →
            (∀ e ∈ ok.after, Region.binds md e = true → e.on ≠ i) → oi.apart ops ok = true := fun k ok hk hki hu hno => by
          refine hfree k ok hk hki ?_ hno
          by_cases hjk : j = k
          · subst hjk; exact hjun
          · rw [getD_set_ne true hjk] at hu; exact hu
        have S := apart_same (P := P) (C := C) (G := G) (ops := ops) (hsel i oi · · hi) a oj.dst v k3
        refine ih (listed.setIfInBounds j true) (a.put oj.dst v) hfree' (ready_mono hr (Ne.symm hji)) (S.1.2 hy) fun u hu => ?_
        obtain ⟨_, oj', hoj', hf⟩ := (H u ((S.2 u).1 hu)).2 j (ready_mono hj hji)
        have e : oj' = oj := Option.some.inj (hoj'.symm.trans hoj)
        subst e
        have hg := (fairOp_iff.1 hf).2 v (((apart_same (P := P) (C := C) (G := G) (ops := ops) (hsel j oj' · · hoj) a oi.dst u k1).2 v).2 hv)
        rw [Act.put_comm a u v k2, Array.setIfInBounds_comm _ _ (Ne.symm hji)] at hg
        exact hg

/-- The order of the text, of what lies ahead of the tail. -/
def lexPre (md : Region.Mode) (ops : Array Oper) (n : Nat) : Nat → Nat → Array Bool → Bool
  | 0, _, listed => (Region.ready md ops listed).all fun j => decide (n ≤ j)
  | len + 1, k, listed => (Region.ready md ops listed).contains k && Region.free md ops listed k && lexPre md ops n len (k + 1) (listed.setIfInBounds k true)
def lexTail (md : Region.Mode) (ops : Array Oper) : Nat → Nat → Array Bool → Bool
  | 0, _, listed => (Region.ready md ops listed).isEmpty
  | len + 1, k, listed => decide (Region.ready md ops listed = [k]) && lexTail md ops len (k + 1) (listed.setIfInBounds k true)
def setAll : Nat → Nat → Array Bool → Array Bool
  | 0, _, listed => listed
  | len + 1, k, listed => setAll len (k + 1) (listed.setIfInBounds k true)
def tailB (md : Region.Mode) (ops : Array Oper) (n : Nat) : Bool :=
  (List.range ops.size).all fun t => decide (t < n) || (List.range n).all fun i => match ops[t]? with | some ot => ot.after.any fun e => Region.binds md e && e.on == i | none => true
def fairB (md : Region.Mode) (ops : Array Oper) (n : Nat) : Bool :=
  decide (n ≤ ops.size) && Region.noSelect ops && tailB md ops n && lexPre md ops n n 0 (Array.replicate ops.size false) && lexTail md ops (ops.size - n) n (setAll n 0 (Array.replicate ops.size false))

theorem any_lex {n : Nat} {T : Array Bool → Act → Prop} {T0 : Act → Prop} {w0 : World} (hw0 : C w0) (hs : Region.noSelect ops = true)
    (htail : ∀ i, i < n → ∀ t ot, n ≤ t → ops[t]? = some ot → ∃ e ∈ ot.after, Region.binds md e = true ∧ e.on = i)
    (hdone : ∀ listed a, T listed a → ∀ j ∈ Region.ready md ops listed, n ≤ j) :
    ∀ (l : List Oper) (k : Nat) (listed : Array Bool) (a : Act), k + l.length = n → (∀ j, j < l.length → l[j]? = ops[k + j]?) → lexPre md ops n l.length k listed = true →
      (∀ a, T0 a → (∀ j ∈ Region.ready md ops (setAll l.length k listed), n ≤ j) → T (setAll l.length k listed) a) → wpFair P ops C G T0 l a → anyFair P md ops C G n T l.length listed a
  | [], k, listed, a, _, _, hB, hT, h => hT a h (by
      have := List.all_eq_true.1 hB
      intro j hj
      simpa using this j hj)
  | o :: l, k, listed, a, hk, hl, hB, hT, h => by
    have h0 : ops[k]? = some o := by simpa using (hl 0 (by simp)).symm
    simp only [List.length_cons, lexPre, Bool.and_eq_true] at hB
    obtain ⟨⟨hr, hf⟩, hB'⟩ := hB
    obtain ⟨g1, g2⟩ := fairOp_iff.1 h
    have hkn : k < n := by simp at hk; omega
    refine fair_first hw0 h0 (Region.noSelect_spec hs) hkn (htail k hkn) hdone l.length listed a (Region.free_spec h0 hf) (by simpa using hr) g1 fun u hu => ?_
    exact any_lex hw0 hs htail hdone l (k + 1) _ _ (by simp at hk; omega) (fun j hj => by have := hl (j + 1) (by simp; omega); simpa [Nat.add_assoc, Nat.add_comm 1 j] using this) hB' hT (g2 u hu)

theorem any_tail {Q : Exit → Act → World → Prop} : ∀ (l : List Oper) (k : Nat) (listed : Array Bool) (a : Act) (w : World), (∀ j, j < l.length → l[j]? = ops[k + j]?) → lexTail md ops l.length k listed = true →
    wpList P ops Q l a w → wpAny P md ops Q l.length listed a w
  | [], k, listed, a, w, _, hB, h => ⟨by simpa [lexTail] using hB, h⟩
  | o :: l, k, listed, a, w, hl, hB, h => by
    have h0 : ops[k]? = some o := by simpa using (hl 0 (by simp)).symm
    simp only [List.length_cons, lexTail, Bool.and_eq_true, decide_eq_true_eq] at hB
    obtain ⟨hr, hB'⟩ := hB
    refine ⟨fun h0' => (by rw [hr] at h0'; cases h0'), fun i hi => ?_⟩
    rw [hr] at hi
    obtain rfl := List.mem_singleton.1 hi
    have hnext : ∀ a w, wpList P ops Q l a w → wpAny P md ops Q l.length (listed.setIfInBounds i true) a w := fun a w => any_tail l (i + 1) _ a w (fun j hj => by have := hl (j + 1) (by simp; omega); simpa [Nat.add_assoc, Nat.add_comm 1 j] using this) hB'
    rw [list_cons] at h
    unfold wpOp
    rw [h0]
    simp only
    split
    · rename_i hwn
      rw [if_pos hwn] at h
      rcases h with h | h
      · exact .inl (Oper.wp_mono (fun a w h' => hnext a w h') h)
      · exact .inr h
    · rename_i hwn
      rw [if_neg hwn] at h
      exact hnext _ _ h

theorem setAll_prefix (l : List Oper) : ∀ (n : Nat), n ≤ l.length → (l.take n).length = n := fun n h => by simp; omega
/-- **One walk in the order of the text serves every order.** -/
theorem wp_region_fair {id n : Nat} {Q : Exit → Act → World → Prop} {a : Act} {w : World} {l : List Oper} (hm : P.follows .mixedOrders = true) (hB : fairB .any l.toArray n = true) (hC : C w.drew)
    (h : wpFair P l.toArray C G (fun a' => ∀ w', C w' → wpList P l.toArray Q (l.drop n) a' w') (l.take n) a) : (Code.region id l.toArray true).wp P Q a w := by
  simp only [fairB, Bool.and_eq_true, decide_eq_true_eq, List.size_toArray] at hB
  obtain ⟨⟨⟨⟨hn, hs⟩, ht⟩, hp⟩, hl⟩ := hB
  refine wp_region_any hm ?_
  have htail : ∀ i, i < n → ∀ t ot, n ≤ t → l.toArray[t]? = some ot → ∃ e ∈ ot.after, Region.binds .any e = true ∧ e.on = i := fun i hi t ot htn hot => by
    have htl : t < l.toArray.size := (Array.getElem?_eq_some_iff.1 hot).1
    have h1 := List.all_eq_true.1 ht t (List.mem_range.2 htl)
    simp only [Bool.or_eq_true, decide_eq_true_eq] at h1
    rcases h1 with h1 | h1
    · omega
    · have h2 := List.all_eq_true.1 h1 i (List.mem_range.2 hi)
      rw [hot] at h2
      simp only at h2
      obtain ⟨e, he, hb⟩ := Array.any_eq_true'.1 h2
      simp only [Bool.and_eq_true, beq_iff_eq] at hb
      exact ⟨e, he, hb.1, hb.2⟩
  have hlen : (l.take n).length = n := by simp; omega
  have hdrop : (l.drop n).length = l.length - n := by simp
  have H := any_lex (P := P) (md := .any) (ops := l.toArray) (C := C) (G := G) (n := n)
    (T := fun listed a => (∀ j ∈ Region.ready .any l.toArray listed, n ≤ j) ∧ ∀ w', C w' → wpAny P .any l.toArray Q (l.length - n) listed a w') hC hs htail (fun _ _ h => h.1)
    (l.take n) 0 (Array.replicate l.length false) a (by omega) (fun j hj => by rw [List.getElem?_take]; simp at hj; rw [if_pos (by omega)]; simp) (by rw [hlen]; exact hp)
    (fun a' ha' hr => ⟨hr, fun w' hw' => by
      rw [hlen]
      have := any_tail (P := P) (md := .any) (ops := l.toArray) (Q := Q) (l.drop n) n (setAll n 0 (Array.replicate l.length false)) a' w' (fun j hj => by simp) (by rw [hdrop]; exact hl) (ha' w' hw')
      rwa [hdrop] at this⟩) h
  rw [hlen] at H
  have H2 := any_of_fair (P := P) (md := .any) (ops := l.toArray) (Q := Q) (n := n) (g := l.length - n) (fun listed a w h hw => h.2 w hw) n _ a _ H hC
  rw [show n + (l.length - n) = l.length by omega] at H2
  simpa using H2

/-! ### Steps of the walk -/
section
variable {T : Act → Prop} {o : Oper} {rest : List Oper} {a : Act}
theorem fair_nil (h : T a) : wpFair P ops C G T [] a := h
/-- An operation that yields one value and leaves the world as it was. -/
theorem fair_val {v : Value} (hg : Region.wanted o (yielded ops a.tmps) = true) (h : ∀ w, C w → (execOp a.eval o).run P w = .ok (.value v) w) (hK : wpFair P ops C G T rest (a.put o.dst v)) : wpFair P ops C G T (o :: rest) a :=
  fairOp_iff.2 ⟨fun _ w hw => by rw [h w hw]; exact hw, fun u hu => by
    unfold leaves at hu
    rw [if_pos hg] at hu
    obtain ⟨w, hw, hu⟩ := hu
    rw [h w hw] at hu
    rw [show u = v from hu]
    exact hK⟩
/-- An operation that is passed over. -/
theorem fair_skip (hg : Region.wanted o (yielded ops a.tmps) = false) (hK : wpFair P ops C G T rest (a.put o.dst undef)) : wpFair P ops C G T (o :: rest) a :=
  fairOp_iff.2 ⟨fun h => (by rw [hg] at h; cases h), fun u hu => by
    unfold leaves at hu
    rw [if_neg (by rw [hg]; exact Bool.false_ne_true)] at hu
    rw [hu]
    exact hK⟩
/-- A float operation. -/
theorem fair_flt (bop : BinOp) (t t' : TypeId) (x y : Operand) (X Y : Nat) (ho : o.op = .binOp bop t x y t') (hg : Region.wanted o (yielded ops a.tmps) = true) (hb : bop = .add ∨ bop = .sub ∨ bop = .mul ∨ bop = .quo)
    (hx : a.eval x = .float .f64 X) (hy : a.eval y = .float .f64 Y) (hC : ∀ w n, C w → C (w.drewN n)) (hK : ∀ v, cn v = F bop (cn X) (cn Y) → wpFair P ops C G T rest (a.put o.dst (.float .f64 v))) : wpFair P ops C G T (o :: rest) a := by
  have hr : ∀ w, (execOp a.eval o).run P w = .ok (.value (.float .f64 (fval bop w X Y))) (w.drewN (fdr bop X Y)) := fun w => by
    have h1 : (binOp bop t (.float .f64 X) (.float .f64 Y)).run P w = .ok (.float .f64 (fval bop w X Y)) (w.drewN (fdr bop X Y)) := run_f w bop hb t X Y
    unfold execOp
    rcases hb with rfl | rfl | rfl | rfl <;> simp [ho, hx, hy, eqGuard, h1]
  refine fairOp_iff.2 ⟨fun _ w hw => by rw [hr w]; exact hC _ _ hw, fun u hu => ?_⟩
  unfold leaves at hu
  rw [if_pos hg] at hu
  obtain ⟨w, hw, hu⟩ := hu
  rw [hr w] at hu
  rw [show u = .float .f64 (fval bop w X Y) from hu]
  exact hK _ (cn_fval' _ _ _ _)
/-- A call. -/
theorem fair_call {f : FuncId} {args : Array Value} (hg : Region.wanted o (yielded ops a.tmps) = true) (h : ∀ w, C w → (execOp a.eval o).run P w = .ok (.enter f args) w)
    (hc : ∀ w, C w → Calls P f args w fun e w'' => ∃ v, G f args v ∧ e = .returned v ∧ C w'') (hK : ∀ v, G f args v → wpFair P ops C G T rest (a.put o.dst v)) : wpFair P ops C G T (o :: rest) a :=
  fairOp_iff.2 ⟨fun _ w hw => by rw [h w hw]; exact ⟨hw, hc w hw⟩, fun u hu => by
    unfold leaves at hu
    rw [if_pos hg] at hu
    obtain ⟨w, hw, hu⟩ := hu
    rw [h w hw] at hu
    exact hK u hu⟩
end
end

/-- A float operation in a region that does not draw: what it hands back is told up to which not-a-number. -/
theorem flt_run {P : Program} {o : Oper} {a : Act} (bop : BinOp) (t t' : TypeId) (x y : Operand) (X Y : Nat) (ho : o.op = .binOp bop t x y t') (hb : bop = .add ∨ bop = .sub ∨ bop = .mul ∨ bop = .quo)
    (hx : a.eval x = .float .f64 X) (hy : a.eval y = .float .f64 Y) (w : World) : (execOp a.eval o).run P w = .ok (.value (.float .f64 (fval bop w X Y))) (w.drewN (fdr bop X Y)) := by
  have h1 : (binOp bop t (.float .f64 X) (.float .f64 Y)).run P w = .ok (.float .f64 (fval bop w X Y)) (w.drewN (fdr bop X Y)) := run_f w bop hb t X Y
  unfold execOp
  rcases hb with rfl | rfl | rfl | rfl <;> simp [ho, hx, hy, eqGuard, h1]
theorem list_flt {P : Program} {ops : Array Oper} {Q : Exit → Act → World → Prop} {a : Act} {w : World} {rest : List Oper} {o : Oper} (bop : BinOp) (t t' : TypeId) (x y : Operand) (X Y : Nat)
    (ho : o.op = .binOp bop t x y t') (hg : o.guard = none) (hb : bop = .add ∨ bop = .sub ∨ bop = .mul ∨ bop = .quo) (hx : a.eval x = .float .f64 X) (hy : a.eval y = .float .f64 Y)
    (hK : ∀ v n, Hid (cn v = F bop (cn X) (cn Y)) → wpList P ops Q rest (a.put o.dst (.float .f64 v)) (w.drewN n)) : wpList P ops Q (o :: rest) a w :=
  wpList_plain hg fun K hK' => by
    unfold Oper.wp
    rw [flt_run bop t t' x y X Y ho hb hx hy w]
    exact hK' _ _ (hK _ _ (cn_fval' _ _ _ _))
end Go.Proofs.Ytkfmpdoendggjaa
