/- The abstract machine: a statement, in order or in whatever order. -/
import Derived.Test.YtphdjmaebdmdmaaGreatDoorEvEmi
namespace Go.Proofs.YtphdjmaebdmdmaaGreatDoor
open Go.RowKit
set_option linter.unusedVariables false
set_option linter.unusedSimpArgs false
namespace Ev

def applyK : List (Nat × OB) → (Nat → OB) → ((Nat → OB) → Prop) → Prop
  | [], own, K => K own
  | (k, o) :: r, own, K => applyK r (upd own k o) K
def applyOK (wr : List (Nat × OB)) (nw : Option OB) (ix : Nat) (own : Nat → OB) (K : (Nat → OB) → Prop) : Prop :=
  applyK wr own fun own => match nw with
    | some ob => K (upd own ix ob)
    | none => K own
theorem applyK_eq : ∀ (wr : List (Nat × OB)) (own : Nat → OB) (K : (Nat → OB) → Prop), applyK wr own K = K (applyW own wr)
  | [], _, _ => rfl
  | (k, o) :: r, own, K => by unfold applyK; rw [applyK_eq r]; rfl
theorem applyOK_eq (wr : List (Nat × OB)) (nw : Option OB) (ix : Nat) (own : Nat → OB) (K : (Nat → OB) → Prop) : applyOK wr nw ix own K = K (applyO own wr nw ix) := by
  unfold applyOK; rw [applyK_eq]; cases nw <;> rfl
def putK (env : Nat → AV) (d : Option Nat) (u : AV) (K : (Nat → AV) → Prop) : Prop :=
  match d with
  | some d => K (upd env d u)
  | none => K env
theorem putK_eq (env : Nat → AV) (d : Option Nat) (u : AV) (K : (Nat → AV) → Prop) : putK env d u K = K (putE env d u) := by cases d <;> rfl
def keysK (wr : List (Nat × OB)) : List Nat := keys wr

def runE (cx : Cx) (con : Nat → List AV → CR) (ops : Array Oper) (base : Nat) : List Oper → Nat → (Nat → AV) → (Nat → OB) → List (List Nat × List Nat) → (Nat → (Nat → AV) → (Nat → OB) → List (List Nat × List Nat) → Prop) → Prop
  | [], i, env, own, fs, K => K i env own fs
  | o :: r, i, env, own, fs, K => opE cx con ops o (base + i) env own fun u wr nw foot =>
    match (keys wr).all fun k => Nat.blt k (base + i) with
    | false => False
    | true => putK env o.dst u fun env => applyOK wr nw (base + i) own fun own => forceN (i + 1) fun i => runE cx con ops base r i env own ((keys wr, foot) :: fs) K

/-- May the order be whatever the edges let in? -/
def befB (ops : Array Oper) : Nat → Nat → Nat → Bool
  | 0, _, _ => false
  | n + 1, i, j => match ops[j]? with
    | none => false
    | some o => (o.after.toList.any fun e => Region.binds .any e && Nat.beq e.on i) || o.after.toList.any fun e => Region.binds .any e && befB ops n i e.on
def memB (l : List Nat) (k : Nat) : Bool := l.any fun x => Nat.beq x k
def meetB (l m : List Nat) : Bool := l.any fun x => memB m x
def nth (fs : List (List Nat × List Nat)) (n i : Nat) : List Nat × List Nat := (fs[n - 1 - i]?).getD ([], [])
def clashB (ops : Array Oper) (base n : Nat) (fs : List (List Nat × List Nat)) (i j : Nat) : Bool :=
  (match dstOf ops i with | some t => memB (looksOf ops j) t | none => false) || (match dstOf ops j with | some t => memB (looksOf ops i) t | none => false) ||
  (match dstOf ops i, dstOf ops j with | some t, some u => Nat.beq t u | _, _ => false) ||
  meetB ((base + i) :: (nth fs n i).1) (nth fs n j).2 || meetB ((base + i) :: (nth fs n i).1) ((base + j) :: (nth fs n j).1) || meetB ((base + j) :: (nth fs n j).1) (nth fs n i).2
def confB (ops : Array Oper) (base : Nat) (fs : List (List Nat × List Nat)) : Bool :=
  ((List.range ops.size).all fun j => match ops[j]? with | none => true | some o => o.after.toList.all fun e => !Region.binds .any e || Nat.blt e.on j) &&
  ((List.range ops.size).all fun j => (List.range j).all fun i => !clashB ops base ops.size fs i j || befB ops ops.size i j)

/-- All before the last one: may their order be whatever the edges let in? -/
def confS (ops : Array Oper) (base n : Nat) (fs : List (List Nat × List Nat)) : Bool :=
  ((List.range ops.size).all fun j => match ops[j]? with | none => true | some o => o.after.toList.all fun e => !Region.binds .any e || Nat.blt e.on j) &&
  ((List.range n).all fun j => (List.range j).all fun i => !clashB ops base n fs i j || befB ops ops.size i j)
/-- What a kernel works out. -/
inductive IsT : Bool → Prop
  | mk : IsT true
theorem IsT.of {b : Bool} (h : b = true) : IsT b := by rw [h]; exact .mk
theorem IsT.eq {b : Bool} (h : IsT b) : b = true := by cases h; rfl
/-- A statement. -/
def regA (cx : Cx) (con : Nat → List AV → CR) (ops : Array Oper) (draw : Bool) (env : Nat → AV) (own : Nat → OB) (nk : Nat) (K : (Nat → AV) → (Nat → OB) → Nat → Prop) : Prop :=
  runE cx con ops nk ops.toList 0 env own [] fun i env own fs => match draw with
    | true => IsT (confB ops nk fs) ∧ forceN (nk + i) fun nk => K env own nk
    | false => forceN (nk + i) fun nk => K env own nk

section
variable {P : Program} {w0 : St0}
def itE (ops : Array Oper) (rec : Nat → Rec) (e0 : Nat → AV) : Nat → (Nat → AV)
  | 0 => e0
  | n + 1 => putE (itE ops rec e0 n) (dstOf ops n) (rec n).u
def itO (base : Nat) (rec : Nat → Rec) (o0 : Nat → OB) : Nat → (Nat → OB)
  | 0 => o0
  | n + 1 => applyO (itO base rec o0 n) (rec n).wr (rec n).nw (base + n)
def feet (rec : Nat → Rec) : Nat → List (List Nat × List Nat)
  | 0 => []
  | n + 1 => (keys (rec n).wr, (rec n).foot) :: feet rec n
theorem itE_same (ops : Array Oper) (rec rec' : Nat → Rec) (e0 : Nat → AV) : ∀ n, (∀ j, j < n → rec j = rec' j) → itE ops rec e0 n = itE ops rec' e0 n
  | 0, _ => rfl
  | n + 1, h => by unfold itE; rw [itE_same ops rec rec' e0 n fun j hj => h j (by omega), h n (by omega)]
theorem itO_same (base : Nat) (rec rec' : Nat → Rec) (o0 : Nat → OB) : ∀ n, (∀ j, j < n → rec j = rec' j) → itO base rec o0 n = itO base rec' o0 n
  | 0, _ => rfl
  | n + 1, h => by unfold itO; rw [itO_same base rec rec' o0 n fun j hj => h j (by omega), h n (by omega)]
theorem feet_same (rec rec' : Nat → Rec) : ∀ n, (∀ j, j < n → rec j = rec' j) → feet rec n = feet rec' n
  | 0, _ => rfl
  | n + 1, h => by unfold feet; rw [feet_same rec rec' n fun j hj => h j (by omega), h n (by omega)]
theorem runE_sound {cx : Cx} (hcx : cx.ok P) {con : Nat → List AV → CR} (hcon : ConOk P con) {ops : Array Oper} {m base : Nat} (hok : ∀ o ∈ ops, okT m ops o = true) (e0 : Nat → AV) (o0 : Nat → OB) {K : Nat → (Nat → AV) → (Nat → OB) → List (List Nat × List Nat) → Prop} :
    ∀ (l : List Oper) (i : Nat) (rec0 : Nat → Rec), i + l.length = ops.size → (∀ j, l[j]? = ops[i + j]?) → runE cx con ops base l i (itE ops rec0 e0 i) (itO base rec0 o0 i) (feet rec0 i) K →
      ∃ rec : Nat → Rec, (∀ j, j < i → rec j = rec0 j) ∧ (∀ j o, i ≤ j → ops[j]? = some o → OpOk P w0 ops m o (base + j) (itE ops rec e0 j) (itO base rec o0 j) (rec j) ∧ ∀ k ∈ keys (rec j).wr, k < base + j) ∧
        K ops.size (itE ops rec e0 ops.size) (itO base rec o0 ops.size) (feet rec ops.size)
  | [], i, rec0, hn, hl, h => by
    have hn : i = ops.size := by simpa using hn
    subst hn
    refine ⟨rec0, fun _ _ => rfl, fun j o hj ho => ?_, h⟩
    rw [Array.getElem?_eq_none hj] at ho
    cases ho
  | o :: r, i, rec0, hn, hl, h => by
    have ho : ops[i]? = some o := by simpa using (hl 0).symm
    unfold runE at h
    have hmem : o ∈ ops := Array.mem_of_getElem? ho
    obtain ⟨rc, h1, h2⟩ := opE_sound (w0 := w0) hcx hcon (hok o hmem) h
    split at h2
    · exact h2.elim
    rename_i hkeys
    have hkeys : ∀ k ∈ keys rc.wr, k < base + i := fun k hk => Nat.le_of_ble_eq_true (List.all_eq_true.1 hkeys k hk)
    rw [putK_eq, applyOK_eq, forceN_eq] at h2
    have hd : o.dst = dstOf ops i := by unfold dstOf; rw [ho]; rfl
    rw [hd] at h2
    obtain ⟨R, hR⟩ : ∃ R : Nat → Rec, R = fun j => if j = i then rc else rec0 j := ⟨_, rfl⟩
    have hlt : ∀ j, j < i → R j = rec0 j := fun j hj => by rw [hR]; exact if_neg (by omega)
    have hii : R i = rc := by rw [hR]; exact if_pos rfl
    have e1 : itE ops R e0 (i + 1) = putE (itE ops rec0 e0 i) (dstOf ops i) rc.u := by
      show putE (itE ops R e0 i) (dstOf ops i) (R i).u = _
      rw [itE_same ops _ rec0 e0 i hlt, hii]
    have e2 : itO base R o0 (i + 1) = applyO (itO base rec0 o0 i) rc.wr rc.nw (base + i) := by
      show applyO (itO base R o0 i) (R i).wr (R i).nw (base + i) = _
      rw [itO_same base _ rec0 o0 i hlt, hii]
    have e3 : feet R (i + 1) = (keys rc.wr, rc.foot) :: feet rec0 i := by
      show (keys (R i).wr, (R i).foot) :: feet R i = _
      rw [feet_same _ rec0 i hlt, hii]
    obtain ⟨rec, a1, a2, a3⟩ := runE_sound hcx hcon hok e0 o0 r (i + 1) R (by simp at hn; omega) (fun j => by have := hl (j + 1); simpa [Nat.add_assoc, Nat.add_comm 1 j] using this) (by rw [e1, e2, e3]; exact h2)
    refine ⟨rec, fun j hj => (a1 j (by omega)).trans (hlt j hj), fun j oj hj hoj => ?_, a3⟩
    rcases Nat.lt_or_ge i j with hij | hij
    · exact a2 j oj hij hoj
    · have : j = i := by omega
      subst this
      rw [ho] at hoj; cases hoj
      have b1 : itE ops rec e0 j = itE ops rec0 e0 j := itE_same ops _ _ e0 j fun k hk => (a1 k (by omega)).trans (hlt k hk)
      have b2 : itO base rec o0 j = itO base rec0 o0 j := itO_same base _ _ o0 j fun k hk => (a1 k (by omega)).trans (hlt k hk)
      rw [b1, b2, a1 j (by omega), hii]
      exact ⟨h1, hkeys⟩

theorem runE_soundN {cx : Cx} (hcx : cx.ok P) {con : Nat → List AV → CR} (hcon : ConOk P con) {ops : Array Oper} {m base n : Nat} (hnle : n ≤ ops.size) (hok : ∀ o ∈ ops, okT m ops o = true) (e0 : Nat → AV) (o0 : Nat → OB) {K : Nat → (Nat → AV) → (Nat → OB) → List (List Nat × List Nat) → Prop} :
    ∀ (l : List Oper) (i : Nat) (rec0 : Nat → Rec), i + l.length = n → (∀ j, j < l.length → l[j]? = ops[i + j]?) → runE cx con ops base l i (itE ops rec0 e0 i) (itO base rec0 o0 i) (feet rec0 i) K →
      ∃ rec : Nat → Rec, (∀ j, j < i → rec j = rec0 j) ∧ (∀ j o, i ≤ j → j < n → ops[j]? = some o → OpOk P w0 ops m o (base + j) (itE ops rec e0 j) (itO base rec o0 j) (rec j) ∧ ∀ k ∈ keys (rec j).wr, k < base + j) ∧
        K n (itE ops rec e0 n) (itO base rec o0 n) (feet rec n)
  | [], i, rec0, hn, hl, h => by
    have hn : i = n := by simpa using hn
    subst hn
    exact ⟨rec0, fun _ _ => rfl, fun j o hj hj2 ho => by omega, h⟩
  | o :: r, i, rec0, hn, hl, h => by
    have ho : ops[i]? = some o := by simpa using (hl 0 (by simp)).symm
    unfold runE at h
    have hmem : o ∈ ops := Array.mem_of_getElem? ho
    obtain ⟨rc, h1, h2⟩ := opE_sound (w0 := w0) hcx hcon (hok o hmem) h
    split at h2
    · exact h2.elim
    rename_i hkeys
    have hkeys : ∀ k ∈ keys rc.wr, k < base + i := fun k hk => Nat.le_of_ble_eq_true (List.all_eq_true.1 hkeys k hk)
    rw [putK_eq, applyOK_eq, forceN_eq] at h2
    have hd : o.dst = dstOf ops i := by unfold dstOf; rw [ho]; rfl
    rw [hd] at h2
    obtain ⟨R, hR⟩ : ∃ R : Nat → Rec, R = fun j => if j = i then rc else rec0 j := ⟨_, rfl⟩
    have hlt : ∀ j, j < i → R j = rec0 j := fun j hj => by rw [hR]; exact if_neg (by omega)
    have hii : R i = rc := by rw [hR]; exact if_pos rfl
    have e1 : itE ops R e0 (i + 1) = putE (itE ops rec0 e0 i) (dstOf ops i) rc.u := by
      show putE (itE ops R e0 i) (dstOf ops i) (R i).u = _
      rw [itE_same ops _ rec0 e0 i hlt, hii]
    have e2 : itO base R o0 (i + 1) = applyO (itO base rec0 o0 i) rc.wr rc.nw (base + i) := by
      show applyO (itO base R o0 i) (R i).wr (R i).nw (base + i) = _
      rw [itO_same base _ rec0 o0 i hlt, hii]
    have e3 : feet R (i + 1) = (keys rc.wr, rc.foot) :: feet rec0 i := by
      show (keys (R i).wr, (R i).foot) :: feet R i = _
      rw [feet_same _ rec0 i hlt, hii]
    obtain ⟨rec, a1, a2, a3⟩ := runE_soundN hcx hcon hnle hok e0 o0 r (i + 1) R (by simp at hn; omega) (fun j hj => by have := hl (j + 1) (by simp; omega); simpa [Nat.add_assoc, Nat.add_comm 1 j] using this) (by rw [e1, e2, e3]; exact h2)
    refine ⟨rec, fun j hj => (a1 j (by omega)).trans (hlt j hj), fun j oj hj hj2 hoj => ?_, a3⟩
    rcases Nat.lt_or_ge i j with hij | hij
    · exact a2 j oj hij hj2 hoj
    · have : j = i := by omega
      subst this
      rw [ho] at hoj; cases hoj
      have b1 : itE ops rec e0 j = itE ops rec0 e0 j := itE_same ops _ _ e0 j fun k hk => (a1 k (by omega)).trans (hlt k hk)
      have b2 : itO base rec o0 j = itO base rec0 o0 j := itO_same base _ _ o0 j fun k hk => (a1 k (by omega)).trans (hlt k hk)
      rw [b1, b2, a1 j (by omega), hii]
      exact ⟨h1, hkeys⟩

theorem befB_sound {ops : Array Oper} : ∀ (n i j : Nat), befB ops n i j = true → Bef ops i j
  | 0, _, _, h => by cases h
  | n + 1, i, j, h => by
    unfold befB at h
    split at h
    · cases h
    rename_i o ho
    rw [Bool.or_eq_true] at h
    rcases h with h | h
    · obtain ⟨e, he, h1⟩ := List.any_eq_true.1 h
      rw [Bool.and_eq_true] at h1
      exact .one ho (by simpa using he) h1.1 (Nat.eq_of_beq_eq_true h1.2)
    · obtain ⟨e, he, h1⟩ := List.any_eq_true.1 h
      rw [Bool.and_eq_true] at h1
      exact .trans (befB_sound n i e.on h1.2) (.one ho (by simpa using he) h1.1 rfl)
theorem memB_of {l : List Nat} {k : Nat} (h : k ∈ l) : memB l k = true := List.any_eq_true.2 ⟨k, h, by simp⟩
theorem meetB_of {l m : List Nat} {k : Nat} (h : k ∈ l) (h' : k ∈ m) : meetB l m = true := List.any_eq_true.2 ⟨k, h, memB_of h'⟩
theorem feet_len (rec : Nat → Rec) : ∀ n, (feet rec n).length = n
  | 0 => rfl
  | n + 1 => by simp [feet, feet_len rec n]
theorem nth_feet (rec : Nat → Rec) : ∀ n i, i < n → nth (feet rec n) n i = (keys (rec i).wr, (rec i).foot)
  | 0, i, h => by omega
  | n + 1, i, h => by
    unfold nth feet
    by_cases he : i = n
    · subst he
      have : i + 1 - 1 - i = 0 := by omega
      rw [this]; rfl
    · have := nth_feet rec n i (by omega)
      unfold nth at this
      have e : n + 1 - 1 - i = (n - 1 - i) + 1 := by omega
      rw [e, List.getElem?_cons_succ]
      exact this
theorem confB_sound {ops : Array Oper} {base : Nat} {rec : Nat → Rec} (h : confB ops base (feet rec ops.size) = true) :
    (∀ (j : Nat) (o : Oper), ops[j]? = some o → ∀ e ∈ o.after, Region.binds .any e = true → e.on < j) ∧
    (∀ i j, i < j → j < ops.size → Conf ops base rec i j → Bef ops i j) := by
  unfold confB at h
  rw [Bool.and_eq_true] at h
  obtain ⟨h1, h3⟩ := h
  refine ⟨fun j o ho e he hb => ?_, fun i j hij hj hc => ?_⟩
  · have hj : j < ops.size := by
      rcases Nat.lt_or_ge j ops.size with h | h
      · exact h
      · rw [Array.getElem?_eq_none h] at ho; cases ho
    have := List.all_eq_true.1 h1 j (by simpa using hj)
    rw [ho] at this
    have := List.all_eq_true.1 this e (by simpa using he)
    rw [hb] at this
    simp only [Bool.not_true, Bool.false_or] at this
    exact Nat.le_of_ble_eq_true this
  · have := List.all_eq_true.1 (List.all_eq_true.1 h3 j (by simpa using hj)) i (by simpa using hij)
    rw [Bool.or_eq_true] at this
    refine befB_sound ops.size i j (this.resolve_left ?_)
    have hi : i < ops.size := by omega
    have hclash : clashB ops base ops.size (feet rec ops.size) i j = true := by
      unfold clashB
      rw [nth_feet rec _ i hi, nth_feet rec _ j hj]
      simp only [Bool.or_eq_true]
      rcases hc with ⟨t, a1, a2⟩ | ⟨t, a1, a2⟩ | ⟨t, a1, a2⟩ | ⟨k, a1, a2⟩ | ⟨k, a1, a2⟩ | ⟨k, a1, a2⟩
      · rw [a1]; exact .inl (.inl (.inl (.inl (.inl (memB_of a2)))))
      · rw [a1]; exact .inl (.inl (.inl (.inl (.inr (memB_of a2)))))
      · rw [a1, a2]; exact .inl (.inl (.inl (.inr (by simp))))
      · exact .inl (.inl (.inr (meetB_of a1 a2)))
      · exact .inl (.inr (meetB_of a1 a2))
      · exact .inr (meetB_of a1 a2)
    rw [hclash]; simp

theorem confS_sound {ops : Array Oper} {base n : Nat} {rec : Nat → Rec} (hnle : n ≤ ops.size) (h : confS ops base n (feet rec n) = true) :
    (∀ (j : Nat) (o : Oper), ops[j]? = some o → ∀ e ∈ o.after, Region.binds .any e = true → e.on < j) ∧
    (∀ i j, i < j → j < n → Conf ops base rec i j → Bef ops i j) := by
  unfold confS at h
  rw [Bool.and_eq_true] at h
  obtain ⟨h1, h3⟩ := h
  refine ⟨fun j o ho e he hb => ?_, fun i j hij hj hc => ?_⟩
  · have hj : j < ops.size := by
      rcases Nat.lt_or_ge j ops.size with h | h
      · exact h
      · rw [Array.getElem?_eq_none h] at ho; cases ho
    have := List.all_eq_true.1 h1 j (by simpa using hj)
    rw [ho] at this
    have := List.all_eq_true.1 this e (by simpa using he)
    rw [hb] at this
    simp only [Bool.not_true, Bool.false_or] at this
    exact Nat.le_of_ble_eq_true this
  · have := List.all_eq_true.1 (List.all_eq_true.1 h3 j (by simpa using hj)) i (by simpa using hij)
    rw [Bool.or_eq_true] at this
    refine befB_sound ops.size i j (this.resolve_left ?_)
    have hi : i < n := by omega
    have hclash : clashB ops base n (feet rec n) i j = true := by
      unfold clashB
      rw [nth_feet rec _ i hi, nth_feet rec _ j hj]
      simp only [Bool.or_eq_true]
      rcases hc with ⟨t, a1, a2⟩ | ⟨t, a1, a2⟩ | ⟨t, a1, a2⟩ | ⟨k, a1, a2⟩ | ⟨k, a1, a2⟩ | ⟨k, a1, a2⟩
      · rw [a1]; exact .inl (.inl (.inl (.inl (.inl (memB_of a2)))))
      · rw [a1]; exact .inl (.inl (.inl (.inl (.inr (memB_of a2)))))
      · rw [a1, a2]; exact .inl (.inl (.inl (.inr (by simp))))
      · exact .inl (.inl (.inr (meetB_of a1 a2)))
      · exact .inl (.inr (meetB_of a1 a2))
      · exact .inr (meetB_of a1 a2)
    rw [hclash]; simp

/-- What is known behind the operations so far is what the lexical order gives. -/
theorem lexE_it (ops : Array Oper) (rec : Nat → Rec) (e0 : Nat → AV) : ∀ i, i ≤ ops.size → lexE ops rec e0 i = itE ops rec e0 i := by
  have key : ∀ n i, i ≤ n → stE (dstOf ops) rec (fun k => decide (k < i)) e0 n = itE ops rec e0 i := fun n => by
    induction n with
    | zero => intro i hi; have : i = 0 := by omega
              subst this; rfl
    | succ n ih =>
      intro i hi
      by_cases he : i = n + 1
      · subst he
        have : stE (dstOf ops) rec (fun k => decide (k < n + 1)) e0 n = stE (dstOf ops) rec (fun k => decide (k < n)) e0 n := by
          funext t; exact stE_agree _ rec _ _ e0 t n fun k hk _ => by simp; omega
        show (if decide (n < n + 1) = true then putE (stE (dstOf ops) rec (fun k => decide (k < n + 1)) e0 n) (dstOf ops n) (rec n).u else _) = putE (itE ops rec e0 n) (dstOf ops n) (rec n).u
        rw [if_pos (by simp), this, ih n (Nat.le_refl _)]
      · show (if decide (n < i) = true then _ else stE (dstOf ops) rec (fun k => decide (k < i)) e0 n) = _
        rw [if_neg (by simp; omega), ih i (by omega)]
  exact key ops.size
theorem lexO_it (ops : Array Oper) (base : Nat) (rec : Nat → Rec) (o0 : Nat → OB) : ∀ i, i ≤ ops.size → lexO ops base rec o0 i = itO base rec o0 i := by
  have key : ∀ n i, i ≤ n → stO base rec (fun k => decide (k < i)) o0 n = itO base rec o0 i := fun n => by
    induction n with
    | zero => intro i hi; have : i = 0 := by omega
              subst this; rfl
    | succ n ih =>
      intro i hi
      by_cases he : i = n + 1
      · subst he
        have : stO base rec (fun k => decide (k < n + 1)) o0 n = stO base rec (fun k => decide (k < n)) o0 n := by
          funext t; exact stO_agree base rec _ _ o0 t n fun k hk _ => by simp; omega
        show (if decide (n < n + 1) = true then applyO (stO base rec (fun k => decide (k < n + 1)) o0 n) (rec n).wr (rec n).nw (base + n) else _) = applyO (itO base rec o0 n) (rec n).wr (rec n).nw (base + n)
        rw [if_pos (by simp), this, ih n (Nat.le_refl _)]
      · show (if decide (n < i) = true then _ else stO base rec (fun k => decide (k < i)) o0 n) = _
        rw [if_neg (by simp; omega), ih i (by omega)]
  exact key ops.size
theorem full_it (ops : Array Oper) (base : Nat) (rec : Nat → Rec) (e0 : Nat → AV) (o0 : Nat → OB) : stE (dstOf ops) rec (fun _ => true) e0 ops.size = itE ops rec e0 ops.size ∧ stO base rec (fun _ => true) o0 ops.size = itO base rec o0 ops.size := by
  constructor
  · rw [← lexE_it ops rec e0 _ (Nat.le_refl _)]
    funext t; exact stE_agree _ rec _ _ e0 t _ fun k hk _ => by simp [hk]
  · rw [← lexO_it ops base rec o0 _ (Nat.le_refl _)]
    funext t; exact stO_agree base rec _ _ o0 t _ fun k hk _ => by simp [hk]
end
end Ev
end Go.Proofs.YtphdjmaebdmdmaaGreatDoor
