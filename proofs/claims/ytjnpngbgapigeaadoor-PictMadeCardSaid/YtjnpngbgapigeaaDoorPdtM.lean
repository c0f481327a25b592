/- Pictures as text: the library's contracts as the machine's own; numbers. -/
import Derived.Test.YtjnpngbgapigeaaDoorPctS
import Derived.Lib.AtoiErrMem
import Derived.RangeFuncNested
import Derived.RangeFuncBound
import Derived.RangeFuncCalls
import Derived.RangeFuncLeaves
import Derived.Shelf.Abstract
import Derived.WalkKit
import Derived.OwnWalkIn
import Derived.TacticsInMore
import Derived.LoopNIn
import Derived.LoopIn
import Derived.RangeFuncBox
import Derived.Maps.AppendAt
import Derived.Shelf.RegionOpen
import Derived.Test.YtjnpngbgapigeaaDoorPctJ
namespace Go.Proofs.YtjnpngbgapigeaaDoor
open Go.RowKit Ev
set_option linter.unusedVariables false
set_option linter.unusedSimpArgs false
set_option maxRecDepth 20000
set_option maxHeartbeats 8000000

/-- A string out of its bytes. -/
def bs (l : List UInt8) : ByteArray := ⟨l.toArray⟩
theorem bs_list (l : List UInt8) : (bs l).data.toList = l := by show l.toArray.toList = l; simp
theorem bs_of (s : ByteArray) : bs s.data.toList = s := by cases s; simp [bs]
theorem bs_size (l : List UInt8) : (bs l).size = l.length := by show l.toArray.size = _; simp
theorem bs_beq (a b : List UInt8) : ((bs a).toList == (bs b).toList) = (a == b) := by rw [toList_data, toList_data, bs_list, bs_list]
theorem acalls_run {P : Program} {f : Nat} {fn : Func} (hf : FnOk P f fn) (hb : fn.body.isSome = true) {vals : List Value} {w : World} {Φ : Value → World → Prop}
    (h : Calls P f vals.toArray w fun e w' => ∃ v, e = .returned v ∧ Φ v w') : Runs P ((callFunc f vals.toArray).run P w) Φ := by
  have e : (callFunc f vals.toArray).run P w = .ok (.enter f vals.toArray) w := by
    have hne : ¬ fn.name = "runtime.NumGoroutine" := by simpa using hf.nm
    cases hbb : fn.body with
    | none => rw [hbb] at hb; cases hb
    | some c => simp [callFunc, hf.at_, hbb, hne]
  rw [e]
  exact h
theorem acalls_calls {P : Program} {f : Nat} {fn : Func} (hf : FnOk P f fn) (hb : fn.body.isSome = true) {args : List AV} {r : AV}
    (h : ∀ (w : World) (Im : Nat → Prop) (vals : List Value), (∀ b, Im b → b < w.heap.size) → Two (Rd w (fun _ => none) Im) args vals →
      Calls P f vals.toArray w fun e w' => ∃ v, e = .returned v ∧ Below w.heap.size w w' ∧ Rd w' (fun _ => none) (fun b => Im b ∨ (w.heap.size ≤ b ∧ b < w'.heap.size)) r v) : ACalls P f args r :=
  fun w Im vals hIm ht _ => acalls_run hf hb (h w Im vals hIm ht)
theorem acalls_callsT {P : Program} {f : Nat} {fn : Func} (hf : FnOk P f fn) (hb : fn.body.isSome = true) {args : List AV} {r : AV}
    (h : ∀ (w : World) (Im : Nat → Prop) (vals : List Value), TW w → (∀ b, Im b → b < w.heap.size) → Two (Rd w (fun _ => none) Im) args vals →
      Calls P f vals.toArray w fun e w' => ∃ v, e = .returned v ∧ Below w.heap.size w w' ∧ Rd w' (fun _ => none) (fun b => Im b ∨ (w.heap.size ≤ b ∧ b < w'.heap.size)) r v) : ACalls P f args r :=
  fun w Im vals hIm ht htw => acalls_run hf hb (h w Im vals htw hIm ht)
theorem two1 {α β : Type} {R : α → β → Prop} {a : α} {l : List β} (h : Two R [a] l) : ∃ b, l = [b] ∧ R a b := by
  cases h with
  | cons h t => cases t; exact ⟨_, rfl, h⟩
theorem two2 {α β : Type} {R : α → β → Prop} {a a' : α} {l : List β} (h : Two R [a, a'] l) : ∃ b b', l = [b, b'] ∧ R a b ∧ R a' b' := by
  cases h with
  | cons h t => cases t with
    | cons h' t => cases t; exact ⟨_, _, rfl, h, h'⟩
def digB : ByteArray := ⟨#[48, 49, 50, 51, 52, 53, 54, 55, 56, 57]⟩
def digs : List UInt8 := [48, 49, 50, 51, 52, 53, 54, 55, 56, 57]
/-- Numbers in digits. -/
def isDig (c : UInt8) : Bool := decide (48 ≤ c.toNat) && decide (c.toNat ≤ 57)
def digL (l : List UInt8) : Bool := l.all isDig
def valF (n : Int) (l : List UInt8) : Int := l.foldl (fun n c => n * 10 + ((c.toNat : Int) - 48)) n
def valL (l : List UInt8) : Int := valF 0 l
theorem dig_has (c : UInt8) : digs.contains c = isDig c := by
  have hc : c.toNat < 256 := c.toNat_lt
  have key : ∀ n : Nat, n < 256 → digs.contains (UInt8.ofNat n) = (decide (48 ≤ n) && decide (n ≤ 57)) := by decide
  have e : UInt8.ofNat c.toNat = c := by simp
  have := key c.toNat hc
  rw [e] at this
  exact this
theorem trim_dig (l : List UInt8) : (Lib.trimS l digs = []) ↔ digL l = true := by
  unfold digL
  rw [List.all_eq_true]
  unfold Lib.trimS Lib.trimLeftS Lib.trimRightS
  constructor
  · intro h c hc
    have h1 : ∀ x ∈ (l.reverse.dropWhile (digs.contains ·)).reverse, digs.contains x = true := by
      have : ∀ (m : List UInt8), m.dropWhile (digs.contains ·) = [] → ∀ x ∈ m, digs.contains x = true := fun m => by
        induction m with
        | nil => intro _ x hx; cases hx
        | cons a m ih =>
          intro hm x hx
          by_cases q : digs.contains a = true
          · rw [List.dropWhile_cons, if_pos q] at hm
            rcases List.mem_cons.1 hx with rfl | hx
            · exact q
            · exact ih hm x hx
          · rw [List.dropWhile_cons, if_neg q] at hm
            cases hm
      exact this _ h
    have h2 : l.reverse.dropWhile (digs.contains ·) = [] := by
      cases hd : l.reverse.dropWhile (digs.contains ·) with
      | nil => rfl
      | cons a m =>
        have q : digs.contains a = true := h1 a (by rw [hd]; simp)
        have := List.head_dropWhile_not (fun x => digs.contains x) (l := l.reverse) (by rw [hd]; simp)
        simp only [hd, List.head_cons] at this
        rw [q] at this; cases this
    have : ∀ (m : List UInt8), m.dropWhile (digs.contains ·) = [] → ∀ x ∈ m, digs.contains x = true := fun m => by
      induction m with
      | nil => intro _ x hx; cases hx
      | cons a m ih =>
        intro hm x hx
        by_cases q : digs.contains a = true
        · rw [List.dropWhile_cons, if_pos q] at hm
          rcases List.mem_cons.1 hx with rfl | hx
          · exact q
          · exact ih hm x hx
        · rw [List.dropWhile_cons, if_neg q] at hm
          cases hm
    rw [← dig_has]
    exact this _ h2 c (by simpa using hc)
  · intro h
    have : ∀ (m : List UInt8), (∀ x ∈ m, digs.contains x = true) → m.dropWhile (digs.contains ·) = [] := fun m => by
      induction m with
      | nil => intro _; rfl
      | cons a m ih =>
        intro hm
        rw [List.dropWhile_cons, if_pos (hm a (by simp))]
        exact ih fun x hx => hm x (by simp [hx])
    rw [this l.reverse fun x hx => by rw [dig_has]; exact h x (by simpa using hx)]
    rfl
theorem decF_eq : ∀ (l : List UInt8) (n : Nat), digL l = true → ∃ m : Nat, Lib.decFrom n l = some m ∧ (m : Int) = valF n l
  | [], n, _ => ⟨n, by simp [Lib.decFrom], rfl⟩
  | c :: l, n, h => by
    unfold digL at h
    rw [List.all_cons, Bool.and_eq_true] at h
    have hc := h.1
    unfold isDig at hc
    rw [Bool.and_eq_true, decide_eq_true_eq, decide_eq_true_eq] at hc
    obtain ⟨m, h1, h2⟩ := decF_eq l (n * 10 + (c.toNat - 48)) h.2
    refine ⟨m, ?_, ?_⟩
    · rw [Lib.decFrom]
      have : Lib.digitVal c = some (c.toNat - 48) := by unfold Lib.digitVal; rw [if_pos hc]
      rw [this]
      exact h1
    · rw [h2]
      show valF ((n * 10 + (c.toNat - 48) : Nat) : Int) l = valF ((n : Int) * 10 + ((c.toNat : Int) - 48)) l
      rw [show ((n * 10 + (c.toNat - 48) : Nat) : Int) = (n : Int) * 10 + ((c.toNat : Int) - 48) by omega]
theorem atoi_eq {l : List UInt8} (h : digL l = true) (h0 : l ≠ []) : Lib.atoi l = some (valL l) := by
  cases l with
  | nil => exact absurd rfl h0
  | cons b r =>
    obtain ⟨m, h1, h2⟩ := decF_eq (b :: r) 0 h
    have hb : isDig b = true := by unfold digL at h; rw [List.all_cons, Bool.and_eq_true] at h; exact h.1
    unfold isDig at hb
    rw [Bool.and_eq_true, decide_eq_true_eq, decide_eq_true_eq] at hb
    show (if (b == 45) = true then (Lib.decNat r).map fun (m : Nat) => -(m : Int) else if (b == 43) = true then (Lib.decNat r).map fun (m : Nat) => (m : Int) else (Lib.decNat (b :: r)).map fun (m : Nat) => (m : Int)) = _
    rw [if_neg (fun c => by have := eq_of_beq c; subst this; simp at hb), if_neg (fun c => by have := eq_of_beq c; subst this; simp at hb)]
    unfold Lib.decNat
    rw [if_neg (by simp), h1]
    show some (m : Int) = some (valL (b :: r))
    rw [h2]; rfl
theorem trimN_f : FnOk Tryd.prog 40 Tryd.f40 := ⟨Tryd.func40, by kernel_rfl⟩
theorem trimN_a (s c : ByteArray) (hpre : c = digB ∧ s.size ≤ 1000000) : ACalls Tryd.prog 40 [.str s, .str c] (.str (bs (Lib.trimS s.data.toList digs))) := by
  obtain ⟨rfl, hs⟩ := hpre
  refine acalls_calls trimN_f rfl fun w Im vals hIm ht => ?_
  obtain ⟨v1, v2, rfl, h1, h2⟩ := two2 ht
  rw [h1.inv_str, h2.inv_str]
  refine Calls.mono (Any.strings_Trim_laid lays160 (by kernel_rfl) s digB w (by omega) (by decide) (ascii_of_all (by decide))) ?_
  rintro e w' ⟨rfl, hB⟩
  exact ⟨_, rfl, hB, .str _⟩
def trimN_k : Con Tryd.prog := ⟨40, fun args => match args with | [.str s, .str c] => .ok (some (c = digB ∧ s.size ≤ 1000000)) (.str (bs (Lib.trimS s.data.toList digs))) | _ => .no, by
  intro args p r h hp
  split at h
  · cases h; exact trimN_a _ _ hp
  · cases h⟩
theorem atoiN_f : FnOk Tryd.prog 41 Tryd.f41 := ⟨Tryd.func41, by kernel_rfl⟩
theorem atoiN_a (s : ByteArray) (hpre : digL s.data.toList = true ∧ 0 < s.size ∧ s.size ≤ 6) : ACalls Tryd.prog 41 [.str s] (.tup [.int .i64 (valL s.data.toList), .nili]) := by
  obtain ⟨hd, h0, h6⟩ := hpre
  refine acalls_calls atoiN_f rfl fun w Im vals hIm ht => ?_
  obtain ⟨v1, rfl, h1⟩ := two1 ht
  rw [h1.inv_str]
  have hne : s.data.toList ≠ [] := fun c => by have : s.data.toList.length = s.size := Array.length_toList; rw [c] at this; simp at this; omega
  refine Calls.mono (strconv_Atoi s _ (by omega) (atoi_eq hd hne) w) ?_
  rintro e w' ⟨rfl, t, rfl⟩
  refine ⟨_, rfl, Lib.bytesWorld_below _ _ _, .tup _ _ rfl fun i hi => ?_⟩
  match i, hi with
  | 0, _ => exact .int _ _
  | 1, _ => exact .nili
def atoiN_k : Con Tryd.prog := ⟨41, fun args => match args with | [.str s] => .ok (some (digL s.data.toList = true ∧ 0 < s.size ∧ s.size ≤ 6)) (.tup [.int .i64 (valL s.data.toList), .nili]) | _ => .no, by
  intro args p r h hp
  split at h
  · cases h; exact atoiN_a _ hp
  · cases h⟩
end Go.Proofs.YtjnpngbgapigeaaDoor
/- Pictures as text: numbers, walked. -/
namespace Go.Proofs.YtjnpngbgapigeaaDoor
open Go.RowKit Ev
set_option linter.unusedVariables false
set_option linter.unusedSimpArgs false
set_option maxRecDepth 20000
set_option maxHeartbeats 8000000

/-- What a word is as a number: its value; what is wrong with it. -/
@[irreducible] def smE (l : List UInt8) : Int := if 6 < l.length then 7 else if digL l = true then (if 255 < valL l then 6 else 0) else 7
@[irreducible] def smV (l : List UInt8) : Int := if smE l = 0 then valL l else 0
section
variable {l : List UInt8}
theorem smE_long (h : 6 < l.length) : smE l = 7 := by unfold smE; rw [if_pos h]
theorem smE_word (h : ¬ digL l = true) : smE l = 7 := by unfold smE; rw [if_neg h]; split <;> rfl
theorem smE_big (h : ¬ 6 < l.length) (d : digL l = true) (b : 255 < valL l) : smE l = 6 := by unfold smE; rw [if_neg h, if_pos d, if_pos b]
theorem smE_ok (h : ¬ 6 < l.length) (d : digL l = true) (b : ¬ 255 < valL l) : smE l = 0 := by unfold smE; rw [if_neg h, if_pos d, if_neg b]
theorem smV_0 (h : ¬ smE l = 0) : smV l = 0 := by unfold smV; rw [if_neg h]
theorem smV_v (h : smE l = 0) : smV l = valL l := by unfold smV; rw [if_pos h]
theorem smE_inv (h : smE l = 0) : ¬ 6 < l.length ∧ digL l = true ∧ ¬ 255 < valL l := by
  by_cases a : 6 < l.length
  · rw [smE_long a] at h; omega
  · by_cases b : digL l = true
    · by_cases c : 255 < valL l
      · rw [smE_big a b c] at h; omega
      · exact ⟨a, b, c⟩
    · rw [smE_word b] at h; omega
end
theorem dig_cons (c : UInt8) (l : List UInt8) : digL (c :: l) = (isDig c && digL l) := by unfold digL; rw [List.all_cons]
theorem dig_snoc (l : List UInt8) (c : UInt8) : digL (l ++ [c]) = (digL l && isDig c) := by unfold digL; rw [List.all_append]; simp
theorem val_snoc (l : List UInt8) (c : UInt8) : valL (l ++ [c]) = valL l * 10 + ((c.toNat : Int) - 48) := by unfold valL valF; rw [List.foldl_append]; rfl
theorem valF_nn : ∀ (l : List UInt8) (n : Int), 0 ≤ n → digL l = true → 0 ≤ valF n l ∧ valF n l < (n + 1) * 10 ^ l.length
  | [], n, h, _ => by show 0 ≤ n ∧ n < (n + 1) * 1; omega
  | c :: l, n, h, hd => by
    rw [dig_cons, Bool.and_eq_true] at hd
    have hc := hd.1
    unfold isDig at hc
    rw [Bool.and_eq_true, decide_eq_true_eq, decide_eq_true_eq] at hc
    have ih := valF_nn l (n * 10 + ((c.toNat : Int) - 48)) (by omega) hd.2
    refine ⟨ih.1, Int.lt_of_lt_of_le ih.2 ?_⟩
    have : (n * 10 + ((c.toNat : Int) - 48) + 1) ≤ (n + 1) * 10 := by omega
    have := Int.mul_le_mul_of_nonneg_right this (show (0 : Int) ≤ 10 ^ l.length from Int.pow_nonneg (by decide))
    rw [List.length_cons, Int.pow_succ, Int.mul_comm (10 ^ l.length) 10, ← Int.mul_assoc]
    exact this
theorem val_bd {l : List UInt8} (h : l.length ≤ 6) (d : digL l = true) : 0 ≤ valL l ∧ valL l < 1000000 := by
  have := valF_nn l 0 (Int.le_refl _) d
  have hp : (10 : Int) ^ l.length ≤ 10 ^ 6 := by
    have : ∀ k : Nat, k ≤ 6 → (10 : Int) ^ k ≤ 10 ^ 6 := by decide
    exact this _ h
  exact ⟨this.1, by have := this.2; unfold valL; omega⟩
theorem len_data (s : ByteArray) : s.data.toList.length = s.size := Array.length_toList
theorem byte_at (s : ByteArray) (i : Nat) : byteAt s i = ((s.data.toList.getD i 0).toNat : Int) := by
  unfold byteAt
  simp [List.getD]
theorem take_at {s : ByteArray} {i : Nat} (h : i < s.size) : s.data.toList.take (i + 1) = s.data.toList.take i ++ [s.data.toList.getD i 0] := by
  have hl : i < s.data.toList.length := by rw [len_data]; exact h
  rw [List.take_add_one, List.getD, List.getElem?_eq_getElem hl]
  rfl
theorem isDig_iff (s : ByteArray) (i : Nat) : isDig (s.data.toList.getD i 0) = true ↔ 48 ≤ byteAt s i ∧ byteAt s i ≤ 57 := by
  rw [byte_at]; unfold isDig
  rw [Bool.and_eq_true, decide_eq_true_eq, decide_eq_true_eq]; omega
theorem byteAt_bd (s : ByteArray) (i : Nat) : 0 ≤ byteAt s i ∧ byteAt s i < 256 := by
  rw [byte_at]; have := (s.data.toList.getD i 0).toNat_lt; omega
theorem dig_at {s : ByteArray} {i : Nat} (h : i < s.size) (hd : digL s.data.toList = true) : 48 ≤ byteAt s i ∧ byteAt s i ≤ 57 := by
  rw [← isDig_iff]
  unfold digL at hd
  have hl : i < s.data.toList.length := by rw [len_data]; exact h
  refine List.all_eq_true.1 hd _ ?_
  rw [List.getD, List.getElem?_eq_getElem hl]
  exact List.getElem_mem hl
structure SmlI (s : ByteArray) where
  i : Nat
  hi : i ≤ s.size
  hd : digL (s.data.toList.take i) = true
theorem empty_beq (s : ByteArray) : (s.toList == (ByteArray.mk #[]).toList) = decide (s.size = 0) := by
  rw [toList_data, toList_data, Bool.eq_iff_iff, beq_iff_eq, decide_eq_true_eq]
  show s.data.toList = [] ↔ _
  rw [← len_data, List.length_eq_zero_iff]
theorem bs_empty (l : List UInt8) : ((bs l).toList == (ByteArray.mk #[]).toList) = decide (l = []) := by
  rw [toList_data, toList_data, bs_list, Bool.eq_iff_iff, beq_iff_eq, decide_eq_true_eq]
theorem num_w {s : ByteArray} (h0 : 0 < s.size) (h : (s.size = 0 ∨ (s.size : Int) > 6) ∨ ¬ digL s.data.toList = true) : smE s.data.toList = 7 := by
  rcases h with (h | h) | h
  · omega
  · exact smE_long (by rw [len_data]; omega)
  · exact smE_word h
theorem numP_f : FnOk Tryd.prog 25 Tryd.f25 := ⟨Tryd.func25, by kernel_rfl⟩
theorem numP_a (s : ByteArray) (m : Int) (hpre : m = 255 ∧ 0 < s.size) : ACalls Tryd.prog 25 [.str s, .int .i64 m] (.tup [.int .i64 (smV s.data.toList), .int .i64 (smE s.data.toList)]) := by
  refine acalls_of (inl := hasI (P := Tryd.prog) [] []) (base [trimN_k, atoiN_k] [] []) 0 numP_f (And.intro (by kernel_rfl) ?_)
  obtain ⟨rfl, h0⟩ := hpre
  repeat' (first | refine And.intro ?_ ?_ | (with_reducible exact ff_elim) | (with_reducible exact tf_elim) | refine num_elim ?_ | intro _ | (with_reducible rfl) | ((with_reducible refine lk_t ?_); exact rfl) | ((with_reducible refine pf_t ?_); exact rfl) | refine tell ?_ | exact True.intro | (refine IsT.of ?_; kernel_rfl))
  all_goals (try refine Tell.mk ?_)
  all_goals (try dsimp only at *)
  all_goals first | with_reducible rfl | with_reducible assumption | (with_reducible refine gb_t ?_; with_reducible assumption) | (with_reducible refine gb_f ?_; with_reducible assumption) | skip
  all_goals (try simp only [empty_beq, bs_size, List.length_eq_zero_iff, trim_dig, Bool.or_eq_true, Bool.or_eq_false_iff, Bool.not_eq_true', Bool.not_eq_false', decide_eq_true_eq, decide_eq_false_iff_not, gb] at *)
  all_goals first | rfl | omega | (have h := ‹(_ ∨ _) ∨ _›; have e := num_w h0 h; first | exact e | exact smV_0 (by omega)) | skip
  all_goals (have h := ‹(_ ∧ _) ∧ _›; obtain ⟨⟨h1, h2⟩, h3⟩ := h; have h4 : ¬ 6 < s.data.toList.length := (by rw [len_data]; omega))
  all_goals first | exact h3 | omega | (have e := smE_big h4 h3 (by omega); first | exact e | exact smV_0 (by omega)) | (have e := smE_ok h4 h3 (by omega); first | exact e | exact smV_v e) | trace_state
def numP_k : Con Tryd.prog := ⟨25, fun args => match args with | [.str s, .int .i64 m] => .ok (some (m = 255 ∧ 0 < s.size)) (.tup [.int .i64 (smV s.data.toList), .int .i64 (smE s.data.toList)]) | _ => .no, by
  intro args p r h hp
  split at h
  · cases h; exact numP_a _ _ hp
  · cases h⟩
theorem smallR_f : FnOk Tryd.prog 27 Tryd.f27 := ⟨Tryd.func27, by kernel_rfl⟩
theorem smallR_a (N : Nat) (W : Nat → ByteArray) (k : Nat) (hpre : k ≤ 1000000 ∧ N ≤ 1000000) : ACalls Tryd.prog 27 [.sl N 1 (fun j => .str (W j)), .int .i64 k] (.tup [.int .i64 (if k < N then smV (W k).data.toList else 0), .int .i64 (if k < N then smE (W k).data.toList else 8)]) := by
  refine acalls_of (inl := hasI (P := Tryd.prog) [] []) (base [] [] []) 0 smallR_f (And.intro (by kernel_rfl) ?_)
  obtain ⟨hk, hN⟩ := hpre
  repeat' (first | refine And.intro ?_ ?_ | (with_reducible exact ff_elim) | (with_reducible exact tf_elim) | refine num_elim ?_ | intro _ | (with_reducible rfl) | ((with_reducible refine lk_t ?_); exact rfl) | ((with_reducible refine pf_t ?_); exact rfl) | refine tell ?_ | exact True.intro | (refine IsT.of ?_; kernel_rfl))
  all_goals (try (refine loop_keep [0, 1] [] ?_; refine LoopI.mk (SmlI (W k)) (fun j => [(6, .int .i64 (valL ((W k).data.toList.take j.i))), (7, .int .i64 j.i)]) (fun j => []) (fun j => (W k).size - j.i) (⟨0, Nat.zero_le _, rfl⟩) (wk_mk [] ?_) (fun ⟨i, hi, hd⟩ => ?_)))
  repeat' (first | refine And.intro ?_ ?_ | (with_reducible exact ff_elim) | (with_reducible exact tf_elim) | refine stp_mk [] ((⟨i + 1, ?_, ?_⟩ : SmlI (W k))) ?_ ?_ | refine num_elim ?_ | intro _ | (with_reducible rfl) | ((with_reducible refine lk_t ?_); exact rfl) | ((with_reducible refine pf_t ?_); exact rfl) | refine tell ?_ | exact True.intro | (refine IsT.of ?_; kernel_rfl))
  all_goals (try refine Tell.mk ?_)
  all_goals (try dsimp only at *)
  all_goals first | with_reducible rfl | with_reducible exact isI_mk | with_reducible assumption | (with_reducible refine gb_t ?_; with_reducible assumption) | (with_reducible refine gb_f ?_; with_reducible assumption) | ((show (_ : Nat) ≤ _); decide) | (show 0 < 1; decide) | skip
  all_goals (try simp only [Bool.or_eq_true, Bool.or_eq_false_iff, decide_eq_true_eq, decide_eq_false_iff_not, gb] at *)
  all_goals (try simp only [mulN1, Nat.add_zero, Int.toNat_natCast] at *)
  all_goals first | omega | rfl | (rw [if_neg (by omega)]; done) | skip
  all_goals (try rw [if_pos (by omega)])
  all_goals first | exact smE_long (by rw [len_data]; omega) | exact smV_0 (by rw [smE_long (l := (W k).data.toList) (by rw [len_data]; omega)]; decide) | skip
  all_goals (have h6 : (W k).size ≤ 6 := (by omega); have bb := byteAt_bd (W k) i; have vv := val_bd (l := (W k).data.toList.take i) (by rw [List.length_take]; omega) hd)
  all_goals first | omega | skip
  all_goals first | (have e := smE_word (l := (W k).data.toList) (fun c => by have := dig_at (s := (W k)) (i := i) (by omega) c; omega); first | exact e | exact smV_0 (by rw [e]; decide)) | (rw [wrapI (by omega) (by omega)]; omega) | skip
  all_goals first | (rw [take_at (by omega), dig_snoc, hd, (isDig_iff (W k) i).2 ⟨by omega, by omega⟩]; rfl) | (rw [take_at (by omega), val_snoc, ← byte_at, wrapU8 (by omega) (by omega), wrapI (x := byteAt (W k) i - 48) (by omega) (by omega), wrapI (x := valL ((W k).data.toList.take i) * 10) (by omega) (by omega), wrapI (by omega) (by omega)]; done) | skip
  all_goals (have ei : i = (W k).size := (by omega); have et : (W k).data.toList.take i = (W k).data.toList := (List.take_of_length_le (by rw [len_data]; omega)); have hd2 := hd; rw [et] at hd2; have ev : valL ((W k).data.toList.take i) = valL (W k).data.toList := (by rw [et]); have h4 : ¬ 6 < (W k).data.toList.length := (by rw [len_data]; omega))
  all_goals first | (have e := smE_big h4 hd2 (by omega); first | exact e | exact smV_0 (by rw [e]; decide)) | (have e := smE_ok h4 hd2 (by omega); first | exact e | (rw [ev]; exact smV_v e)) | trace_state
/-- Strings in a row, as a function. -/
def strF (g : Nat → AV) (j : Nat) : ByteArray := match g j with | .str s => s | _ => ⟨#[]⟩
def IsS (g : Nat → AV) : Prop := g = fun j => .str (strF g j)
theorem isS_mk (W : Nat → ByteArray) : IsS fun j => .str (W j) := rfl
theorem strF_mk (W : Nat → ByteArray) : strF (fun j => .str (W j)) = W := rfl
def small_r (N : Nat) (W : Nat → ByteArray) (k : Int) : AV := .tup [.int .i64 (if k.toNat < N then smV (W k.toNat).data.toList else 0), .int .i64 (if k.toNat < N then smE (W k.toNat).data.toList else 8)]
def small_k : Con Tryd.prog := ⟨27, fun args => match args with | [.sl N 1 g, .int .i64 k] => .ok (some (IsS g ∧ 0 ≤ k ∧ k ≤ 1000000 ∧ N ≤ 1000000)) (small_r N (strF g) k) | _ => .no, by
  intro args p r h hp
  split at h
  · cases h
    obtain ⟨h1, h2, h3, h4⟩ := hp
    rename_i N g k
    have h := smallR_a N (strF g) k.toNat ⟨by omega, h4⟩
    rw [show ((k.toNat : Nat) : Int) = k by omega] at h
    unfold IsS at h1
    rw [← h1] at h
    exact h
  · cases h⟩
end Go.Proofs.YtjnpngbgapigeaaDoor
/- Pictures as text: the document's words, walked. -/
namespace Go.Proofs.YtjnpngbgapigeaaDoor
open Go.RowKit Ev
set_option linter.unusedVariables false
set_option linter.unusedSimpArgs false
set_option maxRecDepth 20000
set_option maxHeartbeats 8000000

/-- Where the reading of words is behind so many bytes. -/
@[irreducible] def pst (l : List UInt8) (i : Nat) : PWS := ((l ++ [10]).take i).foldl PWS.step ⟨[], [], false⟩
theorem pst_0 (l : List UInt8) : pst l 0 = ⟨[], [], false⟩ := by unfold pst; rfl
theorem pst_s (l : List UInt8) (i : Nat) (h : i ≤ l.length) : pst l (i + 1) = (pst l i).step ((l ++ [10]).getD i 0) := by
  unfold pst
  have hl : i < (l ++ [10]).length := by rw [List.length_append]; show i < l.length + 1; omega
  rw [List.take_add_one, List.getElem?_eq_getElem hl, List.foldl_append, List.getD, List.getElem?_eq_getElem hl]
  rfl
theorem pst_end (l : List UInt8) : (pst l (l.length + 1)).out = pwords l := by
  unfold pst pwords
  rw [List.take_of_length_le (by rw [List.length_append]; exact Nat.le_refl _)]
theorem flW_len (a : List (List UInt8)) (w : List UInt8) : (flW (a, w)).length ≤ a.length + 1 := by
  unfold flW; dsimp only; split
  · omega
  · simp
def PWS.nov (s : PWS) (c : UInt8) : Bool := if c == 35 then true else if c == 10 then false else s.ov
theorem step_eq (s : PWS) (c : UInt8) : s.step c = if (s.nov c || (sepB c || c == 10)) = true then ⟨flW (s.out, s.w), [], s.nov c⟩ else ⟨s.out, s.w ++ [c], s.nov c⟩ := rfl
theorem pst_bd (l : List UInt8) : ∀ i, i ≤ l.length + 1 → (pst l i).out.length ≤ i ∧ (pst l i).w.length ≤ i
  | 0, _ => by rw [pst_0]; exact ⟨Nat.le_refl _, Nat.le_refl _⟩
  | i + 1, h => by
    have ih := pst_bd l i (by omega)
    rw [pst_s l i (by omega)]
    have f := flW_len (pst l i).out (pst l i).w
    rw [step_eq]
    cases ((pst l i).nov ((l ++ [10]).getD i 0) || (sepB ((l ++ [10]).getD i 0) || (l ++ [10]).getD i 0 == 10))
    · rw [if_neg (by simp)]
      exact ⟨by show (pst l i).out.length ≤ i + 1; omega, by show List.length (_ ++ _) ≤ _; rw [List.length_append]; show _ + 1 ≤ _; omega⟩
    · rw [if_pos rfl]
      exact ⟨by show (flW _).length ≤ _; omega, Nat.zero_le _⟩
/-- The byte that is read next. -/
def chB (t : ByteArray) (i : Nat) : Int := if i < t.size then byteAt t i else 10
theorem ch_in {t : ByteArray} {i : Nat} (h : i < t.size) : chB t i = byteAt t i := by unfold chB; rw [if_pos h]
theorem ch_out {t : ByteArray} {i : Nat} (h : ¬ i < t.size) : chB t i = 10 := by unfold chB; rw [if_neg h]
theorem ch_at (t : ByteArray) (i : Nat) (h : i ≤ t.size) : ((((t.data.toList ++ [10]).getD i 0).toNat : Nat) : Int) = chB t i := by
  unfold chB
  split
  · rename_i hl
    rw [byte_at]
    have : i < t.data.toList.length := by rw [len_data]; exact hl
    congr 2
    simp [List.getD, List.getElem?_append_left this]
  · have : i = t.data.toList.length := by rw [len_data]; omega
    subst this
    simp [List.getD]
theorem u8_eq {c : UInt8} {b : Int} (h : (c.toNat : Int) = b) (k : UInt8) : (c == k) = decide (b = (k.toNat : Int)) := by
  rw [Bool.eq_iff_iff, beq_iff_eq, decide_eq_true_eq, ← h]
  exact ⟨fun e => by rw [e], fun e => UInt8.toNat_inj.1 (by omega)⟩
theorem pst_sep {t : ByteArray} {i : Nat} (h : i ≤ t.size) (hc : (chB t i = 35 ∨ (pst t.data.toList i).ov = true) ∨ chB t i = 32 ∨ chB t i = 9 ∨ chB t i = 13 ∨ chB t i = 10) :
    (pst t.data.toList (i + 1)).out = flW ((pst t.data.toList i).out, (pst t.data.toList i).w) ∧ (pst t.data.toList (i + 1)).w = [] := by
  have e := ch_at t i h
  rw [pst_s _ i (by rw [len_data]; exact h)]
  unfold PWS.step sepB
  simp only [u8_eq e]
  rw [if_pos]
  · exact ⟨rfl, rfl⟩
  · simp only [Bool.or_eq_true, decide_eq_true_eq]
    by_cases a : chB t i = 35
    · left; simp [a]
    · by_cases b : chB t i = 10
      · right; right; simp [b]
      · rcases hc with (c | c) | c | c | c | c
        · exact absurd c a
        · left; rw [if_neg (by simpa using a), if_neg (by simpa using b)]; exact c
        · right; left; left; simp [c]
        · right; left; right; left; simp [c]
        · right; left; right; right; simp [c]
        · exact absurd c b
theorem pst_add {t : ByteArray} {i : Nat} (h : i < t.size) (hc : chB t i ≠ 35 ∧ chB t i ≠ 32 ∧ chB t i ≠ 9 ∧ chB t i ≠ 13 ∧ chB t i ≠ 10) (ho : (pst t.data.toList i).ov = false) :
    (pst t.data.toList (i + 1)).out = (pst t.data.toList i).out ∧ bs (pst t.data.toList (i + 1)).w = bs (pst t.data.toList i).w ++ t.extract i (i + 1) := by
  have e := ch_at t i (by omega)
  obtain ⟨c1, c2, c3, c4, c5⟩ := hc
  have hl : i < t.data.toList.length := by rw [len_data]; exact h
  rw [pst_s _ i (by omega)]
  unfold PWS.step sepB
  simp only [u8_eq e]
  rw [if_neg]
  · refine ⟨rfl, ?_⟩
    show bs ((pst t.data.toList i).w ++ [(t.data.toList ++ [10]).getD i 0]) = _
    have e1 : (t.data.toList ++ [10]).getD i 0 = t.data.toList.getD i 0 := by simp [List.getD, List.getElem?_append_left hl]
    rw [e1]
    have e2 : t.extract i (i + 1) = bs [t.data.toList.getD i 0] := by
      rw [← bs_of (t.extract i (i + 1))]
      congr 1
      have := ext_of t.data.toList i (i + 1)
      have eb : (ByteArray.mk t.data.toList.toArray) = t := bs_of t
      rw [eb] at this
      rw [this, show i + 1 - i = 1 by omega, drop_at hl]
      rfl
    rw [e2]
    unfold bs
    apply ByteArray.ext
    simp
  · simp only [Bool.or_eq_true, decide_eq_true_eq]
    rw [if_neg (by simpa using c1), if_neg (by simpa using c5), ho]
    simp [c2, c3, c4, c5]
theorem pst_ov {t : ByteArray} {i : Nat} (h : i ≤ t.size) : (pst t.data.toList (i + 1)).ov = if chB t i = 35 then true else if chB t i = 10 then false else (pst t.data.toList i).ov := by
  have e := ch_at t i h
  rw [pst_s _ i (by rw [len_data]; exact h)]
  rw [step_eq]
  have q : (if ((pst t.data.toList i).nov ((t.data.toList ++ [10]).getD i 0) || (sepB ((t.data.toList ++ [10]).getD i 0) || (t.data.toList ++ [10]).getD i 0 == 10)) = true then (⟨flW ((pst t.data.toList i).out, (pst t.data.toList i).w), [], (pst t.data.toList i).nov ((t.data.toList ++ [10]).getD i 0)⟩ : PWS) else ⟨(pst t.data.toList i).out, (pst t.data.toList i).w ++ [(t.data.toList ++ [10]).getD i 0], (pst t.data.toList i).nov ((t.data.toList ++ [10]).getD i 0)⟩).ov = (pst t.data.toList i).nov ((t.data.toList ++ [10]).getD i 0) := by
    cases ((pst t.data.toList i).nov ((t.data.toList ++ [10]).getD i 0) || (sepB ((t.data.toList ++ [10]).getD i 0) || (t.data.toList ++ [10]).getD i 0 == 10)) <;> rfl
  rw [q]
  unfold PWS.nov
  simp only [u8_eq e, decide_eq_true_eq]
  rfl
theorem flW_nil {o : List (List UInt8)} {w : List UInt8} (h : w = []) : flW (o, w) = o := by unfold flW; rw [if_pos h]
theorem flW_cons {o : List (List UInt8)} {w : List UInt8} (h : ¬ w = []) : flW (o, w) = o ++ [w] := by unfold flW; rw [if_neg h]
theorem bs_emp (l : List UInt8) : ((bs l).toList = (ByteArray.mk #[]).toList) ↔ l = [] := by rw [toList_data, toList_data, bs_list]
structure PwI (n : Nat) where
  i : Nat
  hi : i ≤ n + 1
/-- Words in a row. -/
def wdA (L : List (List UInt8)) (j : Nat) : AV := .str (bs (L.getD j []))
theorem wd_cat (o : List (List UInt8)) (w : List UInt8) (j : Nat) (h : j < (o ++ [w]).length) : wdA (o ++ [w]) j = catA o.length (wdA o) (fun j => [AV.str (bs w)].getD j AV.any) j := by
  rw [List.length_append] at h
  have h : j < o.length + 1 := h
  unfold catA wdA
  by_cases e : j < o.length
  · simp [List.getD, List.getElem?_append_left e, e]
  · have : j = o.length := by omega
    subst this
    simp [List.getD]
theorem wordsR_f : FnOk Tryd.prog 26 Tryd.f26 := ⟨Tryd.func26, by kernel_rfl⟩
theorem wordsR_a (t : ByteArray) (hpre : t.size ≤ 1000000) : ACalls Tryd.prog 26 [.str t] (.sl (pwords t.data.toList).length 1 (wdA (pwords t.data.toList))) := by
  refine acalls_of (inl := hasI (P := Tryd.prog) [] []) (base [] [] []) 0 wordsR_f (And.intro (by kernel_rfl) ?_)
  repeat' (first | refine And.intro ?_ ?_ | (with_reducible exact ff_elim) | (with_reducible exact tf_elim) | refine num_elim ?_ | intro _ | (with_reducible rfl) | ((with_reducible refine lk_t ?_); exact rfl) | ((with_reducible refine pf_t ?_); exact rfl) | refine tell ?_ | exact True.intro | (refine IsT.of ?_; kernel_rfl))
  all_goals (try (refine loop_keep [0] [] ?_; refine LoopI.mk (PwI t.size) (fun j => [(3, .os 0 1 0 (pst t.data.toList j.i).out.length), (4, .str (bs (pst t.data.toList j.i).w)), (5, .bool (pst t.data.toList j.i).ov), (6, .int .i64 j.i)]) (fun j => [(0, .arr (pst t.data.toList j.i).out.length (wdA (pst t.data.toList j.i).out))]) (fun j => t.size + 1 - j.i) (⟨0, Nat.zero_le _⟩) (wk_mk [none] ?_) (fun ⟨i, hi⟩ => ?_)))
  repeat' (first | refine And.intro ?_ ?_ | (with_reducible exact ff_elim) | (with_reducible exact tf_elim) | refine' stp_mkW [some _] (⟨i + 1, ?_⟩ : PwI t.size) ?_ ?_ | refine num_elim ?_ | intro _ | (with_reducible rfl) | ((with_reducible refine lk_t ?_); exact rfl) | ((with_reducible refine pf_t ?_); exact rfl) | refine tell ?_ | exact True.intro | (refine IsT.of ?_; kernel_rfl))
  all_goals (try exact (1 : Nat))
  all_goals (try refine Tell.mk ?_)
  all_goals (try dsimp only at *)
  all_goals first | with_reducible rfl | with_reducible exact isI_mk | with_reducible assumption | (with_reducible refine gb_t ?_; with_reducible assumption) | (with_reducible refine gb_f ?_; with_reducible assumption) | ((show (_ : Nat) ≤ _); decide) | (show 0 < 1; decide) | skip
  all_goals (try simp only [Bool.or_eq_true, Bool.or_eq_false_iff, Bool.not_eq_true', Bool.not_eq_false', decide_eq_true_eq, decide_eq_false_iff_not, beq_iff_eq, beq_eq_false_iff_ne, ne_eq, gb] at *)
  all_goals (try simp only [bs_empty, decide_eq_true_eq, decide_eq_false_iff_not, Int.toNat_natCast, mulN1, Nat.add_zero, Nat.mul_one, Nat.zero_add, show (Tab.cx.ti 9).size = 1 from rfl, show (Tab.cx.ti 9).bytes = 16 from rfl] at *)
  all_goals (try simp only [bs_emp, Bool.true_eq_false, Bool.false_eq_true, false_and, and_false, true_or, or_true, not_true_eq_false, not_false_eq_true, false_or, or_false, and_true, true_and] at *)
  all_goals first | omega | rfl | (rw [pst_0]; done) | (rw [pst_0]; rfl) | (rw [wrapI (by omega) (by omega)]; omega) | skip
  all_goals first | (exfalso; omega) | skip
  all_goals first | (have en : i = t.data.toList.length + 1 := (by rw [len_data]; omega); subst en; rw [pst_end]; done) | skip
  all_goals (have hiS : i ≤ t.size := (by omega); have bd := pst_bd t.data.toList i (by rw [len_data]; omega); have wi : IntKind.i64.wrap ((i : Int) + 1) = ((i + 1 : Nat) : Int) := (by rw [wrapI (by omega) (by omega)]; omega))
  all_goals (try rw [wi])
  all_goals (try simp only [Int.toNat_natCast])
  all_goals first | omega | skip
  all_goals first | (have hb := ch_in (t := t) (i := i) (by omega)) | (have hb := ch_out (t := t) (i := i) (by omega))
  all_goals (have eo := pst_ov hiS; rw [hb] at eo)
  all_goals first | (have hs := pst_sep hiS (by rw [hb]; grind); obtain ⟨e1, e2⟩ := hs) | (have hs := pst_add (t := t) (i := i) (by omega) (by rw [hb]; grind) (by grind); obtain ⟨e1, e2⟩ := hs) | skip
  all_goals first | (rw [flW_nil (by assumption)] at e1) | (rw [flW_cons (by assumption)] at e1) | skip
  all_goals first | exact e1 | exact e2 | (rw [e2]; rfl) | (rw [e1]; done) | (rw [e1]; omega) | (rw [e1, List.length_append]; done) | (rw [e1, List.length_append]; exact Nat.le_refl _) | (rw [e1, List.length_append]; rfl) | (left; rw [e1]; done) | (left; rw [e1]; exact wd_cat _ _ _ (by rw [← e1]; assumption)) | (rw [bs_size, ByteArray.size_extract]; omega) | (rw [eo]; grind) | skip
  all_goals trace_state
def words_r (t : ByteArray) : AV := .sl (pwords t.data.toList).length 1 (wdA (pwords t.data.toList))
def words_k : Con Tryd.prog := ⟨26, fun args => match args with | [.str t] => .ok (some (t.size ≤ 1000000)) (words_r t) | _ => .no, by
  intro args p r h hp
  split at h
  · cases h; exact wordsR_a _ hp
  · cases h⟩
end Go.Proofs.YtjnpngbgapigeaaDoor
/- Pictures as text: reading, plain; the document's, walked. -/
namespace Go.Proofs.YtjnpngbgapigeaaDoor
open Go.RowKit Ev
set_option linter.unusedVariables false
set_option linter.unusedSimpArgs false
set_option maxRecDepth 20000
set_option maxHeartbeats 8000000

/-- What is wrong with a word of a text. -/
@[irreducible] def errAt (L : List (List UInt8)) (k : Nat) : Int := if k < L.length then smE (L.getD k []) else 8
@[irreducible] def valAt (L : List (List UInt8)) (k : Nat) : Int := if k < L.length then smV (L.getD k []) else 0
theorem err_in {L : List (List UInt8)} {k : Nat} (h : k < L.length) : errAt L k = smE (L.getD k []) := by unfold errAt; rw [if_pos h]
theorem err_out {L : List (List UInt8)} {k : Nat} (h : ¬ k < L.length) : errAt L k = 8 := by unfold errAt; rw [if_neg h]
theorem val_in {L : List (List UInt8)} {k : Nat} (h : k < L.length) : valAt L k = smV (L.getD k []) := by unfold valAt; rw [if_pos h]
theorem small_err (L : List (List UInt8)) (k : Nat) : (if k < L.length then smE (strF (wdA L) k).data.toList else 8) = errAt L k := by
  unfold errAt; rw [show (strF (wdA L) k).data.toList = L.getD k [] from bs_list _]
theorem small_val (L : List (List UInt8)) (k : Nat) : (if k < L.length then smV (strF (wdA L) k).data.toList else 0) = valAt L k := by
  unfold valAt; rw [show (strF (wdA L) k).data.toList = L.getD k [] from bs_list _]
/-- The first fault of so many words. -/
def fstF (L : List (List UInt8)) (a : Nat) : Nat → Int
  | 0 => 0
  | n + 1 => if errAt L a = 0 then fstF L (a + 1) n else errAt L a
@[irreducible] def fstE (L : List (List UInt8)) (a n : Nat) : Int := fstF L a n
theorem fst_hit {L : List (List UInt8)} : ∀ {i a n : Nat}, (∀ j, j < i → errAt L (a + j) = 0) → i < n → ¬ errAt L (a + i) = 0 → fstF L a n = errAt L (a + i)
  | 0, a, n + 1, _, _, h => by
    show (if errAt L a = 0 then _ else errAt L a) = _
    rw [Nat.add_zero] at h
    rw [if_neg h, Nat.add_zero]
  | i + 1, a, n + 1, hj, hi, h => by
    show (if errAt L a = 0 then _ else errAt L a) = _
    have h0 := hj 0 (by omega)
    rw [Nat.add_zero] at h0
    rw [if_pos h0]
    have := fst_hit (L := L) (i := i) (a := a + 1) (n := n) (fun j hj' => by rw [show a + 1 + j = a + (j + 1) by omega]; exact hj (j + 1) (by omega)) (by omega) (by rw [show a + 1 + i = a + (i + 1) by omega]; exact h)
    rw [this, show a + 1 + i = a + (i + 1) by omega]
  | _, _, 0, _, h, _ => absurd h (by omega)
theorem fst_none {L : List (List UInt8)} : ∀ {n a : Nat}, (∀ j, j < n → errAt L (a + j) = 0) → fstF L a n = 0
  | 0, _, _ => rfl
  | n + 1, a, h => by
    show (if errAt L a = 0 then _ else errAt L a) = _
    have h0 := h 0 (by omega)
    rw [Nat.add_zero] at h0
    rw [if_pos h0]
    exact fst_none fun j hj => by rw [show a + 1 + j = a + (j + 1) by omega]; exact h (j + 1) (by omega)
def p3 : List UInt8 := [80, 51]
def rdN (L : List (List UInt8)) : Nat := (3 * (valAt L 1 * valAt L 2)).toNat
/-- What is said of a text that is read. -/
@[irreducible] def rdE (L : List (List UInt8)) : Int :=
  if L.length = 0 then 8 else if ¬ L.getD 0 [] = p3 then 11 else if ¬ fstE L 1 3 = 0 then fstE L 1 3 else if ¬ Side (valAt L 1) (valAt L 2) then 4 else if ¬ valAt L 3 = 255 then 6 else if ¬ fstE L 4 (rdN L) = 0 then fstE L 4 (rdN L) else if 4 + rdN L < L.length then 5 else 0
/-- The bytes of the picture that is read. -/
@[irreducible] def rdP (L : List (List UInt8)) (j : Nat) : Int := if j % 4 = 3 then 255 else valAt L (4 + (3 * (j / 4) + j % 4))
@[irreducible] def okI (e x : Int) : Int := if e = 0 then x else 0
@[irreducible] def okM (e : Int) (x : Nat) : Nat := if e = 0 then x else 0
theorem okI_0 {x : Int} : okI 0 x = x := by unfold okI; rfl
theorem okM_0 {x : Nat} : okM 0 x = x := by unfold okM; rfl
theorem okI_e {e x : Int} (h : ¬ e = 0) : okI e x = 0 := by unfold okI; rw [if_neg h]
theorem okM_e {e : Int} {x : Nat} (h : ¬ e = 0) : okM e x = 0 := by unfold okM; rw [if_neg h]
section
variable {L : List (List UInt8)}
theorem rdE_none (h : L.length = 0) : rdE L = 8 := by unfold rdE; rw [if_pos h]
theorem rdE_form (h : ¬ L.length = 0) (g : ¬ L.getD 0 [] = p3) : rdE L = 11 := by unfold rdE; rw [if_neg h, if_pos g]
theorem rdE_head (h : ¬ L.length = 0) (g : L.getD 0 [] = p3) {i : Nat} (h1 : ∀ j, j < i → errAt L (1 + j) = 0) (h2 : i < 3) (h3 : ¬ errAt L (1 + i) = 0) : rdE L = errAt L (1 + i) := by
  have e : fstE L 1 3 = errAt L (1 + i) := by unfold fstE; exact fst_hit h1 h2 h3
  unfold rdE; rw [if_neg h, if_neg (by simpa using g), if_pos (by rw [e]; exact h3), e]
theorem rdE_in (h : ¬ L.length = 0) (g : L.getD 0 [] = p3) (h1 : ∀ j, j < 3 → errAt L (1 + j) = 0) : rdE L = if ¬ Side (valAt L 1) (valAt L 2) then 4 else if ¬ valAt L 3 = 255 then 6 else if ¬ fstE L 4 (rdN L) = 0 then fstE L 4 (rdN L) else if 4 + rdN L < L.length then 5 else 0 := by
  have e : fstE L 1 3 = 0 := by unfold fstE; exact fst_none h1
  unfold rdE; rw [if_neg h, if_neg (by simpa using g), if_neg (by simpa using e)]
theorem rdE_lim (h : ¬ L.length = 0) (g : L.getD 0 [] = p3) (h1 : ∀ j, j < 3 → errAt L (1 + j) = 0) (h2 : ¬ Side (valAt L 1) (valAt L 2)) : rdE L = 4 := by rw [rdE_in h g h1, if_pos h2]
theorem rdE_max (h : ¬ L.length = 0) (g : L.getD 0 [] = p3) (h1 : ∀ j, j < 3 → errAt L (1 + j) = 0) (h2 : Side (valAt L 1) (valAt L 2)) (h3 : ¬ valAt L 3 = 255) : rdE L = 6 := by rw [rdE_in h g h1, if_neg (by simpa using h2), if_pos h3]
theorem rdE_word (h : ¬ L.length = 0) (g : L.getD 0 [] = p3) (h1 : ∀ j, j < 3 → errAt L (1 + j) = 0) (h2 : Side (valAt L 1) (valAt L 2)) (h3 : valAt L 3 = 255) {i : Nat} (h4 : ∀ j, j < i → errAt L (4 + j) = 0) (h5 : i < rdN L) (h6 : ¬ errAt L (4 + i) = 0) : rdE L = errAt L (4 + i) := by
  have e : fstE L 4 (rdN L) = errAt L (4 + i) := by unfold fstE; exact fst_hit h4 h5 h6
  rw [rdE_in h g h1, if_neg (by simpa using h2), if_neg (by simpa using h3), if_pos (by rw [e]; exact h6), e]
theorem rdE_end (h : ¬ L.length = 0) (g : L.getD 0 [] = p3) (h1 : ∀ j, j < 3 → errAt L (1 + j) = 0) (h2 : Side (valAt L 1) (valAt L 2)) (h3 : valAt L 3 = 255) (h4 : ∀ j, j < rdN L → errAt L (4 + j) = 0) : rdE L = if 4 + rdN L < L.length then 5 else 0 := by
  have e : fstE L 4 (rdN L) = 0 := by unfold fstE; exact fst_none h4
  rw [rdE_in h g h1, if_neg (by simpa using h2), if_neg (by simpa using h3), if_neg (by simpa using e)]
theorem val_rng {k : Nat} (h : errAt L k = 0) : k < L.length ∧ 0 ≤ valAt L k ∧ valAt L k ≤ 255 := by
  have hk : k < L.length := by
    by_cases c : k < L.length
    · exact c
    · rw [err_out c] at h; omega
  rw [err_in hk] at h
  have q := smE_inv h
  have v := val_bd (by omega) q.2.1
  rw [val_in hk, smV_v h]
  exact ⟨hk, v.1, by omega⟩
end
structure RdH (L : List (List UInt8)) where
  k : Nat
  h1 : 1 ≤ k
  h4 : k ≤ 4
  he : ∀ j, j < k - 1 → errAt L (1 + j) = 0
structure RdI (L : List (List UInt8)) where
  i : Nat
  hi : i ≤ rdN L
  he : ∀ j, j < i → errAt L (4 + j) = 0
theorem rdh_next {L : List (List UInt8)} {k : Nat} (h1 : 1 ≤ k) (he : ∀ j, j < k - 1 → errAt L (1 + j) = 0) (h : errAt L k = 0) : ∀ j, j < k + 1 - 1 → errAt L (1 + j) = 0 := fun j hj => by
  by_cases e : j = k - 1
  · rw [show 1 + j = k by omega]; exact h
  · exact he j (by omega)
theorem rdi_next {L : List (List UInt8)} {i : Nat} (he : ∀ j, j < i → errAt L (4 + j) = 0) (h : errAt L (4 + i) = 0) : ∀ j, j < i + 1 → errAt L (4 + j) = 0 := fun j hj => by
  by_cases e : j = i
  · rw [e]; exact h
  · exact he j (by omega)
theorem rdP_val (L : List (List UInt8)) (i : Nat) : rdP L (i + i / 3) = valAt L (4 + i) := by
  unfold rdP
  rw [if_neg (by omega), show 4 + (3 * ((i + i / 3) / 4) + (i + i / 3) % 4) = 4 + i by omega]
theorem rdP_cov (L : List (List UInt8)) {i : Nat} (h : i % 3 = 2) : rdP L (i + i / 3 + 1) = 255 := by
  unfold rdP
  rw [if_pos (by omega)]
theorem pw_len (l : List UInt8) : (pwords l).length ≤ l.length + 1 := by
  rw [← pst_end]
  exact (pst_bd l (l.length + 1) (Nat.le_refl _)).1
theorem p3_beq (l : List UInt8) : ((bs l).toList == (ByteArray.mk #[80, 51]).toList) = (l == p3) := bs_beq l p3
theorem wd_isS (L : List (List UInt8)) : wdA L = fun j => AV.str (strF (wdA L) j) := rfl
theorem rdN_eq {L : List (List UInt8)} (h : Side (valAt L 1) (valAt L 2)) : (rdN L : Int) = 3 * (valAt L 1 * valAt L 2) ∧ (rdN L : Int) ≤ 12288 ∧ IntKind.i64.wrap (IntKind.i64.wrap (3 * valAt L 1) * valAt L 2) = (rdN L : Int) := by
  have w := h.wh
  have e : (rdN L : Int) = 3 * (valAt L 1 * valAt L 2) := by unfold rdN; omega
  obtain ⟨a, b, c, d⟩ := h
  refine ⟨e, by omega, ?_⟩
  rw [wrapI (x := 3 * valAt L 1) (by omega) (by omega), Int.mul_assoc, wrapI (by omega) (by omega), e]
theorem side_of {a b : Int} (h : ((¬ a < 1 ∧ ¬ b < 1) ∧ ¬ a > 64) ∧ ¬ b > 64) : Side a b := by refine ⟨?_, ?_, ?_, ?_⟩ <;> omega
theorem side_not {a b : Int} (h : ((a < 1 ∨ b < 1) ∨ a > 64) ∨ b > 64) : ¬ Side a b := by rintro ⟨x1, x2, x3, x4⟩; omega
theorem rdP_step1 {L : List (List UInt8)} {i j : Nat} {a : Nat} {x : Int} (hx : x = valAt L (4 + i)) (hi : ¬ i % 3 = 2) (hj : j < i + 1 + (i + 1) / 3) : rdP L j = catI (i + i / 3) (some a) (rdP L) (fun _ => x) j := by
  rw [catI_some]
  split
  · rfl
  · rw [show j = i + i / 3 by omega, rdP_val, hx]
theorem rdP_step2 {L : List (List UInt8)} {i j : Nat} {a b : Nat} {x : Int} (hx : x = valAt L (4 + i)) (hi : i % 3 = 2) (hj : j < i + 1 + (i + 1) / 3) : rdP L j = catI (i + i / 3 + 1) (some b) (catI (i + i / 3) (some a) (rdP L) (fun _ => x)) (fun _ => 255) j := by
  rw [catI_some]
  split
  · rw [catI_some]
    split
    · rfl
    · rw [show j = i + i / 3 by omega, rdP_val, hx]
  · rw [show j = i + i / 3 + 1 by omega, rdP_cov L hi]
theorem readR_f : FnOk Tryd.prog 10 Tryd.f10 := ⟨Tryd.func10, by kernel_rfl⟩
theorem readR_a (t : ByteArray) (L : List (List UInt8)) (hpre : t.size ≤ 80000 ∧ L = pwords t.data.toList) : ACalls Tryd.prog 10 [.str t] (.tup [.agg [.int .i64 (okI (rdE L) (valAt L 1)), .int .i64 (okI (rdE L) (valAt L 2)), ints .u8 (okM (rdE L) (rdN L + rdN L / 3)) (rdP L)], .int .i64 (rdE L)]) := by
  refine acalls_of (inl := hasI (P := Tryd.prog) [] []) (base [small_k, words_k] [] []) 0 readR_f (And.intro (by kernel_rfl) ?_)
  obtain ⟨ht, hL⟩ := hpre
  have hN : L.length ≤ 80001 := by rw [hL]; have := pw_len t.data.toList; rw [len_data] at this; omega
  repeat' (first | refine And.intro ?_ ?_ | (with_reducible exact ff_elim) | (with_reducible exact tf_elim) | refine num_elim ?_ | intro _ | (with_reducible rfl) | ((with_reducible refine lk_t ?_); exact rfl) | ((with_reducible refine pf_t ?_); exact rfl) | refine tell ?_ | exact True.intro | (refine IsT.of ?_; kernel_rfl))
  all_goals (try (refine loop_keep [2, 4] [0] ?_; refine LoopI.mk (RdH L) (fun j => [(5, .os 1 1 0 (j.k - 1)), (6, .int .i64 j.k)]) (fun j => [(1, .nums .i64 (j.k - 1) (fun i => valAt L (1 + i)))]) (fun j => 4 - j.k) (⟨1, Nat.le_refl _, by decide, fun j hj => absurd hj (Nat.not_lt_zero _)⟩) (wk_mk [none, some 0] ?_) (fun ⟨k, h1, h4, he⟩ => ?_)))
  repeat' (first | refine And.intro ?_ ?_ | (with_reducible exact ff_elim) | (with_reducible exact tf_elim) | refine' stp_mk [some _, some 0] ((⟨k + 1, ?_, ?_, ?_⟩ : RdH L)) ?_ ?_ | refine num_elim ?_ | intro _ | (with_reducible rfl) | ((with_reducible refine lk_t ?_); exact rfl) | ((with_reducible refine pf_t ?_); exact rfl) | refine tell ?_ | exact True.intro | (refine IsT.of ?_; kernel_rfl))
  all_goals (try (refine loop_keep [2, 4] [0] ?_; refine LoopI.mk (RdI L) (fun j => [(9, .own 1 0), (10, .int .i64 j.i)]) (fun j => [(1, .row [.int .i64 (valAt L 1), .int .i64 (valAt L 2), .os 2 1 0 (j.i + j.i / 3)]), (2, .nums .u8 (j.i + j.i / 3) (rdP L))]) (fun j => rdN L - j.i) (⟨0, Nat.zero_le _, fun j hj => absurd hj (Nat.not_lt_zero _)⟩) (wk_mk [some 26, none, some 0] ?_) (fun ⟨i, hi, he2⟩ => ?_)))
  repeat' (first | refine And.intro ?_ ?_ | (with_reducible exact ff_elim) | (with_reducible exact tf_elim) | refine' stp_mk [some 1, some _, some 0] ((⟨i + 1, ?_, ?_⟩ : RdI L)) ?_ ?_ | refine num_elim ?_ | intro _ | (with_reducible rfl) | ((with_reducible refine lk_t ?_); exact rfl) | ((with_reducible refine pf_t ?_); exact rfl) | refine tell ?_ | exact True.intro | (refine IsT.of ?_; kernel_rfl))
  all_goals (try exact (1 : Nat))
  all_goals (try refine Tell.mk ?_)
  all_goals (try dsimp only at *)
  all_goals first | with_reducible rfl | with_reducible exact isI_mk | with_reducible assumption | (with_reducible refine gb_t ?_; with_reducible assumption) | (with_reducible refine gb_f ?_; with_reducible assumption) | ((show (_ : Nat) ≤ _); decide) | (show 0 < 1; decide) | skip
  all_goals (try simp only [bne_iff_ne, ne_eq, bne_eq_false_iff_eq, Bool.or_eq_true, Bool.or_eq_false_iff, Bool.not_eq_true', Bool.not_eq_false', decide_eq_true_eq, decide_eq_false_iff_not, gb] at *)
  all_goals (try simp only [Int.toNat_natCast, mulN1, show Int.toNat 0 = 0 from rfl, show Int.toNat 1 = 1 from rfl, show Int.toNat 2 = 2 from rfl, Nat.add_zero, Nat.zero_add, small_err, small_val, p3_beq, avInt_int] at *)
  all_goals (try simp only [← hL, beq_iff_eq, beq_eq_false_iff_ne, ne_eq, Decidable.not_not, show (Tab.cx.ti 5).bytes = 1 from rfl, show (Tab.cx.ti 3).bytes = 8 from rfl] at *)
  all_goals first | rfl | omega | exact wd_isS L | (exfalso; omega) | skip
  all_goals first | (have hr := rdE_none (L := L) (by omega)) | (have hr := rdE_form (L := L) (by omega) (by assumption)) | (have hk3 : k < 4 := (by omega); have hne : ¬ errAt L k = 0 := (by assumption); have hr := rdE_head (L := L) (i := k - 1) (by omega) (by assumption) he (by omega) (by rw [show 1 + (k - 1) = k by omega]; exact hne); rw [show 1 + (k - 1) = k by omega] at hr) | skip
  all_goals (try (have hk4 : k = 4 := (by omega); subst hk4; have hh : ∀ j, j < 3 → errAt L (1 + j) = 0 := he; have v1 := val_rng (hh 0 (by omega)); have v2 := val_rng (hh 1 (by omega)); have v3 := val_rng (hh 2 (by omega))))
  all_goals (try simp only [show 1 + 0 = 1 from rfl, show 1 + 1 = 2 from rfl, show 1 + 2 = 3 from rfl, show 1 + (0 + 0) = 1 from rfl] at *)
  all_goals first | (have hS : Side (valAt L 1) (valAt L 2) := side_of (by assumption); have rn := rdN_eq hS; obtain ⟨r1, r2, r3⟩ := rn) | (have hnS : ¬ Side (valAt L 1) (valAt L 2) := side_not (by assumption); have hr := rdE_lim (by omega) (by assumption) hh hnS) | skip
  all_goals (try simp only [r3] at *)
  all_goals first | (have h255 : ¬ valAt L 3 = 255 := (by assumption); have hr := rdE_max (by omega) (by assumption) hh hS h255) | skip
  all_goals (try (have w4 : IntKind.i64.wrap ((i : Int) + 4) = ((4 + i : Nat) : Int) := (by rw [wrapI (by omega) (by omega)]; omega); have w5 : IntKind.i64.wrap (4 + (rdN L : Int)) = ((4 + rdN L : Nat) : Int) := (by rw [wrapI (by omega) (by omega)]; omega); have tm : (i : Int).tmod 3 = ((i % 3 : Nat) : Int) := (by rw [Int.tmod_eq_emod_of_nonneg (by omega)]; omega)))
  all_goals (try simp only [w4, w5, tm, Int.toNat_natCast] at *)
  all_goals first | omega | (show _ * 1 ≤ 140737488355328; omega) | (rw [wrapI (by omega) (by omega)]; omega) | exact rdh_next h1 he (by assumption) _ (by assumption) | exact rdi_next he2 (by assumption) _ (by assumption) | (rw [catI_some]; split; rfl; congr 1; omega) | skip
  all_goals (try (have hv := val_rng (L := L) (k := 4 + i) (by assumption); have wv : IntKind.u8.wrap (valAt L (4 + i)) = valAt L (4 + i) := wrapU8 hv.2.1 (by omega)))
  all_goals first | exact rdP_step1 wv (by omega) (by assumption) | exact rdP_step2 wv (by omega) (by assumption) | skip
  all_goals first | (have hir : i < rdN L := (by omega); have hne : ¬ errAt L (4 + i) = 0 := (by assumption); have hr := rdE_word (by omega) (by assumption) hh hS (by assumption) he2 hir hne) | (have hir : i = rdN L := (by omega); have hr := rdE_end (by omega) (by assumption) hh hS (by assumption) (fun j hj => he2 j (by omega)); first | (rw [if_pos (by omega)] at hr) | (rw [if_neg (by omega)] at hr)) | skip
  all_goals first | exact hr | (rw [hr, okI_0]; done) | (rw [hr, okM_0]; omega) | exact okI_e (by rw [hr]; first | assumption | decide) | exact okM_e (by rw [hr]; first | assumption | decide) | skip
  all_goals trace_state
def read_r (L : List (List UInt8)) : AV := .tup [.agg [.int .i64 (okI (rdE L) (valAt L 1)), .int .i64 (okI (rdE L) (valAt L 2)), ints .u8 (okM (rdE L) (rdN L + rdN L / 3)) (rdP L)], .int .i64 (rdE L)]
def readR_k : Con Tryd.prog := ⟨10, fun args => match args with | [.str t] => .ok (some (t.size ≤ 80000)) (read_r (pwords t.data.toList)) | _ => .no, by
  intro args p r h hp
  split at h
  · cases h; exact readR_a _ _ ⟨hp, rfl⟩
  · cases h⟩
end Go.Proofs.YtjnpngbgapigeaaDoor
/- Pictures as text: lines, one by one: the library's iterator, whatever is done with the lines. -/
namespace Go.Proofs.YtjnpngbgapigeaaDoor
open Go.RowKit Go.Shelf Ev
set_option linter.unusedVariables false
set_option linter.unusedSimpArgs false
attribute [local go_sem] Oper.semAt_some

/-- The iterator's own three cells lie as they lay. -/
def Kp3 (b1 b2 b3 : Nat) (W W' : World) : Prop := W'.heap[b1]? = W.heap[b1]? ∧ W'.heap[b2]? = W.heap[b2]? ∧ W'.heap[b3]? = W.heap[b3]?
theorem Kp3.refl (b1 b2 b3 : Nat) (W : World) : Kp3 b1 b2 b3 W W := ⟨rfl, rfl, rfl⟩
theorem Kp3.trans {b1 b2 b3 : Nat} {A B C : World} (h : Kp3 b1 b2 b3 A B) (k : Kp3 b1 b2 b3 B C) : Kp3 b1 b2 b3 A C := ⟨k.1.trans h.1, k.2.1.trans h.2.1, k.2.2.trans h.2.2⟩
theorem cell_blk {A B : World} {b : Nat} {v : Value} (h : B.heap[b]? = A.heap[b]?) (hc : A.cell? ⟨b, 0, none⟩ = some v) : B.cell? ⟨b, 0, none⟩ = some v := (World.cell?_of_block (w := A) (a := ⟨b, 0, none⟩) h).trans hc
theorem frz_blk {A B : World} {b : Nat} {v : Bool} (h : B.heap[b]? = A.heap[b]?) (hc : A.frozen? ⟨b, 0, none⟩ = v) : B.frozen? ⟨b, 0, none⟩ = v := (World.frozen?_of_block (w := A) (a := ⟨b, 0, none⟩) h).trans hc
/-- How much is still to be cut. -/
def leftB (b : Nat) (W : World) : Nat := match W.cell? ⟨b, 0, none⟩ with | some (.string s) => s.size | _ => 0
theorem left_eq {b : Nat} {W : World} {s : ByteArray} (h : W.cell? ⟨b, 0, none⟩ = some (.string s)) : leftB b W = s.size := by unfold leftB; rw [h]
theorem heap_other (W : World) (b k : Nat) (v : Value) (h : k ≠ b) : (W.setCell ⟨b, 0, none⟩ v).heap[k]? = W.heap[k]? := Below.heap_setCell W ⟨b, 0, none⟩ v k h

set_option maxRecDepth 100000 in
set_option maxHeartbeats 2000000 in
theorem split_in (n : Nat) (l Bp Bs Bk : Nat) (hsp : Bp ≠ Bs) (hsk : Bk ≠ Bs) (J : List (List UInt8) → World → Prop)
    (s : List UInt8) (hJ : ∀ pre W u v, J pre W → W.cell? ⟨Bs, 0, none⟩ = some u → J pre (W.setCell ⟨Bs, 0, none⟩ v))
    (hY : ∀ pre x W, (∃ r, pre ++ x :: r = linesOf s) → J pre W → YieldAt Fence.wide (n - 1) Tryd.prog l #[.string (bs x)] W fun e W' => e = .returned (.bool true) ∧ J (pre ++ [x]) W' ∧ Kp3 Bp Bs Bk W W')
    (W : World) (hp : W.cell? ⟨Bp, 0, none⟩ = some (.string ⟨#[10]⟩)) (hs : W.cell? ⟨Bs, 0, none⟩ = some (.string (bs s))) (hk : W.cell? ⟨Bk, 0, none⟩ = some (.int .i64 0)) (hf : W.frozen? ⟨Bs, 0, none⟩ = false)
    (hsz : s.length ≤ 1000000) (h0 : J [] W) :
    CallsIn Fence.wide n Tryd.prog 45 #[.func (.yield l) #[] #[], .pointer (some ⟨Bp, 0, none⟩), .pointer (some ⟨Bs, 0, none⟩), .pointer (some ⟨Bk, 0, none⟩)] W fun e W' => (∃ v, e = .returned v) ∧ J (linesOf s) W' := by
  refine callsIn_of_wp Tryd.func45 rfl trivial ?_ rfl
  simp only [Tryd.ntmps45, List.size_toArray, List.length_cons, List.length_nil, Nat.reduceAdd, Nat.reduceSub, Array.replicate_succ, Array.replicate_zero, List.push_toArray, List.append_toArray, List.nil_append, List.cons_append]
  gi_wp2
  gi_loopw [] (fun wr => ∃ (pre : List (List UInt8)) (rest : List UInt8), wr.cell? ⟨Bp, 0, none⟩ = some (.string ⟨#[10]⟩) ∧ wr.cell? ⟨Bs, 0, none⟩ = some (.string (bs rest)) ∧ wr.cell? ⟨Bk, 0, none⟩ = some (.int .i64 0) ∧ wr.frozen? ⟨Bs, 0, none⟩ = false ∧ pre ++ linesOf rest = linesOf s ∧ rest.length ≤ 1000000 ∧ J pre wr) (fun wr => leftB Bs wr)
  case atStart =>
    exact ⟨[], s, hp, hs, hk, hf, rfl, hsz, h0⟩
  case round =>
    obtain ⟨pre, rest, rp, rs, rk, rf, rl, rz, rJ⟩ := hrel
    have ix := strings_Index_one (bs rest) 10 wr
    rw [bs_list] at ix
    by_cases hi : Lib.indexByte rest 10 = -1
    · rw [hi] at ix
      obtain ⟨fn, tmps, assign, body, hy, hR⟩ := hY pre rest wr ⟨[], by rw [← rl, lines_none rest hi]⟩ rJ
      gi_wp2_with (refine ⟨trivial, (fun h => by cases h), ?_⟩; gi_at_call 47; refine (CallsIn.mono (callsIn_wide.2 ix) ?_); rintro e w' ⟨rfl, rfl⟩)
      refine ⟨(fun h => by cases h), hR.mono ?_⟩
      rintro e W3 ⟨rfl, hJ3, hK3⟩
      gi_wp2
      go_end0
      rw [lines_none rest hi] at rl
      exact ⟨⟨_, rfl⟩, by rw [← rl]; exact hJ3⟩
    · obtain ⟨i, hi2⟩ : ∃ i : Nat, Lib.indexByte rest 10 = i := ⟨(Lib.indexByte rest 10).toNat, by have := Lib.indexByte_ge rest 10; omega⟩
      rw [hi2] at ix
      obtain ⟨fn, tmps, assign, body, hy, hR⟩ := hY pre (rest.take i) wr ⟨_, by rw [← rl, lines_some rest i hi2]⟩ rJ
      have hil : i < rest.length := by
        have := (Lib.indexByte_some hi2).1
        rcases Nat.lt_or_ge i rest.length with h | h
        · exact h
        · rw [List.getElem?_eq_none h] at this; cases this
      have hw : wrap64 (i : Int) = (i : Int) := by unfold wrap64; omega
      have hw2 : wrap64 ((i : Int) + 1) = ((i + 1 : Nat) : Int) := by unfold wrap64; omega
      have hx1 : (bs rest).extract 0 i = bs (rest.take i) := by
        rw [← bs_of ((bs rest).extract 0 i)]
        congr 1
        have := ext_of rest 0 i
        rw [show (bs rest).extract 0 i = (ByteArray.mk rest.toArray).extract 0 i from rfl, this]
        simp
      gi_wp2_with (refine ⟨trivial, (fun h => by cases h), ?_⟩; gi_at_call 47; refine (CallsIn.mono (callsIn_wide.2 ix) ?_); rintro e w' ⟨rfl, rfl⟩)
      case isFalse => exact absurd (show i ≤ (bs rest).size by rw [bs_size]; omega) (by assumption)
      refine ⟨(fun h => by cases h), hR.mono ?_⟩
      rintro e W3 ⟨rfl, hJ3, hK3⟩
      have rp3 := cell_blk hK3.1 rp
      have rs3 := cell_blk hK3.2.1 rs
      have rk3 := cell_blk hK3.2.2 rk
      have rf3 := frz_blk hK3.2.1 rf
      gi_wp2
      case isFalse => exact absurd (⟨by omega, by rw [bs_size]; omega⟩ : 0 ≤ (i : Int) + 1 ∧ (i : Int) + 1 ≤ ((bs rest).size : Int)) (by assumption)
      have hx2 : (bs rest).extract (i + 1) (bs rest).size = bs (rest.drop (i + 1)) := by
        rw [← bs_of ((bs rest).extract (i + 1) (bs rest).size)]
        congr 1
        have := ext_of rest (i + 1) (bs rest).size
        rw [show (bs rest).extract (i + 1) (bs rest).size = (ByteArray.mk rest.toArray).extract (i + 1) (bs rest).size from rfl, this, bs_size]
        exact List.take_of_length_le (by rw [List.length_drop]; exact Nat.le_refl _)
      rw [hx2]
      have cs := World.cell?_setCell_same' W3 ⟨Bs, 0, none⟩ (Value.string (bs (rest.drop (i + 1)))) (by rw [rs3]; rfl)
      refine ⟨⟨pre ++ [rest.take i], rest.drop (i + 1), cell_blk (heap_other _ _ _ _ hsp) rp3, cs, cell_blk (heap_other _ _ _ _ hsk) rk3, by rw [World.frozen?_setCell]; exact rf3, ?_, by rw [List.length_drop]; omega, hJ _ _ _ _ hJ3 rs3⟩, ?_⟩
      · rw [← rl, lines_some rest i hi2]; simp
      · rw [left_eq cs, left_eq rs, bs_size, bs_size, List.length_drop]; omega
end Go.Proofs.YtjnpngbgapigeaaDoor
/- Pictures as text: the library's calls in the program's reading, as calls. -/
namespace Go.Proofs.YtjnpngbgapigeaaDoor
open Go.RowKit Go.Shelf Ev
set_option linter.unusedVariables false
set_option linter.unusedSimpArgs false
set_option maxRecDepth 20000
set_option maxHeartbeats 8000000

/-- Out of a contract: what is called. -/
theorem calls_acalls {P : Program} {f : Nat} {fn : Func} (hf : FnOk P f fn) (hb : fn.body.isSome = true) {args : List AV} {r : AV} (h : ACalls P f args r) {w : World} {vals : List Value} (ht : Two (Rd w (fun _ => none) (fun b => b < w.heap.size)) args vals) (htw : TW w) :
    Calls P f vals.toArray w fun e w' => ∃ v, e = .returned v ∧ Below w.heap.size w w' ∧ Rd w' (fun _ => none) (fun b => b < w.heap.size ∨ (w.heap.size ≤ b ∧ b < w'.heap.size)) r v := by
  have h1 := h w (fun b => b < w.heap.size) vals (fun _ h => h) ht htw
  have e : (callFunc f vals.toArray).run P w = .ok (.enter f vals.toArray) w := by
    have hne : ¬ fn.name = "runtime.NumGoroutine" := by simpa using hf.nm
    cases hbb : fn.body with
    | none => rw [hbb] at hb; cases hb
    | some c => simp [callFunc, hf.at_, hbb, hne]
  rw [e] at h1
  exact h1
theorem idxN_f : FnOk Tryd.prog 48 Tryd.f48 := ⟨Tryd.func48, by kernel_rfl⟩
theorem idxN_a (s c : ByteArray) (hpre : c = ⟨#[35]⟩) : ACalls Tryd.prog 48 [.str s, .str c] (.int .i64 (Lib.indexByte s.data.toList 35)) := by
  subst hpre
  refine acalls_calls idxN_f rfl fun w Im vals hIm ht => ?_
  obtain ⟨v1, v2, rfl, h1, h2⟩ := two2 ht
  rw [h1.inv_str, h2.inv_str]
  refine Calls.mono (stringslite_Index_one s 35 w) ?_
  rintro e w' ⟨rfl, rfl⟩
  exact ⟨_, rfl, Below.refl _ _, .int _ _⟩
def idxN_k : Con Tryd.prog := ⟨48, fun args => match args with | [.str s, .str c] => .ok (some (c = ⟨#[35]⟩)) (.int .i64 (Lib.indexByte s.data.toList 35)) | _ => .no, by
  intro args p r h hp
  split at h
  · cases h; exact idxN_a _ _ hp
  · cases h⟩
theorem idx_lt (l : List UInt8) (c : UInt8) : Lib.indexByte l c < l.length := by
  have ge := Lib.indexByte_ge l c
  by_cases h : Lib.indexByte l c = -1
  · omega
  · obtain ⟨i, hi⟩ : ∃ i : Nat, Lib.indexByte l c = i := ⟨(Lib.indexByte l c).toNat, by omega⟩
    have := (Lib.indexByte_some hi).1
    rw [hi]
    rcases Nat.lt_or_ge i l.length with h | h
    · omega
    · rw [List.getElem?_eq_none h] at this; cases this
theorem extr_take (s : ByteArray) (k : Nat) : s.extract 0 k = bs (s.data.toList.take k) := by
  rw [← bs_of (s.extract 0 k)]
  congr 1
  have := ext_of s.data.toList 0 k
  rw [show (ByteArray.mk s.data.toList.toArray) = s from bs_of s] at this
  rw [this]; simp
theorem cut_ge {s : ByteArray} (h : Lib.indexByte s.data.toList 35 ≥ 0) : bs (cutL s.data.toList) = s.extract (Int.toNat 0) (Lib.indexByte s.data.toList 35).toNat := by
  rw [show s.extract (Int.toNat 0) (Lib.indexByte s.data.toList 35).toNat = s.extract 0 (Lib.indexByte s.data.toList 35).toNat from rfl, extr_take, cut_some _ (Lib.indexByte s.data.toList 35).toNat (by omega)]
theorem cut_lt {s : ByteArray} (h : ¬ Lib.indexByte s.data.toList 35 ≥ 0) : bs (cutL s.data.toList) = s := by
  rw [cut_none _ (by have := Lib.indexByte_ge s.data.toList 35; omega), bs_of]
theorem cutN_f : FnOk Tryd.prog 22 Tryd.f22 := ⟨Tryd.func22, by kernel_rfl⟩
theorem cutN_a (s c : ByteArray) (hpre : c = ⟨#[35]⟩ ∧ s.size ≤ 1000000) : ACalls Tryd.prog 22 [.str s, .str c] (.tup [.str (bs (cutL s.data.toList)), .any, .any]) := by
  refine acalls_of (inl := hasI (P := Tryd.prog) [⟨39, Tryd.f39, Tryd.func39, by kernel_rfl⟩] []) (base [idxN_k] [⟨39, Tryd.f39, Tryd.func39, by kernel_rfl⟩] []) 4 cutN_f (And.intro (by kernel_rfl) ?_)
  obtain ⟨rfl, hs⟩ := hpre
  repeat' (first | refine And.intro ?_ ?_ | (with_reducible exact ff_elim) | (with_reducible exact tf_elim) | refine num_elim ?_ | intro _ | (with_reducible rfl) | ((with_reducible refine lk_t ?_); exact rfl) | ((with_reducible refine pf_t ?_); exact rfl) | refine tell ?_ | exact True.intro | (refine IsT.of ?_; kernel_rfl))
  all_goals (try refine Tell.mk ?_)
  all_goals (try dsimp only at *)
  all_goals first | ((with_reducible refine okF_t ?_); kernel_rfl) | skip
  all_goals (have ge := Lib.indexByte_ge s.data.toList 35; have lt := idx_lt s.data.toList 35; rw [len_data] at lt; have e1 : ((ByteArray.mk #[35]).size : Int) = 1 := rfl)
  all_goals (try simp only [e1, decide_eq_true_eq, decide_eq_false_iff_not] at *)
  all_goals first | omega | (rw [wrapI (by omega) (by omega)]; omega) | exact cut_ge (by assumption) | exact cut_lt (by assumption) | trace_state
def cutN_k : Con Tryd.prog := ⟨22, fun args => match args with | [.str s, .str c] => .ok (some (c = ⟨#[35]⟩ ∧ s.size ≤ 1000000)) (.tup [.str (bs (cutL s.data.toList)), .any, .any]) | _ => .no, by
  intro args p r h hp
  split at h
  · cases h; exact cutN_a _ _ hp
  · cases h⟩
theorem splitSeq_c (s sep : ByteArray) (w : World) : Calls Tryd.prog 21 #[.string s, .string sep] w fun e w' => e = .returned (.func (.func 45) #[] #[.pointer (some ⟨w.heap.size + 1, 0, none⟩), .pointer (some ⟨w.heap.size, 0, none⟩), .pointer (some ⟨w.heap.size + 2, 0, none⟩)]) ∧ w' = ((w.alloc (.cells #[.string s] 9)).alloc (.cells #[.string sep] 9)).alloc (.cells #[.int .i64 0] 3) := by
  go_enter Tryd.func21, Tryd.ntmps21
  go_wp2
  go_ret
  exact ⟨rfl, rfl⟩
theorem fields_bs (x : List UInt8) : Lib.goFieldsP sepR (bs x) = (fwL x).map bs := by
  rw [← fields_eq x, List.map_map]
  show Lib.goFieldsP sepR (bs x) = _
  have : ∀ l : List ByteArray, l.map (bs ∘ fun b => b.data.toList) = l := fun l => by
    rw [List.map_congr_left (g := id) (fun b _ => by show bs b.data.toList = b; exact bs_of b)]; simp
  rw [this]; rfl
theorem sepR_int (y : Nat) : sepR y = ((y : Int) == 32 || (y : Int) == 9 || (y : Int) == 13) := by
  unfold sepR
  have e : ∀ k : Nat, ((y : Int) == (k : Int)) = (y == k) := fun k => by rw [Bool.eq_iff_iff, beq_iff_eq, beq_iff_eq]; omega
  have e1 := e 32
  have e2 := e 9
  have e3 := e 13
  rw [show ((32 : Nat) : Int) = 32 from rfl] at e1
  rw [show ((9 : Nat) : Int) = 9 from rfl] at e2
  rw [show ((13 : Nat) : Int) = 13 from rfl] at e3
  rw [e1, e2, e3, Bool.or_assoc]
theorem sep_c (y : Nat) (w : World) : Calls Tryd.prog 24 #[.int .i32 y] w fun e w' => e = .returned (.bool (sepR y)) ∧ ∃ q, w' = w.drewN q := by
  go_enter Tryd.func24, Tryd.ntmps24
  go_wp2
  all_goals go_ret
  all_goals (refine ⟨?_, 0, rfl⟩; rw [sepR_int])
  all_goals simp_all
theorem fields_c (x : List UInt8) (h : x.length ≤ 1000000) (w : World) : Calls Tryd.prog 23 #[.string (bs x), .func (.func 24) #[] #[]] w fun e w' => ∃ A, e = .returned (.slice (some ⟨A, 0, none⟩) (fwL x).length (fwL x).length) ∧ w.heap.size ≤ A ∧
    w'.ownsRow w.heap.size 9 1 (.slice (some ⟨A, 0, none⟩) (fwL x).length (fwL x).length) (fwL x).length ((fwL x).map fun y => .string (bs y)) ∧ Below w.heap.size w w' := by
  have hf := strings_FieldsFunc_runes 24 #[] (enters_of Tryd.func24 (by kernel_rfl) rfl) sepR (bs x) w (by rw [bs_size]; omega) (fun W y _ _ => sep_c y W)
  rw [fields_bs, List.length_map, List.map_map] at hf
  exact hf
end Go.Proofs.YtjnpngbgapigeaaDoor
/- Code behind a loop over an iterator, run by the abstract machine; a mark is passed at the end. -/
namespace Go.Proofs.YtjnpngbgapigeaaDoor
open Go.RowKit Ev
set_option linter.unusedVariables false
set_option linter.unusedSimpArgs false
set_option maxRecDepth 20000
set_option maxHeartbeats 8000000

/-- A function's code from its k-th statement on. -/
def sndC : Code → Code
  | .seq _ y => y
  | c => c
def bodyC (f : Func) : Code := match f.body with | some c => c | none => .skip
def cutC (f : Func) (k : Nat) : Code := (List.range k).foldl (fun c _ => sndC c) (bodyC f)
def cutF (f : Func) (k : Nat) : Func := { f with body := some (cutC f k) }
/-- As before, with one block less to be kept. -/
def lessK (w0 : St0) (D : Nat) (hD : w0.gl ≤ D) : St0 := ⟨w0.toWorld, w0.im0, fun b => w0.kp b ∧ b ≠ D, fun b h => w0.kpl b h.1, w0.gl, fun b h => ⟨w0.glk b h, fun e => by subst e; omega⟩, w0.tw⟩
theorem Sat.put {w0 : St0} {w : World} {σ : Nat → Option Nat} {Im : Nat → Prop} {own : Nat → OB} (h : Sat w0 w σ Im own) {D : Nat} (hk : w0.kp D) (hi : ¬ w0.im0 D) (hD : w0.gl ≤ D) (o : Obj) :
    Go1 w σ Im (w.putObj D o) σ Im ∧ Sat (lessK w0 D hD) (w.putObj D o) σ Im own := by
  have hsz : (w.putObj D o).heap.size = w.heap.size := by unfold World.putObj; simp
  have nI : ∀ b, Im b → b ≠ D := fun b hb e => by
    subst e
    rcases h.imB b hb with q | q
    · exact hi q
    · exact q hk
  have nS : ∀ k b, σ k = some b → b ≠ D := fun k b hb e => by subst e; exact h.sgB k b hb hk
  have hne : ∀ b, b ≠ D → (w.putObj D o).heap[b]? = w.heap[b]? := fun b hb => World.putObj_heap_other (by omega)
  have hg : Go1 w σ Im (w.putObj D o) σ Im := ⟨fun _ h => h, fun b hb => hne b (nI b hb), fun _ _ h => h, fun k b hb => by unfold blen; rw [hne b (nS k b hb)]⟩
  refine ⟨hg, ⟨⟨h.bel.os, h.bel.tape, h.bel.output, by rw [hsz]; exact h.bel.size, fun b hb => (hne b hb.2).trans (h.bel.block b hb.1)⟩, fun b hb => by rw [hsz]; exact h.im b hb, fun k b hb => by rw [hsz]; exact h.sg k b hb, ?_, h.inj, fun b hb => (h.imB b hb).imp id fun q c => q c.1, fun k b hb c => h.sgB k b hb c.1⟩⟩
  intro k hl
  rcases h.held k hl with h1 | ⟨b, h1, h2, h3, h4⟩
  · exact .inl h1
  · exact .inr ⟨b, h1, h2, fun c => h3 c.1, h4.mono (hne b (nS k b h1)) fun i v hv => hv.mono (hg.sg' _)⟩
/-- What the machine shows of the rest, told of the world behind the mark. -/
def EndK (P : Program) (fn : Func) (w0 : St0) (ds : List Deferred) (D : Nat) (r : AV) : Exit → Act → World → Prop := fun e a w' => (e = .ret ∨ e = .normal) ∧ a.defers = ds ∧ Keep w0 w' ∧ ∀ o, ∃ v, (results fn a.tmps).run P (w'.putObj D o) = .ok v (w'.putObj D o) ∧ Rd (w'.putObj D o) (fun _ => none) (fun b => b < w'.heap.size ∧ (w0.im0 b ∨ ¬ w0.kp b)) r v
theorem rest_of {P : Program} {cx : Cx} {con : Nat → List AV → CR} {inl : Nat → Bool} {fns : Nat → Option Func} {mc : Nat → List AV → (Nat → OB) → MR} (hB : Base P cx con fns mc) (n : Nat) {fn : Func} {args : List AV} {own : Nat → OB} {nk : Nat} {r : AV}
    (h : runA 0 cx con inl (calT cx con inl fns mc n) fn args (outK r) own nk) {c : Code} (hb : fn.body = some c) {w0 : St0} {ds : List Deferred} {a : Act} {w : World} {σ : Nat → Option Nat} {Im : Nat → Prop} (hG : Gd w0 ds fn.ntmps (argE args) own nk a w σ Im)
    {D : Nat} (hk : w0.kp D) (hi : ¬ w0.im0 D) (hD : w0.gl ≤ D) : c.wp P (EndK P fn w0 ds D r) a w := by
  obtain ⟨h1, h2⟩ := h
  rw [hb] at h2
  replace h2 : wpR 0 cx con inl (calT cx con inl fns mc n) c (retK cx fn (outK r)) (argE args) own nk := h2
  rw [wpR_eq] at h2
  unfold okF at h1
  rw [hb] at h1
  rw [Bool.and_eq_true] at h1
  refine wp_mono (wpA_sound (w0 := w0) hB.cx hB.con (calT_ok hB.cx hB.con hB.mix hB.fns hB.mc n) hB.mix (lo := 0) c h1.1 _ _ _ _ h2 _ w σ Im w σ Im hG (GoL.refl _ _ _ _)) fun e a w' hF => ?_
  have fin : ∀ e env own nk σ' Im', (match e with | AE.exit _ => False | _ => True) → retK cx fn (outK r) e env own nk → Gd w0 ds fn.ntmps env own nk a w' σ' Im' → a.defers = ds ∧ Keep w0 w' ∧ ∀ o, ∃ v, (results fn a.tmps).run P (w'.putObj D o) = .ok v (w'.putObj D o) ∧ Rd (w'.putObj D o) (fun _ => none) (fun b => b < w'.heap.size ∧ (w0.im0 b ∨ ¬ w0.kp b)) r v := by
    intro e env own nk σ' Im' he hk' hG
    refine ⟨hG.df, hG.sat.bel, fun o => ?_⟩
    have hk' : match resA cx fn.ntmps env own fn.results.toList with | .ok p u => preE p (force u fun u => outK r u own nk) | .no => False := by
      cases e <;> first | exact hk' | exact he.elim
    obtain ⟨hg, hS⟩ := Sat.put hG.sat hk hi hD o
    split at hk'
    · rename_i p u hr
      obtain ⟨hp, hk'⟩ := preE_iff hk'
      rw [force_eq] at hk'
      obtain ⟨v, hv, hrd⟩ := resA_sound (P := P) hB.cx hS hr hp hG.sz fun t ht => (hG.fr t ht).mono hg
      refine ⟨v, hv, ?_⟩
      unfold outK at hk'
      split at hk'
      · exact hk'.elim
      · rename_i u' ks p' e'
        obtain ⟨hp', hk'⟩ := preE_iff hk'
        rw [force_eq] at hk'
        have h3 := agr_rd hk' (pubT_sound hS e' hp' hrd)
        refine Rd.wide h3 fun b hb => ?_
        rcases hb with hb | ⟨k, _, hb⟩
        · exact ⟨hG.sat.im b hb, hG.sat.imB b hb⟩
        · exact ⟨hG.sat.sg k b hb, .inr (hG.sat.sgB k b hb)⟩
    · exact hk'.elim
  cases e with
  | normal =>
    obtain ⟨env', own', nk', σ', Im', hk', hG', hg'⟩ := hF
    exact ⟨.inr rfl, fin _ _ _ _ _ _ trivial hk' hG'⟩
  | ret =>
    obtain ⟨env', own', nk', σ', Im', hk', hG', hg'⟩ := hF
    exact ⟨.inl rfl, fin _ _ _ _ _ _ trivial hk' hG'⟩
  | exit i =>
    obtain ⟨env', own', nk', σ', Im', hk', hG', hg'⟩ := hF
    exact hk'.elim
  | _ => exact hF.elim
/-- The row of words that the rest begins with. -/
def wordsO (L : List (List UInt8)) : Nat → OB := fun k => match k with | 0 => .row [.int .i64 0, .int .i64 0, .nils] | 1 => .row [.sl L.length 1 (wdA L)] | _ => .gone
structure RdG (L : List (List UInt8)) where
  k : Nat
  h4 : k ≤ 4
  hl : k ≤ L.length
  h0 : 0 < k → L.getD 0 [] = p3
  he : ∀ j, j + 1 < k → errAt L (1 + j) = 0
def headN (L : List (List UInt8)) (k : Nat) (i : Nat) : Int := if i + 1 < k then valAt L (1 + i) else 0
theorem headN_0 (L : List (List UInt8)) {j : Nat} (h : j < 3) : [AV.int IntKind.i64 0, AV.int IntKind.i64 0, AV.int IntKind.i64 0].getD j AV.any = AV.int IntKind.i64 (headN L 0 j) := by
  unfold headN; rw [if_neg (by omega)]
  match j, h with
  | 0, _ => rfl
  | 1, _ => rfl
  | 2, _ => rfl
theorem headN_1 (L : List (List UInt8)) : headN L 4 0 = valAt L 1 := rfl
theorem headN_2 (L : List (List UInt8)) : headN L 4 1 = valAt L 2 := rfl
theorem headN_3 (L : List (List UInt8)) : headN L 4 2 = valAt L 3 := rfl
theorem lenN4 (n : Nat) : lenN (some (.int .i64 4)) 4 (n : Int) = n - 4 := by rw [lenN_some]; omega
section
variable {L : List (List UInt8)} {k : Nat}
theorem headE (hk : k < 4) (h1 : 0 < k) (hl : k ≤ L.length) (h0 : 0 < k → L.getD 0 [] = p3) (he : ∀ j, j + 1 < k → errAt L (1 + j) = 0) (hne : ¬ errAt L k = 0) : rdE L = errAt L k := by
  have hr := rdE_head (L := L) (i := k - 1) (by omega) (h0 h1) (fun j hj => he j (by omega)) (by omega) (by rw [show 1 + (k - 1) = k by omega]; exact hne)
  rw [show 1 + (k - 1) = k by omega] at hr
  exact hr
theorem headE8 (hk : k < 4) (hl : k ≤ L.length) (hk2 : (L.length : Int) ≤ (k : Int)) (h0 : 0 < k → L.getD 0 [] = p3) (he : ∀ j, j + 1 < k → errAt L (1 + j) = 0) : rdE L = 8 := by
  have e8 : errAt L k = 8 := err_out (by omega)
  by_cases h1 : 0 < k
  · rw [headE hk h1 hl h0 he (by rw [e8]; decide), e8]
  · exact rdE_none (by omega)
theorem headHe (he : ∀ j, j + 1 < k → errAt L (1 + j) = 0) (hk : errAt L k = 0) {j : Nat} (hj : j + 1 < k + 1) : errAt L (1 + j) = 0 := by
  by_cases e : j + 1 < k
  · exact he j e
  · rw [show 1 + j = k by omega]; exact hk
theorem headNs (hk : ¬ (k : Int) = 0) {j : Nat} : headN L (k + 1) j = if j = k - 1 then valAt L k else headN L k j := by
  unfold headN
  by_cases e : j = k - 1
  · rw [if_pos e, if_pos (by omega), show 1 + j = k by omega]
  · rw [if_neg e]
    by_cases c : j + 1 < k
    · rw [if_pos c, if_pos (by omega)]
    · rw [if_neg c, if_neg (by omega)]
end
theorem rest_a (L : List (List UInt8)) (t : ByteArray) (hN : L.length ≤ 80001) (hW : ∀ k, k < L.length → 0 < (bs (L.getD k [])).size) {w0 : St0} {ds : List Deferred} {a : Act} {w : World} {σ : Nat → Option Nat} {Im : Nat → Prop}
    (hG : Gd w0 ds (cutF Tryd.f9 4).ntmps (argE [.str t, .any, .own 0 0, .int .i64 0, .own 1 0, .any, .any, .any, .any, .any, .any, .any, .any, .any, .any, .any, .any, .any, .any]) (wordsO L) 2 a w σ Im) {D : Nat} (hkp : w0.kp D) (hip : ¬ w0.im0 D) (hgl : w0.gl ≤ D) :
    (cutC Tryd.f9 4).wp Tryd.prog (EndK Tryd.prog (cutF Tryd.f9 4) w0 ds D (read_r L)) a w := by
  refine rest_of (inl := hasI (P := Tryd.prog) [] []) (base [numP_k] [] []) 0 (fn := cutF Tryd.f9 4) (And.intro (by kernel_rfl) ?_) rfl hG hkp hip hgl
  clear hG hkp hip hgl
  show wpR 0 Tab.cx _ _ _ (cutC Tryd.f9 4) _ _ _ _
  repeat' (first | refine And.intro ?_ ?_ | (with_reducible exact ff_elim) | (with_reducible exact tf_elim) | refine num_elim ?_ | intro _ | (with_reducible rfl) | ((with_reducible refine lk_t ?_); exact rfl) | ((with_reducible refine pf_t ?_); exact rfl) | refine tell ?_ | exact True.intro | (refine IsT.of ?_; kernel_rfl))
  all_goals (try (refine loop_keep [2, 4] [0, 1] ?_; refine LoopI.mk (RdG L) (fun j => [(6, .own 2 0), (30, .int .i64 j.k)]) (fun j => [(2, .nums .i64 3 (headN L j.k))]) (fun j => 4 - j.k) (⟨0, Nat.zero_le _, Nat.zero_le _, (fun h => absurd h (by decide)), fun j hj => absurd hj (Nat.not_lt_zero _)⟩) (wk_mk [some 2, some 0, some 1] ?_) (fun ⟨k, h4, hl, h0, he⟩ => ?_)))
  repeat' (first | refine And.intro ?_ ?_ | (with_reducible exact ff_elim) | (with_reducible exact tf_elim) | refine stp_mk [some 2, some 0, some 1] ((⟨k + 1, ?_, ?_, ?_, ?_⟩ : RdG L)) ?_ ?_ | refine num_elim ?_ | intro _ | (with_reducible rfl) | ((with_reducible refine lk_t ?_); exact rfl) | ((with_reducible refine pf_t ?_); exact rfl) | refine tell ?_ | exact True.intro | (refine IsT.of ?_; kernel_rfl))
  all_goals (try (refine loop_keep [2, 4, 98] [0, 1] ?_; refine LoopI.mk (RdI L) (fun j => [(9, .own 2 0), (99, .int .i64 j.i)]) (fun j => [(2, .row [.int .i64 (valAt L 1), .int .i64 (valAt L 2), .os 3 1 0 (j.i + j.i / 3)]), (3, .nums .u8 (j.i + j.i / 3) (rdP L))]) (fun j => rdN L - j.i) (⟨0, Nat.zero_le _, fun j hj => absurd hj (Nat.not_lt_zero _)⟩) (wk_mk [some 10, none, some 0, some 1] ?_) (fun ⟨i, hi, he2⟩ => ?_)))
  repeat' (first | refine And.intro ?_ ?_ | (with_reducible exact ff_elim) | (with_reducible exact tf_elim) | refine' stp_mk [some 2, some _, some 0, some 1] ((⟨i + 1, ?_, ?_⟩ : RdI L)) ?_ ?_ | refine num_elim ?_ | intro _ | (with_reducible rfl) | ((with_reducible refine lk_t ?_); exact rfl) | ((with_reducible refine pf_t ?_); exact rfl) | refine tell ?_ | exact True.intro | (refine IsT.of ?_; kernel_rfl))
  all_goals (try exact (1 : Nat))
  all_goals (try refine Tell.mk ?_)
  all_goals (try dsimp only at *)
  all_goals first | with_reducible rfl | with_reducible exact isI_mk | with_reducible assumption | (with_reducible refine gb_t ?_; with_reducible assumption) | (with_reducible refine gb_f ?_; with_reducible assumption) | ((show (_ : Nat) ≤ _); decide) | (show 0 < 1; decide) | skip
  all_goals (try simp only [bne_iff_ne, ne_eq, bne_eq_false_iff_eq, Bool.or_eq_true, Bool.or_eq_false_iff, Bool.not_eq_true', Bool.not_eq_false', decide_eq_true_eq, decide_eq_false_iff_not, gb] at *)
  all_goals (try simp only [Int.toNat_natCast, mulN1, show Int.toNat 0 = 0 from rfl, show Int.toNat 1 = 1 from rfl, show Int.toNat 2 = 2 from rfl, Nat.add_zero, Nat.zero_add, bs_list, p3_beq, avInt_int] at *)
  all_goals (try simp only [show Int.toNat 4 = 4 from rfl, lenN4, beq_iff_eq, beq_eq_false_iff_ne, ne_eq, Decidable.not_not, show (Tab.cx.ti 5).bytes = 1 from rfl, show (Tab.cx.ti 3).size = 1 from rfl, show (Tab.cx.ti 3).bytes = 8 from rfl] at *)
  all_goals (try simp only [mulN1] at *)
  all_goals first | rfl | omega | (exfalso; omega) | exact hW _ (by omega) | skip
  all_goals (try (have hkl : k < L.length := (by omega); simp only [← err_in hkl, ← val_in hkl] at *))
  all_goals first | exact headN_0 L (by omega) | (have hr := headE8 (L := L) (k := k) (by omega) hl (by assumption) h0 he) | (have hr := rdE_form (L := L) (by omega) (by assumption)) | skip
  all_goals (try (have hk0 : (k : Int) = 0 := (by assumption); have hkk : k = 0 := (by omega); subst hkk))
  all_goals (try (have hk1 : ¬ (k : Int) = 0 := (by assumption); have hp3 := h0 (by omega); have w1 : IntKind.i64.wrap ((k : Int) - 1) = ((k - 1 : Nat) : Int) := (by rw [wrapI (by omega) (by omega)]; omega); simp only [w1, Int.toNat_natCast, mulN1] at *))
  all_goals (try (have hk3 : k < 4 := (by omega); have w2 : IntKind.i64.wrap ((k : Int) + 1) = ((k + 1 : Nat) : Int) := (by rw [wrapI (by omega) (by omega)]; omega); simp only [w2] at *))
  all_goals first | rfl | omega | assumption | skip
  all_goals (try (have hk4 : k = 4 := (by omega); subst hk4; have hp3 := h0 (by decide); have hh : ∀ j, j < 3 → errAt L (1 + j) = 0 := (fun j hj => he j (by omega)); have v1 := val_rng (hh 0 (by omega)); have v2 := val_rng (hh 1 (by omega)); have v3 := val_rng (hh 2 (by omega)); simp only [headN_1, headN_2, headN_3] at *))
  all_goals (try simp only [show 1 + 0 = 1 from rfl, show 1 + 1 = 2 from rfl, show 1 + 2 = 3 from rfl, show 1 + (0 + 0) = 1 from rfl] at *)
  all_goals first | (have hS : Side (valAt L 1) (valAt L 2) := side_of (by assumption); have rn := rdN_eq hS; obtain ⟨r1, r2, r3⟩ := rn) | (have hnS : ¬ Side (valAt L 1) (valAt L 2) := side_not (by assumption); have hr := rdE_lim (by omega) (by assumption) hh hnS) | skip
  all_goals (try simp only [r3] at *)
  all_goals first | rfl | omega | assumption | exact headNs (by assumption) | exact headHe he (by assumption) (by assumption) | (have hr := headE (L := L) (k := k) (by omega) (by omega) hl h0 he (by assumption)) | skip
  all_goals first | (have h255 : ¬ valAt L 3 = 255 := (by assumption); have hr := rdE_max (by omega) (by assumption) hh hS h255) | skip
  all_goals (try (have w4 : IntKind.i64.wrap ((i : Int) + 1) = ((i + 1 : Nat) : Int) := (by rw [wrapI (by omega) (by omega)]; omega)))
  all_goals (try simp only [w4] at *)
  all_goals (try (have hil : 4 + i < L.length := (by omega); simp only [← err_in hil, ← val_in hil] at *))
  all_goals first | rfl | omega | (show _ * 1 ≤ 140737488355328; omega) | (rw [wrapI (by omega) (by omega)]; omega) | exact rdi_next he2 (by assumption) _ (by assumption) | (rw [catI_some]; split; rfl; congr 1; omega) | skip
  all_goals (try (have tm : (i : Int).tmod 3 = ((i % 3 : Nat) : Int) := (by rw [Int.tmod_eq_emod_of_nonneg (by omega)]; omega)))
  all_goals (try simp only [tm] at *)
  all_goals (try (have hv := val_rng (L := L) (k := 4 + i) (by assumption); have wv : IntKind.u8.wrap (valAt L (4 + i)) = valAt L (4 + i) := wrapU8 hv.2.1 (by omega)))
  all_goals first | omega | exact rdP_step1 wv (by omega) (by assumption) | exact rdP_step2 wv (by omega) (by assumption) | skip
  all_goals first | (have hir : i < rdN L := (by omega); have hne : ¬ errAt L (4 + i) = 0 := (by assumption); have hr := rdE_word (by omega) (by assumption) hh hS (by assumption) he2 hir hne) | (have hir : i < rdN L := (by omega); have h8 := err_out (L := L) (k := 4 + i) (by omega); have hr := rdE_word (by omega) (by assumption) hh hS (by assumption) he2 hir (by rw [h8]; decide); rw [h8] at hr) | (have hir : i = rdN L := (by omega); have hr := rdE_end (by omega) (by assumption) hh hS (by assumption) (fun j hj => he2 j (by omega)); first | (rw [if_pos (by omega)] at hr) | (rw [if_neg (by omega)] at hr)) | skip
  all_goals first | exact hr | (rw [hr, okI_0]; done) | (rw [hr, okM_0]; omega) | exact okI_e (by rw [hr]; first | assumption | decide) | exact okM_e (by rw [hr]; first | assumption | decide) | skip
  all_goals trace_state
end Go.Proofs.YtjnpngbgapigeaaDoor
/- Pictures as text: where the rest of pict.Read begins. -/
namespace Go.Proofs.YtjnpngbgapigeaaDoor
open Go.RowKit Ev
set_option linter.unusedVariables false
set_option linter.unusedSimpArgs false

theorem Blk.cells {w : World} {b : Nat} {cs : Array Value} {t : TypeId} (hh : w.heap[b]? = some (.cells cs t (0, 0))) {n : Nat} {f : Nat → Value → Prop} (hn : n ≤ cs.size) (h : ∀ i, i < n → (cs.getD i undef).oneCell' = true ∧ f i (cs.getD i undef)) : Blk w b n f := by
  have hl := blen_cells hh
  refine ⟨by omega, ⟨fun i _ => by unfold World.frozen?; simp only [hh]; simp, fun cs' t' lo hi h' => by
    rw [hh] at h'; cases h'; exact Nat.le_refl _⟩, fun i hi => ⟨cs.getD i undef, ?_, (h i hi).1, (h i hi).2⟩⟩
  have : i < cs.size := by omega
  unfold World.cell?
  simp only [hh]
  simp [this]
theorem words_rd {W : World} {B e : Nat} {v : Value} {L : List (List UInt8)} (h : W.ownsRow B e 1 v L.length (L.map fun x => Value.string (bs x))) : Rd W (fun _ => none) (fun b => v.ownBlock = some b) (.sl L.length 1 (wdA L)) v := by
  rcases h.2 with ⟨rfl, h0⟩ | ⟨g, cap, cur, rfl, hb, hg, h1, h2, h3, h4⟩
  · rw [h0]; exact .sl0 _ _ _ _ (Nat.zero_le _)
  · have hs : ∀ j, j < L.length * 1 → cur[j]? = some (.string (bs (L.getD j []))) := fun j hj => by
      have : (cur.toList.take (L.length * 1))[j]? = (L.map fun x => Value.string (bs x))[j]? := by rw [h4]
      rw [List.getElem?_take, if_pos hj, List.getElem?_map] at this
      rw [← Array.getElem?_toList, this, List.getD, List.getElem?_eq_getElem (by omega)]
      rfl
    refine .sl _ _ _ g 0 cap (fun j => .string (bs (L.getD j []))) rfl h1 h2 (fun j hj => ?_) (fun _ _ => rfl) fun j hj => .str _
    rw [Nat.zero_add]
    simp [World.cell?, hg, hs j hj]
def word0 (W : World) (n D : Nat) (v : Value) (h : n + 1 < D) (hD : D < W.heap.size) (htw : ∀ w', Below n W w' → TW w') : St0 := ⟨W, fun b => v.ownBlock = some b, fun b => b < n ∨ b = D, fun b hb => by rcases hb with hb | hb <;> omega, n, fun _ hb => .inl hb, htw⟩
theorem words_gd {W : World} {n D T0 T4 T9 : Nat} {v : Value} {L : List (List UInt8)} {t : ByteArray} (hD : n + 1 < D) (hlt : D < W.heap.size) (h0 : W.heap[n]? = some (.cells #[.int .i64 0, .int .i64 0, .slice none 0 0] T0 (0, 0))) (h1 : W.heap[n + 1]? = some (.cells #[v] T4 (0, 0)))
    (hrow : W.ownsRow (D + 2) T9 1 v L.length (L.map fun x => Value.string (bs x))) (ho : ∀ k, k < D + 2 → v.ownBlock ≠ some k) (hb : ∀ b, v.ownBlock = some b → b < W.heap.size) {ds : List Deferred} {m : Nat} {tmps : Array Value} (k : Nat)
    (ht : tmps.toList = tmps.toList.take 19 ++ List.replicate k undef) (ht2 : Two (Rd W (fun k => match k with | 0 => some n | 1 => some (n + 1) | _ => none) (fun b => v.ownBlock = some b)) [.str t, .any, .own 0 0, .int .i64 0, .own 1 0, .any, .any, .any, .any, .any, .any, .any, .any, .any, .any, .any, .any, .any, .any] (tmps.toList.take 19)) (hm : tmps.size = m) (htw : ∀ w', Below n W w' → TW w') :
    Gd (word0 W n D v hD hlt htw) ds m (argE [.str t, .any, .own 0 0, .int .i64 0, .own 1 0, .any, .any, .any, .any, .any, .any, .any, .any, .any, .any, .any, .any, .any, .any]) (wordsO L) 2 ⟨tmps, ds⟩ W (fun k => match k with | 0 => some n | 1 => some (n + 1) | _ => none) (fun b => v.ownBlock = some b) := by
  obtain ⟨vals, hvl⟩ : ∃ vals, vals = tmps.toList.take 19 := ⟨_, rfl⟩
  rw [← hvl] at ht ht2
  clear hvl
  replace ht : tmps = vals.toArray ++ Array.replicate k undef := by apply Array.ext'; rw [ht]; simp
  subst ht
  refine ⟨hm, rfl, ⟨⟨rfl, rfl, rfl, Nat.le_refl _, fun _ _ => rfl⟩, hb, ?_, ?_, ?_, fun b hb => .inl hb, ?_⟩, ?_, ?_, ?_⟩
  · intro k b e
    match k with
    | 0 => cases e; omega
    | 1 => cases e; omega
    | k + 2 => cases e
  · intro k hl
    match k with
    | 0 =>
      refine .inr ⟨n, rfl, ho n (by omega), (fun c => by have c : n < n ∨ n = D := c; omega), Blk.cells h0 (Nat.le_refl _) fun i hi => ?_⟩
      match i, hi with
      | 0, _ => exact ⟨rfl, .int _ _⟩
      | 1, _ => exact ⟨rfl, .int _ _⟩
      | 2, _ => exact ⟨rfl, .nils⟩
    | 1 =>
      refine .inr ⟨n + 1, rfl, ho (n + 1) (by omega), (fun c => by have c : n + 1 < n ∨ n + 1 = D := c; omega), Blk.cells h1 (Nat.le_refl _) fun i hi => ?_⟩
      match i, hi with
      | 0, _ =>
        refine ⟨?_, (words_rd hrow).up⟩
        show v.oneCell' = true
        rcases hrow.2 with ⟨rfl, _⟩ | ⟨g, cap, cur, rfl, _⟩ <;> rfl
    | k + 2 => exact hl.elim
  · intro k k' b h1 h2 e1 e2
    match k, k' with
    | 0, 0 => rfl
    | 1, 1 => rfl
    | 0, 1 => cases e1; have e2 : some (n + 1) = some n := e2; injection e2 with e2; omega
    | 1, 0 => cases e1; have e2 : some n = some (n + 1) := e2; injection e2 with e2; omega
    | k + 2, _ => cases e1
    | _, k + 2 => cases e2
  · intro k b e c
    have c : b < n ∨ b = D := c
    match k with
    | 0 => cases e; omega
    | 1 => cases e; omega
    | k + 2 => cases e
  · intro t' ht'
    exact arg_rd ht2 _ t' (by simp at ht' ⊢; omega)
  · intro k hk
    match k, hk with
    | k + 2, _ => rfl
  · intro k hk
    match k, hk with
    | k + 2, _ => exact fun e => e
theorem flW_ne {o : List (List UInt8)} {w : List UInt8} (h : ∀ x ∈ o, x ≠ []) : ∀ x ∈ flW (o, w), x ≠ [] := by
  intro x hx
  unfold flW at hx
  split at hx
  · exact h x hx
  · rename_i hw
    rcases List.mem_append.1 hx with q | q
    · exact h x q
    · rw [List.mem_singleton] at q
      rw [q]; exact hw
theorem fwL_ne : ∀ (l : List UInt8) (o : List (List UInt8)) (w : List UInt8), (∀ x ∈ o, x ≠ []) → ∀ x ∈ (l.foldl fstep (o, w)).1, x ≠ []
  | [], o, w, h => h
  | c :: l, o, w, h => by
    rw [List.foldl_cons]
    unfold fstep
    split
    · exact fwL_ne l _ _ (flW_ne h)
    · exact fwL_ne l _ _ h
theorem lwords_ne (ls : List (List UInt8)) : ∀ x ∈ lwords ls, x ≠ [] := by
  intro x hx
  obtain ⟨y, _, hx⟩ := List.mem_flatMap.1 hx
  exact flW_ne (fwL_ne (cutL y) [] [] (by simp)) x hx
theorem words_size {L : List (List UInt8)} (h : ∀ x ∈ L, x ≠ []) {k : Nat} (hk : k < L.length) : 0 < (bs (L.getD k [])).size := by
  rw [bs_size, List.length_pos_iff]
  refine h _ ?_
  rw [List.getD, List.getElem?_eq_getElem hk]
  exact List.getElem_mem hk
end Go.Proofs.YtjnpngbgapigeaaDoor
/- Pictures as text: the program's words, gathered line by line. -/
namespace Go.Proofs.YtjnpngbgapigeaaDoor
open Go.RowKit Go.Shelf Ev
set_option linter.unusedVariables false
set_option linter.unusedSimpArgs false
attribute [local go_sem] Oper.semAt_some

theorem five (w : World) (o1 o2 o3 o4 o5 : Obj) : (((((w.alloc o1).alloc o2).alloc o3).alloc o4).alloc o5).heap.size = w.heap.size + 5 ∧ Below w.heap.size w (((((w.alloc o1).alloc o2).alloc o3).alloc o4).alloc o5) ∧
    (((((w.alloc o1).alloc o2).alloc o3).alloc o4).alloc o5).heap[w.heap.size]? = some o1 ∧ (((((w.alloc o1).alloc o2).alloc o3).alloc o4).alloc o5).heap[w.heap.size + 1]? = some o2 ∧ (((((w.alloc o1).alloc o2).alloc o3).alloc o4).alloc o5).heap[w.heap.size + 2]? = some o3 ∧
    (((((w.alloc o1).alloc o2).alloc o3).alloc o4).alloc o5).heap[w.heap.size + 3]? = some o4 ∧ (((((w.alloc o1).alloc o2).alloc o3).alloc o4).alloc o5).heap[w.heap.size + 4]? = some o5 := by
  have n : ∀ (W : World) (o : Obj), (W.alloc o).heap[W.heap.size]? = some o := World.alloc_heap_new
  have s : ∀ (W : World) (o : Obj), (W.alloc o).heap.size = W.heap.size + 1 := fun W o => by simp
  have o : ∀ (W : World) (o : Obj) {b : Nat}, b < W.heap.size → (W.alloc o).heap[b]? = W.heap[b]? := fun W o _ h => Ev.heap_alloc_ne W o h
  have s1 := s w o1
  have s2 := s (w.alloc o1) o2
  have s3 := s ((w.alloc o1).alloc o2) o3
  have s4 := s (((w.alloc o1).alloc o2).alloc o3) o4
  have s5 := s ((((w.alloc o1).alloc o2).alloc o3).alloc o4) o5
  have n1 := n w o1
  have n2 := n (w.alloc o1) o2
  have n3 := n ((w.alloc o1).alloc o2) o3
  have n4 := n (((w.alloc o1).alloc o2).alloc o3) o4
  have n5 := n ((((w.alloc o1).alloc o2).alloc o3).alloc o4) o5
  rw [s1] at n2
  rw [s2, s1] at n3
  rw [s3, s2, s1] at n4
  rw [s4, s3, s2, s1] at n5
  refine ⟨by omega, ((((((Below.refl _ w).alloc (Nat.le_refl _) _).alloc (by omega) _).alloc (by omega) _).alloc (by omega) _).alloc (by omega) _), ?_, ?_, ?_, ?_, n5⟩
  · rw [o _ _ (by omega), o _ _ (by omega), o _ _ (by omega), o _ _ (by omega), n1]
  · rw [o _ _ (by omega), o _ _ (by omega), o _ _ (by omega), n2]
  · rw [o _ _ (by omega), o _ _ (by omega), n3]
  · rw [o _ _ (by omega), n4]
/-- Between two rounds: the words of the lines so far, in a row of their own; what else lies as it lay. -/
def RJ (T4 T9 n D : Nat) (W1 : World) (lp : Obj) (pre : List (List UInt8)) (W : World) : Prop :=
  (∃ v, Boxed W (n + 1) T4 v ∧ W.ownsRow (D + 2) T9 1 v (lwords pre).length ((lwords pre).map fun x => Value.string (bs x))) ∧
  (∀ k, n ≤ k → k < D + 1 → k ≠ n + 1 → k ≠ n + 2 → W.heap[k]? = W1.heap[k]?) ∧ W.heap[D + 1]? = some lp ∧ Below n W1 W
theorem own_ne {W : World} {B e sz m : Nat} {v : Value} {xs : List Value} (h : W.ownsRow B e sz v m xs) {k : Nat} (hk : k < B) : v.ownBlock = none ∨ v.ownBlock ≠ some k := by
  rcases h.2 with ⟨rfl, _⟩ | ⟨g, cap, cur, rfl, hb, _⟩
  · exact .inl rfl
  · refine .inr fun e => ?_
    have : g = k := by simpa [Value.ownBlock] using e
    omega
theorem RJ.set {T4 T9 n D : Nat} {W1 : World} {lp : Obj} {pre : List (List UInt8)} {W : World} (hnD : n + 2 < D) (h : RJ T4 T9 n D W1 lp pre W) (v : Value) : RJ T4 T9 n D W1 lp pre (W.setCell ⟨n + 2, 0, none⟩ v) := by
  obtain ⟨⟨u, h1, h2⟩, h3, h4, h5⟩ := h
  refine ⟨⟨u, h1.kept (grownBy_setCell' W (n + 2) v) (by simp), h2.kept (grownBy_setCell' W (n + 2) v) (own_ne h2 (by omega))⟩, fun k a b c d => (heap_other W (n + 2) k v d).trans (h3 k a b c d), (heap_other W (n + 2) (D + 1) v (by omega)).trans h4, h5.trans ((Below.refl n W).setCell (p := ⟨n + 2, 0, none⟩) (by show n ≤ n + 2; omega) v)⟩
theorem RJ.put {T4 T9 n D : Nat} {W1 : World} {lp : Obj} {pre : List (List UInt8)} {W : World} (hnD : n + 2 < D) (h : RJ T4 T9 n D W1 lp pre W) (lp' : Obj) : RJ T4 T9 n D W1 lp' pre (W.putObj (D + 1) lp') := by
  obtain ⟨⟨u, h1, h2⟩, h3, h4, h5⟩ := h
  have hlt := (Array.getElem?_eq_some_iff.1 h4).1
  refine ⟨⟨u, h1.kept (grownBy_putObj' W (D + 1) lp') (by simp; omega), h2.kept (grownBy_putObj' W (D + 1) lp') (own_ne h2 (by omega))⟩, fun k a b c d => (World.putObj_heap_other (by omega)).trans (h3 k a b c d), World.putObj_heap_same hlt, h5.trans ((Below.refl n W).grown (grownBy_putObj' W (D + 1) lp') (by omega) (fun k e => by cases e; omega))⟩
theorem own_below2 {W W' : World} {B e size n : Nat} {v : Value} {xs : List Value} (h : W.ownsRow B e size v n xs) (hb : Below W.heap.size W W') : W'.ownsRow B e size v n xs :=
  h.kept (row := none) ⟨hb.os, hb.tape, hb.output, hb.size, fun k hk _ => hb.block k hk⟩ (Classical.em _)
theorem RJ.below {T4 T9 n D : Nat} {W1 : World} {lp : Obj} {pre : List (List UInt8)} {W W' : World} (hnD : n + 2 < D) (h : RJ T4 T9 n D W1 lp pre W) (hb : Below W.heap.size W W') : RJ T4 T9 n D W1 lp pre W' := by
  obtain ⟨⟨u, h1, h2⟩, h3, h4, h5⟩ := h
  have hlt := (Array.getElem?_eq_some_iff.1 h4).1
  exact ⟨⟨u, (hb.block _ h1.lt).trans h1, own_below2 h2 hb⟩, fun k a b c d => (hb.block k (by omega)).trans (h3 k a b c d), (hb.block _ hlt).trans h4, h5.trans (hb.mono (by omega))⟩
/-- A range over a function none of whose rounds leaves it: what the iterator does, with the loop's record where it was laid. -/
theorem rf_law {P : Program} {n : Nat} {g : Operand} {ps : Array Tmp} {assign body : Code} {Q : Exit → Act → World → Prop} {tm : Array Value} {w : World} {gf : Nat} {lb : Array Value}
    (hg : (Act.mk tm []).eval g = .func (.func gf) #[] lb) (eg : ∀ args w, (callFunc gf args).run P w = .ok (.enter gf args) w)
    (h : ∀ rc : Loop, rc.params = ps → rc.tmps = tm → rc.assign = assign → rc.body = body → rc.state = .ready → rc.pending = none →
      CallsIn Fence.wide (n - 1) P gf (#[.func (.yield (w.heap.size + 1)) #[] #[]] ++ lb) ((w.alloc (.deferred (some []))).alloc (.loop rc)) fun e W => (∃ v, e = .returned v) ∧ W.heap[w.heap.size + 1]? = some (.loop rc) ∧
        Q .normal ⟨tm, [{ target := .collected w.heap.size, args := #[] }]⟩ (W.putObj (w.heap.size + 1) (.loop { rc with state := .exhausted }))) :
    (Code.rangeFunc g ps assign body).wpIn Fence.wide n P Q ⟨tm, []⟩ w := by
  refine wpIn_rangeFunc fun fn _ => ?_
  have h := h { state := .ready, pending := none, fn, tmps := tm, params := ps, assign, body, defers := w.heap.size } rfl rfl rfl rfl rfl rfl
  have he := run_enterLoop_outer (P := P) (w := w) fn tm ps assign body
  obtain ⟨W1, hW1⟩ : ∃ W1, (w.alloc (.deferred (some []))).alloc (.loop { state := .ready, pending := none, fn, tmps := tm, params := ps, assign, body, defers := w.heap.size }) = W1 := ⟨_, rfl⟩
  rw [hW1] at h he
  refine ⟨w.heap.size + 1, [{ target := .collected w.heap.size, args := #[] }], W1, { target := .fn (.func gf) lb, args := #[.func (.yield (w.heap.size + 1)) #[] #[]] }, W1, gf, #[.func (.yield (w.heap.size + 1)) #[] #[]] ++ lb, W1, ?_, ?_, fun _ _ => trivial, ?_, (fun h => by cases h), ?_⟩
  · exact he
  · simp only [resolve, hg]
    simp [go_sem]
  · simp [invoke, go_sem, eg]
  · refine CallsIn.mono h ?_
    rintro e W2 ⟨⟨v, rfl⟩, h1, h2⟩
    have hE := run_endLoop (P := P) h1 (by simp)
    exact ⟨none, _, hE, h2⟩
set_option maxRecDepth 100000 in
theorem cut_c (x : List UInt8) (h : x.length ≤ 1000000) (w : World) (htw : TW w) : Calls Tryd.prog 22 #[.string (bs x), .string ⟨#[35]⟩] w fun e w' => (∃ a b, e = .returned (.tuple #[.string (bs (cutL x)), a, b])) ∧ Below w.heap.size w w' := by
  refine Calls.mono (calls_acalls cutN_f rfl (cutN_a (bs x) ⟨#[35]⟩ ⟨rfl, by rw [bs_size]; exact h⟩) (w := w) (vals := [.string (bs x), .string ⟨#[35]⟩]) (.cons (.str _) (.cons (.str _) .nil)) htw) ?_
  rintro e w' ⟨v, rfl, hB, hr⟩
  refine ⟨?_, hB⟩
  rw [bs_list] at hr
  obtain ⟨cs, rfl, h1, h2⟩ := hr.inv_tup
  have h0 := (h2 0 (by show 0 < 3; decide)).inv_str
  have hsz : cs.size = 3 := h1
  refine ⟨cs.getD 1 undef, cs.getD 2 undef, ?_⟩
  congr 2
  apply Array.ext
  · simp [hsz]
  · intro i hi hi'
    have hi3 : i < 3 := by omega
    match i, hi3 with
    | 0, _ => simpa [Array.getD_eq_getD_getElem?, hi] using h0
    | 1, _ => simp [Array.getD_eq_getD_getElem?, hi]
    | 2, _ => simp [Array.getD_eq_getD_getElem?, hi]
theorem row_cell {W : World} {B e m : Nat} {A c : Nat} {xs : List Value} (h : W.ownsRow B e 1 (.slice (some ⟨A, 0, none⟩) m c) m xs) : ∀ j u, xs[j]? = some u → W.cell? ((⟨A, 0, none⟩ : Addr).add j) = some u := by
  intro j u hj
  have hlen := h.1
  rcases h.2 with ⟨e1, _⟩ | ⟨g, cap, cur, e1, _, hg, h1, _, h2, h3⟩
  · cases e1
  · cases e1
    rw [add_addr, Nat.zero_add]
    have hjm : j < m := by
      have := (List.getElem?_eq_some_iff.1 hj).1
      omega
    have : cur.toList[j]? = some u := by
      rw [← h3, List.getElem?_take] at hj
      rw [if_pos (by omega)] at hj
      exact hj
    simp only [World.cell?, hg]
    simpa using this
theorem app_step {P : Program} {T4 T9 n D : Nat} (hT4 : P.underlying T4 = some (.slice T9)) (hi9 : (P.info? T9).map (fun i => (i.zero, i.size, i.bytes)) = some (some (.string ⟨#[]⟩), 1, 16)) (hne : T4 ≠ T9) {W1 : World} {lp : Obj} {pre : List (List UInt8)} {x : List UInt8} {W2 W3 : World} {A : Nat} (hnD : n + 4 < D) {v : Value}
    (hv : Boxed W2 (n + 1) T4 v) (hrow : W2.ownsRow (D + 2) T9 1 v (lwords pre).length ((lwords pre).map fun x => Value.string (bs x)))
    (h3 : ∀ k, n ≤ k → k < D + 1 → k ≠ n + 1 → k ≠ n + 2 → W2.heap[k]? = W1.heap[k]?) (h4 : W2.heap[D + 1]? = some lp) (h5 : Below n W1 W2)
    (hB3 : Below W2.heap.size W2 W3) {B : Nat} (hown : W3.ownsRow B T9 1 (.slice (some ⟨A, 0, none⟩) (fwL (cutL x)).length (fwL (cutL x)).length) (fwL (cutL x)).length ((fwL (cutL x)).map fun y => Value.string (bs y)))
    (hb : (lwords pre).length + (fwL (cutL x)).length ≤ 1000000) :
    ∃ v' W4, (Builtin.append_ #[T4, T4] T4 #[v, .slice (some ⟨A, 0, none⟩) (fwL (cutL x)).length (fwL (cutL x)).length]).run P W3 = .ok v' W4 ∧ W3.cell? ⟨n + 1, 0, none⟩ = some v ∧ W4.cell? ⟨n + 1, 0, none⟩ = some v ∧ W4.frozen? ⟨n + 1, 0, none⟩ = false ∧
      RJ T4 T9 n D W1 lp (pre ++ [x]) (W4.setCell ⟨n + 1, 0, none⟩ v') ∧ (∀ k, n + 2 ≤ k → k < D → (W4.setCell ⟨n + 1, 0, none⟩ v').heap[k]? = W2.heap[k]?) ∧ ∃ p m c, v' = .slice p m c := by
  obtain ⟨i0, hi, hz0, hz1, hz2⟩ := info_parts hi9
  have hltD := (Array.getElem?_eq_some_iff.1 h4).1
  have hv3 : Boxed W3 (n + 1) T4 v := (hB3.block _ hv.lt).trans hv
  have hrow3 := own_below2 hrow hB3
  have hcells := row_cell hown
  have hs3 := hB3.size
  obtain ⟨v', W4, hrun, hown4, hg4, _⟩ := run_append_own (P := P) (w := W3) (D + 2) T4 T4 T9 i0 (.string ⟨#[]⟩) 1 16 hT4 hi hz0 hz1 hz2 rfl (by decide) v _ _ hrow3 ⟨A, 0, none⟩ (fwL (cutL x)).length (fwL (cutL x)).length ((fwL (cutL x)).map fun y => Value.string (bs y)) (by rw [List.length_map, Nat.mul_one]) hcells (fun u hu => by
    obtain ⟨y, _, rfl⟩ := List.mem_map.1 hu
    rfl) (by unfold maxLen; omega) (by omega) (by omega)
  have hne1 : some (n + 1) ≠ v.ownBlock := fun e => by
    rcases own_ne hrow3 (k := n + 1) (by omega) with q | q
    · rw [q] at e; cases e
    · exact q e.symm
  have hv4 : Boxed W4 (n + 1) T4 v := hv3.kept hg4 hne1
  have hs4 := hg4.size
  have keep4 : ∀ k, k < D + 2 → W4.heap[k]? = W2.heap[k]? := fun k hk => by
    refine (hg4.block k (by omega) (fun e => ?_)).trans (hB3.block k (by omega))
    rcases own_ne hrow3 (k := k) (by omega) with q | q
    · rw [q] at e; cases e
    · exact q e.symm
  refine ⟨v', W4, hrun, hv3.cell, hv4.cell, hv4.frozen, ⟨⟨v', hv4.set v', ?_⟩, fun k a b c d => (heap_other W4 (n + 1) k v' c).trans ((keep4 k (by omega)).trans (h3 k a b c d)), (heap_other W4 (n + 1) (D + 1) v' (by omega)).trans ((keep4 _ (by omega)).trans h4), ?_⟩, fun k a b => (heap_other W4 (n + 1) k v' (by omega)).trans (keep4 k (by omega)), ?_⟩
  rotate_left 2
  · rcases hown4.2 with ⟨e, _⟩ | ⟨g, cap, cur, e, _⟩
    · exact ⟨_, _, _, e⟩
    · exact ⟨_, _, _, e⟩
  · rw [lwords_snoc, List.length_append, List.map_append]
    exact hown4.kept (grownBy_setCell' W4 (n + 1) v') (own_ne hown4 (by omega))
  · refine h5.trans ((hB3.mono (by omega)).trans (((Below.refl n W3).grown hg4 (by omega) (fun k e => ?_)).trans ((Below.refl n W4).setCell (p := ⟨n + 1, 0, none⟩) (by show n ≤ n + 1; omega) v')))
    rcases hrow3.2 with ⟨rfl, _⟩ | ⟨g, cap, cur, rfl, hb', _⟩
    · cases e
    · have : g = k := by simpa [Value.ownBlock] using e
      omega
theorem lines_le : ∀ (l : List UInt8), ∀ x ∈ linesOf l, x.length ≤ l.length
  | [], x, h => by
    rw [linesOf, List.mem_singleton] at h
    subst h; exact Nat.le_refl _
  | c :: l, x, h => by
    have ih := lines_le l
    unfold linesOf at h
    split at h
    · rcases List.mem_cons.1 h with rfl | h
      · simp
      · have := ih x h; simp; omega
    · cases q : linesOf l with
      | nil => exact absurd q (lines_ne l)
      | cons y r =>
        rw [q] at h ih
        rcases List.mem_cons.1 h with rfl | h
        · have := ih y (List.mem_cons_self ..); simp; omega
        · have := ih x (List.mem_cons_of_mem _ h); simp; omega
theorem lens_in {t : List UInt8} {pre : List (List UInt8)} {x : List UInt8} (ht : t.length ≤ 80000) (h : ∃ r, pre ++ x :: r = linesOf t) : x.length ≤ 1000000 ∧ (lwords pre).length + (fwL (cutL x)).length ≤ 1000000 := by
  obtain ⟨r, h⟩ := h
  refine ⟨Nat.le_trans (lines_le t x (by rw [← h]; simp)) (by omega), ?_⟩
  have h1 := pw_len t
  rw [pwords_eq, ← h] at h1
  simp only [lwords, List.flatMap_append, List.flatMap_cons, List.length_append] at h1 ⊢
  omega
attribute [-go_sem] Builtin.append_
set_option maxRecDepth 100000 in
set_option maxHeartbeats 4000000 in
theorem read_c (t : ByteArray) (ht : t.size ≤ 80000) (w : World) (htw : TW w) : Calls Tryd.prog 9 #[.string t] w fun e w' => ∃ v, e = .returned v ∧ Below w.heap.size w w' ∧ Rd w' (fun _ => none) (fun b => w.heap.size ≤ b ∧ b < w'.heap.size) (read_r (pwords t.data.toList)) v := by
  refine (callsIn_wide (n := 10)).1 ?_
  refine callsIn_of_wp_marks Tryd.func9 rfl trivial ?_ rfl
  simp only [Tryd.ntmps9, List.size_toArray, List.length_cons, List.length_nil, Nat.reduceAdd, Nat.reduceSub, Array.replicate_succ, Array.replicate_zero, List.push_toArray, List.append_toArray, List.nil_append, List.cons_append]
  have hlt : ¬ (t.size : Int) > 80000 := by omega
  gi_wp2_with (refine ⟨trivial, ?_⟩; gi_at_call 21; refine (CallsIn.mono (callsIn_wide.2 (splitSeq_c _ _ _)) ?_); rintro e w' ⟨rfl, rfl⟩)
  have h5 := five w (.cells #[.int .i64 0, .int .i64 0, .slice none 0 0] 24) (.cells #[.slice none 0 0] 42) (.cells #[.string t] 9) (.cells #[.string ⟨#[10]⟩] 9) (.cells #[.int .i64 0] 3)
  generalize (((((w.alloc (.cells #[.int .i64 0, .int .i64 0, .slice none 0 0] 24)).alloc (.cells #[.slice none 0 0] 42)).alloc (.cells #[.string t] 9)).alloc (.cells #[.string ⟨#[10]⟩] 9)).alloc (.cells #[.int .i64 0] 3)) = W0 at h5 ⊢
  obtain ⟨hs0, hB0, hb2, hb4, hbs, hbp, hbk⟩ := h5
  refine rf_law (gf := 45) (lb := #[.pointer (some ⟨w.heap.size + 3, 0, none⟩), .pointer (some ⟨w.heap.size + 2, 0, none⟩), .pointer (some ⟨w.heap.size + 4, 0, none⟩)]) rfl (enters_of Tryd.func45 (by kernel_rfl) rfl) fun rc r1 r2 r3 r4 r5 r6 => ?_
  have hD : w.heap.size + 5 = W0.heap.size := hs0.symm
  obtain ⟨W1, hW1⟩ : ∃ W1, (W0.alloc (.deferred (some []))).alloc (.loop rc) = W1 := ⟨_, rfl⟩
  rw [hW1]
  have hK1 : W1.heap[W0.heap.size]? = some (.deferred (some [])) := by rw [← hW1]; exact (Ev.heap_alloc_ne _ _ (by simp)).trans (World.alloc_heap_new W0 _)
  have hL1 : W1.heap[W0.heap.size + 1]? = some (.loop rc) := by rw [← hW1]; have := World.alloc_heap_new (W0.alloc (.deferred (some []))) (.loop rc); rwa [World.size_alloc] at this
  have hS1 : W1.heap.size = W0.heap.size + 2 := by rw [← hW1]; simp
  have hold : ∀ k, k < W0.heap.size → W1.heap[k]? = W0.heap[k]? := fun k hk => by rw [← hW1]; exact (Ev.heap_alloc_ne _ _ (by simp; omega)).trans (Ev.heap_alloc_ne _ _ hk)
  have hB1 : Below w.heap.size w W1 := by rw [← hW1]; exact (hB0.alloc (by omega) _).alloc (by simp; omega) _
  have htw1 : ∀ W', Below w.heap.size W1 W' → TW W' := fun W' h => htw.below (hB1.trans h)
  have bP : Boxed W1 (w.heap.size + 3) 9 (.string ⟨#[10]⟩) := (hold _ (by omega)).trans hbp
  have bS : Boxed W1 (w.heap.size + 2) 9 (.string t) := (hold _ (by omega)).trans hbs
  have bK : Boxed W1 (w.heap.size + 4) 3 (.int .i64 0) := (hold _ (by omega)).trans hbk
  have b4 : Boxed W1 (w.heap.size + 1) 42 (.slice none 0 0) := (hold _ (by omega)).trans hb4
  refine CallsIn.mono (split_in 9 (W0.heap.size + 1) (w.heap.size + 3) (w.heap.size + 2) (w.heap.size + 4) (by omega) (by omega) (RJ 42 9 w.heap.size W0.heap.size W1 (.loop rc)) t.data.toList (fun pre W u v h _ => h.set (by omega) v) ?hY W1 bP.cell (by rw [bs_of]; exact bS.cell) bK.cell bS.frozen (by rw [len_data]; omega) ⟨⟨_, b4, World.ownsRow_nil _ _ _ _⟩, fun _ _ _ _ _ => rfl, hL1, Below.refl _ _⟩) ?done
  case done =>
    rintro e W ⟨hv, hJ⟩
    refine ⟨hv, hJ.2.2.1, ?_⟩
    rename_i K hK
    refine hK _ _ ?_
    clear hK
    refine wpIn_wide.2 ?_
    obtain ⟨⟨u, hu, hrow⟩, k3, k4, k5⟩ := hJ
    have hkD := k3 W0.heap.size (by omega) (by omega) (by omega) (by omega)
    have hk0 := k3 w.heap.size (by omega) (by omega) (by omega) (by omega)
    have hltD := (Array.getElem?_eq_some_iff.1 k4).1
    have hown : ∀ k, k < W0.heap.size + 2 → u.ownBlock ≠ some k := fun k hk => (own_ne hrow hk).elim (fun e => by rw [e]; simp) id
    have hpw := pwords_eq t.data.toList
    obtain ⟨W', hW'⟩ : ∃ W', W.putObj (W0.heap.size + 1) (.loop { rc with state := .exhausted }) = W' := ⟨_, rfl⟩
    have hs' : W'.heap.size = W.heap.size := by rw [← hW']; unfold World.putObj; simp
    have hne : ∀ k, k ≠ W0.heap.size + 1 → W'.heap[k]? = W.heap[k]? := fun k hk => by rw [← hW']; exact World.putObj_heap_other hk
    have hg' : W.grownBy W' (some (W0.heap.size + 1)) := by rw [← hW']; exact grownBy_putObj' W (W0.heap.size + 1) _
    have hB' : Below w.heap.size W1 W' := k5.trans ((Below.refl _ W).grown hg' (by omega) (fun k e => by cases e; omega))
    rw [hW']
    have hrow' := hrow.kept hg' (by rcases own_ne hrow (k := W0.heap.size + 1) (by omega) with e | e; exact .inl e; exact .inr e)
    rw [← hpw] at hrow'
    have hbl : ∀ b, u.ownBlock = some b → b < W'.heap.size := fun b hb => by
      rcases hrow'.2 with ⟨rfl, _⟩ | ⟨g, cap, cur, rfl, _, hg, _⟩
      · cases hb
      · have e : g = b := by simpa [Value.ownBlock] using hb
        subst e; exact (Array.getElem?_eq_some_iff.1 hg).1
    have hlen : (pwords t.data.toList).length ≤ 80001 := by have := pw_len t.data.toList; rw [len_data] at this; omega
    show Code.wp _ (cutC Tryd.f9 4) _ _ _
    refine wp_mono (rest_a (pwords t.data.toList) t hlen (fun k hk => words_size (by rw [hpw]; exact lwords_ne _) hk) (words_gd (n := w.heap.size) (D := W0.heap.size) (T0 := 24) (T4 := 42) (v := u) (by omega) (by rw [hs']; omega) ((hne _ (by omega)).trans (hk0.trans ((hold _ (by omega)).trans hb2))) ((hne _ (by omega)).trans hu) hrow' hown hbl 127 (by kernel_rfl) ?T2 (by kernel_rfl) (fun w' h => htw1 _ (hB'.trans h))) (.inr rfl) (hown _ (by omega)) (by show w.heap.size ≤ W0.heap.size; omega)) ?_
    case T2 => exact .cons (.str _) (.cons (.any _) (.cons (.own _ _ _ rfl) (.cons (.int _ _) (.cons (.own _ _ _ rfl) (.cons (.any _) (.cons (.any _) (.cons (.any _) (.cons (.any _) (.cons (.any _) (.cons (.any _) (.cons (.any _) (.cons (.any _) (.cons (.any _) (.cons (.any _) (.cons (.any _) (.cons (.any _) (.cons (.any _) (.cons (.any _) .nil))))))))))))))))))
    rintro e a W5 ⟨he, hdf, hkeep, hres⟩
    have hD5 : W5.heap[W0.heap.size]? = some (.deferred (some [])) := (hkeep.block W0.heap.size (.inr rfl)).trans ((hne _ (by omega)).trans (hkD.trans hK1))
    obtain ⟨v, hv, hrd⟩ := hres (.deferred none)
    have hs5 : (W5.putObj W0.heap.size (.deferred none)).heap.size = W5.heap.size := by unfold World.putObj; simp
    have hB5 : Below w.heap.size w (W5.putObj W0.heap.size (.deferred none)) := (hB1.trans hB').trans ⟨hkeep.os, hkeep.tape, hkeep.output, by rw [hs5]; exact hkeep.size, fun b hb => (World.putObj_heap_other (by omega)).trans (hkeep.block b (.inl hb))⟩
    have hW5 : Rd (W5.putObj W0.heap.size (.deferred none)) (fun _ => none) (fun b => w.heap.size ≤ b ∧ b < (W5.putObj W0.heap.size (.deferred none)).heap.size) (read_r (pwords t.data.toList)) v := Rd.wide hrd fun b hb => by
      refine ⟨?_, by rw [hs5]; exact hb.1⟩
      rcases hb.2 with q | q
      · have q : u.ownBlock = some b := q
        by_cases c : b < W0.heap.size + 2
        · exact absurd q (hown b c)
        · omega
      · have q : ¬ (b < w.heap.size ∨ b = W0.heap.size) := q
        omega
    rcases he with rfl | rfl
    all_goals
      show LeavesInM Fence.wide 10 _ _ a.tmps _ a.defers .returning W5
      rw [hdf]
      refine ⟨by simp, .inl ⟨_, _, rfl, run_takeDeferred hD5, ?_⟩⟩
      exact ⟨v, hv, v, rfl, hB5, hW5⟩
  case hY =>
    intro pre x W hpre hJ
    have hnD : w.heap.size + 4 < W0.heap.size := by omega
    have hst : ∃ p, p = rc.pending ∧ p = none := ⟨_, rfl, r6⟩
    clear hB0 hb2 hb4 hbs hbp hbk hold hB1 bP bS bK b4 hK1 hL1 hW1 hD r6 hS1 hs0
    refine ⟨rc.fn, _, rc.assign, rc.body, run_yield hJ.2.2.1 (by rw [r1]; rfl), roundIn_of_wpIn trivial ?_⟩
    rw [r1, r2, r3, r4]
    gi_wp2
    refine ⟨_, run_beginRound hJ.2.2.1 r5, ?_⟩
    have hJb := hJ.put (by omega) (.loop { rc with state := .busy })
    have hkb : ∀ k, k < W0.heap.size → (W.putObj (W0.heap.size + 1) (.loop { rc with state := .busy })).heap[k]? = W.heap[k]? := fun k hk => World.putObj_heap_other (by omega)
    generalize W.putObj (W0.heap.size + 1) (.loop { rc with state := .busy }) = Wb at hJb hkb ⊢
    obtain ⟨hxl, hwl⟩ : x.length ≤ 1000000 ∧ (lwords pre).length + (fwL (cutL x)).length ≤ 1000000 := lens_in (by rw [len_data]; exact ht) hpre
    gi_wp2_with (refine ⟨trivial, ?_⟩; gi_at_call 22; refine CallsIn.mono (CallsIn.inRound _ (callsIn_wide.2 (cut_c x hxl _ (htw1 _ hJb.2.2.2)))) ?_; rintro e W2 ⟨⟨ta, tb, rfl⟩, hB2⟩)
    have hJ2 := hJb.below (by omega) hB2
    obtain ⟨⟨v, hv, hrow⟩, k3, k4, k5⟩ := hJ2
    have hc2 := hv.cell
    have hmx : Tryd.prog.follows .mixedOrders = true := by kernel_rfl
    have hcl : (cutL x).length ≤ 1000000 := Nat.le_trans ((List.takeWhile_sublist _).length_le) hxl
    have hu4 := Tryd.underlying42
    gi_region_with_o (refine ⟨trivial, ?_⟩; gi_at_call 23; refine CallsIn.mono (CallsIn.inRound _ (callsIn_wide.2 (fields_c (cutL x) hcl _))) ?_; rintro e W3 ⟨A, rfl, hA, hown3, hB3⟩; obtain ⟨v', W4, hrun, hc3, hc4, hf4, hJ4, hk4, vp, vm, vc, rfl⟩ := app_step hu4 (by kernel_rfl) (by decide) hnD hv hrow k3 k4 k5 ⟨hB3.os, hB3.tape, hB3.output, hB3.size, hB3.block⟩ hown3 hwl)
    all_goals
      obtain ⟨rp, rp1, rp2⟩ := hst
      refine ⟨_, _, run_endRound none hJ4.2.2.1, rfl, ?_, ?_⟩
      · have hrc : ({ { rc with state := LoopState.busy } with state := if (none : Option Code).isNone then LoopState.ready else LoopState.done, pending := none } : Loop) = rc := by
          cases rc
          simp only [Option.isNone_none, if_true] at r5 rp1 rp2 ⊢
          rw [r5, ← rp1, rp2]
        rw [hrc]
        exact hJ4.put (by omega) _
      · have kk : ∀ k, w.heap.size + 2 ≤ k → k < W0.heap.size → (W4.setCell ⟨w.heap.size + 1, 0, none⟩ (.slice vp vm vc)).heap[k]? = W.heap[k]? := fun k a b => (hk4 k a b).trans ((hB2.block k (by have := (Array.getElem?_eq_some_iff.1 hJb.2.2.1).1; omega)).trans (hkb k b))
        exact ⟨(World.putObj_heap_other (by omega)).trans (kk _ (by omega) (by omega)), (World.putObj_heap_other (by omega)).trans (kk _ (by omega) (by omega)), (World.putObj_heap_other (by omega)).trans (kk _ (by omega) (by omega))⟩
end Go.Proofs.YtjnpngbgapigeaaDoor
/- Pictures as bytes and as text: what reading gives, the program's and the document's; the law on reading. -/
namespace Go.Proofs.YtjnpngbgapigeaaDoor
open Go.RowKit Ev
set_option linter.unusedVariables false
set_option linter.unusedSimpArgs false
set_option maxRecDepth 20000
set_option maxHeartbeats 8000000

theorem ac_rd {P : Program} {f : FuncId} {args : List AV} {r r' : AV} (h : ACalls P f args r) (hr : ∀ (w : World) (Im : Nat → Prop) v, Rd w (fun _ => none) Im r v → Rd w (fun _ => none) Im r' v) : ACalls P f args r' :=
  fun w Im vals hIm ht htw => (h w Im vals hIm ht htw).mono fun v w' ⟨h1, h2⟩ => ⟨h1, hr _ _ _ h2⟩
/-- What unpacking gives. -/
def unp_r (n : Nat) (B : Nat → Int) : AV := .tup [.agg [.int .i64 (okI (unE B n) (B 4)), .int .i64 (okI (unE B n) (B 5)), ints .u8 (okM (unE B n) (unD B n (wh4 B)).L) (unD B n (wh4 B)).D], .int .i64 (unE B n)]
theorem rd_err {w : World} {Im : Nat → Prop} {v : Value} {n : Nat} {B : Nat → Int} (he : ¬ unE B n = 0) (h : Rd w (fun _ => none) Im (.tup [.agg [.int .i64 0, .int .i64 0, .nils], .int .i64 (unE B n)]) v) : Rd w (fun _ => none) Im (unp_r n B) v := by
  unfold unp_r
  rw [okI_e he, okI_e he, okM_e he]
  obtain ⟨cs, rfl, h1, h2⟩ := h.inv_tup
  refine .tup _ _ h1 fun i hi => ?_
  match i, hi with
  | 1, _ => exact h2 1 (by show 1 < 2; decide)
  | 0, _ =>
    obtain ⟨ds, e, k1, k2, k3⟩ := Rd.inv_agg (h2 0 (by show 0 < 2; decide))
    show Rd w _ Im _ (cs.getD 0 undef)
    rw [e]
    refine .agg _ _ k1 k2 fun j hj => ?_
    match j, hj with
    | 0, _ => exact k3 0 (by show 0 < 3; decide)
    | 1, _ => exact k3 1 (by show 1 < 3; decide)
    | 2, _ =>
      have e3 := Rd.inv_nils (k3 2 (by show 2 < 3; decide))
      show Rd w _ Im _ (ds.getD 2 undef)
      rw [e3]
      exact .sl0 _ _ _ _ (Nat.zero_le _)
theorem unp_bad {B : Nat → Int} {n : Nat} (h : ¬ (n < 6 ∨ ¬ Mgc B ∨ ¬ Side (B 4) (B 5))) : 6 ≤ n ∧ Mgc B ∧ Side (B 4) (B 5) := by
  refine ⟨by omega, ?_, ?_⟩
  · exact Decidable.byContradiction fun c => h (.inr (.inl c))
  · exact Decidable.byContradiction fun c => h (.inr (.inr c))
theorem unpP_a (n : Nat) (B : Nat → Int) (hB : U8s B) (hn : n ≤ 1000000) : ACalls Tryd.prog 6 [ints .u8 n B] (unp_r n B) := by
  by_cases he : unE B n = 0
  · have := unpP0_a n B ⟨hB, hn, he⟩
    unfold unp_r
    rw [he, okI_0, okI_0, okM_0]
    exact this
  · by_cases c : n < 6 ∨ ¬ Mgc B ∨ ¬ Side (B 4) (B 5)
    · exact ac_rd (unpPa_a n B ⟨hB, hn, c⟩) fun _ _ _ h => rd_err he h
    · exact ac_rd (unpPb_a n B ⟨hB, hn, unp_bad c, he⟩) fun _ _ _ h => rd_err he h
theorem unpR_a (n : Nat) (B : Nat → Int) (hB : U8s B) (hn : n ≤ 1000000) : ACalls Tryd.prog 7 [ints .u8 n B] (unp_r n B) := by
  by_cases he : unE B n = 0
  · have := unpR0_a n B ⟨hB, hn, he⟩
    unfold unp_r
    rw [he, okI_0, okI_0, okM_0]
    exact this
  · by_cases c : n < 6 ∨ ¬ Mgc B ∨ ¬ Side (B 4) (B 5)
    · exact ac_rd (unpRa_a n B ⟨hB, hn, c⟩) fun _ _ _ h => rd_err he h
    · exact ac_rd (unpRb_a n B ⟨hB, hn, unp_bad c, he⟩) fun _ _ _ h => rd_err he h
def unpP_k : Con Tryd.prog := ⟨6, fun args => match args with | [.sl n 1 g] => .ok (some (IsI .u8 g ∧ U8s (intF g) ∧ n ≤ 1000000)) (unp_r n (intF g)) | _ => .no, by
  intro args p r h hp
  split at h
  · cases h; obtain ⟨h1, h2, h3⟩ := hp; have e := h1.eq; rw [e]; exact unpP_a _ _ h2 h3
  · cases h⟩
def unpR_k : Con Tryd.prog := ⟨7, fun args => match args with | [.sl n 1 g] => .ok (some (IsI .u8 g ∧ U8s (intF g) ∧ n ≤ 1000000)) (unp_r n (intF g)) | _ => .no, by
  intro args p r h hp
  split at h
  · cases h; obtain ⟨h1, h2, h3⟩ := hp; have e := h1.eq; rw [e]; exact unpR_a _ _ h2 h3
  · cases h⟩
theorem readP_f : FnOk Tryd.prog 9 Tryd.f9 := ⟨Tryd.func9, by kernel_rfl⟩
theorem readP_a (t : ByteArray) (ht : t.size ≤ 80000) : ACalls Tryd.prog 9 [.str t] (read_r (pwords t.data.toList)) := by
  refine acalls_callsT readP_f rfl fun w Im vals htw hIm hv => ?_
  cases hv with
  | cons h1 h2 =>
    cases h2
    have e := h1.inv_str
    rw [e]
    refine Calls.mono (read_c t ht w htw) ?_
    rintro e w' ⟨v, rfl, hB, hr⟩
    exact ⟨v, rfl, hB, Rd.wide hr fun b hb => .inr hb⟩
def readP_k : Con Tryd.prog := ⟨9, fun args => match args with | [.str t] => .ok (some (t.size ≤ 80000)) (read_r (pwords t.data.toList)) | _ => .no, by
  intro args p r h hp
  split at h
  · cases h; exact readP_a _ hp
  · cases h⟩
theorem sameP_f : FnOk Tryd.prog 8 Tryd.f8 := ⟨Tryd.func8, by kernel_rfl⟩
theorem sameP_a (a b : Int) (n : Nat) (D : Nat → Int) : ACalls Tryd.prog 8 [.agg [.int .i64 a, .int .i64 b, ints .u8 n D], .agg [.int .i64 a, .int .i64 b, ints .u8 n D]] (.bool true) := by
  refine acalls_of (inl := hasI (P := Tryd.prog) [] []) (base [] [] []) 0 sameP_f (And.intro (by kernel_rfl) ?_)
  repeat' (first | refine And.intro ?_ ?_ | (with_reducible exact ff_elim) | (with_reducible exact tf_elim) | refine num_elim ?_ | intro _ | (with_reducible rfl) | ((with_reducible refine lk_t ?_); exact rfl) | ((with_reducible refine pf_t ?_); exact rfl) | refine tell ?_ | exact True.intro | (refine IsT.of ?_; kernel_rfl))
  all_goals (try refine Tell.mk ?_)
  all_goals first | rfl | (simp only [gb, avInt_int, beq_self_eq_true, Bool.and_self]; done) | trace_state
def sameP_k : Con Tryd.prog := ⟨8, fun args => match args with | [.agg [.int .i64 a, .int .i64 b, .sl n 1 g], .agg [.int .i64 a', .int .i64 b', .sl n' 1 g']] => .ok (some (IsI .u8 g ∧ a = a' ∧ b = b' ∧ n = n' ∧ g = g')) (.bool true) | _ => .no, by
  intro args p r h hp
  split at h
  · cases h; obtain ⟨h1, rfl, rfl, rfl, rfl⟩ := hp; have e := h1.eq; rw [e]; exact sameP_a _ _ _ _
  · cases h⟩
theorem both_le {n m : Nat} (hn : n ≤ 281474976710656) (hm : m ≤ 281474976710656) (h : ¬ IntKind.i64.wrap ((n : Int) + (m : Int)) > 4000) : n + m ≤ 4000 := by
  rw [wrapI (by omega) (by omega)] at h
  omega
theorem pictReads_f : FnOk Tryd.prog 3 Tryd.f3 := ⟨Tryd.func3, by kernel_rfl⟩
theorem pictReads_a (n : Nat) (B : Nat → Int) (s : ByteArray) (hpre : U8s B ∧ n ≤ 281474976710656 ∧ s.size ≤ 281474976710656) : ACalls Tryd.prog 3 [ints .u8 n B, .str s] (.bool true) := by
  refine acalls_of (inl := hasI (P := Tryd.prog) [] []) (base [unpP_k, unpR_k, readP_k, readR_k, sameP_k] [] []) 0 pictReads_f (And.intro (by kernel_rfl) ?_)
  obtain ⟨hB, hn, hs⟩ := hpre
  repeat' (first | refine And.intro ?_ ?_ | (with_reducible exact ff_elim) | (with_reducible exact tf_elim) | refine num_elim ?_ | intro _ | (with_reducible rfl) | ((with_reducible refine lk_t ?_); exact rfl) | ((with_reducible refine pf_t ?_); exact rfl) | refine tell ?_ | exact True.intro | (refine IsT.of ?_; kernel_rfl))
  all_goals (try refine Tell.mk ?_)
  all_goals (try dsimp only at *)
  all_goals first | rfl | assumption | exact isI_mk | (with_reducible refine gb_t ?_; with_reducible assumption) | (with_reducible refine gb_f ?_; with_reducible assumption) | skip
  all_goals (try simp only [intF_mk, decide_eq_true_eq, decide_eq_false_iff_not] at *)
  all_goals first | exact (hB _).1 | exact (hB _).2 | (have hh := both_le hn hs (by assumption); omega) | (simp only [gb, bne_self_eq_false, beq_self_eq_true, Bool.and_self, Bool.and_true]; done) | (exfalso; simp only [bne_self_eq_false, Bool.not_true, Bool.or_false, Bool.false_eq_true] at *; done) | trace_state
end Go.Proofs.YtjnpngbgapigeaaDoor
