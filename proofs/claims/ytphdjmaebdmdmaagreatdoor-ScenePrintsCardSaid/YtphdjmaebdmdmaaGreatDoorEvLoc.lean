/- The abstract machine: which of the call's own blocks a step looks at. -/
import Derived.Test.YtphdjmaebdmdmaaGreatDoorEvSnd
namespace Go.Proofs.YtphdjmaebdmdmaaGreatDoor
open Go.RowKit
set_option linter.unusedVariables false
set_option linter.unusedSimpArgs false
namespace Ev

def ment0 : AV → List Nat
  | .own k _ => [k]
  | .os k _ _ _ => [k]
  | _ => []
def mentL : List AV → List Nat
  | [] => []
  | v :: r => ment0 v ++ mentL r
def ment : AV → List Nat
  | .agg l => mentL l
  | v => ment0 v
def mentA : List AV → List Nat
  | [] => []
  | v :: r => ment v ++ mentA r
/-- What is looked at when a value is handed to a call: of a pointer to a row also what its cells mention. -/
def mentP (own : Nat → OB) : AV → List Nat
  | .own k _ => k :: (match own k with | .row l => mentL l | _ => [])
  | v => ment v
def mentQ (own : Nat → OB) : List AV → List Nat
  | [] => []
  | v :: r => mentP own v ++ mentQ own r
/-- The call's own blocks that a step looks at. -/
def footOf (own : Nat → OB) (ρ : Operand → AV) (op : Op) : List Nat :=
  match op with
  | .load _ a => ment0 (ρ a)
  | .store _ a _ => ment0 (ρ a)
  | .slice _ x _ _ _ => ment0 (ρ x)
  | .convert _ _ x => ment0 (ρ x)
  | .buildSlice _ _ parts => mentA (parts.toList.map fun p => ρ p.2)
  | .call c => match c.callee with
    | .builtin _ => mentA (c.args.toList.map ρ)
    | .value f => match ρ f with
      | .fn _ caps => mentQ own (c.args.toList.map ρ ++ caps)
      | _ => []
    | .invoke r _ => match ρ r with
      | .ifc _ v => mentQ own (v :: c.args.toList.map ρ)
      | _ => []
  | _ => []

section
variable {own own' : Nat → OB}
theorem ment0_sub (v : AV) : ∀ k ∈ ment0 v, k ∈ ment v := by
  cases v <;> simp [ment, ment0]
theorem load_loc (ti : TI) (a : AV) (h : ∀ k ∈ ment0 a, own' k = own k) : loadA ti own' a = loadA ti own a := by
  unfold loadA
  cases a <;> try rfl
  rename_i k off
  have := h k (by simp [ment0])
  simp only [this]
theorem store_loc (ti : TI) (a v : AV) (h : ∀ k ∈ ment0 a, own' k = own k) : storeA ti own' a v = storeA ti own a v := by
  unfold storeA
  cases a <;> try rfl
  rename_i k off
  have := h k (by simp [ment0])
  simp only [this]
theorem slice_loc (ti : Nat → TI) (d : TD) (x : AV) (lo hi mx : Option AV) (h : ∀ k ∈ ment0 x, own' k = own k) : sliceA ti own' d x lo hi mx = sliceA ti own d x lo hi mx := by
  unfold sliceA
  cases x <;> try rfl
  rename_i k off
  have := h k (by simp [ment0])
  simp only [this]
theorem sliceN_loc (ti : Nat → TI) (d : TD) (x : AV) (lo hi mx : Option AV) (h : ∀ k ∈ ment0 x, own' k = own k) : sliceN ti own' d x lo hi mx = sliceN ti own d x lo hi mx := by
  unfold sliceN
  simp only [slice_loc _ _ _ _ _ _ h]
theorem viewI_loc (kd : IntKind) (y : AV) (h : ∀ k ∈ ment0 y, own' k = own k) : viewI kd own' y = viewI kd own y := by
  unfold viewI
  cases y <;> try rfl
  rename_i k sz off n
  have := h k (by simp [ment0])
  simp only [this]
theorem dstI_loc (kd : IntKind) (y : AV) (h : ∀ k ∈ ment0 y, own' k = own k) : dstI kd own' y = dstI kd own y := by
  unfold dstI
  cases y <;> try rfl
  rename_i k sz off n
  have := h k (by simp [ment0])
  simp only [this]
theorem viewV_loc (s : Nat) (y : AV) (h : ∀ k ∈ ment0 y, own' k = own k) : viewV s own' y = viewV s own y := by
  unfold viewV
  cases y <;> try rfl
  rename_i k sz off n
  have := h k (by simp [ment0])
  simp only [this]
theorem dstV_loc (s : Nat) (y : AV) (h : ∀ k ∈ ment0 y, own' k = own k) : dstV s own' y = dstV s own y := by
  unfold dstV
  cases y <;> try rfl
  rename_i k sz off n
  have := h k (by simp [ment0])
  simp only [this]
theorem rowL_loc (s : Nat) (y : AV) (h : ∀ k ∈ ment0 y, own' k = own k) : rowL s own' y = rowL s own y := by
  unfold rowL
  cases y <;> try rfl
  rename_i k sz off n
  have := h k (by simp [ment0])
  simp only [this]
theorem append_loc (ti : Nat → TI) (ix : Nat) (d d2 : TD) (x y : AV) (h : ∀ k ∈ ment0 x, own' k = own k) (h' : ∀ k ∈ ment0 y, own' k = own k) : appendA ti own' ix d d2 x y = appendA ti own ix d d2 x y := by
  unfold appendA appendE appendR
  simp only [dstI_loc _ x h, viewI_loc _ y h', dstV_loc _ x h, viewV_loc _ y h', rowL_loc _ x h, rowL_loc _ y h']
theorem copy_loc (ti : Nat → TI) (d d2 : TD) (x y : AV) (h : ∀ k ∈ ment0 x, own' k = own k) (h' : ∀ k ∈ ment0 y, own' k = own k) : copyA ti own' d d2 x y = copyA ti own d d2 x y := by
  unfold copyA copyE
  simp only [viewI_loc _ y h']
  cases x <;> try rfl
  rename_i k sz off n
  have := h k (by simp [ment0])
  simp only [this]
theorem convert_loc (ti : Nat → TI) (ix : Nat) (same : Bool) (s d : TI) (x : AV) (h : ∀ k ∈ ment0 x, own' k = own k) : convertA ti own' ix same s d x = convertA ti own ix same s d x := by
  have hv := fun kd => viewI_loc (own := own) (own' := own') kd x h
  unfold convertA
  cases x <;> first | rfl | simp only [hv] | skip
  rename_i k sz off n
  have hk := h k (by simp [ment0])
  simp only [hv, hk]
theorem pub0_loc (y : AV) (h : ∀ k ∈ ment0 y, own' k = own k) : pub0 own' y = pub0 own y := by
  by_cases hy : ∃ k sz off n, y = .os k sz off n
  · obtain ⟨k, sz, off, n, rfl⟩ := hy
    have := h k (by simp [ment0])
    unfold pub0
    simp only [this]
  · unfold pub0
    split
    · exact absurd ⟨_, _, _, _, rfl⟩ hy
    · rfl
theorem pubs_loc : ∀ (l : List AV), (∀ k ∈ mentL l, own' k = own k) → pubs own' l = pubs own l
  | [], _ => rfl
  | v :: r, h => by
    unfold pubs
    rw [pub0_loc v fun k hk => h k (by simp [mentL, hk]), pubs_loc r fun k hk => h k (by simp [mentL, hk])]
theorem pub1_loc (y : AV) (h0 : ∀ k ∈ mentP own y, own' k = own k) : pub1 own' y = pub1 own y := by
  by_cases ho : ∃ k off, y = .own k off
  case pos =>
    obtain ⟨k, off, rfl⟩ := ho
    have hk := h0 k (by simp [mentP])
    unfold pub1
    simp only [hk]
    split
    · rename_i l e
      rw [pubs_loc l fun q hq => h0 q (by simp [mentP, e, hq])]
    · rfl
  have h : ∀ k ∈ ment y, own' k = own k := fun k hk => h0 k (by
    cases y <;> first | exact hk | exact absurd ⟨_, _, rfl⟩ ho)
  by_cases hf : ∃ f l, y = .fn f l
  case pos => obtain ⟨f, l, rfl⟩ := hf; rfl
  by_cases hy : ∃ l, y = .agg l
  case neg =>
    have e : ∀ o : Nat → OB, pub1 o y = pub0 o y := fun o => by
      unfold pub1
      split
      · exact absurd ⟨_, rfl⟩ hy
      · exact absurd ⟨_, _, rfl⟩ hf
      · exact absurd ⟨_, _, rfl⟩ ho
      · rfl
    rw [e, e]
    exact pub0_loc _ fun k hk => h k (ment0_sub y k hk)
  obtain ⟨l, rfl⟩ := hy
  show (match pubs own' l with | .no => PV.no | .ok l ks p => .ok (.agg l) ks p) = _
  rw [pubs_loc l h]
  rfl
theorem pubL_loc : ∀ (l : List AV), (∀ k ∈ mentQ own l, own' k = own k) → pubL own' l = pubL own l
  | [], _ => rfl
  | v :: r, h => by
    unfold pubL
    rw [pub1_loc v fun k hk => h k (by simp [mentQ, hk]), pubL_loc r fun k hk => h k (by simp [mentQ, hk])]
theorem call_loc (con : Nat → List AV → CR) (ix : Nat) (f : FuncId) (l : List AV) (h : ∀ k ∈ mentQ own l, own' k = own k) : callA con own' ix f l = callA con own ix f l := by
  unfold callA
  rw [pubL_loc l h]
theorem builtin_loc (cx : Cx) (ix : Nat) (b : Builtin) (ts : List TypeId) (l : List AV) (h : ∀ k ∈ mentA l, own' k = own k) : builtinA cx own' ix b ts l = builtinA cx own ix b ts l := by
  unfold builtinA
  split
  · rfl
  · split
    · rename_i t u x y
      exact append_loc _ _ _ _ _ _ (fun k hk => h k (by simp [mentA, ment0_sub x k hk])) (fun k hk => h k (by simp [mentA, ment0_sub y k hk]))
    · rfl
  · split
    · rename_i t u x y
      exact copy_loc _ _ _ _ _ (fun k hk => h k (by simp [mentA, ment0_sub x k hk])) (fun k hk => h k (by simp [mentA, ment0_sub y k hk]))
    · rfl
  · rfl
  · rfl
  · rfl
  · rfl
  · rfl
  · rfl
theorem pub0_same {v : AV} (h : ∀ k ∈ ment0 v, own' k = own k) : pub0 own' v = pub0 own v := by
  unfold pub0
  cases v <;> try rfl
  rename_i k sz off n
  have := h k (by simp [ment0])
  simp only [this]
theorem pubV_same {v : AV} (h : ∀ k ∈ ment v, own' k = own k) : pubV own' v = pubV own v := by
  cases v <;> try rfl
  case os k sz off n =>
    show pub0 own' (.os k sz off n) = pub0 own (.os k sz off n)
    exact pub0_same (v := .os k sz off n) h
  case agg l =>
    show pub1 own' (.agg l) = pub1 own (.agg l)
    exact pub1_loc (.agg l) h
theorem pubPs_loc : ∀ (l : List (Nat × AV)), (∀ k ∈ mentA (l.map fun p => p.2), own' k = own k) → pubPs own' l = pubPs own l
  | [], _ => rfl
  | (i, v) :: r, h => by
    unfold pubPs
    rw [pubPs_loc r fun k hk => h k (List.mem_append_right _ hk), pubV_same fun k hk => h k (List.mem_append_left _ hk)]
theorem stp_loc (cx : Cx) (con : Nat → List AV → CR) (ρ ρr : Operand → AV) (op : Op) (ix : Nat) (h : ∀ k ∈ footOf own ρ op, own' k = own k) : stp cx con own' ρ ρr op ix = stp cx con own ρ ρr op ix := by
  cases op <;> try rfl
  case load t a => exact load_loc _ _ h
  case store t a v => exact store_loc _ _ _ h
  case slice t x lo hi mx => exact sliceN_loc _ _ _ _ _ _ h
  case convert s d x => exact convert_loc _ _ _ _ _ _ h
  case buildSlice t len parts =>
    show buildSliceA _ own' _ _ _ _ = buildSliceA _ own _ _ _ _
    unfold buildSliceA
    rw [pubPs_loc _ fun k hk => h k (by
      show k ∈ mentA (parts.toList.map fun p => ρ p.2)
      simpa [List.map_map, Function.comp_def] using hk)]
  case call c =>
    obtain ⟨callee, args, ats⟩ := c
    cases callee with
    | builtin b => exact builtin_loc _ _ _ _ _ h
    | invoke r m =>
      show (match ρ r with | .ifc t v => (match cx.mt t m with | some f => callA con own' ix f (v :: args.toList.map ρ) | none => SR.no) | _ => SR.no) = (match ρ r with | .ifc t v => (match cx.mt t m with | some f => callA con own ix f (v :: args.toList.map ρ) | none => SR.no) | _ => SR.no)
      have h' : ∀ k ∈ (match ρ r with | .ifc _ v => mentQ own (v :: args.toList.map ρ) | _ => []), own' k = own k := h
      split
      · rename_i t v hv
        simp only [hv] at h'
        split
        · exact call_loc _ _ _ _ h'
        · rfl
      · rfl
    | value f =>
      show (match ρ f with | .fn f caps => callA con own' ix f (args.toList.map ρ ++ caps) | _ => SR.no) = (match ρ f with | .fn f caps => callA con own ix f (args.toList.map ρ ++ caps) | _ => SR.no)
      have h' : ∀ k ∈ (match ρ f with | .fn _ caps => mentQ own (args.toList.map ρ ++ caps) | _ => []), own' k = own k := h
      split
      · rename_i fid caps hf
        simp only [hf] at h'
        exact call_loc _ _ _ _ h'
      · rfl
end
end Ev
end Go.Proofs.YtphdjmaebdmdmaaGreatDoor
