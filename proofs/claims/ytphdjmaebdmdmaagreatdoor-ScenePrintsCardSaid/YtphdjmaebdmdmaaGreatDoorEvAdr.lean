/- The abstract machine's addresses, slices, parts of values, conversions. -/
import Derived.Test.YtphdjmaebdmdmaaGreatDoorEvMem
namespace Go.Proofs.YtphdjmaebdmdmaaGreatDoor
open Go.RowKit
set_option linter.unusedVariables false
set_option linter.unusedSimpArgs false
namespace Ev

def mulN (i sz : Nat) : Nat := match sz with | 1 => i | _ => i * sz
theorem mulN_eq (i sz : Nat) : mulN i sz = i * sz := by unfold mulN; split <;> simp

def fieldA (fs : List (Nat × Nat)) (ti : Nat → TI) (f : Nat) (x : AV) : SR :=
  match fs[f]? with
  | none => .no
  | some (off, t) => match (ti t).d with
    | .other => .no
    | _ => match Nat.ble 1 (ti t).size with
      | false => .no
      | true => match x with
        | .own k o => sv (.own k (o + off))
        | .ref n g => svp (off ≤ n) (.ref (n - off) fun j => g (off + j))
        | _ => .no
def fieldAddrA (ti : Nat → TI) (d : TD) (f : Nat) (x : AV) : SR :=
  match d with
  | .struct fs => fieldA fs ti f x
  | _ => .no
def nilA (x : AV) : SR :=
  match x with
  | .own k o => sv (.own k o)
  | .ref n g => sv (.ref n g)
  | .fn f l => sv (.fn f l)
  | _ => .no
/-- An element's address. -/
def idxA (ti : Nat → TI) (d : TD) (x ix : AV) : SR :=
  match ix with
  | .int _ i => match d with
    | .sl e => match (ti e).d with
      | .other => .no
      | _ => match x with
        | .sl n sz g => match Nat.beq sz (ti e).size with
          | true => svp (0 ≤ i ∧ i < n) (.ref sz fun j => g (mulN i.toNat sz + j))
          | false => .no
        | .os k sz off n => match Nat.beq sz (ti e).size with
          | true => svp (0 ≤ i ∧ i < n) (.own k (off + mulN i.toNat sz))
          | false => .no
        | _ => .no
    | .arr len e => match (ti e).d with
      | .other => .no
      | _ => match x with
        | .own k off => svp (0 ≤ i ∧ i < len) (.own k (off + mulN i.toNat (ti e).size))
        | .ref N g => svp ((0 ≤ i ∧ i < len) ∧ i.toNat * (ti e).size ≤ N) (.ref (N - mulN i.toNat (ti e).size) fun j => g (mulN i.toNat (ti e).size + j))
        | _ => .no
    | _ => .no
  | _ => .no

/-- An array in a slice. -/
def arrPtrA (d : TD) (x : AV) : SR :=
  match d with
  | .arr len _ => match x with
    | .sl n sz g => svp (len ≤ n ∧ 0 < n) (.ref (mulN n sz) g)
    | .os k sz off n => svp (len ≤ n ∧ 0 < n) (.own k off)
    | _ => .no
  | _ => .no

section
variable {P : Program} {w : World} {σ : Nat → Option Nat} {Im : Nat → Prop}
theorem Rd.ref_shift {N : Nat} {g : Nat → AV} {b off : Nat} (h : Rd w σ Im (.ref N g) (.pointer (some ⟨b, off, none⟩))) {o : Nat} (ho : o ≤ N) :
    Rd w σ Im (.ref (N - o) fun j => g (o + j)) (.pointer (some ⟨b, off + o, none⟩)) := by
  obtain ⟨b', off', U, e, him, hc, h1, hr⟩ := h.inv_ref
  cases e
  exact .ref _ _ _ _ (fun j => U (o + j)) him (fun j hj => by rw [Nat.add_assoc]; exact hc _ (by omega)) (fun j hj => h1 _ (by omega)) (fun j hj => hr _ (by omega))
theorem add_addr (b off j : Nat) : (⟨b, off, none⟩ : Addr).add j = ⟨b, off + j, none⟩ := Addr.add_mid b off j

theorem fieldAddr_sound {cx : Cx} (hcx : cx.ok P) {t : Nat} (f : Nat) {a : AV} {A : Value} (ha : Rd w σ Im a A) :
    (fieldAddrA cx.ti (cx.ti t).d f a).pure fun r => Pure1 P w σ Im (Instr.fieldAt t A f) r := by
  unfold fieldAddrA
  split
  case h_2 => trivial
  rename_i fs hfs
  obtain ⟨desc, i, z, hu, hd, _⟩ := (hcx.ti t (by rw [hfs]; intro h; cases h)).ex
  rw [hfs] at hd
  obtain ⟨gs, rfl, rfl⟩ := tdOf_struct hd
  unfold fieldA
  split
  case h_1 => trivial
  rename_i off ft hf
  simp only [List.getElem?_map, Option.map_eq_some_iff] at hf
  obtain ⟨fd, hf, e⟩ := hf
  cases e
  split
  · trivial
  rename_i hne
  obtain ⟨desc', i', z', hu', hd', hi', hs', _⟩ := (hcx.ti fd.type hne).ex
  split
  · trivial
  rename_i hsz
  have hsz' : i'.size ≠ 0 := by have := Nat.le_of_ble_eq_true hsz; omega
  have hf' : gs[f]? = some fd := by simpa using hf
  have hrun : ∀ b o, (Instr.fieldAt t (.pointer (some ⟨b, o, none⟩)) f).run P w = .ok (.pointer (some ⟨b, o + fd.offset, none⟩)) w := fun b o => by
    simp [Instr.fieldAt, run_underlying hu, hf', Instr.sureAddr, fieldPlace, sizeOf, typeInfo, hi', hsz', add_addr]
  split
  case h_1 =>
    obtain ⟨b, rfl, hb⟩ := ha.inv_own
    exact ⟨rfl, rfl, fun _ => pure_of (hrun _ _) (.own _ _ _ hb)⟩
  case h_2 =>
    obtain ⟨b, off', U, rfl, _⟩ := ha.inv_ref
    exact ⟨rfl, rfl, fun h => pure_of (hrun _ _) (ha.ref_shift h)⟩
  case h_3 => trivial

theorem nil_sound {a : AV} {A : Value} (ha : Rd w σ Im a A) (o : Oper) (x : Operand) (ρ : Operand → Value) (ho : o.op = .nilCheck x) (hx : ρ x = A) :
    (nilA a).pure fun r => ∃ v, (execOp ρ o).run P w = .ok (.value v) w ∧ Rd w σ Im r v := by
  unfold nilA
  split
  case h_1 =>
    obtain ⟨b, rfl, hb⟩ := ha.inv_own
    exact ⟨rfl, rfl, fun _ => ⟨_, by unfold execOp; simp only [ho, hx]; rfl, ha⟩⟩
  case h_2 =>
    obtain ⟨b, off', U, rfl, _⟩ := ha.inv_ref
    exact ⟨rfl, rfl, fun _ => ⟨_, by unfold execOp; simp only [ho, hx]; rfl, ha⟩⟩
  case h_3 =>
    obtain ⟨cs, rfl, _⟩ := ha.inv_fn
    exact ⟨rfl, rfl, fun _ => ⟨_, by unfold execOp; simp only [ho, hx]; rfl, ha⟩⟩
  case h_4 => trivial

theorem idx_sound {cx : Cx} (hcx : cx.ok P) {t : Nat} {a c : AV} {A C : Value} (ha : Rd w σ Im a A) (hc : Rd w σ Im c C) :
    (idxA cx.ti (cx.ti t).d a c).pure fun r => Pure1 P w σ Im (Instr.indexAt t A C) r := by
  unfold idxA
  split
  case h_2 => trivial
  case h_1 kd i =>
  have := hc.inv_int
  subst this
  split
  case h_1 e he =>
    obtain ⟨desc, _, _, hu, hd, _⟩ := (hcx.ti t (by rw [he]; intro h; cases h)).ex
    rw [he] at hd
    have := tdOf_sl hd
    subst this
    split
    · trivial
    rename_i hne
    obtain ⟨_, i', _, _, _, hi', hs', _⟩ := (hcx.ti e hne).ex
    split
    case h_1 n sz g =>
      split
      case h_2 => trivial
      rename_i hsz
      have hsz := Nat.eq_of_beq_eq_true hsz
      refine ⟨rfl, rfl, fun hp => ?_⟩
      simp only [Option.getD_some] at hp
      obtain ⟨p0, p1⟩ := hp
      rcases ha.inv_sl with ⟨rfl, _⟩ | ⟨b, off, cap, U, rfl, him, h1, h2, hcc, hu1, hr⟩
      · omega
      · have hit : i.toNat < n := by omega
        have hle : i.toNat * sz + sz ≤ n * sz := by rw [← Nat.succ_mul]; exact Nat.mul_le_mul_right _ hit
        refine pure_of (v := .pointer (some ⟨b, off + i.toNat * sz, none⟩)) ?_ ?_
        · simp [Instr.indexAt, run_underlying hu, asIntOf, p0, p1, sizeOf, typeInfo, hi', hs', ← hsz, add_addr]
        · simp only [mulN_eq]
          exact .ref _ _ _ _ (fun j => U (i.toNat * sz + j)) him (fun j hj => by rw [Nat.add_assoc]; exact hcc _ (by omega)) (fun j hj => hu1 _ (by omega)) (fun j hj => hr _ (by omega))
    case h_2 k sz off n =>
      split
      case h_2 => trivial
      rename_i hsz
      have hsz := Nat.eq_of_beq_eq_true hsz
      refine ⟨rfl, rfl, fun hp => ?_⟩
      simp only [Option.getD_some] at hp
      obtain ⟨p0, p1⟩ := hp
      rcases ha.inv_os with ⟨rfl, _⟩ | ⟨b, cap, rfl, hb, _⟩
      · omega
      · refine pure_of (v := .pointer (some ⟨b, off + i.toNat * sz, none⟩)) ?_ ?_
        · simp [Instr.indexAt, run_underlying hu, asIntOf, p0, p1, sizeOf, typeInfo, hi', hs', ← hsz, add_addr]
        · simp only [mulN_eq]
          exact .own _ _ _ hb
    case h_3 => trivial
  case h_2 len e he =>
    obtain ⟨desc, _, _, hu, hd, _⟩ := (hcx.ti t (by rw [he]; intro h; cases h)).ex
    rw [he] at hd
    have := tdOf_arr hd
    subst this
    split
    · trivial
    rename_i hne
    obtain ⟨_, i', _, _, _, hi', hs', _⟩ := (hcx.ti e hne).ex
    split
    case h_1 k off =>
      refine ⟨rfl, rfl, fun hp => ?_⟩
      simp only [Option.getD_some] at hp
      obtain ⟨p0, p1⟩ := hp
      obtain ⟨b, rfl, hb⟩ := ha.inv_own
      refine pure_of (v := .pointer (some ⟨b, off + i.toNat * (cx.ti e).size, none⟩)) ?_ ?_
      · simp [Instr.indexAt, run_underlying hu, asIntOf, p0, p1, sizeOf, typeInfo, hi', hs', add_addr, Instr.sureAddr]
      · simp only [mulN_eq]
        exact .own _ _ _ hb
    case h_2 N g =>
      refine ⟨rfl, rfl, fun hp => ?_⟩
      simp only [Option.getD_some] at hp
      obtain ⟨⟨p0, p1⟩, p2⟩ := hp
      obtain ⟨b, off, U, rfl, _⟩ := ha.inv_ref
      refine pure_of (v := .pointer (some ⟨b, off + i.toNat * (cx.ti e).size, none⟩)) ?_ ?_
      · simp [Instr.indexAt, run_underlying hu, asIntOf, p0, p1, sizeOf, typeInfo, hi', hs', add_addr, Instr.sureAddr]
      · simp only [mulN_eq]
        exact ha.ref_shift p2
    case h_3 => trivial
  case h_3 => trivial
theorem arrPtr_sound {cx : Cx} (hcx : cx.ok P) {t : Nat} {x : AV} {X : Value} (hX : Rd w σ Im x X) :
    (arrPtrA (cx.ti t).d x).pure fun r => Pure1 P w σ Im (Instr.arrayAt t X) r := by
  unfold arrPtrA
  split
  case h_2 => trivial
  case h_1 len e he =>
  obtain ⟨desc, _, _, hu, hd, _⟩ := (hcx.ti t (by rw [he]; intro h; cases h)).ex
  rw [he] at hd
  have := tdOf_arr hd
  subst this
  split
  case h_1 n sz g =>
    refine ⟨rfl, rfl, fun hp => ?_⟩
    simp only [Option.getD_some] at hp
    obtain ⟨p0, p1⟩ := hp
    rcases hX.inv_sl with ⟨rfl, _⟩ | ⟨b, off, cap, U, rfl, him, h1, h2, hcc, hu1, hr⟩
    · omega
    · refine pure_of (v := .pointer (some ⟨b, off, none⟩)) ?_ ?_
      · simp [Instr.arrayAt, run_underlying hu, show ¬ n < len by omega]
      · rw [mulN_eq]; exact .ref _ _ _ _ U him hcc hu1 hr
  case h_2 k sz off n =>
    refine ⟨rfl, rfl, fun hp => ?_⟩
    simp only [Option.getD_some] at hp
    obtain ⟨p0, p1⟩ := hp
    rcases hX.inv_os with ⟨rfl, _⟩ | ⟨b, cap, rfl, hb, _⟩
    · omega
    · refine pure_of (v := .pointer (some ⟨b, off, none⟩)) ?_ (.own _ _ _ hb)
      simp [Instr.arrayAt, run_underlying hu, show ¬ n < len by omega]
  case h_3 => trivial
end
end Ev
end Go.Proofs.YtphdjmaebdmdmaaGreatDoor
