/- Scenes as text: a builder within a printer, by the machine. -/
import Derived.Test.YtphdjmaebdmdmaaGreatDoorScnA
import Derived.WalkKit
import Derived.Lib.Builder
import Derived.Lib.UnsafeStr
import Derived.Shelf.RegionOpen
import Derived.Shelf.RegionOpenPlain
import Derived.Shelf.Strconv.Itoa3
import Derived.Shelf.LaysM
import Derived.Shelf.Strings.SlTrimAscii
import Derived.Shelf.Strings.Prefix
import Derived.Shelf.Strings.Repeat
import Derived.Test.YtphdjmaebdmdmaaGreatDoorTw
import Derived.Test.YtphdjmaebdmdmaaGreatDoorScnB
import Derived.Lib.ItoaLen
namespace Go.Proofs.YtphdjmaebdmdmaaGreatDoor
open Go.RowKit Ev
set_option linter.unusedVariables false
set_option linter.unusedSimpArgs false
set_option maxRecDepth 20000
set_option maxHeartbeats 8000000

/-- Bytes, and a text behind them. -/
def catB (n : Nat) (P : Nat → Int) (s : ByteArray) : Nat → Int := catI n (some 0) P (byteAt s)
theorem enter_runs {P : Program} {f : Nat} {fn : Func} (hf : FnOk P f fn) (hb : fn.body.isSome = true) {vals : List Value} {w : World} {Φ : Value → World → Prop}
    (h : Calls P f vals.toArray w fun e w' => ∃ v, e = .returned v ∧ Φ v w') : Runs P ((callFunc f vals.toArray).run P w) Φ := by
  have e : (callFunc f vals.toArray).run P w = .ok (.enter f vals.toArray) w := by
    have hne : ¬ fn.name = "runtime.NumGoroutine" := by simpa using hf.nm
    cases hbb : fn.body with
    | none => rw [hbb] at hb; cases hb
    | some c => simp [callFunc, hf.at_, hbb, hne]
  rw [e]
  exact h
set_option maxHeartbeats 1000000 in
set_option maxRecDepth 100000 in
theorem cc_used (b : Nat) (w : World) (h0 : w.cell? ⟨b, 0, none⟩ = some (.pointer (some ⟨b, 0, none⟩))) :
    Calls Tryz.prog 78 #[.pointer (some ⟨b, 0, none⟩)] w fun e w' => e = .returned (.tuple #[]) ∧ w' = w := by
  obtain ⟨j, hj, _⟩ := Option.map_eq_some_iff.1 (show (Tryz.prog.info? 59).map (·.size) = some 2 by kernel_rfl)
  go_enter Tryz.func78, Tryz.ntmps78
  go_wp2
  rw [Lib.run_neq_ptr_same w _ Tryz.underlying56 hj]
  go_wp2
  go_end0
  exact ⟨rfl, rfl⟩
/-- The builder within a row of one's own: its pointer to itself. -/
theorem self_cell {w : World} {w0 : St0} {σ : Nat → Option Nat} {Im : Nat → Prop} {rows : List OB} {l : List AV} {r : List OB} (hS : Sat w0 w σ Im (rowsO (.row (.own 0 0 :: l) :: r))) {V : Value} (hV : Rd w σ Im (.own 0 0) V) :
    ∃ b, V = .pointer (some ⟨b, 0, none⟩) ∧ σ 0 = some b ∧ w.cell? ⟨b, 0, none⟩ = some (.pointer (some ⟨b, 0, none⟩)) := by
  obtain ⟨b, rfl, hb⟩ := hV.inv_own
  refine ⟨b, rfl, hb, ?_⟩
  obtain ⟨v, c1, _, _, c4⟩ := (held_blk hS (k := 0) trivial hb).cell (i := 0) (by show 0 < (AV.own 0 0 :: l).length; simp)
  have c4 : Rd w σ Im (.own 0 0) v := c4
  obtain ⟨b', rfl, hb'⟩ := c4.inv_own
  rw [hb] at hb'; cases hb'
  exact c1
theorem cck_f : FnOk Tryz.prog 78 Tryz.f78 := ⟨Tryz.func78, by kernel_rfl⟩
theorem cck_a (n : Nat) (P : Nat → Int) (bad : Bool) : MCalls Tryz.prog 78 ([.own 0 0]) [.row [.own 0 0, .os 1 1 0 n, .bool bad], .bts n P] (.tup []) [.row [.own 0 0, .os 1 1 0 n, .bool bad], .bts n P] := by
  intro w0 w σ Im vals hS hn ht
  obtain ⟨V, rfl, hV⟩ : ∃ V, vals = [V] ∧ Rd w σ Im (.own 0 0) V := by
    cases ht with
    | cons h t => cases t; exact ⟨_, rfl, h⟩
  obtain ⟨b, rfl, hb, h0⟩ := self_cell (rows := []) hS hV
  refine enter_runs cck_f rfl ((cc_used b w h0).mono ?_)
  rintro e w' ⟨rfl, rfl⟩
  exact ⟨_, rfl, σ, Im, .tup _ _ rfl (fun i hi => by simp at hi), hS, fun k hk _ => hn k hk, GoL.refl _ _ _ _⟩
def cck_r (n : Nat) (P : Nat → Int) (bad : Bool) : AV := .tup []
def cck_rows (n : Nat) (P : Nat → Int) (bad : Bool) : List OB := [.row [.own 0 0, .os 1 1 0 n, .bool bad], .bts n P]
def cck_rows2 (n : Nat) (P : Nat → Int) (bad : Bool) : List OB := [.row [.own 0 0, .os 1 1 0 n, .bool bad], .bts n P]
def cck_m : MCon Tryz.prog := ⟨78, fun args own => match args with | [.own k0_ 0] => (match own k0_ with | .row [.own k0_ 0, .os k1_ 1 0 n, .bool bad] => (match own k1_ with | .bts n_ P => .ok [k0_, k1_] ([.own 0 0]) (cck_rows n P bad) (some (n_ = n)) (cck_r n P bad) (cck_rows2 n P bad) | _ => .no) | _ => .no) | _ => .no, by
  intro args own ks cargs rows p r rows2 h hp
  split at h
  · split at h
    · split at h
      · cases h; subst hp; exact cck_a _ _ _
      · cases h
    · cases h
  · cases h⟩
theorem wstr_f : FnOk Tryz.prog 24 Tryz.f24 := ⟨Tryz.func24, by kernel_rfl⟩
theorem wstr_a (n : Nat) (P : Nat → Int) (bad : Bool) (s : ByteArray) (hpre : 0 < n ∧ n + s.size ≤ 1000000000000) : MCalls Tryz.prog 24 ([.own 0 0, .str s]) [.row [.own 0 0, .os 1 1 0 n, .bool bad], .bts n P] (.tup [.int .i64 s.size, .nili]) [.row [.own 0 0, .os 2 1 0 (n + s.size), .bool bad], .gone, .bts (n + s.size) (catB n P s)] := by
  refine mcallsF_of (inl := hasI (P := Tryz.prog) [] [cck_m]) (base [] [] [cck_m]) 0 wstr_f (And.intro (by kernel_rfl) ?_)
  repeat' (first | refine And.intro ?_ ?_ | (with_reducible exact ff_elim) | (with_reducible exact tf_elim) | refine' rho_mk [_] ?_ | refine num_elim ?_ | intro _ | (with_reducible rfl) | ((with_reducible refine lk_t ?_); exact rfl) | ((with_reducible refine pf_t ?_); exact rfl) | refine tell ?_ | exact True.intro | (refine IsT.of ?_; kernel_rfl))
  all_goals (try refine Tell.mk ?_)
  all_goals first | with_reducible rfl | rfl | ((with_reducible refine ks_t ?_); rfl) | exact hpre.1 | (show _ ≤ _; omega) | (show (n + s.size) * 1 ≤ _; omega) | trace_state
def wstr_p (n : Nat) (P : Nat → Int) (bad : Bool) (s : ByteArray) : Prop := 0 < n ∧ n + s.size ≤ 1000000000000
def wstr_r (n : Nat) (P : Nat → Int) (bad : Bool) (s : ByteArray) : AV := .tup [.int .i64 s.size, .nili]
def wstr_rows (n : Nat) (P : Nat → Int) (bad : Bool) (s : ByteArray) : List OB := [.row [.own 0 0, .os 1 1 0 n, .bool bad], .bts n P]
def wstr_rows2 (n : Nat) (P : Nat → Int) (bad : Bool) (s : ByteArray) : List OB := [.row [.own 0 0, .os 2 1 0 (n + s.size), .bool bad], .gone, .bts (n + s.size) (catB n P s)]
def wstr_m : MCon Tryz.prog := ⟨24, fun args own => match args with | [.own k0_ 0, .str s] => (match own k0_ with | .row [.own k0_ 0, .os k1_ 1 0 n, .bool bad] => (match own k1_ with | .bts n_ P => .ok [k0_, k1_] ([.own 0 0, .str s]) (wstr_rows n P bad s) (some (n_ = n ∧ wstr_p n P bad s)) (wstr_r n P bad s) (wstr_rows2 n P bad s) | _ => .no) | _ => .no) | _ => .no, by
  intro args own ks cargs rows p r rows2 h hp
  split at h
  · split at h
    · split at h
      · cases h; obtain ⟨rfl, hq⟩ := hp; exact wstr_a _ _ _ _ hq
      · cases h
    · cases h
  · cases h⟩
end Go.Proofs.YtphdjmaebdmdmaaGreatDoor
/- Scenes as text: what a builder holds, as a string. -/
namespace Go.Proofs.YtphdjmaebdmdmaaGreatDoor
open Go.RowKit Ev
set_option linter.unusedVariables false
set_option linter.unusedSimpArgs false
set_option maxRecDepth 20000
set_option maxHeartbeats 8000000

/-- A block that nobody knows of any more is changed. -/
theorem Sat.spoil {w0 : St0} {w w' : World} {σ : Nat → Option Nat} {Im : Nat → Prop} {own : Nat → OB} (h : Sat w0 w σ Im own) {g : Nat} (hos : w'.os = w.os) (htp : w'.tape = w.tape) (hou : w'.output = w.output) (hsz : w'.heap.size = w.heap.size) (hne : ∀ i, i ≠ g → w'.heap[i]? = w.heap[i]?)
    (hlen : blen w' g = blen w g) (hI : ¬ Im g) (hK : ¬ w0.kp g) (hL : ∀ k, (own k).live → σ k ≠ some g) : Go1 w σ Im w' σ Im ∧ Sat w0 w' σ Im own := by
  have hg : Go1 w σ Im w' σ Im := ⟨fun _ h => h, fun i hi => hne i (fun e => hI (e ▸ hi)), fun _ _ h => h, fun k' b' hk' => by
    by_cases e : b' = g
    · subst e; exact hlen
    · unfold blen; rw [hne b' e]⟩
  refine ⟨hg, ⟨⟨hos.trans h.bel.os, htp.trans h.bel.tape, hou.trans h.bel.output, by rw [hsz]; exact h.bel.size, fun i hi => (hne i (fun e => hK (e ▸ hi))).trans (h.bel.block i hi)⟩, fun i hi => by rw [hsz]; exact h.im i hi, fun k' b' hk' => by rw [hsz]; exact h.sg k' b' hk', ?_, h.inj, h.imB, h.sgB⟩⟩
  intro k' hk'
  rcases h.held k' hk' with h1 | ⟨b', h1, h2, h3, h4⟩
  · exact .inl h1
  · exact .inr ⟨b', h1, h2, h3, h4.mono (hne b' (fun e => hL k' hk' (e ▸ h1))) fun i v hv => hv.mono (hg.sg' _)⟩
theorem freeze_any (w : World) (a : Addr) (n : Nat) : (w.freeze a n).os = w.os ∧ (w.freeze a n).tape = w.tape ∧ (w.freeze a n).output = w.output ∧ (w.freeze a n).heap.size = w.heap.size ∧ (∀ i, i ≠ a.block → (w.freeze a n).heap[i]? = w.heap[i]?) ∧ blen (w.freeze a n) a.block = blen w a.block := by
  unfold World.freeze
  split
  · exact ⟨rfl, rfl, rfl, rfl, fun _ _ => rfl, rfl⟩
  · refine ⟨rfl, rfl, rfl, by simp, fun i hi => ?_, ?_⟩
    · simp only [Array.getElem?_modify]
      rw [if_neg (fun e => hi e.symm)]
    · unfold blen
      simp only [Array.getElem?_modify, if_true]
      cases w.heap[a.block]? with
      | none => rfl
      | some o =>
        cases o <;> simp
/-- Bytes out of numbers. -/
def bysL (n : Nat) (P : Nat → Int) : List UInt8 := (List.range n).map fun j => UInt8.ofNat (P j).toNat
theorem bysL_len (n : Nat) (P : Nat → Int) : (bysL n P).length = n := by unfold bysL; simp
theorem bysL_get {n : Nat} {P : Nat → Int} (hP : ∀ j, 0 ≤ P j ∧ P j < 256) {j : Nat} {x : UInt8} (h : (bysL n P)[j]? = some x) : j < n ∧ P j = x.toNat := by
  unfold bysL at h
  rw [List.getElem?_map] at h
  have hj : j < n := by
    rcases Nat.lt_or_ge j n with q | q
    · exact q
    · rw [List.getElem?_eq_none (by simpa using q)] at h; cases h
  rw [List.getElem?_range hj] at h
  simp only [Option.map_some, Option.some.injEq] at h
  have := hP j
  refine ⟨hj, ?_⟩
  rw [← h]
  simp
  omega
set_option maxHeartbeats 4000000 in
set_option maxRecDepth 100000 in
theorem str_c (b g n cap N : Nat) (P : Nat → Int) (hP : ∀ j, 0 ≤ P j ∧ P j < 256) (w : World) (h0 : 0 < n) (hc : n ≤ cap) (hm : cap ≤ maxLen) (hN : n ≤ N) (c1 : w.cell? ⟨b, 1, none⟩ = some (.slice (some ⟨g, 0, none⟩) n cap)) (hsh : w.shape? g = some (5, N)) (hcl : ∀ j, j < n → w.cell? ⟨g, j, none⟩ = some (.int .u8 (P j))) :
    Calls Tryz.prog 34 #[.pointer (some ⟨b, 0, none⟩)] w fun e w' => e = .returned (.string ⟨(bysL n P).toArray⟩) ∧ w' = w.drew.freeze ⟨g, 0, none⟩ n := by
  have c2 : w.drew.cell? ⟨b, 1, none⟩ = some (.slice (some ⟨g, 0, none⟩) n cap) := c1
  have hSD : (Builtin.unsafeSliceData_ #[57] 128 #[.slice (some ⟨g, 0, none⟩) n cap]).run Tryz.prog w.drew = .ok (.pointer (some ⟨g, 0, none⟩)) w.drew :=
    Lib.run_unsafeSliceData_row _ _ _ _ _ _ (by omega)
  have hUS : (Builtin.unsafeString_ #[128, 3] 9 #[.pointer (some ⟨g, 0, none⟩), .int .i64 n]).run Tryz.prog w.drew = .ok (.string ⟨(bysL n P).toArray⟩) (w.drew.freeze ⟨g, 0, none⟩ n) := by
    have := Lib.run_unsafeString_row w.drew 128 3 9 5 Tryz.underlying128 (by kernel_rfl) g N hsh (bysL n P) (by intro h; have := congrArg List.length h; rw [bysL_len] at this; simp at this; omega) (by rw [bysL_len]; exact hN) (by rw [bysL_len]; unfold maxLen at hm; omega) (fun j x hx => by
      obtain ⟨h1, h2⟩ := bysL_get hP hx
      rw [Ev.add_addr, Nat.zero_add, ← h2]
      exact hcl j h1)
    rw [bysL_len] at this
    exact this
  have mixed : Tryz.prog.follows .mixedOrders = true := by kernel_rfl
  go_enter Tryz.func34, Tryz.ntmps34
  go_wp2
  go_region_o
  all_goals (go_wp2; go_ret; exact ⟨rfl, rfl⟩)
theorem bstr_f : FnOk Tryz.prog 34 Tryz.f34 := ⟨Tryz.func34, by kernel_rfl⟩
theorem bstr_a (n : Nat) (P : Nat → Int) (bad : Bool) (hpre : 0 < n ∧ ∀ j, 0 ≤ P j ∧ P j < 256) : MCalls Tryz.prog 34 ([.own 0 0]) [.row [.own 0 0, .os 1 1 0 n, .bool bad], .bts n P] (.str ⟨(bysL n P).toArray⟩) [.row [.own 0 0, .any, .bool bad], .gone] := by
  obtain ⟨h0, hP⟩ := hpre
  intro w0 w σ Im vals hS hn ht
  obtain ⟨V, rfl, hV⟩ : ∃ V, vals = [V] ∧ Rd w σ Im (.own 0 0) V := by
    cases ht with
    | cons h t => cases t; exact ⟨_, rfl, h⟩
  obtain ⟨b, rfl, hb, hself⟩ := self_cell (rows := []) hS hV
  obtain ⟨v, c1, _, _, c4⟩ := (held_blk hS (k := 0) trivial hb).cell (i := 1) (by show 1 < 3; decide)
  have c4 : Rd w σ Im (.os 1 1 0 n) v := c4
  rcases c4.inv_os with ⟨e0, _⟩ | ⟨g, cap, rfl, hg, k1, k2, k3⟩
  · omega
  have hB := held_blk hS (k := 1) trivial hg
  obtain ⟨z1, ⟨z2, z3⟩, z4⟩ := hB
  have z1 : n ≤ blen w g := z1
  obtain ⟨cs, t, lo, hi, hh⟩ : ∃ cs t lo hi, w.heap[g]? = some (.cells cs t (lo, hi)) := by
    unfold blen at z1
    cases hh : w.heap[g]? with
    | none => rw [hh] at z1; simp at z1; omega
    | some o =>
      cases o with
      | cells cs t fr => exact ⟨cs, t, fr.1, fr.2, rfl⟩
      | _ => rw [hh] at z1; simp at z1; omega
  have ht' : t = 5 := (z3 cs t lo hi hh).2 u8T rfl
  subst ht'
  have hbl := blen_cells hh
  have hsh : w.shape? g = some (5, cs.size) := by unfold World.shape?; rw [hh]
  have hcl : ∀ j, j < n → w.cell? ⟨g, j, none⟩ = some (.int .u8 (P j)) := fun j hj => by
    obtain ⟨u, u1, _, u3⟩ := z4 j hj
    have u3 : Rd w σ Im (.int .u8 (P j)) u := u3
    rw [u1, u3.inv_int]
  obtain ⟨hIg, hKg⟩ : ¬ Im g ∧ ¬ w0.kp g := by
    rcases hS.held 1 trivial with ⟨q, _⟩ | ⟨b', q1, q2, q3, _⟩
    · have q : n = 0 := q
      omega
    · rw [hg] at q1; cases q1; exact ⟨q2, q3⟩
  have hne01 : b ≠ g := fun e => by
    have := hS.inj 0 1 g trivial trivial (e ▸ hb) hg
    omega
  refine enter_runs bstr_f rfl ((str_c b g n cap cs.size P hP w h0 k1 k2 (by omega) c1 hsh hcl).mono ?_)
  rintro e w' ⟨rfl, rfl⟩
  obtain ⟨f1, f2, f3, f4, f5, f6⟩ := freeze_any w.drew ⟨g, 0, none⟩ n
  have hS2 : Sat w0 w.drew σ Im (rowsO [.row [.own 0 0, .any, .bool bad], .gone]) := by
    have hd := (hS.go (w' := w.drew) (Im' := Im) ((Below.refl _ _).drew) (fun _ h => h) (fun _ h => .inl h)).2
    refine ⟨hd.bel, hd.im, hd.sg, fun k hk => ?_, fun i j c hi hj ei ej => ?_, hd.imB, hd.sgB⟩
    · rcases k with _ | _ | k
      · rcases hd.held 0 trivial with q | ⟨b', q1, q2, q3, q4⟩
        · exact .inl q
        · refine .inr ⟨b', q1, q2, q3, ?_⟩
          obtain ⟨y1, y2, y3⟩ := q4
          refine ⟨y1, y2, fun i hi => ?_⟩
          obtain ⟨u, u1, u2, u3⟩ := y3 i hi
          refine ⟨u, u1, u2, ?_⟩
          match i, hi with
          | 0, _ => exact u3
          | 1, _ => exact .any _
          | 2, _ => exact u3
      · exact hk.elim
      · exact hk.elim
    · rcases i with _ | _ | i
      · rcases j with _ | _ | j
        · rfl
        · exact hj.elim
        · exact hj.elim
      · exact hi.elim
      · exact hi.elim
  obtain ⟨g1, g2⟩ := Sat.spoil hS2 (w' := w.drew.freeze ⟨g, 0, none⟩ n) (g := g) f1 f2 f3 f4 f5 f6 hIg hKg (fun k hk e => by
    rcases k with _ | _ | k
    · rw [hb] at e; cases e; exact hne01 rfl
    · exact hk.elim
    · exact hk.elim)
  have g0 : Go1 w σ Im w.drew σ Im := ⟨fun _ h => h, fun _ _ => rfl, fun _ _ h => h, fun _ _ _ => rfl⟩
  exact ⟨_, rfl, σ, Im, .str _, g2, fun k hk _ => hn k hk, (g0.trans g1).low _⟩
def bstr_p (n : Nat) (P : Nat → Int) (bad : Bool) : Prop := 0 < n ∧ ∀ j, 0 ≤ P j ∧ P j < 256
def bstr_r (n : Nat) (P : Nat → Int) (bad : Bool) : AV := .str ⟨(bysL n P).toArray⟩
def bstr_rows (n : Nat) (P : Nat → Int) (bad : Bool) : List OB := [.row [.own 0 0, .os 1 1 0 n, .bool bad], .bts n P]
def bstr_rows2 (n : Nat) (P : Nat → Int) (bad : Bool) : List OB := [.row [.own 0 0, .any, .bool bad], .gone]
def bstr_m : MCon Tryz.prog := ⟨34, fun args own => match args with | [.own k0_ 0] => (match own k0_ with | .row [.own k0_ 0, .os k1_ 1 0 n, .bool bad] => (match own k1_ with | .bts n_ P => .ok [k0_, k1_] ([.own 0 0]) (bstr_rows n P bad) (some (n_ = n ∧ bstr_p n P bad)) (bstr_r n P bad) (bstr_rows2 n P bad) | _ => .no) | _ => .no) | _ => .no, by
  intro args own ks cargs rows p r rows2 h hp
  split at h
  · split at h
    · split at h
      · cases h; obtain ⟨rfl, hq⟩ := hp; exact bstr_a _ _ _ hq
      · cases h
    · cases h
  · cases h⟩
end Go.Proofs.YtphdjmaebdmdmaaGreatDoor
/- Contracts of the library, laid (by the shelf's own tools, in plain words). -/
namespace Go.Proofs.YtphdjmaebdmdmaaGreatDoor
open Go.Shelf Go.Proofs
def lays162_ren : Go.Shelf.Ren := ⟨fun | 162 => 136 | 232 => 178 | 227 => 179 | 234 => 180 | 236 => 181 | 228 => 211 | 271 => 212 | 151 => 102 | 120 => 229 | 197 => 230 | 152 => 148 | 260 => 240 | 137 => 192 | 119 => 193 | 224 => 194 | 225 => 195 | 217 => 220 | 266 => 233 | n => n, fun | 9 => 9 | 4 => 4 | 3 => 3 | 5 => 5 | 117 => 200 | 116 => 199 | 0 => 0 | 124 => 203 | 21 => 21 | 105 => 233 | 46 => 193 | 119 => 256 | 139 => 259 | 138 => 258 | n => n, fun | 3 => 7 | 4 => 8 | n => n⟩
theorem lays162 : Go.Proofs.Lays.n162 Tryz.prog lays162_ren := {
  mixed := by kernel_rfl
  f119 := Tryz.func193.trans (congrArg some (by kernel_rfl))
  f120 := Tryz.func229.trans (congrArg some (by kernel_rfl))
  f137 := Tryz.func192.trans (congrArg some (by kernel_rfl))
  f151 := Tryz.func102.trans (congrArg some (by kernel_rfl))
  f152 := Tryz.func148.trans (congrArg some (by kernel_rfl))
  f162 := Tryz.func136.trans (congrArg some (by kernel_rfl))
  f197 := Tryz.func230.trans (congrArg some (by kernel_rfl))
  f217 := Tryz.func220.trans (congrArg some (by kernel_rfl))
  f224 := Tryz.func194.trans (congrArg some (by kernel_rfl))
  f225 := Tryz.func195.trans (congrArg some (by kernel_rfl))
  f227 := Tryz.func179.trans (congrArg some (by kernel_rfl))
  f228 := Tryz.func211.trans (congrArg some (by kernel_rfl))
  f232 := Tryz.func178.trans (congrArg some (by kernel_rfl))
  f234 := Tryz.func180.trans (congrArg some (by kernel_rfl))
  f236 := Tryz.func181.trans (congrArg some (by kernel_rfl))
  f260 := Tryz.func240.trans (congrArg some (by kernel_rfl))
  f266 := Tryz.func233.trans (congrArg some (by kernel_rfl))
  f271 := Tryz.func212.trans (congrArg some (by kernel_rfl))
  t0 := Tryz.underlying0
  a0 := Tryz.isAgg0
  z0 := Tryz.sizeOf0
  v0 := Tryz.zeroValue0
  t3 := Tryz.underlying3
  a3 := Tryz.isAgg3
  z3 := Tryz.sizeOf3
  v3 := Tryz.zeroValue3
  t4 := Tryz.underlying4
  a4 := Tryz.isAgg4
  z4 := Tryz.sizeOf4
  v4 := Tryz.zeroValue4
  t5 := Tryz.underlying5
  a5 := Tryz.isAgg5
  z5 := Tryz.sizeOf5
  v5 := Tryz.zeroValue5
  t9 := Tryz.underlying9
  a9 := Tryz.isAgg9
  z9 := Tryz.sizeOf9
  v9 := Tryz.zeroValue9
  t21 := Tryz.underlying21
  a21 := Tryz.isAgg21
  z21 := Tryz.sizeOf21
  v21 := Tryz.zeroValue21
  t46 := Tryz.underlying193
  a46 := Tryz.isAgg193
  z46 := Tryz.sizeOf193
  v46 := Tryz.zeroValue193
  t105 := Tryz.underlying233
  a105 := Tryz.isAgg233
  z105 := Tryz.sizeOf233
  v105 := Tryz.zeroValue233
  t116 := Tryz.underlying199
  a116 := Tryz.isAgg199
  z116 := Tryz.sizeOf199
  t117 := Tryz.underlying200
  a117 := Tryz.isAgg200
  z117 := Tryz.sizeOf200
  v117 := Tryz.zeroValue200
  t119 := Tryz.underlying256
  a119 := Tryz.isAgg256
  z119 := Tryz.sizeOf256
  t124 := Tryz.underlying203
  a124 := Tryz.isAgg203
  z124 := Tryz.sizeOf203
  v124 := Tryz.zeroValue203
  t138 := Tryz.underlying258
  a138 := Tryz.isAgg258
  z138 := Tryz.sizeOf258
  v138 := Tryz.zeroValue258
  t139 := Tryz.underlying259
  a139 := Tryz.isAgg259
  z139 := Tryz.sizeOf259
  v139 := Tryz.zeroValue259
  g3 := by kernel_rfl
  g4 := by kernel_rfl }
open Go.RowKit in
theorem strings_TrimRight_one (s : ByteArray) (c : UInt8) (hc : c.toNat < 128) (w : World) (hs : s.size ≤ 9223372036854775807) :
    Calls Tryz.prog 136 #[.string s, .string ⟨#[c]⟩] w fun e w' => e = .returned (.string ⟨(Lib.trimRightB s.data.toList c).toArray⟩) ∧ w' = w := Any.strings_TrimRight_one lays162 s c hc w hs
def laysM171_ren : Go.Shelf.Ren := ⟨fun | 171 => 28 | 243 => 80 | 246 => 137 | 283 => 182 | 284 => 183 | 285 => 184 | 286 => 185 | 129 => 214 | 317 => 213 | 318 => 215 | 319 => 216 | 320 => 217 | 337 => 231 | 338 => 232 | n => n, fun | 3 => 3 | 9 => 9 | 2 => 2 | 4 => 4 | 171 => 204 | 0 => 0 | 53 => 205 | 37 => 57 | 5 => 5 | 173 => 208 | 212 => 236 | 51 => 227 | 20 => 20 | 213 => 237 | 46 => 193 | 232 => 248 | 233 => 249 | n => n, fun | 17 => 1 | 18 => 3 | 19 => 4 | n => n⟩
theorem laysM171 : Go.Proofs.LaysM.n171 Tryz.prog laysM171_ren := {
  mixed := by kernel_rfl
  f129 := Tryz.func214.trans (congrArg some (by kernel_rfl))
  f171 := Tryz.func28.trans (congrArg some (by kernel_rfl))
  f243 := Tryz.func80.trans (congrArg some (by kernel_rfl))
  f246 := Tryz.func137.trans (congrArg some (by kernel_rfl))
  f283 := Tryz.func182.trans (congrArg some (by kernel_rfl))
  f284 := Tryz.func183.trans (congrArg some (by kernel_rfl))
  f285 := Tryz.func184.trans (congrArg some (by kernel_rfl))
  f286 := Tryz.func185.trans (congrArg some (by kernel_rfl))
  f317 := Tryz.func213.trans (congrArg some (by kernel_rfl))
  f318 := Tryz.func215.trans (congrArg some (by kernel_rfl))
  f319 := Tryz.func216.trans (congrArg some (by kernel_rfl))
  f320 := Tryz.func217.trans (congrArg some (by kernel_rfl))
  f337 := Tryz.func231.trans (congrArg some (by kernel_rfl))
  f338 := Tryz.func232.trans (congrArg some (by kernel_rfl))
  t0 := Tryz.underlying0
  a0 := Tryz.isAgg0
  z0 := Tryz.sizeOf0
  v0 := Tryz.zeroValue0
  t2 := Tryz.underlying2
  a2 := Tryz.isAgg2
  z2 := Tryz.sizeOf2
  v2 := Tryz.zeroValue2
  t3 := Tryz.underlying3
  a3 := Tryz.isAgg3
  z3 := Tryz.sizeOf3
  v3 := Tryz.zeroValue3
  t4 := Tryz.underlying4
  a4 := Tryz.isAgg4
  z4 := Tryz.sizeOf4
  v4 := Tryz.zeroValue4
  t5 := Tryz.underlying5
  a5 := Tryz.isAgg5
  z5 := Tryz.sizeOf5
  v5 := Tryz.zeroValue5
  t9 := Tryz.underlying9
  a9 := Tryz.isAgg9
  z9 := Tryz.sizeOf9
  v9 := Tryz.zeroValue9
  t20 := Tryz.underlying20
  a20 := Tryz.isAgg20
  z20 := Tryz.sizeOf20
  v20 := Tryz.zeroValue20
  t37 := Tryz.underlying57
  a37 := Tryz.isAgg57
  z37 := Tryz.sizeOf57
  v37 := Tryz.zeroValue57
  t46 := Tryz.underlying193
  a46 := Tryz.isAgg193
  z46 := Tryz.sizeOf193
  v46 := Tryz.zeroValue193
  t51 := Tryz.underlying227
  a51 := Tryz.isAgg227
  z51 := Tryz.sizeOf227
  v51 := Tryz.zeroValue227
  t53 := Tryz.underlying205
  a53 := Tryz.isAgg205
  z53 := Tryz.sizeOf205
  v53 := Tryz.zeroValue205
  t171 := Tryz.underlying204
  a171 := Tryz.isAgg204
  z171 := Tryz.sizeOf204
  v171 := Tryz.zeroValue204
  t173 := Tryz.underlying208
  a173 := Tryz.isAgg208
  z173 := Tryz.sizeOf208
  v173 := Tryz.zeroValue208
  t212 := Tryz.underlying236
  a212 := Tryz.isAgg236
  z212 := Tryz.sizeOf236
  v212 := Tryz.zeroValue236
  t213 := Tryz.underlying237
  a213 := Tryz.isAgg237
  z213 := Tryz.sizeOf237
  t232 := Tryz.underlying248
  a232 := Tryz.isAgg248
  z232 := Tryz.sizeOf248
  v232 := Tryz.zeroValue248
  t233 := Tryz.underlying249
  a233 := Tryz.isAgg249
  z233 := Tryz.sizeOf249
  v233 := Tryz.zeroValue249
  g17 := by kernel_rfl
  g18 := by kernel_rfl
  g19 := by kernel_rfl
  i0 := by kernel_rfl
  i2 := by kernel_rfl
  i3 := by kernel_rfl
  i4 := by kernel_rfl
  i5 := by kernel_rfl
  i9 := by kernel_rfl
  i20 := by kernel_rfl
  i37 := by kernel_rfl
  i46 := by kernel_rfl
  i51 := by kernel_rfl
  i53 := by kernel_rfl
  i171 := by kernel_rfl
  i173 := by kernel_rfl
  i212 := by kernel_rfl
  i232 := by kernel_rfl
  i233 := by kernel_rfl
  m17 := by kernel_rfl
  m18 := by kernel_rfl
  m19 := by kernel_rfl }
open Go.RowKit Go.Sort Go.Lib in
theorem strconv_Itoa (n : Int) (h0 : -9223372036854775808 ≤ n) (h1 : n ≤ 9223372036854775807) (w : World) (htab : Lib.TabIs Tryz.prog w "internal/strconv.uint64pow10" .u64 Lib.pow10Tab) :
    Calls Tryz.prog 28 #[.int .i64 n] w fun e w' => e = .returned (.string ⟨(Lib.itoa n).toArray⟩) ∧ ∃ k os, w' = grow (w.drewN k) os := Any.strconv_Itoa laysM171 n h0 h1 w htab
def lays102_ren : Go.Shelf.Ren := ⟨fun | 102 => 135 | 209 => 177 | 207 => 210 | n => n, fun | 9 => 9 | 4 => 4 | 3 => 3 | n => n, fun | n => n⟩
theorem lays102 : Go.Proofs.Lays.n102 Tryz.prog lays102_ren := {
  mixed := by kernel_rfl
  f102 := Tryz.func135.trans (congrArg some (by kernel_rfl))
  f207 := Tryz.func210.trans (congrArg some (by kernel_rfl))
  f209 := Tryz.func177.trans (congrArg some (by kernel_rfl))
  t3 := Tryz.underlying3
  a3 := Tryz.isAgg3
  z3 := Tryz.sizeOf3
  v3 := Tryz.zeroValue3
  t4 := Tryz.underlying4
  a4 := Tryz.isAgg4
  z4 := Tryz.sizeOf4
  v4 := Tryz.zeroValue4
  t9 := Tryz.underlying9
  a9 := Tryz.isAgg9
  z9 := Tryz.sizeOf9
  v9 := Tryz.zeroValue9 }
open Go.RowKit Go.Lib in
theorem strings_TrimSuffix (s p : ByteArray) (w : World) (hs : s.size ≤ 9223372036854775807) :
    Calls Tryz.prog 135 #[.string s, .string p] w fun e w' => e = .returned (.string ⟨(Lib.trimSuffix s.data.toList p.data.toList).toArray⟩) ∧ w' = w := Any.strings_TrimSuffix lays102 s p w hs
def lays105_ren : Go.Shelf.Ren := ⟨fun | 105 => 134 | 212 => 173 | 99 => 174 | 165 => 175 | 166 => 24 | 170 => 176 | 169 => 34 | 263 => 206 | 264 => 207 | 206 => 208 | 240 => 78 | 241 => 209 | 276 => 133 | 277 => 228 | n => n, fun | 9 => 9 | 3 => 3 | 4 => 4 | 20 => 20 | 0 => 0 | 46 => 193 | 109 => 194 | 5 => 5 | 72 => 59 | 76 => 64 | 51 => 227 | 146 => 228 | 53 => 205 | 148 => 230 | 70 => 56 | 37 => 57 | 75 => 63 | 127 => 128 | 164 => 158 | 80 => 83 | n => n, fun | n => n⟩
theorem lays105 : Go.Proofs.Lays.n105 Tryz.prog lays105_ren := {
  mixed := by kernel_rfl
  f99 := Tryz.func174.trans (congrArg some (by kernel_rfl))
  f105 := Tryz.func134.trans (congrArg some (by kernel_rfl))
  f165 := Tryz.func175.trans (congrArg some (by kernel_rfl))
  f166 := Tryz.func24.trans (congrArg some (by kernel_rfl))
  f169 := Tryz.func34.trans (congrArg some (by kernel_rfl))
  f170 := Tryz.func176.trans (congrArg some (by kernel_rfl))
  f206 := Tryz.func208.trans (congrArg some (by kernel_rfl))
  f212 := Tryz.func173.trans (congrArg some (by kernel_rfl))
  f240 := Tryz.func78.trans (congrArg some (by kernel_rfl))
  f241 := Tryz.func209.trans (congrArg some (by kernel_rfl))
  f263 := Tryz.func206.trans (congrArg some (by kernel_rfl))
  f264 := Tryz.func207.trans (congrArg some (by kernel_rfl))
  f276 := Tryz.func133.trans (congrArg some (by kernel_rfl))
  f277 := Tryz.func228.trans (congrArg some (by kernel_rfl))
  t0 := Tryz.underlying0
  a0 := Tryz.isAgg0
  z0 := Tryz.sizeOf0
  v0 := Tryz.zeroValue0
  t3 := Tryz.underlying3
  a3 := Tryz.isAgg3
  z3 := Tryz.sizeOf3
  v3 := Tryz.zeroValue3
  t4 := Tryz.underlying4
  a4 := Tryz.isAgg4
  z4 := Tryz.sizeOf4
  v4 := Tryz.zeroValue4
  t5 := Tryz.underlying5
  a5 := Tryz.isAgg5
  z5 := Tryz.sizeOf5
  v5 := Tryz.zeroValue5
  t9 := Tryz.underlying9
  a9 := Tryz.isAgg9
  z9 := Tryz.sizeOf9
  v9 := Tryz.zeroValue9
  t20 := Tryz.underlying20
  a20 := Tryz.isAgg20
  z20 := Tryz.sizeOf20
  v20 := Tryz.zeroValue20
  t37 := Tryz.underlying57
  a37 := Tryz.isAgg57
  z37 := Tryz.sizeOf57
  v37 := Tryz.zeroValue57
  t46 := Tryz.underlying193
  a46 := Tryz.isAgg193
  z46 := Tryz.sizeOf193
  v46 := Tryz.zeroValue193
  t51 := Tryz.underlying227
  a51 := Tryz.isAgg227
  z51 := Tryz.sizeOf227
  v51 := Tryz.zeroValue227
  t53 := Tryz.underlying205
  a53 := Tryz.isAgg205
  z53 := Tryz.sizeOf205
  v53 := Tryz.zeroValue205
  t70 := Tryz.underlying56
  a70 := Tryz.isAgg56
  z70 := Tryz.sizeOf56
  v70 := Tryz.zeroValue56
  t72 := Tryz.underlying59
  a72 := Tryz.isAgg59
  z72 := Tryz.sizeOf59
  v72 := Tryz.zeroValue59
  t75 := Tryz.underlying63
  a75 := Tryz.isAgg63
  z75 := Tryz.sizeOf63
  v75 := Tryz.zeroValue63
  t76 := Tryz.underlying64
  a76 := Tryz.isAgg64
  z76 := Tryz.sizeOf64
  v76 := Tryz.zeroValue64
  t109 := Tryz.underlying194
  a109 := Tryz.isAgg194
  z109 := Tryz.sizeOf194
  v109 := Tryz.zeroValue194
  t127 := Tryz.underlying128
  a127 := Tryz.isAgg128
  z127 := Tryz.sizeOf128
  v127 := Tryz.zeroValue128
  t146 := Tryz.underlying228
  a146 := Tryz.isAgg228
  z146 := Tryz.sizeOf228
  v146 := Tryz.zeroValue228
  t148 := Tryz.underlying230
  a148 := Tryz.isAgg230
  z148 := Tryz.sizeOf230
  v148 := Tryz.zeroValue230
  t164 := Tryz.underlying158
  a164 := Tryz.isAgg158
  z164 := Tryz.sizeOf158
  v164 := Tryz.zeroValue158 }
theorem Builder_Extra_105 : Builder.Extra Tryz.prog lays105_ren := {
  sizeBuilder := by kernel_rfl
  liesBuilder := by kernel_rfl
  t5 := Tryz.underlying5
  a5 := Tryz.isAgg5
  z5 := Tryz.sizeOf5
  v5 := Tryz.zeroValue5
  infoByte := by kernel_rfl
  cellsByte := by kernel_rfl
  sizeByte := by kernel_rfl
  neB5 := by decide }
open Go.RowKit Go.Lib in
theorem strings_Repeat (s : ByteArray) (c : Nat) (w : World) (hc : c ≤ 9223372036854775807) (hlen : s.size * c ≤ 140737488355328) :
    Calls Tryz.prog 134 #[.string s, .int .i64 c] w fun e w' => e = .returned (.string ⟨(Lib.repeatL s.data.toList c).toArray⟩) ∧ Below w.heap.size w w' := Any.strings_Repeat lays105 Builder_Extra_105 s c w hc hlen
end Go.Proofs.YtphdjmaebdmdmaaGreatDoor
/- Scenes as text: the library's contracts as the machine's own; whole numbers as text. -/
namespace Go.Proofs.YtphdjmaebdmdmaaGreatDoor
open Go.RowKit Ev
set_option linter.unusedVariables false
set_option linter.unusedSimpArgs false
set_option maxRecDepth 20000
set_option maxHeartbeats 8000000

theorem grow_bel (w : World) (k : Nat) (os : Array Obj) : Below w.heap.size w (Go.Sort.grow (w.drewN k) os) := by
  refine ⟨rfl, rfl, rfl, ?_, fun b hb => ?_⟩
  · show w.heap.size ≤ (w.heap ++ os).size
    simp
  · show (w.heap ++ os)[b]? = w.heap[b]?
    rw [Array.getElem?_append_left hb]
theorem one_of {w : World} {σ : Nat → Option Nat} {Im : Nat → Prop} {a : AV} {vals : List Value} (h : Two (Rd w σ Im) [a] vals) : ∃ V, vals = [V] ∧ Rd w σ Im a V := by
  cases h with
  | cons h t => cases t; exact ⟨_, rfl, h⟩
theorem two_of {w : World} {σ : Nat → Option Nat} {Im : Nat → Prop} {a b : AV} {vals : List Value} (h : Two (Rd w σ Im) [a, b] vals) : ∃ V U, vals = [V, U] ∧ Rd w σ Im a V ∧ Rd w σ Im b U := by
  cases h with
  | cons h t => cases t with | cons h2 t => cases t; exact ⟨_, _, rfl, h, h2⟩
/-- A string of bytes. -/
def bz (l : List UInt8) : ByteArray := ⟨l.toArray⟩
theorem bz_list (l : List UInt8) : (bz l).data.toList = l := by show l.toArray.toList = l; simp
theorem bz_size (l : List UInt8) : (bz l).size = l.length := by show l.toArray.size = _; simp
theorem bz_of (s : ByteArray) : bz s.data.toList = s := by cases s; simp [bz]
theorem bz_app (a b : List UInt8) : bz a ++ bz b = bz (a ++ b) := by
  rw [← bz_of (bz a ++ bz b), ByteArray.data_append, Array.toList_append, bz_list, bz_list]
/-- A whole number as text. -/
@[irreducible] def itL (n : Int) : List UInt8 := Lib.itoa n
theorem itoa_f : FnOk Tryz.prog 28 Tryz.f28 := ⟨Tryz.func28, by kernel_rfl⟩
theorem itoa_a (n : Int) (hpre : -9223372036854775808 ≤ n ∧ n ≤ 9223372036854775807) : ACalls Tryz.prog 28 [.int .i64 n] (.str (bz (itL n))) := by
  obtain ⟨h0, h1⟩ := hpre
  intro w Im vals hIm ht htw
  obtain ⟨V, rfl, hV⟩ := one_of ht
  rw [hV.inv_int]
  refine enter_runs itoa_f rfl ((strconv_Itoa n h0 h1 w htw).mono ?_)
  rintro e w' ⟨rfl, k, os, rfl⟩
  refine ⟨_, rfl, grow_bel w k os, ?_⟩
  unfold itL
  exact .str _
def itoa_k : Con Tryz.prog := ⟨28, fun args => match args with | [.int .i64 n] => .ok (some (-9223372036854775808 ≤ n ∧ n ≤ 9223372036854775807)) (.str (bz (itL n))) | _ => .no, by
  intro args p r h hp
  split at h
  · cases h; exact itoa_a _ hp
  · cases h⟩
theorem repeat0_f : FnOk Tryz.prog 134 Tryz.f134 := ⟨Tryz.func134, by kernel_rfl⟩
theorem repeat0_a (s : ByteArray) (c : Int) (hpre : 0 ≤ c ∧ c ≤ 1000 ∧ s.size ≤ 1000) : ACalls Tryz.prog 134 [.str s, .int .i64 c] (.str (bz (Lib.repeatL s.data.toList c.toNat))) := by
  obtain ⟨h0, h1, h2⟩ := hpre
  obtain ⟨k, rfl⟩ : ∃ k : Nat, c = k := ⟨c.toNat, by omega⟩
  intro w Im vals hIm ht htw
  obtain ⟨V, U, rfl, hV, hU⟩ := two_of ht
  rw [hV.inv_str, hU.inv_int]
  have hm : s.size * k ≤ 1000 * 1000 := Nat.mul_le_mul h2 (by omega)
  refine enter_runs repeat0_f rfl ((strings_Repeat s k w (by omega) (by omega)).mono ?_)
  rintro e w' ⟨rfl, hB⟩
  exact ⟨_, rfl, hB, .str _⟩
def repeat0_k : Con Tryz.prog := ⟨134, fun args => match args with | [.str s, .int .i64 c] => .ok (some (0 ≤ c ∧ c ≤ 1000 ∧ s.size ≤ 1000)) (.str (bz (Lib.repeatL s.data.toList c.toNat))) | _ => .no, by
  intro args p r h hp
  split at h
  · cases h; exact repeat0_a _ _ hp
  · cases h⟩
theorem trimR_f : FnOk Tryz.prog 136 Tryz.f136 := ⟨Tryz.func136, by kernel_rfl⟩
theorem trimR_a (s c : ByteArray) (hpre : c = ⟨#[48]⟩ ∧ s.size ≤ 1000000) : ACalls Tryz.prog 136 [.str s, .str c] (.str (bz (Lib.trimRightB s.data.toList 48))) := by
  obtain ⟨rfl, h1⟩ := hpre
  intro w Im vals hIm ht htw
  obtain ⟨V, U, rfl, hV, hU⟩ := two_of ht
  rw [hV.inv_str, hU.inv_str]
  refine enter_runs trimR_f rfl ((strings_TrimRight_one s 48 (by decide) w (by omega)).mono ?_)
  rintro e w' ⟨rfl, rfl⟩
  exact ⟨_, rfl, Below.refl _ _, .str _⟩
def trimR_k : Con Tryz.prog := ⟨136, fun args => match args with | [.str s, .str c] => .ok (some (c = ⟨#[48]⟩ ∧ s.size ≤ 1000000)) (.str (bz (Lib.trimRightB s.data.toList 48))) | _ => .no, by
  intro args p r h hp
  split at h
  · cases h; exact trimR_a _ _ hp
  · cases h⟩
theorem trimS_f : FnOk Tryz.prog 135 Tryz.f135 := ⟨Tryz.func135, by kernel_rfl⟩
theorem trimS_a (s p : ByteArray) (hpre : s.size ≤ 1000000) : ACalls Tryz.prog 135 [.str s, .str p] (.str (bz (Lib.trimSuffix s.data.toList p.data.toList))) := by
  intro w Im vals hIm ht htw
  obtain ⟨V, U, rfl, hV, hU⟩ := two_of ht
  rw [hV.inv_str, hU.inv_str]
  refine enter_runs trimS_f rfl ((strings_TrimSuffix s p w (by omega)).mono ?_)
  rintro e w' ⟨rfl, rfl⟩
  exact ⟨_, rfl, Below.refl _ _, .str _⟩
def trimS_k : Con Tryz.prog := ⟨135, fun args => match args with | [.str s, .str p] => .ok (some (s.size ≤ 1000000)) (.str (bz (Lib.trimSuffix s.data.toList p.data.toList))) | _ => .no, by
  intro args p r h hp
  split at h
  · cases h; exact trimS_a _ _ hp
  · cases h⟩
end Go.Proofs.YtphdjmaebdmdmaaGreatDoor
/- Scenes as text: thousandths. -/
namespace Go.Proofs.YtphdjmaebdmdmaaGreatDoor
open Go.RowKit Ev Flt Ieee
set_option linter.unusedVariables false
set_option linter.unusedSimpArgs false
set_option maxRecDepth 20000
set_option maxHeartbeats 8000000

theorem iv_1' : Iv 4607182418800017408 1 := by
  have := iv_near (z := 1) (by omega)
  rwa [show cn (FloatKind.f64.nearest 1) = 4607182418800017408 by decide +kernel] at this
theorem halfQ : Q 4602678819172646912 1 := by
  have f : Flt.Fin 4602678819172646912 := ⟨false, 4503599627370496, -53, by decide +kernel⟩
  have h1 : flt 4602678819172646912 4607182418800017408 = true := by decide +kernel
  have h2 : flt 0 4602678819172646912 = true := by decide +kernel
  rw [flt_V f iv_1'.fin, decide_eq_true_eq] at h1
  rw [flt_V Fin_0 f, V_0, decide_eq_true_eq] at h2
  have e1 : val 4607182418800017408 = 1 := by rw [iv_1'.eq]; rfl
  have l := val_le (Int.le_of_lt h1)
  have p := val_pos_U (Int.le_of_lt h2)
  rw [e1] at l
  refine ⟨f, ?_⟩
  unfold Bd
  constructor <;> grind
/-- A number cut off. -/
def tzF (y : Nat) : Int := ((FloatKind.f64.decode y).toInt .zero).getD 0
theorem tz_def (y : Nat) : ((FloatKind.f64.decode y).toInt .zero).getD 0 = tzF y := rfl
def upF (x : Nat) : Nat := F .add (F .mul x 4652007308841189376) 4602678819172646912
theorem up_def (x : Nat) : F .add (F .mul x 4652007308841189376) 4602678819172646912 = upF x := rfl
def rgB (x : Nat) : Bool := (fgt x 13875379345695965184 || feq x 13875379345695965184) && (flt x 4652007308841189376 || feq x 4652007308841189376)
theorem rg_def (x : Nat) : ((fgt x 13875379345695965184 || feq x 13875379345695965184) && (flt x 4652007308841189376 || feq x 4652007308841189376)) = rgB x := rfl
theorem rg_num {x : Nat} (h : rgB x = true) : isN x = false ∧ key 13875379345695965184 ≤ key x ∧ key x ≤ key 4652007308841189376 := by
  have hx : isN x = false := by
    cases hn : isN x with
    | false => rfl
    | true =>
      obtain ⟨a, b, c⟩ := flt_nan (y := 13875379345695965184) hn
      unfold rgB at h
      rw [c, b] at h; cases h
  refine ⟨hx, ?_⟩
  unfold rgB at h
  rw [fgt_key hx (by decide +kernel), feq_key hx (by decide +kernel), flt_key hx (by decide +kernel), feq_key hx (by decide +kernel)] at h
  simp only [Bool.and_eq_true, Bool.or_eq_true, decide_eq_true_eq] at h
  omega
theorem near_key {x : Nat} (hx : isN x = false) (h1 : key 13875379345695965184 ≤ key x) (h2 : key x ≤ key 4652007308841189376) : nearB x = true := by
  have a1 : key 13920209183539462144 < key 13875379345695965184 := by decide +kernel
  have a2 : key 4652007308841189376 < key 4696837146684686336 := by decide +kernel
  unfold nearB
  rw [fgt_key hx (by decide +kernel), feq_key hx (by decide +kernel), flt_key hx (by decide +kernel), feq_key hx (by decide +kernel)]
  simp only [Bool.and_eq_true, Bool.or_eq_true, decide_eq_true_eq]
  omega
theorem rg_near {x : Nat} (h : rgB x = true) : nearB x = true ∧ nearB (Fneg x) = true := by
  obtain ⟨hx, h1, h2⟩ := rg_num h
  obtain ⟨g1, g2⟩ := key_Fneg hx
  have e : key 13875379345695965184 = - key 4652007308841189376 := by decide +kernel
  exact ⟨near_key hx h1 h2, near_key g1 (by omega) (by omega)⟩
theorem up_tz {x : Nat} (h : nearB x = true) : ∃ z, (FloatKind.f64.decode (upF x)).toInt .zero = some z ∧ -2000000000 ≤ z ∧ z ≤ 2000000000 := by
  have q1 := near_Q h
  have qk : Q 4652007308841189376 1000 := by
    have := nI_Q (i := 1000) (M := 1000) ⟨by omega, by omega⟩ (by omega)
    rwa [show cn (FloatKind.f64.nearest 1000) = 4652007308841189376 by decide +kernel] at this
  have q2 := (q1.mul qk (by grind)).add halfQ (by grind)
  exact trunc_some (M := 2000000000) (q2.le (by grind)) (by omega)
/-- How many thousandths. -/
@[irreducible] def tnI (x : Nat) : Int := if flt x 0 = true then -(tzF (upF (Fneg x))) else tzF (upF x)
theorem tn_neg {x : Nat} (hr : rgB x = true) (h : flt x 0 = true) : IntKind.i64.wrap (0 - tzF (upF (Fneg x))) = tnI x := by
  obtain ⟨z, hz, h1, h2⟩ := up_tz (rg_near hr).2
  have e : tzF (upF (Fneg x)) = z := by unfold tzF; rw [hz]; rfl
  unfold tnI
  rw [if_pos h, e, wrapI (by omega) (by omega)]; omega
theorem tn_pos {x : Nat} (h : flt x 0 = false) : tzF (upF x) = tnI x := by
  unfold tnI; rw [if_neg (by rw [h]; decide)]
theorem tn_bd {x : Nat} (hr : rgB x = true) : -2000000000 ≤ tnI x ∧ tnI x ≤ 2000000000 := by
  unfold tnI
  split
  · obtain ⟨z, hz, h1, h2⟩ := up_tz (rg_near hr).2
    have e : tzF (upF (Fneg x)) = z := by unfold tzF; rw [hz]; rfl
    omega
  · obtain ⟨z, hz, h1, h2⟩ := up_tz (rg_near hr).1
    have e : tzF (upF x) = z := by unfold tzF; rw [hz]; rfl
    omega
def milF (n : Int) : Nat := F .quo (cn (FloatKind.f64.nearest n)) 4652007308841189376
theorem mil_def (n : Int) : F .quo (cn (FloatKind.f64.nearest n)) 4652007308841189376 = milF n := rfl
@[irreducible] def mxF (n : Int) : Int := if -n > n then -n else n
theorem mx_bd {n : Int} (h : -2000000000 ≤ n ∧ n ≤ 2000000000) : 0 ≤ mxF n ∧ mxF n ≤ 2000000000 := by unfold mxF; split <;> omega
theorem mx_def {n : Int} (h : -2000000000 ≤ n ∧ n ≤ 2000000000) : (if IntKind.i64.wrap (0 - n) > n then IntKind.i64.wrap (0 - n) else n) = mxF n := by
  unfold mxF
  rw [wrapI (by omega) (by omega), Int.zero_sub]
theorem it_len {n : Int} (h : -9223372036854775808 ≤ n ∧ n ≤ 9223372036854775807) : (bz (itL n)).size ≤ 21 := by
  rw [bz_size]; unfold itL; exact Lib.itoa_length_le n h.1 h.2
def decM (n : Nat) : List UInt8 := if n < 10 then [UInt8.ofNat (48 + n)] else if n < 100 then [UInt8.ofNat (48 + n / 10), UInt8.ofNat (48 + n % 10)] else [UInt8.ofNat (48 + n / 100), UInt8.ofNat (48 + n / 10 % 10), UInt8.ofNat (48 + n % 10)]
theorem decM_lib {n : Nat} (h : n < 1000) : Lib.decDigits n = decM n := by
  unfold decM
  rw [Lib.decDigits]
  by_cases a : n < 10
  · rw [dif_pos a, if_pos a]
  · rw [dif_neg a, if_neg a, Lib.decDigits]
    by_cases b : n < 100
    · rw [dif_pos (by omega), if_pos b]; rfl
    · rw [dif_neg (by omega), if_neg b, Lib.decDigits, dif_pos (by omega), Nat.div_div_eq_div_mul]; rfl
theorem it_len3 {n : Int} (h : 0 ≤ n ∧ n < 1000) : (itL n).length ≤ 3 := by
  unfold itL Lib.itoa
  rw [if_neg (by omega), decM_lib (by omega)]
  unfold decM
  split
  · simp
  · split
    · simp
    · simp
theorem trR_le (l : List UInt8) (c : UInt8) : (Lib.trimRightB l c).length ≤ l.length := by
  unfold Lib.trimRightB
  rw [List.length_reverse]
  have := (List.dropWhile_sublist (l := l.reverse) (p := (· == c))).length_le
  rwa [List.length_reverse] at this
theorem rep_len (k : Nat) : (Lib.repeatL [48] k).length = k := by
  induction k with
  | zero => rfl
  | succ k ih => show ([48] ++ Lib.repeatL [48] k).length = _; rw [List.length_append, ih]; simp; omega
theorem sz_list (s : ByteArray) : s.data.toList.length = s.size := (Lib.size_eq s).symm
/-- Thousandths as text. -/
def fmX (m : Int) : ByteArray := bz (itL (m.tdiv 1000)) ++ ⟨#[46]⟩ ++ bz (Lib.repeatL [48] (3 - ((bz (itL (m.tmod 1000))).size : Int)).toNat) ++ bz (itL (m.tmod 1000))
def fmT (m : Int) : ByteArray := bz (Lib.trimRightB (fmX m).data.toList 48)
def fmtS (m : Int) : ByteArray := bz (Lib.trimSuffix (fmT m).data.toList [46])
theorem fmX_def (m : Int) : bz (itL (m.tdiv 1000)) ++ ⟨#[46]⟩ ++ bz (Lib.repeatL [48] (3 - ((bz (itL (m.tmod 1000))).size : Int)).toNat) ++ bz (itL (m.tmod 1000)) = fmX m := rfl
theorem fmT_def (m : Int) : bz (Lib.trimRightB (fmX m).data.toList 48) = fmT m := rfl
theorem fmS_def (m : Int) : bz (Lib.trimSuffix (fmT m).data.toList [46]) = fmtS m := rfl
structure FmB (m : Int) : Prop where
  q0 : 0 ≤ m.tdiv 1000 ∧ m.tdiv 1000 ≤ 2000000
  d0 : 0 ≤ m.tmod 1000 ∧ m.tmod 1000 < 1000
  wq : IntKind.i64.wrap (m.tdiv 1000) = m.tdiv 1000
  sq : (bz (itL (m.tdiv 1000))).size ≤ 21
  sd : (bz (itL (m.tmod 1000))).size ≤ 3
  w3 : IntKind.i64.wrap (3 - ((bz (itL (m.tmod 1000))).size : Int)) = 3 - ((bz (itL (m.tmod 1000))).size : Int)
  sr : (bz (Lib.repeatL [48] (3 - ((bz (itL (m.tmod 1000))).size : Int)).toNat)).size ≤ 3
  s2 : (bz (itL (m.tdiv 1000)) ++ ⟨#[46]⟩).size ≤ 22
  s3 : (bz (itL (m.tdiv 1000)) ++ ⟨#[46]⟩ ++ bz (Lib.repeatL [48] (3 - ((bz (itL (m.tmod 1000))).size : Int)).toNat)).size ≤ 25
  sX : (fmX m).size ≤ 28
  sT : (fmT m).size ≤ 28
  sS : (fmtS m).size ≤ 28
theorem fm_b {m : Int} (h : 0 ≤ m ∧ m ≤ 2000000000) : FmB m := by
  have e1 : m.tmod 1000 = m % 1000 := Int.tmod_eq_emod_of_nonneg h.1
  have e2 : m.tdiv 1000 = m / 1000 := Int.tdiv_eq_ediv_of_nonneg h.1
  have q0 : 0 ≤ m.tdiv 1000 ∧ m.tdiv 1000 ≤ 2000000 := by rw [e2]; omega
  have d0 : 0 ≤ m.tmod 1000 ∧ m.tmod 1000 < 1000 := by rw [e1]; omega
  have sq : (bz (itL (m.tdiv 1000))).size ≤ 21 := it_len ⟨by omega, by omega⟩
  have sd : (bz (itL (m.tmod 1000))).size ≤ 3 := by rw [bz_size]; exact it_len3 d0
  have sr : (bz (Lib.repeatL [48] (3 - ((bz (itL (m.tmod 1000))).size : Int)).toNat)).size ≤ 3 := by rw [bz_size, rep_len]; omega
  have s2 : (bz (itL (m.tdiv 1000)) ++ ⟨#[46]⟩).size ≤ 22 := by rw [ByteArray.size_append]; show _ + 1 ≤ _; omega
  have s3 : (bz (itL (m.tdiv 1000)) ++ ⟨#[46]⟩ ++ bz (Lib.repeatL [48] (3 - ((bz (itL (m.tmod 1000))).size : Int)).toNat)).size ≤ 25 := by rw [ByteArray.size_append]; omega
  have sX : (fmX m).size ≤ 28 := by unfold fmX; rw [ByteArray.size_append]; omega
  have sT : (fmT m).size ≤ 28 := by unfold fmT; rw [bz_size]; have := trR_le (fmX m).data.toList 48; rw [sz_list] at this; omega
  have sS : (fmtS m).size ≤ 28 := by unfold fmtS; rw [bz_size]; have := Lib.trimSuffix_le (fmT m).data.toList [46]; rw [sz_list] at this; omega
  exact ⟨q0, d0, wrapI (by omega) (by omega), sq, sd, wrapI (by omega) (by omega), sr, s2, s3, sX, sT, sS⟩
@[irreducible] def thB (x : Nat) : Bool := rgB x && feq (milF (tnI x)) x
@[irreducible] def thS (x : Nat) : ByteArray := if thB x = true then (if tnI x < 0 then ⟨#[45]⟩ ++ fmtS (mxF (tnI x)) else fmtS (mxF (tnI x))) else ⟨#[]⟩
theorem thou_f : FnOk Tryz.prog 79 Tryz.f79 := ⟨Tryz.func79, by kernel_rfl⟩
theorem thou_a (x : Nat) : ACalls Tryz.prog 79 [.flt x] (.tup [.str (thS x), .bool (thB x)]) := by
  refine acalls_of (inl := hasI (P := Tryz.prog) [⟨29, Tryz.f29, Tryz.func29, by kernel_rfl⟩] []) (base [itoa_k, repeat0_k, trimR_k, trimS_k] [⟨29, Tryz.f29, Tryz.func29, by kernel_rfl⟩] []) 4 thou_f (And.intro (by kernel_rfl) ?_)
  repeat' (first | refine And.intro ?_ ?_ | (with_reducible exact ff_elim) | (with_reducible exact tf_elim) | refine num_elim ?_ | intro _ | (with_reducible rfl) | ((with_reducible refine lk_t ?_); exact rfl) | ((with_reducible refine pf_t ?_); exact rfl) | refine tell ?_ | exact True.intro | (refine IsT.of ?_; kernel_rfl))
  all_goals (try refine Tell.mk ?_)
  all_goals first | with_reducible rfl | with_reducible assumption | ((with_reducible refine okF_t ?_); kernel_rfl) | (with_reducible refine gb_t ?_; with_reducible assumption) | (with_reducible refine gb_f ?_; with_reducible assumption) | (exfalso; omega) | skip
  all_goals (try simp only [tz_def, up_def, mil_def, rg_def, decide_eq_true_eq, decide_eq_false_iff_not] at *)
  all_goals first | (have hr : rgB x = false := (by have := (by assumption : (!rgB x) = true); simpa using this); unfold thB; rw [hr]; rfl) | (have hr : rgB x = false := (by have := (by assumption : (!rgB x) = true); simpa using this); unfold thS thB; rw [hr]; rfl) | skip
  all_goals (have hr : rgB x = true := (by have := (by assumption : (!rgB x) = false); simpa using this))
  all_goals first | (obtain ⟨z, hz, h1, h2⟩ := up_tz (rg_near hr).1; exact ⟨z, hz, by show (-9223372036854775808 : Int) ≤ z; omega, by show z ≤ 9223372036854775807; omega⟩) | (obtain ⟨z, hz, h1, h2⟩ := up_tz (rg_near hr).2; exact ⟨z, hz, by show (-9223372036854775808 : Int) ≤ z; omega, by show z ≤ 9223372036854775807; omega⟩) | skip
  all_goals (have hbd := tn_bd hr; have hmb := mx_bd hbd; obtain ⟨q0, d0, wq, sq, sd, w3, sr, s2, s3, sX, sT, sS⟩ := fm_b hmb)
  all_goals first | (have h0 : flt x 0 = true := (by assumption); simp only [tn_neg hr h0, mx_def hbd, wq, w3, fmX_def, fmT_def, fmS_def] at *) | (have h0 : flt x 0 = false := (by assumption); simp only [tn_pos h0, mx_def hbd, wq, w3, fmX_def, fmT_def, fmS_def] at *)
  all_goals first | omega | (show _ ≤ _; omega) | (show (1 : Nat) + _ ≤ _; omega) | (show _ + (1 : Nat) ≤ _; omega) | (show (1 : Nat) ≤ 1000; decide) | skip
  all_goals first | (have hf : feq (milF (tnI x)) x = false := (by have := (by assumption : (!feq (milF (tnI x)) x) = true); simpa using this); first | (unfold thB; rw [hr, hf]; rfl) | (unfold thS thB; rw [hr, hf]; rfl)) | (have hf : feq (milF (tnI x)) x = true := (by have := (by assumption : (!feq (milF (tnI x)) x) = false); simpa using this); have hB : thB x = true := (by unfold thB; rw [hr, hf]; rfl); first | exact hB | (unfold thS; rw [if_pos hB, if_pos (of_decide_eq_true (by assumption))]; done) | (unfold thS; rw [if_pos hB, if_neg (of_decide_eq_false (by assumption))]; done)) | trace_state
def thou_k : Con Tryz.prog := ⟨79, fun args => match args with | [.flt x] => .ok (none) (.tup [.str (thS x), .bool (thB x)]) | _ => .no, by
  intro args p r h hp
  split at h
  · cases h; exact thou_a _
  · cases h⟩
end Go.Proofs.YtphdjmaebdmdmaaGreatDoor
/- Scenes as text: the printer's numbers. -/
namespace Go.Proofs.YtphdjmaebdmdmaaGreatDoor
open Go.RowKit Ev
set_option linter.unusedVariables false
set_option linter.unusedSimpArgs false
set_option maxRecDepth 20000
set_option maxHeartbeats 8000000

theorem catB_app (n : Nat) (P : Nat → Int) (s t : ByteArray) : catB (n + s.size) (catB n P s) t = catB n P (s ++ t) := by
  funext j
  show (if j < n + s.size then (if j < n then P j else byteAt s (j - n)) else byteAt t (j - (n + s.size))) = (if j < n then P j else byteAt (s ++ t) (j - n))
  by_cases h1 : j < n
  · rw [if_pos (by omega), if_pos h1, if_pos h1]
  · rw [if_neg h1]
    by_cases h2 : j < n + s.size
    · rw [if_pos h2, if_neg h1]
      unfold byteAt
      rw [ByteArray.data_append, Array.getElem?_append_left (by show j - n < s.size; omega)]
    · rw [if_neg h2, if_neg h1]
      unfold byteAt
      rw [ByteArray.data_append, Array.getElem?_append_right (by show s.size ≤ j - n; omega)]
      have e : j - (n + s.size) = j - n - s.data.size := by show _ = j - n - s.size; omega
      rw [e]
theorem catB_app2 {n k : Nat} {P : Nat → Int} {s t : ByteArray} (h : k = n + s.size) : catB k (catB n P s) t = catB n P (s ++ t) := by rw [h, catB_app]
theorem thS_sz (x : Nat) : (thS x).size ≤ 29 := by
  unfold thS
  split
  · rename_i h
    have hr : rgB x = true := by
      unfold thB at h
      rw [Bool.and_eq_true] at h
      exact h.1
    have hS := (fm_b (mx_bd (tn_bd hr))).sS
    split
    · rw [ByteArray.size_append]; show 1 + _ ≤ _; omega
    · omega
  · show 0 ≤ _; omega
/-- A number, a blank ahead. -/
@[irreducible] def nmS (x : Nat) : ByteArray := ⟨#[32]⟩ ++ thS x
theorem nm_def (x : Nat) : ⟨#[32]⟩ ++ thS x = nmS x := by unfold nmS; rfl
theorem nm_sz (x : Nat) : (nmS x).size ≤ 30 := by
  have := thS_sz x
  unfold nmS
  rw [ByteArray.size_append]; show 1 + _ ≤ _; omega
theorem pnum_f : FnOk Tryz.prog 26 Tryz.f26 := ⟨Tryz.func26, by kernel_rfl⟩
theorem pnum_a (n : Nat) (P : Nat → Int) (bad : Bool) (x : Nat) (hpre : 0 < n ∧ n ≤ 900000000000) : MCalls Tryz.prog 26 ([.own 0 0, .flt x]) [.row [.own 0 0, .os 1 1 0 n, .bool bad], .bts n P] (.tup []) [.row [.own 0 0, .os 2 1 0 (n + (nmS x).size), .bool (bad || !thB x)], .gone, .bts (n + (nmS x).size) (catB n P (nmS x))] := by
  refine mcallsF_of (inl := hasI (P := Tryz.prog) [] [wstr_m]) (base [thou_k] [] [wstr_m]) 0 pnum_f (And.intro (by kernel_rfl) ?_)
  have hz := nm_sz x
  have hs := thS_sz x
  repeat' (first | refine And.intro ?_ ?_ | (with_reducible exact ff_elim) | (with_reducible exact tf_elim) | refine' rho_mk [_] ?_ | refine num_elim ?_ | intro _ | (with_reducible rfl) | ((with_reducible refine lk_t ?_); exact rfl) | ((with_reducible refine pf_t ?_); exact rfl) | refine tell ?_ | exact True.intro | (refine IsT.of ?_; kernel_rfl))
  all_goals (try refine Tell.mk ?_)
  all_goals first | with_reducible rfl | with_reducible assumption | (with_reducible refine gb_t ?_; with_reducible assumption) | (with_reducible refine gb_f ?_; with_reducible assumption) | ((with_reducible refine ks_t ?_); rfl) | ((with_reducible refine okF_t ?_); kernel_rfl) | (show 0 < _; omega) | skip
  all_goals (try dsimp only at *)
  all_goals (try simp only [nm_def, catB_app, ByteArray.size_append, ByteArray.append_assoc, Nat.add_assoc, Bool.or_assoc] at *)
  all_goals first | with_reducible rfl | rfl | omega | (rw [catB_app2 (by simp only [ByteArray.size_append])]; simp only [ByteArray.append_assoc]; done) | skip
  all_goals first | (show (1 : Nat) + _ ≤ _; omega) | (show n + ((1 : Nat) + _) ≤ _; omega) | trace_state
def pnum_p (n : Nat) (P : Nat → Int) (bad : Bool) (x : Nat) : Prop := 0 < n ∧ n ≤ 900000000000
def pnum_r (n : Nat) (P : Nat → Int) (bad : Bool) (x : Nat) : AV := .tup []
def pnum_rows (n : Nat) (P : Nat → Int) (bad : Bool) (x : Nat) : List OB := [.row [.own 0 0, .os 1 1 0 n, .bool bad], .bts n P]
def pnum_rows2 (n : Nat) (P : Nat → Int) (bad : Bool) (x : Nat) : List OB := [.row [.own 0 0, .os 2 1 0 (n + (nmS x).size), .bool (bad || !thB x)], .gone, .bts (n + (nmS x).size) (catB n P (nmS x))]
def pnum_m : MCon Tryz.prog := ⟨26, fun args own => match args with | [.own k0_ 0, .flt x] => (match own k0_ with | .row [.own k0_ 0, .os k1_ 1 0 n, .bool bad] => (match own k1_ with | .bts n_ P => .ok [k0_, k1_] ([.own 0 0, .flt x]) (pnum_rows n P bad x) (some (n_ = n ∧ pnum_p n P bad x)) (pnum_r n P bad x) (pnum_rows2 n P bad x) | _ => .no) | _ => .no) | _ => .no, by
  intro args own ks cargs rows p r rows2 h hp
  split at h
  · split at h
    · split at h
      · cases h; obtain ⟨rfl, hq⟩ := hp; exact pnum_a _ _ _ _ hq
      · cases h
    · cases h
  · cases h⟩
theorem pvec_f : FnOk Tryz.prog 25 Tryz.f25 := ⟨Tryz.func25, by kernel_rfl⟩
theorem pvec_a (n : Nat) (P : Nat → Int) (bad : Bool) (x y z : Nat) (hpre : 0 < n ∧ n ≤ 800000000000) : MCalls Tryz.prog 25 ([.own 0 0, .agg [.flt x, .flt y, .flt z]]) [.row [.own 0 0, .os 1 1 0 n, .bool bad], .bts n P] (.tup []) [.row [.own 0 0, .os 2 1 0 (n + (nmS x ++ nmS y ++ nmS z).size), .bool (bad || !thB x || !thB y || !thB z)], .gone, .bts (n + (nmS x ++ nmS y ++ nmS z).size) (catB n P (nmS x ++ nmS y ++ nmS z))] := by
  refine mcallsF_of (inl := hasI (P := Tryz.prog) [] [pnum_m]) (base [] [] [pnum_m]) 0 pvec_f (And.intro (by kernel_rfl) ?_)
  have hx := nm_sz x
  have hy := nm_sz y
  have hz := nm_sz z
  repeat' (first | refine And.intro ?_ ?_ | (with_reducible exact ff_elim) | (with_reducible exact tf_elim) | refine' rho_mk [_] ?_ | refine num_elim ?_ | intro _ | (with_reducible rfl) | ((with_reducible refine lk_t ?_); exact rfl) | ((with_reducible refine pf_t ?_); exact rfl) | refine tell ?_ | exact True.intro | (refine IsT.of ?_; kernel_rfl))
  all_goals (try refine Tell.mk ?_)
  all_goals first | with_reducible rfl | with_reducible assumption | (with_reducible refine gb_t ?_; with_reducible assumption) | (with_reducible refine gb_f ?_; with_reducible assumption) | ((with_reducible refine ks_t ?_); rfl) | ((with_reducible refine okF_t ?_); kernel_rfl) | (show 0 < _; omega) | skip
  all_goals (try dsimp only at *)
  all_goals (try simp only [nm_def, catB_app, ByteArray.size_append, ByteArray.append_assoc, Nat.add_assoc, Bool.or_assoc] at *)
  all_goals first | with_reducible rfl | rfl | omega | (rw [catB_app2 (by simp only [ByteArray.size_append])]; simp only [ByteArray.append_assoc]; done) | skip
def pvec_p (n : Nat) (P : Nat → Int) (bad : Bool) (x y z : Nat) : Prop := 0 < n ∧ n ≤ 800000000000
def pvec_r (n : Nat) (P : Nat → Int) (bad : Bool) (x y z : Nat) : AV := .tup []
def pvec_rows (n : Nat) (P : Nat → Int) (bad : Bool) (x y z : Nat) : List OB := [.row [.own 0 0, .os 1 1 0 n, .bool bad], .bts n P]
def pvec_rows2 (n : Nat) (P : Nat → Int) (bad : Bool) (x y z : Nat) : List OB := [.row [.own 0 0, .os 2 1 0 (n + (nmS x ++ nmS y ++ nmS z).size), .bool (bad || !thB x || !thB y || !thB z)], .gone, .bts (n + (nmS x ++ nmS y ++ nmS z).size) (catB n P (nmS x ++ nmS y ++ nmS z))]
def pvec_m : MCon Tryz.prog := ⟨25, fun args own => match args with | [.own k0_ 0, .agg [.flt x, .flt y, .flt z]] => (match own k0_ with | .row [.own k0_ 0, .os k1_ 1 0 n, .bool bad] => (match own k1_ with | .bts n_ P => .ok [k0_, k1_] ([.own 0 0, .agg [.flt x, .flt y, .flt z]]) (pvec_rows n P bad x y z) (some (n_ = n ∧ pvec_p n P bad x y z)) (pvec_r n P bad x y z) (pvec_rows2 n P bad x y z) | _ => .no) | _ => .no) | _ => .no, by
  intro args own ks cargs rows p r rows2 h hp
  split at h
  · split at h
    · split at h
      · cases h; obtain ⟨rfl, hq⟩ := hp; exact pvec_a _ _ _ _ _ _ hq
      · cases h
    · cases h
  · cases h⟩
end Go.Proofs.YtphdjmaebdmdmaaGreatDoor
/- Scenes as text: the document's digits. -/
namespace Go.Proofs.YtphdjmaebdmdmaaGreatDoor
open Go.RowKit Ev
set_option linter.unusedVariables false
set_option linter.unusedSimpArgs false
set_option maxRecDepth 20000
set_option maxHeartbeats 8000000

theorem itL_one {n : Int} (h : 0 ≤ n ∧ n < 10) : itL n = [UInt8.ofNat (48 + n.toNat)] := by
  unfold itL Lib.itoa
  rw [if_neg (by omega), Lib.decDigits, dif_pos (by omega)]
theorem itL_rec {n : Int} (h : 10 ≤ n) : itL n = itL (n.tdiv 10) ++ [UInt8.ofNat (48 + (n.tmod 10).toNat)] := by
  have e1 : n.tdiv 10 = n / 10 := Int.tdiv_eq_ediv_of_nonneg (by omega)
  have e2 : n.tmod 10 = n % 10 := Int.tmod_eq_emod_of_nonneg (by omega)
  rw [e1, e2]
  unfold itL Lib.itoa
  rw [if_neg (by omega), if_neg (by omega), Lib.decDigits, dif_neg (by omega)]
  rw [show (n / 10).toNat = n.toNat / 10 by omega, show (n % 10).toNat = n.toNat % 10 by omega]
theorem strI_bz {n : Nat} {P : Nat → Int} {l : List UInt8} (h : (List.range n).map (fun j => UInt8.ofNat (P j).toNat) = l) : strI n P = bz l := by
  have e : (strI n P).data.toList = (List.range n).map fun j => UInt8.ofNat (P j).toNat := by
    show (((((List.range n).map P).map fun n => UInt8.ofNat n.toNat).toArray)).toList = _
    simp
  rw [← bz_of (strI n P), e, h]
theorem strI_digZ {k : Int} (h : 0 ≤ k ∧ k < 10) : (strI 1 fun x => IntKind.u8.wrap (IntKind.i64.wrap (48 + k))) = bz [UInt8.ofNat (48 + k.toNat)] := by
  refine strI_bz ?_
  have e : (IntKind.u8.wrap (IntKind.i64.wrap (48 + k))).toNat = 48 + k.toNat := by
    rw [wrapI (by omega) (by omega), wrapU8 (by omega) (by omega)]; omega
  show [UInt8.ofNat (IntKind.u8.wrap (IntKind.i64.wrap (48 + k))).toNat] = _
  rw [e]
def DecTo (B : Int) : Prop := ∀ n, 0 ≤ n → n < B → ACalls Tryz.prog 23 [.int .i64 n] (.str (bz (itL n)))
def decC (B : Int) (h : DecTo B) : Con Tryz.prog := ⟨23, fun args => match args with | [.int .i64 n] => .ok (some (0 ≤ n ∧ n < B)) (.str (bz (itL n))) | _ => .no, by
  intro args p r h' hp
  split at h'
  · cases h'; exact h _ hp.1 hp.2
  · cases h'⟩
theorem decStp_f : FnOk Tryz.prog 23 Tryz.f23 := ⟨Tryz.func23, by kernel_rfl⟩
theorem decStp_a (B : Int) (h : DecTo B) (n : Int) (hpre : 0 ≤ n ∧ (n < 10 ∨ n < 10 * B) ∧ n ≤ 1000000000000) : ACalls Tryz.prog 23 [.int .i64 n] (.str (bz (itL n))) := by
  refine acalls_of (inl := hasI (P := Tryz.prog) [] []) (base [(decC B h)] [] []) 0 decStp_f (And.intro (by kernel_rfl) ?_)
  obtain ⟨h0, h1, h2⟩ := hpre
  repeat' (first | refine And.intro ?_ ?_ | (with_reducible exact ff_elim) | (with_reducible exact tf_elim) | refine num_elim ?_ | intro _ | (with_reducible rfl) | ((with_reducible refine lk_t ?_); exact rfl) | ((with_reducible refine pf_t ?_); exact rfl) | refine tell ?_ | exact True.intro | (refine IsT.of ?_; kernel_rfl))
  all_goals (try exact (1 : Nat))
  all_goals (try refine Tell.mk ?_)
  all_goals (try dsimp only at *)
  all_goals first | with_reducible rfl | with_reducible assumption | (with_reducible refine gb_t ?_; with_reducible assumption) | (with_reducible refine gb_f ?_; with_reducible assumption) | skip
  all_goals (try simp only [decide_eq_true_eq, decide_eq_false_iff_not, avInt_int] at *)
  all_goals first | omega | (exfalso; omega) | skip
  all_goals first | (have h10 : 10 ≤ n := (by omega); have e1 : n.tdiv 10 = n / 10 := (Int.tdiv_eq_ediv_of_nonneg (by omega)); have e2 : n.tmod 10 = n % 10 := (Int.tmod_eq_emod_of_nonneg (by omega)); have w1 : IntKind.i64.wrap (n.tdiv 10) = n.tdiv 10 := (wrapI (by omega) (by omega)); have hl := it_len (n := n.tdiv 10) ⟨by omega, by omega⟩; simp only [w1] at *) | (have h9 : 0 ≤ n ∧ n < 10 := (by omega); rw [strI_digZ h9, itL_one h9])
  all_goals first | rfl | omega | (rw [strI_digZ (by omega)]; first | (rw [bz_app, ← itL_rec h10]; done) | (show _ + 1 ≤ _; omega)) | trace_state
theorem dec_0 : DecTo 0 := fun n h1 h2 => by omega
theorem dec_up {B : Int} (h : DecTo B) (hB : B ≤ 100000000000) : DecTo (if B = 0 then 10 else 10 * B) := fun n h1 h2 => by
  refine decStp_a B h n ⟨h1, ?_, ?_⟩
  · split at h2
    · exact .inl h2
    · exact .inr h2
  · split at h2 <;> omega
theorem dec_all : DecTo 10000000 := by
  have a1 := dec_up dec_0 (by decide)
  have a2 := dec_up a1 (by decide)
  have a3 := dec_up a2 (by decide)
  have a4 := dec_up a3 (by decide)
  have a5 := dec_up a4 (by decide)
  have a6 := dec_up a5 (by decide)
  exact dec_up a6 (by decide)
def dec_k : Con Tryz.prog := decC 10000000 dec_all
end Go.Proofs.YtphdjmaebdmdmaaGreatDoor
/- Scenes as text: the printer's whole numbers, skins, shapes. -/
namespace Go.Proofs.YtphdjmaebdmdmaaGreatDoor
open Go.RowKit Ev
set_option linter.unusedVariables false
set_option linter.unusedSimpArgs false
set_option maxRecDepth 20000
set_option maxHeartbeats 8000000

/-- A whole number, a blank ahead. -/
@[irreducible] def ptS (n : Int) : ByteArray := ⟨#[32]⟩ ++ bz (itL n)
theorem pt_def (n : Int) : ⟨#[32]⟩ ++ bz (itL n) = ptS n := by unfold ptS; rfl
theorem pt_sz {n : Int} (h : In64 n) : (ptS n).size ≤ 22 := by
  have := it_len (n := n) (in64_iff.1 h)
  unfold ptS
  rw [ByteArray.size_append]; show 1 + _ ≤ _; omega
/-- A skin's number. -/
@[irreducible] def skS (k : Int) : ByteArray := ⟨#[32, 115]⟩ ++ bz (itL k) ++ ⟨#[32, 59, 10]⟩
theorem sk_def (k : Int) : ⟨#[32, 115]⟩ ++ bz (itL k) ++ ⟨#[32, 59, 10]⟩ = skS k := by unfold skS; rfl
theorem sk_sz {k : Int} (h : In64 k) : (skS k).size ≤ 26 := by
  have := it_len (n := k) (in64_iff.1 h)
  unfold skS
  rw [ByteArray.size_append, ByteArray.size_append]; show 2 + _ + 3 ≤ _; omega
theorem pparts_f : FnOk Tryz.prog 27 Tryz.f27 := ⟨Tryz.func27, by kernel_rfl⟩
theorem pparts_a (n : Nat) (P : Nat → Int) (bad : Bool) (x y z : Int) (hpre : (0 < n ∧ n ≤ 800000000000) ∧ In64 x ∧ In64 y ∧ In64 z) : MCalls Tryz.prog 27 ([.own 0 0, .agg [.int .i64 x, .int .i64 y, .int .i64 z]]) [.row [.own 0 0, .os 1 1 0 n, .bool bad], .bts n P] (.tup []) [.row [.own 0 0, .os 2 1 0 (n + (ptS x ++ ptS y ++ ptS z).size), .bool bad], .gone, .bts (n + (ptS x ++ ptS y ++ ptS z).size) (catB n P (ptS x ++ ptS y ++ ptS z))] := by
  refine mcallsF_of (inl := hasI (P := Tryz.prog) [] [wstr_m]) (base [itoa_k] [] [wstr_m]) 0 pparts_f (And.intro (by kernel_rfl) ?_)
  have hx := pt_sz hpre.2.1
  have hy := pt_sz hpre.2.2.1
  have hz := pt_sz hpre.2.2.2
  have ix := in64_iff.1 hpre.2.1
  have iy := in64_iff.1 hpre.2.2.1
  have iz := in64_iff.1 hpre.2.2.2
  have lx := it_len (n := x) ix
  have ly := it_len (n := y) iy
  have lz := it_len (n := z) iz
  obtain ⟨h1, h2⟩ := hpre.1
  repeat' (first | refine And.intro ?_ ?_ | (with_reducible exact ff_elim) | (with_reducible exact tf_elim) | refine' rho_mk [_] ?_ | refine num_lit 0 (by decide) ?_ | refine num_lit 1 (by decide) ?_ | refine num_lit 2 (by decide) ?_ | refine num_lit 3 (by decide) ?_ | refine num_lit 4 (by decide) ?_ | refine num_lit 5 (by decide) ?_ | refine num_lit 6 (by decide) ?_ | refine num_lit 7 (by decide) ?_ | refine num_lit 8 (by decide) ?_ | (intro h; exact absurd h (by decide)) | refine Or.inl ⟨4, ?_⟩ | refine num_elim ?_ | intro _ | (with_reducible rfl) | ((with_reducible refine lk_t ?_); exact rfl) | ((with_reducible refine pf_t ?_); exact rfl) | refine tell ?_ | exact True.intro | (refine IsT.of ?_; kernel_rfl))
  all_goals (try refine Tell.mk ?_)
  all_goals first | with_reducible rfl | with_reducible assumption | (with_reducible refine gb_t ?_; with_reducible assumption) | (with_reducible refine gb_f ?_; with_reducible assumption) | ((with_reducible refine ks_t ?_); rfl) | ((with_reducible refine okF_t ?_); kernel_rfl) | (show 0 < _; omega) | skip
  all_goals (try dsimp only at *)
  all_goals (try simp only [nm_def, pt_def, sk_def] at *)
  all_goals (try simp only [catB_app, ByteArray.size_append, ByteArray.append_assoc, Nat.add_assoc, Bool.or_assoc] at *)
  all_goals first | with_reducible rfl | rfl | omega | (show 0 < _; omega) | (rw [catB_app2 (by simp only [ByteArray.size_append])]; simp only [ByteArray.append_assoc]; done) | (rw [catB_app2 (by simp only [ByteArray.size_append]), catB_app2 (by simp only [ByteArray.size_append])]; simp only [ByteArray.append_assoc]; done) | skip
  all_goals first | (show (1 : Nat) + _ ≤ _; omega) | (show (2 : Nat) + _ ≤ _; omega) | (show (2 : Nat) + (_ + 3) ≤ _; omega) | (show n + ((1 : Nat) + _) ≤ _; omega) | trace_state
def pparts_p (n : Nat) (P : Nat → Int) (bad : Bool) (x y z : Int) : Prop := (0 < n ∧ n ≤ 800000000000) ∧ In64 x ∧ In64 y ∧ In64 z
def pparts_r (n : Nat) (P : Nat → Int) (bad : Bool) (x y z : Int) : AV := .tup []
def pparts_rows (n : Nat) (P : Nat → Int) (bad : Bool) (x y z : Int) : List OB := [.row [.own 0 0, .os 1 1 0 n, .bool bad], .bts n P]
def pparts_rows2 (n : Nat) (P : Nat → Int) (bad : Bool) (x y z : Int) : List OB := [.row [.own 0 0, .os 2 1 0 (n + (ptS x ++ ptS y ++ ptS z).size), .bool bad], .gone, .bts (n + (ptS x ++ ptS y ++ ptS z).size) (catB n P (ptS x ++ ptS y ++ ptS z))]
def pparts_m : MCon Tryz.prog := ⟨27, fun args own => match args with | [.own k0_ 0, .agg [.int .i64 x, .int .i64 y, .int .i64 z]] => (match own k0_ with | .row [.own k0_ 0, .os k1_ 1 0 n, .bool bad] => (match own k1_ with | .bts n_ P => .ok [k0_, k1_] ([.own 0 0, .agg [.int .i64 x, .int .i64 y, .int .i64 z]]) (pparts_rows n P bad x y z) (some (n_ = n ∧ pparts_p n P bad x y z)) (pparts_r n P bad x y z) (pparts_rows2 n P bad x y z) | _ => .no) | _ => .no) | _ => .no, by
  intro args own ks cargs rows p r rows2 h hp
  split at h
  · split at h
    · split at h
      · cases h; obtain ⟨rfl, hq⟩ := hp; exact pparts_a _ _ _ _ _ _ hq
      · cases h
    · cases h
  · cases h⟩
theorem pskin_f : FnOk Tryz.prog 31 Tryz.f31 := ⟨Tryz.func31, by kernel_rfl⟩
theorem pskin_a (n : Nat) (P : Nat → Int) (bad : Bool) (k : Int) (hpre : (0 < n ∧ n ≤ 900000000000) ∧ In64 k) : MCalls Tryz.prog 31 ([.own 0 0, .int .i64 k]) [.row [.own 0 0, .os 1 1 0 n, .bool bad], .bts n P] (.tup []) [.row [.own 0 0, .os 2 1 0 (n + (skS k).size), .bool bad], .gone, .bts (n + (skS k).size) (catB n P (skS k))] := by
  refine mcallsF_of (inl := hasI (P := Tryz.prog) [] [wstr_m]) (base [itoa_k] [] [wstr_m]) 0 pskin_f (And.intro (by kernel_rfl) ?_)
  have hk := sk_sz hpre.2
  have ik := in64_iff.1 hpre.2
  have lk := it_len (n := k) ik
  obtain ⟨h1, h2⟩ := hpre.1
  repeat' (first | refine And.intro ?_ ?_ | (with_reducible exact ff_elim) | (with_reducible exact tf_elim) | refine' rho_mk [_] ?_ | refine num_elim ?_ | intro _ | (with_reducible rfl) | ((with_reducible refine lk_t ?_); exact rfl) | ((with_reducible refine pf_t ?_); exact rfl) | refine tell ?_ | exact True.intro | (refine IsT.of ?_; kernel_rfl))
  all_goals (try refine Tell.mk ?_)
  all_goals first | with_reducible rfl | with_reducible assumption | (with_reducible refine gb_t ?_; with_reducible assumption) | (with_reducible refine gb_f ?_; with_reducible assumption) | ((with_reducible refine ks_t ?_); rfl) | ((with_reducible refine okF_t ?_); kernel_rfl) | (show 0 < _; omega) | skip
  all_goals (try dsimp only at *)
  all_goals (try simp only [nm_def, pt_def, sk_def] at *)
  all_goals (try simp only [catB_app, ByteArray.size_append, ByteArray.append_assoc, Nat.add_assoc, Bool.or_assoc] at *)
  all_goals first | with_reducible rfl | rfl | omega | (show 0 < _; omega) | (rw [catB_app2 (by simp only [ByteArray.size_append])]; simp only [ByteArray.append_assoc]; done) | (rw [catB_app2 (by simp only [ByteArray.size_append]), catB_app2 (by simp only [ByteArray.size_append])]; simp only [ByteArray.append_assoc]; done) | skip
  all_goals first | (show (1 : Nat) + _ ≤ _; omega) | (show (2 : Nat) + _ ≤ _; omega) | (show (2 : Nat) + (_ + 3) ≤ _; omega) | (show n + ((1 : Nat) + _) ≤ _; omega) | trace_state
def pskin_p (n : Nat) (P : Nat → Int) (bad : Bool) (k : Int) : Prop := (0 < n ∧ n ≤ 900000000000) ∧ In64 k
def pskin_r (n : Nat) (P : Nat → Int) (bad : Bool) (k : Int) : AV := .tup []
def pskin_rows (n : Nat) (P : Nat → Int) (bad : Bool) (k : Int) : List OB := [.row [.own 0 0, .os 1 1 0 n, .bool bad], .bts n P]
def pskin_rows2 (n : Nat) (P : Nat → Int) (bad : Bool) (k : Int) : List OB := [.row [.own 0 0, .os 2 1 0 (n + (skS k).size), .bool bad], .gone, .bts (n + (skS k).size) (catB n P (skS k))]
def pskin_m : MCon Tryz.prog := ⟨31, fun args own => match args with | [.own k0_ 0, .int .i64 k] => (match own k0_ with | .row [.own k0_ 0, .os k1_ 1 0 n, .bool bad] => (match own k1_ with | .bts n_ P => .ok [k0_, k1_] ([.own 0 0, .int .i64 k]) (pskin_rows n P bad k) (some (n_ = n ∧ pskin_p n P bad k)) (pskin_r n P bad k) (pskin_rows2 n P bad k) | _ => .no) | _ => .no) | _ => .no, by
  intro args own ks cargs rows p r rows2 h hp
  split at h
  · split at h
    · split at h
      · cases h; obtain ⟨rfl, hq⟩ := hp; exact pskin_a _ _ _ _ hq
      · cases h
    · cases h
  · cases h⟩
end Go.Proofs.YtphdjmaebdmdmaaGreatDoor
