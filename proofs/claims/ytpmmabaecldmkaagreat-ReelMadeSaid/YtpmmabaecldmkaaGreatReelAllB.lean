/- The program's Moved. -/
import Derived.Test.YtpmmabaecldmkaaGreatReelAllA
import Derived.Test.YtpmmabaecldmkaaGreatEvArg
namespace Go.Proofs.YtpmmabaecldmkaaGreat
open Go.RowKit Ev
set_option linter.unusedVariables false
set_option linter.unusedSimpArgs false
set_option maxRecDepth 20000
set_option maxHeartbeats 4000000

theorem plusR_f : FnOk Tryz.prog 22 Tryz.f22 := ⟨Tryz.func22, by kernel_rfl⟩
theorem plusR_a (a b c d e f : Nat) : ACalls Tryz.prog 22 [.agg [.flt a, .flt b, .flt c], .agg [.flt d, .flt e, .flt f]] (.agg [.flt (F .add a d), .flt (F .add b e), .flt (F .add c f)]) := by
  refine acalls_of (inl := hasI (P := Tryz.prog) [] []) (base [] [] []) 0 plusR_f (And.intro (by kernel_rfl) ?_)
  repeat' (first | refine And.intro ?_ ?_ | (with_reducible exact ff_elim) | (with_reducible exact tf_elim) | intro _ | (with_reducible rfl) | ((with_reducible refine lk_t ?_); exact rfl) | ((with_reducible refine pf_t ?_); exact rfl) | refine tell ?_ | exact True.intro | (refine IsT.of ?_; kernel_rfl))
  all_goals ((try refine Tell.mk ?_); first | with_reducible rfl | ((show (_ : Int) ≤ _); decide) | ((show (_ : Int) < _); decide) | (with_reducible refine gb_t ?_; with_reducible assumption) | with_reducible assumption | (with_reducible refine gb_f ?_; with_reducible assumption) | (simp only [gb, *, cond_true, cond_false]; done) | ((with_reducible refine ks_t ?_); rfl) | ((with_reducible refine pk_t ?_); rfl) | ((with_reducible refine pf_t ?_); rfl) | ((with_reducible refine lk_t ?_); rfl) | ((with_reducible refine okF_t ?_); kernel_rfl) | grind [gb])
def plusR_k : Con Tryz.prog := ⟨22, fun args => match args with | [.agg [.flt a, .flt b, .flt c], .agg [.flt d, .flt e, .flt f]] => .ok (none) (.agg [.flt (F .add a d), .flt (F .add b e), .flt (F .add c f)]) | _ => .no, by
  intro args p r h hp
  split at h
  · cases h; exact plusR_a _ _ _ _ _ _
  · cases h⟩
def putL (L : List AV) (o : Nat) (vs : List AV) : List AV := L.take o ++ (vs ++ L.drop (o + vs.length))
/-- A table of rows of which one, so far, is this. -/
structure Mod (G : Nat → AV) (sz w : Nat) (row : Nat → List AV) (L : List AV) : Prop where
  len : L.length = sz
  rl : ∀ i, (row i).length = sz
  at_ : ∀ j, j < sz → G (0 + mulN w sz + j) = L.getD j .any
  out : ∀ j, (j < w * sz ∨ w * sz + sz ≤ j) → G j = flatF sz row j
theorem mod_flat {sz w : Nat} {row : Nat → List AV} (h : ∀ i, (row i).length = sz) : Mod (flatF sz row) sz w row (row w) :=
  ⟨h w, h, fun j hj => by rw [Nat.zero_add, mulN_eq, flat_at hj], fun _ _ => rfl⟩
theorem putL_len {L vs : List AV} {o : Nat} (h : o + vs.length ≤ L.length) : (putL L o vs).length = L.length := by
  unfold putL; simp; omega
theorem putL_at {L vs : List AV} {o j : Nat} (h : o + vs.length ≤ L.length) : (putL L o vs).getD j .any = if o ≤ j ∧ j < o + vs.length then vs.getD (j - o) .any else L.getD j .any := by
  unfold putL
  simp only [List.getD_eq_getElem?_getD]
  by_cases h1 : j < o
  · rw [List.getElem?_append_left (by simp; omega), if_neg (by omega), List.getElem?_take, if_pos h1]
  · rw [List.getElem?_append_right (by simp; omega)]
    have e : (L.take o).length = o := by simp; omega
    rw [e]
    by_cases h2 : j < o + vs.length
    · rw [List.getElem?_append_left (by omega), if_pos (by omega)]
    · rw [List.getElem?_append_right (by omega), if_neg (by omega), List.getElem?_drop]
      congr 2; omega
theorem mod_set {G : Nat → AV} {sz w o : Nat} {row : Nat → List AV} {L vs : List AV} (h : Mod G sz w row L) (ho : Nat.ble (o + vs.length) sz = true) : Mod (setA (0 + mulN w sz + o) vs G) sz w row (putL L o vs) := by
  have ho := Nat.le_of_ble_eq_true ho
  have hl := h.len
  refine ⟨(putL_len (by omega)).trans h.len, h.rl, fun j hj => ?_, fun j hj => ?_⟩
  · rw [putL_at (by omega)]
    unfold setA
    by_cases h1 : o ≤ j ∧ j < o + vs.length
    · rw [if_pos (by omega), if_pos h1]; congr 1; omega
    · rw [if_neg (by omega), if_neg h1]; exact h.at_ j hj
  · unfold setA
    rw [mulN_eq, if_neg (by omega)]; exact h.out j hj
theorem mod_eq {G : Nat → AV} {sz w : Nat} {row row' : Nat → List AV} {L : List AV} (h : Mod G sz w row L) (h1 : row' w = L) (h2 : ∀ i, i ≠ w → row' i = row i) (j : Nat) : G j = flatF sz row' j := by
  have hl := h.len
  by_cases hj : w * sz ≤ j ∧ j < w * sz + sz
  · have := h.at_ (j - w * sz) (by omega)
    rw [Nat.zero_add, mulN_eq, show w * sz + (j - w * sz) = j by omega] at this
    rw [this, ← h1, ← flat_at (row := row') (i := w) (c := j - w * sz) (sz := sz) (by omega)]
    congr 1; omega
  · rw [h.out j (by omega)]
    unfold flatF
    by_cases hz : sz = 0
    · subst hz
      have e1 : ∀ i, row i = [] := fun i => List.length_eq_zero_iff.1 (h.rl i)
      have e2 : row' (j / 0) = [] := by
        by_cases hw : j / 0 = w
        · rw [hw, h1]; exact List.length_eq_zero_iff.1 hl
        · rw [h2 _ hw, e1]
      rw [e1, e2]
    · rw [h2 (j / sz)]
      intro e
      have e1 := Nat.div_add_mod j sz
      have e2 := Nat.mod_lt j (show sz > 0 by omega)
      have e3 : sz * (j / sz) = w * sz := by rw [e, Nat.mul_comm]
      omega
theorem view_mod {nm : Bool} {G : Nat → AV} {sz w o n : Nat} {row : Nat → List AV} {L : List AV} {K : AV → Prop} (h : Mod G sz w row L) (hl : Nat.ble (o + n) sz = true) (h' : nameE nm (.agg ((L.drop o).take n)) K) : nameE nm (.agg (List.map (fun j => G (0 + mulN w sz + o + j)) (List.range n))) K := by
  have hl := Nat.le_of_ble_eq_true hl
  have hL := h.len
  refine view_agg ?_ h'
  apply List.ext_getElem
  · simp; omega
  · intro c h1 h2
    simp only [List.length_map, List.length_range] at h1
    simp only [List.getElem_map, List.getElem_range, List.getElem_take, List.getElem_drop]
    have := h.at_ (o + c) (by omega)
    rw [Nat.add_assoc, this, List.getD_eq_getElem?_getD, List.getElem?_eq_getElem (by omega)]; rfl
theorem view_mod1 {nm : Bool} {a : Nat} {vs : List AV} {g : Nat → AV} {sz w o : Nat} {row : Nat → List AV} {L : List AV} {K : AV → Prop} (h : Mod (setA a vs g) sz w row L) (hl : Nat.blt o sz = true) (h' : nameE nm (L.getD o .any) K) : nameE nm (setA a vs g (0 + mulN w sz + o)) K := by
  rw [h.at_ o (Nat.le_of_ble_eq_true hl)]; exact h'
theorem view_modG {a : Nat} {vs : List AV} {g : Nat → AV} {sz w o : Nat} {row : Nat → List AV} {L : List AV} {K : AV → Prop} (h : Mod (setA a vs g) sz w row L) (hl : Nat.blt o sz = true) (h' : force1 (L.getD o .any) K) : force1 (setA a vs g (0 + mulN w sz + o)) K := by
  rw [h.at_ o (Nat.le_of_ble_eq_true hl)]; exact h'
theorem mv_mod {s : Scn} {w x y z : Nat} {G : Nat → AV} {L : List AV} (h : Mod G 13 w (fun i => (s.S i).row) L) (hL : L = (mvShp (s.S w) x y z).row) (j : Nat) : flatF 13 (fun i => ((movS s w x y z).S i).row) j = G (0 + j) := by
  rw [Nat.zero_add]
  refine (mod_eq (row' := fun i => ((movS s w x y z).S i).row) h ?_ ?_ j).symm
  · show (if w = w then mvShp (s.S w) x y z else s.S w).row = L
    rw [if_pos rfl, hL]
  · intro i hi
    show (if i = w then mvShp (s.S i) x y z else s.S i).row = (s.S i).row
    rw [if_neg hi]
theorem z0 (g : Nat → AV) : (fun j => g (0 + j)) = g := funext fun j => by rw [Nat.zero_add]
theorem un_mod {s : Scn} {w x y z : Nat} {G : Nat → AV} {L : List AV} (h : Mod G 13 w (fun i => (s.S i).row) L) (hL : L = (mvShp (s.S w) x y z).row) : unScn [.sl s.n1 13 (fun j => G (0 + j)), .sl s.n2 2 (fun j => flatF 2 (fun i => (s.T i).row) (0 + j)), .sl s.n3 8 (fun j => flatF 8 (fun i => (s.G i).row) (0 + j)), .sl s.n4 10 (flatF 10 fun i => (s.K i).row), .sl s.n5 6 (flatF 6 fun i => (s.L i).row), .int .i64 s.a, .int .i64 s.b, .int .i64 s.c, .flt s.e0, .flt s.e1, .flt s.e2, .flt s.e3, .flt s.e4, .flt s.e5, .flt s.e6, .flt s.e7, .flt s.e8, .flt s.e9] = movS s w x y z := by
  have e : (fun j => G (0 + j)) = flatF 13 fun i => ((movS s w x y z).S i).row := funext fun j => (mv_mod h hL j).symm
  rw [e, z0 (flatF 2 fun i => (s.T i).row), z0 (flatF 8 fun i => (s.G i).row)]
  exact un_scn (movS s w x y z)
theorem row_mod {s : Scn} {w x y z : Nat} {G : Nat → AV} {L : List AV} (h : Mod G 13 w (fun i => (s.S i).row) L) (hL : L = (mvShp (s.S w) x y z).row) : [AV.sl s.n1 13 (fun j => G (0 + j)), .sl s.n2 2 (fun j => flatF 2 (fun i => (s.T i).row) (0 + j)), .sl s.n3 8 (fun j => flatF 8 (fun i => (s.G i).row) (0 + j)), .sl s.n4 10 (flatF 10 fun i => (s.K i).row), .sl s.n5 6 (flatF 6 fun i => (s.L i).row), .int .i64 s.a, .int .i64 s.b, .int .i64 s.c, .flt s.e0, .flt s.e1, .flt s.e2, .flt s.e3, .flt s.e4, .flt s.e5, .flt s.e6, .flt s.e7, .flt s.e8, .flt s.e9] = (unScn [.sl s.n1 13 (fun j => G (0 + j)), .sl s.n2 2 (fun j => flatF 2 (fun i => (s.T i).row) (0 + j)), .sl s.n3 8 (fun j => flatF 8 (fun i => (s.G i).row) (0 + j)), .sl s.n4 10 (flatF 10 fun i => (s.K i).row), .sl s.n5 6 (flatF 6 fun i => (s.L i).row), .int .i64 s.a, .int .i64 s.b, .int .i64 s.c, .flt s.e0, .flt s.e1, .flt s.e2, .flt s.e3, .flt s.e4, .flt s.e5, .flt s.e6, .flt s.e7, .flt s.e8, .flt s.e9]).row := by
  rw [un_mod h hL]
  have e : (fun j => G (0 + j)) = flatF 13 fun i => ((movS s w x y z).S i).row := funext fun j => (mv_mod h hL j).symm
  rw [e, z0 (flatF 2 fun i => (s.T i).row), z0 (flatF 8 fun i => (s.G i).row)]
  rfl
theorem un_m1 {s : Scn} {w x y z : Nat} (h : ((s.S w).k == 2 || (s.S w).k == 3) = false) (h3 : ((s.S w).k == 3) = false) : unScn [.sl s.n1 13 (fun j => setA (0 + mulN w 13 + 1) [.flt (F .add (s.S w).a x), .flt (F .add (s.S w).b y), .flt (F .add (s.S w).c z)] (flatF 13 fun i => (s.S i).row) (0 + j)), .sl s.n2 2 (fun j => flatF 2 (fun i => (s.T i).row) (0 + j)), .sl s.n3 8 (fun j => flatF 8 (fun i => (s.G i).row) (0 + j)), .sl s.n4 10 (flatF 10 fun i => (s.K i).row), .sl s.n5 6 (flatF 6 fun i => (s.L i).row), .int .i64 s.a, .int .i64 s.b, .int .i64 s.c, .flt s.e0, .flt s.e1, .flt s.e2, .flt s.e3, .flt s.e4, .flt s.e5, .flt s.e6, .flt s.e7, .flt s.e8, .flt s.e9] = movS s w x y z := un_mod (mod_set (mod_flat (fun _ => rfl)) rfl) (row1 h h3)
theorem rw_m1 {s : Scn} {w x y z : Nat} (h : ((s.S w).k == 2 || (s.S w).k == 3) = false) (h3 : ((s.S w).k == 3) = false) : [AV.sl s.n1 13 (fun j => setA (0 + mulN w 13 + 1) [.flt (F .add (s.S w).a x), .flt (F .add (s.S w).b y), .flt (F .add (s.S w).c z)] (flatF 13 fun i => (s.S i).row) (0 + j)), .sl s.n2 2 (fun j => flatF 2 (fun i => (s.T i).row) (0 + j)), .sl s.n3 8 (fun j => flatF 8 (fun i => (s.G i).row) (0 + j)), .sl s.n4 10 (flatF 10 fun i => (s.K i).row), .sl s.n5 6 (flatF 6 fun i => (s.L i).row), .int .i64 s.a, .int .i64 s.b, .int .i64 s.c, .flt s.e0, .flt s.e1, .flt s.e2, .flt s.e3, .flt s.e4, .flt s.e5, .flt s.e6, .flt s.e7, .flt s.e8, .flt s.e9] = (unScn [.sl s.n1 13 (fun j => setA (0 + mulN w 13 + 1) [.flt (F .add (s.S w).a x), .flt (F .add (s.S w).b y), .flt (F .add (s.S w).c z)] (flatF 13 fun i => (s.S i).row) (0 + j)), .sl s.n2 2 (fun j => flatF 2 (fun i => (s.T i).row) (0 + j)), .sl s.n3 8 (fun j => flatF 8 (fun i => (s.G i).row) (0 + j)), .sl s.n4 10 (flatF 10 fun i => (s.K i).row), .sl s.n5 6 (flatF 6 fun i => (s.L i).row), .int .i64 s.a, .int .i64 s.b, .int .i64 s.c, .flt s.e0, .flt s.e1, .flt s.e2, .flt s.e3, .flt s.e4, .flt s.e5, .flt s.e6, .flt s.e7, .flt s.e8, .flt s.e9]).row := row_mod (mod_set (mod_flat (fun _ => rfl)) rfl) (row1 h h3)
theorem at_m1 {s : Scn} {w x y z j : Nat} (h : ((s.S w).k == 2 || (s.S w).k == 3) = false) (h3 : ((s.S w).k == 3) = false) : flatF 13 (fun i => ((movS s w x y z).S i).row) j = setA (0 + mulN w 13 + 1) [.flt (F .add (s.S w).a x), .flt (F .add (s.S w).b y), .flt (F .add (s.S w).c z)] (flatF 13 fun i => (s.S i).row) (0 + j) := mv_mod (s := s) (w := w) (x := x) (y := y) (z := z) (G := (setA (0 + mulN w 13 + 1) [.flt (F .add (s.S w).a x), .flt (F .add (s.S w).b y), .flt (F .add (s.S w).c z)] (flatF 13 fun i => (s.S i).row))) (mod_set (mod_flat (fun _ => rfl)) rfl) (row1 h h3) j
theorem un_m2 {s : Scn} {w x y z : Nat} (h : ((s.S w).k == 2 || (s.S w).k == 3) = true) (h3 : ((s.S w).k == 3) = false) : unScn [.sl s.n1 13 (fun j => setA (0 + mulN w 13 + 4) [.flt (F .add (s.S w).d x), .flt (F .add (s.S w).e y), .flt (F .add (s.S w).f z)] (setA (0 + mulN w 13 + 1) [.flt (F .add (s.S w).a x), .flt (F .add (s.S w).b y), .flt (F .add (s.S w).c z)] (flatF 13 fun i => (s.S i).row)) (0 + j)), .sl s.n2 2 (fun j => flatF 2 (fun i => (s.T i).row) (0 + j)), .sl s.n3 8 (fun j => flatF 8 (fun i => (s.G i).row) (0 + j)), .sl s.n4 10 (flatF 10 fun i => (s.K i).row), .sl s.n5 6 (flatF 6 fun i => (s.L i).row), .int .i64 s.a, .int .i64 s.b, .int .i64 s.c, .flt s.e0, .flt s.e1, .flt s.e2, .flt s.e3, .flt s.e4, .flt s.e5, .flt s.e6, .flt s.e7, .flt s.e8, .flt s.e9] = movS s w x y z := un_mod (mod_set (mod_set (mod_flat (fun _ => rfl)) rfl) rfl) (row2 h h3)
theorem rw_m2 {s : Scn} {w x y z : Nat} (h : ((s.S w).k == 2 || (s.S w).k == 3) = true) (h3 : ((s.S w).k == 3) = false) : [AV.sl s.n1 13 (fun j => setA (0 + mulN w 13 + 4) [.flt (F .add (s.S w).d x), .flt (F .add (s.S w).e y), .flt (F .add (s.S w).f z)] (setA (0 + mulN w 13 + 1) [.flt (F .add (s.S w).a x), .flt (F .add (s.S w).b y), .flt (F .add (s.S w).c z)] (flatF 13 fun i => (s.S i).row)) (0 + j)), .sl s.n2 2 (fun j => flatF 2 (fun i => (s.T i).row) (0 + j)), .sl s.n3 8 (fun j => flatF 8 (fun i => (s.G i).row) (0 + j)), .sl s.n4 10 (flatF 10 fun i => (s.K i).row), .sl s.n5 6 (flatF 6 fun i => (s.L i).row), .int .i64 s.a, .int .i64 s.b, .int .i64 s.c, .flt s.e0, .flt s.e1, .flt s.e2, .flt s.e3, .flt s.e4, .flt s.e5, .flt s.e6, .flt s.e7, .flt s.e8, .flt s.e9] = (unScn [.sl s.n1 13 (fun j => setA (0 + mulN w 13 + 4) [.flt (F .add (s.S w).d x), .flt (F .add (s.S w).e y), .flt (F .add (s.S w).f z)] (setA (0 + mulN w 13 + 1) [.flt (F .add (s.S w).a x), .flt (F .add (s.S w).b y), .flt (F .add (s.S w).c z)] (flatF 13 fun i => (s.S i).row)) (0 + j)), .sl s.n2 2 (fun j => flatF 2 (fun i => (s.T i).row) (0 + j)), .sl s.n3 8 (fun j => flatF 8 (fun i => (s.G i).row) (0 + j)), .sl s.n4 10 (flatF 10 fun i => (s.K i).row), .sl s.n5 6 (flatF 6 fun i => (s.L i).row), .int .i64 s.a, .int .i64 s.b, .int .i64 s.c, .flt s.e0, .flt s.e1, .flt s.e2, .flt s.e3, .flt s.e4, .flt s.e5, .flt s.e6, .flt s.e7, .flt s.e8, .flt s.e9]).row := row_mod (mod_set (mod_set (mod_flat (fun _ => rfl)) rfl) rfl) (row2 h h3)
theorem at_m2 {s : Scn} {w x y z j : Nat} (h : ((s.S w).k == 2 || (s.S w).k == 3) = true) (h3 : ((s.S w).k == 3) = false) : flatF 13 (fun i => ((movS s w x y z).S i).row) j = setA (0 + mulN w 13 + 4) [.flt (F .add (s.S w).d x), .flt (F .add (s.S w).e y), .flt (F .add (s.S w).f z)] (setA (0 + mulN w 13 + 1) [.flt (F .add (s.S w).a x), .flt (F .add (s.S w).b y), .flt (F .add (s.S w).c z)] (flatF 13 fun i => (s.S i).row)) (0 + j) := mv_mod (s := s) (w := w) (x := x) (y := y) (z := z) (G := (setA (0 + mulN w 13 + 4) [.flt (F .add (s.S w).d x), .flt (F .add (s.S w).e y), .flt (F .add (s.S w).f z)] (setA (0 + mulN w 13 + 1) [.flt (F .add (s.S w).a x), .flt (F .add (s.S w).b y), .flt (F .add (s.S w).c z)] (flatF 13 fun i => (s.S i).row)))) (mod_set (mod_set (mod_flat (fun _ => rfl)) rfl) rfl) (row2 h h3) j
theorem un_m3 {s : Scn} {w x y z : Nat} (h : ((s.S w).k == 2 || (s.S w).k == 3) = true) (h3 : ((s.S w).k == 3) = true) : unScn [.sl s.n1 13 (fun j => setA (0 + mulN w 13 + 7) [.flt (F .add (s.S w).g x), .flt (F .add (s.S w).h y), .flt (F .add (s.S w).i z)] (setA (0 + mulN w 13 + 4) [.flt (F .add (s.S w).d x), .flt (F .add (s.S w).e y), .flt (F .add (s.S w).f z)] (setA (0 + mulN w 13 + 1) [.flt (F .add (s.S w).a x), .flt (F .add (s.S w).b y), .flt (F .add (s.S w).c z)] (flatF 13 fun i => (s.S i).row))) (0 + j)), .sl s.n2 2 (fun j => flatF 2 (fun i => (s.T i).row) (0 + j)), .sl s.n3 8 (fun j => flatF 8 (fun i => (s.G i).row) (0 + j)), .sl s.n4 10 (flatF 10 fun i => (s.K i).row), .sl s.n5 6 (flatF 6 fun i => (s.L i).row), .int .i64 s.a, .int .i64 s.b, .int .i64 s.c, .flt s.e0, .flt s.e1, .flt s.e2, .flt s.e3, .flt s.e4, .flt s.e5, .flt s.e6, .flt s.e7, .flt s.e8, .flt s.e9] = movS s w x y z := un_mod (mod_set (mod_set (mod_set (mod_flat (fun _ => rfl)) rfl) rfl) rfl) (row3 h h3)
theorem rw_m3 {s : Scn} {w x y z : Nat} (h : ((s.S w).k == 2 || (s.S w).k == 3) = true) (h3 : ((s.S w).k == 3) = true) : [AV.sl s.n1 13 (fun j => setA (0 + mulN w 13 + 7) [.flt (F .add (s.S w).g x), .flt (F .add (s.S w).h y), .flt (F .add (s.S w).i z)] (setA (0 + mulN w 13 + 4) [.flt (F .add (s.S w).d x), .flt (F .add (s.S w).e y), .flt (F .add (s.S w).f z)] (setA (0 + mulN w 13 + 1) [.flt (F .add (s.S w).a x), .flt (F .add (s.S w).b y), .flt (F .add (s.S w).c z)] (flatF 13 fun i => (s.S i).row))) (0 + j)), .sl s.n2 2 (fun j => flatF 2 (fun i => (s.T i).row) (0 + j)), .sl s.n3 8 (fun j => flatF 8 (fun i => (s.G i).row) (0 + j)), .sl s.n4 10 (flatF 10 fun i => (s.K i).row), .sl s.n5 6 (flatF 6 fun i => (s.L i).row), .int .i64 s.a, .int .i64 s.b, .int .i64 s.c, .flt s.e0, .flt s.e1, .flt s.e2, .flt s.e3, .flt s.e4, .flt s.e5, .flt s.e6, .flt s.e7, .flt s.e8, .flt s.e9] = (unScn [.sl s.n1 13 (fun j => setA (0 + mulN w 13 + 7) [.flt (F .add (s.S w).g x), .flt (F .add (s.S w).h y), .flt (F .add (s.S w).i z)] (setA (0 + mulN w 13 + 4) [.flt (F .add (s.S w).d x), .flt (F .add (s.S w).e y), .flt (F .add (s.S w).f z)] (setA (0 + mulN w 13 + 1) [.flt (F .add (s.S w).a x), .flt (F .add (s.S w).b y), .flt (F .add (s.S w).c z)] (flatF 13 fun i => (s.S i).row))) (0 + j)), .sl s.n2 2 (fun j => flatF 2 (fun i => (s.T i).row) (0 + j)), .sl s.n3 8 (fun j => flatF 8 (fun i => (s.G i).row) (0 + j)), .sl s.n4 10 (flatF 10 fun i => (s.K i).row), .sl s.n5 6 (flatF 6 fun i => (s.L i).row), .int .i64 s.a, .int .i64 s.b, .int .i64 s.c, .flt s.e0, .flt s.e1, .flt s.e2, .flt s.e3, .flt s.e4, .flt s.e5, .flt s.e6, .flt s.e7, .flt s.e8, .flt s.e9]).row := row_mod (mod_set (mod_set (mod_set (mod_flat (fun _ => rfl)) rfl) rfl) rfl) (row3 h h3)
theorem at_m3 {s : Scn} {w x y z j : Nat} (h : ((s.S w).k == 2 || (s.S w).k == 3) = true) (h3 : ((s.S w).k == 3) = true) : flatF 13 (fun i => ((movS s w x y z).S i).row) j = setA (0 + mulN w 13 + 7) [.flt (F .add (s.S w).g x), .flt (F .add (s.S w).h y), .flt (F .add (s.S w).i z)] (setA (0 + mulN w 13 + 4) [.flt (F .add (s.S w).d x), .flt (F .add (s.S w).e y), .flt (F .add (s.S w).f z)] (setA (0 + mulN w 13 + 1) [.flt (F .add (s.S w).a x), .flt (F .add (s.S w).b y), .flt (F .add (s.S w).c z)] (flatF 13 fun i => (s.S i).row))) (0 + j) := mv_mod (s := s) (w := w) (x := x) (y := y) (z := z) (G := (setA (0 + mulN w 13 + 7) [.flt (F .add (s.S w).g x), .flt (F .add (s.S w).h y), .flt (F .add (s.S w).i z)] (setA (0 + mulN w 13 + 4) [.flt (F .add (s.S w).d x), .flt (F .add (s.S w).e y), .flt (F .add (s.S w).f z)] (setA (0 + mulN w 13 + 1) [.flt (F .add (s.S w).a x), .flt (F .add (s.S w).b y), .flt (F .add (s.S w).c z)] (flatF 13 fun i => (s.S i).row))))) (mod_set (mod_set (mod_set (mod_flat (fun _ => rfl)) rfl) rfl) rfl) (row3 h h3) j
theorem movedP_f : FnOk Tryz.prog 10 Tryz.f10 := ⟨Tryz.func10, by kernel_rfl⟩
theorem movedP_a (s : Scn) (w : Int) (n : Nat) (K : Nat → Int) (t : Int) (hpre : (∀ j, In64 (K j)) ∧ In64 t) : ACalls Tryz.prog 10 [.agg s.row, .int .i64 w, ints4 .i64 n K, .int .i64 t] (.tup [.agg (movO s w n K t).row, .int .i64 (movE s w n K t)]) := by
  refine acalls_of (inl := hasI (P := Tryz.prog) [] [(copyM s)]) (base [sceneMay_k, reelAt_k, plusR_k] [] [(copyM s)]) 0 movedP_f (And.intro (by kernel_rfl) ?_)
  repeat' (first | refine And.intro ?_ ?_ | (with_reducible exact ff_elim) | (with_reducible exact tf_elim) | (refine view_mod (mod_flat (fun _ => rfl)) rfl ?_) | (refine view_mod (mod_set (mod_flat (fun _ => rfl)) rfl) rfl ?_) | (refine view_mod (mod_set (mod_set (mod_flat (fun _ => rfl)) rfl) rfl) rfl ?_) | (refine view_mod1 (mod_set (mod_flat (fun _ => rfl)) rfl) rfl ?_) | (refine view_mod1 (mod_set (mod_set (mod_flat (fun _ => rfl)) rfl) rfl) rfl ?_) | (refine view_mod1 (mod_set (mod_set (mod_set (mod_flat (fun _ => rfl)) rfl) rfl) rfl) rfl ?_) | (refine view_modG (mod_set (mod_flat (fun _ => rfl)) rfl) rfl ?_) | (refine view_modG (mod_set (mod_set (mod_flat (fun _ => rfl)) rfl) rfl) rfl ?_) | (refine view_modG (mod_set (mod_set (mod_set (mod_flat (fun _ => rfl)) rfl) rfl) rfl) rfl ?_) | refine num_elim ?_ | intro _ | (with_reducible rfl) | ((with_reducible refine lk_t ?_); exact rfl) | ((with_reducible refine pf_t ?_); exact rfl) | refine tell ?_ | exact True.intro | (refine IsT.of ?_; kernel_rfl))
  all_goals (try refine Tell.mk ?_)
  all_goals first | with_reducible rfl | with_reducible assumption | with_reducible exact isI_mk | exact scn_eq | exact hpre.1 _ | exact hpre.2 | (with_reducible refine gb_t ?_; with_reducible assumption) | (with_reducible refine gb_f ?_; with_reducible assumption) | (exact (row0 (by assumption) (by assumption)).elim) | skip
  all_goals first | exact Nat.le_of_eq (Nat.zero_add _) | ((show (_ : Int) ≤ _); decide) | ((show (_ : Int) < _); decide) | skip
  all_goals (try simp only [intF_mk, tho_fold, un_scn1] at *)
  all_goals first | exact rw_m3 (by assumption) (by assumption) | exact rw_m2 (by assumption) (by assumption) | exact rw_m1 (by assumption) (by assumption) | skip
  all_goals first | (simp only [un_m3 (by assumption) (by assumption)] at *) | (simp only [un_m2 (by assumption) (by assumption)] at *) | (simp only [un_m1 (by assumption) (by assumption)] at *) | skip
  all_goals (try simp only [bne_iff_ne, bne_eq_false_iff_eq, decide_eq_true_eq, decide_eq_false_iff_not, ne_eq, ge_iff_le, gt_iff_lt] at *)
  all_goals (try simp only [Bool.or_eq_true, Bool.or_eq_false_iff, decide_eq_true_eq, decide_eq_false_iff_not, Int.not_lt, Int.not_le] at *)
  all_goals first | omega | with_reducible assumption | skip
  all_goals (try have hn := scene_n1 (s := s) (by assumption))
  all_goals (try have hw : 0 ≤ w ∧ w < (s.n1 : Int) := (by omega))
  all_goals first | omega | ((show 0 + mulN w.toNat 13 + 1 + 3 ≤ _); rw [mulN_eq]; omega) | ((show 0 + mulN w.toNat 13 + 4 + 3 ≤ _); rw [mulN_eq]; omega) | ((show 0 + mulN w.toNat 13 + 7 + 3 ≤ _); rw [mulN_eq]; omega) | (rw [mulN_eq]; omega) | skip
  all_goals first | (rw [(mov_1 (by assumption)).2]; rfl) | (rw [(mov_1 (by assumption)).1]; done) | (rw [(mov_2 (by assumption) (by omega)).2]; rfl) | (rw [(mov_2 (by assumption) (by omega)).1]; done) | (rw [(mov_3 (by assumption) (by assumption) (by assumption)).2]; rfl) | (rw [(mov_3 (by assumption) (by assumption) (by assumption)).1]; done) | (rw [(mov_5 (by assumption) (by assumption) (by assumption) (by assumption)).2]; rfl) | (rw [(mov_5 (by assumption) (by assumption) (by assumption) (by assumption)).1]; done) | (rw [(mov_6 (by assumption) (by assumption) (by assumption) (by assumption)).1]; done) | (rw [(mov_6 (by assumption) (by assumption) (by assumption) (by assumption)).2]; first | rfl | (rw [Nat.zero_add]; rfl) | exact at_m3 (by rw [Bool.or_eq_true]; assumption) (by assumption) | exact at_m2 (by rw [Bool.or_eq_true]; assumption) (by assumption) | exact at_m1 (by rw [Bool.or_eq_false_iff]; assumption) (by assumption)) | trace_state
end Go.Proofs.YtpmmabaecldmkaaGreat
/- A scene is the same as itself, if it may be. -/
namespace Go.Proofs.YtpmmabaecldmkaaGreat
open Go.RowKit Ev
set_option linter.unusedVariables false
set_option linter.unusedSimpArgs false
set_option maxRecDepth 20000
set_option maxHeartbeats 4000000

def isIntV : AV → Bool
  | .int _ _ => true
  | _ => false
/-- A loop that counts in a slot: told from other loops by it. -/
theorem loop_keepS {lo : Nat} {T : AK → (Nat → AV) → (Nat → OB) → Nat → Prop} {K : AK} {env : Nat → AV} {own : Nat → OB} {nk : Nat} (t : Nat) (ht : isIntV (env t) = true) (ts ks : List Nat)
    (h : keepK env ts fun l => keepO own ks fun m => LoopI lo T K env own nk l m) : loopR lo T K env own nk := loop_keep ts ks h
theorem feq_or (x : Nat) : true = (feq x x || !feq x x && !feq x x) := by cases feq x x <;> rfl
theorem likeR_f : FnOk Tryz.prog 58 Tryz.f58 := ⟨Tryz.func58, by kernel_rfl⟩
theorem likeR_a (x y : Nat) (hpre : x = y) : ACalls Tryz.prog 58 [.flt x, .flt y] (.bool true) := by
  refine acalls_of (inl := hasI (P := Tryz.prog) [] []) (base [] [] []) 0 likeR_f (And.intro (by kernel_rfl) ?_)
  subst hpre
  repeat' (first | refine And.intro ?_ ?_ | (with_reducible exact ff_elim) | (with_reducible exact tf_elim) | refine num_elim ?_ | intro _ | (with_reducible rfl) | ((with_reducible refine lk_t ?_); exact rfl) | ((with_reducible refine pf_t ?_); exact rfl) | refine tell ?_ | exact True.intro | (refine IsT.of ?_; kernel_rfl))
  all_goals (try refine Tell.mk ?_)
  all_goals first | with_reducible assumption | (with_reducible refine gb_f ?_; with_reducible assumption) | exact feq_or x | skip
  all_goals (cases h : feq x x <;> simp_all [gb])
def likeR_k : Con Tryz.prog := ⟨58, fun args => match args with | [.flt x, .flt y] => .ok (some (x = y)) (.bool true) | _ => .no, by
  intro args p r h hp
  split at h
  · cases h; exact likeR_a _ _ hp
  · cases h⟩
theorem likeVec_f : FnOk Tryz.prog 57 Tryz.f57 := ⟨Tryz.func57, by kernel_rfl⟩
theorem likeVec_a (a b c d e f : Nat) (hpre : a = d ∧ b = e ∧ c = f) : ACalls Tryz.prog 57 [.agg [.flt a, .flt b, .flt c], .agg [.flt d, .flt e, .flt f]] (.bool true) := by
  refine acalls_of (inl := hasI (P := Tryz.prog) [] []) (base [likeR_k] [] []) 0 likeVec_f (And.intro (by kernel_rfl) ?_)
  obtain ⟨rfl, rfl, rfl⟩ := hpre
  repeat' (first | refine And.intro ?_ ?_ | (with_reducible exact ff_elim) | (with_reducible exact tf_elim) | refine num_elim ?_ | intro _ | (with_reducible rfl) | ((with_reducible refine lk_t ?_); exact rfl) | ((with_reducible refine pf_t ?_); exact rfl) | refine tell ?_ | exact True.intro | (refine IsT.of ?_; kernel_rfl))
  all_goals (try refine Tell.mk ?_)
  all_goals first | with_reducible rfl | with_reducible assumption | exact fun _ => rfl | rfl | trace_state
def likeVec_k : Con Tryz.prog := ⟨57, fun args => match args with | [.agg [.flt a, .flt b, .flt c], .agg [.flt d, .flt e, .flt f]] => .ok (some (a = d ∧ b = e ∧ c = f)) (.bool true) | _ => .no, by
  intro args p r h hp
  split at h
  · cases h; exact likeVec_a _ _ _ _ _ _ hp
  · cases h⟩
theorem sameShape_f : FnOk Tryz.prog 25 Tryz.f25 := ⟨Tryz.func25, by kernel_rfl⟩
theorem sameShape_a (p : Shp) : ACalls Tryz.prog 25 [.agg p.row, .agg p.row] (.bool true) := by
  refine acalls_of (inl := hasI (P := Tryz.prog) [] []) (base [likeR_k, likeVec_k] [] []) 0 sameShape_f (And.intro (by kernel_rfl) ?_)
  repeat' (first | refine And.intro ?_ ?_ | (with_reducible exact ff_elim) | (with_reducible exact tf_elim) | refine num_elim ?_ | intro _ | (with_reducible rfl) | ((with_reducible refine lk_t ?_); exact rfl) | ((with_reducible refine pf_t ?_); exact rfl) | refine tell ?_ | exact True.intro | (refine IsT.of ?_; kernel_rfl))
  all_goals (try refine Tell.mk ?_)
  all_goals first | with_reducible rfl | with_reducible assumption | (with_reducible refine gb_t ?_; with_reducible assumption) | exact fun _ => rfl | rfl | exact ⟨rfl, rfl, rfl⟩ | simp | trace_state
def Fld.self (f : Fld) : Prop := feq f.x f.x = true ∧ feq f.y f.y = true ∧ feq f.z f.z = true ∧ feq f.d f.d = true ∧ f.n ≤ 64
theorem sameField_f : FnOk Tryz.prog 26 Tryz.f26 := ⟨Tryz.func26, by kernel_rfl⟩
theorem sameField_a (f : Fld) (hpre : f.self) : ACalls Tryz.prog 26 [.agg f.row, .agg f.row] (.bool true) := by
  refine acalls_of (inl := hasI (P := Tryz.prog) [] []) (base [] [] []) 0 sameField_f (And.intro (by kernel_rfl) ?_)
  obtain ⟨h1, h2, h3, h4, h5⟩ := hpre
  repeat' (first | refine And.intro ?_ ?_ | (with_reducible exact ff_elim) | (with_reducible exact tf_elim) | refine num_elim ?_ | intro _ | (with_reducible rfl) | ((with_reducible refine lk_t ?_); exact rfl) | ((with_reducible refine pf_t ?_); exact rfl) | refine tell ?_ | exact True.intro | (refine IsT.of ?_; kernel_rfl))
  all_goals (try (refine loop_keep [2, 3] [0, 1] ?_; refine LoopI.mk ({i : Nat // i ≤ f.n}) (fun i => [(5, .int .i64 i.1)]) (fun _ => []) (fun i => f.n - i.1) (⟨0, Nat.zero_le _⟩) (wk_mk [some 0, some 1] ?_) (fun ⟨i, hi⟩ => ?_)))
  repeat' (first | refine And.intro ?_ ?_ | (with_reducible exact ff_elim) | (with_reducible exact tf_elim) | refine stp_mk [some 0, some 1] (⟨i + 1, ?_⟩) ?_ ?_ | refine num_elim ?_ | intro _ | (with_reducible rfl) | ((with_reducible refine lk_t ?_); exact rfl) | ((with_reducible refine pf_t ?_); exact rfl) | refine tell ?_ | exact True.intro | (refine IsT.of ?_; kernel_rfl))
  all_goals (try refine Tell.mk ?_)
  all_goals first | with_reducible rfl | with_reducible assumption | (with_reducible refine gb_f ?_; with_reducible assumption) | skip
  all_goals (try dsimp only at *)
  all_goals first | rfl | (simp only [decide_eq_true_eq, decide_eq_false_iff_not] at *; first | omega | (rw [wrapI (by omega) (by omega)] <;> omega)) | (exfalso; simp_all; done) | skip

/-- A shape's row: whose it is. -/
def unShp1 : List AV → Shp
  | [.int _ k, .flt a, .flt b, .flt c, .flt d, .flt e, .flt f, .flt g, .flt h, .flt i, .flt r, .flt q, .int _ s] => ⟨k, a, b, c, d, e, f, g, h, i, r, q, s⟩
  | _ => ⟨0, 0, 0, 0, 0, 0, 0, 0, 0, 0, 0, 0, 0⟩
def unFld1 : List AV → Fld
  | [.int _ w, .int _ h, .flt x, .flt y, .flt z, .flt d, .sl n _ g, .int _ s] => ⟨w, h, x, y, z, d, n, fun j => toI (g j), s⟩
  | _ => ⟨0, 0, 0, 0, 0, 0, 0, fun _ => 0, 0⟩
def sameShapeS_k : Con Tryz.prog := ⟨25, fun args => match args with | [.agg l, .agg m] => .ok (some (l = (unShp1 l).row ∧ m = (unShp1 l).row)) (.bool true) | _ => .no, by
  intro args p r h hp
  split at h
  · rename_i l m
    cases h
    obtain ⟨h1, h2⟩ := hp
    have := sameShape_a (unShp1 l)
    rw [← h1] at this h2
    rw [h2]
    exact this
  · cases h⟩
def sameFieldS_k : Con Tryz.prog := ⟨26, fun args => match args with | [.agg l, .agg m] => .ok (some (l = (unFld1 l).row ∧ m = (unFld1 l).row ∧ (unFld1 l).self)) (.bool true) | _ => .no, by
  intro args p r h hp
  split at h
  · rename_i l m
    cases h
    obtain ⟨h1, h2, h3⟩ := hp
    have := sameField_a (unFld1 l) h3
    rw [← h1] at this h2
    rw [h2]
    exact this
  · cases h⟩
def Lmp.self (l : Lmp) : Prop := feq l.x l.x = true ∧ feq l.y l.y = true ∧ feq l.z l.z = true
structure Self (s : Scn) : Prop where
  e0 : feq s.e0 s.e0 = true
  e1 : feq s.e1 s.e1 = true
  e2 : feq s.e2 s.e2 = true
  e3 : feq s.e3 s.e3 = true
  e4 : feq s.e4 s.e4 = true
  e5 : feq s.e5 s.e5 = true
  e6 : feq s.e6 s.e6 = true
  e7 : feq s.e7 s.e7 = true
  e8 : feq s.e8 s.e8 = true
  e9 : feq s.e9 s.e9 = true
  g : ∀ i, i < s.n3 → (s.G i).self
  l : ∀ i, i < s.n5 → (s.L i).self
  n : s.n1 ≤ 64 ∧ s.n2 ≤ 8 ∧ s.n3 ≤ 2 ∧ s.n4 ≤ 16 ∧ s.n5 ≤ 4
  t : ∀ i, i < s.n2 → (s.T i).n ≤ 16
structure UpC (n : Nat) where
  v : Nat
  le : v ≤ n
structure UpT (n : Nat) where
  v : Nat
  le : v ≤ n
theorem sameSc_f : FnOk Tryz.prog 12 Tryz.f12 := ⟨Tryz.func12, by kernel_rfl⟩
theorem sameSc_a (s : Scn) (hpre : Self s) : ACalls Tryz.prog 12 [.agg s.row, .agg s.row] (.bool true) := by
  refine acalls_of (inl := hasI (P := Tryz.prog) [] []) (base [sameShapeS_k, sameFieldS_k] [] []) 0 sameSc_f (And.intro (by kernel_rfl) ?_)
  repeat' (first | refine And.intro ?_ ?_ | (with_reducible exact ff_elim) | (with_reducible exact tf_elim) | refine num_elim ?_ | intro _ | (with_reducible rfl) | ((with_reducible refine lk_t ?_); exact rfl) | ((with_reducible refine pf_t ?_); exact rfl) | refine tell ?_ | exact True.intro | (refine IsT.of ?_; kernel_rfl))
  all_goals (try (refine loop_keepS 5 (by rfl) [2, 3] [0, 1] ?_; refine LoopI.mk ({i : Nat // i ≤ s.n1}) (fun i => [(5, .int .i64 i.1)]) (fun _ => []) (fun i => s.n1 - i.1) (⟨0, Nat.zero_le _⟩) (wk_mk [some 0, some 1] ?_) (fun ⟨i, hi⟩ => ?_)))
  repeat' (first | refine And.intro ?_ ?_ | (with_reducible exact ff_elim) | (with_reducible exact tf_elim) | refine stp_mk [some 0, some 1] (⟨i + 1, ?_⟩) ?_ ?_ | refine view_flat rfl rfl ?_ | refine num_elim ?_ | intro _ | (with_reducible rfl) | ((with_reducible refine lk_t ?_); exact rfl) | ((with_reducible refine pf_t ?_); exact rfl) | refine tell ?_ | exact True.intro | (refine IsT.of ?_; kernel_rfl))
  all_goals (try (refine loop_keepS 6 (by rfl) [2, 3] [0, 1] ?_; refine LoopI.mk (UpC s.n2) (fun j => [(6, .int .i64 j.v)]) (fun _ => []) (fun j => s.n2 - j.v) (⟨0, Nat.zero_le _⟩) (wk_mk [some 0, some 1] ?_) (fun ⟨j, hj⟩ => ?_)))
  repeat' (first | refine And.intro ?_ ?_ | (with_reducible exact ff_elim) | (with_reducible exact tf_elim) | refine stp_mk [some 0, some 1] ((⟨j + 1, ?_⟩ : UpC s.n2)) ?_ ?_ | refine view_flat rfl rfl ?_ | refine num_elim ?_ | intro _ | (with_reducible rfl) | ((with_reducible refine lk_t ?_); exact rfl) | ((with_reducible refine pf_t ?_); exact rfl) | refine tell ?_ | exact True.intro | (refine IsT.of ?_; kernel_rfl))
  all_goals (try (refine loop_keepS 9 (by rfl) [2, 3, 6, 7, 8] [0, 1, 77, 84] ?_; refine LoopI.mk (UpT (s.T j).n) (fun k => [(9, .int .i64 k.v)]) (fun _ => []) (fun k => (s.T j).n - k.v) (⟨0, Nat.zero_le _⟩) (wk_mk [some 0, some 1, some 77, some 84] ?_) (fun ⟨k, hk⟩ => ?_)))
  repeat' (first | refine And.intro ?_ ?_ | (with_reducible exact ff_elim) | (with_reducible exact tf_elim) | refine stp_mk [some 0, some 1, some 77, some 84] ((⟨k + 1, ?_⟩ : UpT (s.T j).n)) ?_ ?_ | (refine view_part ?_) | (refine view_flat rfl rfl ?_) | (refine stp_mk [some 0, some 1] (⟨j + 1, ?_⟩ : UpC s.n2) ?_ ?_) | refine num_elim ?_ | intro _ | (with_reducible rfl) | ((with_reducible refine lk_t ?_); exact rfl) | ((with_reducible refine pf_t ?_); exact rfl) | refine tell ?_ | exact True.intro | (refine IsT.of ?_; kernel_rfl))
  all_goals (try (refine loop_keepS 12 (by rfl) [2, 3] [0, 1] ?_; refine LoopI.mk ({a : Nat // a ≤ s.n3}) (fun a => [(12, .int .i64 a.1)]) (fun _ => []) (fun a => s.n3 - a.1) (⟨0, Nat.zero_le _⟩) (wk_mk [some 0, some 1] ?_) (fun ⟨a, ha⟩ => ?_)))
  repeat' (first | refine And.intro ?_ ?_ | (with_reducible exact ff_elim) | (with_reducible exact tf_elim) | refine stp_mk [some 0, some 1] (⟨a + 1, ?_⟩) ?_ ?_ | refine view_flat rfl rfl ?_ | refine num_elim ?_ | intro _ | (with_reducible rfl) | ((with_reducible refine lk_t ?_); exact rfl) | ((with_reducible refine pf_t ?_); exact rfl) | refine tell ?_ | exact True.intro | (refine IsT.of ?_; kernel_rfl))
  all_goals (try (refine loop_keepS 14 (by rfl) [2, 3] [0, 1] ?_; refine LoopI.mk ({b : Nat // b ≤ s.n4}) (fun b => [(14, .int .i64 b.1)]) (fun _ => []) (fun b => s.n4 - b.1) (⟨0, Nat.zero_le _⟩) (wk_mk [some 0, some 1] ?_) (fun ⟨b, hb⟩ => ?_)))
  repeat' (first | refine And.intro ?_ ?_ | (with_reducible exact ff_elim) | (with_reducible exact tf_elim) | refine stp_mk [some 0, some 1] (⟨b + 1, ?_⟩) ?_ ?_ | refine view_flat rfl rfl ?_ | refine num_elim ?_ | intro _ | (with_reducible rfl) | ((with_reducible refine lk_t ?_); exact rfl) | ((with_reducible refine pf_t ?_); exact rfl) | refine tell ?_ | exact True.intro | (refine IsT.of ?_; kernel_rfl))
  all_goals (try (refine loop_keepS 15 (by rfl) [2, 3] [0, 1] ?_; refine LoopI.mk ({c : Nat // c ≤ s.n5}) (fun c => [(15, .int .i64 c.1)]) (fun _ => []) (fun c => s.n5 - c.1) (⟨0, Nat.zero_le _⟩) (wk_mk [some 0, some 1] ?_) (fun ⟨c, hc⟩ => ?_)))
  repeat' (first | refine And.intro ?_ ?_ | (with_reducible exact ff_elim) | (with_reducible exact tf_elim) | refine stp_mk [some 0, some 1] (⟨c + 1, ?_⟩) ?_ ?_ | refine view_flat rfl rfl ?_ | refine num_elim ?_ | intro _ | (with_reducible rfl) | ((with_reducible refine lk_t ?_); exact rfl) | ((with_reducible refine pf_t ?_); exact rfl) | refine tell ?_ | exact True.intro | (refine IsT.of ?_; kernel_rfl))
  all_goals (try refine Tell.mk ?_)
  all_goals first | with_reducible rfl | with_reducible assumption | (with_reducible refine gb_f ?_; with_reducible assumption) | ((show (_ : Nat) ≤ _); decide) | skip
  all_goals (try dsimp only at *)
  all_goals (obtain ⟨n1, n2, n3, n4, n5⟩ := hpre.n)
  all_goals first | rfl | ((show (_ : Nat) ≤ _); decide) | skip
  all_goals (try simp only [decide_eq_true_eq, decide_eq_false_iff_not] at *)
  all_goals first | omega | (rw [wrapI (by omega) (by omega)] <;> omega) | exact (hpre.g _ (by omega)).1 | exact (hpre.g _ (by omega)).2.1 | exact (hpre.g _ (by omega)).2.2.1 | exact (hpre.g _ (by omega)).2.2.2.1 | exact (hpre.g _ (by omega)).2.2.2.2 | skip
  all_goals (try have ht := hpre.t _ (show j < s.n2 by omega))
  all_goals first | omega | (rw [wrapI (by omega) (by omega)] <;> omega) | skip
  all_goals (try have hl := hpre.l _ (show c < s.n5 by omega))
  all_goals (try unfold Lmp.self at hl)
  all_goals (exfalso; first | (simp only [hpre.e0, hpre.e1, hpre.e2, hpre.e3, hpre.e4, hpre.e5, hpre.e6, hpre.e7, hpre.e8, hpre.e9, hl.1, hl.2.1, hl.2.2, bne_self_eq_false, beq_self_eq_true, Bool.not_true, Bool.and_true, Bool.or_false, Bool.and_self, Bool.or_self, Bool.false_eq_true] at *; done) | (simp only [hpre.e0, hpre.e1, hpre.e2, hpre.e3, hpre.e4, hpre.e5, hpre.e6, hpre.e7, hpre.e8, hpre.e9, bne_self_eq_false, beq_self_eq_true, Bool.not_true, Bool.and_true, Bool.or_false, Bool.and_self, Bool.or_self, Bool.false_eq_true] at *; done) | skip)

end Go.Proofs.YtpmmabaecldmkaaGreat
/- Keys and scenes: the law's walk. -/
namespace Go.Proofs.YtpmmabaecldmkaaGreat
open Go.RowKit Ev
set_option linter.unusedVariables false
set_option linter.unusedSimpArgs false
set_option maxRecDepth 20000
set_option maxHeartbeats 4000000

theorem near_self {x : Nat} (h : nearB x = true) : feq x x = true := feq_refl (near_num h)
theorem fine_near {a b c : Nat} (h : fineB a b c = true) : nearB a = true ∧ nearB b = true ∧ nearB c = true := by
  unfold fineB at h
  cases ha : nearB a <;> cases hb : nearB b <;> cases hc : nearB c <;> rw [ha, hb, hc] at h <;> first | (cases h; done) | exact ⟨rfl, rfl, rfl⟩
theorem self_of {s : Scn} (h : sceneE s = 0) : Self s := by
  have hs := scene_ok h
  have hl := hs.lim
  unfold Scn.lim at hl
  have he := hs.eye
  unfold eyeE eyeP at he
  have h1 : fineB s.e0 s.e1 s.e2 = true ∧ fineB s.e3 s.e4 s.e5 = true ∧ fineB s.e6 s.e7 s.e8 = true ∧ nearB s.e9 = true := by
    cases a : fineB s.e0 s.e1 s.e2 <;> cases b : fineB s.e3 s.e4 s.e5 <;> cases c : fineB s.e6 s.e7 s.e8 <;> cases d : nearB s.e9 <;> rw [a, b, c, d] at he <;> first | (cases he; done) | exact ⟨rfl, rfl, rfl, rfl⟩
  obtain ⟨f1, f2, f3, f4⟩ := h1
  obtain ⟨a1, a2, a3⟩ := fine_near f1
  obtain ⟨b1, b2, b3⟩ := fine_near f2
  obtain ⟨c1, c2, c3⟩ := fine_near f3
  refine ⟨near_self a1, near_self a2, near_self a3, near_self b1, near_self b2, near_self b3, near_self c1, near_self c2, near_self c3, near_self f4, fun i hi => ?_, fun i hi => ?_, by omega, fun i hi => (solidE_len (hs.t i hi).1).2⟩
  · have hg := (hs.g i hi).1
    have hn := (fieldE_len hg).2
    have h4 : ¬ (fineB (s.G i).x (s.G i).y (s.G i).z = false ∨ nearB (s.G i).d = false) := fun c => by
      obtain ⟨g, _⟩ := fieldE_len hg
      have w2 := g.w2; have w8 := g.w8; have h2 := g.h2; have h8 := g.h8; have gn := g.n
      unfold Fld.err at hg
      by_cases h3 : (s.G i).s < 0 ∨ 16 ≤ (s.G i).s
      · rw [fieldE_s (by omega) gn h3] at hg; cases hg
      · rw [fieldE_1 (by omega) gn h3 c] at hg; cases hg
    have e1 : fineB (s.G i).x (s.G i).y (s.G i).z = true := by
      cases e : fineB (s.G i).x (s.G i).y (s.G i).z with
      | true => rfl
      | false => exact absurd (.inl e) h4
    have e2 : nearB (s.G i).d = true := by
      cases e : nearB (s.G i).d with
      | true => rfl
      | false => exact absurd (.inr e) h4
    obtain ⟨d1, d2, d3⟩ := fine_near e1
    exact ⟨near_self d1, near_self d2, near_self d3, near_self e2, hn⟩
  · have hl := hs.l i hi
    have e1 : fineB (s.L i).x (s.L i).y (s.L i).z = true := by
      cases e : fineB (s.L i).x (s.L i).y (s.L i).z with
      | true => rfl
      | false => rw [lmp_1 e] at hl; cases hl
    obtain ⟨d1, d2, d3⟩ := fine_near e1
    exact ⟨near_self d1, near_self d2, near_self d3⟩
theorem self_zero : Self zeroS := by
  have h : feq 0 0 = true := feq_refl zero_num
  exact ⟨h, h, h, h, h, h, h, h, h, h, (fun i hi => absurd hi (Nat.not_lt_zero _)), (fun i hi => absurd hi (Nat.not_lt_zero _)), by decide, fun i hi => absurd hi (Nat.not_lt_zero _)⟩
theorem self_mov (s : Scn) (w : Int) (n : Nat) (K : Nat → Int) (t : Int) : Self (movO s w n K t) := by
  unfold movO
  split
  · rename_i h
    unfold movE at h
    obtain ⟨h1, h2⟩ := orE_00 h
    split at h2
    · cases h2
    · exact self_of (orE_00 h2).2
  · exact self_zero
def movedPK (s : Scn) (w : Int) (n : Nat) (K : Nat → Int) (t : Int) : Con Tryz.prog := ⟨10, fun args => .ok (some (args = [.agg s.row, .int .i64 w, ints4 .i64 n K, .int .i64 t] ∧ (∀ j, In64 (K j)) ∧ In64 t)) (.tup [.agg (movO s w n K t).row, .int .i64 (movE s w n K t)]), by
  intro args p r h hp
  cases h
  obtain ⟨rfl, h2⟩ := hp
  exact movedP_a s w n K t h2⟩
def movedRK (s : Scn) (w : Int) (n : Nat) (K : Nat → Int) (t : Int) : Con Tryz.prog := ⟨11, fun args => .ok (some (args = [.agg s.row, .int .i64 w, ints4 .i64 n K, .int .i64 t] ∧ (∀ j, In64 (K j)) ∧ In64 t)) (.tup [.agg (movO s w n K t).row, .int .i64 (movE s w n K t)]), by
  intro args p r h hp
  cases h
  obtain ⟨rfl, h2⟩ := hp
  exact movedR_a s w n K t h2⟩
def sameScK (s : Scn) : Con Tryz.prog := ⟨12, fun args => .ok (some (args = [.agg s.row, .agg s.row] ∧ Self s)) (.bool true), by
  intro args p r h hp
  cases h
  obtain ⟨rfl, h2⟩ := hp
  exact sameSc_a s h2⟩
theorem reelSays_f : FnOk Tryz.prog 3 Tryz.f3 := ⟨Tryz.func3, by kernel_rfl⟩
theorem reelSays_a (s : Scn) (w : Int) (n : Nat) (K : Nat → Int) (t : Int) (hpre : (∀ j, In64 (K j)) ∧ In64 t) : ACalls Tryz.prog 3 [.agg s.row, .int .i64 w, ints4 .i64 n K, .int .i64 t] (.bool true) := by
  refine acalls_of (inl := hasI (P := Tryz.prog) [⟨5, Tryz.f5, Tryz.func5, by kernel_rfl⟩] []) (base [reelMay_k, reelAt_k, keysMayR_k, keysAtR_k, (movedPK s w n K t), (movedRK s w n K t), (sameScK (movO s w n K t))] [⟨5, Tryz.f5, Tryz.func5, by kernel_rfl⟩] []) 4 reelSays_f (And.intro (by kernel_rfl) ?_)
  repeat' (first | refine And.intro ?_ ?_ | (with_reducible exact ff_elim) | (with_reducible exact tf_elim) | refine num_elim ?_ | intro _ | (with_reducible rfl) | ((with_reducible refine lk_t ?_); exact rfl) | ((with_reducible refine pf_t ?_); exact rfl) | refine tell ?_ | exact True.intro | (refine IsT.of ?_; kernel_rfl))
  all_goals (try refine Tell.mk ?_)
  all_goals first | with_reducible rfl | with_reducible assumption | (with_reducible refine gb_t ?_; with_reducible assumption) | (with_reducible refine gb_f ?_; with_reducible assumption) | ((with_reducible refine okF_t ?_); kernel_rfl) | exact isI_mk | exact hpre.1 _ | exact hpre.2 | exact self_mov _ _ _ _ _ | rfl | (simp only [beq_self_eq_true, Bool.and_true]; done) | (exfalso; simp only [bne_self_eq_false, beq_self_eq_true, Bool.not_true, Bool.and_true, Bool.or_false, Bool.and_self, Bool.or_self, Bool.false_eq_true] at *; done) | skip
  trace_state
end Go.Proofs.YtpmmabaecldmkaaGreat
/- The law of moving scenes, as the arguments of a law are opened. -/
namespace Go.Proofs.YtpmmabaecldmkaaGreat
open Go.RowKit Ev
set_option linter.unusedVariables false
set_option linter.unusedSimpArgs false
set_option maxRecDepth 20000
set_option maxHeartbeats 4000000

theorem ints_ofN {k : IntKind} {m : Nat} {cs : Nat → CS} {g : Nat → AV} (hcs : ∀ j, cs (j % m) = .int k) (h : ∀ j, Shape (cs (j % m)) (g j)) : ∃ F : Nat → Int, g = (fun j => .int k (F j)) ∧ ∀ j, (Lit.int k (F j)).wf = true := by
  have h' : ∀ j, ∃ n, g j = .int k n ∧ (Lit.int k n).wf = true := fun j => by
    have := h j
    rw [hcs] at this
    exact this
  obtain ⟨F, hF⟩ := Classical.axiomOfChoice h'
  exact ⟨F, funext fun j => (hF j).1, fun j => (hF j).2⟩
theorem sh_at {m : Nat} {cs : List CS} {g : Nat → AV} (h : ∀ j, Shape (cs.getD (j % m) .other) (g j)) (i c : Nat) (hc : Nat.blt c m = true) : Shape (cs.getD c .other) (g (i * m + c)) := by
  have hc := Nat.le_of_ble_eq_true hc
  have := h (i * m + c)
  rwa [Nat.mul_comm, Nat.mul_add_mod, Nat.mod_eq_of_lt hc, Nat.mul_comm] at this
theorem flat_of {m : Nat} (hm : 0 < m) {g : Nat → AV} {row : Nat → List AV} (h : ∀ i c, c < m → (row i).getD c .any = g (i * m + c)) : g = flatF m row := by
  funext j
  unfold flatF
  rw [h (j / m) (j % m) (Nat.mod_lt _ hm)]
  congr 1
  rw [Nat.mul_comm]; exact (Nat.div_add_mod j m).symm
theorem sh_int {k : IntKind} {v : AV} (h : Shape (.int k) v) : AV.int k (toI v) = v := by obtain ⟨n, rfl, _⟩ := h; rfl
theorem sh_flt {v : AV} (h : Shape .flt v) : AV.flt (toF v) = v := by obtain ⟨n, rfl, _⟩ := h; rfl
theorem part_of {g : Nat → AV} (w : ∀ j, Shape (List.getD [.int .i64, .int .i64, .int .i64, .int .i64, .flt, .flt, .flt, .flt, .flt, .flt, .flt, .flt, .flt, .flt, .flt, .int .i64] (j % 16) .other) (g j)) : partF (unPrt g) = g := by
  have e : g = flatF 16 fun i => (unPrt g i).row := by
    refine flat_of (by decide) fun i c hc => ?_
    match c, hc with
    | 0, _ => exact sh_int (sh_at w i 0 rfl)
    | 1, _ => exact sh_int (sh_at w i 1 rfl)
    | 2, _ => exact sh_int (sh_at w i 2 rfl)
    | 3, _ => exact sh_int (sh_at w i 3 rfl)
    | 4, _ => exact sh_flt (sh_at w i 4 rfl)
    | 5, _ => exact sh_flt (sh_at w i 5 rfl)
    | 6, _ => exact sh_flt (sh_at w i 6 rfl)
    | 7, _ => exact sh_flt (sh_at w i 7 rfl)
    | 8, _ => exact sh_flt (sh_at w i 8 rfl)
    | 9, _ => exact sh_flt (sh_at w i 9 rfl)
    | 10, _ => exact sh_flt (sh_at w i 10 rfl)
    | 11, _ => exact sh_flt (sh_at w i 11 rfl)
    | 12, _ => exact sh_flt (sh_at w i 12 rfl)
    | 13, _ => exact sh_flt (sh_at w i 13 rfl)
    | 14, _ => exact sh_flt (sh_at w i 14 rfl)
    | 15, _ => exact sh_int (sh_at w i 15 rfl)
    | c + 16, hc => omega
  funext j
  have e1 := congrFun e j
  rw [e1]
  unfold partF flatF
  have : j % 16 < 16 := Nat.mod_lt _ (by decide)
  generalize j % 16 = c at *
  match c, this with
  | 0, _ => rfl
  | 1, _ => rfl
  | 2, _ => rfl
  | 3, _ => rfl
  | 4, _ => rfl
  | 5, _ => rfl
  | 6, _ => rfl
  | 7, _ => rfl
  | 8, _ => rfl
  | 9, _ => rfl
  | 10, _ => rfl
  | 11, _ => rfl
  | 12, _ => rfl
  | 13, _ => rfl
  | 14, _ => rfl
  | 15, _ => rfl
  | c + 16, hc => omega
theorem shp_of {g : Nat → AV} (w : ∀ j, Shape (List.getD [.int .i64, .flt, .flt, .flt, .flt, .flt, .flt, .flt, .flt, .flt, .flt, .flt, .int .i64] (j % 13) .other) (g j)) : g = flatF 13 fun i => (unShp g i).row := by
  refine flat_of (by decide) fun i c hc => ?_
  match c, hc with
  | 0, _ => exact sh_int (sh_at w i 0 rfl)
  | 1, _ => exact sh_flt (sh_at w i 1 rfl)
  | 2, _ => exact sh_flt (sh_at w i 2 rfl)
  | 3, _ => exact sh_flt (sh_at w i 3 rfl)
  | 4, _ => exact sh_flt (sh_at w i 4 rfl)
  | 5, _ => exact sh_flt (sh_at w i 5 rfl)
  | 6, _ => exact sh_flt (sh_at w i 6 rfl)
  | 7, _ => exact sh_flt (sh_at w i 7 rfl)
  | 8, _ => exact sh_flt (sh_at w i 8 rfl)
  | 9, _ => exact sh_flt (sh_at w i 9 rfl)
  | 10, _ => exact sh_flt (sh_at w i 10 rfl)
  | 11, _ => exact sh_flt (sh_at w i 11 rfl)
  | 12, _ => exact sh_int (sh_at w i 12 rfl)
  | c + 13, hc => omega
theorem sol_of {g : Nat → AV} (w : ∀ j, Shape (List.getD [.sl 16 (fun i => List.getD [.int .i64, .int .i64, .int .i64, .int .i64, .flt, .flt, .flt, .flt, .flt, .flt, .flt, .flt, .flt, .flt, .flt, .int .i64] i .other), .int .i64] (j % 2) .other) (g j)) : g = flatF 2 fun i => (unSol g i).row := by
  refine flat_of (by decide) fun i c hc => ?_
  match c, hc with
  | 0, _ =>
    obtain ⟨n, g', e, _, w'⟩ := sh_at w i 0 rfl
    show AV.sl (slN (g (i * 2 + 0))) 16 (partF (unPrt (slG (g (i * 2 + 0))))) = _
    rw [e]
    show AV.sl n 16 (partF (unPrt g')) = _
    rw [part_of w']
  | 1, _ => exact sh_int (sh_at w i 1 rfl)
  | c + 2, hc => omega
theorem fld_of {g : Nat → AV} (w : ∀ j, Shape (List.getD [.int .i64, .int .i64, .flt, .flt, .flt, .flt, .sl 1 (fun i => List.getD [.int .i64] i .other), .int .i64] (j % 8) .other) (g j)) : g = flatF 8 fun i => (unFld g i).row := by
  refine flat_of (by decide) fun i c hc => ?_
  match c, hc with
  | 0, _ => exact sh_int (sh_at w i 0 rfl)
  | 1, _ => exact sh_int (sh_at w i 1 rfl)
  | 2, _ => exact sh_flt (sh_at w i 2 rfl)
  | 3, _ => exact sh_flt (sh_at w i 3 rfl)
  | 4, _ => exact sh_flt (sh_at w i 4 rfl)
  | 5, _ => exact sh_flt (sh_at w i 5 rfl)
  | 6, _ =>
    obtain ⟨n, g', e, _, w'⟩ := sh_at w i 6 rfl
    show AV.sl (slN (g (i * 8 + 6))) 1 (fun j => AV.int .i64 (toI (slG (g (i * 8 + 6)) j))) = _
    rw [e]
    show AV.sl n 1 (fun j => AV.int .i64 (toI (g' j))) = _
    congr 1
    funext j
    have := w' j
    rw [Nat.mod_one] at this
    exact sh_int this
  | 7, _ => exact sh_int (sh_at w i 7 rfl)
  | c + 8, hc => omega
theorem lmp_of {g : Nat → AV} (w : ∀ j, Shape (List.getD [.flt, .flt, .flt, .int .i64, .int .i64, .int .i64] (j % 6) .other) (g j)) : g = flatF 6 fun i => (unLmp g i).row := by
  refine flat_of (by decide) fun i c hc => ?_
  match c, hc with
  | 0, _ => exact sh_flt (sh_at w i 0 rfl)
  | 1, _ => exact sh_flt (sh_at w i 1 rfl)
  | 2, _ => exact sh_flt (sh_at w i 2 rfl)
  | 3, _ => exact sh_int (sh_at w i 3 rfl)
  | 4, _ => exact sh_int (sh_at w i 4 rfl)
  | 5, _ => exact sh_int (sh_at w i 5 rfl)
  | c + 6, hc => omega
theorem skn_of (F : Nat → Int) : (fun j => AV.int .i64 (F j)) = flatF 10 fun i => (unSkn (fun j => AV.int .i64 (F j)) i).row := by
  refine flat_of (by decide) fun i c hc => ?_
  match c, hc with
  | 0, _ => rfl
  | 1, _ => rfl
  | 2, _ => rfl
  | 3, _ => rfl
  | 4, _ => rfl
  | 5, _ => rfl
  | 6, _ => rfl
  | 7, _ => rfl
  | 8, _ => rfl
  | 9, _ => rfl
  | c + 10, hc => omega
theorem reelSaysG_f : FnOk Tryz.prog 3 Tryz.f3 := reelSays_f
theorem reelSaysG_a (n1 : Nat) (g1 : Nat → AV) (w1 : ∀ j, Shape (List.getD [.int .i64, .flt, .flt, .flt, .flt, .flt, .flt, .flt, .flt, .flt, .flt, .flt, .int .i64] (j % 13) .other) (g1 j)) (n2 : Nat) (g2 : Nat → AV) (w2 : ∀ j, Shape (List.getD [.sl 16 (fun i => List.getD [.int .i64, .int .i64, .int .i64, .int .i64, .flt, .flt, .flt, .flt, .flt, .flt, .flt, .flt, .flt, .flt, .flt, .int .i64] i .other), .int .i64] (j % 2) .other) (g2 j)) (n3 : Nat) (g3 : Nat → AV) (w3 : ∀ j, Shape (List.getD [.int .i64, .int .i64, .flt, .flt, .flt, .flt, .sl 1 (fun i => List.getD [.int .i64] i .other), .int .i64] (j % 8) .other) (g3 j)) (n4 : Nat) (F4 : Nat → Int) (n5 : Nat) (g5 : Nat → AV) (w5 : ∀ j, Shape (List.getD [.flt, .flt, .flt, .int .i64, .int .i64, .int .i64] (j % 6) .other) (g5 j)) (a b c : Int) (e0 e1 e2 e3 e4 e5 e6 e7 e8 e9 : Nat) (w : Int) (nk : Nat) (K : Nat → Int) (t : Int) (h : (∀ j, In64 (K j)) ∧ In64 t) :
    ACalls Tryz.prog 3 ([.agg [.sl n1 13 g1, .sl n2 2 g2, .sl n3 8 g3, .sl n4 10 (fun j => .int .i64 (F4 j)), .sl n5 6 g5, .int .i64 a, .int .i64 b, .int .i64 c, .flt e0, .flt e1, .flt e2, .flt e3, .flt e4, .flt e5, .flt e6, .flt e7, .flt e8, .flt e9], .int .i64 w, .sl nk 4 (fun j => .int .i64 (K j)), .int .i64 t]) (.bool true) := by
  have := reelSays_a ⟨n1, unShp g1, n2, unSol g2, n3, unFld g3, n4, unSkn (fun j => AV.int .i64 (F4 j)), n5, unLmp g5, a, b, c, e0, e1, e2, e3, e4, e5, e6, e7, e8, e9⟩ w nk K t h
  unfold Scn.row at this
  rw [← shp_of w1, ← sol_of w2, ← fld_of w3, ← skn_of F4, ← lmp_of w5] at this
  exact this
end Go.Proofs.YtpmmabaecldmkaaGreat
