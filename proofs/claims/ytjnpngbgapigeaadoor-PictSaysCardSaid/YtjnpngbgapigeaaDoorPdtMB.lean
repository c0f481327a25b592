/- Pictures as text: the text of a picture, and what is read of it, plain. -/
import Derived.Test.YtjnpngbgapigeaaDoorPdtM
import Derived.Lib.ItoaNum
import Derived.Shelf.Strconv.Itoa3
import Derived.Shelf.LaysM
import Derived.Shelf.Strings.Builder1
import Derived.WalkKit
import Derived.Lib.Builder
import Derived.Lib.AppendStr
import Derived.Test.YtjnpngbgapigeaaDoorPdtM
import Derived.Shelf.RegionOpenPlain
import Derived.Lib.AppendIntMem
namespace Go.Proofs.YtjnpngbgapigeaaDoor
open Go.RowKit Ev
set_option linter.unusedVariables false
set_option linter.unusedSimpArgs false
set_option maxRecDepth 20000
set_option maxHeartbeats 4000000

/-- A number below a thousand, in digits. -/
def decN (n : Nat) : List UInt8 := if n < 10 then [UInt8.ofNat (48 + n)] else if n < 100 then [UInt8.ofNat (48 + n / 10), UInt8.ofNat (48 + n % 10)] else [UInt8.ofNat (48 + n / 100), UInt8.ofNat (48 + n / 10 % 10), UInt8.ofNat (48 + n % 10)]
theorem dec_lib {n : Nat} (h : n < 1000) : Lib.decDigits n = decN n := by
  unfold decN
  rw [Lib.decDigits]
  by_cases a : n < 10
  · rw [dif_pos a, if_pos a]
  · rw [dif_neg a, if_neg a, Lib.decDigits]
    by_cases b : n < 100
    · rw [dif_pos (by omega), if_pos b]; rfl
    · rw [dif_neg (by omega), if_neg b, Lib.decDigits, dif_pos (by omega), Nat.div_div_eq_div_mul]; rfl
def plainC (c : UInt8) : Bool := !(sepB c) && (!(c == 10) && !(c == 35))
theorem dec_all : ∀ n, n < 256 → smE (decN n) = 0 ∧ smV (decN n) = (n : Int) ∧ (decN n).all plainC = true ∧ decN n ≠ [] := by decide +kernel
theorem step_plain {out : List (List UInt8)} {w : List UInt8} {c : UInt8} (h : plainC c = true) : PWS.step ⟨out, w, false⟩ c = ⟨out, w ++ [c], false⟩ := by
  unfold plainC at h
  simp only [Bool.and_eq_true, Bool.not_eq_true'] at h
  unfold PWS.step
  simp [h.1, h.2.1, h.2.2]
theorem fold_word {out : List (List UInt8)} : ∀ (d w : List UInt8), d.all plainC = true → d.foldl PWS.step ⟨out, w, false⟩ = ⟨out, w ++ d, false⟩
  | [], w, _ => by simp
  | c :: d, w, h => by
    rw [List.all_cons, Bool.and_eq_true] at h
    rw [List.foldl_cons, step_plain h.1, fold_word d _ h.2]
    simp
theorem step_sp (out : List (List UInt8)) (w : List UInt8) : PWS.step ⟨out, w, false⟩ 32 = ⟨flW (out, w), [], false⟩ := rfl
theorem step_nl (out : List (List UInt8)) (w : List UInt8) : PWS.step ⟨out, w, false⟩ 10 = ⟨flW (out, w), [], false⟩ := rfl
theorem fl_ne {out : List (List UInt8)} {w : List UInt8} (h : w ≠ []) : flW (out, w) = out ++ [w] := by unfold flW; rw [if_neg h]
/-- The text of a picture: rows, numbers within a row. -/
def rowP (V : Nat → Int) (o : Nat) : Nat → List UInt8
  | 0 => []
  | k + 1 => rowP V o k ++ ((if 0 < k then [32] else []) ++ decN (V (o + k)).toNat)
def headT (w h : Int) : List UInt8 := [80, 51, 10] ++ (decN w.toNat ++ ([32] ++ (decN h.toNat ++ [10, 50, 53, 53, 10])))
def rowsT (w h : Int) (V : Nat → Int) : Nat → List UInt8
  | 0 => headT w h
  | y + 1 => rowsT w h V y ++ (rowP V (3 * w.toNat * y) (3 * w.toNat) ++ [10])
/-- The m-th number of a picture: no coverings. -/
def colV (A : Nat → Int) (m : Nat) : Int := A (4 * (m / 3) + m % 3)
def txL (w h : Int) (A : Nat → Int) : List UInt8 := rowsT w h (colV A) h.toNat
def wsV (V : Nat → Int) (o n : Nat) : List (List UInt8) := (List.range n).map fun m => decN (V (o + m)).toNat
theorem ws_succ (V : Nat → Int) (o n : Nat) : wsV V o (n + 1) = wsV V o n ++ [decN (V (o + n)).toNat] := by unfold wsV; rw [List.range_succ, List.map_append]; rfl
theorem ws_add (V : Nat → Int) (a b : Nat) : wsV V 0 a ++ wsV V a b = wsV V 0 (a + b) := by
  unfold wsV
  rw [List.range_add, List.map_append, List.map_map]
  congr 1
  exact List.map_congr_left fun m _ => by simp
section
variable {V : Nat → Int} (hV : U8s V)
include hV
theorem dec_v (m : Nat) : smE (decN (V m).toNat) = 0 ∧ smV (decN (V m).toNat) = V m ∧ (decN (V m).toNat).all plainC = true ∧ decN (V m).toNat ≠ [] := by
  have h := hV m
  have d := dec_all (V m).toNat (by omega)
  exact ⟨d.1, by rw [d.2.1]; omega, d.2.2⟩
theorem fold_row (o : Nat) (L0 : List (List UInt8)) : ∀ k, (rowP V o (k + 1)).foldl PWS.step ⟨L0, [], false⟩ = ⟨L0 ++ wsV V o k, decN (V (o + k)).toNat, false⟩
  | 0 => by
    have d := dec_v hV (o + 0)
    show (([] : List UInt8) ++ ((if 0 < 0 then [32] else []) ++ decN (V (o + 0)).toNat)).foldl PWS.step _ = _
    rw [if_neg (by decide), List.nil_append, List.nil_append, fold_word _ _ d.2.2.1]
    simp [wsV]
  | k + 1 => by
    have d := dec_v hV (o + (k + 1))
    have d0 := dec_v hV (o + k)
    show (rowP V o (k + 1) ++ ((if 0 < k + 1 then [32] else []) ++ decN (V (o + (k + 1))).toNat)).foldl PWS.step _ = _
    rw [if_pos (by omega), List.foldl_append, fold_row o L0 k, List.foldl_append, List.foldl_cons, List.foldl_nil, step_sp, fl_ne d0.2.2.2, fold_word _ _ d.2.2.1, ws_succ]
    simp
theorem fold_rows {w h : Int} (hw : 1 ≤ w) (H : List (List UInt8)) (hH : (headT w h).foldl PWS.step ⟨[], [], false⟩ = ⟨H, [], false⟩) : ∀ y, (rowsT w h V y).foldl PWS.step ⟨[], [], false⟩ = ⟨H ++ wsV V 0 (3 * w.toNat * y), [], false⟩
  | 0 => by
    show (headT w h).foldl _ _ = _
    rw [hH]; simp [wsV]
  | y + 1 => by
    show (rowsT w h V y ++ (rowP V (3 * w.toNat * y) (3 * w.toNat) ++ [10])).foldl PWS.step _ = _
    obtain ⟨k, hk⟩ : ∃ k, 3 * w.toNat = k + 1 := ⟨3 * w.toNat - 1, by omega⟩
    have d := dec_v hV (3 * w.toNat * y + k)
    have e := fold_row hV (3 * w.toNat * y) (H ++ wsV V 0 (3 * w.toNat * y)) k
    rw [← hk] at e
    rw [List.foldl_append, fold_rows hw H hH y, List.foldl_append, e, List.foldl_cons, List.foldl_nil, step_nl, fl_ne d.2.2.2, List.append_assoc, ← ws_succ, List.append_assoc, ws_add, ← hk, Nat.mul_succ]
end
/-- The words before the numbers. -/
def headW (w h : Int) : List (List UInt8) := [[80, 51], decN w.toNat, decN h.toNat, [50, 53, 53]]
theorem fold_head {w h : Int} (hs : Side w h) : (headT w h).foldl PWS.step ⟨[], [], false⟩ = ⟨headW w h, [], false⟩ := by
  obtain ⟨a, b, c, d⟩ := hs
  have dw := dec_all w.toNat (by omega)
  have dh := dec_all h.toNat (by omega)
  unfold headT
  rw [List.foldl_append, show ([80, 51, 10] : List UInt8).foldl PWS.step ⟨[], [], false⟩ = ⟨[[80, 51]], [], false⟩ from rfl, List.foldl_append, fold_word _ _ dw.2.2.1, List.foldl_append, List.foldl_cons, List.foldl_nil, step_sp, List.nil_append, fl_ne dw.2.2.2, List.foldl_append, fold_word _ _ dh.2.2.1, List.nil_append,
    show ([10, 50, 53, 53, 10] : List UInt8) = [10] ++ ([50, 53, 53] ++ [10]) from rfl, List.foldl_append, List.foldl_cons, List.foldl_nil, step_nl, fl_ne dh.2.2.2, List.foldl_append, fold_word _ _ (by decide), List.foldl_cons, List.foldl_nil, step_nl]
  rfl
theorem col_u8 {A : Nat → Int} (hA : U8s A) : U8s (colV A) := fun m => hA _
/-- The words of a picture's text. -/
theorem words_tx {A : Nat → Int} (hA : U8s A) {w h : Int} (hs : Side w h) : pwords (txL w h A) = headW w h ++ wsV (colV A) 0 (3 * w.toNat * h.toNat) := by
  unfold pwords txL
  rw [List.foldl_append, fold_rows (col_u8 hA) hs.1 _ (fold_head hs)]
  rfl
theorem ws_len (V : Nat → Int) (o n : Nat) : (wsV V o n).length = n := by unfold wsV; simp
theorem ws_get (V : Nat → Int) (o n m : Nat) (h : m < n) : (wsV V o n).getD m [] = decN (V (o + m)).toNat := by
  unfold wsV
  rw [List.getD, List.getElem?_map, List.getElem?_range h]; rfl
section
variable {A : Nat → Int} {w h : Int}
theorem tx_num (hA : U8s A) (hs : Side w h) {m : Nat} (hm : m < 3 * w.toNat * h.toNat) : errAt (headW w h ++ wsV (colV A) 0 (3 * w.toNat * h.toNat)) (4 + m) = 0 ∧ valAt (headW w h ++ wsV (colV A) 0 (3 * w.toNat * h.toNat)) (4 + m) = colV A m := by
  have d := dec_v (col_u8 hA) m
  have hl : 4 + m < (headW w h ++ wsV (colV A) 0 (3 * w.toNat * h.toNat)).length := by rw [List.length_append, ws_len]; show 4 + m < 4 + _; omega
  have hg : (headW w h ++ wsV (colV A) 0 (3 * w.toNat * h.toNat)).getD (4 + m) [] = decN (colV A m).toNat := by
    rw [List.getD, List.getElem?_append_right (by show 4 ≤ 4 + m; omega), show 4 + m - (headW w h).length = m by show 4 + m - 4 = m; omega]
    have := ws_get (colV A) 0 _ m hm
    rw [Nat.zero_add] at this
    exact this
  rw [err_in hl, val_in hl, hg]
  exact ⟨d.1, d.2.1⟩
theorem tx_head (hs : Side w h) (r : List (List UInt8)) : (headW w h ++ r).getD 0 [] = p3 ∧ (∀ j, j < 3 → errAt (headW w h ++ r) (1 + j) = 0) ∧ valAt (headW w h ++ r) 1 = w ∧ valAt (headW w h ++ r) 2 = h ∧ valAt (headW w h ++ r) 3 = 255 := by
  obtain ⟨a, b, c, d⟩ := hs
  have dw := dec_all w.toNat (by omega)
  have dh := dec_all h.toNat (by omega)
  have d5 := dec_all 255 (by decide)
  have hl : ∀ k, k < 4 → k < (headW w h ++ r).length := fun k hk => by rw [List.length_append]; show k < 4 + _; omega
  have g1 : (headW w h ++ r).getD 1 [] = decN w.toNat := rfl
  have g2 : (headW w h ++ r).getD 2 [] = decN h.toNat := rfl
  have g3 : (headW w h ++ r).getD 3 [] = decN 255 := rfl
  refine ⟨rfl, fun j hj => ?_, ?_, ?_, ?_⟩
  · match j, hj with
    | 0, _ => rw [err_in (hl _ (by decide)), g1]; exact dw.1
    | 1, _ => rw [err_in (hl _ (by decide)), g2]; exact dh.1
    | 2, _ => rw [err_in (hl _ (by decide)), g3]; exact d5.1
  · rw [val_in (hl _ (by decide)), g1, dw.2.1]; omega
  · rw [val_in (hl _ (by decide)), g2, dh.2.1]; omega
  · rw [val_in (hl _ (by decide)), g3, d5.2.1]; rfl
/-- WHAT IS WRITTEN IS READ AS IT WAS, without its coverings. -/
theorem read_text (hA : U8s A) (hs : Side w h) : rdE (pwords (txL w h A)) = 0 ∧ valAt (pwords (txL w h A)) 1 = w ∧ valAt (pwords (txL w h A)) 2 = h ∧ rdN (pwords (txL w h A)) + rdN (pwords (txL w h A)) / 3 = (4 * (w * h)).toNat ∧
    ∀ j, j < (4 * (w * h)).toNat → rdP (pwords (txL w h A)) j = if j % 4 = 3 then 255 else A j := by
  rw [words_tx hA hs]
  obtain ⟨t0, t1, t2, t3, t4⟩ := tx_head hs (wsV (colV A) 0 (3 * w.toNat * h.toNat))
  have bd := hs.wh
  obtain ⟨M, hM⟩ : ∃ M : Nat, w * h = M := ⟨(w * h).toNat, by omega⟩
  have hN : 3 * w.toNat * h.toNat = 3 * M := by
    have e : (w.toNat : Int) * (h.toNat : Int) = (M : Int) := by rw [Int.toNat_of_nonneg (by have := hs.1; omega), Int.toNat_of_nonneg (by have := hs.2.2.1; omega), hM]
    have e2 : w.toNat * h.toNat = M := by exact_mod_cast e
    rw [Nat.mul_assoc, e2]
  have num := fun m => tx_num (m := m) hA hs
  rw [hN] at num t0 t1 t2 t3 t4 ⊢
  have hR : rdN (headW w h ++ wsV (colV A) 0 (3 * M)) = 3 * M := by unfold rdN; rw [t2, t3, hM]; omega
  have hlen : (headW w h ++ wsV (colV A) 0 (3 * M)).length = 4 + 3 * M := by rw [List.length_append, ws_len]; rfl
  refine ⟨?_, t2, t3, by rw [hR, hM]; omega, fun j hj => ?_⟩
  · rw [rdE_end (by omega) t0 t1 (by rw [t2, t3]; exact hs) t4 fun j hj => (num j (by rw [hR] at hj; exact hj)).1, hR, hlen, if_neg (by omega)]
  · unfold rdP
    split
    · rfl
    · rename_i hj3
      rw [hM] at hj
      rw [(num (3 * (j / 4) + j % 4) (by omega)).2]
      unfold colV
      congr 1
      omega
end
end Go.Proofs.YtjnpngbgapigeaaDoor
/- Pictures as text: the document's digits and text, walked. -/
namespace Go.Proofs.YtjnpngbgapigeaaDoor
open Go.RowKit Ev
set_option linter.unusedVariables false
set_option linter.unusedSimpArgs false
set_option maxRecDepth 20000
set_option maxHeartbeats 8000000

theorem bs_app (a b : List UInt8) : bs a ++ bs b = bs (a ++ b) := by
  apply toList_inj
  rw [toList_data, toList_data]
  show (bs a ++ bs b).data.toList = (bs (a ++ b)).data.toList
  rw [ByteArray.data_append, Array.toList_append]
  simp [bs_list]
theorem strI_bs {n : Nat} {P : Nat → Int} {l : List UInt8} (h : (List.range n).map (fun j => UInt8.ofNat (P j).toNat) = l) : strI n P = bs l := by
  apply toList_inj
  rw [toList_data, toList_data, strI_data, bs_list, h]
theorem strI_dig {k : Nat} (h : k < 10) : (strI 1 fun x => IntKind.u8.wrap (IntKind.i64.wrap (48 + (k : Int)))) = bs [UInt8.ofNat (48 + k)] := by
  refine strI_bs ?_
  have e : (IntKind.u8.wrap (IntKind.i64.wrap (48 + (k : Int)))).toNat = 48 + k := by
    rw [wrapI (by omega) (by omega), wrapU8 (by omega) (by omega)]; omega
  show [UInt8.ofNat (IntKind.u8.wrap (IntKind.i64.wrap (48 + (k : Int)))).toNat] = _
  rw [e]
theorem dec_one {k : Nat} (h : k < 10) : decN k = [UInt8.ofNat (48 + k)] := by unfold decN; rw [if_pos h]
theorem dec_rec : ∀ m, m < 256 → 10 ≤ m → decN m = decN (m / 10) ++ [UInt8.ofNat (48 + m % 10)] := by decide +kernel
theorem dec_len : ∀ m, m < 256 → (decN m).length ≤ 3 := by decide +kernel
theorem td10 (m : Nat) : (m : Int).tdiv 10 = ((m / 10 : Nat) : Int) := by rw [Int.tdiv_eq_ediv_of_nonneg (by omega)]; omega
theorem tm10 (m : Nat) : (m : Int).tmod 10 = ((m % 10 : Nat) : Int) := by rw [Int.tmod_eq_emod_of_nonneg (by omega)]; omega
theorem w64 {m : Nat} (h : m < 100000) : IntKind.i64.wrap (m : Int) = (m : Int) := wrapI (by omega) (by omega)
theorem decA_f : FnOk Tryd.prog 36 Tryd.f36 := ⟨Tryd.func36, by kernel_rfl⟩
theorem decA_a (n : Int) (hpre : 0 ≤ n ∧ n < 10) : ACalls Tryd.prog 36 [.int .i64 n] (.str (bs (decN n.toNat))) := by
  refine acalls_of (inl := hasI (P := Tryd.prog) [] []) (base [] [] []) 0 decA_f (And.intro (by kernel_rfl) ?_)
  obtain ⟨h0, h1⟩ := hpre
  obtain ⟨m, rfl⟩ : ∃ m : Nat, n = m := ⟨n.toNat, by omega⟩
  repeat' (first | refine And.intro ?_ ?_ | (with_reducible exact ff_elim) | (with_reducible exact tf_elim) | refine num_elim ?_ | intro _ | (with_reducible rfl) | ((with_reducible refine lk_t ?_); exact rfl) | ((with_reducible refine pf_t ?_); exact rfl) | refine tell ?_ | exact True.intro | (refine IsT.of ?_; kernel_rfl))
  all_goals (try exact (1 : Nat))
  all_goals (try refine Tell.mk ?_)
  all_goals (try dsimp only at *)
  all_goals first | with_reducible rfl | with_reducible exact isI_mk | with_reducible assumption | (with_reducible refine gb_t ?_; with_reducible assumption) | (with_reducible refine gb_f ?_; with_reducible assumption) | skip
  all_goals (try simp only [decide_eq_true_eq, decide_eq_false_iff_not, mulN1, avInt_int] at *)
  all_goals first | rfl | omega | (exfalso; omega) | skip
  all_goals (have w1 : IntKind.i64.wrap ((m / 10 : Nat) : Int) = ((m / 10 : Nat) : Int) := w64 (by omega))
  all_goals (try simp only [td10, tm10, w1, Int.toNat_natCast] at *)
  all_goals (try rw [strI_dig (by omega)])
  all_goals first | rfl | omega | (rw [dec_one (by omega)]; done) | (rw [bs_app, ← dec_rec m (by omega) (by omega)]; done) | (have := dec_len (m / 10) (by omega); simp only [bs_size, List.length_cons, List.length_nil]; omega) | trace_state
def decA_k : Con Tryd.prog := ⟨36, fun args => match args with | [.int .i64 n] => .ok (some (0 ≤ n ∧ n < 10)) (.str (bs (decN n.toNat))) | _ => .no, by
  intro args p r h hp
  split at h
  · cases h; exact decA_a _ hp
  · cases h⟩
theorem decB_f : FnOk Tryd.prog 36 Tryd.f36 := ⟨Tryd.func36, by kernel_rfl⟩
theorem decB_a (n : Int) (hpre : 10 ≤ n ∧ n < 100) : ACalls Tryd.prog 36 [.int .i64 n] (.str (bs (decN n.toNat))) := by
  refine acalls_of (inl := hasI (P := Tryd.prog) [] []) (base [decA_k] [] []) 0 decB_f (And.intro (by kernel_rfl) ?_)
  obtain ⟨h0, h1⟩ := hpre
  obtain ⟨m, rfl⟩ : ∃ m : Nat, n = m := ⟨n.toNat, by omega⟩
  repeat' (first | refine And.intro ?_ ?_ | (with_reducible exact ff_elim) | (with_reducible exact tf_elim) | refine num_elim ?_ | intro _ | (with_reducible rfl) | ((with_reducible refine lk_t ?_); exact rfl) | ((with_reducible refine pf_t ?_); exact rfl) | refine tell ?_ | exact True.intro | (refine IsT.of ?_; kernel_rfl))
  all_goals (try exact (1 : Nat))
  all_goals (try refine Tell.mk ?_)
  all_goals (try dsimp only at *)
  all_goals first | with_reducible rfl | with_reducible exact isI_mk | with_reducible assumption | (with_reducible refine gb_t ?_; with_reducible assumption) | (with_reducible refine gb_f ?_; with_reducible assumption) | skip
  all_goals (try simp only [decide_eq_true_eq, decide_eq_false_iff_not, mulN1, avInt_int] at *)
  all_goals first | rfl | omega | (exfalso; omega) | skip
  all_goals (have w1 : IntKind.i64.wrap ((m / 10 : Nat) : Int) = ((m / 10 : Nat) : Int) := w64 (by omega))
  all_goals (try simp only [td10, tm10, w1, Int.toNat_natCast] at *)
  all_goals (try rw [strI_dig (by omega)])
  all_goals first | rfl | omega | (rw [dec_one (by omega)]; done) | (rw [bs_app, ← dec_rec m (by omega) (by omega)]; done) | (have := dec_len (m / 10) (by omega); simp only [bs_size, List.length_cons, List.length_nil]; omega) | trace_state
def decB_k : Con Tryd.prog := ⟨36, fun args => match args with | [.int .i64 n] => .ok (some (10 ≤ n ∧ n < 100)) (.str (bs (decN n.toNat))) | _ => .no, by
  intro args p r h hp
  split at h
  · cases h; exact decB_a _ hp
  · cases h⟩
theorem decC_f : FnOk Tryd.prog 36 Tryd.f36 := ⟨Tryd.func36, by kernel_rfl⟩
theorem decC_a (n : Int) (hpre : 100 ≤ n ∧ n < 256) : ACalls Tryd.prog 36 [.int .i64 n] (.str (bs (decN n.toNat))) := by
  refine acalls_of (inl := hasI (P := Tryd.prog) [] []) (base [decB_k] [] []) 0 decC_f (And.intro (by kernel_rfl) ?_)
  obtain ⟨h0, h1⟩ := hpre
  obtain ⟨m, rfl⟩ : ∃ m : Nat, n = m := ⟨n.toNat, by omega⟩
  repeat' (first | refine And.intro ?_ ?_ | (with_reducible exact ff_elim) | (with_reducible exact tf_elim) | refine num_elim ?_ | intro _ | (with_reducible rfl) | ((with_reducible refine lk_t ?_); exact rfl) | ((with_reducible refine pf_t ?_); exact rfl) | refine tell ?_ | exact True.intro | (refine IsT.of ?_; kernel_rfl))
  all_goals (try exact (1 : Nat))
  all_goals (try refine Tell.mk ?_)
  all_goals (try dsimp only at *)
  all_goals first | with_reducible rfl | with_reducible exact isI_mk | with_reducible assumption | (with_reducible refine gb_t ?_; with_reducible assumption) | (with_reducible refine gb_f ?_; with_reducible assumption) | skip
  all_goals (try simp only [decide_eq_true_eq, decide_eq_false_iff_not, mulN1, avInt_int] at *)
  all_goals first | rfl | omega | (exfalso; omega) | skip
  all_goals (have w1 : IntKind.i64.wrap ((m / 10 : Nat) : Int) = ((m / 10 : Nat) : Int) := w64 (by omega))
  all_goals (try simp only [td10, tm10, w1, Int.toNat_natCast] at *)
  all_goals (try rw [strI_dig (by omega)])
  all_goals first | rfl | omega | (rw [dec_one (by omega)]; done) | (rw [bs_app, ← dec_rec m (by omega) (by omega)]; done) | (have := dec_len (m / 10) (by omega); simp only [bs_size, List.length_cons, List.length_nil]; omega) | trace_state
theorem dec_a (n : Int) (h : 0 ≤ n ∧ n < 256) : ACalls Tryd.prog 36 [.int .i64 n] (.str (bs (decN n.toNat))) := by
  by_cases a : n < 10
  · exact decA_a n ⟨h.1, a⟩
  · by_cases b : n < 100
    · exact decB_a n ⟨by omega, b⟩
    · exact decC_a n ⟨by omega, h.2⟩
def dec_k : Con Tryd.prog := ⟨36, fun args => match args with | [.int .i64 n] => .ok (some (0 ≤ n ∧ n < 256)) (.str (bs (decN n.toNat))) | _ => .no, by
  intro args p r h hp
  split at h
  · cases h; exact dec_a _ hp
  · cases h⟩
end Go.Proofs.YtjnpngbgapigeaaDoor
/- Pictures as text: the document's text, walked. -/
namespace Go.Proofs.YtjnpngbgapigeaaDoor
open Go.RowKit Ev
set_option linter.unusedVariables false
set_option linter.unusedSimpArgs false
set_option maxRecDepth 20000
set_option maxHeartbeats 8000000

/-- The text up to a number of a pixel. -/
@[irreducible] def txJ (W H : Nat) (A : Nat → Int) (i c : Nat) : List UInt8 := rowsT W H (colV A) (i / W) ++ rowP (colV A) (3 * W * (i / W)) (3 * (i % W) + c)
theorem tmW (i W : Nat) : (i : Int).tmod (W : Int) = ((i % W : Nat) : Int) := by rw [Int.tmod_eq_emod_of_nonneg (by omega)]; rfl
section
variable {W H : Nat} {A : Nat → Int}
theorem txJ_0 : txJ W H A 0 0 = headT W H := by
  unfold txJ
  rw [Nat.zero_div, Nat.zero_mod]
  show headT W H ++ [] = _
  simp
theorem txJ_sp {i c : Nat} (hW : 0 < W) (h : 0 < i % W + c) (hA : U8s A) : txJ W H A i (c + 1) = txJ W H A i c ++ ([32] ++ decN (A (4 * i + c)).toNat) ∨ 3 ≤ c := by
  by_cases hc : 3 ≤ c
  · exact .inr hc
  · left
    unfold txJ
    show _ ++ (rowP _ _ _ ++ ((if 0 < 3 * (i % W) + c then [32] else []) ++ decN (colV A _).toNat)) = _
    rw [if_pos (by omega), ← List.append_assoc]
    congr 3
    unfold colV
    have e := Nat.div_add_mod i W
    have e2 : 3 * W * (i / W) + (3 * (i % W)).add c = 3 * i + c := by show 3 * W * (i / W) + (3 * (i % W) + c) = _; rw [Nat.mul_assoc]; omega
    rw [e2]
    congr 2
    omega
theorem txJ_no {i c : Nat} (hW : 0 < W) (h : ¬ 0 < i % W + c) : txJ W H A i (c + 1) = txJ W H A i c ++ decN (A (4 * i + c)).toNat := by
  unfold txJ
  show _ ++ (rowP _ _ _ ++ ((if 0 < 3 * (i % W) + c then [32] else []) ++ decN (colV A _).toNat)) = _
  rw [if_neg (by omega), ← List.append_assoc, List.nil_append]
  congr 2
  unfold colV
  have e := Nat.div_add_mod i W
  have e2 : 3 * W * (i / W) + (3 * (i % W)).add c = 3 * i + c := by show 3 * W * (i / W) + (3 * (i % W) + c) = _; rw [Nat.mul_assoc]; omega
  rw [e2]
  congr 2
  omega
theorem txJ_nl {i : Nat} (hW : 0 < W) (h : i % W + 1 = W) : txJ W H A (i + 1) 0 = txJ W H A i 3 ++ [10] := by
  have e := Nat.div_add_mod i W
  have e1 : i + 1 = W * (i / W + 1) := by rw [Nat.mul_add, Nat.mul_one]; omega
  have d : (i + 1) / W = i / W + 1 := by rw [e1, Nat.mul_div_cancel_left _ hW]
  have m : (i + 1) % W = 0 := by rw [e1]; exact Nat.mul_mod_right _ _
  unfold txJ
  rw [d, m, show 3 * (i % W) + 3 = 3 * W by omega]
  show rowsT _ _ _ _ ++ (rowP _ _ _ ++ [10]) ++ [] = _
  rw [List.append_nil, ← List.append_assoc, Int.toNat_natCast]
theorem txJ_go {i : Nat} (hW : 0 < W) (h : ¬ i % W + 1 = W) : txJ W H A (i + 1) 0 = txJ W H A i 3 := by
  have e := Nat.div_add_mod i W
  have l := Nat.mod_lt i hW
  have e1 : i + 1 = i % W + 1 + W * (i / W) := by omega
  have d : (i + 1) / W = i / W := by rw [e1, Nat.add_mul_div_left _ _ hW, Nat.div_eq_of_lt (by omega)]; omega
  have m : (i + 1) % W = i % W + 1 := by rw [e1, Nat.add_mul_mod_self_left]; exact Nat.mod_eq_of_lt (by omega)
  unfold txJ
  rw [d, m, show 3 * (i % W + 1) + 0 = 3 * (i % W) + 3 by omega]
theorem txJ_end (hW : 0 < W) : txJ W H A (W * H) 0 = txL W H A := by
  unfold txJ txL
  rw [Nat.mul_div_cancel_left _ hW, Nat.mul_mod_right, Int.toNat_natCast]
  show _ ++ [] = _
  rw [List.append_nil]
theorem row_len (hA : U8s A) (o : Nat) : ∀ k, (rowP (colV A) o k).length ≤ 4 * k
  | 0 => Nat.le_refl _
  | k + 1 => by
    have ih := row_len hA o k
    have q := hA (4 * ((o + k) / 3) + (o + k) % 3)
    have d := dec_len (colV A (o + k)).toNat (by unfold colV; omega)
    show (rowP _ _ _ ++ ((if 0 < k then [32] else []) ++ decN (colV A _).toNat)).length ≤ _
    rw [List.length_append, List.length_append]
    split
    · simp only [List.length_cons, List.length_nil]; omega
    · simp only [List.length_nil]; omega
theorem rows_len (hA : U8s A) (hw : W ≤ 64) (hh : H ≤ 64) : ∀ y, (rowsT W H (colV A) y).length ≤ 20 + 800 * y
  | 0 => by
    have d := dec_len W (by omega)
    have e := dec_len H (by omega)
    show (headT W H).length ≤ _
    unfold headT
    simp only [Int.toNat_natCast, List.length_append, List.length_cons, List.length_nil]; omega
  | y + 1 => by
    have ih := rows_len hA hw hh y
    have r := row_len hA (3 * (W : Int).toNat * y) (3 * (W : Int).toNat)
    show (rowsT _ _ _ y ++ (rowP _ _ _ ++ [10])).length ≤ _
    rw [List.length_append, List.length_append]
    simp only [List.length_cons, List.length_nil]
    rw [Int.toNat_natCast] at *
    omega
theorem txJ_len (hA : U8s A) (h0 : 0 < W) (hw : W ≤ 64) (hh : H ≤ 64) {i c : Nat} (hi : i ≤ W * H) (hc : c ≤ 3) : (txJ W H A i c).length ≤ 100000 := by
  have a := rows_len hA hw hh (i / W)
  have b := row_len hA (3 * W * (i / W)) (3 * (i % W) + c)
  have l := Nat.mod_lt i h0
  have d : i / W ≤ H := by
    have := Nat.div_le_div_right (c := W) hi
    rwa [Nat.mul_div_cancel_left _ h0] at this
  unfold txJ
  rw [List.length_append]
  omega
end
structure TxI (M : Nat) where
  i : Nat
  hi : i ≤ M
structure TxC where
  c : Nat
  hc : c ≤ 3
theorem tx_hd (W H : Nat) (A : Nat → Int) : bs (txJ W H A 0 0) = bs ([80, 51, 10] ++ decN W ++ [32] ++ decN H ++ [10, 50, 53, 53, 10]) := by
  rw [txJ_0]; unfold headT; simp
theorem textR0_f : FnOk Tryd.prog 15 Tryd.f15 := ⟨Tryd.func15, by kernel_rfl⟩
theorem textR0_a (W H : Nat) (n : Nat) (A : Nat → Int) (hpre : U8s A ∧ picE W H n = 0) : ACalls Tryd.prog 15 [.agg [.int .i64 W, .int .i64 H, ints .u8 n A]] (.tup [.str (bs (txL W H A)), .int .i64 0]) := by
  refine acalls_of (inl := hasI (P := Tryd.prog) [] []) (base [mayPR_k, dec_k] [] []) 0 textR0_f (And.intro (by kernel_rfl) ?_)
  obtain ⟨hA, h0⟩ := hpre
  obtain ⟨hs, hn⟩ := picE_ok h0
  have hy := hs.wh
  have z0 := hs.wraps.1
  obtain ⟨s1, s2, s3, s4⟩ := hs
  have hM : (W : Int) * (H : Int) = ((W * H : Nat) : Int) := by simp
  rw [hM] at hn hy z0
  obtain ⟨M, hMe⟩ : ∃ M, W * H = M := ⟨_, rfl⟩
  rw [hMe] at hn hy z0 hM
  have zW : IntKind.i64.wrap ((W : Int) * (H : Int)) = (M : Int) := by rw [hM]; exact z0
  repeat' (first | refine And.intro ?_ ?_ | (with_reducible exact ff_elim) | (with_reducible exact tf_elim) | refine num_elim ?_ | intro _ | (with_reducible rfl) | ((with_reducible refine lk_t ?_); exact rfl) | ((with_reducible refine pf_t ?_); exact rfl) | refine tell ?_ | exact True.intro | (refine IsT.of ?_; kernel_rfl))
  all_goals (try (refine loop_keep [1] [0] ?_; refine LoopI.mk (TxI M) (fun j => [(5, .str (bs (txJ W H A j.i 0))), (6, .int .i64 j.i)]) (fun j => []) (fun j => M - j.i) (⟨0, Nat.zero_le _⟩) (wk_mk [some 0] ?_) (fun ⟨i, hi⟩ => ?_)))
  repeat' (first | refine And.intro ?_ ?_ | (with_reducible exact ff_elim) | (with_reducible exact tf_elim) | refine stp_mk [some 0] ((⟨i + 1, ?_⟩ : TxI M)) ?_ ?_ | refine num_elim ?_ | intro _ | (with_reducible rfl) | ((with_reducible refine lk_t ?_); exact rfl) | ((with_reducible refine pf_t ?_); exact rfl) | refine tell ?_ | exact True.intro | (refine IsT.of ?_; kernel_rfl))
  all_goals (try (refine loop_keep [1, 6] [0] ?_; refine LoopI.mk (TxC) (fun j => [(5, .str (bs (txJ W H A i j.c))), (7, .int .i64 j.c)]) (fun j => []) (fun j => 3 - j.c) (⟨0, by decide⟩) (wk_mk [some 0] ?_) (fun ⟨c, hc⟩ => ?_)))
  repeat' (first | refine And.intro ?_ ?_ | (with_reducible exact ff_elim) | (with_reducible exact tf_elim) | refine stp_mk [some 0] ((⟨c + 1, ?_⟩ : TxC)) ?_ ?_ | refine num_elim ?_ | intro _ | (with_reducible rfl) | ((with_reducible refine lk_t ?_); exact rfl) | ((with_reducible refine pf_t ?_); exact rfl) | refine tell ?_ | exact True.intro | (refine IsT.of ?_; kernel_rfl))
  all_goals (try (refine loop_keep [1] [0] ?_; refine LoopI.mk (TxI M) (fun j => [(5, .str (bs (txJ W H A j.i 0))), (6, .int .i64 j.i)]) (fun j => []) (fun j => M - j.i) (⟨0, Nat.zero_le _⟩) (wk_mk [some 0] ?_) (fun ⟨i, hi⟩ => ?_)))
  repeat' (first | refine And.intro ?_ ?_ | (with_reducible exact ff_elim) | (with_reducible exact tf_elim) | refine stp_mk [some 0] ((⟨i + 1, ?_⟩ : TxI M)) ?_ ?_ | refine num_elim ?_ | intro _ | (with_reducible rfl) | ((with_reducible refine lk_t ?_); exact rfl) | ((with_reducible refine pf_t ?_); exact rfl) | refine tell ?_ | exact True.intro | (refine IsT.of ?_; kernel_rfl))
  all_goals (try exact (1 : Nat))
  all_goals (try refine Tell.mk ?_)
  all_goals (try dsimp only at *)
  all_goals first | with_reducible rfl | with_reducible exact isI_mk | with_reducible assumption | (with_reducible refine gb_t ?_; with_reducible assumption) | (with_reducible refine gb_f ?_; with_reducible assumption) | ((show (_ : Nat) ≤ _); decide) | skip
  all_goals (have e32 : (ByteArray.mk #[32]) = bs [32] := rfl; have e10 : (ByteArray.mk #[10]) = bs [10] := rfl; have eP : (ByteArray.mk #[80, 51, 10]) = bs [80, 51, 10] := rfl; have e25 : (ByteArray.mk #[10, 50, 53, 53, 10]) = bs [10, 50, 53, 53, 10] := rfl; have hW : 0 < W := (by omega))
  all_goals (try simp only [bne_iff_ne, ne_eq, bne_eq_false_iff_eq, beq_iff_eq, beq_eq_false_iff_ne, decide_eq_true_eq, decide_eq_false_iff_not, mulN1, avInt_int, Int.toNat_natCast, Nat.add_zero, Nat.zero_add, tmW, zW, gb] at *)
  all_goals (try simp only [e32, e10, eP, e25, bs_app])
  all_goals (clear e32 e10 eP e25)
  all_goals first | rfl | omega | (exfalso; omega) | (rw [tx_hd]; done) | skip
  all_goals (have dw := dec_len W (by omega); have dh := dec_len H (by omega))
  all_goals first | (simp only [bs_size, List.length_append, List.length_cons, List.length_nil]; omega) | skip
  all_goals (try (have lm := Nat.mod_lt i hW; have w1 : IntKind.i64.wrap (4 * (i : Int)) = 4 * (i : Int) := (wrapI (by omega) (by omega)); have w3 : IntKind.i64.wrap ((i : Int) + 1) = ((i + 1 : Nat) : Int) := (by rw [wrapI (by omega) (by omega)]; omega); have w4 : IntKind.i64.wrap ((W : Int) - 1) = ((W - 1 : Nat) : Int) := (by rw [wrapI (by omega) (by omega)]; omega)))
  all_goals (try simp only [w1, w3, w4] at *)
  all_goals (try (have w2 : IntKind.i64.wrap (4 * (i : Int) + (c : Int)) = ((4 * i + c : Nat) : Int) := (by rw [wrapI (by omega) (by omega)]; omega); have w5 : IntKind.i64.wrap ((c : Int) + 1) = ((c + 1 : Nat) : Int) := (by rw [wrapI (by omega) (by omega)]; omega); have w6 : IntKind.i64.wrap (((i % W : Nat) : Int) + (c : Int)) = ((i % W + c : Nat) : Int) := (by rw [wrapI (by omega) (by omega)]; omega)))
  all_goals (try simp only [w2, w5, w6, Int.toNat_natCast] at *)
  all_goals (try (have ha := hA (4 * i + c); have w7 : IntKind.i64.wrap (A (4 * i + c)) = A (4 * i + c) := (wrapI (by omega) (by omega)); have dl := dec_len (A (4 * i + c)).toNat (by omega)))
  all_goals (try simp only [w7] at *)
  all_goals (try (have tl := txJ_len (H := H) (i := i) (c := c) hA hW (by omega) (by omega) (by rw [hMe]; omega) hc))
  all_goals first | rfl | omega | (simp only [bs_size, List.length_append, List.length_cons, List.length_nil]; omega) | skip
  all_goals (try (have hc3 : c = 3 := (by omega); subst hc3))
  all_goals first | (rw [txJ_no hW (by omega)]; done) | (rw [txJ_nl hW (by omega)]; done) | (rw [txJ_go hW (by omega)]; done) | (rw [(txJ_sp hW (by omega) hA).resolve_right (by omega), List.append_assoc]; done) | (have hiM : i = W * H := (by omega); rw [hiM, txJ_end hW]; done) | trace_state
end Go.Proofs.YtjnpngbgapigeaaDoor
/- Contracts of the library, laid (by the shelf's own tools, in plain words). -/
namespace Go.Proofs.YtjnpngbgapigeaaDoor
open Go.Shelf Go.Proofs
def lays169_ren : Go.Shelf.Ren := ⟨fun | 169 => 35 | n => n, fun | 70 => 58 | 9 => 9 | 0 => 0 | 72 => 60 | 37 => 22 | 127 => 75 | 3 => 3 | 5 => 5 | n => n, fun | n => n⟩
theorem lays169 : Go.Proofs.Lays.n169 Tryd.prog lays169_ren := {
  mixed := by kernel_rfl
  f169 := Tryd.func35.trans (congrArg some (by kernel_rfl))
  t0 := Tryd.underlying0
  a0 := Tryd.isAgg0
  z0 := Tryd.sizeOf0
  v0 := Tryd.zeroValue0
  t3 := Tryd.underlying3
  a3 := Tryd.isAgg3
  z3 := Tryd.sizeOf3
  v3 := Tryd.zeroValue3
  t9 := Tryd.underlying9
  a9 := Tryd.isAgg9
  z9 := Tryd.sizeOf9
  v9 := Tryd.zeroValue9
  t37 := Tryd.underlying22
  a37 := Tryd.isAgg22
  z37 := Tryd.sizeOf22
  v37 := Tryd.zeroValue22
  t70 := Tryd.underlying58
  a70 := Tryd.isAgg58
  z70 := Tryd.sizeOf58
  v70 := Tryd.zeroValue58
  t72 := Tryd.underlying60
  a72 := Tryd.isAgg60
  z72 := Tryd.sizeOf60
  v72 := Tryd.zeroValue60
  t127 := Tryd.underlying75
  a127 := Tryd.isAgg75
  z127 := Tryd.sizeOf75
  v127 := Tryd.zeroValue75 }
theorem Builder_Extra_169 : Builder.Extra Tryd.prog lays169_ren := {
  sizeBuilder := by kernel_rfl
  liesBuilder := by kernel_rfl
  t5 := Tryd.underlying5
  a5 := Tryd.isAgg5
  z5 := Tryd.sizeOf5
  v5 := Tryd.zeroValue5
  infoByte := by kernel_rfl
  cellsByte := by kernel_rfl
  sizeByte := by kernel_rfl
  neB5 := by decide }
open Go.RowKit in
theorem Builder_String (B b : Nat) (l : List UInt8) (w : World) (h : Lib.IsBuilder 60 5 B b (Lib.byteCells l) w) (h0 : l ≠ []) :
    Calls Tryd.prog 35 #[.pointer (some ⟨b, 0, none⟩)] w fun e w' => e = .returned (.string ⟨l.toArray⟩) ∧ Below B w w' := Any.Builder_String lays169 Builder_Extra_169 B b l w h h0
def laysM171_ren : Go.Shelf.Ren := ⟨fun | 171 => 33 | 243 => 44 | 246 => 59 | 283 => 73 | 284 => 74 | 285 => 75 | 286 => 76 | 129 => 85 | 317 => 84 | 318 => 86 | 319 => 87 | 320 => 88 | 337 => 93 | 338 => 94 | n => n, fun | 3 => 3 | 9 => 9 | 2 => 2 | 4 => 4 | 171 => 102 | 0 => 0 | 53 => 103 | 37 => 22 | 5 => 5 | 173 => 106 | 212 => 123 | 51 => 112 | 20 => 20 | 213 => 124 | 46 => 93 | 232 => 132 | 233 => 133 | n => n, fun | 17 => 5 | 18 => 6 | 19 => 7 | n => n⟩
theorem laysM171 : Go.Proofs.LaysM.n171 Tryd.prog laysM171_ren := {
  mixed := by kernel_rfl
  f129 := Tryd.func85.trans (congrArg some (by kernel_rfl))
  f171 := Tryd.func33.trans (congrArg some (by kernel_rfl))
  f243 := Tryd.func44.trans (congrArg some (by kernel_rfl))
  f246 := Tryd.func59.trans (congrArg some (by kernel_rfl))
  f283 := Tryd.func73.trans (congrArg some (by kernel_rfl))
  f284 := Tryd.func74.trans (congrArg some (by kernel_rfl))
  f285 := Tryd.func75.trans (congrArg some (by kernel_rfl))
  f286 := Tryd.func76.trans (congrArg some (by kernel_rfl))
  f317 := Tryd.func84.trans (congrArg some (by kernel_rfl))
  f318 := Tryd.func86.trans (congrArg some (by kernel_rfl))
  f319 := Tryd.func87.trans (congrArg some (by kernel_rfl))
  f320 := Tryd.func88.trans (congrArg some (by kernel_rfl))
  f337 := Tryd.func93.trans (congrArg some (by kernel_rfl))
  f338 := Tryd.func94.trans (congrArg some (by kernel_rfl))
  t0 := Tryd.underlying0
  a0 := Tryd.isAgg0
  z0 := Tryd.sizeOf0
  v0 := Tryd.zeroValue0
  t2 := Tryd.underlying2
  a2 := Tryd.isAgg2
  z2 := Tryd.sizeOf2
  v2 := Tryd.zeroValue2
  t3 := Tryd.underlying3
  a3 := Tryd.isAgg3
  z3 := Tryd.sizeOf3
  v3 := Tryd.zeroValue3
  t4 := Tryd.underlying4
  a4 := Tryd.isAgg4
  z4 := Tryd.sizeOf4
  v4 := Tryd.zeroValue4
  t5 := Tryd.underlying5
  a5 := Tryd.isAgg5
  z5 := Tryd.sizeOf5
  v5 := Tryd.zeroValue5
  t9 := Tryd.underlying9
  a9 := Tryd.isAgg9
  z9 := Tryd.sizeOf9
  v9 := Tryd.zeroValue9
  t20 := Tryd.underlying20
  a20 := Tryd.isAgg20
  z20 := Tryd.sizeOf20
  v20 := Tryd.zeroValue20
  t37 := Tryd.underlying22
  a37 := Tryd.isAgg22
  z37 := Tryd.sizeOf22
  v37 := Tryd.zeroValue22
  t46 := Tryd.underlying93
  a46 := Tryd.isAgg93
  z46 := Tryd.sizeOf93
  v46 := Tryd.zeroValue93
  t51 := Tryd.underlying112
  a51 := Tryd.isAgg112
  z51 := Tryd.sizeOf112
  v51 := Tryd.zeroValue112
  t53 := Tryd.underlying103
  a53 := Tryd.isAgg103
  z53 := Tryd.sizeOf103
  v53 := Tryd.zeroValue103
  t171 := Tryd.underlying102
  a171 := Tryd.isAgg102
  z171 := Tryd.sizeOf102
  v171 := Tryd.zeroValue102
  t173 := Tryd.underlying106
  a173 := Tryd.isAgg106
  z173 := Tryd.sizeOf106
  v173 := Tryd.zeroValue106
  t212 := Tryd.underlying123
  a212 := Tryd.isAgg123
  z212 := Tryd.sizeOf123
  v212 := Tryd.zeroValue123
  t213 := Tryd.underlying124
  a213 := Tryd.isAgg124
  z213 := Tryd.sizeOf124
  t232 := Tryd.underlying132
  a232 := Tryd.isAgg132
  z232 := Tryd.sizeOf132
  v232 := Tryd.zeroValue132
  t233 := Tryd.underlying133
  a233 := Tryd.isAgg133
  z233 := Tryd.sizeOf133
  v233 := Tryd.zeroValue133
  g17 := by kernel_rfl
  g18 := by kernel_rfl
  g19 := by kernel_rfl
  i0 := by kernel_rfl
  i2 := by kernel_rfl
  i3 := by kernel_rfl
  i4 := by kernel_rfl
  i5 := by kernel_rfl
  i9 := by kernel_rfl
  i20 := by kernel_rfl
  i37 := by kernel_rfl
  i46 := by kernel_rfl
  i51 := by kernel_rfl
  i53 := by kernel_rfl
  i171 := by kernel_rfl
  i173 := by kernel_rfl
  i212 := by kernel_rfl
  i232 := by kernel_rfl
  i233 := by kernel_rfl
  m17 := by kernel_rfl
  m18 := by kernel_rfl
  m19 := by kernel_rfl }
open Go.RowKit Go.Sort Go.Lib in
theorem strconv_Itoa (n : Int) (h0 : -9223372036854775808 ≤ n) (h1 : n ≤ 9223372036854775807) (w : World) (htab : Lib.TabIs Tryd.prog w "internal/strconv.uint64pow10" .u64 Lib.pow10Tab) :
    Calls Tryd.prog 33 #[.int .i64 n] w fun e w' => e = .returned (.string ⟨(Lib.itoa n).toArray⟩) ∧ ∃ k os, w' = grow (w.drewN k) os := Any.strconv_Itoa laysM171 n h0 h1 w htab
end Go.Proofs.YtjnpngbgapigeaaDoor
/- Pictures as text: a builder of strings, walked. -/
namespace Go.Proofs.YtjnpngbgapigeaaDoor
open Go.RowKit Ev
set_option linter.unusedVariables false
set_option linter.unusedSimpArgs false
set_option maxHeartbeats 1000000 in
set_option maxRecDepth 100000 in
theorem cc_used (b : Nat) (w : World) (h0 : w.cell? ⟨b, 0, none⟩ = some (.pointer (some ⟨b, 0, none⟩))) :
    Calls Tryd.prog 43 #[.pointer (some ⟨b, 0, none⟩)] w fun e w' => e = .returned (.tuple #[]) ∧ w' = w := by
  obtain ⟨j, hj, _⟩ := Option.map_eq_some_iff.1 (show (Tryd.prog.info? 60).map (·.size) = some 2 by kernel_rfl)
  go_enter Tryd.func43, Tryd.ntmps43
  go_wp2
  rw [Lib.run_neq_ptr_same w _ Tryd.underlying58 hj]
  go_wp2
  go_end0
  exact ⟨rfl, rfl⟩
set_option maxHeartbeats 1000000 in
set_option maxRecDepth 100000 in
theorem cc_fresh (b : Nat) (w : World) (h0 : w.cell? ⟨b, 0, none⟩ = some (.pointer none)) (hsh : w.shape? b = some (60, 2)) (hfz : w.frozen? ⟨b, 0, none⟩ = false) :
    Calls Tryd.prog 43 #[.pointer (some ⟨b, 0, none⟩)] w fun e w' => e = .returned (.tuple #[]) ∧ w' = w.setCell ⟨b, 0, none⟩ (.pointer (some ⟨b, 0, none⟩)) := by
  obtain ⟨j, hj, hjs⟩ := Option.map_eq_some_iff.1 (show (Tryd.prog.info? 60).map (·.size) = some 2 by kernel_rfl)
  go_enter Tryd.func43, Tryd.ntmps43
  go_wp2
  rw [Lib.run_to_unsafe w ⟨b, 0, none⟩ Tryd.underlying58 Tryd.underlying88 hj (by rw [hjs]; decide) hsh (Nat.zero_lt_succ 1)]
  simp only [Result.andThen]
  rw [Oper.upon_value]
  go_wp2
  rw [run_callFunc_extern Tryd.func58 (by kernel_rfl) (by kernel_rfl) (by kernel_rfl) (e := Extern.AbiNoEscape.same) (by kernel_rfl)]
  rw [Lib.run_noEscape]
  simp only [Result.andThen]
  rw [Oper.upon_value]
  go_wp2
  rw [Lib.run_from_unsafe w ⟨b, 0, none⟩ Tryd.underlying88 Tryd.underlying58 hj hsh (by kernel_rfl)]
  simp only [Result.andThen]
  rw [Oper.upon_value]
  go_wp2
  go_end0
  exact ⟨rfl, rfl⟩
theorem cc_any (B b : Nat) (xs : List Value) (w : World) (h : Lib.IsBuilder 60 5 B b xs w) :
    Calls Tryd.prog 43 #[.pointer (some ⟨b, 0, none⟩)] w fun e w' => e = .returned (.tuple #[]) ∧ (Lib.BuilderAt 60 5 B b (.pointer (some ⟨b, 0, none⟩)) xs w' ∧ Below B w w') := by
  rcases h with h | h
  · refine (cc_fresh b w h.cell0 h.shape h.frozen0).mono ?_
    rintro e w' ⟨rfl, rfl⟩
    exact ⟨rfl, h.used _, (Below.refl B w).setCell (p := ⟨b, 0, none⟩) h.1 _⟩
  · refine (cc_used b w h.cell0).mono ?_
    rintro e w' ⟨rfl, rfl⟩
    exact ⟨rfl, h, Below.refl B _⟩
theorem byte_info : (Tryd.prog.info? 5).map (fun i => (i.zero, i.size, i.bytes)) = some (some (.int .u8 0), 1, 1) := by kernel_rfl
set_option maxHeartbeats 2000000 in
set_option maxRecDepth 100000 in
theorem wb_any (B b : Nat) (xs : List Value) (c : Int) (w : World) (h : Lib.IsBuilder 60 5 B b xs w) (hlen : xs.length + 1 ≤ 140737488355328) (hBw : B ≤ w.heap.size) :
    Calls Tryd.prog 34 #[.pointer (some ⟨b, 0, none⟩), .int .u8 c] w fun e w' => e = .returned .nilIface ∧ (Lib.IsBuilder 60 5 B b (xs ++ [.int .u8 c]) w' ∧ Below B w w') := by
  obtain ⟨i0, hi, hz0, hz1, hz2⟩ := info_parts byte_info
  go_enter Tryd.func34, Tryd.ntmps34
  go_wp2_with (go_at_call 43; refine (cc_any B b xs _ h).mono ?_)
  rintro e w1 ⟨rfl, h1, hb1⟩
  obtain ⟨hB, v, hbk, hown, hne⟩ := h1
  have c0 : w1.cell? ⟨b, 0, none⟩ = some (.pointer (some ⟨b, 0, none⟩)) := by rw [Lib.cell_of_heap hbk]; rfl
  have c1 : w1.cell? ⟨b, 1, none⟩ = some v := by rw [Lib.cell_of_heap hbk]; rfl
  go_wp2_with (at_builtin; refine wpList_append_own _ rfl _ _ 22 rfl B 5 i0 (.int .u8 0) 1 1 Tryd.underlying22 hi hz0 hz1 hz2 rfl (by decide) _ _ _ rfl (hown.alloc _) ⟨w1.heap.size, 0, none⟩ 1 1 [.int .u8 c] rfl rfl ?c1 ?c2 ?c3 ?c4 ?c5 ?_)
  case c1 =>
    intro j u hj
    match j, hj with
    | 0, hj => simp at hj; subst hj; simp [Addr.add]
  case c2 => intro u hu; simp at hu; subst hu; rfl
  case c3 => unfold maxLen; omega
  case c4 => omega
  case c5 => have := hb1.size; simp; omega
  intro v' w2 hown' hgrow _
  have hlt : b < w1.heap.size := (Array.getElem?_eq_some_iff.1 hbk).1
  have hb2 : w2.heap[b]? = some (.cells #[.pointer (some ⟨b, 0, none⟩), v] 60 (0, 0)) := by
    rw [hgrow.block b (by simp; omega) (fun e => hne e.symm), Ev.heap_alloc_ne w1 _ hlt]
    exact hbk
  have d0 : w2.cell? ⟨b, 0, none⟩ = some (.pointer (some ⟨b, 0, none⟩)) := by rw [Lib.cell_of_heap hb2]; rfl
  have d1 : w2.cell? ⟨b, 1, none⟩ = some v := by rw [Lib.cell_of_heap hb2]; rfl
  have f1 : w2.frozen? ⟨b, 1, none⟩ = false := Lib.frozen_of_heap hb2 1
  obtain ⟨g, cap, rfl⟩ : ∃ g cap, v' = .slice (some ⟨g, 0, none⟩) (xs.length + 1) cap := by
    rcases hown'.2 with ⟨_, h0⟩ | ⟨g, cap, cur, hv, _⟩
    · omega
    · exact ⟨g, cap, hv⟩
  go_wp2
  go_ret
  refine ⟨rfl, .inr ?_, ?_⟩
  · exact Lib.BuilderAt.put (T := 60) (e := 5) hB hb2 (bs' := xs ++ [.int .u8 c]) (by simpa using hown') (by decide)
  · exact ((hb1.alloc (by have := hb1.size; omega) _).grown hgrow (by have := hb1.size; simp; omega) (fun k hk => (hown.lt k hk).1)).setCell (p := ⟨b, 1, none⟩) hB _
set_option maxHeartbeats 2000000 in
set_option maxRecDepth 100000 in
theorem ws_any (B b : Nat) (xs : List Value) (s : ByteArray) (w : World) (h : Lib.IsBuilder 60 5 B b xs w) (hlen : xs.length + s.size ≤ 140737488355328) (hBw : B ≤ w.heap.size) :
    Calls Tryd.prog 32 #[.pointer (some ⟨b, 0, none⟩), .string s] w fun e w' => e = .returned (.tuple #[.int .i64 s.size, .nilIface]) ∧ (Lib.IsBuilder 60 5 B b (xs ++ Lib.strCells s) w' ∧ Below B w w') := by
  obtain ⟨i0, hi, hz0, hz1, hz2⟩ := info_parts byte_info
  go_enter Tryd.func32, Tryd.ntmps32
  go_wp2_with (go_at_call 43; refine (cc_any B b xs _ h).mono ?_)
  rintro e w1 ⟨rfl, h1, hb1⟩
  obtain ⟨hB, v, hbk, hown, hne⟩ := h1
  have c0 : w1.cell? ⟨b, 0, none⟩ = some (.pointer (some ⟨b, 0, none⟩)) := by rw [Lib.cell_of_heap hbk]; rfl
  have c1 : w1.cell? ⟨b, 1, none⟩ = some v := by rw [Lib.cell_of_heap hbk]; rfl
  go_wp2_with (at_builtin; refine Lib.wpList_append_own_string _ rfl _ _ 22 9 rfl B 5 i0 Tryd.underlying22 Tryd.underlying9 hi hz0 hz1 hz2 _ _ _ rfl hown s rfl ?c3 ?c4 ?c5 ?_)
  case c3 => unfold maxLen; omega
  case c4 => omega
  case c5 => have := hb1.size; omega
  intro v' w2 hown' hgrow _
  have hlt : b < w1.heap.size := (Array.getElem?_eq_some_iff.1 hbk).1
  have hb2 : w2.heap[b]? = some (.cells #[.pointer (some ⟨b, 0, none⟩), v] 60 (0, 0)) := by
    rw [hgrow.block b hlt (fun e => hne e.symm)]
    exact hbk
  have d0 : w2.cell? ⟨b, 0, none⟩ = some (.pointer (some ⟨b, 0, none⟩)) := by rw [Lib.cell_of_heap hb2]; rfl
  have d1 : w2.cell? ⟨b, 1, none⟩ = some v := by rw [Lib.cell_of_heap hb2]; rfl
  have f1 : w2.frozen? ⟨b, 1, none⟩ = false := Lib.frozen_of_heap hb2 1
  obtain ⟨ao, n', cap, rfl⟩ : ∃ ao n' cap, v' = .slice ao n' cap := by
    rcases hown'.2 with ⟨hv, _⟩ | ⟨g, cap, cur, hv, _⟩
    · exact ⟨_, _, _, hv⟩
    · exact ⟨_, _, _, hv⟩
  go_wp2
  go_ret2
  refine ⟨rfl, .inr ?_, ?_⟩
  · exact Lib.BuilderAt.put (T := 60) (e := 5) hB hb2 (bs' := xs ++ Lib.strCells s) (by simpa [Lib.strCells_length] using hown') (by decide)
  · exact (hb1.grown hgrow (by have := hb1.size; omega) (fun k hk => (hown.lt k hk).1)).setCell (p := ⟨b, 1, none⟩) hB _
end Go.Proofs.YtjnpngbgapigeaaDoor
/- Pictures as text: the program's text, walked. -/
namespace Go.Proofs.YtjnpngbgapigeaaDoor
open Go.RowKit Ev Go.Lib Go.Sort
set_option linter.unusedVariables false
set_option linter.unusedSimpArgs false
theorem cells_app (a b : List UInt8) : Lib.byteCells a ++ Lib.byteCells b = Lib.byteCells (a ++ b) := by unfold Lib.byteCells; rw [List.map_append]
theorem cells_str (l : List UInt8) : Lib.strCells (bs l) = Lib.byteCells l := by
  show Lib.strCells ⟨l.toArray⟩ = _
  unfold Lib.strCells Lib.byteCells
  simp
/-- A builder behind all that is told, holding bytes; what lay below it lies as it lay. -/
structure TX (b : Nat) (l : List UInt8) (W1 X : World) : Prop where
  bd : Lib.IsBuilder 60 5 b b (Lib.byteCells l) X
  bl : Below b W1 X
theorem isb_lt {T e B b : Nat} {xs : List Value} {w : World} (h : Lib.IsBuilder T e B b xs w) : b < w.heap.size := by
  rcases h with h | h
  · exact h.lt
  · exact h.lt
theorem isb_below {T e B b : Nat} {xs : List Value} {w w' : World} (h : Lib.IsBuilder T e B b xs w) (hb : Below w.heap.size w w') : Lib.IsBuilder T e B b xs w' := by
  have hl := isb_lt h
  rcases h with ⟨h1, v, h2, h3, h4⟩ | ⟨h1, v, h2, h3, h4⟩
  · exact .inl ⟨h1, v, (hb.block b hl).trans h2, own_below2 h3 hb, h4⟩
  · exact .inr ⟨h1, v, (hb.block b hl).trans h2, own_below2 h3 hb, h4⟩
theorem grow_below (w : World) (k : Nat) (os : Array Obj) : Below w.heap.size w (grow (w.drewN k) os) := by
  refine ⟨rfl, rfl, rfl, ?_, fun b hb => ?_⟩
  · show w.heap.size ≤ (w.heap ++ os).size
    simp
  · show (w.heap ++ os)[b]? = w.heap[b]?
    rw [Array.getElem?_append_left hb]
section
variable {b : Nat} {l : List UInt8} {W1 X : World}
theorem TX.drew (h : TX b l W1 X) : TX b l W1 X.drew := ⟨isb_below h.bd ⟨rfl, rfl, rfl, Nat.le_refl _, fun _ _ => rfl⟩, h.bl.trans ⟨rfl, rfl, rfl, Nat.le_refl _, fun _ _ => rfl⟩⟩
theorem TX.cell (h : TX b l W1 X) {k o : Nat} (hk : k < b) {v : Value} (hc : W1.cell? ⟨k, o, none⟩ = some v) : X.cell? ⟨k, o, none⟩ = some v :=
  (World.cell?_of_block (w := W1) (a := ⟨k, o, none⟩) (h.bl.block k hk)).trans hc
theorem it_c (h : TX b l W1 X) (ht : Lib.TabBelow Tryd.prog b W1 "internal/strconv.uint64pow10" .u64 Lib.pow10Tab) (n : Nat) (hn : n < 256) :
    Calls Tryd.prog 33 #[.int .i64 n] X fun e X' => e = .returned (.string (bs (decN n))) ∧ TX b l W1 X' := by
  refine (strconv_Itoa n (by omega) (by omega) X (ht X h.bl)).mono ?_
  rintro e X' ⟨rfl, k, os, rfl⟩
  have e1 : Lib.itoa (n : Int) = decN n := by
    unfold Lib.itoa
    rw [if_neg (by omega), Int.toNat_natCast, dec_lib (by omega)]
  have hB := grow_below X k os
  exact ⟨by rw [e1]; rfl, isb_below h.bd hB, h.bl.trans (hB.mono (Nat.le_of_lt (isb_lt h.bd)))⟩
theorem ws_c (h : TX b l W1 X) (s : List UInt8) (hl : l.length + s.length ≤ 1000000) :
    Calls Tryd.prog 32 #[.pointer (some ⟨b, 0, none⟩), .string (bs s)] X fun e X' => e = .returned (.tuple #[.int .i64 s.length, .nilIface]) ∧ TX b (l ++ s) W1 X' := by
  refine (ws_any b b _ (bs s) X h.bd (by rw [Lib.byteCells_length, bs_size]; omega) (Nat.le_of_lt (isb_lt h.bd))).mono ?_
  rintro e X' ⟨rfl, h1, h2⟩
  rw [cells_str, cells_app] at h1
  exact ⟨by rw [bs_size], h1, h.bl.trans h2⟩
theorem wb_c (h : TX b l W1 X) (c : UInt8) (hl : l.length + 1 ≤ 1000000) :
    Calls Tryd.prog 34 #[.pointer (some ⟨b, 0, none⟩), .int .u8 c.toNat] X fun e X' => e = .returned .nilIface ∧ TX b (l ++ [c]) W1 X' := by
  refine (wb_any b b _ c.toNat X h.bd (by rw [Lib.byteCells_length]; omega) (Nat.le_of_lt (isb_lt h.bd))).mono ?_
  rintro e X' ⟨rfl, h1, h2⟩
  rw [show [Value.int .u8 (c.toNat : Int)] = Lib.byteCells [c] from rfl, cells_app] at h1
  exact ⟨rfl, h1, h.bl.trans h2⟩
theorem st_c (h : TX b l W1 X) (h0 : l ≠ []) :
    Calls Tryd.prog 35 #[.pointer (some ⟨b, 0, none⟩)] X fun e X' => e = .returned (.string (bs l)) ∧ Below b W1 X' := by
  refine (Builder_String b b l X h.bd h0).mono ?_
  rintro e X' ⟨rfl, h2⟩
  exact ⟨rfl, h.bl.trans h2⟩
end
end Go.Proofs.YtjnpngbgapigeaaDoor
/- Pictures as text: the program's text, row by row, walked. -/
namespace Go.Proofs.YtjnpngbgapigeaaDoor
open Go.RowKit Ev Go.Lib Go.Sort
set_option linter.unusedVariables false
set_option linter.unusedSimpArgs false
theorem at_facts {W H y x n : Nat} (hn : (n : Int) = 4 * ((W : Int) * (H : Int))) (s2 : (W : Int) ≤ 64) (s4 : (H : Int) ≤ 64) (hyH : y < H) (hxW : x < W) : ∃ q : Nat, (y : Int) * (W : Int) = (q : Int) ∧ q + x < 5000 ∧ 4 * (q + x) + 4 ≤ n ∧ q = y * W := by
  obtain ⟨q, hqN⟩ : ∃ q : Nat, q = y * W := ⟨_, rfl⟩
  have hq : (y : Int) * (W : Int) = (q : Int) := by rw [hqN]; simp
  have hle : (y + 1) * W ≤ H * W := Nat.mul_le_mul_right _ hyH
  have hHW : (W : Int) * (H : Int) = ((H * W : Nat) : Int) := by rw [Nat.mul_comm]; simp
  have hH64 : H ≤ 64 := by omega
  have h64 : H * W ≤ 64 * W := Nat.mul_le_mul_right W hH64
  rw [Nat.add_mul, Nat.one_mul, ← hqN] at hle
  refine ⟨q, hq, by omega, ?_, hqN⟩
  rw [hHW] at hn; omega
theorem wb_sp {b : Nat} {l : List UInt8} {W1 X : World} (h : TX b l W1 X) (hl : l.length + 1 ≤ 1000000) :
    Calls Tryd.prog 34 #[.pointer (some ⟨b, 0, none⟩), .int .u8 32] X fun e X' => e = .returned .nilIface ∧ TX b (l ++ [32]) W1 X' := wb_c h 32 hl
theorem wb_nl {b : Nat} {l : List UInt8} {W1 X : World} (h : TX b l W1 X) (hl : l.length + 1 ≤ 1000000) :
    Calls Tryd.prog 34 #[.pointer (some ⟨b, 0, none⟩), .int .u8 10] X fun e X' => e = .returned .nilIface ∧ TX b (l ++ [10]) W1 X' := wb_c h 10 hl
theorem it_v {b : Nat} {l : List UInt8} {W1 X : World} (h : TX b l W1 X) (ht : Lib.TabBelow Tryd.prog b W1 "internal/strconv.uint64pow10" .u64 Lib.pow10Tab) {v : Int} (h0 : 0 ≤ v) (h1 : v ≤ 255) :
    Calls Tryd.prog 33 #[.int .i64 v] X fun e X' => e = .returned (.string (bs (decN v.toNat))) ∧ TX b l W1 X' := by
  have := it_c h ht v.toNat (by omega)
  rwa [Int.toNat_of_nonneg h0] at this
theorem tx_lens {W H : Nat} {A : Nat → Int} (hA : U8s A) (hw : W ≤ 64) (hh : H ≤ 64) {y k : Nat} (hy : y ≤ 64) (hk : k ≤ 200) : (rowsT W H (colV A) y ++ rowP (colV A) (3 * W * y) k).length ≤ 100000 := by
  have a := rows_len hA hw hh y
  have b := row_len hA (3 * W * y) k
  rw [List.length_append]; omega
theorem tx_col {W y x c q : Nat} {A : Nat → Int} (hc : c < 3) (hq : q = y * W) : colV A (3 * W * y + (3 * x + c)) = A (4 * (q + x) + c) := by
  unfold colV
  have e : 3 * W * y + (3 * x + c) = 3 * (q + x) + c := by rw [hq, Nat.mul_assoc, Nat.mul_comm W y]; omega
  rw [e]
  congr 1
  omega
theorem tx_sp {W H y x c q : Nat} {A : Nat → Int} {v : Int} (h : 0 < x + c) (hc : c < 3) (hq : q = y * W) (hv : v = A (4 * (q + x) + c)) :
    rowsT W H (colV A) y ++ rowP (colV A) (3 * W * y) (3 * x + c) ++ [32] ++ decN v.toNat = rowsT W H (colV A) y ++ rowP (colV A) (3 * W * y) (3 * x + (c + 1)) := by
  show _ = rowsT W H (colV A) y ++ (rowP (colV A) (3 * W * y) (3 * x + c) ++ ((if 0 < 3 * x + c then [32] else []) ++ decN (colV A (3 * W * y + (3 * x + c))).toNat))
  rw [if_pos (by omega), tx_col hc hq, ← hv]
  simp only [List.append_assoc]
theorem tx_no {W H y x c q : Nat} {A : Nat → Int} {v : Int} (h : ¬ 0 < x + c) (hc : c < 3) (hq : q = y * W) (hv : v = A (4 * (q + x) + c)) :
    rowsT W H (colV A) y ++ rowP (colV A) (3 * W * y) (3 * x + c) ++ decN v.toNat = rowsT W H (colV A) y ++ rowP (colV A) (3 * W * y) (3 * x + (c + 1)) := by
  show _ = rowsT W H (colV A) y ++ (rowP (colV A) (3 * W * y) (3 * x + c) ++ ((if 0 < 3 * x + c then [32] else []) ++ decN (colV A (3 * W * y + (3 * x + c))).toNat))
  rw [if_neg (by omega), tx_col hc hq, ← hv]
  simp only [List.append_assoc, List.nil_append]
theorem tx_ne (W H : Nat) (V : Nat → Int) : ∀ y, rowsT W H V y ≠ []
  | 0 => by show headT W H ≠ []; unfold headT; simp
  | y + 1 => by show rowsT W H V y ++ _ ≠ []; intro h; exact tx_ne W H V y (List.append_eq_nil_iff.1 h).1
set_option maxRecDepth 100000 in
set_option maxHeartbeats 600000 in
theorem text_rest {W H n : Nat} {A : Nat → Int} (hA : U8s A) (h0 : picE W H n = 0) {n0 b pb po cap : Nat} {X0 : World} (hTab : Lib.TabBelow Tryd.prog b X0 "internal/strconv.uint64pow10" .u64 Lib.pow10Tab)
    (hpb : pb < b) (hsz : n0 < b) (hnc : n ≤ cap) (hcm : cap ≤ maxLen) (hc0 : X0.cell? ⟨n0, 0, none⟩ = some (.int .i64 W)) (hc1 : X0.cell? ⟨n0, 1, none⟩ = some (.int .i64 H)) (hc2 : X0.cell? ⟨n0, 2, none⟩ = some (.slice (some ⟨pb, po, none⟩) n cap))
    (hpx : ∀ j, j < n → X0.cell? ⟨pb, po + j, none⟩ = some (.int .u8 (A j))) {X : World} (hT : TX b (headT W H) X0 X) (x0 x2 x3 x4 x6 x7 x8 x9 x10 x11 x12 x13 x14 x15 x16 x17 x18 x19 x20 x21 x22 x23 x24 x25 x26 x27 x28 x29 x30 x31 x32 x33 x34 x35 x36 x37 x38 x39 x40 x41 x42 x43 x44 x45 x46 x47 x48 x49 x50 x51 x52 x53 x54 x55 x56 x57 x58 x59 x60 x61 x62 x63 x64 x65 x66 x67 x68 x69 : Value) {R : Ending → World → Prop} (hR : ∀ X', Below b X0 X' → R (.returned (.tuple #[.string (bs (txL W H A)), .int .i64 0])) X') :
    (cutC Tryd.f14 4).wp Tryd.prog (bodyPost Tryd.prog Tryd.f14 R) { tmps := #[x0, .pointer (some ⟨n0, 0, none⟩), x2, x3, x4, .pointer (some ⟨b, 0, none⟩), x6, x7, x8, x9, x10, x11, x12, x13, x14, x15, x16, x17, x18, x19, x20, x21, x22, x23, x24, x25, x26, x27, x28, x29, x30, x31, x32, x33, x34, x35, x36, x37, x38, x39, x40, x41, x42, x43, x44, x45, x46, x47, x48, x49, x50, x51, x52, x53, x54, x55, x56, x57, x58, x59, x60, x61, x62, x63, x64, x65, x66, x67, x68, x69], defers := [] } X := by
  obtain ⟨hs, hn⟩ := picE_ok h0
  obtain ⟨s1, s2, s3, s4⟩ := hs
  have d0 := hT.cell hsz hc0
  have d1 := hT.cell hsz hc1
  dsimp only [cutC, bodyC, Tryd.f14, List.range, List.range.loop, List.foldl, sndC]
  go_wp2
  go_loopw [29] (fun iv wr => ∃ y : Nat, y ≤ H ∧ iv = .int .i64 y ∧ TX b (rowsT W H (colV A) y) X0 wr) (fun iv _ => H - (intOf iv).toNat)
  case atStart => exact ⟨0, Nat.zero_le _, rfl, hT⟩
  case round =>
    obtain ⟨y, hy, rfl, hTy⟩ := hrel
    clear d0 d1
    have d0 := hTy.cell hsz hc0
    by_cases hyH : y < H
    · go_wp2_with fail
      go_loopw [34] (fun xv wr => ∃ x : Nat, x ≤ W ∧ xv = .int .i64 x ∧ TX b (rowsT W H (colV A) y ++ rowP (colV A) (3 * W * y) (3 * x)) X0 wr) (fun xv _ => W - (intOf xv).toNat)
      case atStart => exact ⟨0, Nat.zero_le _, rfl, by show TX b (rowsT W H (colV A) y ++ []) X0 _; rw [List.append_nil]; exact hTy⟩
      case round =>
        obtain ⟨x, hx, rfl, hTx⟩ := hrel
        clear d0
        have d0 := hTx.cell hsz hc0
        have d2 := hTx.cell hsz hc2
        by_cases hxW : x < W
        · have HF := at_facts hn s2 s4 hyH hxW
          obtain ⟨q, hq, hb1, hb2, hqN0⟩ := HF
          have hqN := hid hqN0
          clear hqN0
          go_wp2_with fail
          rw [show 4 * (q + x) + 3 - 4 * (q + x) = 3 by omega]
          go_loopw [51] (fun kv wr => ∃ c : Nat, c ≤ 3 ∧ kv = .int .i64 c ∧ TX b (rowsT W H (colV A) y ++ rowP (colV A) (3 * W * y) (3 * x + c)) X0 wr) (fun kv _ => 3 - (intOf kv).toNat)
          case atStart => exact ⟨0, by decide, rfl, hTx⟩
          case round =>
            obtain ⟨c, hc, rfl, hTc⟩ := hrel
            have hl := tx_lens (W := W) (H := H) (A := A) hA (by omega) (by omega) (show y ≤ 64 by omega) (show 3 * x + c ≤ 200 by omega)
            by_cases hc3 : c < 3
            · have hcell := hTc.cell hpb (hpx (4 * (q + x) + c) (by omega))
              rw [← Nat.add_assoc] at hcell
              have ha := hA (4 * (q + x) + c)
              have hdl := dec_len (A (4 * (q + x) + c)).toNat (by omega)
              by_cases hsp : 0 < x + c
              · have hnx := hid (tx_sp (A := A) (W := W) (H := H) (y := y) hsp hc3 hqN.out rfl)
                go_wp2_with (first
                  | (go_at_call 34; refine (wb_sp hTc (by omega)).mono ?_; rintro e X2 ⟨rfl, hT2⟩)
                  | (go_at_call 33; refine (it_v hT2 hTab ha.1 (by omega)).mono ?_; rintro e X3 ⟨rfl, hT3⟩)
                  | (go_at_call 32; refine (ws_c hT3 (decN (A (4 * (q + x) + c)).toNat) (by rw [List.length_append]; simp only [List.length_cons, List.length_nil]; omega)).mono ?_; rintro e X4 ⟨rfl, hT4⟩))
                have hT5 : TX b (rowsT W H (colV A) y ++ rowP (colV A) (3 * W * y) (3 * x + (c + 1))) X0 X4 := by rw [← hnx.out]; exact hT4
                refine ⟨⟨c + 1, by omega, congrArg _ (by omega), hT5⟩, by dsimp only [intOf]; omega⟩
              · have hnx := hid (tx_no (A := A) (W := W) (H := H) (y := y) hsp hc3 hqN.out rfl)
                go_wp2_with (first
                  | (go_at_call 33; refine (it_v hTc hTab ha.1 (by omega)).mono ?_; rintro e X3 ⟨rfl, hT3⟩)
                  | (go_at_call 32; refine (ws_c hT3 (decN (A (4 * (q + x) + c)).toNat) (by omega)).mono ?_; rintro e X4 ⟨rfl, hT4⟩))
                have hT5 : TX b (rowsT W H (colV A) y ++ rowP (colV A) (3 * W * y) (3 * x + (c + 1))) X0 X4 := by rw [← hnx.out]; exact hT4
                refine ⟨⟨c + 1, by omega, congrArg _ (by omega), hT5⟩, by dsimp only [intOf]; omega⟩
            · obtain rfl : c = 3 := by omega
              go_wp2_with fail
              refine ⟨⟨x + 1, by omega, congrArg _ (by omega), by rw [show 3 * (x + 1) = 3 * x + 3 by omega]; exact hTc⟩, by dsimp only [intOf]; omega⟩
        · have hl := tx_lens (W := W) (H := H) (A := A) hA (by omega) (by omega) (show y ≤ 64 by omega) (show 3 * x ≤ 200 by omega)
          go_wp2_with (go_at_call 34; refine (wb_nl hTx (by omega)).mono ?_; rintro e X2 ⟨rfl, hT2⟩)
          have hT5 : TX b (rowsT W H (colV A) (y + 1)) X0 X2 := by
            show TX b (rowsT W H (colV A) y ++ (rowP (colV A) (3 * (W : Int).toNat * y) (3 * (W : Int).toNat) ++ [10])) X0 X2
            rw [Int.toNat_natCast, ← List.append_assoc, show W = x by omega]
            rw [show W = x by omega] at hT2
            exact hT2
          refine ⟨⟨y + 1, by omega, congrArg _ (by omega), hT5⟩, by dsimp only [intOf]; omega⟩
    · have hle : y = H := by omega
      go_wp2_with (go_at_call 35; refine (st_c hTy (tx_ne W H (colV A) y)).mono ?_; rintro e X2 ⟨rfl, hT2⟩)
      exact hT2
end Go.Proofs.YtjnpngbgapigeaaDoor
/- Pictures as text: the program's text, walked. -/
namespace Go.Proofs.YtjnpngbgapigeaaDoor
open Go.RowKit Ev Go.Lib Go.Sort
set_option linter.unusedVariables false
set_option linter.unusedSimpArgs false
theorem headS (W H : Nat) : (ByteArray.mk #[80, 51, 10]) ++ bs (decN W) ++ (ByteArray.mk #[32]) ++ bs (decN H) ++ (ByteArray.mk #[10, 50, 53, 53, 10]) = bs (headT W H) := by
  rw [show (ByteArray.mk #[80, 51, 10]) = bs [80, 51, 10] from rfl, show (ByteArray.mk #[32]) = bs [32] from rfl, show (ByteArray.mk #[10, 50, 53, 53, 10]) = bs [10, 50, 53, 53, 10] from rfl, bs_app, bs_app, bs_app, bs_app]
  unfold headT; simp
theorem ws_c2 {b : Nat} {l : List UInt8} {W1 X : World} (h : TX b l W1 X) {s : List UInt8} {s' : ByteArray} (hs : s' = bs s) (hl : l.length + s.length ≤ 1000000) :
    Calls Tryd.prog 32 #[.pointer (some ⟨b, 0, none⟩), .string s'] X fun e X' => e = .returned (.tuple #[.int .i64 s.length, .nilIface]) ∧ TX b (l ++ s) W1 X' := by
  rw [hs]; exact ws_c h s hl
set_option maxRecDepth 100000 in
theorem may_c {W H n : Nat} {A : Nat → Int} (h0 : picE W H n = 0) {V : Value} {w : World} (hV : Rd w (fun _ => none) (fun b => b < w.heap.size) (.agg [.int .i64 W, .int .i64 H, ints .u8 n A]) V) :
    TW w → Calls Tryd.prog 28 #[V] w fun e w' => e = .returned (.int .i64 0) ∧ Below w.heap.size w w' := by
  intro htw
  refine (calls_acalls mayP_f rfl (mayP_a W H n A) (w := w) (vals := [V]) (.cons hV .nil) htw).mono ?_
  rintro e w' ⟨v, rfl, hB, hr⟩
  rw [h0] at hr
  exact ⟨by rw [hr.inv_int], hB⟩
set_option maxRecDepth 100000 in
set_option maxHeartbeats 16000000 in
theorem text_c {W H n : Nat} {A : Nat → Int} (hA : U8s A) (h0 : picE W H n = 0) {pb po cap : Nat} {w : World} (ht : TW w)
    (hpb : pb < w.heap.size) (hnc : n ≤ cap) (hcm : cap ≤ maxLen) (hpx : ∀ j, j < n → w.cell? ⟨pb, po + j, none⟩ = some (.int .u8 (A j))) :
    Calls Tryd.prog 14 #[.agg #[.int .i64 W, .int .i64 H, .slice (some ⟨pb, po, none⟩) n cap]] w fun e w' => e = .returned (.tuple #[.string (bs (txL W H A)), .int .i64 0]) ∧ Below w.heap.size w w' := by
  have hRd : ∀ X, Below w.heap.size w X → Rd X (fun _ => none) (fun b => b < X.heap.size) (.agg [.int .i64 W, .int .i64 H, ints .u8 n A]) (.agg #[.int .i64 W, .int .i64 H, .slice (some ⟨pb, po, none⟩) n cap]) := fun X hX => by
    have hs := hX.size
    refine .agg _ _ rfl (fun i hi => ?_) fun i hi => ?_
    · match i, hi with
      | 0, _ => rfl
      | 1, _ => rfl
      | 2, _ => rfl
    · match i, hi with
      | 0, _ => exact .int _ _
      | 1, _ => exact .int _ _
      | 2, _ =>
        refine .sl n 1 _ pb po cap (fun j => .int .u8 (A j)) (by omega) hnc hcm (fun j hj => ?_) (fun _ _ => rfl) fun j hj => .int _ _
        rw [Nat.mul_one] at hj
        exact (World.cell?_of_block (w := w) (a := ⟨pb, po + j, none⟩) (hX.block pb hpb)).trans (hpx j hj)
  obtain ⟨hs, hn⟩ := picE_ok h0
  obtain ⟨s1, s2, s3, s4⟩ := hs
  go_enter Tryd.func14, Tryd.ntmps14
  go_wp2_with (go_at_call 28; refine (may_c h0 (hRd _ ((Below.refl _ w).alloc (Nat.le_refl _) _)) (ht.below ((Below.refl _ w).alloc (Nat.le_refl _) _))).mono ?_; rintro e w1 ⟨rfl, hB1⟩)
  rename_i K hK
  obtain ⟨X0, hX0⟩ : ∃ X, w1.alloc (.cells #[.pointer none, .slice none 0 0] 60) = X := ⟨_, rfl⟩
  rw [hX0]
  have hsz : w.heap.size < w1.heap.size := by have := hB1.size; simp at this; omega
  have hT0 : TX w1.heap.size [] X0 X0 := ⟨.inl ⟨Nat.le_refl _, _, by rw [← hX0]; exact World.alloc_heap_new w1 _, World.ownsRow_nil _ _ _ _, by simp [Value.ownBlock]⟩, Below.refl _ _⟩
  have hBw : Below w.heap.size w X0 := by
    rw [← hX0]
    exact (((Below.refl _ w).alloc (Nat.le_refl _) _).trans (hB1.mono (by simp))).alloc (by omega) _
  have hTab : Lib.TabBelow Tryd.prog w1.heap.size X0 "internal/strconv.uint64pow10" .u64 Lib.pow10Tab := fun w' hb' => tabBelow_of_tabIs ht w' (hBw.trans (hb'.mono (by omega)))
  have hbx : X0.heap[w.heap.size]? = some (.cells #[.int .i64 W, .int .i64 H, .slice (some ⟨pb, po, none⟩) n cap] 24) := by
    rw [← hX0]
    exact (Ev.heap_alloc_ne w1 _ hsz).trans ((hB1.block _ (by simp)).trans (World.alloc_heap_new w _))
  have hc0 : X0.cell? ⟨w.heap.size, 0, none⟩ = some (.int .i64 W) := by rw [Lib.cell_of_heap hbx]; rfl
  have hc1 : X0.cell? ⟨w.heap.size, 1, none⟩ = some (.int .i64 H) := by rw [Lib.cell_of_heap hbx]; rfl
  have hc2 : X0.cell? ⟨w.heap.size, 2, none⟩ = some (.slice (some ⟨pb, po, none⟩) n cap) := by rw [Lib.cell_of_heap hbx]; rfl
  have hpx0 : ∀ j, j < n → X0.cell? ⟨pb, po + j, none⟩ = some (.int .u8 (A j)) := fun j hj => (World.cell?_of_block (w := w) (a := ⟨pb, po + j, none⟩) (hBw.block pb hpb)).trans (hpx j hj)
  obtain ⟨b, hb⟩ : ∃ b, b = w1.heap.size := ⟨_, rfl⟩
  rw [← hb] at hsz hT0 hTab ⊢
  clear hbx hX0 hB1 hb
  have hmx : Tryd.prog.follows .mixedOrders = true := by kernel_rfl
  have hT1 := hT0.drew
  have e0 := hT1.cell hsz hc0
  have e1 := hT1.cell hsz hc1
  have zW : (bs (decN W)).size ≤ 3 := by rw [bs_size]; exact dec_len W (by omega)
  have zH : (bs (decN H)).size ≤ 3 := by rw [bs_size]; exact dec_len H (by omega)
  have hl0 : ([] : List UInt8).length + (headT W H).length ≤ 1000000 := by
    have := rows_len (W := W) (H := H) hA (by omega) (by omega) 0
    rw [List.length_nil]
    exact Nat.le_trans (Nat.le_of_eq (Nat.zero_add _)) (Nat.le_trans this (by omega))
  have hpbb : pb < b := by omega
  have hfin : ∀ (X4 : World) (hT : TX b ([] ++ headT W H) X0 X4) (x0 x2 x3 x4 x6 x7 x8 x9 x10 x11 x12 x13 x14 x15 x16 x17 x18 x19 x20 x21 x22 x23 x24 x25 x26 x27 x28 x29 x30 x31 x32 x33 x34 x35 x36 x37 x38 x39 x40 x41 x42 x43 x44 x45 x46 x47 x48 x49 x50 x51 x52 x53 x54 x55 x56 x57 x58 x59 x60 x61 x62 x63 x64 x65 x66 x67 x68 x69 : Value), K { tmps := #[x0, .pointer (some ⟨w.heap.size, 0, none⟩), x2, x3, x4, .pointer (some ⟨b, 0, none⟩), x6, x7, x8, x9, x10, x11, x12, x13, x14, x15, x16, x17, x18, x19, x20, x21, x22, x23, x24, x25, x26, x27, x28, x29, x30, x31, x32, x33, x34, x35, x36, x37, x38, x39, x40, x41, x42, x43, x44, x45, x46, x47, x48, x49, x50, x51, x52, x53, x54, x55, x56, x57, x58, x59, x60, x61, x62, x63, x64, x65, x66, x67, x68, x69], defers := [] } X4 := by
    intro X4 hT x0 x2 x3 x4 x6 x7 x8 x9 x10 x11 x12 x13 x14 x15 x16 x17 x18 x19 x20 x21 x22 x23 x24 x25 x26 x27 x28 x29 x30 x31 x32 x33 x34 x35 x36 x37 x38 x39 x40 x41 x42 x43 x44 x45 x46 x47 x48 x49 x50 x51 x52 x53 x54 x55 x56 x57 x58 x59 x60 x61 x62 x63 x64 x65 x66 x67 x68 x69
    refine hK _ _ ?_
    exact text_rest hA h0 hTab hpbb hsz hnc hcm hc0 hc1 hc2 hpx0 hT x0 x2 x3 x4 x6 x7 x8 x9 x10 x11 x12 x13 x14 x15 x16 x17 x18 x19 x20 x21 x22 x23 x24 x25 x26 x27 x28 x29 x30 x31 x32 x33 x34 x35 x36 x37 x38 x39 x40 x41 x42 x43 x44 x45 x46 x47 x48 x49 x50 x51 x52 x53 x54 x55 x56 x57 x58 x59 x60 x61 x62 x63 x64 x65 x66 x67 x68 x69 (fun X' hb => ⟨rfl, hBw.trans (hb.mono (by omega))⟩)
  clear hK
  go_region_with_o (first
    | (go_at_call 33; refine (it_c hT2 hTab H (by omega)).mono ?_; rintro e X3 ⟨rfl, hT3⟩)
    | (go_at_call 33; refine (it_c hT1 hTab W (by omega)).mono ?_; rintro e X2 ⟨rfl, hT2⟩; have e2 := hT2.cell hsz hc1)
    | (go_at_call 32; refine (ws_c2 hT3 (headS W H) hl0).mono ?_; rintro e X4 ⟨rfl, hT4⟩))
  all_goals exact hfin _ hT4 _ _ _ _ _ _ _ _ _ _ _ _ _ _ _ _ _ _ _ _ _ _ _ _ _ _ _ _ _ _ _ _ _ _ _ _ _ _ _ _ _ _ _ _ _ _ _ _ _ _ _ _ _ _ _ _ _ _ _ _ _ _ _ _ _ _ _ _
end Go.Proofs.YtjnpngbgapigeaaDoor
