/- Rows of cells, one behind the other, and what is taken of them. -/
import Derived.Test.YtgbcnfcgljbbgaaEvPub
import Derived.Test.YtgbcnfcgljbbgaaEvNum
namespace Go.Proofs.Ytgbcnfcgljbbgaa
open Go.RowKit Ev
set_option linter.unusedVariables false
set_option linter.unusedSimpArgs false
set_option maxRecDepth 20000
set_option maxHeartbeats 4000000

theorem view_agg {nm : Bool} {l l' : List AV} {K : AV → Prop} (e : l = l') (h : nameE nm (.agg l') K) : nameE nm (.agg l) K := e ▸ h
theorem view_one {nm : Bool} {v v' : AV} {K : AV → Prop} (e : v = v') (h : nameE nm v' K) : nameE nm v K := e ▸ h
/-- Rows of so many cells each, one behind the other. -/
@[irreducible] def flatF (sz : Nat) (row : Nat → List AV) (j : Nat) : AV := (row (j / sz)).getD (j % sz) .any
theorem flat_at {sz : Nat} {row : Nat → List AV} {i c : Nat} (hc : c < sz) : flatF sz row (i * sz + c) = (row i).getD c .any := by
  unfold flatF
  rw [show (i * sz + c) / sz = i by rw [Nat.mul_comm, Nat.mul_add_div (by omega), Nat.div_eq_of_lt hc, Nat.add_zero], show (i * sz + c) % sz = c by rw [Nat.mul_comm, Nat.mul_add_mod, Nat.mod_eq_of_lt hc]]
theorem view_flat {nm : Bool} {sz sz' : Nat} {row : Nat → List AV} {i : Nat} {K : AV → Prop} (hs : sz' = sz) (hl : (row i).length = sz) (h : nameE nm (.agg (row i)) K) :
    nameE nm (.agg (List.map (fun j => flatF sz row (mulN (i : Int).toNat sz + j)) (List.range sz'))) K := by
  refine view_agg ?_ h
  subst hs
  rw [mulN_eq, Int.toNat_natCast]
  apply List.ext_getElem
  · simp [hl]
  · intro c h1 h2
    simp only [List.getElem_map, List.getElem_range]
    rw [flat_at (by simpa using h1), List.getD_eq_getElem?_getD, List.getElem?_eq_getElem h2]; rfl
theorem view_cell {nm : Bool} {sz : Nat} {row : Nat → List AV} {i c : Nat} {K : AV → Prop} (hc : Nat.blt c sz = true) (h : nameE nm ((row i).getD c .any) K) :
    nameE nm (flatF sz row (mulN (i : Int).toNat sz + c)) K := by
  refine view_one ?_ h
  rw [mulN_eq, Int.toNat_natCast, flat_at (Nat.le_of_ble_eq_true hc)]
theorem view_take {nm : Bool} {sz sz' : Nat} {row : Nat → List AV} {i : Nat} {K : AV → Prop} (hs : Nat.ble sz' sz = true) (hl : (row i).length = sz) (h : nameE nm (.agg ((row i).take sz')) K) :
    nameE nm (.agg (List.map (fun j => flatF sz row (mulN (i : Int).toNat sz + j)) (List.range sz'))) K := by
  refine view_agg ?_ h
  have hs := Nat.le_of_ble_eq_true hs
  rw [mulN_eq, Int.toNat_natCast]
  apply List.ext_getElem
  · simp [hl]; omega
  · intro c h1 h2
    simp only [List.getElem_map, List.getElem_range, List.getElem_take]
    have hc : c < sz' := by simpa using h1
    rw [flat_at (by omega), List.getD_eq_getElem?_getD, List.getElem?_eq_getElem (by omega)]; rfl
theorem view_drop {nm : Bool} {sz sz' o : Nat} {row : Nat → List AV} {i : Nat} {K : AV → Prop} (hs : Nat.ble (o + sz') sz = true) (hl : (row i).length = sz) (h : nameE nm (.agg (((row i).drop o).take sz')) K) :
    nameE nm (.agg (List.map (fun j => flatF sz row (mulN (i : Int).toNat sz + o + j)) (List.range sz'))) K := by
  refine view_agg ?_ h
  have hs := Nat.le_of_ble_eq_true hs
  rw [mulN_eq, Int.toNat_natCast]
  apply List.ext_getElem
  · simp [hl]; omega
  · intro c h1 h2
    simp only [List.getElem_map, List.getElem_range, List.getElem_take, List.getElem_drop]
    have hc : c < sz' := by simpa using h1
    rw [Nat.add_assoc, flat_at (by omega), List.getD_eq_getElem?_getD, List.getElem?_eq_getElem (by omega)]; rfl
theorem flat_row {sz : Nat} {row : Nat → List AV} {i c j : Nat} (hc : c < sz) (hj : j = i * sz + c) : flatF sz row j = (row i).getD c .any := by subst hj; exact flat_at hc
end Go.Proofs.Ytgbcnfcgljbbgaa
