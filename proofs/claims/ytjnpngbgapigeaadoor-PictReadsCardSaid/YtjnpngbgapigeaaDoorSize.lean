/- How long an argument is that is a slice: what its reading tells. -/
import Derived.Test.YtjnpngbgapigeaaDoorEvArg
import Derived.SizedLaws
namespace Go.Proofs.YtjnpngbgapigeaaDoor
open Go Go.RowKit Ev
set_option linter.unusedVariables false

theorem trod_len {H : Type} {enc : TypeId × Value → H} {P : Program} {W w : World} {base : Nat} {spare : Nat → Bool} {held : Bool} {σ : Nat → Option Nat} {Im : Nat → Prop} {t e : TypeId} {v : Value} {d : DataW H} {p : List MemPlace} {n sz : Nat} {g : Nat → AV}
    (hu : P.underlying t = some (.slice e)) (h : DataW.Trod enc P W base spare held t v d p) (hr : Rd w σ Im (.sl n sz g) v) : n = 0 ∨ ∃ elems rest, d = .slice elems rest ∧ elems.length = n := by
  rcases hr.inv_sl with ⟨h0, _⟩ | ⟨b, off, cap, U, rfl, _⟩
  · exact .inl h0
  · refine .inr ?_
    obtain ⟨fuel, hf⟩ := h
    cases fuel with
    | zero => simp [DataW.trod] at hf
    | succ fuel =>
      have hf' : DataW.trod enc P W base spare held (fuel + 1) t [.slice (some ⟨b, off, none⟩) n cap] = some (d, p) := hf
      unfold DataW.trod at hf'
      rw [hu] at hf'
      dsimp only at hf'
      split at hf'
      · simp only [Option.bind_eq_some_iff, Option.map_eq_some_iff] at hf'
        obtain ⟨elems, hel, rest, _, he⟩ := hf'
        have g1 := (mapM_get hel).1
        rw [List.length_range] at g1
        cases he
        exact ⟨_, _, rfl, by rw [List.length_map]; exact g1⟩
      · cases hf'
theorem arg_len {H : Type} {P : Program} {ts : List TypeId} {ds : List (DataW H)} {j : Nat} {t e : TypeId} {d : DataW H} {n : Nat} (hz : (DataW.weightsEach P ts ds).all (· ≤ reachBytes) = true) (ht : ts[j]? = some t) (hd : ds[j]? = some d) (hu : P.underlying t = some (.slice e)) (hb : P.bytesOf e = 8)
    (h : n = 0 ∨ ∃ elems rest, d = .slice elems rest ∧ elems.length = n) : n ≤ 17592186044416 := by
  rcases h with h | ⟨elems, rest, rfl, rfl⟩
  · omega
  · have a := sized_slice hz ht hd hu
    rw [hb] at a
    have r : reachBytes < 140737488355328 := reachBytes_lt
    omega
end Go.Proofs.YtjnpngbgapigeaaDoor
