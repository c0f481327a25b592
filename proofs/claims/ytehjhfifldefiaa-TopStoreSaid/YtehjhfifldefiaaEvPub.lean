/- The abstract machine: functions that write, and hand back what is new, as what reads alone. -/
import Derived.Test.YtehjhfifldefiaaEvLoop
namespace Go.Proofs.Ytehjhfifldefiaa
open Go.RowKit
set_option linter.unusedVariables false
set_option linter.unusedSimpArgs false
namespace Ev

def outP (n : Nat) (r : AV) (rows' : List OB) : AV → (Nat → OB) → Nat → Prop := fun v own _ => match pubT own v with
  | .no => False
  | .ok u ks p => preE p (IsT (ks.all fun k => Nat.ble n k) ∧ IsT (Nat.ble rows'.length n) ∧ agrRows (pinK n) own rows' 0 ∧ force u fun u => agr (fun _ => none) r u)
section
variable {P : Program} {w0 : St0}
theorem pubT_live {w σ Im own} (hS : Sat w0 w σ Im own) {v u : AV} {V : Value} {ks : List Nat} {p : Option Prop} (h : pubT own v = .ok u ks p) (hp : p.getD True) (hv : Rd w σ Im v V) : ∀ k ∈ ks, (own k).live := by
  unfold pubT at h
  split at h
  · split at h
    · cases h
    rename_i e
    cases h
    obtain ⟨cs, rfl, h1, h3⟩ := hv.inv_tup
    exact (pubL_sound hS cs.toList e hp (two_array h1 h3)).2
  · exact (pub1_sound hS h hp hv).2
theorem agrRows_same {f : Nat → Option Nat} {own own' : Nat → OB} : ∀ (l : List OB) (n : Nat), (∀ k, n ≤ k → k < n + l.length → own' k = own k) → agrRows f own l n → agrRows f own' l n
  | [], _, _, _ => True.intro
  | b :: r, n, h, ⟨h1, h2⟩ => by
    refine ⟨?_, agrRows_same r (n + 1) (fun k hk hk' => h k (by omega) (by simp; omega)) h2⟩
    rw [h n (Nat.le_refl _) (by simp)]; exact h1
theorem mcallsP_of {cx : Cx} {con : Nat → List AV → CR} {inl : Nat → Bool} {fns : Nat → Option Func} {mc : Nat → List AV → (Nat → OB) → MR} (hB : Base P cx con fns mc) (n : Nat) {f : Nat} {fn : Func} (hf : FnOk P f fn) {args : List AV} {rows : List OB} {r : AV} {rows' : List OB}
    (h : runA rows.length cx con inl (calT cx con inl fns mc n) fn args (outP rows.length r rows') (rowsO rows) rows.length) : MCalls P f args rows r rows' := by
  intro w0 w σ Im vals hS hn ht
  refine (run_sound hB.cx hB.con (calT_ok (w0 := w0) hB.cx hB.con hB.mix hB.fns hB.mc n) hB.mix hf h hS hn (fun k hk => by rw [rowsO_ge rows k hk]; exact fun e => e) ht).mono fun v w' ⟨σ', Im', u, own', nk', hk, hr, hS', hn', hd, hg⟩ => ?_
  unfold outP at hk
  split at hk
  · exact hk.elim
  · rename_i u' ks p e
    obtain ⟨hp, h1, h2, h3, hk⟩ := preE_iff hk
    rw [force_eq] at hk
    have hlive := pubT_live hS' e hp hr
    have hR := agr_rd hk (pubT_sound hS' e hp hr)
    have hsh := shuts hS' ks hlive Im' own' hS' (fun _ _ => rfl) hS'.im (fun k a b => absurd a b)
    have hge : ∀ k, k < rows.length → applyW own' (ks.map fun k => (k, OB.gone)) k = own' k := fun k hk => by
      refine applyW_other _ _ _ fun hm => ?_
      simp only [keys, List.map_map, List.mem_map, Function.comp] at hm
      obtain ⟨i, hi, rfl⟩ := hm
      have := Nat.le_of_ble_eq_true (List.all_eq_true.1 h1.eq i hi)
      omega
    have hle := Nat.le_of_ble_eq_true h2.eq
    refine ⟨fun k => (pinK rows.length k).bind σ', _, ?_, hsh.pin hle (agrRows_same rows' 0 (fun k _ hk' => hge k (by omega)) h3), fun k hk _ => ?_, ⟨fun b hb => .inl (hg.im b hb), hg.blk, fun k b hk e => ?_, hg.len⟩⟩
    · exact hR.up
    · cases hp : pinK rows.length k with
      | none => simp only [hp, Option.bind_none]
      | some k' => have := (pinK_some hp).2; omega
    · simp only [pinK_lt hk, Option.bind_some]
      exact hg.sg k b hk e
end
end Ev
end Go.Proofs.Ytehjhfifldefiaa
