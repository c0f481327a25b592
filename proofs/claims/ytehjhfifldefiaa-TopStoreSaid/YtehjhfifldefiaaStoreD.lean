/- Stores of films: a store's bytes, and what is kept. -/
import Derived.Test.YtehjhfifldefiaaStoreC
namespace Go.Proofs.Ytehjhfifldefiaa
open Go.RowKit Ev
set_option linter.unusedVariables false
set_option linter.unusedSimpArgs false
set_option maxRecDepth 20000
set_option maxHeartbeats 4000000

theorem ref_1 {w : World} {σ : Nat → Option Nat} {Im : Nat → Prop} {q : Nat} {g : Nat → AV} {V : Value} (hq : 1 ≤ q) (h : Rd w σ Im (.ref q g) V) : Rd w σ Im (.ref 1 fun _ => g 0) V := by
  obtain ⟨b, off, U, rfl, hb, hc, h1, hr⟩ := h.inv_ref
  exact .ref 1 _ b off U hb (fun j hj => hc j (by omega)) (fun j hj => h1 j (by omega)) fun j hj => by
    obtain rfl : j = 0 := by omega
    exact hr 0 (by omega)
theorem mcalls_ref {P : Program} {f : FuncId} {q : Nat} {g : Nat → AV} {r : AV} {rows2 : List OB} (hq : 1 ≤ q) (h : MCalls P f [.ref 1 fun _ => g 0] [] r rows2) : MCalls P f [.ref q g] [] r rows2 := by
  intro w0 w σ Im vals hS hn ht
  cases ht with
  | cons h1 t => exact h w0 w σ Im _ hS hn (.cons (ref_1 hq h1) t)
theorem bytes1_f : FnOk Try.prog 18 Try.f18 := ⟨Try.func18, by kernel_rfl⟩
theorem bytes1_a (n : Nat) (B : Nat → Int) (hpre : n ≤ 1000000000) : MCalls Try.prog 18 ([.ref 1 (fun _ => .sl n 1 fun j => .int .u8 (B j))]) [] (.os 0 1 0 n) [.nums .u8 n B] := by
  refine mcallsF_of (inl := hasI (P := Try.prog) [] []) (base [] [] []) 0 bytes1_f (And.intro (by kernel_rfl) ?_)
  repeat' (first | refine And.intro ?_ ?_ | (with_reducible exact ff_elim) | (with_reducible exact tf_elim) | refine' rho_mk [_] ?_ | refine num_elim ?_ | intro _ | (with_reducible rfl) | ((with_reducible refine lk_t ?_); exact rfl) | ((with_reducible refine pf_t ?_); exact rfl) | refine tell ?_ | exact True.intro | (refine IsT.of ?_; kernel_rfl))
  all_goals (try exact (0 : Nat))
  all_goals (try refine Tell.mk ?_)
  all_goals first | rfl | omega | exact Nat.le_refl _ | (show (0 + n) * 1 ≤ _; omega) | (rw [catI_some, if_neg (Nat.not_lt_zero _)]; rfl) | trace_state
def bytesN_m : MCon Try.prog := ⟨18, fun args own => match args with
    | [.ref q g] => (match g 0 with
      | .sl n z u => .ok [] [.ref q g] [] (some (1 ≤ q ∧ z = 1 ∧ IsI .u8 u ∧ n ≤ 1000000000 ∧ g 0 = .sl n z u)) (.os 0 1 0 n) [.nums .u8 n (intF u)]
      | _ => .no)
    | _ => .no, by
  intro args own ks cargs rows p r rows2 h hp
  split at h
  · split at h
    · cases h
      obtain ⟨hq, rfl, hu, hn, e⟩ := hp
      refine mcalls_ref hq ?_
      rw [e, hu.eq]
      exact bytes1_a _ _ hn
    · cases h
  · cases h⟩
@[irreducible] def appB (N : Nat) (D : Nat → Int) (M : Nat) (C : Nat → Int) (j : Nat) : Int := if j < N then D j else if j < N + 4 then putV (M : Int) 4 (j - N) else C (j - (N + 4))
theorem appB_0 {N : Nat} {D : Nat → Int} {M : Nat} {C : Nat → Int} {j : Nat} (h : j < N) : appB N D M C j = D j := by unfold appB; exact if_pos h
theorem appB_1 {N : Nat} {D : Nat → Int} {M : Nat} {C : Nat → Int} {j : Nat} (i : Nat) (h : i < 4) (e : j = N + i) : appB N D M C j = putV (M : Int) 4 i := by
  subst e; unfold appB; rw [if_neg (by omega), if_pos (by omega), Nat.add_sub_cancel_left]
theorem appB_2 {N : Nat} {D : Nat → Int} {M : Nat} {C : Nat → Int} {j : Nat} (i : Nat) (e : j = N + 4 + i) : appB N D M C j = C i := by
  subst e; unfold appB; rw [if_neg (by omega), if_neg (by omega), Nat.add_sub_cancel_left]
theorem appB_step {N M : Nat} {D C : Nat → Int} {j k0 k1 k2 k3 k4 : Nat} : appB N D M C j = (catI (N + 1 + 1 + 1 + 1) (some k4) (catI (N + 1 + 1 + 1) (some k3) (catI (N + 1 + 1) (some k2) (catI (N + 1) (some k1) (catI N (some k0) D (fun _ => byteP (M : Int) 24)) (fun _ => byteP (M : Int) 16)) (fun _ => byteP (M : Int) 8)) (fun _ => byteP (M : Int) 0)) (fun j => C j)) j := by
  simp only [catI_some]
  by_cases h4 : j < N + 1 + 1 + 1 + 1
  · rw [if_pos h4]
    by_cases h3 : j < N + 1 + 1 + 1
    · rw [if_pos h3]
      by_cases h2 : j < N + 1 + 1
      · rw [if_pos h2]
        by_cases h1 : j < N + 1
        · rw [if_pos h1]
          by_cases h0 : j < N
          · rw [if_pos h0]; exact appB_0 h0
          · rw [if_neg h0]; exact appB_1 0 (by omega) (by omega)
        · rw [if_neg h1]; exact appB_1 1 (by omega) (by omega)
      · rw [if_neg h2]; exact appB_1 2 (by omega) (by omega)
    · rw [if_neg h3]; exact appB_1 3 (by omega) (by omega)
  · rw [if_neg h4]; exact appB_2 _ (by omega)
theorem appB_zero {M : Nat} {D C : Nat → Int} {j k1 k2 k3 k4 : Nat} : appB 0 D M C j = (catI (0 + 1 + 1 + 1 + 1) (some k4) (catI (0 + 1 + 1 + 1) (some k3) (catI (0 + 1 + 1) (some k2) (catI (0 + 1) (some k1) (fun _ => byteP (M : Int) 24) (fun _ => byteP (M : Int) 16)) (fun _ => byteP (M : Int) 8)) (fun _ => byteP (M : Int) 0)) (fun j => C j)) j := by
  rw [appB_step (k0 := 0) (k1 := k1) (k2 := k2) (k3 := k3) (k4 := k4)]
  simp only [catI_some]
  by_cases h4 : j < 0 + 1 + 1 + 1 + 1
  · rw [if_pos h4, if_pos h4]
    by_cases h3 : j < 0 + 1 + 1 + 1
    · rw [if_pos h3, if_pos h3]
      by_cases h2 : j < 0 + 1 + 1
      · rw [if_pos h2, if_pos h2]
        by_cases h1 : j < 0 + 1
        · rw [if_pos h1, if_pos h1, if_neg (by omega)]
        · rw [if_neg h1, if_neg h1]
      · rw [if_neg h2, if_neg h2]
    · rw [if_neg h3, if_neg h3]
  · rw [if_neg h4, if_neg h4]
theorem appB_fun {N M : Nat} {D C : Nat → Int} {k0 k1 k2 k3 k4 : Nat} : (catI (N + 1 + 1 + 1 + 1) (some k4) (catI (N + 1 + 1 + 1) (some k3) (catI (N + 1 + 1) (some k2) (catI (N + 1) (some k1) (catI N (some k0) D (fun _ => byteP (M : Int) 24)) (fun _ => byteP (M : Int) 16)) (fun _ => byteP (M : Int) 8)) (fun _ => byteP (M : Int) 0)) C) = appB N D M C := funext fun j => appB_step.symm
theorem appB_funZ {M : Nat} {C : Nat → Int} {k1 k2 k3 k4 : Nat} : (catI (0 + 1 + 1 + 1 + 1) (some k4) (catI (0 + 1 + 1 + 1) (some k3) (catI (0 + 1 + 1) (some k2) (catI (0 + 1) (some k1) (catI 0 none (fun _ => 0) (fun _ => byteP (M : Int) 24)) (fun _ => byteP (M : Int) 16)) (fun _ => byteP (M : Int) 8)) (fun _ => byteP (M : Int) 0)) C) = appB 0 (fun _ => 0) M C := funext fun j => (appB_zero (D := fun _ => 0)).symm
theorem catI_0 {P Q : Nat → Int} {k : Nat} : catI 0 (some k) P Q = Q := funext fun j => by rw [catI_some, if_neg (Nat.not_lt_zero _)]; rfl
end Go.Proofs.Ytehjhfifldefiaa
