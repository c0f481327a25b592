/- Plain law: digits turned about are an involution, so just one of the first numbers comes into each part. -/
import Derived.Test.YtllllhnjhjdeiaaChPlain
namespace Go.Proofs.Ytllllhnjhjdeiaa

def revF (b a n : Nat) : Nat := (mir b n n 0 1).1 * a / (mir b n n 0 1).2
def revCheck : Bool := (List.range 4).all fun m => (List.range 17).all fun b => decide (b < 2) || decide (1000 < b ^ m) || (List.range (b ^ m)).all fun n => decide (revF b (b ^ m) n < b ^ m) && decide (revF b (b ^ m) (revF b (b ^ m) n) = n)
theorem revCheck_ok : revCheck = true := by decide +kernel
theorem rev_ok (m b : Nat) (hm : m < 4) (h1 : b < 17) (h2 : 2 ≤ b) (h3 : b ^ m ≤ 1000) (n : Nat) (hn : n < b ^ m) : revF b (b ^ m) n < b ^ m ∧ revF b (b ^ m) (revF b (b ^ m) n) = n := by
  have h := revCheck_ok
  unfold revCheck at h
  have h' := List.all_eq_true.1 (List.all_eq_true.1 h m (List.mem_range.2 hm)) b (List.mem_range.2 h1)
  simp only [Bool.or_eq_true, decide_eq_true_eq] at h'
  rcases h' with (h' | h') | h'
  · omega
  · omega
  · have h2 := List.all_eq_true.1 h' n (List.mem_range.2 hn)
    simpa [Bool.and_eq_true] using h2
def hitsF (r : Nat → Nat) (p : Nat) : Nat → Nat
  | 0 => 0
  | k + 1 => hitsF r p k + if r k = p then 1 else 0
theorem hitsF_le (r : Nat → Nat) (p : Nat) : ∀ k, hitsF r p k ≤ k
  | 0 => Nat.le_refl _
  | k + 1 => by
    have := hitsF_le r p k
    unfold hitsF
    split <;> omega
theorem hits_one (r : Nat → Nat) (a p : Nat) (hp : p < a) (h : ∀ n, n < a → r n < a ∧ r (r n) = n) : hitsF r p a = 1 := by
  have key : ∀ k, k ≤ a → hitsF r p k = if r p < k then 1 else 0 := by
    intro k
    induction k with
    | zero => intro _; simp [hitsF]
    | succ k ih =>
      intro hk
      rw [hitsF, ih (by omega)]
      have hiff : r k = p ↔ r p = k := ⟨fun e => by rw [← e]; exact (h k (by omega)).2, fun e => by rw [← e]; exact (h p hp).2⟩
      by_cases e : r k = p
      · have := hiff.1 e
        rw [if_pos e]
        split <;> split <;> omega
      · have : ¬ r p = k := fun x => e (hiff.2 x)
        rw [if_neg e]
        split <;> split <;> omega
  rw [key a (Nat.le_refl _), if_pos (h p hp).1]
end Go.Proofs.Ytllllhnjhjdeiaa
