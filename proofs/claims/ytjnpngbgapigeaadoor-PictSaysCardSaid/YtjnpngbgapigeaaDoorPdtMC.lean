/- The tables that a row lists are the tables that worlds have. -/
import Derived.Test.YtjnpngbgapigeaaDoorEvArg
import Derived.Lay
import Derived.MakeChecks
import Derived.SizedLaws
import Derived.Test.YtjnpngbgapigeaaDoorPctF
import Derived.Test.YtjnpngbgapigeaaDoorPdtM
import Derived.Test.YtjnpngbgapigeaaDoorPdtMB
import Derived.Test.YtjnpngbgapigeaaDoorPixA
import Derived.Test.YtjnpngbgapigeaaDoorPdtMB
namespace Go.Proofs.YtjnpngbgapigeaaDoor
open Go.RowKit Go.Lib Go.ChangeShapes Go.WideShapes
set_option linter.unusedVariables false
theorem tab_in {P : Program} {W : World} {name : String} {k : IntKind} {zs : List Int} {g : Nat} {t e : TypeId} {n : Nat} (hg : P.globalNamed name = some g) (hty : (P.globals[g]?).map (·.type) = some t) (ht : P.underlying t = some (.array n e)) (he : P.underlying e = some (.int k)) (hce : P.cellsOf e = 1) (hct : P.cellsOf t = n) :
    ∀ {laid : List (String × DataW Unit)} {ps : List MemPlace}, (name, tabData k zs) ∈ laid → DataW.LaidVars P W laid ps → TabIs P W name k zs
  | [], ps, hm, h => by cases hm
  | (m, d) :: r, ps, hm, h => by
    obtain ⟨g', t', cs, fuel, p, q, hg', ht', hvar, hd, hr, _⟩ := h
    rcases List.mem_cons.1 hm with hm | hm
    · cases hm
      obtain rfl := Option.some.inj (hg.symm.trans hg')
      obtain rfl := Option.some.inj (hty.symm.trans ht')
      unfold TabIs
      rw [hvar, ← cells_of_tab ht he hce hct hd]
    · exact tab_in hg hty ht he hce hct hm hr
theorem tw_of {laid : List (String × DataW Unit)} {W : World} (hm : ("internal/strconv.uint64pow10", tabData .u64 pow10Tab) ∈ laid) (hp : (laid.all fun x => x.2.handleName?.isNone) = true) (hL : laidMetH Tryd.prog laid W) : TW W := by
  rw [MakeChecks.laidMetH_plain _ _ _ hp] at hL
  obtain ⟨ps, h, _⟩ := hL
  exact tab_in (P := Tryd.prog) (g := 5) (t := 123) (e := 103) (n := 20) (by kernel_rfl) (by kernel_rfl) (by kernel_rfl) (by kernel_rfl) (by kernel_rfl) (by kernel_rfl) hm h
end Go.Proofs.YtjnpngbgapigeaaDoor
/- How long an argument is that is a slice: what its reading tells. -/
namespace Go.Proofs.YtjnpngbgapigeaaDoor
open Go Go.RowKit Ev
set_option linter.unusedVariables false

theorem trod_len {H : Type} {enc : TypeId × Value → H} {P : Program} {W w : World} {base : Nat} {spare : Nat → Bool} {held : Bool} {σ : Nat → Option Nat} {Im : Nat → Prop} {t e : TypeId} {v : Value} {d : DataW H} {p : List MemPlace} {n sz : Nat} {g : Nat → AV}
    (hu : P.underlying t = some (.slice e)) (h : DataW.Trod enc P W base spare held t v d p) (hr : Rd w σ Im (.sl n sz g) v) : n = 0 ∨ ∃ elems rest, d = .slice elems rest ∧ elems.length = n := by
  rcases hr.inv_sl with ⟨h0, _⟩ | ⟨b, off, cap, U, rfl, _⟩
  · exact .inl h0
  · refine .inr ?_
    obtain ⟨fuel, hf⟩ := h
    cases fuel with
    | zero => simp [DataW.trod] at hf
    | succ fuel =>
      have hf' : DataW.trod enc P W base spare held (fuel + 1) t [.slice (some ⟨b, off, none⟩) n cap] = some (d, p) := hf
      unfold DataW.trod at hf'
      rw [hu] at hf'
      dsimp only at hf'
      split at hf'
      · simp only [Option.bind_eq_some_iff, Option.map_eq_some_iff] at hf'
        obtain ⟨elems, hel, rest, _, he⟩ := hf'
        have g1 := (mapM_get hel).1
        rw [List.length_range] at g1
        cases he
        exact ⟨_, _, rfl, by rw [List.length_map]; exact g1⟩
      · cases hf'
theorem arg_len {H : Type} {P : Program} {ts : List TypeId} {ds : List (DataW H)} {j : Nat} {t e : TypeId} {d : DataW H} {n : Nat} (hz : (DataW.weightsEach P ts ds).all (· ≤ reachBytes) = true) (ht : ts[j]? = some t) (hd : ds[j]? = some d) (hu : P.underlying t = some (.slice e)) (hb : P.bytesOf e = 8)
    (h : n = 0 ∨ ∃ elems rest, d = .slice elems rest ∧ elems.length = n) : n ≤ 17592186044416 := by
  rcases h with h | ⟨elems, rest, rfl, rfl⟩
  · omega
  · have a := sized_slice hz ht hd hu
    rw [hb] at a
    have r : reachBytes < 140737488355328 := reachBytes_lt
    omega
end Go.Proofs.YtjnpngbgapigeaaDoor
/- Pictures as bytes: what is packed is unpacked as it was, plain. -/
namespace Go.Proofs.YtjnpngbgapigeaaDoor
open Go.RowKit Ev
set_option linter.unusedVariables false
set_option linter.unusedSimpArgs false
set_option maxRecDepth 20000
set_option maxHeartbeats 4000000

theorem rnF_px (P : Nat → Int) (n p : Nat) : ∀ f k q, k ≤ q → q < rnF P n p f k → pxE P p (p + q) = true
  | 0, k, q, h1, h2 => absurd h2 (by show ¬ q < k; omega)
  | f + 1, k, q, h1, h2 => by
    have e : rnF P n p (f + 1) k = bif decide (p + k < n) && pxE P p (p + k) then rnF P n p f (k + 1) else k := rfl
    rw [e] at h2
    cases c : (decide (p + k < n) && pxE P p (p + k)) with
    | false => rw [c] at h2; exact absurd h2 (by show ¬ q < k; omega)
    | true =>
      rw [c] at h2
      by_cases g : q = k
      · subst g
        rw [Bool.and_eq_true] at c
        exact c.2
      · exact rnF_px P n p f (k + 1) q (by omega) h2
theorem rn_px {P : Nat → Int} {n p q : Nat} (h : q < rn P n p) {r : Nat} (hr : r < 4) : P (4 * (p + q) + r) = P (4 * p + r) := by
  by_cases g : q = 0
  · subst g; rfl
  · rw [← rn_0] at h
    exact ((px_iff P p (p + q)).1 (rnF_px P n p _ _ q (by omega) h) r hr).symm
theorem px_ext {P Q : Nat → Int} {n i k : Nat} (h : ∀ j, j < 4 * n → P j = Q j) (hi : i < n) (hk : k < n) : pxE P i k = pxE Q i k := by
  rw [Bool.eq_iff_iff, px_iff, px_iff]
  constructor
  · intro g j hj
    rw [← h _ (by omega), ← h _ (by omega)]; exact g j hj
  · intro g j hj
    rw [h _ (by omega), h _ (by omega)]; exact g j hj
theorem rnF_ext {P Q : Nat → Int} {n p : Nat} (h : ∀ j, j < 4 * n → P j = Q j) : ∀ f k, rnF P n p f k = rnF Q n p f k
  | 0, k => rfl
  | f + 1, k => by
    show (bif decide (p + k < n) && pxE P p (p + k) then rnF P n p f (k + 1) else k) = (bif decide (p + k < n) && pxE Q p (p + k) then rnF Q n p f (k + 1) else k)
    rw [rnF_ext h f (k + 1)]
    by_cases c : p + k < n
    · rw [px_ext h (by omega) c]
    · rw [decide_eq_false c]; rfl
theorem rn_ext {P Q : Nat → Int} {n : Nat} (h : ∀ j, j < 4 * n → P j = Q j) (p : Nat) : rn P n p = rn Q n p := by rw [← rn_0, ← rn_0, rnF_ext h]
theorem ulF_ext {P Q : Nat → Int} {n p : Nat} (h : ∀ j, j < 4 * n → P j = Q j) : ∀ f k, ulF P n p f k = ulF Q n p f k
  | 0, k => rfl
  | f + 1, k => by
    show (bif decide (p + k < n) && decide (rn P n (p + k) = 1) then ulF P n p f (k + 1) else k) = (bif decide (p + k < n) && decide (rn Q n (p + k) = 1) then ulF Q n p f (k + 1) else k)
    rw [ulF_ext h f (k + 1), rn_ext h]
theorem ul_ext {P Q : Nat → Int} {n : Nat} (h : ∀ j, j < 4 * n → P j = Q j) (p : Nat) : ul P n p = ul Q n p := by rw [← ul_0, ← ul_0, ulF_ext h]
theorem apB_lo {N j : Nat} {B C : Nat → Int} (h : j < N) : apB N B C j = B j := by unfold apB; rw [if_pos h]
theorem apB_hi {N j : Nat} {B C : Nat → Int} (h : N ≤ j) : apB N B C j = C (j - N) := by unfold apB; rw [if_neg (by omega)]
theorem pk_ext {P Q : Nat → Int} {n : Nat} {w h : Int} (g : ∀ j, j < 4 * n → P j = Q j) : ∀ i, (pk P n w h i).p = (pk Q n w h i).p ∧ (pk P n w h i).N = (pk Q n w h i).N ∧ ∀ j, j < (pk P n w h i).N → (pk P n w h i).B j = (pk Q n w h i).B j
  | 0 => by rw [pk_0, pk_0]; exact ⟨rfl, rfl, fun _ _ => rfl⟩
  | i + 1 => by
    obtain ⟨a, b, c⟩ := pk_ext g i
    by_cases hp : (pk P n w h i).p < n
    · have hq := hp; rw [a] at hq
      have e := rn_ext g (pk P n w h i).p
      have u := ul_ext g (pk P n w h i).p
      by_cases hr : 1 < rn P n (pk P n w h i).p
      · have bd := rn_bd P n _ hp
        rw [pk_rn hp hr, pk_rn hq (by rw [← a, ← e]; exact hr), ← a, ← b, ← e]
        refine ⟨rfl, rfl, fun j hj => ?_⟩
        have hj : j < (pk P n w h i).N + 1 + 4 := hj
        show apB _ _ _ j = apB _ _ _ j
        by_cases c1 : j < (pk P n w h i).N + 1
        · rw [apB_lo c1, apB_lo c1]
          by_cases c2 : j < (pk P n w h i).N
          · rw [apB_lo c2, apB_lo c2, c j c2]
          · rw [apB_hi (by omega), apB_hi (by omega)]
        · rw [apB_hi (by omega), apB_hi (by omega), g _ (by omega)]
      · have bd := ul_bd P n _ hp
        rw [pk_ul hp hr, pk_ul hq (by rw [← a, ← e]; exact hr), ← a, ← b, ← u]
        refine ⟨rfl, rfl, fun j hj => ?_⟩
        have hj : j < (pk P n w h i).N + 1 + 4 * ul P n (pk P n w h i).p := hj
        show apB _ _ _ j = apB _ _ _ j
        by_cases c1 : j < (pk P n w h i).N + 1
        · rw [apB_lo c1, apB_lo c1]
          by_cases c2 : j < (pk P n w h i).N
          · rw [apB_lo c2, apB_lo c2, c j c2]
          · rw [apB_hi (by omega), apB_hi (by omega)]
        · rw [apB_hi (by omega), apB_hi (by omega), g _ (by omega)]
    · have e1 := pk_e (P := P) (n := n) (w := w) (h := h) (i := i) (by omega) 1
      have e2 := pk_e (P := Q) (n := n) (w := w) (h := h) (i := i) (by omega) 1
      rw [e1, e2]; exact ⟨a, b, c⟩
theorem sA_ext {B C : Nat → Int} : ∀ {n : Nat}, (∀ j, j < n → B j = C j) → sA B n = sA C n
  | 0, _ => by rw [sA_0, sA_0]
  | n + 1, h => by rw [sA_s, sA_s, sA_ext fun j hj => h j (by omega), h n (by omega)]
theorem sB_ext {B C : Nat → Int} : ∀ {n : Nat}, (∀ j, j < n → B j = C j) → sB B n = sB C n
  | 0, _ => by rw [sB_0, sB_0]
  | n + 1, h => by rw [sB_s, sB_s, sB_ext fun j hj => h j (by omega), sA_ext h]
theorem ck_ext {B C : Nat → Int} {n : Nat} (h : ∀ j, j < n → B j = C j) (j : Nat) : ckF B n j = ckF C n j := by unfold ckF; rw [sA_ext h, sB_ext h]
/-- The bytes of a block lie where they were laid. -/
theorem pk_pre {P : Nat → Int} {n : Nat} {w h : Int} : ∀ d i, (pk P n w h i).N ≤ (pk P n w h (i + d)).N ∧ ∀ j, j < (pk P n w h i).N → (pk P n w h (i + d)).B j = (pk P n w h i).B j
  | 0, i => ⟨Nat.le_refl _, fun _ _ => rfl⟩
  | d + 1, i => by
    obtain ⟨a, b⟩ := pk_pre (P := P) (n := n) (w := w) (h := h) d i
    rw [show i + (d + 1) = i + d + 1 from rfl]
    by_cases hp : (pk P n w h (i + d)).p < n
    · by_cases hr : 1 < rn P n (pk P n w h (i + d)).p
      · rw [pk_rn hp hr]
        refine ⟨by show _ ≤ _ + 1 + 4; omega, fun j hj => ?_⟩
        show apB _ _ _ j = _
        rw [apB_lo (by omega), apB_lo (by omega), b j hj]
      · rw [pk_ul hp hr]
        refine ⟨by show _ ≤ _ + 1 + 4 * _; omega, fun j hj => ?_⟩
        show apB _ _ _ j = _
        rw [apB_lo (by omega), apB_lo (by omega), b j hj]
    · have e1 := pk_e (P := P) (n := n) (w := w) (h := h) (i := i + d) (by omega) 1
      rw [e1]; exact ⟨a, b⟩
theorem repB_at {N : Nat} {D : Nat → Int} {m : Nat} {C : Nat → Int} (hm : 0 < m) : ∀ t j, j < N + m * t → repB N D m C t j = if j < N then D j else C ((j - N) % m)
  | 0, j, h => by rw [repB_0, if_pos (by omega)]
  | t + 1, j, h => by
    rw [repB_s]
    rw [Nat.mul_add, Nat.mul_one] at h
    by_cases c : j < N + m * t
    · rw [apB_lo c, repB_at hm t j c]
    · rw [apB_hi (by omega), if_neg (by have : 0 ≤ m * t := Nat.zero_le _; omega)]
      congr 1
      have e : j - N = (j - (N + m * t)) + m * t := by omega
      rw [e, Nat.add_mul_mod_self_left, Nat.mod_eq_of_lt (by omega)]
section
variable {A : Nat → Int} {w h : Int} {M : Nat}
theorem pkd_hd (hs : Side w h) : Mgc (pkB A w h) ∧ pkB A w h 4 = w ∧ pkB A w h 5 = h := by
  have p : ∀ j, j < 6 → pkB A w h j = hdB w h j := fun j hj => by
    have q := (pk_pre (P := A) (n := (w * h).toNat) (w := w) (h := h) (w * h).toNat 0)
    rw [pk_0, Nat.zero_add] at q
    have q1 : 6 ≤ (pkD A w h).N := q.1
    have q2 : ∀ j, j < 6 → (pkD A w h).B j = hdB w h j := q.2
    unfold pkB
    rw [apB_lo (by omega), q2 j hj]
  obtain ⟨a, b, c, d⟩ := hs
  refine ⟨⟨?_, ?_, ?_, ?_⟩, ?_, ?_⟩
  · rw [p 0 (by decide)]; unfold hdB; rfl
  · rw [p 1 (by decide)]; unfold hdB; rfl
  · rw [p 2 (by decide)]; unfold hdB; rfl
  · rw [p 3 (by decide)]; unfold hdB; rfl
  · rw [p 4 (by decide)]; unfold hdB
    show IntKind.u8.wrap w = w
    exact wrapU8 (by omega) (by omega)
  · rw [p 5 (by decide)]; unfold hdB
    show IntKind.u8.wrap h = h
    exact wrapU8 (by omega) (by omega)
/-- What is unpacked so far is what was packed so far. -/
theorem pkd_un (hA : U8s A) (hM : M = (w * h).toNat) (hw : (w * h).toNat = M) : ∀ i, i ≤ M → (un (pkB A w h) (pkN A w h) (4 * M) i).at_ = (pk A M w h i).N ∧ (un (pkB A w h) (pkN A w h) (4 * M) i).L = 4 * (pk A M w h i).p ∧
    ∀ j, j < 4 * (pk A M w h i).p → (un (pkB A w h) (pkN A w h) (4 * M) i).D j = A j
  | 0, _ => by rw [un_0, pk_0]; exact ⟨rfl, rfl, fun j hj => absurd hj (by show ¬ j < 4 * 0; omega)⟩
  | i + 1, hi => by
    obtain ⟨a, b, c⟩ := pkd_un hA hM hw i (by omega)
    have pre : ∀ k, k ≤ M → (pk A M w h k).N + 2 ≤ pkN A w h ∧ ∀ j, j < (pk A M w h k).N → pkB A w h j = (pk A M w h k).B j := fun k hk => by
      have q := pk_pre (P := A) (n := M) (w := w) (h := h) (M - k) k
      rw [show k + (M - k) = M by omega] at q
      have e : pkD A w h = pk A M w h M := by unfold pkD; rw [hw]
      unfold pkN pkB
      rw [e]
      exact ⟨by omega, fun j hj => by rw [apB_lo (by omega), q.2 j hj]⟩
    have p1 := pre (i + 1) hi
    by_cases hp : (pk A M w h i).p < M
    · by_cases hr : 1 < rn A M (pk A M w h i).p
      · have bd := rn_bd A M _ hp
        have e := pk_rn (w := w) (h := h) hp hr
        have eb : (pk A M w h (i + 1)).B = apB ((pk A M w h i).N + 1) (apB (pk A M w h i).N (pk A M w h i).B fun _ => IntKind.u8.wrap (127 + (rn A M (pk A M w h i).p : Int))) fun j => A (4 * (pk A M w h i).p + j) := by rw [e]
        have eN : (pk A M w h (i + 1)).N = (pk A M w h i).N + 1 + 4 := by rw [e]
        have ep : (pk A M w h (i + 1)).p = (pk A M w h i).p + rn A M (pk A M w h i).p := by rw [e]
        have zk : pkB A w h (pk A M w h i).N = 127 + (rn A M (pk A M w h i).p : Int) := by
          rw [p1.2 _ (by omega), eb, apB_lo (by omega), apB_hi (Nat.le_refl _)]
          exact wrapU8 (by omega) (by omega)
        have zc : ∀ j, j < 4 → pkB A w h ((pk A M w h i).N + 1 + j) = A (4 * (pk A M w h i).p + j) := fun j hj => by
          rw [p1.2 _ (by omega), eb, apB_hi (by omega), Nat.add_sub_cancel_left]
        have m1 : mny (pkB A w h (pk A M w h i).N) = 1 := by rw [zk]; exact mny_hi (by omega)
        have t1 : tms (pkB A w h (pk A M w h i).N) = rn A M (pk A M w h i).p := by rw [zk, tms_hi (by omega)]; omega
        have hg : (un (pkB A w h) (pkN A w h) (4 * M) i).go (pkB A w h) (pkN A w h) (4 * M) := by
          refine ⟨by rw [b]; omega, ?_⟩
          rw [a, m1]; omega
        rw [un_at hg]
        dsimp only
        rw [a, b, m1, t1, eN, ep]
        refine ⟨rfl, by omega, fun j hj => ?_⟩
        rw [repB_at (by decide) _ _ (by omega)]
        split
        · exact c j (by assumption)
        · rename_i hlt
          rw [Nat.mul_one]
          rw [zc _ (Nat.mod_lt _ (by decide))]
          have q := rn_px (P := A) (n := M) (p := (pk A M w h i).p) (q := (j - 4 * (pk A M w h i).p) / 4) (by omega) (r := (j - 4 * (pk A M w h i).p) % 4) (Nat.mod_lt _ (by decide))
          rw [← q]
          congr 1
          omega
      · have bd := ul_bd A M _ hp
        have e := pk_ul (w := w) (h := h) hp hr
        have eb : (pk A M w h (i + 1)).B = apB ((pk A M w h i).N + 1) (apB (pk A M w h i).N (pk A M w h i).B fun _ => IntKind.u8.wrap ((ul A M (pk A M w h i).p : Int) - 1)) fun j => A (4 * (pk A M w h i).p + j) := by rw [e]
        have eN : (pk A M w h (i + 1)).N = (pk A M w h i).N + 1 + 4 * ul A M (pk A M w h i).p := by rw [e]
        have ep : (pk A M w h (i + 1)).p = (pk A M w h i).p + ul A M (pk A M w h i).p := by rw [e]
        have zk : pkB A w h (pk A M w h i).N = (ul A M (pk A M w h i).p : Int) - 1 := by
          rw [p1.2 _ (by omega), eb, apB_lo (by omega), apB_hi (Nat.le_refl _)]
          exact wrapU8 (by omega) (by omega)
        have zc : ∀ j, j < 4 * ul A M (pk A M w h i).p → pkB A w h ((pk A M w h i).N + 1 + j) = A (4 * (pk A M w h i).p + j) := fun j hj => by
          rw [p1.2 _ (by omega), eb, apB_hi (by omega), Nat.add_sub_cancel_left]
        have m1 : mny (pkB A w h (pk A M w h i).N) = ul A M (pk A M w h i).p := by rw [zk, mny_lo (by omega)]; omega
        have t1 : tms (pkB A w h (pk A M w h i).N) = 1 := by rw [zk]; exact tms_lo (by omega)
        have hg : (un (pkB A w h) (pkN A w h) (4 * M) i).go (pkB A w h) (pkN A w h) (4 * M) := by
          refine ⟨by rw [b]; omega, ?_⟩
          rw [a, m1]; omega
        rw [un_at hg]
        dsimp only
        rw [a, b, m1, t1, eN, ep]
        refine ⟨rfl, by omega, fun j hj => ?_⟩
        rw [repB_at (by omega) _ _ (by omega)]
        split
        · exact c j (by assumption)
        · rename_i hlt
          rw [Nat.mod_eq_of_lt (by omega), zc _ (by omega)]
          congr 1
          omega
    · have e1 := pk_e (P := A) (n := M) (w := w) (h := h) (i := i) (by omega) 1
      have g : ¬ (un (pkB A w h) (pkN A w h) (4 * M) i).go (pkB A w h) (pkN A w h) (4 * M) := fun q => by
        have := q.1; rw [b] at this; omega
      rw [e1, un_e g 1]
      exact ⟨a, b, c⟩
theorem pkd_ext {P Q : Nat → Int} {w h : Int} {M : Nat} (hw : (w * h).toNat = M) (g : ∀ j, j < 4 * M → P j = Q j) : pkN P w h = pkN Q w h ∧ ∀ j, j < pkN Q w h → pkB P w h j = pkB Q w h j := by
  have x := pk_ext (w := w) (h := h) g M
  have e1 : pkD P w h = pk P M w h M := by unfold pkD; rw [hw]
  have e2 : pkD Q w h = pk Q M w h M := by unfold pkD; rw [hw]
  refine ⟨by unfold pkN; rw [e1, e2, x.2.1], fun j hj => ?_⟩
  unfold pkN at hj
  rw [e2] at hj
  unfold pkB
  rw [e1, e2, x.2.1]
  by_cases cj : j < (pk Q M w h M).N
  · rw [apB_lo cj, apB_lo cj, x.2.2 j (by rw [x.2.1]; exact cj)]
  · rw [apB_hi (by omega), apB_hi (by omega)]
    exact ck_ext (fun k hk => x.2.2 k (by rw [x.2.1]; exact hk)) _
/-- WHAT IS PACKED IS UNPACKED AS IT WAS. -/
theorem unpack_pack (hA : U8s A) (hs : Side w h) : unE (pkB A w h) (pkN A w h) = 0 ∧ (unD (pkB A w h) (pkN A w h) (wh4 (pkB A w h))).L = (4 * (w * h)).toNat ∧
    ∀ j, j < (4 * (w * h)).toNat → (unD (pkB A w h) (pkN A w h) (wh4 (pkB A w h))).D j = A j := by
  obtain ⟨M, hw⟩ : ∃ M : Nat, (w * h).toNat = M := ⟨_, rfl⟩
  have bd := hs.wh
  have hMW : (4 * (w * h)).toNat = 4 * M := by omega
  obtain ⟨mg, z4, z5⟩ := pkd_hd (A := A) hs
  have hW : wh4 (pkB A w h) = 4 * M := by unfold wh4; rw [z4, z5]; exact hMW
  obtain ⟨a, b, c⟩ := pkd_un hA hw.symm hw M (Nat.le_refl _)
  have ok := pk_ok hA M w h M
  have hp : (pk A M w h M).p = M := by omega
  have g : ¬ (un (pkB A w h) (pkN A w h) (4 * M) M).go (pkB A w h) (pkN A w h) (4 * M) := fun q => by
    have := q.1; rw [b, hp] at this; omega
  have eD : pkD A w h = pk A M w h M := by unfold pkD; rw [hw]
  have eN : pkN A w h = (pk A M w h M).N + 2 := by unfold pkN; rw [eD]
  have fin := un_end (B := pkB A w h) (n := pkN A w h) (W := 4 * M) (i := M) (by omega) g
  rw [hMW, hW, ← fin]
  refine ⟨?_, by rw [b, hp], fun j hj => c j (by rw [hp]; exact hj)⟩
  have low : ∀ j, j < (pk A M w h M).N → pkB A w h j = (pk A M w h M).B j := fun j hj => by unfold pkB; rw [eD, apB_lo hj]
  rw [unE_in (by omega) mg (by rw [z4, z5]; exact hs) hW.symm (by omega) g]
  refine unE1_0 (by rw [b, hp]) (by rw [a, eN]) ?_ ?_
  · rw [a]
    have e : ∀ k, pkB A w h ((pk A M w h M).N + k) = ckF (pk A M w h M).B (pk A M w h M).N k := fun k => by
      unfold pkB; rw [eD, apB_hi (by omega), Nat.add_sub_cancel_left]
    refine ⟨?_, ?_⟩
    · rw [ck_ext low, ← e 0]; rfl
    · rw [ck_ext low, ← e 1]
  · unfold Pkd
    rw [z4, z5]
    exact pkd_ext hw fun j hj => c j (by rw [hp]; exact hj)
end
end Go.Proofs.YtjnpngbgapigeaaDoor
/- Pictures as bytes and as text: where there is no picture, there is neither; fixed contracts; what is alike. -/
namespace Go.Proofs.YtjnpngbgapigeaaDoor
open Go.RowKit Ev
set_option linter.unusedVariables false
set_option linter.unusedSimpArgs false
set_option maxRecDepth 20000
set_option maxHeartbeats 8000000

theorem textX_f : FnOk Tryd.prog 14 Tryd.f14 := ⟨Tryd.func14, by kernel_rfl⟩
theorem textX_a (w h : Int) (n : Nat) (A : Nat → Int) (hpre : ¬ picE w h n = 0) : ACalls Tryd.prog 14 [.agg [.int .i64 w, .int .i64 h, ints .u8 n A]] (.tup [.str ⟨#[]⟩, .int .i64 (picE w h n)]) := by
  refine acalls_of (inl := hasI (P := Tryd.prog) [] []) (base [mayP_k] [] []) 0 textX_f (And.intro (by kernel_rfl) ?_)
  repeat' (first | refine And.intro ?_ ?_ | (with_reducible exact ff_elim) | (with_reducible exact tf_elim) | refine num_elim ?_ | intro _ | (with_reducible rfl) | ((with_reducible refine lk_t ?_); exact rfl) | ((with_reducible refine pf_t ?_); exact rfl) | refine tell ?_ | exact True.intro | (refine IsT.of ?_; kernel_rfl))
  all_goals (try refine Tell.mk ?_)
  all_goals first | with_reducible rfl | with_reducible exact isI_mk | with_reducible assumption | (exfalso; simp_all; done) | trace_state
theorem textRX_f : FnOk Tryd.prog 15 Tryd.f15 := ⟨Tryd.func15, by kernel_rfl⟩
theorem textRX_a (w h : Int) (n : Nat) (A : Nat → Int) (hpre : ¬ picE w h n = 0) : ACalls Tryd.prog 15 [.agg [.int .i64 w, .int .i64 h, ints .u8 n A]] (.tup [.str ⟨#[]⟩, .int .i64 (picE w h n)]) := by
  refine acalls_of (inl := hasI (P := Tryd.prog) [] []) (base [mayPR_k] [] []) 0 textRX_f (And.intro (by kernel_rfl) ?_)
  repeat' (first | refine And.intro ?_ ?_ | (with_reducible exact ff_elim) | (with_reducible exact tf_elim) | refine num_elim ?_ | intro _ | (with_reducible rfl) | ((with_reducible refine lk_t ?_); exact rfl) | ((with_reducible refine pf_t ?_); exact rfl) | refine tell ?_ | exact True.intro | (refine IsT.of ?_; kernel_rfl))
  all_goals (try refine Tell.mk ?_)
  all_goals first | with_reducible rfl | with_reducible exact isI_mk | with_reducible assumption | (exfalso; simp_all; done) | trace_state
theorem sameQ_f : FnOk Tryd.prog 8 Tryd.f8 := ⟨Tryd.func8, by kernel_rfl⟩
theorem sameQ_a (a b : Int) (n : Nat) (P Q : Nat → Int) (hpre : ∀ j, j < n → P j = Q j) : ACalls Tryd.prog 8 [.agg [.int .i64 a, .int .i64 b, ints .u8 n P], .agg [.int .i64 a, .int .i64 b, ints .u8 n Q]] (.bool true) := by
  refine acalls_of (inl := hasI (P := Tryd.prog) [] []) (base [] [] []) 0 sameQ_f (And.intro (by kernel_rfl) ?_)
  repeat' (first | refine And.intro ?_ ?_ | (with_reducible exact ff_elim) | (with_reducible exact tf_elim) | refine num_elim ?_ | intro _ | (with_reducible rfl) | ((with_reducible refine lk_t ?_); exact rfl) | ((with_reducible refine pf_t ?_); exact rfl) | refine tell ?_ | exact True.intro | (refine IsT.of ?_; kernel_rfl))
  all_goals (try refine Tell.mk ?_)
  all_goals first | rfl | (simp only [gb, avInt_int, beq_self_eq_true, Bool.and_self, strI_yes (n := n) (m := n) rfl hpre, strI_ext hpre]; done) | trace_state
/-- A contract for arguments that are given. -/
def fixC {P : Program} {f : Nat} {args : List AV} {r : AV} (h : ACalls P f args r) : Con P := ⟨f, fun a => .ok (some (a = args)) r, fun a p r' h1 hp => by
  injection h1 with h1 h2
  subst h1 h2
  have hp : a = args := hp
  rw [hp]; exact h⟩
theorem unpK_a {W H n : Nat} {A : Nat → Int} (hA : U8s A) (h0 : picE W H n = 0) : ACalls Tryd.prog 6 [ints .u8 (pkN A W H) (pkB A W H)] (.tup [.agg [.int .i64 W, .int .i64 H, ints .u8 n (unD (pkB A W H) (pkN A W H) (wh4 (pkB A W H))).D], .int .i64 0]) := by
  obtain ⟨hs, hn⟩ := picE_ok h0
  obtain ⟨e1, e2, e3⟩ := unpack_pack hA hs
  obtain ⟨_, z4, z5⟩ := pkd_hd (A := A) hs
  have := unpP0_a (pkN A W H) (pkB A W H) ⟨pk_u8 hA _ _, (pkN_bd hA hs).2, e1⟩
  rw [e2, z4, z5] at this
  rw [show n = (4 * ((W : Int) * (H : Int))).toNat by omega]
  exact this
theorem unpK_at {W H n : Nat} {A : Nat → Int} (hA : U8s A) (h0 : picE W H n = 0) {j : Nat} (hj : j < n) : A j = (unD (pkB A W H) (pkN A W H) (wh4 (pkB A W H))).D j := by
  obtain ⟨hs, hn⟩ := picE_ok h0
  obtain ⟨e1, e2, e3⟩ := unpack_pack hA hs
  exact (e3 j (by omega)).symm
theorem readK_a {W H n : Nat} {A : Nat → Int} (hA : U8s A) (h0 : picE W H n = 0) : ACalls Tryd.prog 9 [.str (bs (txL W H A))] (.tup [.agg [.int .i64 W, .int .i64 H, ints .u8 n (rdP (pwords (txL W H A)))], .int .i64 0]) := by
  obtain ⟨hs, hn⟩ := picE_ok h0
  obtain ⟨e0, e1, e2, e3, e4⟩ := read_text hA hs
  have hl : (bs (txL W H A)).size ≤ 80000 := by
    rw [bs_size]
    unfold txL
    have := rows_len (W := W) (H := H) hA (by have := hs.2.1; omega) (by have := hs.2.2.2; omega) H
    have h64 := hs.2.2.2
    rw [Int.toNat_natCast]
    omega
  have := readP_a (bs (txL W H A)) hl
  rw [bs_list] at this
  unfold read_r at this
  rw [e0, okI_0, okI_0, okM_0, e1, e2, e3] at this
  rw [show n = (4 * ((W : Int) * (H : Int))).toNat by omega]
  exact this
theorem readK_at {W H n : Nat} {A : Nat → Int} (hA : U8s A) (h0 : picE W H n = 0) {j : Nat} (hj : j < n) : rdP (pwords (txL W H A)) j = if j % 4 = 3 then 255 else A j := by
  obtain ⟨hs, hn⟩ := picE_ok h0
  obtain ⟨e0, e1, e2, e3, e4⟩ := read_text hA hs
  exact e4 j (by omega)
end Go.Proofs.YtjnpngbgapigeaaDoor
/- Pictures that are made of raw numbers. -/
namespace Go.Proofs.YtjnpngbgapigeaaDoor
open Go.RowKit Ev
set_option linter.unusedVariables false
set_option linter.unusedSimpArgs false
set_option maxRecDepth 20000
set_option maxHeartbeats 4000000

theorem pick_f : FnOk Tryd.prog 17 Tryd.f17 := ⟨Tryd.func17, by kernel_rfl⟩
theorem pick_a (c n : Int) (hpre : In64 c ∧ 1 ≤ n ∧ n ≤ 4294967296) : ACalls Tryd.prog 17 [.int .i64 c, .int .i64 n] (.int .i64 (pickF c n)) := by
  refine acalls_of (inl := hasI (P := Tryd.prog) [] []) (base [] [] []) 0 pick_f (And.intro (by kernel_rfl) ?_)
  repeat' (first | refine And.intro ?_ ?_ | (with_reducible exact ff_elim) | (with_reducible exact tf_elim) | intro _ | (with_reducible rfl) | ((with_reducible refine lk_t ?_); exact rfl) | ((with_reducible refine pf_t ?_); exact rfl) | refine tell ?_ | exact True.intro | (refine IsT.of ?_; kernel_rfl))
  all_goals obtain ⟨⟨c0, c1⟩, n0, n1⟩ := hpre
  all_goals (try refine Tell.mk ?_)
  all_goals first | with_reducible rfl | (simp only [decide_eq_true_eq, decide_eq_false_iff_not] at *; (iterate 3 (try simp (disch := omega) only [wrapI] at *)); subst_vars; first | omega | (unfold pickF; split <;> first | omega | (rw [Int.tmod_eq_emod_of_nonneg (by omega)]; done) | (rw [Int.tmod_eq_emod_of_nonneg (by omega)]; congr 1; omega)))
def pick_k : Con Tryd.prog := ⟨17, fun args => match args with | [.int .i64 c, .int .i64 n] => .ok (some (In64 c ∧ 1 ≤ n ∧ n ≤ 4294967296)) (.int .i64 (pickF c n)) | _ => .no, by
  intro args p r h hp
  split at h
  · cases h; exact pick_a _ _ hp
  · cases h⟩
theorem raw_f : FnOk Tryd.prog 37 Tryd.f37 := ⟨Tryd.func37, by kernel_rfl⟩
theorem raw_a (n : Nat) (F : Nat → Int) (k : Int) (hpre : 0 ≤ k) : ACalls Tryd.prog 37 [ints .i64 n F, .int .i64 k] (.int .i64 (rawF n F k)) := by
  refine acalls_of (inl := hasI (P := Tryd.prog) [] []) (base [] [] []) 0 raw_f (And.intro (by kernel_rfl) ?_)
  repeat' (first | refine And.intro ?_ ?_ | (with_reducible exact ff_elim) | (with_reducible exact tf_elim) | intro _ | (with_reducible rfl) | ((with_reducible refine lk_t ?_); exact rfl) | ((with_reducible refine pf_t ?_); exact rfl) | refine tell ?_ | exact True.intro | (refine IsT.of ?_; kernel_rfl))
  all_goals (try refine Tell.mk ?_)
  all_goals first | with_reducible rfl | (simp only [beq_iff_eq, beq_eq_false_iff_ne] at *; subst_vars; first | omega | exact Int.tmod_nonneg _ hpre | exact Int.tmod_lt_of_pos _ (by omega) | (unfold rawF; rw [if_pos (by omega)]; done) | (unfold rawF; rw [if_neg (by omega), Int.tmod_eq_emod_of_nonneg hpre, mulN1, Nat.add_zero, Int.toNat_emod hpre (by omega)]; rfl))
def raw_r (n : Nat) (F : Nat → Int) (k : Int) : AV := .int .i64 (rawF n F k)
def raw_p (n : Nat) (F : Nat → Int) (k : Int) : Prop := 0 ≤ k
def raw_k : Con Tryd.prog := ⟨37, fun args => match args with | [.sl n 1 g_F, .int .i64 k] => .ok (some (IsI .i64 g_F ∧ raw_p n (intF g_F) k)) (raw_r n (intF g_F) k) | _ => .no, by
  intro args p r h hp
  split at h
  · cases h; obtain ⟨h_F, hp⟩ := hp; have e_F := h_F.eq; rw [e_F]; exact raw_a _ _ _ hp
  · cases h⟩
@[irreducible] def covF (n : Nat) (F : Nat → Int) (k : Int) : Int := pickF (IntKind.i64.wrap (rawF n F k * 37)) 256
@[irreducible] def valPF (n : Nat) (F : Nat → Int) (k : Int) : Int := pickF (IntKind.i64.wrap (rawF n F k * 53)) 256
theorem covF_eq (n : Nat) (F : Nat → Int) (k : Int) : pickF (IntKind.i64.wrap (rawF n F k * 37)) 256 = covF n F k := by unfold covF; rfl
theorem valPF_eq (n : Nat) (F : Nat → Int) (k : Int) : pickF (IntKind.i64.wrap (rawF n F k * 53)) 256 = valPF n F k := by unfold valPF; rfl
theorem covF_bd (n : Nat) (F : Nat → Int) (k : Int) : 0 ≤ covF n F k ∧ covF n F k < 256 := by unfold covF; exact pickF_bd _ _ (by omega)
theorem valPF_bd (n : Nat) (F : Nat → Int) (k : Int) : 0 ≤ valPF n F k ∧ valPF n F k < 256 := by unfold valPF; exact pickF_bd _ _ (by omega)
/-- A byte of a picture that is made of raw numbers. -/
@[irreducible] def pixF (b : Bool) (n : Nat) (F : Nat → Int) (j : Nat) : Int :=
  if j % 4 = 3 then covF n F (4 * ((j / 4 : Nat) : Int) + 3) else
    if b = true ∧ covF n F (4 * ((j / 4 : Nat) : Int) + 3) < valPF n F (4 * ((j / 4 : Nat) : Int) + ((j % 4 : Nat) : Int)) then covF n F (4 * ((j / 4 : Nat) : Int) + 3) else valPF n F (4 * ((j / 4 : Nat) : Int) + ((j % 4 : Nat) : Int))
theorem pixF_bd (b : Bool) (n : Nat) (F : Nat → Int) : U8s (pixF b n F) := fun j => by
  unfold pixF
  repeat' split
  all_goals first | exact covF_bd _ _ _ | exact valPF_bd _ _ _
theorem pixF_v {b : Bool} {n : Nat} {F : Nat → Int} {i : Nat} (c : Nat) (hc : c < 3) (h : b = false ∨ valPF n F (4 * (i : Int) + (c : Int)) ≤ covF n F (4 * (i : Int) + 3)) : pixF b n F (4 * i + c) = IntKind.u8.wrap (valPF n F (4 * (i : Int) + (c : Int))) := by
  have := valPF_bd n F (4 * (i : Int) + (c : Int))
  rw [wrapU8 (by omega) (by omega)]
  unfold pixF
  rw [show (4 * i + c) % 4 = c by omega, show (4 * i + c) / 4 = i by omega, if_neg (by omega), if_neg]
  rintro ⟨h1, h2⟩
  rcases h with h | h
  · rw [h] at h1; cases h1
  · omega
theorem pixF_c {b : Bool} {n : Nat} {F : Nat → Int} {i : Nat} (c : Nat) (hc : c < 3) (h : b = true ∧ covF n F (4 * (i : Int) + 3) < valPF n F (4 * (i : Int) + (c : Int))) : pixF b n F (4 * i + c) = IntKind.u8.wrap (covF n F (4 * (i : Int) + 3)) := by
  have := covF_bd n F (4 * (i : Int) + 3)
  rw [wrapU8 (by omega) (by omega)]
  unfold pixF
  rw [show (4 * i + c) % 4 = c by omega, show (4 * i + c) / 4 = i by omega, if_neg (by omega), if_pos h]
theorem pixF_3 {b : Bool} {n : Nat} {F : Nat → Int} {i : Nat} : pixF b n F (4 * i + 3) = IntKind.u8.wrap (covF n F (4 * (i : Int) + 3)) := by
  have := covF_bd n F (4 * (i : Int) + 3)
  rw [wrapU8 (by omega) (by omega)]
  unfold pixF
  rw [show (4 * i + 3) % 4 = 3 by omega, show (4 * i + 3) / 4 = i by omega, if_pos rfl]
theorem pixF_v0 {b : Bool} {n : Nat} {F : Nat → Int} {i : Nat} (h : b = false ∨ valPF n F (4 * (i : Int)) ≤ covF n F (4 * (i : Int) + 3)) : pixF b n F (4 * i + 0) = IntKind.u8.wrap (valPF n F (4 * (i : Int))) := by
  have e : 4 * (i : Int) + ((0 : Nat) : Int) = 4 * (i : Int) := by omega
  have := pixF_v (n := n) (F := F) (i := i) (b := b) 0 (by omega) (by rw [e]; exact h)
  rwa [e] at this
theorem pixF_c0 {b : Bool} {n : Nat} {F : Nat → Int} {i : Nat} (h : b = true ∧ covF n F (4 * (i : Int) + 3) < valPF n F (4 * (i : Int))) : pixF b n F (4 * i + 0) = IntKind.u8.wrap (covF n F (4 * (i : Int) + 3)) := by
  have e : 4 * (i : Int) + ((0 : Nat) : Int) = 4 * (i : Int) := by omega
  exact pixF_c 0 (by omega) (by rw [e]; exact h)
theorem pixF_v1 {b : Bool} {n : Nat} {F : Nat → Int} {i : Nat} (h : b = false ∨ valPF n F (4 * (i : Int) + 1) ≤ covF n F (4 * (i : Int) + 3)) : pixF b n F (4 * i + 1) = IntKind.u8.wrap (valPF n F (4 * (i : Int) + 1)) := pixF_v 1 (by omega) h
theorem pixF_c1 {b : Bool} {n : Nat} {F : Nat → Int} {i : Nat} (h : b = true ∧ covF n F (4 * (i : Int) + 3) < valPF n F (4 * (i : Int) + 1)) : pixF b n F (4 * i + 1) = IntKind.u8.wrap (covF n F (4 * (i : Int) + 3)) := pixF_c 1 (by omega) h
theorem pixF_v2 {b : Bool} {n : Nat} {F : Nat → Int} {i : Nat} (h : b = false ∨ valPF n F (4 * (i : Int) + 2) ≤ covF n F (4 * (i : Int) + 3)) : pixF b n F (4 * i + 2) = IntKind.u8.wrap (valPF n F (4 * (i : Int) + 2)) := pixF_v 2 (by omega) h
theorem pixF_c2 {b : Bool} {n : Nat} {F : Nat → Int} {i : Nat} (h : b = true ∧ covF n F (4 * (i : Int) + 3) < valPF n F (4 * (i : Int) + 2)) : pixF b n F (4 * i + 2) = IntKind.u8.wrap (covF n F (4 * (i : Int) + 3)) := pixF_c 2 (by omega) h
theorem pix_step {b : Bool} {n : Nat} {F : Nat → Int} {i j k0 k1 k2 k3 : Nat} {v0 v1 v2 v3 : Int} (h0 : pixF b n F (4 * i + 0) = v0) (h1 : pixF b n F (4 * i + 1) = v1) (h2 : pixF b n F (4 * i + 2) = v2) (h3 : pixF b n F (4 * i + 3) = v3) (hj : j < 4 * (i + 1)) :
    pixF b n F j = catI (4 * i + 1 + 1 + 1) (some k3) (catI (4 * i + 1 + 1) (some k2) (catI (4 * i + 1) (some k1) (catI (4 * i) (some k0) (pixF b n F) fun _ => v0) fun _ => v1) fun _ => v2) (fun _ => v3) j := by
  simp only [catI_some]
  split <;> (try split) <;> (try split) <;> (try split)
  · rfl
  · rw [← h0]; congr 1; omega
  · rw [← h1]; congr 1; omega
  · rw [← h2]; congr 1; omega
  · rw [← h3]; congr 1; omega
theorem pictureOf_f : FnOk Tryd.prog 16 Tryd.f16 := ⟨Tryd.func16, by kernel_rfl⟩
theorem pictureOf_a (n : Nat) (F : Nat → Int) (w h : Int) (b : Bool) (hpre : Side w h ∧ ∀ j, In64 (F j)) : ACalls Tryd.prog 16 [ints .i64 n F, .int .i64 w, .int .i64 h, .bool b] (.agg [.int .i64 w, .int .i64 h, ints .u8 (4 * (w * h)).toNat (pixF b n F)]) := by
  refine acalls_len fun hlen => ?_
  simp only [lenV, len1, lenV0, len0, and_true, true_and] at hlen
  refine acalls_of (inl := hasI (P := Tryd.prog) [] []) (base [pick_k, raw_k] [] []) 0 pictureOf_f (And.intro (by kernel_rfl) ?_)
  repeat' (first | refine And.intro ?_ ?_ | (with_reducible exact ff_elim) | (with_reducible exact tf_elim) | refine num_elim ?_ | intro _ | (with_reducible rfl) | ((with_reducible refine lk_t ?_); exact rfl) | ((with_reducible refine pf_t ?_); exact rfl) | refine tell ?_ | exact True.intro | (refine IsT.of ?_; kernel_rfl))
  all_goals (try (refine loop_keep [0, 1, 2, 3, 8, 9] [0] ?_; refine LoopI.mk ({i : Nat // (i : Int) ≤ w * h}) (fun i => [(10, .int .i64 i.1)]) (fun i => [(4, .row [.int .i64 w, .int .i64 h, .os 1 1 0 (4 * i.1)]), (1, .nums .u8 (4 * i.1) (pixF b n F))]) (fun i => (w * h).toNat - i.1) (⟨0, by have := hpre.1.wh; omega⟩) (wk_mk [some 4, none, some 0] ?_) (fun ⟨i, hi⟩ => ?_)))
  repeat' (first | refine And.intro ?_ ?_ | (with_reducible exact ff_elim) | (with_reducible exact tf_elim) | refine' stp_mk [some 4, some _, some 0] (⟨i + 1, ?_⟩) ?_ ?_ | refine Or.inl ⟨4, ?_⟩ | refine num_lit 0 (by decide) ?_ | refine num_lit 1 (by decide) ?_ | refine num_lit 2 (by decide) ?_ | refine num_lit 3 (by decide) ?_ | refine num_lit 4 (by decide) ?_ | refine num_lit 5 (by decide) ?_ | refine num_lit 6 (by decide) ?_ | refine num_lit 7 (by decide) ?_ | refine num_lit 8 (by decide) ?_ | (intro h; exact absurd h (by decide)) | refine num_elim ?_ | intro _ | (with_reducible rfl) | ((with_reducible refine lk_t ?_); exact rfl) | ((with_reducible refine pf_t ?_); exact rfl) | refine tell ?_ | exact True.intro | (refine IsT.of ?_; kernel_rfl))
  all_goals obtain ⟨hs, hF⟩ := hpre
  all_goals (have hy := hs.wh; have z0 := hs.wraps.1)
  all_goals (try refine Tell.mk ?_)
  all_goals first | with_reducible rfl | with_reducible exact isI_mk | with_reducible assumption | (with_reducible refine gb_t ?_; with_reducible assumption) | (with_reducible refine gb_f ?_; with_reducible assumption) | ((with_reducible refine lk_t ?_); rfl) | ((with_reducible refine okF_t ?_); kernel_rfl) | ((with_reducible refine ks_t ?_); rfl) | ((with_reducible refine pk_t ?_); rfl) | ((with_reducible refine pf_t ?_); rfl) | skip
  all_goals (try dsimp only at *)
  all_goals (try simp only [decide_eq_true_eq, decide_eq_false_iff_not, Bool.or_eq_true, Bool.or_eq_false_iff, Bool.and_eq_true, Bool.and_eq_false_iff, Bool.not_eq_true', Bool.not_eq_false', bne_iff_ne, ne_eq, beq_iff_eq, bne_eq_false_iff_eq, beq_eq_false_iff_ne, Int.not_lt, Int.not_le, gt_iff_lt, ge_iff_le] at *)
  all_goals (try simp only [mulN1, Nat.add_zero, Nat.zero_add, Nat.mul_one, Int.toNat_natCast, avInt_int, intF_mk, raw_p, z0, Tab.b3] at *)
  all_goals first | with_reducible rfl | with_reducible exact nums_N | omega | ((with_reducible refine by_le 1 rfl ?_); omega) | ((with_reducible refine by_le 8 rfl ?_); omega) | (rw [wrapI (by omega) (by omega)] <;> omega) | skip
  all_goals (try have y0 : IntKind.i64.wrap (4 * (i : Int)) = 4 * (i : Int) := wrapI (by omega) (by omega); have y1 : IntKind.i64.wrap (4 * (i : Int) + 1) = 4 * (i : Int) + 1 := wrapI (by omega) (by omega); have y2 : IntKind.i64.wrap (4 * (i : Int) + 2) = 4 * (i : Int) + 2 := wrapI (by omega) (by omega); have y3 : IntKind.i64.wrap (4 * (i : Int) + 3) = 4 * (i : Int) + 3 := wrapI (by omega) (by omega))
  all_goals (try simp only [Int.add_zero, y0, y1, y2, y3, covF_eq, valPF_eq] at *)
  all_goals first | omega | (with_reducible exact wrap_in _) | skip
  all_goals (refine pix_step ?_ ?_ ?_ pixF_3 (by with_reducible assumption) <;> first | exact pixF_v0 (by with_reducible assumption) | exact pixF_c0 (by with_reducible assumption) | exact pixF_v1 (by with_reducible assumption) | exact pixF_c1 (by with_reducible assumption) | exact pixF_v2 (by with_reducible assumption) | exact pixF_c2 (by with_reducible assumption))
def pictureOf_r (n : Nat) (F : Nat → Int) (w h : Int) (b : Bool) : AV := .agg [.int .i64 w, .int .i64 h, ints .u8 (4 * (w * h)).toNat (pixF b n F)]
def pictureOf_p (n : Nat) (F : Nat → Int) (w h : Int) (b : Bool) : Prop := Side w h ∧ ∀ j, In64 (F j)
def pictureOf_k : Con Tryd.prog := ⟨16, fun args => match args with | [.sl n 1 g_F, .int .i64 w, .int .i64 h, .bool b] => .ok (some (IsI .i64 g_F ∧ pictureOf_p n (intF g_F) w h b)) (pictureOf_r n (intF g_F) w h b) | _ => .no, by
  intro args p r h hp
  split at h
  · cases h; obtain ⟨h_F, hp⟩ := hp; have e_F := h_F.eq; rw [e_F]; exact pictureOf_a _ _ _ _ _ hp
  · cases h⟩
end Go.Proofs.YtjnpngbgapigeaaDoor
/- Pictures as bytes and as text: the law on what is written. -/
namespace Go.Proofs.YtjnpngbgapigeaaDoor
open Go.RowKit Ev
set_option linter.unusedVariables false
set_option linter.unusedSimpArgs false
set_option maxRecDepth 20000
set_option maxHeartbeats 8000000

theorem textP_f : FnOk Tryd.prog 14 Tryd.f14 := ⟨Tryd.func14, by kernel_rfl⟩
theorem textP0_a {W H n : Nat} {A : Nat → Int} (hA : U8s A) (h0 : picE W H n = 0) : ACalls Tryd.prog 14 [.agg [.int .i64 W, .int .i64 H, ints .u8 n A]] (.tup [.str (bs (txL W H A)), .int .i64 0]) := by
  refine acalls_callsT textP_f rfl fun w Im vals htw hIm hv => ?_
  obtain ⟨hs, hn⟩ := picE_ok h0
  obtain ⟨s1, s2, s3, s4⟩ := hs
  have hn0 : 0 < n := by
    have : (1 : Int) * 1 ≤ (W : Int) * (H : Int) := Int.mul_le_mul s1 s3 (by decide) (by omega)
    omega
  cases hv with
  | cons h1 h2 =>
    cases h2
    rename_i V
    obtain ⟨cs, rfl, k1, k2, k3⟩ := h1.inv_agg
    have e0 := Rd.inv_int (k3 0 (by show 0 < 3; decide))
    have e1 := Rd.inv_int (k3 1 (by show 1 < 3; decide))
    have e2 := Rd.inv_sl (k3 2 (by show 2 < 3; decide))
    rcases e2 with ⟨e2, _⟩ | ⟨b, off, cap, U, e2, f1, f2, f3, f4, f5, f6⟩
    · omega
    have ecs : cs = #[.int .i64 W, .int .i64 H, .slice (some ⟨b, off, none⟩) n cap] := by
      have hsz : cs.size = 3 := k1
      apply Array.ext
      · simp [hsz]
      · intro i hi hi'
        have hi3 : i < 3 := by omega
        match i, hi3 with
        | 0, _ => simpa [Array.getD_eq_getD_getElem?, hi] using e0
        | 1, _ => simpa [Array.getD_eq_getD_getElem?, hi] using e1
        | 2, _ => simpa [Array.getD_eq_getD_getElem?, hi] using e2
    rw [ecs]
    refine Calls.mono (text_c hA h0 htw (hIm b f1) f2 f3 (fun j hj => ?_)) ?_
    · have := f4 j (by omega)
      rw [this, Rd.inv_int (f6 j (by omega))]
    · rintro e w' ⟨rfl, hB⟩
      refine ⟨_, rfl, hB, .tup _ _ rfl fun i hi => ?_⟩
      match i, hi with
      | 0, _ => exact .str _
      | 1, _ => exact .int _ _
theorem ps_no {i : Nat} {x a : Int} (e : x = if i % 4 = 3 then 255 else a) (h : ((i : Int).tmod 4 == 3 && x != 255 || decide ((i : Int).tmod 4 < 3) && x != a) = true) : False := by
  have tm : (i : Int).tmod 4 = ((i % 4 : Nat) : Int) := by rw [Int.tmod_eq_emod_of_nonneg (by omega)]; rfl
  rw [tm] at h
  by_cases c : i % 4 = 3
  · rw [if_pos c] at e
    subst e
    rw [c] at h
    simp at h
  · rw [if_neg c] at e
    subst e
    have : ¬ ((i % 4 : Nat) : Int) = 3 := by omega
    simp [this] at h
    omega
structure PsI (n : Nat) where
  i : Nat
  hi : i ≤ n
theorem heavyP_f : FnOk Tryd.prog 11 Tryd.f11 := ⟨Tryd.func11, by kernel_rfl⟩
theorem heavyP_a (w h : Int) (n : Nat) (A : Nat → Int) : ACalls Tryd.prog 11 [.agg [.int .i64 w, .int .i64 h, ints .u8 n A]] (.bool (decide ((n : Int) > 1600))) := by
  refine acalls_of (inl := hasI (P := Tryd.prog) [] []) (base [] [] []) 0 heavyP_f (And.intro (by kernel_rfl) ?_)
  repeat' (first | refine And.intro ?_ ?_ | (with_reducible exact ff_elim) | (with_reducible exact tf_elim) | refine num_elim ?_ | intro _ | (with_reducible rfl) | ((with_reducible refine lk_t ?_); exact rfl) | ((with_reducible refine pf_t ?_); exact rfl) | refine tell ?_ | exact True.intro | (refine IsT.of ?_; kernel_rfl))
  all_goals (try refine Tell.mk ?_)
  all_goals first | with_reducible rfl | with_reducible exact isI_mk | with_reducible assumption | (with_reducible refine gb_t ?_; with_reducible assumption) | (with_reducible refine gb_f ?_; with_reducible assumption) | ((with_reducible refine lk_t ?_); rfl) | ((with_reducible refine okF_t ?_); kernel_rfl) | ((with_reducible refine ks_t ?_); rfl) | ((with_reducible refine pk_t ?_); rfl) | ((with_reducible refine pf_t ?_); rfl) | skip
  all_goals (try dsimp only at *)
  all_goals (try simp only [decide_eq_true_eq, decide_eq_false_iff_not] at *)
  all_goals (try simp only [mulN1, Nat.add_zero, Nat.zero_add, Nat.mul_one, Int.toNat_natCast, avInt_int, intF_mk] at *)
  all_goals first | with_reducible rfl | with_reducible exact nums_N | omega | ((with_reducible refine by_le 1 rfl ?_); omega) | ((with_reducible refine by_le 8 rfl ?_); omega) | (rw [wrapI (by omega) (by omega)] <;> omega) | skip
def heavyP_r (w h : Int) (n : Nat) (A : Nat → Int) : AV := .bool (decide ((n : Int) > 1600))
def heavyP_k : Con Tryd.prog := ⟨11, fun args => match args with | [.agg [.int .i64 w, .int .i64 h, .sl n 1 g_A]] => .ok (some (IsI .u8 g_A)) (heavyP_r w h n (intF g_A)) | _ => .no, by
  intro args p r h hp
  split at h
  · cases h; have h_A := hp; have e_A := h_A.eq; rw [e_A]; exact heavyP_a _ _ _ _
  · cases h⟩
theorem pictS0_f : FnOk Tryd.prog 4 Tryd.f4 := ⟨Tryd.func4, by kernel_rfl⟩
theorem pictS0_a (W H : Nat) (n : Nat) (A : Nat → Int) (hpre : U8s A ∧ picE W H n = 0) : ACalls Tryd.prog 4 [.agg [.int .i64 W, .int .i64 H, ints .u8 n A]] (.bool true) := by
  refine acalls_of (inl := hasI (P := Tryd.prog) [] []) (base [(fixC (packP0_a W H n A hpre)), (fixC (packR0_a W H n A hpre)), (fixC (textP0_a hpre.1 hpre.2)), (fixC (textR0_a W H n A hpre)), (fixC (unpK_a hpre.1 hpre.2)), (fixC (readK_a hpre.1 hpre.2)), (fixC (sameQ_a W H n A _ (fun j hj => unpK_at hpre.1 hpre.2 hj))), heavyP_k] [] []) 0 pictS0_f (And.intro (by kernel_rfl) ?_)
  obtain ⟨hA, h0⟩ := hpre
  obtain ⟨hs, hn⟩ := picE_ok h0
  have hbd := pkN_bd hA hs
  repeat' (first | refine And.intro ?_ ?_ | (with_reducible exact ff_elim) | (with_reducible exact tf_elim) | refine num_elim ?_ | intro _ | (with_reducible rfl) | ((with_reducible refine lk_t ?_); exact rfl) | ((with_reducible refine pf_t ?_); exact rfl) | refine tell ?_ | exact True.intro | (refine IsT.of ?_; kernel_rfl))
  all_goals (try (refine loop_keep [1, 11] [0, 59] ?_; refine LoopI.mk (PsI n) (fun j => [(12, .int .i64 j.i)]) (fun j => []) (fun j => n - j.i) (⟨0, Nat.zero_le _⟩) (wk_mk [some 0, some 59] ?_) (fun ⟨i, hi⟩ => ?_)))
  repeat' (first | refine And.intro ?_ ?_ | (with_reducible exact ff_elim) | (with_reducible exact tf_elim) | refine stp_mk [some 0, some 59] ((⟨i + 1, ?_⟩ : PsI n)) ?_ ?_ | refine num_elim ?_ | intro _ | (with_reducible rfl) | ((with_reducible refine lk_t ?_); exact rfl) | ((with_reducible refine pf_t ?_); exact rfl) | refine tell ?_ | exact True.intro | (refine IsT.of ?_; kernel_rfl))
  all_goals (try exact (1 : Nat))
  all_goals (try refine Tell.mk ?_)
  all_goals first | with_reducible rfl | with_reducible exact isI_mk | with_reducible assumption | (with_reducible refine gb_t ?_; with_reducible assumption) | (with_reducible refine gb_f ?_; with_reducible assumption) | (show (_ : List AV) = [_]; rfl) | (show (_ : List AV) = [_, _]; rfl) | skip
  all_goals (try dsimp only at *)
  all_goals (try simp only [bne_self_eq_false, beq_self_eq_true, Bool.not_true, Bool.not_false, Bool.or_false, Bool.false_or, Bool.and_self, gb, decide_eq_true_eq, decide_eq_false_iff_not, avInt_int, Int.toNat_natCast, mulN1, Nat.add_zero, Nat.zero_add] at *)
  all_goals first | with_reducible rfl | (exfalso; assumption) | (exfalso; simp at *; done) | omega | skip
  all_goals first | (rw [wrapI (by omega) (by omega)]; omega) | (rw [decide_eq_true (by assumption), Bool.and_true]; assumption) | skip
  all_goals first | exact (ps_no (readK_at hA h0 (j := i) (by omega)) (by with_reducible assumption)).elim | trace_state
theorem pictSX_f : FnOk Tryd.prog 4 Tryd.f4 := ⟨Tryd.func4, by kernel_rfl⟩
theorem pictSX_a (w h : Int) (n : Nat) (A : Nat → Int) (hpre : ¬ picE w h n = 0) : ACalls Tryd.prog 4 [.agg [.int .i64 w, .int .i64 h, ints .u8 n A]] (.bool true) := by
  refine acalls_of (inl := hasI (P := Tryd.prog) [] []) (base [heavyP_k, (fixC (packX_a w h n A hpre)), (fixC (packRX_a w h n A hpre)), (fixC (textX_a w h n A hpre)), (fixC (textRX_a w h n A hpre))] [] []) 0 pictSX_f (And.intro (by kernel_rfl) ?_)
  repeat' (first | refine And.intro ?_ ?_ | (with_reducible exact ff_elim) | (with_reducible exact tf_elim) | refine num_elim ?_ | intro _ | (with_reducible rfl) | ((with_reducible refine lk_t ?_); exact rfl) | ((with_reducible refine pf_t ?_); exact rfl) | refine tell ?_ | exact True.intro | (refine IsT.of ?_; kernel_rfl))
  all_goals (try refine Tell.mk ?_)
  all_goals first | with_reducible rfl | with_reducible exact isI_mk | with_reducible assumption | (with_reducible refine gb_t ?_; with_reducible assumption) | (with_reducible refine gb_f ?_; with_reducible assumption) | (show (_ : List AV) = [_]; rfl) | skip
  all_goals (try dsimp only at *)
  all_goals (try simp only [bne_self_eq_false, beq_self_eq_true, Bool.not_true, Bool.not_false, Bool.or_false, Bool.false_or, Bool.and_self, gb, decide_eq_true_eq, decide_eq_false_iff_not, avInt_int, Int.toNat_natCast, mulN1, Nat.add_zero, Nat.zero_add] at *)
  all_goals first | with_reducible rfl | (exfalso; assumption) | (exfalso; simp_all; done) | omega | trace_state
theorem pictSays_f : FnOk Tryd.prog 4 Tryd.f4 := ⟨Tryd.func4, by kernel_rfl⟩
theorem pictSays_a (w h : Int) (n : Nat) (A : Nat → Int) (hpre : U8s A) : ACalls Tryd.prog 4 [.agg [.int .i64 w, .int .i64 h, ints .u8 n A]] (.bool true) := by
  by_cases h0 : picE w h n = 0
  · obtain ⟨hs, _⟩ := picE_ok h0
    obtain ⟨W, rfl⟩ : ∃ W : Nat, w = W := ⟨w.toNat, by have := hs.1; omega⟩
    obtain ⟨H, rfl⟩ : ∃ H : Nat, h = H := ⟨h.toNat, by have := hs.2.2.1; omega⟩
    exact pictS0_a W H n A ⟨hpre, h0⟩
  · exact pictSX_a w h n A h0
def pictSays_r (w h : Int) (n : Nat) (A : Nat → Int) : AV := .bool true
def pictSays_p (w h : Int) (n : Nat) (A : Nat → Int) : Prop := U8s A
def pictSays_k : Con Tryd.prog := ⟨4, fun args => match args with | [.agg [.int .i64 w, .int .i64 h, .sl n 1 g_A]] => .ok (some (IsI .u8 g_A ∧ pictSays_p w h n (intF g_A))) (pictSays_r w h n (intF g_A)) | _ => .no, by
  intro args p r h hp
  split at h
  · cases h; obtain ⟨h_A, hp⟩ := hp; have e_A := h_A.eq; rw [e_A]; exact pictSays_a _ _ _ _ hp
  · cases h⟩
end Go.Proofs.YtjnpngbgapigeaaDoor
/- Pictures as bytes and as text: the law on pictures that are made of raw numbers. -/
namespace Go.Proofs.YtjnpngbgapigeaaDoor
open Go.RowKit Ev
set_option linter.unusedVariables false
set_option linter.unusedSimpArgs false
set_option maxRecDepth 20000
set_option maxHeartbeats 8000000

theorem pictMade_f : FnOk Tryd.prog 5 Tryd.f5 := ⟨Tryd.func5, by kernel_rfl⟩
theorem pictMade_a (n : Nat) (F : Nat → Int) (w h : Int) (hpre : (∀ j, In64 (F j)) ∧ In64 w ∧ In64 h) : ACalls Tryd.prog 5 [ints .i64 n F, .int .i64 w, .int .i64 h] (.bool true) := by
  refine acalls_of (inl := hasI (P := Tryd.prog) [] []) (base [pick_k, raw_k, pictureOf_k, pictSays_k] [] []) 0 pictMade_f (And.intro (by kernel_rfl) ?_)
  obtain ⟨hF, hw, hh⟩ := hpre
  have b0 := pickF_bd w 20 (by omega)
  have b1 := pickF_bd h 20 (by omega)
  have e0 : IntKind.i64.wrap (1 + pickF w 20) = 1 + pickF w 20 := wrapI (by omega) (by omega)
  have e1 : IntKind.i64.wrap (1 + pickF h 20) = 1 + pickF h 20 := wrapI (by omega) (by omega)
  have hs : Side (1 + pickF w 20) (1 + pickF h 20) := by unfold Side; omega
  repeat' (first | refine And.intro ?_ ?_ | (with_reducible exact ff_elim) | (with_reducible exact tf_elim) | refine num_elim ?_ | intro _ | (with_reducible rfl) | ((with_reducible refine lk_t ?_); exact rfl) | ((with_reducible refine pf_t ?_); exact rfl) | refine tell ?_ | exact True.intro | (refine IsT.of ?_; kernel_rfl))
  all_goals (try refine Tell.mk ?_)
  all_goals first | with_reducible rfl | with_reducible exact isI_mk | with_reducible assumption | (with_reducible refine gb_t ?_; with_reducible assumption) | (with_reducible refine gb_f ?_; with_reducible assumption) | ((with_reducible refine lk_t ?_); rfl) | ((with_reducible refine okF_t ?_); kernel_rfl) | ((with_reducible refine ks_t ?_); rfl) | ((with_reducible refine pk_t ?_); rfl) | ((with_reducible refine pf_t ?_); rfl) | skip
  all_goals (try dsimp only at *)
  all_goals (try simp only [decide_eq_true_eq, decide_eq_false_iff_not, Bool.or_eq_true, Bool.or_eq_false_iff, Bool.and_eq_true, Bool.and_eq_false_iff, Bool.not_eq_true', Bool.not_eq_false', bne_iff_ne, ne_eq, beq_iff_eq, bne_eq_false_iff_eq, beq_eq_false_iff_ne, Int.not_lt, Int.not_le, gt_iff_lt, ge_iff_le] at *)
  all_goals (try simp only [mulN1, Nat.add_zero, Nat.zero_add, Nat.mul_one, Int.toNat_natCast, avInt_int, intF_mk, raw_p, e0, e1] at *)
  all_goals first | with_reducible rfl | with_reducible exact nums_N | omega | ((with_reducible refine by_le 1 rfl ?_); omega) | ((with_reducible refine by_le 8 rfl ?_); omega) | (rw [wrapI (by omega) (by omega)] <;> omega) | skip
  all_goals first | with_reducible exact hF _ | exact (pixF_bd _ _ _ _).1 | exact (pixF_bd _ _ _ _).2 | (rw [u8w]; omega) | trace_state
end Go.Proofs.YtjnpngbgapigeaaDoor
