/- Scenes as text: the printer's shapes (printed by gen_prni.py). -/
import Derived.Test.YtphdjmaebdmdmaaGreatDoorScnC
namespace Go.Proofs.YtphdjmaebdmdmaaGreatDoor
open Go.RowKit Ev
set_option linter.unusedVariables false
set_option linter.unusedSimpArgs false
set_option maxRecDepth 20000
set_option maxHeartbeats 8000000

/-- Not all nought? -/
def nzB (a b c : Nat) : Bool := !(feq a 0 && (feq b 0 && (feq c 0 && true)))
theorem nz_def (a b c : Nat) : (!(feq a 0 && (feq b 0 && (feq c 0 && true)))) = nzB a b c := rfl
/-- A place. -/
@[irreducible] def vcS (a b c : Nat) : ByteArray := nmS a ++ nmS b ++ nmS c
theorem vc_def (a b c : Nat) : nmS a ++ nmS b ++ nmS c = vcS a b c := by unfold vcS; rfl
theorem vc_sz (a b c : Nat) : (vcS a b c).size ≤ 90 := by
  have := nm_sz a
  have := nm_sz b
  have := nm_sz c
  unfold vcS
  rw [ByteArray.size_append, ByteArray.size_append]; omega
theorem ch2 {n k1 : Nat} {P : Nat → Int} {s1 s2 : ByteArray} (h1 : k1 = n + s1.size) : catB k1 (catB n P s1) s2 = catB n P (s1 ++ s2) := by
  rw [catB_app2 h1]
theorem ch3 {n k1 k2 : Nat} {P : Nat → Int} {s1 s2 s3 : ByteArray} (h1 : k1 = n + s1.size) (h2 : k2 = k1 + s2.size) : catB k2 (catB k1 (catB n P s1) s2) s3 = catB n P (s1 ++ (s2 ++ s3)) := by
  rw [catB_app2 h1, ch2 (s1 := s1 ++ s2) (n := n) (by rw [h2, h1, ByteArray.size_append]; omega) ]
  simp only [ByteArray.append_assoc]
theorem ch4 {n k1 k2 k3 : Nat} {P : Nat → Int} {s1 s2 s3 s4 : ByteArray} (h1 : k1 = n + s1.size) (h2 : k2 = k1 + s2.size) (h3 : k3 = k2 + s3.size) : catB k3 (catB k2 (catB k1 (catB n P s1) s2) s3) s4 = catB n P (s1 ++ (s2 ++ (s3 ++ s4))) := by
  rw [catB_app2 h1, ch3 (s1 := s1 ++ s2) (n := n) (by rw [h2, h1, ByteArray.size_append]; omega) h3]
  simp only [ByteArray.append_assoc]
theorem ch5 {n k1 k2 k3 k4 : Nat} {P : Nat → Int} {s1 s2 s3 s4 s5 : ByteArray} (h1 : k1 = n + s1.size) (h2 : k2 = k1 + s2.size) (h3 : k3 = k2 + s3.size) (h4 : k4 = k3 + s4.size) : catB k4 (catB k3 (catB k2 (catB k1 (catB n P s1) s2) s3) s4) s5 = catB n P (s1 ++ (s2 ++ (s3 ++ (s4 ++ s5)))) := by
  rw [catB_app2 h1, ch4 (s1 := s1 ++ s2) (n := n) (by rw [h2, h1, ByteArray.size_append]; omega) h3 h4]
  simp only [ByteArray.append_assoc]
theorem ch6 {n k1 k2 k3 k4 k5 : Nat} {P : Nat → Int} {s1 s2 s3 s4 s5 s6 : ByteArray} (h1 : k1 = n + s1.size) (h2 : k2 = k1 + s2.size) (h3 : k3 = k2 + s3.size) (h4 : k4 = k3 + s4.size) (h5 : k5 = k4 + s5.size) : catB k5 (catB k4 (catB k3 (catB k2 (catB k1 (catB n P s1) s2) s3) s4) s5) s6 = catB n P (s1 ++ (s2 ++ (s3 ++ (s4 ++ (s5 ++ s6))))) := by
  rw [catB_app2 h1, ch5 (s1 := s1 ++ s2) (n := n) (by rw [h2, h1, ByteArray.size_append]; omega) h3 h4 h5]
  simp only [ByteArray.append_assoc]
theorem ch7 {n k1 k2 k3 k4 k5 k6 : Nat} {P : Nat → Int} {s1 s2 s3 s4 s5 s6 s7 : ByteArray} (h1 : k1 = n + s1.size) (h2 : k2 = k1 + s2.size) (h3 : k3 = k2 + s3.size) (h4 : k4 = k3 + s4.size) (h5 : k5 = k4 + s5.size) (h6 : k6 = k5 + s6.size) : catB k6 (catB k5 (catB k4 (catB k3 (catB k2 (catB k1 (catB n P s1) s2) s3) s4) s5) s6) s7 = catB n P (s1 ++ (s2 ++ (s3 ++ (s4 ++ (s5 ++ (s6 ++ s7)))))) := by
  rw [catB_app2 h1, ch6 (s1 := s1 ++ s2) (n := n) (by rw [h2, h1, ByteArray.size_append]; omega) h3 h4 h5 h6]
  simp only [ByteArray.append_assoc]
@[irreducible] def k_ball : ByteArray := ⟨#[98, 97, 108, 108]⟩
theorem k_ball_def : (⟨#[98, 97, 108, 108]⟩ : ByteArray) = k_ball := by unfold k_ball; rfl
theorem k_ball_sz : k_ball.size = 4 := by unfold k_ball; rfl
@[irreducible] def k_block : ByteArray := ⟨#[98, 108, 111, 99, 107]⟩
theorem k_block_def : (⟨#[98, 108, 111, 99, 107]⟩ : ByteArray) = k_block := by unfold k_block; rfl
theorem k_block_sz : k_block.size = 5 := by unfold k_block; rfl
@[irreducible] def k_tri : ByteArray := ⟨#[116, 114, 105]⟩
theorem k_tri_def : (⟨#[116, 114, 105]⟩ : ByteArray) = k_tri := by unfold k_tri; rfl
theorem k_tri_sz : k_tri.size = 3 := by unfold k_tri; rfl
@[irreducible] def k_plate : ByteArray := ⟨#[112, 108, 97, 116, 101]⟩
theorem k_plate_def : (⟨#[112, 108, 97, 116, 101]⟩ : ByteArray) = k_plate := by unfold k_plate; rfl
theorem k_plate_sz : k_plate.size = 5 := by unfold k_plate; rfl
@[irreducible] def k_tube : ByteArray := ⟨#[116, 117, 98, 101]⟩
theorem k_tube_def : (⟨#[116, 117, 98, 101]⟩ : ByteArray) = k_tube := by unfold k_tube; rfl
theorem k_tube_sz : k_tube.size = 4 := by unfold k_tube; rfl
@[irreducible] def k_ring : ByteArray := ⟨#[114, 105, 110, 103]⟩
theorem k_ring_def : (⟨#[114, 105, 110, 103]⟩ : ByteArray) = k_ring := by unfold k_ring; rfl
theorem k_ring_sz : k_ring.size = 4 := by unfold k_ring; rfl
@[irreducible] def k_radius : ByteArray := ⟨#[32, 114, 97, 100, 105, 117, 115]⟩
theorem k_radius_def : (⟨#[32, 114, 97, 100, 105, 117, 115]⟩ : ByteArray) = k_radius := by unfold k_radius; rfl
theorem k_radius_sz : k_radius.size = 7 := by unfold k_radius; rfl
@[irreducible] def k_to : ByteArray := ⟨#[32, 116, 111]⟩
theorem k_to_def : (⟨#[32, 116, 111]⟩ : ByteArray) = k_to := by unfold k_to; rfl
theorem k_to_sz : k_to.size = 3 := by unfold k_to; rfl
@[irreducible] def k_comma : ByteArray := ⟨#[32, 44]⟩
theorem k_comma_def : (⟨#[32, 44]⟩ : ByteArray) = k_comma := by unfold k_comma; rfl
theorem k_comma_sz : k_comma.size = 2 := by unfold k_comma; rfl
@[irreducible] def k_up : ByteArray := ⟨#[32, 117, 112]⟩
theorem k_up_def : (⟨#[32, 117, 112]⟩ : ByteArray) = k_up := by unfold k_up; rfl
theorem k_up_sz : k_up.size = 3 := by unfold k_up; rfl
@[irreducible] def k_along : ByteArray := ⟨#[32, 97, 108, 111, 110, 103]⟩
theorem k_along_def : (⟨#[32, 97, 108, 111, 110, 103]⟩ : ByteArray) = k_along := by unfold k_along; rfl
theorem k_along_sz : k_along.size = 6 := by unfold k_along; rfl
@[irreducible] def fS1 (a0 a1 a2 b0 b1 b2 c0 c1 c2 r q : Nat) : ByteArray := k_ball ++ vcS a0 a1 a2 ++ k_radius ++ nmS r
theorem fS1_sz (a0 a1 a2 b0 b1 b2 c0 c1 c2 r q : Nat) : (fS1 a0 a1 a2 b0 b1 b2 c0 c1 c2 r q).size ≤ 400 := by
  have h0 := nm_sz r
  have h1 := vc_sz a0 a1 a2
  unfold fS1
  simp only [ByteArray.size_append, k_ball_sz, k_block_sz, k_tri_sz, k_plate_sz, k_tube_sz, k_ring_sz, k_radius_sz, k_to_sz, k_comma_sz, k_up_sz, k_along_sz]
  omega
@[irreducible] def fB1 (bad : Bool) (a0 a1 a2 b0 b1 b2 c0 c1 c2 r q : Nat) : Bool := bad || !thB a0 || !thB a1 || !thB a2 || !thB r || nzB b0 b1 b2 || nzB c0 c1 c2 || nzB q 0 0
theorem pform1_f : FnOk Tryz.prog 30 Tryz.f30 := ⟨Tryz.func30, by kernel_rfl⟩
theorem pform1_a (n : Nat) (P : Nat → Int) (bad : Bool) (a0 a1 a2 b0 b1 b2 c0 c1 c2 r q : Nat) (s : Int) (hpre : 0 < n ∧ n ≤ 700000000000) : MCalls Tryz.prog 30 ([.own 0 0, .agg [.int .i64 1, .flt a0, .flt a1, .flt a2, .flt b0, .flt b1, .flt b2, .flt c0, .flt c1, .flt c2, .flt r, .flt q, .int .i64 s]]) [.row [.own 0 0, .os 1 1 0 n, .bool bad], .bts n P] (.tup []) [.row [.own 0 0, .os 2 1 0 (n + (fS1 a0 a1 a2 b0 b1 b2 c0 c1 c2 r q).size), .bool (fB1 bad a0 a1 a2 b0 b1 b2 c0 c1 c2 r q)], .gone, .bts (n + (fS1 a0 a1 a2 b0 b1 b2 c0 c1 c2 r q).size) (catB n P (fS1 a0 a1 a2 b0 b1 b2 c0 c1 c2 r q))] := by
  refine mcallsF_of (inl := hasI (P := Tryz.prog) [⟨81, Tryz.f81, Tryz.func81, by kernel_rfl⟩] [wstr_m, pvec_m, pnum_m]) (base [] [⟨81, Tryz.f81, Tryz.func81, by kernel_rfl⟩] [wstr_m, pvec_m, pnum_m]) 4 pform1_f (And.intro (by kernel_rfl) ?_)
  have h0 := nm_sz r
  have h1 := vc_sz a0 a1 a2
  have z_a0 := nm_sz a0
  have z_a1 := nm_sz a1
  have z_a2 := nm_sz a2
  have z_r := nm_sz r
  repeat' (first | refine And.intro ?_ ?_ | (with_reducible exact ff_elim) | (with_reducible exact tf_elim) | refine' rho_mk [_] ?_ | refine num_lit 0 (by decide) ?_ | refine num_lit 1 (by decide) ?_ | refine num_lit 2 (by decide) ?_ | refine num_lit 3 (by decide) ?_ | refine num_lit 4 (by decide) ?_ | refine num_lit 5 (by decide) ?_ | refine num_lit 6 (by decide) ?_ | refine num_lit 7 (by decide) ?_ | refine num_lit 8 (by decide) ?_ | (intro h; exact absurd h (by decide)) | refine Or.inl ⟨4, ?_⟩ | refine num_elim ?_ | intro _ | (with_reducible rfl) | ((with_reducible refine lk_t ?_); exact rfl) | ((with_reducible refine pf_t ?_); exact rfl) | refine tell ?_ | exact True.intro | (refine IsT.of ?_; kernel_rfl))
  all_goals (try unfold fS1)
  all_goals (try unfold fB1)
  all_goals (try refine Tell.mk ?_)
  all_goals first | with_reducible rfl | with_reducible assumption | (with_reducible refine gb_t ?_; with_reducible assumption) | (with_reducible refine gb_f ?_; with_reducible assumption) | ((with_reducible refine ks_t ?_); rfl) | ((with_reducible refine okF_t ?_); kernel_rfl) | (show 0 < _; omega) | skip
  all_goals (try dsimp only at *)
  all_goals (try simp only [nm_def, vc_def, nz_def, k_ball_def, k_block_def, k_tri_def, k_plate_def, k_tube_def, k_ring_def, k_radius_def, k_to_def, k_comma_def, k_up_def, k_along_def] at *)
  all_goals (try simp only [catB_app, ByteArray.size_append, ByteArray.append_assoc, Nat.add_assoc, Bool.or_assoc, Bool.or_true, k_ball_sz, k_block_sz, k_tri_sz, k_plate_sz, k_tube_sz, k_ring_sz, k_radius_sz, k_to_sz, k_comma_sz, k_up_sz, k_along_sz] at *)
  all_goals first | with_reducible rfl | rfl | omega | (show 0 < _; omega) | skip
  all_goals first | exact (congrFun (ch2 (by simp only [ByteArray.size_append, Nat.add_assoc, k_ball_sz, k_block_sz, k_tri_sz, k_plate_sz, k_tube_sz, k_ring_sz, k_radius_sz, k_to_sz, k_comma_sz, k_up_sz, k_along_sz])) _).symm | exact (congrFun (ch3 (by simp only [ByteArray.size_append, Nat.add_assoc, k_ball_sz, k_block_sz, k_tri_sz, k_plate_sz, k_tube_sz, k_ring_sz, k_radius_sz, k_to_sz, k_comma_sz, k_up_sz, k_along_sz]) (by simp only [ByteArray.size_append, Nat.add_assoc, k_ball_sz, k_block_sz, k_tri_sz, k_plate_sz, k_tube_sz, k_ring_sz, k_radius_sz, k_to_sz, k_comma_sz, k_up_sz, k_along_sz])) _).symm | exact (congrFun (ch4 (by simp only [ByteArray.size_append, Nat.add_assoc, k_ball_sz, k_block_sz, k_tri_sz, k_plate_sz, k_tube_sz, k_ring_sz, k_radius_sz, k_to_sz, k_comma_sz, k_up_sz, k_along_sz]) (by simp only [ByteArray.size_append, Nat.add_assoc, k_ball_sz, k_block_sz, k_tri_sz, k_plate_sz, k_tube_sz, k_ring_sz, k_radius_sz, k_to_sz, k_comma_sz, k_up_sz, k_along_sz]) (by simp only [ByteArray.size_append, Nat.add_assoc, k_ball_sz, k_block_sz, k_tri_sz, k_plate_sz, k_tube_sz, k_ring_sz, k_radius_sz, k_to_sz, k_comma_sz, k_up_sz, k_along_sz])) _).symm | exact (congrFun (ch5 (by simp only [ByteArray.size_append, Nat.add_assoc, k_ball_sz, k_block_sz, k_tri_sz, k_plate_sz, k_tube_sz, k_ring_sz, k_radius_sz, k_to_sz, k_comma_sz, k_up_sz, k_along_sz]) (by simp only [ByteArray.size_append, Nat.add_assoc, k_ball_sz, k_block_sz, k_tri_sz, k_plate_sz, k_tube_sz, k_ring_sz, k_radius_sz, k_to_sz, k_comma_sz, k_up_sz, k_along_sz]) (by simp only [ByteArray.size_append, Nat.add_assoc, k_ball_sz, k_block_sz, k_tri_sz, k_plate_sz, k_tube_sz, k_ring_sz, k_radius_sz, k_to_sz, k_comma_sz, k_up_sz, k_along_sz]) (by simp only [ByteArray.size_append, Nat.add_assoc, k_ball_sz, k_block_sz, k_tri_sz, k_plate_sz, k_tube_sz, k_ring_sz, k_radius_sz, k_to_sz, k_comma_sz, k_up_sz, k_along_sz])) _).symm | exact (congrFun (ch6 (by simp only [ByteArray.size_append, Nat.add_assoc, k_ball_sz, k_block_sz, k_tri_sz, k_plate_sz, k_tube_sz, k_ring_sz, k_radius_sz, k_to_sz, k_comma_sz, k_up_sz, k_along_sz]) (by simp only [ByteArray.size_append, Nat.add_assoc, k_ball_sz, k_block_sz, k_tri_sz, k_plate_sz, k_tube_sz, k_ring_sz, k_radius_sz, k_to_sz, k_comma_sz, k_up_sz, k_along_sz]) (by simp only [ByteArray.size_append, Nat.add_assoc, k_ball_sz, k_block_sz, k_tri_sz, k_plate_sz, k_tube_sz, k_ring_sz, k_radius_sz, k_to_sz, k_comma_sz, k_up_sz, k_along_sz]) (by simp only [ByteArray.size_append, Nat.add_assoc, k_ball_sz, k_block_sz, k_tri_sz, k_plate_sz, k_tube_sz, k_ring_sz, k_radius_sz, k_to_sz, k_comma_sz, k_up_sz, k_along_sz]) (by simp only [ByteArray.size_append, Nat.add_assoc, k_ball_sz, k_block_sz, k_tri_sz, k_plate_sz, k_tube_sz, k_ring_sz, k_radius_sz, k_to_sz, k_comma_sz, k_up_sz, k_along_sz])) _).symm | exact (congrFun (ch7 (by simp only [ByteArray.size_append, Nat.add_assoc, k_ball_sz, k_block_sz, k_tri_sz, k_plate_sz, k_tube_sz, k_ring_sz, k_radius_sz, k_to_sz, k_comma_sz, k_up_sz, k_along_sz]) (by simp only [ByteArray.size_append, Nat.add_assoc, k_ball_sz, k_block_sz, k_tri_sz, k_plate_sz, k_tube_sz, k_ring_sz, k_radius_sz, k_to_sz, k_comma_sz, k_up_sz, k_along_sz]) (by simp only [ByteArray.size_append, Nat.add_assoc, k_ball_sz, k_block_sz, k_tri_sz, k_plate_sz, k_tube_sz, k_ring_sz, k_radius_sz, k_to_sz, k_comma_sz, k_up_sz, k_along_sz]) (by simp only [ByteArray.size_append, Nat.add_assoc, k_ball_sz, k_block_sz, k_tri_sz, k_plate_sz, k_tube_sz, k_ring_sz, k_radius_sz, k_to_sz, k_comma_sz, k_up_sz, k_along_sz]) (by simp only [ByteArray.size_append, Nat.add_assoc, k_ball_sz, k_block_sz, k_tri_sz, k_plate_sz, k_tube_sz, k_ring_sz, k_radius_sz, k_to_sz, k_comma_sz, k_up_sz, k_along_sz]) (by simp only [ByteArray.size_append, Nat.add_assoc, k_ball_sz, k_block_sz, k_tri_sz, k_plate_sz, k_tube_sz, k_ring_sz, k_radius_sz, k_to_sz, k_comma_sz, k_up_sz, k_along_sz])) _).symm | trace_state
def pform1_p (n : Nat) (P : Nat → Int) (bad : Bool) (a0 a1 a2 b0 b1 b2 c0 c1 c2 r q : Nat) (s : Int) : Prop := 0 < n ∧ n ≤ 700000000000
def pform1_r (n : Nat) (P : Nat → Int) (bad : Bool) (a0 a1 a2 b0 b1 b2 c0 c1 c2 r q : Nat) (s : Int) : AV := .tup []
def pform1_rows (n : Nat) (P : Nat → Int) (bad : Bool) (a0 a1 a2 b0 b1 b2 c0 c1 c2 r q : Nat) (s : Int) : List OB := [.row [.own 0 0, .os 1 1 0 n, .bool bad], .bts n P]
def pform1_rows2 (n : Nat) (P : Nat → Int) (bad : Bool) (a0 a1 a2 b0 b1 b2 c0 c1 c2 r q : Nat) (s : Int) : List OB := [.row [.own 0 0, .os 2 1 0 (n + (fS1 a0 a1 a2 b0 b1 b2 c0 c1 c2 r q).size), .bool (fB1 bad a0 a1 a2 b0 b1 b2 c0 c1 c2 r q)], .gone, .bts (n + (fS1 a0 a1 a2 b0 b1 b2 c0 c1 c2 r q).size) (catB n P (fS1 a0 a1 a2 b0 b1 b2 c0 c1 c2 r q))]
def pform1_m : MCon Tryz.prog := ⟨30, fun args own => match args with | [.own k0_ 0, .agg [.int .i64 1, .flt a0, .flt a1, .flt a2, .flt b0, .flt b1, .flt b2, .flt c0, .flt c1, .flt c2, .flt r, .flt q, .int .i64 s]] => (match own k0_ with | .row [.own k0_ 0, .os k1_ 1 0 n, .bool bad] => (match own k1_ with | .bts n_ P => .ok [k0_, k1_] ([.own 0 0, .agg [.int .i64 1, .flt a0, .flt a1, .flt a2, .flt b0, .flt b1, .flt b2, .flt c0, .flt c1, .flt c2, .flt r, .flt q, .int .i64 s]]) (pform1_rows n P bad a0 a1 a2 b0 b1 b2 c0 c1 c2 r q s) (some (n_ = n ∧ pform1_p n P bad a0 a1 a2 b0 b1 b2 c0 c1 c2 r q s)) (pform1_r n P bad a0 a1 a2 b0 b1 b2 c0 c1 c2 r q s) (pform1_rows2 n P bad a0 a1 a2 b0 b1 b2 c0 c1 c2 r q s) | _ => .no) | _ => .no) | _ => .no, by
  intro args own ks cargs rows p r rows2 h hp
  split at h
  · split at h
    · split at h
      · cases h; obtain ⟨rfl, hq⟩ := hp; exact pform1_a _ _ _ _ _ _ _ _ _ _ _ _ _ _ _ hq
      · cases h
    · cases h
  · cases h⟩
@[irreducible] def fS2 (a0 a1 a2 b0 b1 b2 c0 c1 c2 r q : Nat) : ByteArray := k_block ++ vcS a0 a1 a2 ++ k_to ++ vcS b0 b1 b2
theorem fS2_sz (a0 a1 a2 b0 b1 b2 c0 c1 c2 r q : Nat) : (fS2 a0 a1 a2 b0 b1 b2 c0 c1 c2 r q).size ≤ 400 := by
  have h0 := vc_sz a0 a1 a2
  have h1 := vc_sz b0 b1 b2
  unfold fS2
  simp only [ByteArray.size_append, k_ball_sz, k_block_sz, k_tri_sz, k_plate_sz, k_tube_sz, k_ring_sz, k_radius_sz, k_to_sz, k_comma_sz, k_up_sz, k_along_sz]
  omega
@[irreducible] def fB2 (bad : Bool) (a0 a1 a2 b0 b1 b2 c0 c1 c2 r q : Nat) : Bool := bad || !thB a0 || !thB a1 || !thB a2 || !thB b0 || !thB b1 || !thB b2 || nzB c0 c1 c2 || nzB r q 0
theorem pform2_f : FnOk Tryz.prog 30 Tryz.f30 := ⟨Tryz.func30, by kernel_rfl⟩
theorem pform2_a (n : Nat) (P : Nat → Int) (bad : Bool) (a0 a1 a2 b0 b1 b2 c0 c1 c2 r q : Nat) (s : Int) (hpre : 0 < n ∧ n ≤ 700000000000) : MCalls Tryz.prog 30 ([.own 0 0, .agg [.int .i64 2, .flt a0, .flt a1, .flt a2, .flt b0, .flt b1, .flt b2, .flt c0, .flt c1, .flt c2, .flt r, .flt q, .int .i64 s]]) [.row [.own 0 0, .os 1 1 0 n, .bool bad], .bts n P] (.tup []) [.row [.own 0 0, .os 2 1 0 (n + (fS2 a0 a1 a2 b0 b1 b2 c0 c1 c2 r q).size), .bool (fB2 bad a0 a1 a2 b0 b1 b2 c0 c1 c2 r q)], .gone, .bts (n + (fS2 a0 a1 a2 b0 b1 b2 c0 c1 c2 r q).size) (catB n P (fS2 a0 a1 a2 b0 b1 b2 c0 c1 c2 r q))] := by
  refine mcallsF_of (inl := hasI (P := Tryz.prog) [⟨81, Tryz.f81, Tryz.func81, by kernel_rfl⟩] [wstr_m, pvec_m, pnum_m]) (base [] [⟨81, Tryz.f81, Tryz.func81, by kernel_rfl⟩] [wstr_m, pvec_m, pnum_m]) 4 pform2_f (And.intro (by kernel_rfl) ?_)
  have h0 := vc_sz a0 a1 a2
  have h1 := vc_sz b0 b1 b2
  have z_a0 := nm_sz a0
  have z_a1 := nm_sz a1
  have z_a2 := nm_sz a2
  have z_b0 := nm_sz b0
  have z_b1 := nm_sz b1
  have z_b2 := nm_sz b2
  repeat' (first | refine And.intro ?_ ?_ | (with_reducible exact ff_elim) | (with_reducible exact tf_elim) | refine' rho_mk [_] ?_ | refine num_lit 0 (by decide) ?_ | refine num_lit 1 (by decide) ?_ | refine num_lit 2 (by decide) ?_ | refine num_lit 3 (by decide) ?_ | refine num_lit 4 (by decide) ?_ | refine num_lit 5 (by decide) ?_ | refine num_lit 6 (by decide) ?_ | refine num_lit 7 (by decide) ?_ | refine num_lit 8 (by decide) ?_ | (intro h; exact absurd h (by decide)) | refine Or.inl ⟨4, ?_⟩ | refine num_elim ?_ | intro _ | (with_reducible rfl) | ((with_reducible refine lk_t ?_); exact rfl) | ((with_reducible refine pf_t ?_); exact rfl) | refine tell ?_ | exact True.intro | (refine IsT.of ?_; kernel_rfl))
  all_goals (try unfold fS2)
  all_goals (try unfold fB2)
  all_goals (try refine Tell.mk ?_)
  all_goals first | with_reducible rfl | with_reducible assumption | (with_reducible refine gb_t ?_; with_reducible assumption) | (with_reducible refine gb_f ?_; with_reducible assumption) | ((with_reducible refine ks_t ?_); rfl) | ((with_reducible refine okF_t ?_); kernel_rfl) | (show 0 < _; omega) | skip
  all_goals (try dsimp only at *)
  all_goals (try simp only [nm_def, vc_def, nz_def, k_ball_def, k_block_def, k_tri_def, k_plate_def, k_tube_def, k_ring_def, k_radius_def, k_to_def, k_comma_def, k_up_def, k_along_def] at *)
  all_goals (try simp only [catB_app, ByteArray.size_append, ByteArray.append_assoc, Nat.add_assoc, Bool.or_assoc, Bool.or_true, k_ball_sz, k_block_sz, k_tri_sz, k_plate_sz, k_tube_sz, k_ring_sz, k_radius_sz, k_to_sz, k_comma_sz, k_up_sz, k_along_sz] at *)
  all_goals first | with_reducible rfl | rfl | omega | (show 0 < _; omega) | skip
  all_goals first | exact (congrFun (ch2 (by simp only [ByteArray.size_append, Nat.add_assoc, k_ball_sz, k_block_sz, k_tri_sz, k_plate_sz, k_tube_sz, k_ring_sz, k_radius_sz, k_to_sz, k_comma_sz, k_up_sz, k_along_sz])) _).symm | exact (congrFun (ch3 (by simp only [ByteArray.size_append, Nat.add_assoc, k_ball_sz, k_block_sz, k_tri_sz, k_plate_sz, k_tube_sz, k_ring_sz, k_radius_sz, k_to_sz, k_comma_sz, k_up_sz, k_along_sz]) (by simp only [ByteArray.size_append, Nat.add_assoc, k_ball_sz, k_block_sz, k_tri_sz, k_plate_sz, k_tube_sz, k_ring_sz, k_radius_sz, k_to_sz, k_comma_sz, k_up_sz, k_along_sz])) _).symm | exact (congrFun (ch4 (by simp only [ByteArray.size_append, Nat.add_assoc, k_ball_sz, k_block_sz, k_tri_sz, k_plate_sz, k_tube_sz, k_ring_sz, k_radius_sz, k_to_sz, k_comma_sz, k_up_sz, k_along_sz]) (by simp only [ByteArray.size_append, Nat.add_assoc, k_ball_sz, k_block_sz, k_tri_sz, k_plate_sz, k_tube_sz, k_ring_sz, k_radius_sz, k_to_sz, k_comma_sz, k_up_sz, k_along_sz]) (by simp only [ByteArray.size_append, Nat.add_assoc, k_ball_sz, k_block_sz, k_tri_sz, k_plate_sz, k_tube_sz, k_ring_sz, k_radius_sz, k_to_sz, k_comma_sz, k_up_sz, k_along_sz])) _).symm | exact (congrFun (ch5 (by simp only [ByteArray.size_append, Nat.add_assoc, k_ball_sz, k_block_sz, k_tri_sz, k_plate_sz, k_tube_sz, k_ring_sz, k_radius_sz, k_to_sz, k_comma_sz, k_up_sz, k_along_sz]) (by simp only [ByteArray.size_append, Nat.add_assoc, k_ball_sz, k_block_sz, k_tri_sz, k_plate_sz, k_tube_sz, k_ring_sz, k_radius_sz, k_to_sz, k_comma_sz, k_up_sz, k_along_sz]) (by simp only [ByteArray.size_append, Nat.add_assoc, k_ball_sz, k_block_sz, k_tri_sz, k_plate_sz, k_tube_sz, k_ring_sz, k_radius_sz, k_to_sz, k_comma_sz, k_up_sz, k_along_sz]) (by simp only [ByteArray.size_append, Nat.add_assoc, k_ball_sz, k_block_sz, k_tri_sz, k_plate_sz, k_tube_sz, k_ring_sz, k_radius_sz, k_to_sz, k_comma_sz, k_up_sz, k_along_sz])) _).symm | exact (congrFun (ch6 (by simp only [ByteArray.size_append, Nat.add_assoc, k_ball_sz, k_block_sz, k_tri_sz, k_plate_sz, k_tube_sz, k_ring_sz, k_radius_sz, k_to_sz, k_comma_sz, k_up_sz, k_along_sz]) (by simp only [ByteArray.size_append, Nat.add_assoc, k_ball_sz, k_block_sz, k_tri_sz, k_plate_sz, k_tube_sz, k_ring_sz, k_radius_sz, k_to_sz, k_comma_sz, k_up_sz, k_along_sz]) (by simp only [ByteArray.size_append, Nat.add_assoc, k_ball_sz, k_block_sz, k_tri_sz, k_plate_sz, k_tube_sz, k_ring_sz, k_radius_sz, k_to_sz, k_comma_sz, k_up_sz, k_along_sz]) (by simp only [ByteArray.size_append, Nat.add_assoc, k_ball_sz, k_block_sz, k_tri_sz, k_plate_sz, k_tube_sz, k_ring_sz, k_radius_sz, k_to_sz, k_comma_sz, k_up_sz, k_along_sz]) (by simp only [ByteArray.size_append, Nat.add_assoc, k_ball_sz, k_block_sz, k_tri_sz, k_plate_sz, k_tube_sz, k_ring_sz, k_radius_sz, k_to_sz, k_comma_sz, k_up_sz, k_along_sz])) _).symm | exact (congrFun (ch7 (by simp only [ByteArray.size_append, Nat.add_assoc, k_ball_sz, k_block_sz, k_tri_sz, k_plate_sz, k_tube_sz, k_ring_sz, k_radius_sz, k_to_sz, k_comma_sz, k_up_sz, k_along_sz]) (by simp only [ByteArray.size_append, Nat.add_assoc, k_ball_sz, k_block_sz, k_tri_sz, k_plate_sz, k_tube_sz, k_ring_sz, k_radius_sz, k_to_sz, k_comma_sz, k_up_sz, k_along_sz]) (by simp only [ByteArray.size_append, Nat.add_assoc, k_ball_sz, k_block_sz, k_tri_sz, k_plate_sz, k_tube_sz, k_ring_sz, k_radius_sz, k_to_sz, k_comma_sz, k_up_sz, k_along_sz]) (by simp only [ByteArray.size_append, Nat.add_assoc, k_ball_sz, k_block_sz, k_tri_sz, k_plate_sz, k_tube_sz, k_ring_sz, k_radius_sz, k_to_sz, k_comma_sz, k_up_sz, k_along_sz]) (by simp only [ByteArray.size_append, Nat.add_assoc, k_ball_sz, k_block_sz, k_tri_sz, k_plate_sz, k_tube_sz, k_ring_sz, k_radius_sz, k_to_sz, k_comma_sz, k_up_sz, k_along_sz]) (by simp only [ByteArray.size_append, Nat.add_assoc, k_ball_sz, k_block_sz, k_tri_sz, k_plate_sz, k_tube_sz, k_ring_sz, k_radius_sz, k_to_sz, k_comma_sz, k_up_sz, k_along_sz])) _).symm | trace_state
def pform2_p (n : Nat) (P : Nat → Int) (bad : Bool) (a0 a1 a2 b0 b1 b2 c0 c1 c2 r q : Nat) (s : Int) : Prop := 0 < n ∧ n ≤ 700000000000
def pform2_r (n : Nat) (P : Nat → Int) (bad : Bool) (a0 a1 a2 b0 b1 b2 c0 c1 c2 r q : Nat) (s : Int) : AV := .tup []
def pform2_rows (n : Nat) (P : Nat → Int) (bad : Bool) (a0 a1 a2 b0 b1 b2 c0 c1 c2 r q : Nat) (s : Int) : List OB := [.row [.own 0 0, .os 1 1 0 n, .bool bad], .bts n P]
def pform2_rows2 (n : Nat) (P : Nat → Int) (bad : Bool) (a0 a1 a2 b0 b1 b2 c0 c1 c2 r q : Nat) (s : Int) : List OB := [.row [.own 0 0, .os 2 1 0 (n + (fS2 a0 a1 a2 b0 b1 b2 c0 c1 c2 r q).size), .bool (fB2 bad a0 a1 a2 b0 b1 b2 c0 c1 c2 r q)], .gone, .bts (n + (fS2 a0 a1 a2 b0 b1 b2 c0 c1 c2 r q).size) (catB n P (fS2 a0 a1 a2 b0 b1 b2 c0 c1 c2 r q))]
def pform2_m : MCon Tryz.prog := ⟨30, fun args own => match args with | [.own k0_ 0, .agg [.int .i64 2, .flt a0, .flt a1, .flt a2, .flt b0, .flt b1, .flt b2, .flt c0, .flt c1, .flt c2, .flt r, .flt q, .int .i64 s]] => (match own k0_ with | .row [.own k0_ 0, .os k1_ 1 0 n, .bool bad] => (match own k1_ with | .bts n_ P => .ok [k0_, k1_] ([.own 0 0, .agg [.int .i64 2, .flt a0, .flt a1, .flt a2, .flt b0, .flt b1, .flt b2, .flt c0, .flt c1, .flt c2, .flt r, .flt q, .int .i64 s]]) (pform2_rows n P bad a0 a1 a2 b0 b1 b2 c0 c1 c2 r q s) (some (n_ = n ∧ pform2_p n P bad a0 a1 a2 b0 b1 b2 c0 c1 c2 r q s)) (pform2_r n P bad a0 a1 a2 b0 b1 b2 c0 c1 c2 r q s) (pform2_rows2 n P bad a0 a1 a2 b0 b1 b2 c0 c1 c2 r q s) | _ => .no) | _ => .no) | _ => .no, by
  intro args own ks cargs rows p r rows2 h hp
  split at h
  · split at h
    · split at h
      · cases h; obtain ⟨rfl, hq⟩ := hp; exact pform2_a _ _ _ _ _ _ _ _ _ _ _ _ _ _ _ hq
      · cases h
    · cases h
  · cases h⟩
@[irreducible] def fS3 (a0 a1 a2 b0 b1 b2 c0 c1 c2 r q : Nat) : ByteArray := k_tri ++ vcS a0 a1 a2 ++ k_comma ++ vcS b0 b1 b2 ++ k_comma ++ vcS c0 c1 c2
theorem fS3_sz (a0 a1 a2 b0 b1 b2 c0 c1 c2 r q : Nat) : (fS3 a0 a1 a2 b0 b1 b2 c0 c1 c2 r q).size ≤ 400 := by
  have h0 := vc_sz a0 a1 a2
  have h1 := vc_sz b0 b1 b2
  have h2 := vc_sz c0 c1 c2
  unfold fS3
  simp only [ByteArray.size_append, k_ball_sz, k_block_sz, k_tri_sz, k_plate_sz, k_tube_sz, k_ring_sz, k_radius_sz, k_to_sz, k_comma_sz, k_up_sz, k_along_sz]
  omega
@[irreducible] def fB3 (bad : Bool) (a0 a1 a2 b0 b1 b2 c0 c1 c2 r q : Nat) : Bool := bad || !thB a0 || !thB a1 || !thB a2 || !thB b0 || !thB b1 || !thB b2 || !thB c0 || !thB c1 || !thB c2 || nzB r q 0
theorem pform3_f : FnOk Tryz.prog 30 Tryz.f30 := ⟨Tryz.func30, by kernel_rfl⟩
theorem pform3_a (n : Nat) (P : Nat → Int) (bad : Bool) (a0 a1 a2 b0 b1 b2 c0 c1 c2 r q : Nat) (s : Int) (hpre : 0 < n ∧ n ≤ 700000000000) : MCalls Tryz.prog 30 ([.own 0 0, .agg [.int .i64 3, .flt a0, .flt a1, .flt a2, .flt b0, .flt b1, .flt b2, .flt c0, .flt c1, .flt c2, .flt r, .flt q, .int .i64 s]]) [.row [.own 0 0, .os 1 1 0 n, .bool bad], .bts n P] (.tup []) [.row [.own 0 0, .os 2 1 0 (n + (fS3 a0 a1 a2 b0 b1 b2 c0 c1 c2 r q).size), .bool (fB3 bad a0 a1 a2 b0 b1 b2 c0 c1 c2 r q)], .gone, .bts (n + (fS3 a0 a1 a2 b0 b1 b2 c0 c1 c2 r q).size) (catB n P (fS3 a0 a1 a2 b0 b1 b2 c0 c1 c2 r q))] := by
  refine mcallsF_of (inl := hasI (P := Tryz.prog) [⟨81, Tryz.f81, Tryz.func81, by kernel_rfl⟩] [wstr_m, pvec_m, pnum_m]) (base [] [⟨81, Tryz.f81, Tryz.func81, by kernel_rfl⟩] [wstr_m, pvec_m, pnum_m]) 4 pform3_f (And.intro (by kernel_rfl) ?_)
  have h0 := vc_sz a0 a1 a2
  have h1 := vc_sz b0 b1 b2
  have h2 := vc_sz c0 c1 c2
  have z_a0 := nm_sz a0
  have z_a1 := nm_sz a1
  have z_a2 := nm_sz a2
  have z_b0 := nm_sz b0
  have z_b1 := nm_sz b1
  have z_b2 := nm_sz b2
  have z_c0 := nm_sz c0
  have z_c1 := nm_sz c1
  have z_c2 := nm_sz c2
  repeat' (first | refine And.intro ?_ ?_ | (with_reducible exact ff_elim) | (with_reducible exact tf_elim) | refine' rho_mk [_] ?_ | refine num_lit 0 (by decide) ?_ | refine num_lit 1 (by decide) ?_ | refine num_lit 2 (by decide) ?_ | refine num_lit 3 (by decide) ?_ | refine num_lit 4 (by decide) ?_ | refine num_lit 5 (by decide) ?_ | refine num_lit 6 (by decide) ?_ | refine num_lit 7 (by decide) ?_ | refine num_lit 8 (by decide) ?_ | (intro h; exact absurd h (by decide)) | refine Or.inl ⟨4, ?_⟩ | refine num_elim ?_ | intro _ | (with_reducible rfl) | ((with_reducible refine lk_t ?_); exact rfl) | ((with_reducible refine pf_t ?_); exact rfl) | refine tell ?_ | exact True.intro | (refine IsT.of ?_; kernel_rfl))
  all_goals (try unfold fS3)
  all_goals (try unfold fB3)
  all_goals (try refine Tell.mk ?_)
  all_goals first | with_reducible rfl | with_reducible assumption | (with_reducible refine gb_t ?_; with_reducible assumption) | (with_reducible refine gb_f ?_; with_reducible assumption) | ((with_reducible refine ks_t ?_); rfl) | ((with_reducible refine okF_t ?_); kernel_rfl) | (show 0 < _; omega) | skip
  all_goals (try dsimp only at *)
  all_goals (try simp only [nm_def, vc_def, nz_def, k_ball_def, k_block_def, k_tri_def, k_plate_def, k_tube_def, k_ring_def, k_radius_def, k_to_def, k_comma_def, k_up_def, k_along_def] at *)
  all_goals (try simp only [catB_app, ByteArray.size_append, ByteArray.append_assoc, Nat.add_assoc, Bool.or_assoc, Bool.or_true, k_ball_sz, k_block_sz, k_tri_sz, k_plate_sz, k_tube_sz, k_ring_sz, k_radius_sz, k_to_sz, k_comma_sz, k_up_sz, k_along_sz] at *)
  all_goals first | with_reducible rfl | rfl | omega | (show 0 < _; omega) | skip
  all_goals first | exact (congrFun (ch2 (by simp only [ByteArray.size_append, Nat.add_assoc, k_ball_sz, k_block_sz, k_tri_sz, k_plate_sz, k_tube_sz, k_ring_sz, k_radius_sz, k_to_sz, k_comma_sz, k_up_sz, k_along_sz])) _).symm | exact (congrFun (ch3 (by simp only [ByteArray.size_append, Nat.add_assoc, k_ball_sz, k_block_sz, k_tri_sz, k_plate_sz, k_tube_sz, k_ring_sz, k_radius_sz, k_to_sz, k_comma_sz, k_up_sz, k_along_sz]) (by simp only [ByteArray.size_append, Nat.add_assoc, k_ball_sz, k_block_sz, k_tri_sz, k_plate_sz, k_tube_sz, k_ring_sz, k_radius_sz, k_to_sz, k_comma_sz, k_up_sz, k_along_sz])) _).symm | exact (congrFun (ch4 (by simp only [ByteArray.size_append, Nat.add_assoc, k_ball_sz, k_block_sz, k_tri_sz, k_plate_sz, k_tube_sz, k_ring_sz, k_radius_sz, k_to_sz, k_comma_sz, k_up_sz, k_along_sz]) (by simp only [ByteArray.size_append, Nat.add_assoc, k_ball_sz, k_block_sz, k_tri_sz, k_plate_sz, k_tube_sz, k_ring_sz, k_radius_sz, k_to_sz, k_comma_sz, k_up_sz, k_along_sz]) (by simp only [ByteArray.size_append, Nat.add_assoc, k_ball_sz, k_block_sz, k_tri_sz, k_plate_sz, k_tube_sz, k_ring_sz, k_radius_sz, k_to_sz, k_comma_sz, k_up_sz, k_along_sz])) _).symm | exact (congrFun (ch5 (by simp only [ByteArray.size_append, Nat.add_assoc, k_ball_sz, k_block_sz, k_tri_sz, k_plate_sz, k_tube_sz, k_ring_sz, k_radius_sz, k_to_sz, k_comma_sz, k_up_sz, k_along_sz]) (by simp only [ByteArray.size_append, Nat.add_assoc, k_ball_sz, k_block_sz, k_tri_sz, k_plate_sz, k_tube_sz, k_ring_sz, k_radius_sz, k_to_sz, k_comma_sz, k_up_sz, k_along_sz]) (by simp only [ByteArray.size_append, Nat.add_assoc, k_ball_sz, k_block_sz, k_tri_sz, k_plate_sz, k_tube_sz, k_ring_sz, k_radius_sz, k_to_sz, k_comma_sz, k_up_sz, k_along_sz]) (by simp only [ByteArray.size_append, Nat.add_assoc, k_ball_sz, k_block_sz, k_tri_sz, k_plate_sz, k_tube_sz, k_ring_sz, k_radius_sz, k_to_sz, k_comma_sz, k_up_sz, k_along_sz])) _).symm | exact (congrFun (ch6 (by simp only [ByteArray.size_append, Nat.add_assoc, k_ball_sz, k_block_sz, k_tri_sz, k_plate_sz, k_tube_sz, k_ring_sz, k_radius_sz, k_to_sz, k_comma_sz, k_up_sz, k_along_sz]) (by simp only [ByteArray.size_append, Nat.add_assoc, k_ball_sz, k_block_sz, k_tri_sz, k_plate_sz, k_tube_sz, k_ring_sz, k_radius_sz, k_to_sz, k_comma_sz, k_up_sz, k_along_sz]) (by simp only [ByteArray.size_append, Nat.add_assoc, k_ball_sz, k_block_sz, k_tri_sz, k_plate_sz, k_tube_sz, k_ring_sz, k_radius_sz, k_to_sz, k_comma_sz, k_up_sz, k_along_sz]) (by simp only [ByteArray.size_append, Nat.add_assoc, k_ball_sz, k_block_sz, k_tri_sz, k_plate_sz, k_tube_sz, k_ring_sz, k_radius_sz, k_to_sz, k_comma_sz, k_up_sz, k_along_sz]) (by simp only [ByteArray.size_append, Nat.add_assoc, k_ball_sz, k_block_sz, k_tri_sz, k_plate_sz, k_tube_sz, k_ring_sz, k_radius_sz, k_to_sz, k_comma_sz, k_up_sz, k_along_sz])) _).symm | exact (congrFun (ch7 (by simp only [ByteArray.size_append, Nat.add_assoc, k_ball_sz, k_block_sz, k_tri_sz, k_plate_sz, k_tube_sz, k_ring_sz, k_radius_sz, k_to_sz, k_comma_sz, k_up_sz, k_along_sz]) (by simp only [ByteArray.size_append, Nat.add_assoc, k_ball_sz, k_block_sz, k_tri_sz, k_plate_sz, k_tube_sz, k_ring_sz, k_radius_sz, k_to_sz, k_comma_sz, k_up_sz, k_along_sz]) (by simp only [ByteArray.size_append, Nat.add_assoc, k_ball_sz, k_block_sz, k_tri_sz, k_plate_sz, k_tube_sz, k_ring_sz, k_radius_sz, k_to_sz, k_comma_sz, k_up_sz, k_along_sz]) (by simp only [ByteArray.size_append, Nat.add_assoc, k_ball_sz, k_block_sz, k_tri_sz, k_plate_sz, k_tube_sz, k_ring_sz, k_radius_sz, k_to_sz, k_comma_sz, k_up_sz, k_along_sz]) (by simp only [ByteArray.size_append, Nat.add_assoc, k_ball_sz, k_block_sz, k_tri_sz, k_plate_sz, k_tube_sz, k_ring_sz, k_radius_sz, k_to_sz, k_comma_sz, k_up_sz, k_along_sz]) (by simp only [ByteArray.size_append, Nat.add_assoc, k_ball_sz, k_block_sz, k_tri_sz, k_plate_sz, k_tube_sz, k_ring_sz, k_radius_sz, k_to_sz, k_comma_sz, k_up_sz, k_along_sz])) _).symm | trace_state
def pform3_p (n : Nat) (P : Nat → Int) (bad : Bool) (a0 a1 a2 b0 b1 b2 c0 c1 c2 r q : Nat) (s : Int) : Prop := 0 < n ∧ n ≤ 700000000000
def pform3_r (n : Nat) (P : Nat → Int) (bad : Bool) (a0 a1 a2 b0 b1 b2 c0 c1 c2 r q : Nat) (s : Int) : AV := .tup []
def pform3_rows (n : Nat) (P : Nat → Int) (bad : Bool) (a0 a1 a2 b0 b1 b2 c0 c1 c2 r q : Nat) (s : Int) : List OB := [.row [.own 0 0, .os 1 1 0 n, .bool bad], .bts n P]
def pform3_rows2 (n : Nat) (P : Nat → Int) (bad : Bool) (a0 a1 a2 b0 b1 b2 c0 c1 c2 r q : Nat) (s : Int) : List OB := [.row [.own 0 0, .os 2 1 0 (n + (fS3 a0 a1 a2 b0 b1 b2 c0 c1 c2 r q).size), .bool (fB3 bad a0 a1 a2 b0 b1 b2 c0 c1 c2 r q)], .gone, .bts (n + (fS3 a0 a1 a2 b0 b1 b2 c0 c1 c2 r q).size) (catB n P (fS3 a0 a1 a2 b0 b1 b2 c0 c1 c2 r q))]
def pform3_m : MCon Tryz.prog := ⟨30, fun args own => match args with | [.own k0_ 0, .agg [.int .i64 3, .flt a0, .flt a1, .flt a2, .flt b0, .flt b1, .flt b2, .flt c0, .flt c1, .flt c2, .flt r, .flt q, .int .i64 s]] => (match own k0_ with | .row [.own k0_ 0, .os k1_ 1 0 n, .bool bad] => (match own k1_ with | .bts n_ P => .ok [k0_, k1_] ([.own 0 0, .agg [.int .i64 3, .flt a0, .flt a1, .flt a2, .flt b0, .flt b1, .flt b2, .flt c0, .flt c1, .flt c2, .flt r, .flt q, .int .i64 s]]) (pform3_rows n P bad a0 a1 a2 b0 b1 b2 c0 c1 c2 r q s) (some (n_ = n ∧ pform3_p n P bad a0 a1 a2 b0 b1 b2 c0 c1 c2 r q s)) (pform3_r n P bad a0 a1 a2 b0 b1 b2 c0 c1 c2 r q s) (pform3_rows2 n P bad a0 a1 a2 b0 b1 b2 c0 c1 c2 r q s) | _ => .no) | _ => .no) | _ => .no, by
  intro args own ks cargs rows p r rows2 h hp
  split at h
  · split at h
    · split at h
      · cases h; obtain ⟨rfl, hq⟩ := hp; exact pform3_a _ _ _ _ _ _ _ _ _ _ _ _ _ _ _ hq
      · cases h
    · cases h
  · cases h⟩
@[irreducible] def fS4 (a0 a1 a2 b0 b1 b2 c0 c1 c2 r q : Nat) : ByteArray := k_plate ++ vcS a0 a1 a2 ++ k_up ++ vcS b0 b1 b2 ++ k_radius ++ nmS r
theorem fS4_sz (a0 a1 a2 b0 b1 b2 c0 c1 c2 r q : Nat) : (fS4 a0 a1 a2 b0 b1 b2 c0 c1 c2 r q).size ≤ 400 := by
  have h0 := nm_sz r
  have h1 := vc_sz a0 a1 a2
  have h2 := vc_sz b0 b1 b2
  unfold fS4
  simp only [ByteArray.size_append, k_ball_sz, k_block_sz, k_tri_sz, k_plate_sz, k_tube_sz, k_ring_sz, k_radius_sz, k_to_sz, k_comma_sz, k_up_sz, k_along_sz]
  omega
@[irreducible] def fB4 (bad : Bool) (a0 a1 a2 b0 b1 b2 c0 c1 c2 r q : Nat) : Bool := bad || !thB a0 || !thB a1 || !thB a2 || !thB b0 || !thB b1 || !thB b2 || !thB r || nzB c0 c1 c2 || nzB q 0 0
theorem pform4_f : FnOk Tryz.prog 30 Tryz.f30 := ⟨Tryz.func30, by kernel_rfl⟩
theorem pform4_a (n : Nat) (P : Nat → Int) (bad : Bool) (a0 a1 a2 b0 b1 b2 c0 c1 c2 r q : Nat) (s : Int) (hpre : 0 < n ∧ n ≤ 700000000000) : MCalls Tryz.prog 30 ([.own 0 0, .agg [.int .i64 4, .flt a0, .flt a1, .flt a2, .flt b0, .flt b1, .flt b2, .flt c0, .flt c1, .flt c2, .flt r, .flt q, .int .i64 s]]) [.row [.own 0 0, .os 1 1 0 n, .bool bad], .bts n P] (.tup []) [.row [.own 0 0, .os 2 1 0 (n + (fS4 a0 a1 a2 b0 b1 b2 c0 c1 c2 r q).size), .bool (fB4 bad a0 a1 a2 b0 b1 b2 c0 c1 c2 r q)], .gone, .bts (n + (fS4 a0 a1 a2 b0 b1 b2 c0 c1 c2 r q).size) (catB n P (fS4 a0 a1 a2 b0 b1 b2 c0 c1 c2 r q))] := by
  refine mcallsF_of (inl := hasI (P := Tryz.prog) [⟨81, Tryz.f81, Tryz.func81, by kernel_rfl⟩, ⟨82, Tryz.f82, Tryz.func82, by kernel_rfl⟩] [wstr_m, pvec_m, pnum_m]) (base [] [⟨81, Tryz.f81, Tryz.func81, by kernel_rfl⟩, ⟨82, Tryz.f82, Tryz.func82, by kernel_rfl⟩] [wstr_m, pvec_m, pnum_m]) 4 pform4_f (And.intro (by kernel_rfl) ?_)
  have h0 := nm_sz r
  have h1 := vc_sz a0 a1 a2
  have h2 := vc_sz b0 b1 b2
  have z_a0 := nm_sz a0
  have z_a1 := nm_sz a1
  have z_a2 := nm_sz a2
  have z_b0 := nm_sz b0
  have z_b1 := nm_sz b1
  have z_b2 := nm_sz b2
  have z_r := nm_sz r
  repeat' (first | refine And.intro ?_ ?_ | (with_reducible exact ff_elim) | (with_reducible exact tf_elim) | refine' rho_mk [_] ?_ | refine num_lit 0 (by decide) ?_ | refine num_lit 1 (by decide) ?_ | refine num_lit 2 (by decide) ?_ | refine num_lit 3 (by decide) ?_ | refine num_lit 4 (by decide) ?_ | refine num_lit 5 (by decide) ?_ | refine num_lit 6 (by decide) ?_ | refine num_lit 7 (by decide) ?_ | refine num_lit 8 (by decide) ?_ | (intro h; exact absurd h (by decide)) | refine Or.inl ⟨4, ?_⟩ | refine num_elim ?_ | intro _ | (with_reducible rfl) | ((with_reducible refine lk_t ?_); exact rfl) | ((with_reducible refine pf_t ?_); exact rfl) | refine tell ?_ | exact True.intro | (refine IsT.of ?_; kernel_rfl))
  all_goals (try unfold fS4)
  all_goals (try unfold fB4)
  all_goals (try refine Tell.mk ?_)
  all_goals first | with_reducible rfl | with_reducible assumption | (with_reducible refine gb_t ?_; with_reducible assumption) | (with_reducible refine gb_f ?_; with_reducible assumption) | ((with_reducible refine ks_t ?_); rfl) | ((with_reducible refine okF_t ?_); kernel_rfl) | (show 0 < _; omega) | skip
  all_goals (try dsimp only at *)
  all_goals (try simp only [nm_def, vc_def, nz_def, k_ball_def, k_block_def, k_tri_def, k_plate_def, k_tube_def, k_ring_def, k_radius_def, k_to_def, k_comma_def, k_up_def, k_along_def] at *)
  all_goals (try simp only [catB_app, ByteArray.size_append, ByteArray.append_assoc, Nat.add_assoc, Bool.or_assoc, Bool.or_true, k_ball_sz, k_block_sz, k_tri_sz, k_plate_sz, k_tube_sz, k_ring_sz, k_radius_sz, k_to_sz, k_comma_sz, k_up_sz, k_along_sz] at *)
  all_goals first | with_reducible rfl | rfl | omega | (show 0 < _; omega) | skip
  all_goals first | exact (congrFun (ch2 (by simp only [ByteArray.size_append, Nat.add_assoc, k_ball_sz, k_block_sz, k_tri_sz, k_plate_sz, k_tube_sz, k_ring_sz, k_radius_sz, k_to_sz, k_comma_sz, k_up_sz, k_along_sz])) _).symm | exact (congrFun (ch3 (by simp only [ByteArray.size_append, Nat.add_assoc, k_ball_sz, k_block_sz, k_tri_sz, k_plate_sz, k_tube_sz, k_ring_sz, k_radius_sz, k_to_sz, k_comma_sz, k_up_sz, k_along_sz]) (by simp only [ByteArray.size_append, Nat.add_assoc, k_ball_sz, k_block_sz, k_tri_sz, k_plate_sz, k_tube_sz, k_ring_sz, k_radius_sz, k_to_sz, k_comma_sz, k_up_sz, k_along_sz])) _).symm | exact (congrFun (ch4 (by simp only [ByteArray.size_append, Nat.add_assoc, k_ball_sz, k_block_sz, k_tri_sz, k_plate_sz, k_tube_sz, k_ring_sz, k_radius_sz, k_to_sz, k_comma_sz, k_up_sz, k_along_sz]) (by simp only [ByteArray.size_append, Nat.add_assoc, k_ball_sz, k_block_sz, k_tri_sz, k_plate_sz, k_tube_sz, k_ring_sz, k_radius_sz, k_to_sz, k_comma_sz, k_up_sz, k_along_sz]) (by simp only [ByteArray.size_append, Nat.add_assoc, k_ball_sz, k_block_sz, k_tri_sz, k_plate_sz, k_tube_sz, k_ring_sz, k_radius_sz, k_to_sz, k_comma_sz, k_up_sz, k_along_sz])) _).symm | exact (congrFun (ch5 (by simp only [ByteArray.size_append, Nat.add_assoc, k_ball_sz, k_block_sz, k_tri_sz, k_plate_sz, k_tube_sz, k_ring_sz, k_radius_sz, k_to_sz, k_comma_sz, k_up_sz, k_along_sz]) (by simp only [ByteArray.size_append, Nat.add_assoc, k_ball_sz, k_block_sz, k_tri_sz, k_plate_sz, k_tube_sz, k_ring_sz, k_radius_sz, k_to_sz, k_comma_sz, k_up_sz, k_along_sz]) (by simp only [ByteArray.size_append, Nat.add_assoc, k_ball_sz, k_block_sz, k_tri_sz, k_plate_sz, k_tube_sz, k_ring_sz, k_radius_sz, k_to_sz, k_comma_sz, k_up_sz, k_along_sz]) (by simp only [ByteArray.size_append, Nat.add_assoc, k_ball_sz, k_block_sz, k_tri_sz, k_plate_sz, k_tube_sz, k_ring_sz, k_radius_sz, k_to_sz, k_comma_sz, k_up_sz, k_along_sz])) _).symm | exact (congrFun (ch6 (by simp only [ByteArray.size_append, Nat.add_assoc, k_ball_sz, k_block_sz, k_tri_sz, k_plate_sz, k_tube_sz, k_ring_sz, k_radius_sz, k_to_sz, k_comma_sz, k_up_sz, k_along_sz]) (by simp only [ByteArray.size_append, Nat.add_assoc, k_ball_sz, k_block_sz, k_tri_sz, k_plate_sz, k_tube_sz, k_ring_sz, k_radius_sz, k_to_sz, k_comma_sz, k_up_sz, k_along_sz]) (by simp only [ByteArray.size_append, Nat.add_assoc, k_ball_sz, k_block_sz, k_tri_sz, k_plate_sz, k_tube_sz, k_ring_sz, k_radius_sz, k_to_sz, k_comma_sz, k_up_sz, k_along_sz]) (by simp only [ByteArray.size_append, Nat.add_assoc, k_ball_sz, k_block_sz, k_tri_sz, k_plate_sz, k_tube_sz, k_ring_sz, k_radius_sz, k_to_sz, k_comma_sz, k_up_sz, k_along_sz]) (by simp only [ByteArray.size_append, Nat.add_assoc, k_ball_sz, k_block_sz, k_tri_sz, k_plate_sz, k_tube_sz, k_ring_sz, k_radius_sz, k_to_sz, k_comma_sz, k_up_sz, k_along_sz])) _).symm | exact (congrFun (ch7 (by simp only [ByteArray.size_append, Nat.add_assoc, k_ball_sz, k_block_sz, k_tri_sz, k_plate_sz, k_tube_sz, k_ring_sz, k_radius_sz, k_to_sz, k_comma_sz, k_up_sz, k_along_sz]) (by simp only [ByteArray.size_append, Nat.add_assoc, k_ball_sz, k_block_sz, k_tri_sz, k_plate_sz, k_tube_sz, k_ring_sz, k_radius_sz, k_to_sz, k_comma_sz, k_up_sz, k_along_sz]) (by simp only [ByteArray.size_append, Nat.add_assoc, k_ball_sz, k_block_sz, k_tri_sz, k_plate_sz, k_tube_sz, k_ring_sz, k_radius_sz, k_to_sz, k_comma_sz, k_up_sz, k_along_sz]) (by simp only [ByteArray.size_append, Nat.add_assoc, k_ball_sz, k_block_sz, k_tri_sz, k_plate_sz, k_tube_sz, k_ring_sz, k_radius_sz, k_to_sz, k_comma_sz, k_up_sz, k_along_sz]) (by simp only [ByteArray.size_append, Nat.add_assoc, k_ball_sz, k_block_sz, k_tri_sz, k_plate_sz, k_tube_sz, k_ring_sz, k_radius_sz, k_to_sz, k_comma_sz, k_up_sz, k_along_sz]) (by simp only [ByteArray.size_append, Nat.add_assoc, k_ball_sz, k_block_sz, k_tri_sz, k_plate_sz, k_tube_sz, k_ring_sz, k_radius_sz, k_to_sz, k_comma_sz, k_up_sz, k_along_sz])) _).symm | trace_state
def pform4_p (n : Nat) (P : Nat → Int) (bad : Bool) (a0 a1 a2 b0 b1 b2 c0 c1 c2 r q : Nat) (s : Int) : Prop := 0 < n ∧ n ≤ 700000000000
def pform4_r (n : Nat) (P : Nat → Int) (bad : Bool) (a0 a1 a2 b0 b1 b2 c0 c1 c2 r q : Nat) (s : Int) : AV := .tup []
def pform4_rows (n : Nat) (P : Nat → Int) (bad : Bool) (a0 a1 a2 b0 b1 b2 c0 c1 c2 r q : Nat) (s : Int) : List OB := [.row [.own 0 0, .os 1 1 0 n, .bool bad], .bts n P]
def pform4_rows2 (n : Nat) (P : Nat → Int) (bad : Bool) (a0 a1 a2 b0 b1 b2 c0 c1 c2 r q : Nat) (s : Int) : List OB := [.row [.own 0 0, .os 2 1 0 (n + (fS4 a0 a1 a2 b0 b1 b2 c0 c1 c2 r q).size), .bool (fB4 bad a0 a1 a2 b0 b1 b2 c0 c1 c2 r q)], .gone, .bts (n + (fS4 a0 a1 a2 b0 b1 b2 c0 c1 c2 r q).size) (catB n P (fS4 a0 a1 a2 b0 b1 b2 c0 c1 c2 r q))]
def pform4_m : MCon Tryz.prog := ⟨30, fun args own => match args with | [.own k0_ 0, .agg [.int .i64 4, .flt a0, .flt a1, .flt a2, .flt b0, .flt b1, .flt b2, .flt c0, .flt c1, .flt c2, .flt r, .flt q, .int .i64 s]] => (match own k0_ with | .row [.own k0_ 0, .os k1_ 1 0 n, .bool bad] => (match own k1_ with | .bts n_ P => .ok [k0_, k1_] ([.own 0 0, .agg [.int .i64 4, .flt a0, .flt a1, .flt a2, .flt b0, .flt b1, .flt b2, .flt c0, .flt c1, .flt c2, .flt r, .flt q, .int .i64 s]]) (pform4_rows n P bad a0 a1 a2 b0 b1 b2 c0 c1 c2 r q s) (some (n_ = n ∧ pform4_p n P bad a0 a1 a2 b0 b1 b2 c0 c1 c2 r q s)) (pform4_r n P bad a0 a1 a2 b0 b1 b2 c0 c1 c2 r q s) (pform4_rows2 n P bad a0 a1 a2 b0 b1 b2 c0 c1 c2 r q s) | _ => .no) | _ => .no) | _ => .no, by
  intro args own ks cargs rows p r rows2 h hp
  split at h
  · split at h
    · split at h
      · cases h; obtain ⟨rfl, hq⟩ := hp; exact pform4_a _ _ _ _ _ _ _ _ _ _ _ _ _ _ _ hq
      · cases h
    · cases h
  · cases h⟩
@[irreducible] def fS5 (a0 a1 a2 b0 b1 b2 c0 c1 c2 r q : Nat) : ByteArray := k_tube ++ vcS a0 a1 a2 ++ k_along ++ vcS b0 b1 b2 ++ k_radius ++ nmS r
theorem fS5_sz (a0 a1 a2 b0 b1 b2 c0 c1 c2 r q : Nat) : (fS5 a0 a1 a2 b0 b1 b2 c0 c1 c2 r q).size ≤ 400 := by
  have h0 := nm_sz r
  have h1 := vc_sz a0 a1 a2
  have h2 := vc_sz b0 b1 b2
  unfold fS5
  simp only [ByteArray.size_append, k_ball_sz, k_block_sz, k_tri_sz, k_plate_sz, k_tube_sz, k_ring_sz, k_radius_sz, k_to_sz, k_comma_sz, k_up_sz, k_along_sz]
  omega
@[irreducible] def fB5 (bad : Bool) (a0 a1 a2 b0 b1 b2 c0 c1 c2 r q : Nat) : Bool := bad || !thB a0 || !thB a1 || !thB a2 || !thB b0 || !thB b1 || !thB b2 || !thB r || nzB c0 c1 c2 || nzB q 0 0
theorem pform5_f : FnOk Tryz.prog 30 Tryz.f30 := ⟨Tryz.func30, by kernel_rfl⟩
theorem pform5_a (n : Nat) (P : Nat → Int) (bad : Bool) (a0 a1 a2 b0 b1 b2 c0 c1 c2 r q : Nat) (s : Int) (hpre : 0 < n ∧ n ≤ 700000000000) : MCalls Tryz.prog 30 ([.own 0 0, .agg [.int .i64 5, .flt a0, .flt a1, .flt a2, .flt b0, .flt b1, .flt b2, .flt c0, .flt c1, .flt c2, .flt r, .flt q, .int .i64 s]]) [.row [.own 0 0, .os 1 1 0 n, .bool bad], .bts n P] (.tup []) [.row [.own 0 0, .os 2 1 0 (n + (fS5 a0 a1 a2 b0 b1 b2 c0 c1 c2 r q).size), .bool (fB5 bad a0 a1 a2 b0 b1 b2 c0 c1 c2 r q)], .gone, .bts (n + (fS5 a0 a1 a2 b0 b1 b2 c0 c1 c2 r q).size) (catB n P (fS5 a0 a1 a2 b0 b1 b2 c0 c1 c2 r q))] := by
  refine mcallsF_of (inl := hasI (P := Tryz.prog) [⟨81, Tryz.f81, Tryz.func81, by kernel_rfl⟩, ⟨82, Tryz.f82, Tryz.func82, by kernel_rfl⟩] [wstr_m, pvec_m, pnum_m]) (base [] [⟨81, Tryz.f81, Tryz.func81, by kernel_rfl⟩, ⟨82, Tryz.f82, Tryz.func82, by kernel_rfl⟩] [wstr_m, pvec_m, pnum_m]) 4 pform5_f (And.intro (by kernel_rfl) ?_)
  have h0 := nm_sz r
  have h1 := vc_sz a0 a1 a2
  have h2 := vc_sz b0 b1 b2
  have z_a0 := nm_sz a0
  have z_a1 := nm_sz a1
  have z_a2 := nm_sz a2
  have z_b0 := nm_sz b0
  have z_b1 := nm_sz b1
  have z_b2 := nm_sz b2
  have z_r := nm_sz r
  repeat' (first | refine And.intro ?_ ?_ | (with_reducible exact ff_elim) | (with_reducible exact tf_elim) | refine' rho_mk [_] ?_ | refine num_lit 0 (by decide) ?_ | refine num_lit 1 (by decide) ?_ | refine num_lit 2 (by decide) ?_ | refine num_lit 3 (by decide) ?_ | refine num_lit 4 (by decide) ?_ | refine num_lit 5 (by decide) ?_ | refine num_lit 6 (by decide) ?_ | refine num_lit 7 (by decide) ?_ | refine num_lit 8 (by decide) ?_ | (intro h; exact absurd h (by decide)) | refine Or.inl ⟨4, ?_⟩ | refine num_elim ?_ | intro _ | (with_reducible rfl) | ((with_reducible refine lk_t ?_); exact rfl) | ((with_reducible refine pf_t ?_); exact rfl) | refine tell ?_ | exact True.intro | (refine IsT.of ?_; kernel_rfl))
  all_goals (try unfold fS5)
  all_goals (try unfold fB5)
  all_goals (try refine Tell.mk ?_)
  all_goals first | with_reducible rfl | with_reducible assumption | (with_reducible refine gb_t ?_; with_reducible assumption) | (with_reducible refine gb_f ?_; with_reducible assumption) | ((with_reducible refine ks_t ?_); rfl) | ((with_reducible refine okF_t ?_); kernel_rfl) | (show 0 < _; omega) | skip
  all_goals (try dsimp only at *)
  all_goals (try simp only [nm_def, vc_def, nz_def, k_ball_def, k_block_def, k_tri_def, k_plate_def, k_tube_def, k_ring_def, k_radius_def, k_to_def, k_comma_def, k_up_def, k_along_def] at *)
  all_goals (try simp only [catB_app, ByteArray.size_append, ByteArray.append_assoc, Nat.add_assoc, Bool.or_assoc, Bool.or_true, k_ball_sz, k_block_sz, k_tri_sz, k_plate_sz, k_tube_sz, k_ring_sz, k_radius_sz, k_to_sz, k_comma_sz, k_up_sz, k_along_sz] at *)
  all_goals first | with_reducible rfl | rfl | omega | (show 0 < _; omega) | skip
  all_goals first | exact (congrFun (ch2 (by simp only [ByteArray.size_append, Nat.add_assoc, k_ball_sz, k_block_sz, k_tri_sz, k_plate_sz, k_tube_sz, k_ring_sz, k_radius_sz, k_to_sz, k_comma_sz, k_up_sz, k_along_sz])) _).symm | exact (congrFun (ch3 (by simp only [ByteArray.size_append, Nat.add_assoc, k_ball_sz, k_block_sz, k_tri_sz, k_plate_sz, k_tube_sz, k_ring_sz, k_radius_sz, k_to_sz, k_comma_sz, k_up_sz, k_along_sz]) (by simp only [ByteArray.size_append, Nat.add_assoc, k_ball_sz, k_block_sz, k_tri_sz, k_plate_sz, k_tube_sz, k_ring_sz, k_radius_sz, k_to_sz, k_comma_sz, k_up_sz, k_along_sz])) _).symm | exact (congrFun (ch4 (by simp only [ByteArray.size_append, Nat.add_assoc, k_ball_sz, k_block_sz, k_tri_sz, k_plate_sz, k_tube_sz, k_ring_sz, k_radius_sz, k_to_sz, k_comma_sz, k_up_sz, k_along_sz]) (by simp only [ByteArray.size_append, Nat.add_assoc, k_ball_sz, k_block_sz, k_tri_sz, k_plate_sz, k_tube_sz, k_ring_sz, k_radius_sz, k_to_sz, k_comma_sz, k_up_sz, k_along_sz]) (by simp only [ByteArray.size_append, Nat.add_assoc, k_ball_sz, k_block_sz, k_tri_sz, k_plate_sz, k_tube_sz, k_ring_sz, k_radius_sz, k_to_sz, k_comma_sz, k_up_sz, k_along_sz])) _).symm | exact (congrFun (ch5 (by simp only [ByteArray.size_append, Nat.add_assoc, k_ball_sz, k_block_sz, k_tri_sz, k_plate_sz, k_tube_sz, k_ring_sz, k_radius_sz, k_to_sz, k_comma_sz, k_up_sz, k_along_sz]) (by simp only [ByteArray.size_append, Nat.add_assoc, k_ball_sz, k_block_sz, k_tri_sz, k_plate_sz, k_tube_sz, k_ring_sz, k_radius_sz, k_to_sz, k_comma_sz, k_up_sz, k_along_sz]) (by simp only [ByteArray.size_append, Nat.add_assoc, k_ball_sz, k_block_sz, k_tri_sz, k_plate_sz, k_tube_sz, k_ring_sz, k_radius_sz, k_to_sz, k_comma_sz, k_up_sz, k_along_sz]) (by simp only [ByteArray.size_append, Nat.add_assoc, k_ball_sz, k_block_sz, k_tri_sz, k_plate_sz, k_tube_sz, k_ring_sz, k_radius_sz, k_to_sz, k_comma_sz, k_up_sz, k_along_sz])) _).symm | exact (congrFun (ch6 (by simp only [ByteArray.size_append, Nat.add_assoc, k_ball_sz, k_block_sz, k_tri_sz, k_plate_sz, k_tube_sz, k_ring_sz, k_radius_sz, k_to_sz, k_comma_sz, k_up_sz, k_along_sz]) (by simp only [ByteArray.size_append, Nat.add_assoc, k_ball_sz, k_block_sz, k_tri_sz, k_plate_sz, k_tube_sz, k_ring_sz, k_radius_sz, k_to_sz, k_comma_sz, k_up_sz, k_along_sz]) (by simp only [ByteArray.size_append, Nat.add_assoc, k_ball_sz, k_block_sz, k_tri_sz, k_plate_sz, k_tube_sz, k_ring_sz, k_radius_sz, k_to_sz, k_comma_sz, k_up_sz, k_along_sz]) (by simp only [ByteArray.size_append, Nat.add_assoc, k_ball_sz, k_block_sz, k_tri_sz, k_plate_sz, k_tube_sz, k_ring_sz, k_radius_sz, k_to_sz, k_comma_sz, k_up_sz, k_along_sz]) (by simp only [ByteArray.size_append, Nat.add_assoc, k_ball_sz, k_block_sz, k_tri_sz, k_plate_sz, k_tube_sz, k_ring_sz, k_radius_sz, k_to_sz, k_comma_sz, k_up_sz, k_along_sz])) _).symm | exact (congrFun (ch7 (by simp only [ByteArray.size_append, Nat.add_assoc, k_ball_sz, k_block_sz, k_tri_sz, k_plate_sz, k_tube_sz, k_ring_sz, k_radius_sz, k_to_sz, k_comma_sz, k_up_sz, k_along_sz]) (by simp only [ByteArray.size_append, Nat.add_assoc, k_ball_sz, k_block_sz, k_tri_sz, k_plate_sz, k_tube_sz, k_ring_sz, k_radius_sz, k_to_sz, k_comma_sz, k_up_sz, k_along_sz]) (by simp only [ByteArray.size_append, Nat.add_assoc, k_ball_sz, k_block_sz, k_tri_sz, k_plate_sz, k_tube_sz, k_ring_sz, k_radius_sz, k_to_sz, k_comma_sz, k_up_sz, k_along_sz]) (by simp only [ByteArray.size_append, Nat.add_assoc, k_ball_sz, k_block_sz, k_tri_sz, k_plate_sz, k_tube_sz, k_ring_sz, k_radius_sz, k_to_sz, k_comma_sz, k_up_sz, k_along_sz]) (by simp only [ByteArray.size_append, Nat.add_assoc, k_ball_sz, k_block_sz, k_tri_sz, k_plate_sz, k_tube_sz, k_ring_sz, k_radius_sz, k_to_sz, k_comma_sz, k_up_sz, k_along_sz]) (by simp only [ByteArray.size_append, Nat.add_assoc, k_ball_sz, k_block_sz, k_tri_sz, k_plate_sz, k_tube_sz, k_ring_sz, k_radius_sz, k_to_sz, k_comma_sz, k_up_sz, k_along_sz])) _).symm | trace_state
def pform5_p (n : Nat) (P : Nat → Int) (bad : Bool) (a0 a1 a2 b0 b1 b2 c0 c1 c2 r q : Nat) (s : Int) : Prop := 0 < n ∧ n ≤ 700000000000
def pform5_r (n : Nat) (P : Nat → Int) (bad : Bool) (a0 a1 a2 b0 b1 b2 c0 c1 c2 r q : Nat) (s : Int) : AV := .tup []
def pform5_rows (n : Nat) (P : Nat → Int) (bad : Bool) (a0 a1 a2 b0 b1 b2 c0 c1 c2 r q : Nat) (s : Int) : List OB := [.row [.own 0 0, .os 1 1 0 n, .bool bad], .bts n P]
def pform5_rows2 (n : Nat) (P : Nat → Int) (bad : Bool) (a0 a1 a2 b0 b1 b2 c0 c1 c2 r q : Nat) (s : Int) : List OB := [.row [.own 0 0, .os 2 1 0 (n + (fS5 a0 a1 a2 b0 b1 b2 c0 c1 c2 r q).size), .bool (fB5 bad a0 a1 a2 b0 b1 b2 c0 c1 c2 r q)], .gone, .bts (n + (fS5 a0 a1 a2 b0 b1 b2 c0 c1 c2 r q).size) (catB n P (fS5 a0 a1 a2 b0 b1 b2 c0 c1 c2 r q))]
def pform5_m : MCon Tryz.prog := ⟨30, fun args own => match args with | [.own k0_ 0, .agg [.int .i64 5, .flt a0, .flt a1, .flt a2, .flt b0, .flt b1, .flt b2, .flt c0, .flt c1, .flt c2, .flt r, .flt q, .int .i64 s]] => (match own k0_ with | .row [.own k0_ 0, .os k1_ 1 0 n, .bool bad] => (match own k1_ with | .bts n_ P => .ok [k0_, k1_] ([.own 0 0, .agg [.int .i64 5, .flt a0, .flt a1, .flt a2, .flt b0, .flt b1, .flt b2, .flt c0, .flt c1, .flt c2, .flt r, .flt q, .int .i64 s]]) (pform5_rows n P bad a0 a1 a2 b0 b1 b2 c0 c1 c2 r q s) (some (n_ = n ∧ pform5_p n P bad a0 a1 a2 b0 b1 b2 c0 c1 c2 r q s)) (pform5_r n P bad a0 a1 a2 b0 b1 b2 c0 c1 c2 r q s) (pform5_rows2 n P bad a0 a1 a2 b0 b1 b2 c0 c1 c2 r q s) | _ => .no) | _ => .no) | _ => .no, by
  intro args own ks cargs rows p r rows2 h hp
  split at h
  · split at h
    · split at h
      · cases h; obtain ⟨rfl, hq⟩ := hp; exact pform5_a _ _ _ _ _ _ _ _ _ _ _ _ _ _ _ hq
      · cases h
    · cases h
  · cases h⟩
@[irreducible] def fS6 (a0 a1 a2 b0 b1 b2 c0 c1 c2 r q : Nat) : ByteArray := k_ring ++ vcS a0 a1 a2 ++ k_up ++ vcS b0 b1 b2 ++ k_radius ++ nmS r ++ nmS q
theorem fS6_sz (a0 a1 a2 b0 b1 b2 c0 c1 c2 r q : Nat) : (fS6 a0 a1 a2 b0 b1 b2 c0 c1 c2 r q).size ≤ 400 := by
  have h0 := nm_sz q
  have h1 := nm_sz r
  have h2 := vc_sz a0 a1 a2
  have h3 := vc_sz b0 b1 b2
  unfold fS6
  simp only [ByteArray.size_append, k_ball_sz, k_block_sz, k_tri_sz, k_plate_sz, k_tube_sz, k_ring_sz, k_radius_sz, k_to_sz, k_comma_sz, k_up_sz, k_along_sz]
  omega
@[irreducible] def fB6 (bad : Bool) (a0 a1 a2 b0 b1 b2 c0 c1 c2 r q : Nat) : Bool := bad || !thB a0 || !thB a1 || !thB a2 || !thB b0 || !thB b1 || !thB b2 || !thB r || !thB q || nzB c0 c1 c2
theorem pform6_f : FnOk Tryz.prog 30 Tryz.f30 := ⟨Tryz.func30, by kernel_rfl⟩
theorem pform6_a (n : Nat) (P : Nat → Int) (bad : Bool) (a0 a1 a2 b0 b1 b2 c0 c1 c2 r q : Nat) (s : Int) (hpre : 0 < n ∧ n ≤ 700000000000) : MCalls Tryz.prog 30 ([.own 0 0, .agg [.int .i64 6, .flt a0, .flt a1, .flt a2, .flt b0, .flt b1, .flt b2, .flt c0, .flt c1, .flt c2, .flt r, .flt q, .int .i64 s]]) [.row [.own 0 0, .os 1 1 0 n, .bool bad], .bts n P] (.tup []) [.row [.own 0 0, .os 2 1 0 (n + (fS6 a0 a1 a2 b0 b1 b2 c0 c1 c2 r q).size), .bool (fB6 bad a0 a1 a2 b0 b1 b2 c0 c1 c2 r q)], .gone, .bts (n + (fS6 a0 a1 a2 b0 b1 b2 c0 c1 c2 r q).size) (catB n P (fS6 a0 a1 a2 b0 b1 b2 c0 c1 c2 r q))] := by
  refine mcallsF_of (inl := hasI (P := Tryz.prog) [⟨81, Tryz.f81, Tryz.func81, by kernel_rfl⟩, ⟨82, Tryz.f82, Tryz.func82, by kernel_rfl⟩] [wstr_m, pvec_m, pnum_m]) (base [] [⟨81, Tryz.f81, Tryz.func81, by kernel_rfl⟩, ⟨82, Tryz.f82, Tryz.func82, by kernel_rfl⟩] [wstr_m, pvec_m, pnum_m]) 4 pform6_f (And.intro (by kernel_rfl) ?_)
  have h0 := nm_sz q
  have h1 := nm_sz r
  have h2 := vc_sz a0 a1 a2
  have h3 := vc_sz b0 b1 b2
  have z_a0 := nm_sz a0
  have z_a1 := nm_sz a1
  have z_a2 := nm_sz a2
  have z_b0 := nm_sz b0
  have z_b1 := nm_sz b1
  have z_b2 := nm_sz b2
  have z_q := nm_sz q
  have z_r := nm_sz r
  repeat' (first | refine And.intro ?_ ?_ | (with_reducible exact ff_elim) | (with_reducible exact tf_elim) | refine' rho_mk [_] ?_ | refine num_lit 0 (by decide) ?_ | refine num_lit 1 (by decide) ?_ | refine num_lit 2 (by decide) ?_ | refine num_lit 3 (by decide) ?_ | refine num_lit 4 (by decide) ?_ | refine num_lit 5 (by decide) ?_ | refine num_lit 6 (by decide) ?_ | refine num_lit 7 (by decide) ?_ | refine num_lit 8 (by decide) ?_ | (intro h; exact absurd h (by decide)) | refine Or.inl ⟨4, ?_⟩ | refine num_elim ?_ | intro _ | (with_reducible rfl) | ((with_reducible refine lk_t ?_); exact rfl) | ((with_reducible refine pf_t ?_); exact rfl) | refine tell ?_ | exact True.intro | (refine IsT.of ?_; kernel_rfl))
  all_goals (try unfold fS6)
  all_goals (try unfold fB6)
  all_goals (try refine Tell.mk ?_)
  all_goals first | with_reducible rfl | with_reducible assumption | (with_reducible refine gb_t ?_; with_reducible assumption) | (with_reducible refine gb_f ?_; with_reducible assumption) | ((with_reducible refine ks_t ?_); rfl) | ((with_reducible refine okF_t ?_); kernel_rfl) | (show 0 < _; omega) | skip
  all_goals (try dsimp only at *)
  all_goals (try simp only [nm_def, vc_def, nz_def, k_ball_def, k_block_def, k_tri_def, k_plate_def, k_tube_def, k_ring_def, k_radius_def, k_to_def, k_comma_def, k_up_def, k_along_def] at *)
  all_goals (try simp only [catB_app, ByteArray.size_append, ByteArray.append_assoc, Nat.add_assoc, Bool.or_assoc, Bool.or_true, k_ball_sz, k_block_sz, k_tri_sz, k_plate_sz, k_tube_sz, k_ring_sz, k_radius_sz, k_to_sz, k_comma_sz, k_up_sz, k_along_sz] at *)
  all_goals first | with_reducible rfl | rfl | omega | (show 0 < _; omega) | skip
  all_goals first | exact (congrFun (ch2 (by simp only [ByteArray.size_append, Nat.add_assoc, k_ball_sz, k_block_sz, k_tri_sz, k_plate_sz, k_tube_sz, k_ring_sz, k_radius_sz, k_to_sz, k_comma_sz, k_up_sz, k_along_sz])) _).symm | exact (congrFun (ch3 (by simp only [ByteArray.size_append, Nat.add_assoc, k_ball_sz, k_block_sz, k_tri_sz, k_plate_sz, k_tube_sz, k_ring_sz, k_radius_sz, k_to_sz, k_comma_sz, k_up_sz, k_along_sz]) (by simp only [ByteArray.size_append, Nat.add_assoc, k_ball_sz, k_block_sz, k_tri_sz, k_plate_sz, k_tube_sz, k_ring_sz, k_radius_sz, k_to_sz, k_comma_sz, k_up_sz, k_along_sz])) _).symm | exact (congrFun (ch4 (by simp only [ByteArray.size_append, Nat.add_assoc, k_ball_sz, k_block_sz, k_tri_sz, k_plate_sz, k_tube_sz, k_ring_sz, k_radius_sz, k_to_sz, k_comma_sz, k_up_sz, k_along_sz]) (by simp only [ByteArray.size_append, Nat.add_assoc, k_ball_sz, k_block_sz, k_tri_sz, k_plate_sz, k_tube_sz, k_ring_sz, k_radius_sz, k_to_sz, k_comma_sz, k_up_sz, k_along_sz]) (by simp only [ByteArray.size_append, Nat.add_assoc, k_ball_sz, k_block_sz, k_tri_sz, k_plate_sz, k_tube_sz, k_ring_sz, k_radius_sz, k_to_sz, k_comma_sz, k_up_sz, k_along_sz])) _).symm | exact (congrFun (ch5 (by simp only [ByteArray.size_append, Nat.add_assoc, k_ball_sz, k_block_sz, k_tri_sz, k_plate_sz, k_tube_sz, k_ring_sz, k_radius_sz, k_to_sz, k_comma_sz, k_up_sz, k_along_sz]) (by simp only [ByteArray.size_append, Nat.add_assoc, k_ball_sz, k_block_sz, k_tri_sz, k_plate_sz, k_tube_sz, k_ring_sz, k_radius_sz, k_to_sz, k_comma_sz, k_up_sz, k_along_sz]) (by simp only [ByteArray.size_append, Nat.add_assoc, k_ball_sz, k_block_sz, k_tri_sz, k_plate_sz, k_tube_sz, k_ring_sz, k_radius_sz, k_to_sz, k_comma_sz, k_up_sz, k_along_sz]) (by simp only [ByteArray.size_append, Nat.add_assoc, k_ball_sz, k_block_sz, k_tri_sz, k_plate_sz, k_tube_sz, k_ring_sz, k_radius_sz, k_to_sz, k_comma_sz, k_up_sz, k_along_sz])) _).symm | exact (congrFun (ch6 (by simp only [ByteArray.size_append, Nat.add_assoc, k_ball_sz, k_block_sz, k_tri_sz, k_plate_sz, k_tube_sz, k_ring_sz, k_radius_sz, k_to_sz, k_comma_sz, k_up_sz, k_along_sz]) (by simp only [ByteArray.size_append, Nat.add_assoc, k_ball_sz, k_block_sz, k_tri_sz, k_plate_sz, k_tube_sz, k_ring_sz, k_radius_sz, k_to_sz, k_comma_sz, k_up_sz, k_along_sz]) (by simp only [ByteArray.size_append, Nat.add_assoc, k_ball_sz, k_block_sz, k_tri_sz, k_plate_sz, k_tube_sz, k_ring_sz, k_radius_sz, k_to_sz, k_comma_sz, k_up_sz, k_along_sz]) (by simp only [ByteArray.size_append, Nat.add_assoc, k_ball_sz, k_block_sz, k_tri_sz, k_plate_sz, k_tube_sz, k_ring_sz, k_radius_sz, k_to_sz, k_comma_sz, k_up_sz, k_along_sz]) (by simp only [ByteArray.size_append, Nat.add_assoc, k_ball_sz, k_block_sz, k_tri_sz, k_plate_sz, k_tube_sz, k_ring_sz, k_radius_sz, k_to_sz, k_comma_sz, k_up_sz, k_along_sz])) _).symm | exact (congrFun (ch7 (by simp only [ByteArray.size_append, Nat.add_assoc, k_ball_sz, k_block_sz, k_tri_sz, k_plate_sz, k_tube_sz, k_ring_sz, k_radius_sz, k_to_sz, k_comma_sz, k_up_sz, k_along_sz]) (by simp only [ByteArray.size_append, Nat.add_assoc, k_ball_sz, k_block_sz, k_tri_sz, k_plate_sz, k_tube_sz, k_ring_sz, k_radius_sz, k_to_sz, k_comma_sz, k_up_sz, k_along_sz]) (by simp only [ByteArray.size_append, Nat.add_assoc, k_ball_sz, k_block_sz, k_tri_sz, k_plate_sz, k_tube_sz, k_ring_sz, k_radius_sz, k_to_sz, k_comma_sz, k_up_sz, k_along_sz]) (by simp only [ByteArray.size_append, Nat.add_assoc, k_ball_sz, k_block_sz, k_tri_sz, k_plate_sz, k_tube_sz, k_ring_sz, k_radius_sz, k_to_sz, k_comma_sz, k_up_sz, k_along_sz]) (by simp only [ByteArray.size_append, Nat.add_assoc, k_ball_sz, k_block_sz, k_tri_sz, k_plate_sz, k_tube_sz, k_ring_sz, k_radius_sz, k_to_sz, k_comma_sz, k_up_sz, k_along_sz]) (by simp only [ByteArray.size_append, Nat.add_assoc, k_ball_sz, k_block_sz, k_tri_sz, k_plate_sz, k_tube_sz, k_ring_sz, k_radius_sz, k_to_sz, k_comma_sz, k_up_sz, k_along_sz])) _).symm | trace_state
def pform6_p (n : Nat) (P : Nat → Int) (bad : Bool) (a0 a1 a2 b0 b1 b2 c0 c1 c2 r q : Nat) (s : Int) : Prop := 0 < n ∧ n ≤ 700000000000
def pform6_r (n : Nat) (P : Nat → Int) (bad : Bool) (a0 a1 a2 b0 b1 b2 c0 c1 c2 r q : Nat) (s : Int) : AV := .tup []
def pform6_rows (n : Nat) (P : Nat → Int) (bad : Bool) (a0 a1 a2 b0 b1 b2 c0 c1 c2 r q : Nat) (s : Int) : List OB := [.row [.own 0 0, .os 1 1 0 n, .bool bad], .bts n P]
def pform6_rows2 (n : Nat) (P : Nat → Int) (bad : Bool) (a0 a1 a2 b0 b1 b2 c0 c1 c2 r q : Nat) (s : Int) : List OB := [.row [.own 0 0, .os 2 1 0 (n + (fS6 a0 a1 a2 b0 b1 b2 c0 c1 c2 r q).size), .bool (fB6 bad a0 a1 a2 b0 b1 b2 c0 c1 c2 r q)], .gone, .bts (n + (fS6 a0 a1 a2 b0 b1 b2 c0 c1 c2 r q).size) (catB n P (fS6 a0 a1 a2 b0 b1 b2 c0 c1 c2 r q))]
def pform6_m : MCon Tryz.prog := ⟨30, fun args own => match args with | [.own k0_ 0, .agg [.int .i64 6, .flt a0, .flt a1, .flt a2, .flt b0, .flt b1, .flt b2, .flt c0, .flt c1, .flt c2, .flt r, .flt q, .int .i64 s]] => (match own k0_ with | .row [.own k0_ 0, .os k1_ 1 0 n, .bool bad] => (match own k1_ with | .bts n_ P => .ok [k0_, k1_] ([.own 0 0, .agg [.int .i64 6, .flt a0, .flt a1, .flt a2, .flt b0, .flt b1, .flt b2, .flt c0, .flt c1, .flt c2, .flt r, .flt q, .int .i64 s]]) (pform6_rows n P bad a0 a1 a2 b0 b1 b2 c0 c1 c2 r q s) (some (n_ = n ∧ pform6_p n P bad a0 a1 a2 b0 b1 b2 c0 c1 c2 r q s)) (pform6_r n P bad a0 a1 a2 b0 b1 b2 c0 c1 c2 r q s) (pform6_rows2 n P bad a0 a1 a2 b0 b1 b2 c0 c1 c2 r q s) | _ => .no) | _ => .no) | _ => .no, by
  intro args own ks cargs rows p r rows2 h hp
  split at h
  · split at h
    · split at h
      · cases h; obtain ⟨rfl, hq⟩ := hp; exact pform6_a _ _ _ _ _ _ _ _ _ _ _ _ _ _ _ hq
      · cases h
    · cases h
  · cases h⟩
end Go.Proofs.YtphdjmaebdmdmaaGreatDoor
/- Scenes as text: the printer's fields. -/
namespace Go.Proofs.YtphdjmaebdmdmaaGreatDoor
open Go.RowKit Ev
set_option linter.unusedVariables false
set_option linter.unusedSimpArgs false
set_option maxRecDepth 20000
set_option maxHeartbeats 8000000

@[irreducible] def k_side : ByteArray := ⟨#[32, 115, 105, 100, 101]⟩
theorem k_side_def : (⟨#[32, 115, 105, 100, 101]⟩ : ByteArray) = k_side := by unfold k_side; rfl
theorem k_side_sz : k_side.size = 5 := by unfold k_side; rfl
@[irreducible] def k_high : ByteArray := ⟨#[32, 104, 105, 103, 104]⟩
theorem k_high_def : (⟨#[32, 104, 105, 103, 104]⟩ : ByteArray) = k_high := by unfold k_high; rfl
theorem k_high_sz : k_high.size = 5 := by unfold k_high; rfl
/-- A field's sides. -/
@[irreducible] def fdS (W H : Int) : ByteArray := ⟨#[102, 105, 101, 108, 100, 32]⟩ ++ bz (itL W) ++ ⟨#[32]⟩ ++ bz (itL H) ++ ⟨#[32, 97, 116]⟩
theorem fd_def (W H : Int) : ⟨#[102, 105, 101, 108, 100, 32]⟩ ++ bz (itL W) ++ ⟨#[32]⟩ ++ bz (itL H) ++ ⟨#[32, 97, 116]⟩ = fdS W H := by unfold fdS; rfl
theorem fd_sz {W H : Int} (hW : In64 W) (hH : In64 H) : (fdS W H).size ≤ 52 := by
  have a := it_len (n := W) (in64_iff.1 hW)
  have b := it_len (n := H) (in64_iff.1 hH)
  unfold fdS
  simp only [ByteArray.size_append]
  show 6 + _ + 1 + _ + 3 ≤ _
  omega
/-- Heights. -/
def hiS (F : Nat → Int) : Nat → ByteArray
  | 0 => ⟨#[]⟩
  | i + 1 => hiS F i ++ nmS (milF (F i))
def hiB (F : Nat → Int) : Nat → Bool
  | 0 => false
  | i + 1 => hiB F i || !thB (milF (F i))
theorem hi_sz (F : Nat → Int) : ∀ i, (hiS F i).size ≤ 30 * i
  | 0 => Nat.le_refl _
  | i + 1 => by
    have := hi_sz F i
    have := nm_sz (milF (F i))
    show (hiS F i ++ nmS (milF (F i))).size ≤ _
    rw [ByteArray.size_append]; omega
structure FdI (m : Nat) where
  i : Nat
  hi : i ≤ m
@[irreducible] def fpS (W H : Int) (a0 a1 a2 sd : Nat) : ByteArray := fdS W H ++ (vcS a0 a1 a2 ++ (k_side ++ (nmS sd ++ k_high)))
@[irreducible] def fpB (bad : Bool) (a0 a1 a2 sd : Nat) : Bool := bad || (!thB a0 || (!thB a1 || (!thB a2 || !thB sd)))
theorem fp_sz {W H : Int} (hW : In64 W) (hH : In64 H) (a0 a1 a2 sd : Nat) : (fpS W H a0 a1 a2 sd).size ≤ 182 := by
  have := fd_sz hW hH
  have := vc_sz a0 a1 a2
  have := nm_sz sd
  unfold fpS
  simp only [ByteArray.size_append, k_side_sz, k_high_sz]
  omega
theorem fp0 (F : Nat → Int) (W H : Int) (a0 a1 a2 sd : Nat) : fpS W H a0 a1 a2 sd ++ hiS F 0 = fdS W H ++ (vcS a0 a1 a2 ++ (k_side ++ (nmS sd ++ k_high))) := by
  unfold fpS
  exact ByteArray.append_empty
theorem fpB0 (F : Nat → Int) (bad : Bool) (a0 a1 a2 sd : Nat) : (fpB bad a0 a1 a2 sd || hiB F 0) = (bad || (!thB a0 || (!thB a1 || (!thB a2 || !thB sd)))) := by
  unfold fpB
  exact Bool.or_false _
theorem hi_s (F : Nat → Int) (i : Nat) : hiS F (i + 1) = hiS F i ++ nmS (milF (F i)) := rfl
theorem hiB_s (F : Nat → Int) (i : Nat) : hiB F (i + 1) = (hiB F i || !thB (milF (F i))) := rfl
theorem mul1 (i : Nat) : mulN ((i : Int).toNat) 1 + 0 = i := rfl
theorem e6f : (⟨#[102, 105, 101, 108, 100, 32]⟩ : ByteArray).size = 6 := rfl
theorem e1s : (⟨#[32]⟩ : ByteArray).size = 1 := rfl
theorem e3a : (⟨#[32, 97, 116]⟩ : ByteArray).size = 3 := rfl
theorem ch2j {n k : Nat} {P : Nat → Int} {s1 s2 s3 : ByteArray} {j : Nat} (h : k = n + (s1.size + s2.size)) : catB n P (s1 ++ (s2 ++ s3)) j = catB k (catB n P (s1 ++ s2)) s3 j := by
  rw [← ByteArray.append_assoc, ch2 (s1 := s1 ++ s2) (by rw [h, ByteArray.size_append])]
theorem ch5j {n k1 k2 k3 k4 : Nat} {P : Nat → Int} {s1 s2 s3 s4 s5 : ByteArray} {j : Nat} (h1 : k1 = n + s1.size) (h2 : k2 = k1 + s2.size) (h3 : k3 = k2 + s3.size) (h4 : k4 = k3 + s4.size) : catB n P (s1 ++ (s2 ++ (s3 ++ (s4 ++ s5)))) j = catB k4 (catB k3 (catB k2 (catB k1 (catB n P s1) s2) s3) s4) s5 j := by
  rw [ch5 h1 h2 h3 h4]
theorem pfield_f : FnOk Tryz.prog 33 Tryz.f33 := ⟨Tryz.func33, by kernel_rfl⟩
theorem pfield_a (n : Nat) (P : Nat → Int) (bad : Bool) (W H : Int) (a0 a1 a2 sd : Nat) (m : Nat) (F : Nat → Int) (k : Int) (hpre : (0 < n ∧ n ≤ 700000000000) ∧ (In64 W ∧ In64 H ∧ In64 k) ∧ m ≤ 100) : MCalls Tryz.prog 33 ([.own 0 0, .agg [.int .i64 W, .int .i64 H, .flt a0, .flt a1, .flt a2, .flt sd, ints .i64 m F, .int .i64 k]]) [.row [.own 0 0, .os 1 1 0 n, .bool bad], .bts n P] (.tup []) [.row [.own 0 0, .os 2 1 0 (n + (fpS W H a0 a1 a2 sd ++ (hiS F m ++ skS k)).size), .bool (fpB bad a0 a1 a2 sd || hiB F m)], .gone, .bts (n + (fpS W H a0 a1 a2 sd ++ (hiS F m ++ skS k)).size) (catB n P (fpS W H a0 a1 a2 sd ++ (hiS F m ++ skS k)))] := by
  refine mcallsF_of (inl := hasI (P := Tryz.prog) [⟨29, Tryz.f29, Tryz.func29, by kernel_rfl⟩] [wstr_m, pvec_m, pnum_m, pskin_m]) (base [itoa_k] [⟨29, Tryz.f29, Tryz.func29, by kernel_rfl⟩] [wstr_m, pvec_m, pnum_m, pskin_m]) 4 pfield_f (And.intro (by kernel_rfl) ?_)
  obtain ⟨⟨h1, h2⟩, ⟨hW, hH, hk⟩, hm⟩ := hpre
  have iW := in64_iff.1 hW
  have iH := in64_iff.1 hH
  have ik := in64_iff.1 hk
  have lW := it_len (n := W) iW
  have lH := it_len (n := H) iH
  have lk := sk_sz hk
  have z1 := fd_sz hW hH
  have z2 := vc_sz a0 a1 a2
  have z3 := nm_sz sd
  have z4 := fp_sz hW hH a0 a1 a2 sd
  have z5 := hi_sz F
  have z6 := fun i => nm_sz (milF (F i))
  repeat' (first | refine And.intro ?_ ?_ | (with_reducible exact ff_elim) | (with_reducible exact tf_elim) | refine' rho_mk [_] ?_ | refine num_elim ?_ | intro _ | (with_reducible rfl) | ((with_reducible refine lk_t ?_); exact rfl) | ((with_reducible refine pf_t ?_); exact rfl) | refine tell ?_ | exact True.intro | (refine IsT.of ?_; kernel_rfl))
  all_goals (try (refine loop_keep [0, 3, 37, 38] [2] ?_; refine LoopI.mk (FdI m) (fun j => [(39, .int .i64 j.i)]) (fun j => [(0, .row [.own 0 0, .os 3 1 0 (n + (fpS W H a0 a1 a2 sd ++ hiS F j.i).size), .bool (fpB bad a0 a1 a2 sd || hiB F j.i)]), (3, .bts (n + (fpS W H a0 a1 a2 sd ++ hiS F j.i).size) (catB n P (fpS W H a0 a1 a2 sd ++ hiS F j.i)))]) (fun j => m - j.i) (⟨0, Nat.zero_le _⟩) (wk_mk [none, some 32, some 2] ?_) (fun ⟨i, hi⟩ => ?_)))
  repeat' (first | refine And.intro ?_ ?_ | (with_reducible exact ff_elim) | (with_reducible exact tf_elim) | refine' stp_mk [none, some _, some 2] ((⟨i + 1, ?_⟩ : FdI m)) ?_ ?_ | refine' rho_mk [_] ?_ | refine num_elim ?_ | intro _ | (with_reducible rfl) | ((with_reducible refine lk_t ?_); exact rfl) | ((with_reducible refine pf_t ?_); exact rfl) | refine tell ?_ | exact True.intro | (refine IsT.of ?_; kernel_rfl))
  all_goals (try refine Tell.mk ?_)
  all_goals first | with_reducible rfl | with_reducible assumption | (with_reducible refine gb_t ?_; with_reducible assumption) | (with_reducible refine gb_f ?_; with_reducible assumption) | ((with_reducible refine ks_t ?_); rfl) | ((with_reducible refine okF_t ?_); kernel_rfl) | (show 0 < _; omega) | skip
  all_goals (try dsimp only at *)
  all_goals (try simp only [fp0, fpB0, hi_s, hiB_s, mul1, mil_def, nm_def, fd_def, vc_def, k_side_def, k_high_def, decide_eq_true_eq, decide_eq_false_iff_not] at *)
  all_goals (try (revert hi; intros; have e : i = m := (by omega); subst e))
  all_goals (try simp only [ByteArray.size_append, ByteArray.append_assoc, Nat.add_assoc, Bool.or_assoc, k_side_sz, k_high_sz, e6f, e1s, e3a] at *)
  all_goals first | with_reducible rfl | omega | (revert hi; intros; have := z5 i; have := z6 i; omega) | skip
  all_goals first | (with_reducible refine ch5j ?_ ?_ ?_ ?_ <;> simp only [ByteArray.size_append, ByteArray.append_assoc, Nat.add_assoc, k_side_sz, k_high_sz]; done) | (with_reducible refine ch2j ?_; with_reducible rfl) | (rw [wrapI (by omega) (by omega)]; done) | (rw [wrapI (by omega) (by omega)]; rfl) | (have := z5 i; omega) | trace_state
def pfield_p (n : Nat) (P : Nat → Int) (bad : Bool) (W H : Int) (a0 a1 a2 sd : Nat) (m : Nat) (F : Nat → Int) (k : Int) : Prop := (0 < n ∧ n ≤ 700000000000) ∧ (In64 W ∧ In64 H ∧ In64 k) ∧ m ≤ 100
def pfield_r (n : Nat) (P : Nat → Int) (bad : Bool) (W H : Int) (a0 a1 a2 sd : Nat) (m : Nat) (F : Nat → Int) (k : Int) : AV := .tup []
def pfield_rows (n : Nat) (P : Nat → Int) (bad : Bool) (W H : Int) (a0 a1 a2 sd : Nat) (m : Nat) (F : Nat → Int) (k : Int) : List OB := [.row [.own 0 0, .os 1 1 0 n, .bool bad], .bts n P]
def pfield_rows2 (n : Nat) (P : Nat → Int) (bad : Bool) (W H : Int) (a0 a1 a2 sd : Nat) (m : Nat) (F : Nat → Int) (k : Int) : List OB := [.row [.own 0 0, .os 2 1 0 (n + (fpS W H a0 a1 a2 sd ++ (hiS F m ++ skS k)).size), .bool (fpB bad a0 a1 a2 sd || hiB F m)], .gone, .bts (n + (fpS W H a0 a1 a2 sd ++ (hiS F m ++ skS k)).size) (catB n P (fpS W H a0 a1 a2 sd ++ (hiS F m ++ skS k)))]
def pfield_m : MCon Tryz.prog := ⟨33, fun args own => match args with | [.own k0_ 0, .agg [.int .i64 W, .int .i64 H, .flt a0, .flt a1, .flt a2, .flt sd, .sl m 1 g_F, .int .i64 k]] => (match own k0_ with | .row [.own k0_ 0, .os k1_ 1 0 n, .bool bad] => (match own k1_ with | .bts n_ P => .ok [k0_, k1_] ([.own 0 0, .agg [.int .i64 W, .int .i64 H, .flt a0, .flt a1, .flt a2, .flt sd, .sl m 1 g_F, .int .i64 k]]) (pfield_rows n P bad W H a0 a1 a2 sd m (intF g_F) k) (some (IsI .i64 g_F ∧ n_ = n ∧ pfield_p n P bad W H a0 a1 a2 sd m (intF g_F) k)) (pfield_r n P bad W H a0 a1 a2 sd m (intF g_F) k) (pfield_rows2 n P bad W H a0 a1 a2 sd m (intF g_F) k) | _ => .no) | _ => .no) | _ => .no, by
  intro args own ks cargs rows p r rows2 h hp
  split at h
  · split at h
    · split at h
      · cases h; obtain ⟨h_F, rfl, hq⟩ := hp; have e_F := h_F.eq; rw [e_F]; exact pfield_a _ _ _ _ _ _ _ _ _ _ _ _ hq
      · cases h
    · cases h
  · cases h⟩
end Go.Proofs.YtphdjmaebdmdmaaGreatDoor
/- Scenes as text: how deep a solid's tree is. -/
namespace Go.Proofs.YtphdjmaebdmdmaaGreatDoor
open Go.RowKit Ev
set_option linter.unusedVariables false
set_option linter.unusedSimpArgs false
set_option maxRecDepth 20000
set_option maxHeartbeats 8000000

/-- A solid's parts in order: what a part is made of stands ahead of it. -/
def SolK (P : Nat → Prt) (n : Nat) : Prop := ∀ i, i < n → (P i).op = 0 ∨ ((0 ≤ (P i).l ∧ (P i).l < i) ∧ (0 ≤ (P i).m ∧ (P i).m < i))
/-- How many braces are open at most. -/
def dpG (P : Nat → Prt) : Nat → Nat → Int
  | 0, _ => 0
  | f + 1, k => if (P k).op = 0 then 0 else 1 + max (dpG P f (P k).l.toNat) (dpG P f (P k).m.toNat)
theorem dpG_s (P : Nat → Prt) (f k : Nat) : dpG P (f + 1) k = if (P k).op = 0 then 0 else 1 + max (dpG P f (P k).l.toNat) (dpG P f (P k).m.toNat) := rfl
theorem dpG_fuel {P : Nat → Prt} {n : Nat} (h : SolK P n) : ∀ (f g k : Nat), k < n → k < f → k < g → dpG P f k = dpG P g k := by
  intro f
  induction f with
  | zero => intro g k _ hf; omega
  | succ f ih =>
    intro g k hk hf hg
    obtain ⟨g, rfl⟩ : ∃ g', g = g' + 1 := ⟨g - 1, by omega⟩
    rw [dpG_s, dpG_s]
    rcases h k hk with e | ⟨⟨a, b⟩, ⟨c, d⟩⟩
    · rw [if_pos e, if_pos e]
    · rw [ih g _ (by omega) (by omega) (by omega), ih g (P k).m.toNat (by omega) (by omega) (by omega)]
@[irreducible] def dp (P : Nat → Prt) (k : Nat) : Int := dpG P 16 k
theorem dp_0 {P : Nat → Prt} {k : Nat} (e : (P k).op = 0) : dp P k = 0 := by
  unfold dp; rw [dpG_s, if_pos e]
theorem dp_1 {P : Nat → Prt} {n k : Nat} (h : SolK P n) (hn : n ≤ 16) (hk : k < n) (e : ¬ (P k).op = 0) : dp P k = 1 + max (dp P (P k).l.toNat) (dp P (P k).m.toNat) := by
  unfold dp
  rw [dpG_s, if_neg e]
  rcases h k hk with e' | ⟨⟨a, b⟩, ⟨c, d⟩⟩
  · exact absurd e' e
  · rw [dpG_fuel h 15 16 _ (by omega) (by omega) (by omega), dpG_fuel h 15 16 (P k).m.toNat (by omega) (by omega) (by omega)]
theorem dp_le {P : Nat → Prt} {n : Nat} (h : SolK P n) (hn : n ≤ 16) : ∀ k, k < n → 0 ≤ dp P k ∧ dp P k ≤ k := by
  intro k
  induction k using Nat.strongRecOn with
  | ind k ih =>
    intro hk
    by_cases e : (P k).op = 0
    · rw [dp_0 e]; omega
    · rw [dp_1 h hn hk e]
      rcases h k hk with e' | ⟨⟨a, b⟩, ⟨c, d⟩⟩
      · exact absurd e' e
      · have := ih (P k).l.toNat (by omega) (by omega)
        have := ih (P k).m.toNat (by omega) (by omega)
        omega
@[irreducible] def dpT (P : Nat → Prt) (i j : Nat) : Int := if j < i then dp P j else 0
theorem dpT_0 (P : Nat → Prt) (j : Nat) : dpT P 0 j = 0 := by unfold dpT; rw [if_neg (by omega)]
theorem dpT_lt (P : Nat → Prt) {i j : Nat} (h : j < i) : dpT P i j = dp P j := by unfold dpT; rw [if_pos h]
theorem dpT_s0 {P : Nat → Prt} {i : Nat} (e : (P i).op = 0) (j : Nat) : dpT P (i + 1) j = dpT P i j := by
  unfold dpT
  by_cases h : j < i
  · rw [if_pos h, if_pos (by omega)]
  · rw [if_neg h]
    by_cases h' : j < i + 1
    · rw [if_pos h', show j = i by omega, dp_0 e]
    · rw [if_neg h']
theorem dpT_s1 {P : Nat → Prt} {n i : Nat} (h : SolK P n) (hn : n ≤ 16) (hi : i < n) (e : ¬ (P i).op = 0) (j : Nat) :
    dpT P (i + 1) j = if j = 0 + i then IntKind.i64.wrap (1 + if dpT P i (0 + (P i).m.toNat) > dpT P i (0 + (P i).l.toNat) then dpT P i (0 + (P i).m.toNat) else dpT P i (0 + (P i).l.toNat)) else dpT P i j := by
  rcases h i hi with e' | ⟨⟨a, b⟩, ⟨c, d⟩⟩
  · exact absurd e' e
  have hl := dp_le h hn (P i).l.toNat (by omega)
  have hm := dp_le h hn (P i).m.toNat (by omega)
  by_cases hj : j = 0 + i
  · rw [if_pos hj, dpT_lt P (show j < i + 1 by omega), dpT_lt P (show 0 + (P i).m.toNat < i by omega), dpT_lt P (show 0 + (P i).l.toNat < i by omega)]
    rw [show j = i by omega, dp_1 h hn hi e]
    simp only [Nat.zero_add]
    by_cases hc : dp P (P i).m.toNat > dp P (P i).l.toNat
    · rw [if_pos hc, wrapI (by omega) (by omega)]; omega
    · rw [if_neg hc, wrapI (by omega) (by omega)]; omega
  · rw [if_neg hj]
    unfold dpT
    by_cases h' : j < i
    · rw [if_pos h', if_pos (by omega)]
    · rw [if_neg h', if_neg (by omega)]
theorem solk1 {P : Nat → Prt} {n i : Nat} (h : SolK P n) (hi : i < n) (e : ¬ (P i).op = 0) : (0 ≤ (P i).l ∧ (P i).l < i) ∧ (0 ≤ (P i).m ∧ (P i).m < i) := by
  rcases h i hi with e' | q
  · exact absurd e' e
  · exact q
theorem mulT (x : Nat) : mulN x (Tab.cx.ti 3).size = x := rfl
theorem pdepth_f : FnOk Tryz.prog 83 Tryz.f83 := ⟨Tryz.func83, by kernel_rfl⟩
theorem pdepth_a (n : Nat) (P : Nat → Prt) (hpre : 1 ≤ n ∧ n ≤ 16 ∧ SolK P n) : ACalls Tryz.prog 83 [.sl n 16 (partF P)] (.int .i64 (dp P (n - 1))) := by
  refine acalls_of (inl := hasI (P := Tryz.prog) [] []) (base [] [] []) 0 pdepth_f (And.intro (by kernel_rfl) ?_)
  obtain ⟨h1, h2, h3⟩ := hpre
  have ew := wrapI (x := (n : Int) - 1) (by omega) (by omega)
  repeat' (first | refine And.intro ?_ ?_ | (with_reducible exact ff_elim) | (with_reducible exact tf_elim) | refine num_elim ?_ | intro _ | (with_reducible rfl) | ((with_reducible refine lk_t ?_); exact rfl) | ((with_reducible refine pf_t ?_); exact rfl) | refine tell ?_ | exact True.intro | (refine IsT.of ?_; kernel_rfl))
  all_goals (try (refine loop_keep [0, 3, 9, 10] [] ?_; refine LoopI.mk ({i : Nat // i ≤ n}) (fun i => [(11, .int .i64 i.1)]) (fun i => [(3, .nums .i64 n (dpT P i.1))]) (fun i => n - i.1) (⟨0, Nat.zero_le _⟩) (wk_mk [some 3] ?_) (fun ⟨i, hi⟩ => ?_)))
  repeat' (first | refine And.intro ?_ ?_ | (with_reducible exact ff_elim) | (with_reducible exact tf_elim) | refine stp_mk [some 3] (⟨i + 1, ?_⟩) ?_ ?_ | refine view_part ?_ | refine num_elim ?_ | intro _ | (with_reducible rfl) | ((with_reducible refine lk_t ?_); exact rfl) | ((with_reducible refine pf_t ?_); exact rfl) | refine tell ?_ | exact True.intro | (refine IsT.of ?_; kernel_rfl))
  all_goals (try refine Tell.mk ?_)
  all_goals (try dsimp only at *)
  all_goals (try simp only [decide_eq_true_eq, decide_eq_false_iff_not, bne_iff_ne, ne_eq, beq_iff_eq] at *)
  all_goals first | with_reducible rfl | omega | exact dpT_0 P _ | exact Nat.le_refl 16 | (show (8 : Int) * (n : Int) ≤ _; omega) | (show n ≤ n; exact Nat.le_refl _) | skip
  all_goals (try simp only [mulT, Int.toNat_natCast, ew])
  all_goals first | with_reducible rfl | omega | (rw [wrapI (by omega) (by omega)]; omega) | (rw [wrapI (by omega) (by omega)]; rfl) | exact dpT_s0 (by assumption) _ | exact dpT_s0 (Decidable.byContradiction (by assumption)) _ | exact dpT_s0 (by grind) _ | (have hq := solk1 (i := i) h3 (by omega) (by assumption); omega) | exact dpT_s1 h3 h2 (by omega) (by assumption) _ | (rw [show 0 + ((n : Int) - 1).toNat = n - 1 by omega]; exact (dpT_lt P (by omega)).symm) | trace_state
end Go.Proofs.YtphdjmaebdmdmaaGreatDoor
/- Scenes as text: a shape of any kind. -/
namespace Go.Proofs.YtphdjmaebdmdmaaGreatDoor
open Go.RowKit Ev
set_option linter.unusedVariables false
set_option linter.unusedSimpArgs false
set_option maxRecDepth 20000
set_option maxHeartbeats 8000000

/-- A shape as text, without its skin; can it not be told? -/
@[irreducible] def fST (p : Shp) : ByteArray := if p.k = 1 then fS1 p.a p.b p.c p.d p.e p.f p.g p.h p.i p.r p.q else if p.k = 2 then fS2 p.a p.b p.c p.d p.e p.f p.g p.h p.i p.r p.q else if p.k = 3 then fS3 p.a p.b p.c p.d p.e p.f p.g p.h p.i p.r p.q else if p.k = 4 then fS4 p.a p.b p.c p.d p.e p.f p.g p.h p.i p.r p.q else if p.k = 5 then fS5 p.a p.b p.c p.d p.e p.f p.g p.h p.i p.r p.q else fS6 p.a p.b p.c p.d p.e p.f p.g p.h p.i p.r p.q
@[irreducible] def fBT (bad : Bool) (p : Shp) : Bool := if p.k = 1 then fB1 bad p.a p.b p.c p.d p.e p.f p.g p.h p.i p.r p.q else if p.k = 2 then fB2 bad p.a p.b p.c p.d p.e p.f p.g p.h p.i p.r p.q else if p.k = 3 then fB3 bad p.a p.b p.c p.d p.e p.f p.g p.h p.i p.r p.q else if p.k = 4 then fB4 bad p.a p.b p.c p.d p.e p.f p.g p.h p.i p.r p.q else if p.k = 5 then fB5 bad p.a p.b p.c p.d p.e p.f p.g p.h p.i p.r p.q else fB6 bad p.a p.b p.c p.d p.e p.f p.g p.h p.i p.r p.q
theorem fST_sz (p : Shp) : (fST p).size ≤ 400 := by
  unfold fST
  repeat' split
  all_goals first | exact fS1_sz _ _ _ _ _ _ _ _ _ _ _ | exact fS2_sz _ _ _ _ _ _ _ _ _ _ _ | exact fS3_sz _ _ _ _ _ _ _ _ _ _ _ | exact fS4_sz _ _ _ _ _ _ _ _ _ _ _ | exact fS5_sz _ _ _ _ _ _ _ _ _ _ _ | exact fS6_sz _ _ _ _ _ _ _ _ _ _ _
theorem fST_1 {p : Shp} (h : p.k = 1) : fST p = fS1 p.a p.b p.c p.d p.e p.f p.g p.h p.i p.r p.q := by unfold fST; simp [h]
theorem fBT_1 {bad : Bool} {p : Shp} (h : p.k = 1) : fBT bad p = fB1 bad p.a p.b p.c p.d p.e p.f p.g p.h p.i p.r p.q := by unfold fBT; simp [h]
theorem fST_2 {p : Shp} (h : p.k = 2) : fST p = fS2 p.a p.b p.c p.d p.e p.f p.g p.h p.i p.r p.q := by unfold fST; simp [h]
theorem fBT_2 {bad : Bool} {p : Shp} (h : p.k = 2) : fBT bad p = fB2 bad p.a p.b p.c p.d p.e p.f p.g p.h p.i p.r p.q := by unfold fBT; simp [h]
theorem fST_3 {p : Shp} (h : p.k = 3) : fST p = fS3 p.a p.b p.c p.d p.e p.f p.g p.h p.i p.r p.q := by unfold fST; simp [h]
theorem fBT_3 {bad : Bool} {p : Shp} (h : p.k = 3) : fBT bad p = fB3 bad p.a p.b p.c p.d p.e p.f p.g p.h p.i p.r p.q := by unfold fBT; simp [h]
theorem fST_4 {p : Shp} (h : p.k = 4) : fST p = fS4 p.a p.b p.c p.d p.e p.f p.g p.h p.i p.r p.q := by unfold fST; simp [h]
theorem fBT_4 {bad : Bool} {p : Shp} (h : p.k = 4) : fBT bad p = fB4 bad p.a p.b p.c p.d p.e p.f p.g p.h p.i p.r p.q := by unfold fBT; simp [h]
theorem fST_5 {p : Shp} (h : p.k = 5) : fST p = fS5 p.a p.b p.c p.d p.e p.f p.g p.h p.i p.r p.q := by unfold fST; simp [h]
theorem fBT_5 {bad : Bool} {p : Shp} (h : p.k = 5) : fBT bad p = fB5 bad p.a p.b p.c p.d p.e p.f p.g p.h p.i p.r p.q := by unfold fBT; simp [h]
theorem fST_6 {p : Shp} (h : p.k = 6) : fST p = fS6 p.a p.b p.c p.d p.e p.f p.g p.h p.i p.r p.q := by unfold fST; simp [h]
theorem fBT_6 {bad : Bool} {p : Shp} (h : p.k = 6) : fBT bad p = fB6 bad p.a p.b p.c p.d p.e p.f p.g p.h p.i p.r p.q := by unfold fBT; simp [h]
def pform_rows (n : Nat) (P : Nat → Int) (bad : Bool) : List OB := [.row [.own 0 0, .os 1 1 0 n, .bool bad], .bts n P]
def pform_rows2 (n : Nat) (P : Nat → Int) (bad : Bool) (p : Shp) : List OB := [.row [.own 0 0, .os 2 1 0 (n + (fST p).size), .bool (fBT bad p)], .gone, .bts (n + (fST p).size) (catB n P (fST p))]
def pform_p (n : Nat) (p : Shp) : Prop := (0 < n ∧ n ≤ 700000000000) ∧ 1 ≤ p.k ∧ p.k ≤ 6
theorem pform_a (n : Nat) (P : Nat → Int) (bad : Bool) (p : Shp) (h : pform_p n p) : MCalls Tryz.prog 30 ([.own 0 0, .agg [.int .i64 p.k, .flt p.a, .flt p.b, .flt p.c, .flt p.d, .flt p.e, .flt p.f, .flt p.g, .flt p.h, .flt p.i, .flt p.r, .flt p.q, .int .i64 p.s]]) (pform_rows n P bad) (.tup []) (pform_rows2 n P bad p) := by
  obtain ⟨hn, h1, h2⟩ := h
  have hk : p.k = 1 ∨ p.k = 2 ∨ p.k = 3 ∨ p.k = 4 ∨ p.k = 5 ∨ p.k = 6 := by omega
  unfold pform_rows2 pform_rows
  rcases hk with e | e | e | e | e | e
  · rw [fST_1 e, fBT_1 e, e]; exact pform1_a n P bad p.a p.b p.c p.d p.e p.f p.g p.h p.i p.r p.q p.s hn
  · rw [fST_2 e, fBT_2 e, e]; exact pform2_a n P bad p.a p.b p.c p.d p.e p.f p.g p.h p.i p.r p.q p.s hn
  · rw [fST_3 e, fBT_3 e, e]; exact pform3_a n P bad p.a p.b p.c p.d p.e p.f p.g p.h p.i p.r p.q p.s hn
  · rw [fST_4 e, fBT_4 e, e]; exact pform4_a n P bad p.a p.b p.c p.d p.e p.f p.g p.h p.i p.r p.q p.s hn
  · rw [fST_5 e, fBT_5 e, e]; exact pform5_a n P bad p.a p.b p.c p.d p.e p.f p.g p.h p.i p.r p.q p.s hn
  · rw [fST_6 e, fBT_6 e, e]; exact pform6_a n P bad p.a p.b p.c p.d p.e p.f p.g p.h p.i p.r p.q p.s hn
def pform_m : MCon Tryz.prog := ⟨30, fun args own => match args with | [.own k0_ 0, .agg [.int .i64 kd, .flt a0, .flt a1, .flt a2, .flt b0, .flt b1, .flt b2, .flt c0, .flt c1, .flt c2, .flt r, .flt q, .int .i64 s]] => (match own k0_ with | .row [.own k0_ 0, .os k1_ 1 0 n, .bool bad] => (match own k1_ with | .bts n_ P => .ok [k0_, k1_] ([.own 0 0, .agg [.int .i64 kd, .flt a0, .flt a1, .flt a2, .flt b0, .flt b1, .flt b2, .flt c0, .flt c1, .flt c2, .flt r, .flt q, .int .i64 s]]) (pform_rows n P bad) (some (n_ = n ∧ pform_p n ⟨kd, a0, a1, a2, b0, b1, b2, c0, c1, c2, r, q, s⟩)) (.tup []) (pform_rows2 n P bad ⟨kd, a0, a1, a2, b0, b1, b2, c0, c1, c2, r, q, s⟩) | _ => .no) | _ => .no) | _ => .no, by
  intro args own ks cargs rows p r rows2 h hp
  split at h
  · split at h
    · split at h
      · cases h; obtain ⟨rfl, hq⟩ := hp; exact pform_a _ _ _ ⟨_, _, _, _, _, _, _, _, _, _, _, _, _⟩ hq
      · cases h
    · cases h
  · cases h⟩
end Go.Proofs.YtphdjmaebdmdmaaGreatDoor
/- Scenes as text: a solid's parts as text (what it is). -/
namespace Go.Proofs.YtphdjmaebdmdmaaGreatDoor
open Go.RowKit Ev
set_option linter.unusedVariables false
set_option linter.unusedSimpArgs false
set_option maxRecDepth 20000
set_option maxHeartbeats 8000000

@[irreducible] def k_sp : ByteArray := ⟨#[32]⟩
theorem k_sp_def : (⟨#[32]⟩ : ByteArray) = k_sp := by unfold k_sp; rfl
theorem k_sp_sz : k_sp.size = 1 := by unfold k_sp; rfl
@[irreducible] def k_cl : ByteArray := ⟨#[32, 125]⟩
theorem k_cl_def : (⟨#[32, 125]⟩ : ByteArray) = k_cl := by unfold k_cl; rfl
theorem k_cl_sz : k_cl.size = 2 := by unfold k_cl; rfl
@[irreducible] def opS (c : Int) : ByteArray := if c = 1 then ⟨#[98, 111, 116, 104, 32, 123, 32]⟩ else if c = 2 then ⟨#[101, 105, 116, 104, 101, 114, 32, 123, 32]⟩ else ⟨#[108, 101, 115, 115, 32, 123, 32]⟩
theorem opS_sz (c : Int) : (opS c).size ≤ 9 := by
  unfold opS; split
  · show 7 ≤ 9; omega
  · split
    · show 9 ≤ 9; omega
    · show 7 ≤ 9; omega
/-- A part as text. -/
def tG (Q : Nat → Prt) : Nat → Nat → ByteArray
  | 0, _ => ⟨#[]⟩
  | f + 1, k => if (Q k).op = 0 then fST (Q k).p else opS (Q k).op ++ (tG Q f (Q k).l.toNat ++ (k_sp ++ (tG Q f (Q k).m.toNat ++ k_cl)))
/-- How many parts that names. -/
def tcG (Q : Nat → Prt) : Nat → Nat → Nat
  | 0, _ => 0
  | f + 1, k => if (Q k).op = 0 then 1 else tcG Q f (Q k).l.toNat + tcG Q f (Q k).m.toNat + 1
theorem tG_s (Q : Nat → Prt) (f k : Nat) : tG Q (f + 1) k = if (Q k).op = 0 then fST (Q k).p else opS (Q k).op ++ (tG Q f (Q k).l.toNat ++ (k_sp ++ (tG Q f (Q k).m.toNat ++ k_cl))) := rfl
theorem tcG_s (Q : Nat → Prt) (f k : Nat) : tcG Q (f + 1) k = if (Q k).op = 0 then 1 else tcG Q f (Q k).l.toNat + tcG Q f (Q k).m.toNat + 1 := rfl
theorem tG_fuel {Q : Nat → Prt} {n : Nat} (h : SolK Q n) : ∀ (f g k : Nat), k < n → k < f → k < g → tG Q f k = tG Q g k := by
  intro f
  induction f with
  | zero => intro g k _ hf; omega
  | succ f ih =>
    intro g k hk hf hg
    obtain ⟨g, rfl⟩ : ∃ g', g = g' + 1 := ⟨g - 1, by omega⟩
    rw [tG_s, tG_s]
    rcases h k hk with e | ⟨⟨a, b⟩, ⟨c, d⟩⟩
    · rw [if_pos e, if_pos e]
    · rw [ih g _ (by omega) (by omega) (by omega), ih g (Q k).m.toNat (by omega) (by omega) (by omega)]
theorem tcG_fuel {Q : Nat → Prt} {n : Nat} (h : SolK Q n) : ∀ (f g k : Nat), k < n → k < f → k < g → tcG Q f k = tcG Q g k := by
  intro f
  induction f with
  | zero => intro g k _ hf; omega
  | succ f ih =>
    intro g k hk hf hg
    obtain ⟨g, rfl⟩ : ∃ g', g = g' + 1 := ⟨g - 1, by omega⟩
    rw [tcG_s, tcG_s]
    rcases h k hk with e | ⟨⟨a, b⟩, ⟨c, d⟩⟩
    · rw [if_pos e, if_pos e]
    · rw [ih g _ (by omega) (by omega) (by omega), ih g (Q k).m.toNat (by omega) (by omega) (by omega)]
@[irreducible] def tS (Q : Nat → Prt) (k : Nat) : ByteArray := tG Q 16 k
@[irreducible] def tC (Q : Nat → Prt) (k : Nat) : Nat := tcG Q 16 k
theorem tS_0 {Q : Nat → Prt} {k : Nat} (e : (Q k).op = 0) : tS Q k = fST (Q k).p := by unfold tS; rw [tG_s, if_pos e]
theorem tC_0 {Q : Nat → Prt} {k : Nat} (e : (Q k).op = 0) : tC Q k = 1 := by unfold tC; rw [tcG_s, if_pos e]
theorem tS_1 {Q : Nat → Prt} {n k : Nat} (h : SolK Q n) (hn : n ≤ 16) (hk : k < n) (e : ¬ (Q k).op = 0) : tS Q k = opS (Q k).op ++ (tS Q (Q k).l.toNat ++ (k_sp ++ (tS Q (Q k).m.toNat ++ k_cl))) := by
  obtain ⟨⟨a, b⟩, ⟨c, d⟩⟩ := solk1 h hk e
  unfold tS
  rw [tG_s, if_neg e, tG_fuel h 15 16 _ (by omega) (by omega) (by omega), tG_fuel h 15 16 (Q k).m.toNat (by omega) (by omega) (by omega)]
theorem tC_1 {Q : Nat → Prt} {n k : Nat} (h : SolK Q n) (hn : n ≤ 16) (hk : k < n) (e : ¬ (Q k).op = 0) : tC Q k = tC Q (Q k).l.toNat + tC Q (Q k).m.toNat + 1 := by
  obtain ⟨⟨a, b⟩, ⟨c, d⟩⟩ := solk1 h hk e
  unfold tC
  rw [tcG_s, if_neg e, tcG_fuel h 15 16 _ (by omega) (by omega) (by omega), tcG_fuel h 15 16 (Q k).m.toNat (by omega) (by omega) (by omega)]
/-- Both are bounded by what a tree of that height can hold. -/
theorem tC_le {Q : Nat → Prt} {n : Nat} (h : SolK Q n) (hn : n ≤ 16) : ∀ k, k < n → tC Q k + 1 ≤ 2 ^ (k + 1) := by
  intro k
  induction k using Nat.strongRecOn with
  | ind k ih =>
    intro hk
    by_cases e : (Q k).op = 0
    · rw [tC_0 e]; exact Nat.le_trans (show 2 ≤ 2 ^ 1 from Nat.le_refl _) (Nat.pow_le_pow_right (by omega) (by omega))
    · rw [tC_1 h hn hk e]
      obtain ⟨⟨a, b⟩, ⟨c, d⟩⟩ := solk1 h hk e
      have x := Nat.le_trans (ih (Q k).l.toNat (by omega) (by omega)) (Nat.pow_le_pow_right (show 0 < 2 by omega) (show (Q k).l.toNat + 1 ≤ k by omega))
      have y := Nat.le_trans (ih (Q k).m.toNat (by omega) (by omega)) (Nat.pow_le_pow_right (show 0 < 2 by omega) (show (Q k).m.toNat + 1 ≤ k by omega))
      rw [Nat.pow_succ]; omega
theorem tS_le {Q : Nat → Prt} {n : Nat} (h : SolK Q n) (hn : n ≤ 16) : ∀ k, k < n → (tS Q k).size ≤ 420 * tC Q k := by
  intro k
  induction k using Nat.strongRecOn with
  | ind k ih =>
    intro hk
    by_cases e : (Q k).op = 0
    · rw [tS_0 e, tC_0 e]; exact Nat.le_trans (fST_sz _) (by omega)
    · rw [tS_1 h hn hk e, tC_1 h hn hk e]
      obtain ⟨⟨a, b⟩, ⟨c, d⟩⟩ := solk1 h hk e
      have x := ih (Q k).l.toNat (by omega) (by omega)
      have y := ih (Q k).m.toNat (by omega) (by omega)
      have z := opS_sz (Q k).op
      simp only [ByteArray.size_append, k_sp_sz, k_cl_sz]
      omega
end Go.Proofs.YtphdjmaebdmdmaaGreatDoor
/- Scenes as text: a solid's parts, walked. -/
namespace Go.Proofs.YtphdjmaebdmdmaaGreatDoor
open Go.RowKit Ev
set_option linter.unusedVariables false
set_option linter.unusedSimpArgs false
set_option maxRecDepth 20000
set_option maxHeartbeats 8000000

@[irreducible] def lfB (bad : Bool) (x : Prt) (k nx : Int) : Bool := fBT bad x.p || x.l != 0 || x.m != 0 || x.p.s != 0 || k != nx
theorem view_op {c : Int} {nm : Bool} {P : Nat → Prt} {k : Int} {K : AV → Prop} (hk : 0 ≤ k) (hop : (P k.toNat).op = c) (h : nameE nm (.agg (.int .i64 c :: (P k.toNat).row.tail)) K) :
    nameE nm (.agg (List.map (fun j => partF P (mulN k.toNat 16 + j)) (List.range (Tab.cx.ti 116).size))) K := by
  obtain ⟨i, rfl⟩ : ∃ i : Nat, k = i := ⟨k.toNat, by omega⟩
  refine view_part ?_
  rw [← hop] at h
  exact h
theorem ppart0_f : FnOk Tryz.prog 84 Tryz.f84 := ⟨Tryz.func84, by kernel_rfl⟩
theorem ppart0_a (n : Nat) (P : Nat → Int) (bad : Bool) (m : Nat) (Q : Nat → Prt) (k nx : Int) (hpre : (0 < n ∧ n ≤ 600000000000) ∧ (0 ≤ k ∧ k < m ∧ m ≤ 16) ∧ (0 ≤ nx ∧ nx ≤ 100000) ∧ (Q k.toNat).op = 0 ∧ 1 ≤ (Q k.toNat).p.k ∧ (Q k.toNat).p.k ≤ 6) : MCalls Tryz.prog 84 ([.own 0 0, .sl m 16 (partF Q), .int .i64 k, .own 2 0]) [.row [.own 0 0, .os 1 1 0 n, .bool bad], .bts n P, .row [.int .i64 nx]] (.tup []) [.row [.own 0 0, .os 3 1 0 (n + (fST (Q k.toNat).p).size), .bool (lfB bad (Q k.toNat) k nx)], .gone, .row [.int .i64 (nx + 1)], .bts (n + (fST (Q k.toNat).p).size) (catB n P (fST (Q k.toNat).p))] := by
  refine mcallsF_of (inl := hasI (P := Tryz.prog) [] [wstr_m, pform_m]) (base [] [] [wstr_m, pform_m]) 0 ppart0_f (And.intro (by kernel_rfl) ?_)
  obtain ⟨⟨h1, h2⟩, ⟨h3, h4, h5⟩, ⟨h6, h7⟩, h8, h9, h10⟩ := hpre
  repeat' (first | refine And.intro ?_ ?_ | (with_reducible exact ff_elim) | (with_reducible exact tf_elim) | refine' rho_mk [_] ?_ | refine view_op h3 h8 ?_ | (intro h; exact absurd h (by decide)) | refine num_elim ?_ | intro _ | (with_reducible rfl) | ((with_reducible refine lk_t ?_); exact rfl) | ((with_reducible refine pf_t ?_); exact rfl) | refine tell ?_ | exact True.intro | (refine IsT.of ?_; kernel_rfl))
  all_goals (try refine Tell.mk ?_)
  all_goals first | with_reducible rfl | with_reducible assumption | (with_reducible refine gb_t ?_; with_reducible assumption) | (with_reducible refine gb_f ?_; with_reducible assumption) | ((with_reducible refine ks_t ?_); rfl) | ((with_reducible refine okF_t ?_); kernel_rfl) | (show 0 < _; omega) | skip
  all_goals (try dsimp only at *)
  have z := fST_sz (Q k.toNat).p
  all_goals first | with_reducible rfl | omega | exact Nat.le_refl 16 | (exact (wrapI (by omega) (by omega)).symm) | (show n + (fST (Q k.toNat).p).size ≤ n + (fST (Q k.toNat).p).size; exact Nat.le_refl _) | (unfold lfB; with_reducible rfl) | (unfold lfB; rfl) | rfl | trace_state
end Go.Proofs.YtphdjmaebdmdmaaGreatDoor
/- Scenes as text: a solid's parts of two, walked. -/
namespace Go.Proofs.YtphdjmaebdmdmaaGreatDoor
open Go.RowKit Ev
set_option linter.unusedVariables false
set_option linter.unusedSimpArgs false
set_option maxRecDepth 20000
set_option maxHeartbeats 8000000

/-- Is a shape not all nought? -/
@[irreducible] def shN (p : Shp) : Bool := !(p.k == 0 && (feq p.a 0 && (feq p.b 0 && (feq p.c 0 && (feq p.d 0 && (feq p.e 0 && (feq p.f 0 && (feq p.g 0 && (feq p.h 0 && (feq p.i 0 && (feq p.r 0 && (feq p.q 0 && (p.s == 0 && true)))))))))))))
theorem shN_def (p : Shp) : (!(p.k == 0 && (feq p.a 0 && (feq p.b 0 && (feq p.c 0 && (feq p.d 0 && (feq p.e 0 && (feq p.f 0 && (feq p.g 0 && (feq p.h 0 && (feq p.i 0 && (feq p.r 0 && (feq p.q 0 && (p.s == 0 && true)))))))))))))) = shN p := by unfold shN; rfl
/-- Can a part not be told? -/
def tbG (Q : Nat → Prt) : Nat → Nat → Int → Bool → Bool
  | 0, _, _, b => b
  | f + 1, k, nx, b => if (Q k).op = 0 then lfB b (Q k) k nx else tbG Q f (Q k).m.toNat (nx + tC Q (Q k).l.toNat) (tbG Q f (Q k).l.toNat nx (b || shN (Q k).p)) || (k : Int) != nx + tC Q (Q k).l.toNat + tC Q (Q k).m.toNat
theorem tbG_s (Q : Nat → Prt) (f k : Nat) (nx : Int) (b : Bool) : tbG Q (f + 1) k nx b = if (Q k).op = 0 then lfB b (Q k) k nx else tbG Q f (Q k).m.toNat (nx + tC Q (Q k).l.toNat) (tbG Q f (Q k).l.toNat nx (b || shN (Q k).p)) || (k : Int) != nx + tC Q (Q k).l.toNat + tC Q (Q k).m.toNat := rfl
theorem tbG_fuel {Q : Nat → Prt} {n : Nat} (h : SolK Q n) : ∀ (f g k : Nat) (nx : Int) (b : Bool), k < n → k < f → k < g → tbG Q f k nx b = tbG Q g k nx b := by
  intro f
  induction f with
  | zero => intro g k nx b _ hf; omega
  | succ f ih =>
    intro g k nx b hk hf hg
    obtain ⟨g, rfl⟩ : ∃ g', g = g' + 1 := ⟨g - 1, by omega⟩
    rw [tbG_s, tbG_s]
    rcases h k hk with e | ⟨⟨a, b'⟩, ⟨c, d⟩⟩
    · rw [if_pos e, if_pos e]
    · rw [ih g _ _ _ (by omega) (by omega) (by omega), ih g (Q k).l.toNat _ _ (by omega) (by omega) (by omega)]
@[irreducible] def tB (Q : Nat → Prt) (k : Nat) (nx : Int) (b : Bool) : Bool := tbG Q 16 k nx b
theorem tB_0 {Q : Nat → Prt} {k : Nat} {nx : Int} {b : Bool} (e : (Q k).op = 0) : tB Q k nx b = lfB b (Q k) k nx := by unfold tB; rw [tbG_s, if_pos e]
theorem tB_1 {Q : Nat → Prt} {n k : Nat} {nx : Int} {b : Bool} (h : SolK Q n) (hn : n ≤ 16) (hk : k < n) (e : ¬ (Q k).op = 0) : tB Q k nx b = (tB Q (Q k).m.toNat (nx + tC Q (Q k).l.toNat) (tB Q (Q k).l.toNat nx (b || shN (Q k).p)) || (k : Int) != nx + tC Q (Q k).l.toNat + tC Q (Q k).m.toNat) := by
  obtain ⟨⟨a, b⟩, ⟨c, d⟩⟩ := solk1 h hk e
  unfold tB
  rw [tbG_s, if_neg e, tbG_fuel h 15 16 _ _ _ (by omega) (by omega) (by omega), tbG_fuel h 15 16 (Q k).l.toNat _ _ (by omega) (by omega) (by omega)]
/-- What is told of a part. -/
def part_rows (n : Nat) (P : Nat → Int) (bad : Bool) (nx : Int) : List OB := [.row [.own 0 0, .os 1 1 0 n, .bool bad], .bts n P, .row [.int .i64 nx]]
def part_rows2 (n : Nat) (P : Nat → Int) (bad : Bool) (nx : Int) (Q : Nat → Prt) (k : Int) : List OB := [.row [.own 0 0, .os 3 1 0 (n + (tS Q k.toNat).size), .bool (tB Q k.toNat nx bad)], .gone, .row [.int .i64 (nx + tC Q k.toNat)], .bts (n + (tS Q k.toNat).size) (catB n P (tS Q k.toNat))]
def part_p (Q : Nat → Prt) (n : Nat) (nx k : Int) (B : Nat) : Prop := (0 < n ∧ n + 420 * tC Q k.toNat ≤ 500000000000) ∧ (0 ≤ nx ∧ nx + tC Q k.toNat ≤ 100000) ∧ 0 ≤ k ∧ k < B
/-- The solid's parts are sound. -/
structure SolP (Q : Nat → Prt) (m : Nat) : Prop where
  m16 : m ≤ 16
  ord : SolK Q m
  ops : ∀ i, i < m → 0 ≤ (Q i).op ∧ (Q i).op ≤ 3
  kin : ∀ i, i < m → (Q i).op = 0 → 1 ≤ (Q i).p.k ∧ (Q i).p.k ≤ 6
def PartTo (Q : Nat → Prt) (m B : Nat) : Prop := ∀ (n : Nat) (P : Nat → Int) (bad : Bool) (nx k : Int), part_p Q n nx k B → MCalls Tryz.prog 84 [.own 0 0, .sl m 16 (partF Q), .int .i64 k, .own 2 0] (part_rows n P bad nx) (.tup []) (part_rows2 n P bad nx Q k)
def partC (Q : Nat → Prt) (m B : Nat) (hB : PartTo Q m B) : MCon Tryz.prog := ⟨84, fun args own => match args with | [.own k0_ 0, .sl m' 16 g, .int .i64 k, .own k2_ 0] => (match own k0_ with | .row [.own k0_ 0, .os k1_ 1 0 n, .bool bad] => (match own k1_ with | .bts n_ P => (match own k2_ with | .row [.int .i64 nx] => .ok [k0_, k1_, k2_] ([.own 0 0, .sl m' 16 g, .int .i64 k, .own 2 0]) (part_rows n P bad nx) (some (n_ = n ∧ (m' = m ∧ g = partF Q) ∧ part_p Q n nx k B)) (.tup []) (part_rows2 n P bad nx Q k) | _ => .no) | _ => .no) | _ => .no) | _ => .no, by
  intro args own ks cargs rows p r rows2 h hp
  split at h
  · split at h
    · split at h
      · split at h
        · cases h; obtain ⟨rfl, ⟨rfl, rfl⟩, hq⟩ := hp; exact hB _ _ _ _ _ hq
        · cases h
      · cases h
    · cases h
  · cases h⟩
end Go.Proofs.YtphdjmaebdmdmaaGreatDoor
/- Scenes as text: a solid's parts of two, walked. -/
namespace Go.Proofs.YtphdjmaebdmdmaaGreatDoor
open Go.RowKit Ev
set_option linter.unusedVariables false
set_option linter.unusedSimpArgs false
set_option maxRecDepth 20000
set_option maxHeartbeats 8000000

theorem op1_def : (⟨#[98, 111, 116, 104]⟩ : ByteArray) ++ ⟨#[32, 123, 32]⟩ = opS 1 := by unfold opS; rw [if_pos rfl]; rfl
theorem ppart1_f : FnOk Tryz.prog 84 Tryz.f84 := ⟨Tryz.func84, by kernel_rfl⟩
theorem ppart1_a (n : Nat) (P : Nat → Int) (bad : Bool) (m : Nat) (Q : Nat → Prt) (B : Nat) (hB : PartTo Q m B) (k nx : Int) (hpre : part_p Q n nx k (B + 1) ∧ SolP Q m ∧ B < m ∧ k = B ∧ (Q k.toNat).op = 1) : MCalls Tryz.prog 84 ([.own 0 0, .sl m 16 (partF Q), .int .i64 k, .own 2 0]) [.row [.own 0 0, .os 1 1 0 n, .bool bad], .bts n P, .row [.int .i64 nx]] (.tup []) [.row [.own 0 0, .os 3 1 0 (n + (tS Q k.toNat).size), .bool (tB Q k.toNat nx bad)], .gone, .row [.int .i64 (nx + tC Q k.toNat)], .bts (n + (tS Q k.toNat).size) (catB n P (tS Q k.toNat))] := by
  refine mcallsF_of (inl := hasI (P := Tryz.prog) [] [wstr_m, (partC Q m B hB)]) (base [] [] [wstr_m, (partC Q m B hB)]) 0 ppart1_f (And.intro (by kernel_rfl) ?_)
  obtain ⟨⟨⟨h1, h2⟩, ⟨h6, h7⟩, h3, h4⟩, hS, hBm, hkB, h8⟩ := hpre
  have hkm : k.toNat < m := by omega
  have hop : ¬ (Q k.toNat).op = 0 := by omega
  obtain ⟨⟨l0, l1⟩, ⟨m0, m1⟩⟩ := solk1 hS.ord hkm hop
  have eS := tS_1 hS.ord hS.m16 hkm hop
  have eC := tC_1 hS.ord hS.m16 hkm hop
  have eB := tB_1 (nx := nx) (b := bad) hS.ord hS.m16 hkm hop
  have sl := tS_le hS.ord hS.m16 (Q k.toNat).l.toNat (by omega)
  have sm := tS_le hS.ord hS.m16 (Q k.toNat).m.toNat (by omega)
  have so := opS_sz 1
  have hm16 := hS.m16
  rw [h8] at eS
  have ew := wrapI (x := nx + (tC Q (Q k.toNat).l.toNat : Int) + (tC Q (Q k.toNat).m.toNat : Int) + 1) (by omega) (by omega)
  have ek : ((k.toNat : Nat) : Int) = k := by omega
  repeat' (first | refine And.intro ?_ ?_ | (with_reducible exact ff_elim) | (with_reducible exact tf_elim) | refine' rho_mk [_] ?_ | refine view_op h3 h8 ?_ | (intro h; exact absurd h (by decide)) | refine num_elim ?_ | intro _ | (with_reducible rfl) | ((with_reducible refine lk_t ?_); exact rfl) | ((with_reducible refine pf_t ?_); exact rfl) | refine tell ?_ | exact True.intro | (refine IsT.of ?_; kernel_rfl))
  all_goals (try refine Tell.mk ?_)
  all_goals first | with_reducible rfl | with_reducible assumption | (with_reducible refine gb_t ?_; with_reducible assumption) | (with_reducible refine gb_f ?_; with_reducible assumption) | ((with_reducible refine ks_t ?_); rfl) | ((with_reducible refine okF_t ?_); kernel_rfl) | (show 0 < _; omega) | skip
  all_goals (try dsimp only at *)
  all_goals (try simp only [op1_def, k_sp_def, k_cl_def, shN_def] at *)
  all_goals (try rw [eS])
  all_goals (try rw [eC])
  all_goals (try rw [eB])
  all_goals (try simp only [ByteArray.size_append, ByteArray.append_assoc, Nat.add_assoc, Bool.or_assoc, k_sp_sz, k_cl_sz] at *)
  all_goals first | with_reducible rfl | omega | exact Nat.le_refl 16 | (with_reducible refine ch5j ?_ ?_ ?_ ?_ <;> simp only [ByteArray.size_append, ByteArray.append_assoc, Nat.add_assoc, k_sp_sz, k_cl_sz]; done) | (show (4 : Nat) + 3 ≤ _; omega) | (rw [ek]; done) | (rw [ew]; omega) | trace_state
theorem op2_def : (⟨#[101, 105, 116, 104, 101, 114]⟩ : ByteArray) ++ ⟨#[32, 123, 32]⟩ = opS 2 := by unfold opS; rw [if_neg (by decide), if_pos rfl]; rfl
theorem ppart2_f : FnOk Tryz.prog 84 Tryz.f84 := ⟨Tryz.func84, by kernel_rfl⟩
theorem ppart2_a (n : Nat) (P : Nat → Int) (bad : Bool) (m : Nat) (Q : Nat → Prt) (B : Nat) (hB : PartTo Q m B) (k nx : Int) (hpre : part_p Q n nx k (B + 1) ∧ SolP Q m ∧ B < m ∧ k = B ∧ (Q k.toNat).op = 2) : MCalls Tryz.prog 84 ([.own 0 0, .sl m 16 (partF Q), .int .i64 k, .own 2 0]) [.row [.own 0 0, .os 1 1 0 n, .bool bad], .bts n P, .row [.int .i64 nx]] (.tup []) [.row [.own 0 0, .os 3 1 0 (n + (tS Q k.toNat).size), .bool (tB Q k.toNat nx bad)], .gone, .row [.int .i64 (nx + tC Q k.toNat)], .bts (n + (tS Q k.toNat).size) (catB n P (tS Q k.toNat))] := by
  refine mcallsF_of (inl := hasI (P := Tryz.prog) [] [wstr_m, (partC Q m B hB)]) (base [] [] [wstr_m, (partC Q m B hB)]) 0 ppart2_f (And.intro (by kernel_rfl) ?_)
  obtain ⟨⟨⟨h1, h2⟩, ⟨h6, h7⟩, h3, h4⟩, hS, hBm, hkB, h8⟩ := hpre
  have hkm : k.toNat < m := by omega
  have hop : ¬ (Q k.toNat).op = 0 := by omega
  obtain ⟨⟨l0, l1⟩, ⟨m0, m1⟩⟩ := solk1 hS.ord hkm hop
  have eS := tS_1 hS.ord hS.m16 hkm hop
  have eC := tC_1 hS.ord hS.m16 hkm hop
  have eB := tB_1 (nx := nx) (b := bad) hS.ord hS.m16 hkm hop
  have sl := tS_le hS.ord hS.m16 (Q k.toNat).l.toNat (by omega)
  have sm := tS_le hS.ord hS.m16 (Q k.toNat).m.toNat (by omega)
  have so := opS_sz 2
  have hm16 := hS.m16
  rw [h8] at eS
  have ew := wrapI (x := nx + (tC Q (Q k.toNat).l.toNat : Int) + (tC Q (Q k.toNat).m.toNat : Int) + 1) (by omega) (by omega)
  have ek : ((k.toNat : Nat) : Int) = k := by omega
  repeat' (first | refine And.intro ?_ ?_ | (with_reducible exact ff_elim) | (with_reducible exact tf_elim) | refine' rho_mk [_] ?_ | refine view_op h3 h8 ?_ | (intro h; exact absurd h (by decide)) | refine num_elim ?_ | intro _ | (with_reducible rfl) | ((with_reducible refine lk_t ?_); exact rfl) | ((with_reducible refine pf_t ?_); exact rfl) | refine tell ?_ | exact True.intro | (refine IsT.of ?_; kernel_rfl))
  all_goals (try refine Tell.mk ?_)
  all_goals first | with_reducible rfl | with_reducible assumption | (with_reducible refine gb_t ?_; with_reducible assumption) | (with_reducible refine gb_f ?_; with_reducible assumption) | ((with_reducible refine ks_t ?_); rfl) | ((with_reducible refine okF_t ?_); kernel_rfl) | (show 0 < _; omega) | skip
  all_goals (try dsimp only at *)
  all_goals (try simp only [op2_def, k_sp_def, k_cl_def, shN_def] at *)
  all_goals (try rw [eS])
  all_goals (try rw [eC])
  all_goals (try rw [eB])
  all_goals (try simp only [ByteArray.size_append, ByteArray.append_assoc, Nat.add_assoc, Bool.or_assoc, k_sp_sz, k_cl_sz] at *)
  all_goals first | with_reducible rfl | omega | exact Nat.le_refl 16 | (with_reducible refine ch5j ?_ ?_ ?_ ?_ <;> simp only [ByteArray.size_append, ByteArray.append_assoc, Nat.add_assoc, k_sp_sz, k_cl_sz]; done) | (show (6 : Nat) + 3 ≤ _; omega) | (rw [ek]; done) | (rw [ew]; omega) | trace_state
theorem op3_def : (⟨#[108, 101, 115, 115]⟩ : ByteArray) ++ ⟨#[32, 123, 32]⟩ = opS 3 := by unfold opS; rw [if_neg (by decide), if_neg (by decide)]; rfl
theorem ppart3_f : FnOk Tryz.prog 84 Tryz.f84 := ⟨Tryz.func84, by kernel_rfl⟩
theorem ppart3_a (n : Nat) (P : Nat → Int) (bad : Bool) (m : Nat) (Q : Nat → Prt) (B : Nat) (hB : PartTo Q m B) (k nx : Int) (hpre : part_p Q n nx k (B + 1) ∧ SolP Q m ∧ B < m ∧ k = B ∧ (Q k.toNat).op = 3) : MCalls Tryz.prog 84 ([.own 0 0, .sl m 16 (partF Q), .int .i64 k, .own 2 0]) [.row [.own 0 0, .os 1 1 0 n, .bool bad], .bts n P, .row [.int .i64 nx]] (.tup []) [.row [.own 0 0, .os 3 1 0 (n + (tS Q k.toNat).size), .bool (tB Q k.toNat nx bad)], .gone, .row [.int .i64 (nx + tC Q k.toNat)], .bts (n + (tS Q k.toNat).size) (catB n P (tS Q k.toNat))] := by
  refine mcallsF_of (inl := hasI (P := Tryz.prog) [] [wstr_m, (partC Q m B hB)]) (base [] [] [wstr_m, (partC Q m B hB)]) 0 ppart3_f (And.intro (by kernel_rfl) ?_)
  obtain ⟨⟨⟨h1, h2⟩, ⟨h6, h7⟩, h3, h4⟩, hS, hBm, hkB, h8⟩ := hpre
  have hkm : k.toNat < m := by omega
  have hop : ¬ (Q k.toNat).op = 0 := by omega
  obtain ⟨⟨l0, l1⟩, ⟨m0, m1⟩⟩ := solk1 hS.ord hkm hop
  have eS := tS_1 hS.ord hS.m16 hkm hop
  have eC := tC_1 hS.ord hS.m16 hkm hop
  have eB := tB_1 (nx := nx) (b := bad) hS.ord hS.m16 hkm hop
  have sl := tS_le hS.ord hS.m16 (Q k.toNat).l.toNat (by omega)
  have sm := tS_le hS.ord hS.m16 (Q k.toNat).m.toNat (by omega)
  have so := opS_sz 3
  have hm16 := hS.m16
  rw [h8] at eS
  have ew := wrapI (x := nx + (tC Q (Q k.toNat).l.toNat : Int) + (tC Q (Q k.toNat).m.toNat : Int) + 1) (by omega) (by omega)
  have ek : ((k.toNat : Nat) : Int) = k := by omega
  repeat' (first | refine And.intro ?_ ?_ | (with_reducible exact ff_elim) | (with_reducible exact tf_elim) | refine' rho_mk [_] ?_ | refine view_op h3 h8 ?_ | (intro h; exact absurd h (by decide)) | refine num_elim ?_ | intro _ | (with_reducible rfl) | ((with_reducible refine lk_t ?_); exact rfl) | ((with_reducible refine pf_t ?_); exact rfl) | refine tell ?_ | exact True.intro | (refine IsT.of ?_; kernel_rfl))
  all_goals (try refine Tell.mk ?_)
  all_goals first | with_reducible rfl | with_reducible assumption | (with_reducible refine gb_t ?_; with_reducible assumption) | (with_reducible refine gb_f ?_; with_reducible assumption) | ((with_reducible refine ks_t ?_); rfl) | ((with_reducible refine okF_t ?_); kernel_rfl) | (show 0 < _; omega) | skip
  all_goals (try dsimp only at *)
  all_goals (try simp only [op3_def, k_sp_def, k_cl_def, shN_def] at *)
  all_goals (try rw [eS])
  all_goals (try rw [eC])
  all_goals (try rw [eB])
  all_goals (try simp only [ByteArray.size_append, ByteArray.append_assoc, Nat.add_assoc, Bool.or_assoc, k_sp_sz, k_cl_sz] at *)
  all_goals first | with_reducible rfl | omega | exact Nat.le_refl 16 | (with_reducible refine ch5j ?_ ?_ ?_ ?_ <;> simp only [ByteArray.size_append, ByteArray.append_assoc, Nat.add_assoc, k_sp_sz, k_cl_sz]; done) | (show (4 : Nat) + 3 ≤ _; omega) | (rw [ek]; done) | (rw [ew]; omega) | trace_state
end Go.Proofs.YtphdjmaebdmdmaaGreatDoor
/- Scenes as text: a solid's parts, all of them. -/
namespace Go.Proofs.YtphdjmaebdmdmaaGreatDoor
open Go.RowKit Ev
set_option maxRecDepth 20000
set_option maxHeartbeats 8000000

theorem part_all {Q : Nat → Prt} {m : Nat} (hS : SolP Q m) : ∀ B, B ≤ m → PartTo Q m B := by
  intro B
  induction B with
  | zero => intro _ n P bad nx k h; obtain ⟨_, _, h3, h4⟩ := h; omega
  | succ B ih =>
    intro hB n P bad nx k h
    have hT := ih (by omega)
    by_cases hk : k < B
    · exact hT n P bad nx k ⟨h.1, h.2.1, h.2.2.1, hk⟩
    · have h' := h
      obtain ⟨⟨h1, h2⟩, ⟨h6, h7⟩, h3, h4⟩ := h'
      have hkB : k = B := by omega
      have hkm : k.toNat < m := by omega
      have ho := hS.ops k.toNat hkm
      have hc : (Q k.toNat).op = 0 ∨ (Q k.toNat).op = 1 ∨ (Q k.toNat).op = 2 ∨ (Q k.toNat).op = 3 := by omega
      rcases hc with e | e | e | e
      · have hk6 := hS.kin k.toNat hkm e
        have a := ppart0_a n P bad m Q k nx ⟨⟨h1, by omega⟩, ⟨h3, by omega, hS.m16⟩, ⟨h6, by omega⟩, e, hk6.1, hk6.2⟩
        unfold part_rows part_rows2
        rw [tS_0 e, tC_0 e, tB_0 e, show ((k.toNat : Nat) : Int) = k by omega]
        exact a
      · exact ppart1_a n P bad m Q B hT k nx ⟨h, hS, by omega, hkB, e⟩
      · exact ppart2_a n P bad m Q B hT k nx ⟨h, hS, by omega, hkB, e⟩
      · exact ppart3_a n P bad m Q B hT k nx ⟨h, hS, by omega, hkB, e⟩
end Go.Proofs.YtphdjmaebdmdmaaGreatDoor
