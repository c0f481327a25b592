/- The walk of the law ChanceSays: it returns true. No conditions but that the numbers fit their kinds. -/
import Derived.Test.YtllllhnjhjdeiaaChShot
import Derived.Test.YtllllhnjhjdeiaaChNoiseRef
namespace Go.Proofs.Ytllllhnjhjdeiaa
open Go.RowKit

set_option maxHeartbeats 800000 in
theorem chance_says (a b c base n x y k z : Int) (w : World) (_wa : (Lit.int .u32 a).wf = true) (_wb : (Lit.int .u32 b).wf = true) (_wc : (Lit.int .u32 c).wf = true) (_w3 : (Lit.int .i64 base).wf = true) (wn : (Lit.int .i64 n).wf = true)
    (_w5 : (Lit.int .i64 x).wf = true) (_w6 : (Lit.int .i64 y).wf = true) (_w7 : (Lit.int .i64 k).wf = true) (_w8 : (Lit.int .i64 z).wf = true) :
    Calls Try.prog 3 #[.int .u32 a, .int .u32 b, .int .u32 c, .int .i64 base, .int .i64 n, .int .i64 x, .int .i64 y, .int .i64 k, .int .i64 z] w fun e w' => e = .returned (.bool true) ∧ Below w.heap.size w w' := by
  have hn : Hid (-9223372036854775808 ≤ n ∧ n ≤ 9223372036854775807) := hid (by simpa [Lit.wf, IntKind.min, IntKind.max, IntKind.signed, IntKind.bits] using wn)
  clear wn _wa _wb _wc _w3 _w5 _w6 _w7 _w8
  go_enter Try.func3, Try.ntmps3
  go_wp2_with fail
  refine (mirrored_any base n _ hn.out).mono ?_
  rintro e w' ⟨rfl, rfl⟩
  go_wp2_with fail
  refine (mirrored_ref base n _ hn.out).mono ?_
  rintro e w' ⟨rfl, rfl⟩
  go_wp2_with fail
  refine (mix_any a b c _).mono ?_
  rintro e w' ⟨rfl, rfl⟩
  go_wp2_with fail
  refine (mix_ref a b c _).mono ?_
  rintro e w' ⟨rfl, rfl⟩
  go_wp2_with fail
  refine (shot_any x y k _).mono ?_
  rintro e w' ⟨rfl, rfl⟩
  go_wp2_with fail
  refine (shot_ref x y k _).mono ?_
  rintro e w' ⟨rfl, rfl⟩
  go_wp2_with fail
  refine (noise_any x y z _).mono ?_
  rintro e w1 ⟨rfl, hb1⟩
  go_wp2_with fail
  refine (noise_ref x y z _).mono ?_
  rintro e w2 ⟨rfl, hb2⟩
  go_wp2_with fail
  go_ret
  exact ⟨ret_bool (by simp), hb1.trans (hb2.mono hb1.size)⟩
end Go.Proofs.Ytllllhnjhjdeiaa
