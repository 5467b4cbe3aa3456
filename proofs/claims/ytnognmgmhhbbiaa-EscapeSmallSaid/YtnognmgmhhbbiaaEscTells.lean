/- The walk of EscapeTells. -/
import Derived.Test.YtnognmgmhhbbiaaEscU
namespace Go.Proofs.Ytnognmgmhhbbiaa
open Go.RowKit

set_option maxHeartbeats 800000 in
theorem walk_EscapeTells (a0 : ByteArray) (a1 : Int) (w0 : a0.size ≤ maxLen) (_w1 : (Lit.int .i64 a1).wf = true) (w : World) :
    Calls Try.prog 8 #[.string a0, .int .i64 a1] w fun e w' => e = .returned (.bool true) ∧ Below w.heap.size w w' := by
  go_enter Try.func8, Try.ntmps8
  go_wp2_with (go_at_call 21; refine (tells_any a0 a1 _ w0).mono ?_)
  rintro e w4 ⟨rfl, hb⟩
  go_wp2_with (go_at_call 10; refine (awake_any _).mono ?_)
  rintro e w5 ⟨rfl, hb5⟩
  go_wp2
  go_ret
  exact ⟨rfl, below_next hb hb5⟩
end Go.Proofs.Ytnognmgmhhbbiaa
