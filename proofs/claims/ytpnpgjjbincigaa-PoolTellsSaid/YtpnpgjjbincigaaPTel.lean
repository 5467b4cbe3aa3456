/- The walk of PoolTells: the law returns true. -/
import Derived.Test.YtpnpgjjbincigaaTel
namespace Go.Proofs.Ytpnpgjjbincigaa
open Go.RowKit
set_option linter.unusedVariables false

set_option maxHeartbeats 1600000 in
set_option maxRecDepth 100000 in
theorem walk_PoolTells (a0 : Option Addr) (xs0 : List Sl) (len0 cap0 : Nat) (a1 : Option Addr) (xs1 : List Can.T) (len1 cap1 : Nat) (n2 n3 : Int) (w : World) (hlen0 : xs0.length = len0) (hAt0 : Po.At a0 xs0 w) (hF0 : ∀ s ∈ xs0, Can.TAny s.t) (hlc0 : len0 ≤ cap0) (hmax0 : cap0 ≤ maxLen) (hz0 : ∀ s ∈ xs0, s.t.n ≤ 4398046511104)
    (hlen1 : xs1.length = len1) (hAt1 : Can.TPos a1 xs1 w) (hF1 : ∀ t ∈ xs1, Can.TAny t) (hz1 : ∀ t ∈ xs1, t.n ≤ 4398046511104) (wn2 : (Lit.int .i64 n2).wf = true) (wn3 : (Lit.int .i64 n3).wf = true) :
    Calls Try.prog 3 #[.slice a0 len0 cap0, .slice a1 len1 cap1, .int .i64 n2, .int .i64 n3] w fun e w' => e = .returned (.bool true) ∧ Below w.heap.size w w' := by
  have HT := Lib.hid (tells_is a0 a1 xs0 xs1 len0 cap0 len1 cap1 n2 n3 w hlen0 hlen1 hAt0 hAt1 hF0 hF1 hz0 hz1)
  have HAW := Lib.hid (fun w => awake_is w)
  clear hlen0 hAt0 hF0 hlc0 hmax0 hz0 hlen1 hAt1 hF1 hz1 wn2 wn3
  go_enter Try.func3, Try.ntmps3
  go_wp2_with (go_at_call 12; refine HT.out.mono ?_)
  first | rintro e w1 rfl hb1 | rintro e w1 ⟨rfl, hb1⟩
  go_wp2_with (go_at_call 13; refine (HAW.out _).mono ?_)
  first | rintro e w2 rfl hb2 | rintro e w2 ⟨rfl, hb2⟩
  have hbz := below_next hb1 hb2
  clear hb1 hb2
  go_wp2_with fail
  go_ret
  exact ⟨rfl, hbz⟩
end Go.Proofs.Ytpnpgjjbincigaa
