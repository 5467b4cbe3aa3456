/- The walk of PoolEnds: the law returns true. -/
import Derived.Test.YtpnpgjjbincigaaEnd
namespace Go.Proofs.Ytpnpgjjbincigaa
open Go.RowKit
set_option linter.unusedVariables false

set_option maxHeartbeats 1600000 in
set_option maxRecDepth 100000 in
theorem walk_PoolEnds (a0 : Option Addr) (xs0 : List Sl) (len0 cap0 : Nat) (t1 : Can.T) (w : World) (hlen0 : xs0.length = len0) (hAt0 : Po.At a0 xs0 w) (hF0 : ∀ s ∈ xs0, Can.TAny s.t) (hlc0 : len0 ≤ cap0) (hmax0 : cap0 ≤ maxLen) (hz0 : ∀ s ∈ xs0, s.t.n ≤ 4398046511104)
    (hAt1 : Lab.At t1.p t1.ls w) (hF1 : Can.TAny t1) (hz1 : t1.n ≤ 4398046511104) :
    Calls Try.prog 4 #[.slice a0 len0 cap0, .agg #[.string t1.job, .slice t1.p t1.n t1.c]] w fun e w' => e = .returned (.bool true) ∧ Below w.heap.size w w' := by
  obtain ⟨tj, tp, tn, tc, tl⟩ := t1
  have hb0 : Below w.heap.size w (w.alloc (.cells #[.string tj, .slice tp tn tc] 29)) := (Below.refl _ _).alloc (Nat.le_refl _) _
  have HB0 := Lib.hid hb0
  have HT := Lib.hid (ends_is a0 xs0 ⟨tj, tp, tn, tc, tl⟩ len0 cap0 _ hlen0 (hAt0.below hb0 (Nat.le_refl _)) (hAt1.below hb0 (Nat.le_refl _)) hF0 hF1 hz0)
  have HAW := Lib.hid (fun w => awake_is w)
  clear hlen0 hAt0 hF0 hlc0 hmax0 hz0 hAt1 hF1 hz1 hb0
  go_enter Try.func4, Try.ntmps4
  go_wp2_with (go_at_call 14; refine HT.out.mono ?_)
  first | rintro e w1 rfl hb1 | rintro e w1 ⟨rfl, hb1⟩
  have hbx : Below w.heap.size w w1 := HB0.out.trans (hb1.mono (by simp))
  go_wp2_with (go_at_call 13; refine (HAW.out _).mono ?_)
  first | rintro e w2 rfl hb2 | rintro e w2 ⟨rfl, hb2⟩
  have hbz := below_next hbx hb2
  clear hb1 hb2 hbx
  go_wp2_with fail
  go_ret
  exact ⟨rfl, hbz⟩
end Go.Proofs.Ytpnpgjjbincigaa
