/- Contract of gaugerkit: SameTarget (of the same targets). -/
import Derived.Test.YthnaninhbofeoaaDoorKitA
namespace Go.Proofs.YthnaninhbofeoaaDoor
open Go.RowKit

set_option maxHeartbeats 800000 in
theorem sametarget_true (j : ByteArray) (p1 p2 : Option Addr) (ls : List Lab.L) (n c1 c2 : Nat) (w : World) (hn : ls.length = n) (hA : Lab.At p1 ls w) (hB : Lab.At p2 ls w) (hl : n ≤ maxLen) :
    Calls Tryd.prog 14 #[.agg #[.string j, .slice p1 n c1], .agg #[.string j, .slice p2 n c2]] w fun e w' => e = .returned (.bool true) ∧ Below w.heap.size w w' := by
  have H := Lib.hid (fun w hA hB => same_true p1 p2 ls n c1 c2 w hn hA hB hl)
  have q1 : (j.toList == j.toList) = true := by simp
  clear hn hl
  go_enter Tryd.func14, Tryd.ntmps14
  go_wp2_with (go_at_call 20; refine (H.out _ ((hA.alloc _).alloc _) ((hB.alloc _).alloc _)).mono ?_)
  first | rintro e w1 rfl k rfl | rintro e w1 k rfl rfl | rintro e w1 ⟨rfl, k, rfl⟩
  go_wp2_with fail
  go_ret
  exact ⟨rfl, below_drewN (((Below.refl _ _).alloc (Nat.le_refl _) _).alloc (by simp) _) k⟩
end Go.Proofs.YthnaninhbofeoaaDoor
