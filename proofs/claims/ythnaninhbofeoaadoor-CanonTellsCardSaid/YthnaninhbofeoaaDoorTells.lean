/- The walk of CanonTells. -/
import Derived.Test.YthnaninhbofeoaaDoorTell
import Derived.Test.YthnaninhbofeoaaDoorAwk
namespace Go.Proofs.YthnaninhbofeoaaDoor
open Go.RowKit

set_option maxHeartbeats 1600000 in
set_option maxRecDepth 100000 in
theorem walk_CanonTells (p : Option Addr) (ls : List Lab.L) (n c : Nat) (s : ByteArray) (m : Int) (w : World) (hn : ls.length = n) (hA : Lab.At p ls w) (hp : p = none → c = 0) (hF : Lab.Fit maxLen ls) (hl : n ≤ maxLen) (hs : s.size ≤ maxLen)
    (hm : w.cell? ⟨0, 0, none⟩ = some (.int .i64 m)) :
    Calls Tryd.prog 3 #[.slice p n c, .string s] w fun e w' => e = .returned (.bool true) ∧ Below w.heap.size w w' := by
  have HT := Lib.hid (ctells_true p ls n c s m w hn hA hp hF hl hs hm)
  have HA := Lib.hid (fun w hm => awake_true m w hm)
  clear hn hA hp hF hl hs
  go_enter Tryd.func3, Tryd.ntmps3
  go_wp2_with (go_at_call 8; refine HT.out.mono ?_)
  first | rintro e w1 rfl hb1 | rintro e w1 ⟨rfl, hb1⟩
  have hm1 := cell_later hb1 hm (Nat.le_refl _)
  go_wp2_with (go_at_call 9; refine (HA.out _ hm1).mono ?_)
  first | rintro e w2 rfl hb2 | rintro e w2 ⟨rfl, hb2⟩
  go_wp2_with fail
  go_ret
  exact ⟨rfl, below_next hb1 hb2⟩
end Go.Proofs.YthnaninhbofeoaaDoor
