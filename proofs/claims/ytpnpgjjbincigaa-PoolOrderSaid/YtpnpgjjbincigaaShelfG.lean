/-
  Lay of the kit's shelf: slices.Grow at targets, before lay-plain.
-/
import Derived.Shelf.Lay
import Derived.Shelf.LaySoft
import Derived.Shelf.Spec.SlicesGrow
import Derived.Test.YtpnpgjjbincigaaProg
set_option maxHeartbeats 0
set_option maxRecDepth 1000000
namespace Go.Proofs
open Go.Shelf
shelf_try shelf_lay_g Lays8.n4 Nm8 4 at Try 70 as Try.growT
shelf_tried
end Go.Proofs
