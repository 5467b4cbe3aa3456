/- Contracts: cmp.Or (two integers), label.Compare, label.Without. -/
import Derived.Test.YtpnpgjjbincigaaPoI
import Derived.Test.YtpnpgjjbincigaaMadeD
import Derived.Test.YtpnpgjjbincigaaCanO
import Derived.Test.YtpnpgjjbincigaaCanP
import Derived.Test.YtpnpgjjbincigaaLabC
import Derived.Deep.RegionHeld3
import Derived.BigQuiet
import Derived.Maps.RangeWalk
import Derived.Maps.OwnOps
import Derived.Maps.OwnSet
import Derived.Maps.StringElems
import Derived.Sort.OwnSorted
import Derived.Laws.OwnMore
import Derived.Lib.SliceRun
import Derived.Laws.StructEq
import Derived.Laws.AppendOwnNone
import Derived.WalkArith
import Derived.Deep.AppendLies
namespace Go.Proofs.Ytpnpgjjbincigaa
open Go.RowKit

/-- the first integer that is not 0 -/
def Lab.or2 (a b : Int) : Int := if a = 0 then b else a
/-- two labels compared: by their names, then by their values -/
def Lab.c1 (x y : Lab.L) : Int := Lab.or2 (Lab.cf x y) (Lib.compareBytes (Lab.bs x.v) (Lab.bs y.v))
def Lab.cmpL : List Lab.L → List Lab.L → Int
  | [], [] => 0
  | [], _ :: _ => -1
  | _ :: _, [] => 1
  | x :: a, y :: b => if Lab.c1 x y = 0 then Lab.cmpL a b else Lab.c1 x y
theorem Lab.cmpL_drop (a b : List Lab.L) (k : Nat) (h : k < a.length) (h2 : k < b.length) : Lab.cmpL (a.drop k) (b.drop k) = if Lab.c1 a[k] b[k] = 0 then Lab.cmpL (a.drop (k + 1)) (b.drop (k + 1)) else Lab.c1 a[k] b[k] := by
  rw [List.drop_eq_getElem_cons h, List.drop_eq_getElem_cons h2]; rfl
theorem Lab.cmpL_long (a b : List Lab.L) (k : Nat) (h : k < a.length) (h2 : b.length ≤ k) : Lab.cmpL (a.drop k) (b.drop k) = 1 := by
  rw [List.drop_eq_getElem_cons h, List.drop_eq_nil_iff.2 h2]; rfl
theorem Lab.cmpL_short (a b : List Lab.L) (k : Nat) (h : a.length ≤ k) : Lab.cmpL (a.drop k) (b.drop k) = if k < b.length then -1 else 0 := by
  rw [List.drop_eq_nil_iff.2 h]
  by_cases h2 : k < b.length
  · rw [if_pos h2, List.drop_eq_getElem_cons h2]; rfl
  · rw [if_neg h2, List.drop_eq_nil_iff.2 (by omega)]; rfl
end Go.Proofs.Ytpnpgjjbincigaa
