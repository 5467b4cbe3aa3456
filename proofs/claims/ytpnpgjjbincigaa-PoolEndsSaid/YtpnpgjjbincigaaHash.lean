/- Contracts of hash: bytes (the iterator), Add, Sum. -/
import Derived.RangeFuncNested
import Derived.RangeFuncBound
import Derived.RangeFuncBox
import Derived.RangeFuncCalls
import Derived.RangeFuncLeaves
import Derived.Shelf.Abstract
import Derived.Shelf.RegionOpen
import Derived.WalkKit
import Derived.OwnWalkIn
import Derived.TacticsInMore
import Derived.LoopNIn
import Derived.LoopIn
import Derived.Laws.Bits64
import Derived.Laws.Bits64b
import Derived.Test.YtpnpgjjbincigaaCanP
import Derived.Test.YtpnpgjjbincigaaUtfC
namespace Go.Proofs.Ytpnpgjjbincigaa
open Go.RowKit Go.Shelf
attribute [local go_sem] Oper.semAt_some

/-- what has come when k rounds are over -/
def Can.upto (s : ByteArray) (k : Nat) : List UInt8 := s.data.toList.take k
theorem Can.upto_succ (s : ByteArray) (k : Nat) (h : k < s.size) : Can.upto s (k + 1) = Can.upto s k ++ [s[k]] := by
  unfold Can.upto
  rw [List.take_add_one, List.getElem?_eq_getElem (by rw [Array.length_toList]; exact h)]
  rfl
theorem Can.upto_length (s : ByteArray) (k : Nat) (h : k ≤ s.size) : (Can.upto s k).length = k := by
  unfold Can.upto
  rw [List.length_take, Array.length_toList]
  exact Nat.min_eq_left h
/-- a round that goes on keeps the two boxes -/
def Can.Keep (Bs Bb : Nat) (W W' : World) : Prop := (∀ v, W.cell? ⟨Bs, 0, none⟩ = some v → W'.cell? ⟨Bs, 0, none⟩ = some v) ∧ ∀ v, W.cell? ⟨Bb, 0, none⟩ = some v → W'.cell? ⟨Bb, 0, none⟩ = some v
theorem Can.Keep.refl (Bs Bb : Nat) (W : World) : Can.Keep Bs Bb W W := ⟨fun _ h => h, fun _ h => h⟩
theorem Can.Keep.trans {Bs Bb : Nat} {A B C : World} (h : Can.Keep Bs Bb A B) (k : Can.Keep Bs Bb B C) : Can.Keep Bs Bb A C := ⟨fun v e => k.1 v (h.1 v e), fun v e => k.2 v (h.2 v e)⟩
theorem Can.Keep.put {Bs Bb : Nat} (W : World) (l : Nat) (o o' : Obj) (h : W.heap[l]? = some o) (hc : o.isCells = false) : Can.Keep Bs Bb W (W.putObj l o') :=
  ⟨fun _ hv => cell_kept hv (grownBy_putObj' W l o') (fun r e => by cases e; exact ⟨o, h, hc⟩), fun _ hv => cell_kept hv (grownBy_putObj' W l o') (fun r e => by cases e; exact ⟨o, h, hc⟩)⟩
theorem Can.Keep.set {Bs Bb : Nat} (W : World) (B : Nat) (v : Value) (h1 : B ≠ Bs) (h2 : B ≠ Bb) : Can.Keep Bs Bb W (W.setCell ⟨B, 0, none⟩ v) :=
  ⟨fun u hu => (World.cell?_setCell_other _ _ _ _ (by intro e; cases e; exact h1 rfl)).trans hu, fun u hu => (World.cell?_setCell_other _ _ _ _ (by intro e; cases e; exact h2 rfl)).trans hu⟩

theorem Can.sum_snoc (h : Nat) (l : List UInt8) (x : UInt8) : Can.sum h (l ++ [x]) = Can.step (Can.sum h l) x := by
  unfold Can.sum
  rw [List.foldl_append, List.foldl_cons, List.foldl_nil]

theorem Can.step_is (h : Nat) (c : UInt8) (hh : h < 18446744073709551616) : IntKind.u64.wrap (bits .xor .u64 (h : Int) (c.toNat : Int) * 1099511628211) = (Can.step h c : Nat) := by
  rw [bits_xor_u64_nat h c.toNat hh (by have := c.toNat_lt; omega), IntKind.wrap_u64]
  unfold Can.step
  omega

end Go.Proofs.Ytpnpgjjbincigaa
