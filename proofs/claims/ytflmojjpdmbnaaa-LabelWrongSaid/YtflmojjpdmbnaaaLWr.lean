/- The walk of LabelWrong: the law returns true for every input. (Printed by gen_wr.py.) -/
import Derived.Test.YtflmojjpdmbnaaaLWrA
import Derived.Test.YtflmojjpdmbnaaaLWrB
import Derived.Test.YtflmojjpdmbnaaaLWrD
import Derived.Test.YtflmojjpdmbnaaaLWrE
import Derived.Test.YtflmojjpdmbnaaaLWrF
namespace Go.Proofs.Ytflmojjpdmbnaaa
open Go.RowKit

theorem walk_LabelWrong (a0 : Option Addr) (xs0 : List Lab.Sm) (len0 cap0 : Nat) (n1 n2 : Int) (w : World)
    (hlen0 : xs0.length = len0) (hAt0 : Lab.SmAt a0 xs0 w) (hFit0 : Lab.SmFit xs0) (hlc0 : len0 ≤ cap0) (hmax0 : cap0 ≤ maxLen) (wn1 : (Lit.int .u8 n1).wf = true) (wn2 : (Lit.int .u8 n2).wf = true) :
    Calls Try.prog 11 #[.slice a0 len0 cap0, .int .u8 n1, .int .u8 n2] w fun e w' => e = .returned (.bool true) ∧ Below w.heap.size w w' := by
  obtain ⟨wy, hwy, rfl⟩ : ∃ k : Nat, k < 256 ∧ n1 = (k : Int) := by
    have h1 := row.wf_u8 wn1
    exact ⟨_, h1.2, by simpa using h1.1⟩
  have h : wy % 7 = 0 ∨ wy % 7 = 1 ∨ wy % 7 = 2 ∨ wy % 7 = 3 ∨ wy % 7 = 4 ∨ wy % 7 = 5 ∨ wy % 7 = 6 := by omega
  rcases h with h | h | h | h | h | h | h
  · exact walk_wrA a0 xs0 len0 cap0 _ n2 w hlen0 hAt0 hFit0 hlc0 hmax0 wn2 ⟨wy, hwy, rfl, h⟩
  · exact walk_wrB a0 xs0 len0 cap0 _ n2 w hlen0 hAt0 hFit0 hlc0 hmax0 wn2 ⟨wy, hwy, rfl, h⟩
  · exact walk_wrD a0 xs0 len0 cap0 _ n2 w hlen0 hAt0 hFit0 hlc0 hmax0 wn2 ⟨wy, hwy, rfl, (.inl h)⟩
  · exact walk_wrE a0 xs0 len0 cap0 _ n2 w hlen0 hAt0 hFit0 hlc0 hmax0 wn2 ⟨wy, hwy, rfl, (.inl h)⟩
  · exact walk_wrD a0 xs0 len0 cap0 _ n2 w hlen0 hAt0 hFit0 hlc0 hmax0 wn2 ⟨wy, hwy, rfl, (.inr h)⟩
  · exact walk_wrE a0 xs0 len0 cap0 _ n2 w hlen0 hAt0 hFit0 hlc0 hmax0 wn2 ⟨wy, hwy, rfl, (.inr h)⟩
  · exact walk_wrF a0 xs0 len0 cap0 _ n2 w hlen0 hAt0 hFit0 hlc0 hmax0 wn2 ⟨wy, hwy, rfl, h⟩
end Go.Proofs.Ytflmojjpdmbnaaa
