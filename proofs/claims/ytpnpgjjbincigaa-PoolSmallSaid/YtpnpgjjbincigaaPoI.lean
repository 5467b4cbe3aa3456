/- Rows of labels under the library's sort; rows of the call's own under stores. Contracts of the library at labels: slices.Clone, SortFunc (by names), IndexFunc and DeleteFunc (of empty values). Contract of slices.DeleteFunc at labels (of empty values). Contracts of label: bound, Of. Plain laws: the labels and targets that Made makes. No program in sight. Contract of the law's own maker: Made (a target in small numbers). -/
import Derived.Test.YtpnpgjjbincigaaCanO
import Derived.Test.YtpnpgjjbincigaaMadeD
import Derived.Test.YtpnpgjjbincigaaKitB
import Derived.Test.YtpnpgjjbincigaaCnW
import Derived.Sort.OwnSorted
import Derived.Laws.OwnMore
import Derived.Lib.SliceRun
import Derived.BigQuiet
import Derived.Test.YtpnpgjjbincigaaOneP
import Derived.Test.YtpnpgjjbincigaaSame
import Derived.Test.YtpnpgjjbincigaaCanA
import Derived.Test.YtpnpgjjbincigaaLabM
import Derived.Test.YtpnpgjjbincigaaCanP
import Derived.Deep.AppendLies
import Derived.StillTailTactics
import Derived.Deep.RegionLawGrows
import Derived.Deep.Upon
import Derived.WalkKit
import Derived.ProofKit
import Derived.OpenShut
import Derived.ShutString
import Derived.Carry
import Derived.ChangeSame
import Derived.Deep.DeepHandedRow
import Derived.Deep.SlicePairs
import Derived.Lib.LaidU8
import Derived.Orders
import Derived.Deep.RegionHeld3
import Derived.Lib.SplitLaws
import Derived.Lib.IndexBytes
namespace Go.Proofs.Ytpnpgjjbincigaa
open Go.RowKit Go.Sort Go.Shelf

instance : Inhabited Lab.L := ⟨⟨⟨#[]⟩, ⟨#[]⟩⟩⟩
end Go.Proofs.Ytpnpgjjbincigaa
namespace Go.Proofs.Ytpnpgjjbincigaa
open Go.RowKit Go.Sort Go.Shelf

/-- how names are compared -/
def Lab.cf (x y : Lab.L) : Int := Lib.compareBytes (Lab.bs x.n) (Lab.bs y.n)
end Go.Proofs.Ytpnpgjjbincigaa
namespace Go.Proofs.Ytpnpgjjbincigaa
open Go.RowKit Go.Sort Go.Shelf

theorem Lab.cells_set (M : List Lab.L) (i : Nat) (x : Lab.L) : ((Lab.cells M).set (i * 2) (.string x.n)).set (i * 2 + 1) (.string x.v) = Lab.cells (M.set i x) := by
  induction M generalizing i with
  | nil => simp [Lab.cells]
  | cons y r ih =>
    have e : ∀ (z : Lab.L) (l : List Lab.L), Lab.cells (z :: l) = .string z.n :: .string z.v :: Lab.cells l := fun z l => by simp [Lab.cells]
    cases i with
    | zero => rw [e]; simp [e]
    | succ i =>
      rw [e, show (i + 1) * 2 = i * 2 + 1 + 1 by omega]
      simp only [List.set_cons_succ]
      rw [e, ih i]
theorem OwnLabels.stored {B g cap n : Nat} {M : List Lab.L} {w : World} (h : OwnLabels B (.slice (some ⟨g, 0, none⟩) n cap) M w) (hn : M.length = n) (i : Nat) (x : Lab.L) :
    OwnLabels B (.slice (some ⟨g, 0, none⟩) n cap) (M.set i x) ((w.setCell ⟨g, i * 2, none⟩ (.string x.n)).setCell ⟨g, i * 2 + 1, none⟩ (.string x.v)) := by
  subst hn
  have h1 := (World.ownsRow.stored h (i * 2) (.string x.n)).1
  have h2 := (World.ownsRow.stored h1 (i * 2 + 1) (.string x.v)).1
  unfold OwnLabels
  rw [← Lab.cells_set, List.length_set]
  exact h2
end Go.Proofs.Ytpnpgjjbincigaa
namespace Go.Proofs.Ytpnpgjjbincigaa.Lab

/-- the right labels that small numbers make -/
def tl (xs : List Sm) : List L := full (srt (made xs))
theorem one_fit (x : L) (h : one x = 0) : x.n.size ≤ 128 ∧ x.v.size ≤ 1024 := by
  unfold one at h
  split at h
  · rename_i h1
    split at h
    · rename_i h2
      unfold named at h1
      unfold value at h2
      simp only [Bool.and_eq_true, decide_eq_true_eq] at h1 h2
      have e1 : (bs x.n).length = x.n.size := Array.length_toList
      have e2 : (bs x.v).length = x.v.size := Array.length_toList
      omega
    · simp at h
  · simp at h
theorem right_fit (ls : List L) (h : right ls = true) : Fit 1100 ls ∧ ls.length ≤ 64 := ⟨fun x hx => by
  have := one_fit x ((right_parts ls h).2 x hx)
  omega, (right_parts ls h).1⟩
end Go.Proofs.Ytpnpgjjbincigaa.Lab
namespace Go.Proofs.Ytpnpgjjbincigaa
theorem Can.job_size (J : ByteArray) (h : Can.job (Lab.bs J) = true) : J.size ≤ 128 := by
  unfold Can.job at h
  simp only [Bool.and_eq_true, decide_eq_true_eq] at h
  have e : (Lab.bs J).length = J.size := Array.length_toList
  omega
end Go.Proofs.Ytpnpgjjbincigaa
