/- Contracts of canon: keys, First, Sort, of no targets; plain facts of the targets that all makes (the first part of XFirst, for the seat .ZD). Plain laws: sorted targets are in strictly increasing order, all are there, and there is one such list alone. What CanonOrder asks of sorting, comparing and appending, of targets that are right. Contract of gaugerkit.SameTargets (of the same targets). -/
import Derived.Test.YtpnpgjjbincigaaSortT
import Derived.Test.YtpnpgjjbincigaaSame
import Derived.Test.YtpnpgjjbincigaaCnW
import Derived.Test.YtpnpgjjbincigaaLabM
import Derived.BigQuiet
import Derived.Deep.RegionHeld3
import Derived.Deep.AppendLies
import Derived.Laws.AppendOwnNone
import Derived.WalkKit
import Derived.ProofKit
import Derived.OpenShut
import Derived.ShutString
import Derived.Carry
import Derived.ChangeSame
import Derived.Deep.DeepHandedRow
import Derived.Deep.SlicePairs
import Derived.Lib.LaidU8
namespace Go.Proofs.Ytpnpgjjbincigaa
open Go.RowKit

theorem Can.TAt.cells {b o : Nat} {ts : List Can.T} {w : World} (h : Can.TAt b o ts w) : ∀ j u, (Can.tcells ts)[j]? = some u → w.cell? ⟨b, o + j, none⟩ = some u := by
  intro j u hj
  have hlt : j < ts.length * 2 := by
    have := (List.getElem?_eq_some_iff.1 hj).1
    rw [Can.tcells_length] at this
    exact this
  have hi : j / 2 < ts.length := by omega
  have h1 := Can.tcells_get ts (j / 2) hi
  have h2 := h (j / 2) hi
  rcases Nat.mod_two_eq_zero_or_one j with e | e
  · have ej : j / 2 * 2 = j := by omega
    rw [ej] at h1 h2
    rw [h1.1] at hj
    rw [h2.1]
    exact hj
  · have ej : j / 2 * 2 + 1 = j := by omega
    rw [Nat.add_assoc, ej] at h2
    rw [ej] at h1
    rw [h1.2] at hj
    rw [h2.2.1]
    exact hj
theorem Can.TAt.drop {b o : Nat} {ts : List Can.T} {w : World} (h : Can.TAt b o ts w) (k : Nat) : Can.TAt b (o + k * 2) (ts.drop k) w := by
  intro i hi
  rw [List.length_drop] at hi
  have := h (k + i) (by omega)
  rw [List.getElem_drop]
  rw [show o + k * 2 + i * 2 = o + (k + i) * 2 by omega]
  exact this
theorem Can.TAt.take {b o : Nat} {ts : List Can.T} {w : World} (h : Can.TAt b o ts w) (k : Nat) : Can.TAt b o (ts.take k) w := by
  intro i hi
  rw [List.length_take] at hi
  have := h i (by omega)
  rw [List.getElem_take]
  exact this
end Go.Proofs.Ytpnpgjjbincigaa
namespace Go.Proofs.Ytpnpgjjbincigaa
open Go.RowKit

theorem chainT {W w1 w2 : World} (h : Below W.heap.size W w1) (k : Below w1.heap.size w1 w2) : Below W.heap.size W w2 := h.trans (k.mono h.size)
/-- targets at an address; none: whatever address -/
def Can.TPos (p : Option Addr) (ts : List Can.T) (w : World) : Prop := ts = [] ∨ ∃ b o, p = some ⟨b, o, none⟩ ∧ b < w.heap.size ∧ Can.TAt b o ts w
theorem Can.TPos.below {p : Option Addr} {ts : List Can.T} {B : Nat} {w w' : World} (h : Can.TPos p ts w) (hb : Below B w w') (hB : w.heap.size ≤ B) : Can.TPos p ts w' := by
  rcases h with h | ⟨b, o, h1, h2, h3⟩
  · exact .inl h
  · exact .inr ⟨b, o, h1, Nat.lt_of_lt_of_le h2 hb.size, h3.belowT hb hB⟩
set_option maxHeartbeats 1600000 in
set_option maxRecDepth 100000 in
theorem sametargets_gen (p1 p2 : Option Addr) (a b : List Can.T) (n c1 c2 : Nat) (w : World) (hn : a.length = n) (hm : b.length = n) (hA : Can.TPos p1 a w) (hB : Can.TPos p2 b w) (hj : a.map Can.jl = b.map Can.jl) (fa : ∀ t ∈ a, t.ls.length = t.n ∧ t.ls.length ≤ maxLen) (fb : ∀ t ∈ b, t.ls.length = t.n) (hl : n ≤ 1000) :
    Calls Try.prog 20 #[.slice p1 n c1, .slice p2 n c2] w fun e w' => e = .returned (.bool true) ∧ Below w.heap.size w w' := by
  have HN := Lib.hid hn
  have HM := Lib.hid hm
  have HJ : Hid (∀ i (h1 : i < a.length) (h2 : i < b.length), a[i].job = b[i].job ∧ a[i].ls = b[i].ls) := by
    show ∀ i, _
    intro i h1 h2
    have e : (a.map Can.jl)[i]? = (b.map Can.jl)[i]? := by rw [hj]
    rw [List.getElem?_map, List.getElem?_map, List.getElem?_eq_getElem h1, List.getElem?_eq_getElem h2] at e
    simpa [Can.jl] using e
  have HFA : Hid (∀ i (h1 : i < a.length), a[i].ls.length = a[i].n ∧ a[i].ls.length ≤ maxLen) := fun i h1 => fa _ (List.getElem_mem _)
  have HFB : Hid (∀ i (h1 : i < b.length), b[i].ls.length = b[i].n) := fun i h1 => fb _ (List.getElem_mem _)
  have q0 : ((n : Int) != (n : Int)) = false := by simp
  clear hn hm hj fa fb
  go_enter Try.func20, Try.ntmps20
  go_wp2_with fail
  go_loopw [5] (fun i wr => ∃ k : Nat, k ≤ n ∧ i = .int .i64 k ∧ Below w.heap.size w wr) (fun i _ => n - (intOf i).toNat)
  case atStart => exact ⟨0, Nat.zero_le _, rfl, Below.refl _ _⟩
  case round =>
    obtain ⟨k, hk, rfl, hb⟩ := hrel
    have hsz := hb.size
    by_cases hlt : k < n
    · have ka : k < a.length := by rw [HN.out]; exact hlt
      have kb : k < b.length := by rw [HM.out]; exact hlt
      rcases hA with hA | ⟨ga, oa, rfl, hga, hTa⟩
      · rw [hA] at ka; simp at ka
      rcases hB with hB | ⟨gb, ob, rfl, hgb, hTb⟩
      · rw [hB] at kb; simp at kb
      obtain ⟨x0, x1, x2⟩ := hTa k ka
      obtain ⟨y0, y1, y2⟩ := hTb k kb
      obtain ⟨q1, q5⟩ := HFA.out k ka
      have q6 := HFB.out k kb
      obtain ⟨e1, e2⟩ := HJ.out k ka kb
      obtain ⟨t, ht⟩ : ∃ t, a[k] = t := ⟨_, rfl⟩
      obtain ⟨u, hu⟩ : ∃ u, b[k] = u := ⟨_, rfl⟩
      rw [ht] at x0 x1 x2 q1 q5 e1 e2
      rw [hu] at y0 y1 y2 q6 e1 e2
      clear ht hu hTa hTb
      obtain ⟨tj, tp, tn, tc, tl⟩ := t
      obtain ⟨uj, up, un, uc, ul⟩ := u
      dsimp only at x0 x1 x2 q1 q5 e1 e2 y0 y1 y2 q6
      subst e1 e2
      have e3 : tn = un := by omega
      subst e3
      have T1 := Lib.hid (fun w hA hB => sametarget_true tj tp up tl tn tc uc w q1 hA hB (by omega))
      have HKS : Hid (∀ w', Below wr.heap.size wr w' → w'.cell? ⟨ga, oa + k * 2, none⟩ = some (.string tj) ∧ w'.cell? ⟨ga, oa + k * 2 + 1, none⟩ = some (.slice tp tn tc) ∧ w'.cell? ⟨gb, ob + k * 2, none⟩ = some (.string tj) ∧ w'.cell? ⟨gb, ob + k * 2 + 1, none⟩ = some (.slice up tn uc)) := by
        show ∀ w', _
        intro w' hw
        have hw2 := chainT hb hw
        exact ⟨cell_later hw2 x0 (Nat.le_refl _), cell_later hw2 x1 (Nat.le_refl _), cell_later hw2 y0 (Nat.le_refl _), cell_later hw2 y1 (Nat.le_refl _)⟩
      have l1 : Lab.At tp tl wr.drew := x2.below hb.drew (Nat.le_refl _)
      have l2 : Lab.At up tl wr.drew := y2.below hb.drew (Nat.le_refl _)
      obtain ⟨k0, k1, k2, k3⟩ := HKS.out _ (Below.refl _ wr)
      have n5 : (0 : Int) ≤ (k : Int) := by omega
      have n6 : (k : Int) < (n : Int) := by omega
      clear x0 x1 x2 y0 y1 y2 q1 q6
      go_wp2_with fail
      go_region_held3 (fun w' => w'.cell? ⟨ga, oa + k * 2, none⟩ = some (.string tj) ∧ w'.cell? ⟨ga, oa + k * 2 + 1, none⟩ = some (.slice tp tn tc) ∧ w'.cell? ⟨gb, ob + k * 2, none⟩ = some (.string tj) ∧ w'.cell? ⟨gb, ob + k * 2 + 1, none⟩ = some (.slice up tn uc))
        (first | exact HKS.out _ ((Below.refl _ wr).drew.trans hby) | exact HKS.out _ (Below.refl _ wr).drew | go_keep)
        ((go_at_call 19; refine (T1.out _ l1 l2).mono ?_; rintro e wy ⟨rfl, hby⟩))
      have hby' : Below w.heap.size w wy := hb.drew.trans (hby.mono hsz)
      go_wp2_with fail
      go_roundw
      case rel => exact ⟨k + 1, by omega, by go_num, hby'⟩
      case measure => simp [intOf]; omega
    · have : k = n := by omega
      subst this
      go_wp2_with fail
      go_ret
      exact ⟨rfl, hb⟩
end Go.Proofs.Ytpnpgjjbincigaa
