/- Contract of gaugerkit.SameLabelLists, of equal lists of labels. -/
import Derived.Test.YtbilaghljlobpaaGreatL4K
import Derived.BigQuiet
namespace Go.Proofs.YtbilaghljlobpaaGreat
open Go.RowKit

/-- labels, as they stand in a slice of labels -/
structure Lab.Sl where
  p : Option Addr
  n : Nat
  c : Nat
  ls : List Lab.L
def Lab.SlAt (b : Nat) (ts : List Lab.Sl) (w : World) : Prop := ∀ i (h : i < ts.length), w.cell? ⟨b, i, none⟩ = some (.slice ts[i].p ts[i].n ts[i].c) ∧ Lab.At ts[i].p ts[i].ls w

set_option maxHeartbeats 1600000 in
set_option maxRecDepth 100000 in
theorem samelists_true (b1 b2 c1 c2 : Nat) (xs bs : List Lab.Sl) (n : Nat) (w : World) (hn : xs.length = n) (hm : bs.length = n) (hA : Lab.SlAt b1 xs w) (hB : Lab.SlAt b2 bs w) (hj : xs.map (·.ls) = bs.map (·.ls)) (fa : ∀ t ∈ xs, t.ls.length = t.n ∧ t.n ≤ 1000) (fb : ∀ t ∈ bs, t.ls.length = t.n ∧ t.n ≤ 1000) (hl : n ≤ 1000) :
    Calls Tryz.prog 48 #[.slice (some ⟨b1, 0, none⟩) n c1, .slice (some ⟨b2, 0, none⟩) n c2] w fun e w' => e = .returned (.bool true) ∧ Below w.heap.size w w' := by
  have HN := Lib.hid hn
  have HM := Lib.hid hm
  have HA := Lib.hid hA
  have HB := Lib.hid hB
  have HJ := Lib.hid hj
  have HFA := Lib.hid fa
  have HFB := Lib.hid fb
  clear hn hm hA hB hj fa fb
  go_enter Tryz.func48, Tryz.ntmps48
  go_wp2_with fail
  go_loopw [5] (fun i wr => ∃ k : Nat, k ≤ n ∧ i = .int .i64 (k : Int) ∧ Below w.heap.size w wr) (fun i _ => n - (intOf i).toNat)
  case atStart => exact ⟨0, Nat.zero_le _, rfl, Below.refl _ _⟩
  case round =>
    obtain ⟨k, hk, rfl, hb⟩ := hrel
    by_cases hlt : k < n
    · have h1 : k < xs.length := by rw [HN.out]; exact hlt
      have h2 : k < bs.length := by rw [HM.out]; exact hlt
      have x0 := cell_later hb (HA.out k h1).1 (Nat.le_refl _)
      have xA := (HA.out k h1).2.below hb (Nat.le_refl _)
      have y0 := cell_later hb (HB.out k h2).1 (Nat.le_refl _)
      have yA := (HB.out k h2).2.below hb (Nat.le_refl _)
      have f1 := HFA.out xs[k] (List.getElem_mem _)
      have f2 := HFB.out bs[k] (List.getElem_mem _)
      have e : xs[k].ls = bs[k].ls := by
        have h3 : (xs.map (·.ls))[k]? = (bs.map (·.ls))[k]? := by rw [HJ.out]
        rw [List.getElem?_map, List.getElem?_map, List.getElem?_eq_getElem h1, List.getElem?_eq_getElem h2] at h3
        exact Option.some.inj h3
      obtain ⟨x, hx⟩ : ∃ x, xs[k] = x := ⟨_, rfl⟩
      obtain ⟨y, hy⟩ : ∃ y, bs[k] = y := ⟨_, rfl⟩
      rw [hx] at x0 xA f1 e
      rw [hy] at y0 yA f2 e
      obtain ⟨p1, m1, d1, l1⟩ := x
      obtain ⟨p2, m2, d2, l2⟩ := y
      dsimp only at x0 xA f1 e y0 yA f2
      subst e
      obtain rfl : m1 = m2 := f1.1.symm.trans f2.1
      have HS := Lib.hid (fun w hA hB => same_true p1 p2 l1 m1 d1 d2 w f1.1 hA hB (by unfold maxLen; omega))
      have HX := Lib.hid xA
      have HY := Lib.hid yA
      have n1 : (0 : Int) ≤ (k : Int) := by omega
      have n2 : (k : Int) < (n : Int) := by omega
      clear hx hy f1 f2 xA yA
      go_wp2_with fail
      go_quiet ((go_at_call 65; exact Calls.quiet_of (HS.out _ HX.out HY.out)))
      go_wp2_with fail
      go_roundw
      case rel => exact ⟨k + 1, by omega, by go_num, below_drewN hb _⟩
      case measure => simp [intOf]; omega
    · have n2 : (n : Int) ≤ (k : Int) := by omega
      go_wp2_with fail
      go_ret
      exact ⟨rfl, hb⟩
end Go.Proofs.YtbilaghljlobpaaGreat
