/- Contract of gaugerkit: SameTarget (of the same targets). Contracts of gaugerkit: SameLabels, SameTarget, of whatever labels and targets. -/
import Derived.Test.YtpnpgjjbincigaaKitB
namespace Go.Proofs.Ytpnpgjjbincigaa
open Go.RowKit

set_option maxHeartbeats 800000 in
theorem sametarget_true (j : ByteArray) (p1 p2 : Option Addr) (ls : List Lab.L) (n c1 c2 : Nat) (w : World) (hn : ls.length = n) (hA : Lab.At p1 ls w) (hB : Lab.At p2 ls w) (hl : n ≤ maxLen) :
    Calls Try.prog 19 #[.agg #[.string j, .slice p1 n c1], .agg #[.string j, .slice p2 n c2]] w fun e w' => e = .returned (.bool true) ∧ Below w.heap.size w w' := by
  have H := Lib.hid (fun w hA hB => same_true p1 p2 ls n c1 c2 w hn hA hB hl)
  have q1 : (j.toList == j.toList) = true := by simp
  clear hn hl
  go_enter Try.func19, Try.ntmps19
  go_wp2_with (go_at_call 50; refine (H.out _ ((hA.alloc _).alloc _) ((hB.alloc _).alloc _)).mono ?_)
  first | rintro e w1 rfl k rfl | rintro e w1 k rfl rfl | rintro e w1 ⟨rfl, k, rfl⟩
  go_wp2_with fail
  go_ret
  exact ⟨rfl, below_drewN (((Below.refl _ _).alloc (Nat.le_refl _) _).alloc (by simp) _) k⟩
end Go.Proofs.Ytpnpgjjbincigaa
namespace Go.Proofs.Ytpnpgjjbincigaa
open Go.RowKit

theorem Lab.bytes_beq (a b : ByteArray) : (a.toList == b.toList) = decide (Lab.bs a = Lab.bs b) := by
  rw [ByteArray.toList_eq, ByteArray.toList_eq]
  rw [Bool.eq_iff_iff]; simp [Lab.bs]
theorem Lab.bs_inj {a b : ByteArray} (h : Lab.bs a = Lab.bs b) : a = b := by
  cases a; cases b
  unfold Lab.bs at h
  simp at h
  rw [h]
theorem neqLab2 (x y : Lab.L) (hxy : x ≠ y) (w : World) : (binOp .neq 37 (.agg #[.string x.n, .string x.v]) (.agg #[.string y.n, .string y.v])).run Try.prog w = .ok (.bool true) w := by
  have hS : Try.prog.underlying 37 = some (.struct (Try.prog.fieldsOf 37)) := by kernel_rfl
  have hp : Try.prog.stoodInHeld 37 = false := by kernel_rfl
  rw [run_neq_struct, show (10000 : Nat) = 9999 + 1 from rfl, run_equalIn_agg w 9999 37 _ _ hS hp]
  have u9 := Try.underlying9
  have a9 := Try.isAgg9
  have z9 := Try.sizeOf9
  simp only [Program.fieldsOf, Try.underlying37]
  by_cases hn : x.n = y.n
  · have hv : x.v ≠ y.v := fun e => hxy (by cases x; cases y; simp_all)
    have q1 : (x.n.toList == y.n.toList) = true := by rw [Lab.bytes_beq, hn]; simp
    have q2 : (x.v.toList == y.v.toList) = false := by rw [Lab.bytes_beq]; exact decide_eq_false fun e => hv (Lab.bs_inj e)
    go_simp
  · have q1 : (x.n.toList == y.n.toList) = false := by rw [Lab.bytes_beq]; exact decide_eq_false fun e => hn (Lab.bs_inj e)
    go_simp

set_option maxHeartbeats 1600000 in
theorem same_is (p1 p2 : Option Addr) (a b : List Lab.L) (n m c1 c2 : Nat) (r : Bool) (h : r = true ↔ a = b) (w : World) (hn : a.length = n) (hm : b.length = m) (hA : Lab.At p1 a w) (hB : Lab.At p2 b w) (hl : n ≤ maxLen) (hl2 : m ≤ maxLen) :
    Calls Try.prog 50 #[.slice p1 n c1, .slice p2 m c2] w fun e w' => e = .returned (.bool r) ∧ ∃ k, w' = w.drewN k := by
  by_cases hab : a = b
  · subst hab
    obtain rfl : r = true := h.2 rfl
    obtain rfl : n = m := hn.symm.trans hm
    exact same_true p1 p2 a n c1 c2 w hn hA hB hl
  obtain rfl : r = false := by cases r <;> simp_all
  unfold maxLen at hl hl2
  by_cases hnm : n = m
  · subst hnm
    have HN := Lib.hid hn
    have HM := Lib.hid hm
    have HNE : Hid (¬ ∀ i (h1 : i < a.length) (h2 : i < b.length), a[i] = b[i]) := fun hall => hab (List.ext_getElem (hn.trans hm.symm) hall)
    have q0 : ((n : Int) != (n : Int)) = false := by simp
    clear hn hm h hab
    go_enter Try.func50, Try.ntmps50
    go_wp2_with fail
    go_loopw [5] (fun i wr => ∃ k : Nat, k ≤ n ∧ i = .int .i64 k ∧ Hid (∀ i (h1 : i < a.length) (h2 : i < b.length), i < k → a[i] = b[i]) ∧ ∃ m, wr = w.drewN m) (fun i _ => n - (intOf i).toNat)
    case atStart => exact ⟨0, Nat.zero_le _, rfl, fun i _ _ hi => absurd hi (by omega), 0, rfl⟩
    case round =>
      obtain ⟨k, hk, rfl, HK, m, rfl⟩ := hrel
      by_cases hlt : k < n
      · have hkl : k < a.length := by rw [HN.out]; exact hlt
        have hkl2 : k < b.length := by rw [HM.out]; exact hlt
        obtain ⟨b1, o1, rfl, hc1⟩ := hA.open k hkl
        obtain ⟨b2, o2, rfl, hc2⟩ := hB.open k hkl2
        have d0 := (hc1 k hkl).1
        have d1 := (hc1 k hkl).2
        have e0 := (hc2 k hkl2).1
        have e1 := (hc2 k hkl2).2
        by_cases hxy : a[k] = b[k]
        · have HK2 : Hid (∀ i (h1 : i < a.length) (h2 : i < b.length), i < k + 1 → a[i] = b[i]) := fun i h1 h2 hi => by
            by_cases e : i = k
            · subst e; exact hxy
            · exact HK.out i h1 h2 (by omega)
          rw [← hxy] at e0 e1
          obtain ⟨x, hx⟩ : ∃ x, a[k] = x := ⟨_, rfl⟩
          rw [hx] at d0 d1 e0 e1
          have hneq := neqLab x
          clear hc1 hc2 hx hA hB hxy HK
          go_wp2_with fail
          go_quiet (fail)
          go_wp2_with fail
          go_roundw
          case rel => exact ⟨k + 1, by omega, by go_num, HK2, _, rfl⟩
          case measure => simp [intOf]; omega
        · have hneq := fun w => neqLab2 _ _ hxy w
          obtain ⟨x, hx⟩ : ∃ x, a[k] = x := ⟨_, rfl⟩
          obtain ⟨y, hy⟩ : ∃ y, b[k] = y := ⟨_, rfl⟩
          rw [hx] at d0 d1 hneq
          rw [hy] at e0 e1 hneq
          clear hc1 hc2 hx hy hA hB hxy HK
          go_wp2_with fail
          go_quiet (fail)
          go_wp2_with fail
          go_ret
          exact ⟨rfl, _, by rw [World.drewN_drewN]⟩
      · exact absurd (fun i h1 h2 => HK.out i h1 h2 (by have := HN.out; omega)) HNE.out
  · have q0 : ((n : Int) != (m : Int)) = true := by simp; omega
    clear hn hm h hab hA hB
    go_enter Try.func50, Try.ntmps50
    go_wp2_with fail
    go_ret
    exact ⟨rfl, 0, rfl⟩

set_option maxHeartbeats 1600000 in
theorem sametarget_is (i j : ByteArray) (p1 p2 : Option Addr) (a b : List Lab.L) (n m c1 c2 : Nat) (r : Bool) (h : r = true ↔ (i = j ∧ a = b)) (w : World) (hn : a.length = n) (hm : b.length = m) (hA : Lab.At p1 a w) (hB : Lab.At p2 b w) (hl : n ≤ maxLen) (hl2 : m ≤ maxLen) :
    Calls Try.prog 19 #[.agg #[.string i, .slice p1 n c1], .agg #[.string j, .slice p2 m c2]] w fun e w' => e = .returned (.bool r) ∧ Below w.heap.size w w' := by
  by_cases hij : i = j
  · subst hij
    have H := Lib.hid (fun w hA hB => same_is p1 p2 a b n m c1 c2 r (by rw [h]; simp) w hn hm hA hB hl hl2)
    have q1 : (i.toList == i.toList) = true := by simp
    clear hn hm h hl hl2
    go_enter Try.func19, Try.ntmps19
    go_wp2_with (go_at_call 50; refine (H.out _ ((hA.alloc _).alloc _) ((hB.alloc _).alloc _)).mono ?_)
    first | rintro e w1 rfl k rfl | rintro e w1 k rfl rfl | rintro e w1 ⟨rfl, k, rfl⟩
    go_wp2_with fail
    go_ret
    exact ⟨rfl, below_drewN (((Below.refl _ _).alloc (Nat.le_refl _) _).alloc (by simp) _) k⟩
  · obtain rfl : r = false := by cases r <;> simp_all
    have q1 : (i.toList == j.toList) = false := by
      rw [Lab.bytes_beq]
      exact decide_eq_false fun e => hij (Lab.bs_inj e)
    clear hn hm h hl hl2 hA hB hij
    go_enter Try.func19, Try.ntmps19
    go_wp2_with fail
    go_ret
    exact ⟨rfl, ((Below.refl _ _).alloc (Nat.le_refl _) _).alloc (by simp) _⟩
end Go.Proofs.Ytpnpgjjbincigaa
