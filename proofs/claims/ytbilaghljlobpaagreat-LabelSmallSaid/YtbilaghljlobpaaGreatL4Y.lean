/- The examples of chapter 04 hold (awake). -/
import Derived.Test.YtbilaghljlobpaaGreatL4X
import Derived.Test.YtbilaghljlobpaaGreatL4W
import Derived.Test.YtbilaghljlobpaaGreatL4L
namespace Go.Proofs.YtbilaghljlobpaaGreat
open Go.RowKit

theorem Lab.of_lit (xs : List ByteArray) (C : Array Value) (hC : C = (xs.map Value.string).toArray) (k : Nat) (hk : xs.length = k) (he : k % 2 = 0) (h0 : 0 < k) (h1 : k ≤ 1000) (ls : List Lab.L) (hls : Can.pairs (xs.map (·.data.toList)) = ls) (G : Nat) (W : World) (hG : G = W.heap.size) :
    Calls Tryz.prog 5 #[.slice (some ⟨G, 0, none⟩) k k] (W.alloc (.cells C 9)) fun e w' =>
      (∃ g c, e = .returned (.slice (some ⟨g, 0, none⟩) ls.length c) ∧ Lab.At (some ⟨g, 0, none⟩) ls w') ∧ Below W.heap.size W w' := by
  subst hG
  refine (of_is W.heap.size _ xs k ls _ (lit_texts _ _ hC W k hk h1) hk he h0 h1 hls).mono fun e w' ⟨⟨u, h, hu⟩, hb⟩ => ?_
  have hlen : 0 < ls.length := by
    rw [← hls, Can.pairs_length, List.length_map]
    omega
  obtain ⟨g, c, rfl, _⟩ := OwnLabels.form hu hlen
  obtain ⟨p', c', e', hA, _⟩ := OwnLabels.open hu
  simp only [Value.slice.injEq] at e'
  refine ⟨⟨g, c, h, by rw [e'.1]; exact hA⟩, ((Below.refl _ W).alloc (Nat.le_refl _) _).trans (hb.mono (by simp))⟩

/-- slices of labels, written out -/
theorem Lab.slAt_of (b : Nat) (ts : List Lab.Sl) (C : Array Value) (hC : C = (ts.map fun t => Value.slice t.p t.n t.c).toArray) (w : World) (hk : w.heap[b]? = some (.cells C 25)) (hall : ∀ t ∈ ts, Lab.At t.p t.ls w) : Lab.SlAt b ts w := by
  intro i hi
  refine ⟨?_, hall _ (List.getElem_mem _)⟩
  rw [Lib.cell_of_heap hk, hC]
  simp [hi]

/-- what the examples come to -/
theorem Awk.t1 : Lab.of [⟨⟨#[106, 111, 98]⟩, ⟨#[120]⟩⟩, ⟨⟨#[97]⟩, ⟨#[49]⟩⟩, ⟨⟨#[98]⟩, ⟨#[]⟩⟩] = ([⟨⟨#[97]⟩, ⟨#[49]⟩⟩, ⟨⟨#[106, 111, 98]⟩, ⟨#[120]⟩⟩], 0) := by kernel_rfl
theorem Awk.t2 : Lab.of [⟨⟨#[97]⟩, ⟨#[49]⟩⟩, ⟨⟨#[97]⟩, ⟨#[]⟩⟩] = ([], 43) := by kernel_rfl
theorem Awk.t3 : Lab.set [⟨⟨#[97]⟩, ⟨#[49]⟩⟩, ⟨⟨#[106, 111, 98]⟩, ⟨#[120]⟩⟩] [⟨⟨#[97]⟩, ⟨#[]⟩⟩, ⟨⟨#[99]⟩, ⟨#[50]⟩⟩] = ([⟨⟨#[99]⟩, ⟨#[50]⟩⟩, ⟨⟨#[106, 111, 98]⟩, ⟨#[120]⟩⟩], 0) := by kernel_rfl
theorem Awk.t4 : Lab.merge [⟨⟨#[97]⟩, ⟨#[49]⟩⟩] [⟨⟨#[97]⟩, ⟨#[50]⟩⟩, ⟨⟨#[98]⟩, ⟨#[51]⟩⟩] = ([⟨⟨#[97]⟩, ⟨#[49]⟩⟩, ⟨⟨#[98]⟩, ⟨#[51]⟩⟩], 0) := by kernel_rfl
theorem Awk.t5 : Lab.export [⟨⟨#[106, 111, 98]⟩, ⟨#[116]⟩⟩] [⟨⟨#[106, 111, 98]⟩, ⟨#[115]⟩⟩, ⟨⟨#[120]⟩, ⟨#[49]⟩⟩] = ([⟨⟨#[101, 120, 112, 111, 114, 116, 101, 100, 95, 106, 111, 98]⟩, ⟨#[115]⟩⟩, ⟨⟨#[106, 111, 98]⟩, ⟨#[116]⟩⟩, ⟨⟨#[120]⟩, ⟨#[49]⟩⟩], 0) := by kernel_rfl
theorem Awk.t6 : Lab.export [⟨⟨#[106, 111, 98]⟩, ⟨#[116]⟩⟩] [⟨⟨#[101, 120, 112, 111, 114, 116, 101, 100, 95, 106, 111, 98]⟩, ⟨#[117]⟩⟩, ⟨⟨#[106, 111, 98]⟩, ⟨#[115]⟩⟩, ⟨⟨#[120]⟩, ⟨#[49]⟩⟩] = ([⟨⟨#[101, 120, 112, 111, 114, 116, 101, 100, 95, 106, 111, 98]⟩, ⟨#[117]⟩⟩, ⟨⟨#[106, 111, 98]⟩, ⟨#[116]⟩⟩, ⟨⟨#[120]⟩, ⟨#[49]⟩⟩], 0) := by kernel_rfl
theorem Awk.txt (W : World) : Txt.At (some ⟨W.heap.size, 0, none⟩) [⟨#[98]⟩] (W.alloc (.cells #[.string ⟨#[98]⟩] 9)) := by
  refine .inr ⟨W.heap.size, 0, rfl, fun i hi => ?_⟩
  obtain rfl : i = 0 := by simpa using hi
  rw [Lib.cell_of_heap (alloc_new W _)]
  rfl
theorem Awk.t7 : Lab.filt (fun s => !Lab.has [⟨#[98]⟩] s) [⟨⟨#[97]⟩, ⟨#[49]⟩⟩, ⟨⟨#[98]⟩, ⟨#[50]⟩⟩] = ([⟨⟨#[97]⟩, ⟨#[49]⟩⟩], 0) := by kernel_rfl
theorem Awk.t8 : Lab.cmpL [⟨⟨#[97]⟩, ⟨#[49]⟩⟩] [⟨⟨#[97]⟩, ⟨#[49]⟩⟩, ⟨⟨#[98]⟩, ⟨#[50]⟩⟩] = -1 := by kernel_rfl
def Awk.good : Array Value := #[.string ⟨#[106, 111, 98]⟩, .string ⟨#[95, 95, 110, 97, 109, 101, 95, 95]⟩, .string ⟨#[97, 49]⟩, .string ⟨#[95]⟩]
def Awk.bad : Array Value := #[.string ⟨#[49, 97]⟩, .string ⟨#[97, 45, 98]⟩, .string ⟨#[97, 58, 98]⟩, .string ⟨#[195, 169]⟩, .string ⟨#[]⟩]
theorem Awk.good_at (k : Nat) (h : k < 4) : ∃ s, Awk.good[k]? = some (.string s) ∧ Lab.named 95 (Lab.bs s) = true ∧ s.size ≤ 100 := by
  obtain rfl | rfl | rfl | rfl : k = 0 ∨ k = 1 ∨ k = 2 ∨ k = 3 := by omega
  all_goals exact ⟨_, rfl, by decide +kernel, by decide⟩
theorem Awk.bad_at (k : Nat) (h : k < 5) : ∃ s, Awk.bad[k]? = some (.string s) ∧ Lab.named 95 (Lab.bs s) = false ∧ s.size ≤ 100 := by
  obtain rfl | rfl | rfl | rfl | rfl : k = 0 ∨ k = 1 ∨ k = 2 ∨ k = 3 ∨ k = 4 := by omega
  all_goals exact ⟨_, rfl, by decide +kernel, by decide⟩

set_option maxHeartbeats 6400000 in
set_option maxRecDepth 100000 in
theorem awake4_true (w : World) : Calls Tryz.prog 8 #[] w fun e w' => e = .returned (.bool true) ∧ Below w.heap.size w w' := by
  go_enter Tryz.func8, Tryz.ntmps8
  go_wp2_with fail
  obtain ⟨W1, hW1⟩ : ∃ W, W = w.alloc (.cells Awk.good 9) := ⟨_, rfl⟩
  have b1 : Below w.heap.size w W1 := by rw [hW1]; exact (Below.refl _ _).alloc (Nat.le_refl _) _
  have HG : Hid (∀ k : Nat, k < 4 → ∃ s, W1.cell? ⟨w.heap.size, k, none⟩ = some (.string s) ∧ Lab.named 95 (Lab.bs s) = true ∧ s.size ≤ 100) := by
    show ∀ k : Nat, _
    intro k hk
    obtain ⟨s, h1, h2, h3⟩ := Awk.good_at k hk
    exact ⟨s, by rw [hW1, Lib.cell_of_heap (alloc_new w _)]; exact h1, h2, h3⟩
  unfold Awk.good at hW1
  rw [← hW1]
  clear hW1
  go_loop [21] (fun i => ∃ j : Nat, j ≤ 4 ∧ i = .int .i64 (j : Int)) (fun i => 4 - (intOf i).toNat)
  case atStart => exact ⟨0, by omega, rfl⟩
  case round =>
    obtain ⟨j, hj, rfl⟩ := hrel
    by_cases hj4 : j < 4
    · obtain ⟨s, c0, h2, h3⟩ := HG.out j hj4
      have n1 : (0 : Int) ≤ (j : Int) := by omega
      have n2 : (j : Int) < 4 := by omega
      have NM := Lib.hid (fun w => name_is s true h2 w (by unfold maxLen; omega))
      clear h2
      go_wp2_with (go_at_call 15; refine (NM.out _).mono ?_)
      try rintro _ _ ⟨rfl, rfl⟩
      go_wp2_with fail
      go_round
      case rel => exact ⟨j + 1, by omega, by go_num⟩
      case measure => simp [intOf]; omega
    · have n2 : (4 : Int) ≤ (j : Int) := by omega
      clear HG
      go_wp2_with fail
      obtain ⟨W2, hW2⟩ : ∃ W, W = W1.alloc (.cells Awk.bad 9) := ⟨_, rfl⟩
      have b2 : Below w.heap.size w W2 := by rw [hW2]; exact b1.alloc b1.size _
      have HG : Hid (∀ k : Nat, k < 5 → ∃ s, W2.cell? ⟨W1.heap.size, k, none⟩ = some (.string s) ∧ Lab.named 95 (Lab.bs s) = false ∧ s.size ≤ 100) := by
        show ∀ k : Nat, _
        intro k hk
        obtain ⟨s, h1, h2, h3⟩ := Awk.bad_at k hk
        exact ⟨s, by rw [hW2, Lib.cell_of_heap (alloc_new W1 _)]; exact h1, h2, h3⟩
      unfold Awk.bad at hW2
      rw [← hW2]
      clear hW2 b1
      go_loop [31] (fun i => ∃ j : Nat, j ≤ 5 ∧ i = .int .i64 (j : Int)) (fun i => 5 - (intOf i).toNat)
      case atStart => exact ⟨0, by omega, rfl⟩
      case round =>
        obtain ⟨j', hj', rfl⟩ := hrel
        by_cases hj5 : j' < 5
        · obtain ⟨s, c0, h2, h3⟩ := HG.out j' hj5
          have n3 : (0 : Int) ≤ (j' : Int) := by omega
          have n4 : (j' : Int) < 5 := by omega
          have NM := Lib.hid (fun w => name_is s false h2 w (by unfold maxLen; omega))
          clear h2
          go_wp2_with (go_at_call 15; refine (NM.out _).mono ?_)
          try rintro _ _ ⟨rfl, rfl⟩
          go_wp2_with fail
          go_round
          case rel => exact ⟨j' + 1, by omega, by go_num⟩
          case measure => simp [intOf]; omega
        · have n4 : (5 : Int) ≤ (j' : Int) := by omega
          clear HG
          go_wp2_with fail
          have B0 := b2
          have K0 : Hid (∀ w', Below W2.heap.size W2 w' → True) := fun _ _ => trivial
          have FT : ∀ ls : List Lab.L, (ls.all fun x => decide (x.n.size ≤ 1100) && decide (x.v.size ≤ 1100)) = true → Lab.Fit maxLen ls := fun ls h x hx => by
            have h1 := List.all_eq_true.1 h x hx
            rw [Bool.and_eq_true, decide_eq_true_eq, decide_eq_true_eq] at h1
            unfold maxLen
            omega
          have FIT := Lib.hid FT
          clear FT b2
          have O := Lib.hid (fun G W hG => Lab.of_lit [⟨#[106, 111, 98]⟩, ⟨#[120]⟩, ⟨#[97]⟩, ⟨#[49]⟩, ⟨#[98]⟩, ⟨#[]⟩] _ rfl 6 rfl (by omega) (by omega) (by omega) [⟨⟨#[106, 111, 98]⟩, ⟨#[120]⟩⟩, ⟨⟨#[97]⟩, ⟨#[49]⟩⟩, ⟨⟨#[98]⟩, ⟨#[]⟩⟩] rfl G W hG)
          go_wp2_with (go_at_call 5; refine (O.out _ _ (by simp)).mono ?_)
          first | rintro e v1 gx1 cx1 rfl hA hb1 | rintro e v1 ⟨⟨gx1, cx1, rfl, hA⟩, hb1⟩
          clear O
          have HA1 := Lib.hid hA
          clear hA
          have K1 : Hid (∀ w', Below v1.heap.size v1 w' → Lab.At (some ⟨gx1, 0, none⟩) [⟨⟨#[106, 111, 98]⟩, ⟨#[120]⟩⟩, ⟨⟨#[97]⟩, ⟨#[49]⟩⟩, ⟨⟨#[98]⟩, ⟨#[]⟩⟩] w') := fun w' h => HA1.out.below h (Nat.le_refl _)
          have B1 := below_next B0 hb1
          clear K0 B0 hb1
          clear HA1
          go_wp2_with (go_at_call 13; refine (lof_is _ _ 3 cx1 _ 0 Awk.t1 v1 rfl (K1.out _ (Below.refl _ v1)) (FIT.out _ (by decide)) (by omega)).mono ?_)
          first | rintro e v2 u rfl hu hb2 | rintro e v2 ⟨⟨u, rfl, hu⟩, hb2⟩
          obtain ⟨pa, ca, eu, hA, _⟩ := OwnLabels.open hu
          replace eu : u = .slice pa 2 ca := eu
          subst eu
          have HA2 := Lib.hid hA
          clear hA hu
          have K2 : Hid (∀ w', Below v2.heap.size v2 w' → Lab.At (some ⟨gx1, 0, none⟩) [⟨⟨#[106, 111, 98]⟩, ⟨#[120]⟩⟩, ⟨⟨#[97]⟩, ⟨#[49]⟩⟩, ⟨⟨#[98]⟩, ⟨#[]⟩⟩] w' ∧ Lab.At pa [⟨⟨#[97]⟩, ⟨#[49]⟩⟩, ⟨⟨#[106, 111, 98]⟩, ⟨#[120]⟩⟩] w') := fun w' h => ⟨K1.out w' (hb2.trans (h.mono hb2.size)), HA2.out.below h (Nat.le_refl _)⟩
          have B2 := below_next B1 hb2
          clear K1 B1 hb2
          clear HA2
          have KX : Hid (∀ w', Below v2.heap.size v2 w' → Lab.At pa [⟨⟨#[97]⟩, ⟨#[49]⟩⟩, ⟨⟨#[106, 111, 98]⟩, ⟨#[120]⟩⟩] w') := fun w' h => (K2.out w' h).2
          clear K2
          have K2 := KX
          clear KX
          have O := Lib.hid (fun G W hG => Lab.of_lit [⟨#[97]⟩, ⟨#[49]⟩, ⟨#[97]⟩, ⟨#[]⟩] _ rfl 4 rfl (by omega) (by omega) (by omega) [⟨⟨#[97]⟩, ⟨#[49]⟩⟩, ⟨⟨#[97]⟩, ⟨#[]⟩⟩] rfl G W hG)
          go_wp2_with (go_at_call 5; refine (O.out _ _ (by simp)).mono ?_)
          first | rintro e v3 gx2 cx2 rfl hA hb3 | rintro e v3 ⟨⟨gx2, cx2, rfl, hA⟩, hb3⟩
          clear O
          have HA3 := Lib.hid hA
          clear hA
          have K3 : Hid (∀ w', Below v3.heap.size v3 w' → Lab.At pa [⟨⟨#[97]⟩, ⟨#[49]⟩⟩, ⟨⟨#[106, 111, 98]⟩, ⟨#[120]⟩⟩] w' ∧ Lab.At (some ⟨gx2, 0, none⟩) [⟨⟨#[97]⟩, ⟨#[49]⟩⟩, ⟨⟨#[97]⟩, ⟨#[]⟩⟩] w') := fun w' h => ⟨K2.out w' (hb3.trans (h.mono hb3.size)), HA3.out.below h (Nat.le_refl _)⟩
          have B3 := below_next B2 hb3
          clear K2 B2 hb3
          clear HA3
          go_wp2_with (go_at_call 13; refine (lof_is _ _ 2 cx2 _ 43 Awk.t2 v3 rfl (K3.out _ (Below.refl _ v3)).2 (FIT.out _ (by decide)) (by omega)).mono ?_)
          first | rintro e v4 u rfl hu hb4 | rintro e v4 ⟨⟨u, rfl, hu⟩, hb4⟩
          obtain ⟨ptw, ctw, eu, hA, _⟩ := OwnLabels.open hu
          replace eu : u = .slice ptw 0 ctw := eu
          subst eu
          have HA4 := Lib.hid hA
          clear hA hu
          have K4 : Hid (∀ w', Below v4.heap.size v4 w' → Lab.At pa [⟨⟨#[97]⟩, ⟨#[49]⟩⟩, ⟨⟨#[106, 111, 98]⟩, ⟨#[120]⟩⟩] w' ∧ Lab.At (some ⟨gx2, 0, none⟩) [⟨⟨#[97]⟩, ⟨#[49]⟩⟩, ⟨⟨#[97]⟩, ⟨#[]⟩⟩] w' ∧ Lab.At ptw [] w') := fun w' h => ⟨(K3.out w' (hb4.trans (h.mono hb4.size))).1, (K3.out w' (hb4.trans (h.mono hb4.size))).2, HA4.out.below h (Nat.le_refl _)⟩
          have B4 := below_next B3 hb4
          clear K3 B3 hb4
          clear HA4
          have KX : Hid (∀ w', Below v4.heap.size v4 w' → Lab.At pa [⟨⟨#[97]⟩, ⟨#[49]⟩⟩, ⟨⟨#[106, 111, 98]⟩, ⟨#[120]⟩⟩] w') := fun w' h => (K4.out w' h).1
          clear K4
          have K4 := KX
          clear KX
          have O := Lib.hid (fun G W hG => Lab.of_lit [⟨#[97]⟩, ⟨#[49]⟩, ⟨#[106, 111, 98]⟩, ⟨#[120]⟩] _ rfl 4 rfl (by omega) (by omega) (by omega) [⟨⟨#[97]⟩, ⟨#[49]⟩⟩, ⟨⟨#[106, 111, 98]⟩, ⟨#[120]⟩⟩] rfl G W hG)
          go_wp2_with (go_at_call 5; refine (O.out _ _ (by simp)).mono ?_)
          first | rintro e v5 gx3 cx3 rfl hA hb5 | rintro e v5 ⟨⟨gx3, cx3, rfl, hA⟩, hb5⟩
          clear O
          have HA5 := Lib.hid hA
          clear hA
          have K5 : Hid (∀ w', Below v5.heap.size v5 w' → Lab.At pa [⟨⟨#[97]⟩, ⟨#[49]⟩⟩, ⟨⟨#[106, 111, 98]⟩, ⟨#[120]⟩⟩] w' ∧ Lab.At (some ⟨gx3, 0, none⟩) [⟨⟨#[97]⟩, ⟨#[49]⟩⟩, ⟨⟨#[106, 111, 98]⟩, ⟨#[120]⟩⟩] w') := fun w' h => ⟨K4.out w' (hb5.trans (h.mono hb5.size)), HA5.out.below h (Nat.le_refl _)⟩
          have B5 := below_next B4 hb5
          clear K4 B4 hb5
          clear HA5
          have O := Lib.hid (fun G W hG => Lab.of_lit [⟨#[97]⟩, ⟨#[]⟩, ⟨#[99]⟩, ⟨#[50]⟩] _ rfl 4 rfl (by omega) (by omega) (by omega) [⟨⟨#[97]⟩, ⟨#[]⟩⟩, ⟨⟨#[99]⟩, ⟨#[50]⟩⟩] rfl G W hG)
          go_wp2_with (go_at_call 5; refine (O.out _ _ (by simp)).mono ?_)
          first | rintro e v6 gx4 cx4 rfl hA hb6 | rintro e v6 ⟨⟨gx4, cx4, rfl, hA⟩, hb6⟩
          clear O
          have HA6 := Lib.hid hA
          clear hA
          have K6 : Hid (∀ w', Below v6.heap.size v6 w' → Lab.At pa [⟨⟨#[97]⟩, ⟨#[49]⟩⟩, ⟨⟨#[106, 111, 98]⟩, ⟨#[120]⟩⟩] w' ∧ Lab.At (some ⟨gx3, 0, none⟩) [⟨⟨#[97]⟩, ⟨#[49]⟩⟩, ⟨⟨#[106, 111, 98]⟩, ⟨#[120]⟩⟩] w' ∧ Lab.At (some ⟨gx4, 0, none⟩) [⟨⟨#[97]⟩, ⟨#[]⟩⟩, ⟨⟨#[99]⟩, ⟨#[50]⟩⟩] w') := fun w' h => ⟨(K5.out w' (hb6.trans (h.mono hb6.size))).1, (K5.out w' (hb6.trans (h.mono hb6.size))).2, HA6.out.below h (Nat.le_refl _)⟩
          have B6 := below_next B5 hb6
          clear K5 B5 hb6
          clear HA6
          go_wp2_with (go_at_call 33; refine (lset_is _ _ _ _ 2 cx3 2 cx4 _ 0 Awk.t3 v6 rfl rfl (K6.out _ (Below.refl _ v6)).2.1 (K6.out _ (Below.refl _ v6)).2.2 (FIT.out _ (by decide)) (FIT.out _ (by decide)) (by omega) (by omega)).mono ?_)
          first | rintro e v7 u rfl hu hb7 | rintro e v7 ⟨⟨u, rfl, hu⟩, hb7⟩
          obtain ⟨pb, cb, eu, hA, _⟩ := OwnLabels.open hu
          replace eu : u = .slice pb 2 cb := eu
          subst eu
          have HA7 := Lib.hid hA
          clear hA hu
          have K7 : Hid (∀ w', Below v7.heap.size v7 w' → Lab.At pa [⟨⟨#[97]⟩, ⟨#[49]⟩⟩, ⟨⟨#[106, 111, 98]⟩, ⟨#[120]⟩⟩] w' ∧ Lab.At (some ⟨gx3, 0, none⟩) [⟨⟨#[97]⟩, ⟨#[49]⟩⟩, ⟨⟨#[106, 111, 98]⟩, ⟨#[120]⟩⟩] w' ∧ Lab.At (some ⟨gx4, 0, none⟩) [⟨⟨#[97]⟩, ⟨#[]⟩⟩, ⟨⟨#[99]⟩, ⟨#[50]⟩⟩] w' ∧ Lab.At pb [⟨⟨#[99]⟩, ⟨#[50]⟩⟩, ⟨⟨#[106, 111, 98]⟩, ⟨#[120]⟩⟩] w') := fun w' h => ⟨(K6.out w' (hb7.trans (h.mono hb7.size))).1, (K6.out w' (hb7.trans (h.mono hb7.size))).2.1, (K6.out w' (hb7.trans (h.mono hb7.size))).2.2, HA7.out.below h (Nat.le_refl _)⟩
          have B7 := below_next B6 hb7
          clear K6 B6 hb7
          clear HA7
          have KX : Hid (∀ w', Below v7.heap.size v7 w' → Lab.At pa [⟨⟨#[97]⟩, ⟨#[49]⟩⟩, ⟨⟨#[106, 111, 98]⟩, ⟨#[120]⟩⟩] w' ∧ Lab.At pb [⟨⟨#[99]⟩, ⟨#[50]⟩⟩, ⟨⟨#[106, 111, 98]⟩, ⟨#[120]⟩⟩] w') := fun w' h => ⟨(K7.out w' h).1, (K7.out w' h).2.2.2⟩
          clear K7
          have K7 := KX
          clear KX
          have O := Lib.hid (fun G W hG => Lab.of_lit [⟨#[97]⟩, ⟨#[49]⟩] _ rfl 2 rfl (by omega) (by omega) (by omega) [⟨⟨#[97]⟩, ⟨#[49]⟩⟩] rfl G W hG)
          go_wp2_with (go_at_call 5; refine (O.out _ _ (by simp)).mono ?_)
          first | rintro e v8 gx5 cx5 rfl hA hb8 | rintro e v8 ⟨⟨gx5, cx5, rfl, hA⟩, hb8⟩
          clear O
          have HA8 := Lib.hid hA
          clear hA
          have K8 : Hid (∀ w', Below v8.heap.size v8 w' → Lab.At pa [⟨⟨#[97]⟩, ⟨#[49]⟩⟩, ⟨⟨#[106, 111, 98]⟩, ⟨#[120]⟩⟩] w' ∧ Lab.At pb [⟨⟨#[99]⟩, ⟨#[50]⟩⟩, ⟨⟨#[106, 111, 98]⟩, ⟨#[120]⟩⟩] w' ∧ Lab.At (some ⟨gx5, 0, none⟩) [⟨⟨#[97]⟩, ⟨#[49]⟩⟩] w') := fun w' h => ⟨(K7.out w' (hb8.trans (h.mono hb8.size))).1, (K7.out w' (hb8.trans (h.mono hb8.size))).2, HA8.out.below h (Nat.le_refl _)⟩
          have B8 := below_next B7 hb8
          clear K7 B7 hb8
          clear HA8
          have O := Lib.hid (fun G W hG => Lab.of_lit [⟨#[97]⟩, ⟨#[50]⟩, ⟨#[98]⟩, ⟨#[51]⟩] _ rfl 4 rfl (by omega) (by omega) (by omega) [⟨⟨#[97]⟩, ⟨#[50]⟩⟩, ⟨⟨#[98]⟩, ⟨#[51]⟩⟩] rfl G W hG)
          go_wp2_with (go_at_call 5; refine (O.out _ _ (by simp)).mono ?_)
          first | rintro e v9 gx6 cx6 rfl hA hb9 | rintro e v9 ⟨⟨gx6, cx6, rfl, hA⟩, hb9⟩
          clear O
          have HA9 := Lib.hid hA
          clear hA
          have K9 : Hid (∀ w', Below v9.heap.size v9 w' → Lab.At pa [⟨⟨#[97]⟩, ⟨#[49]⟩⟩, ⟨⟨#[106, 111, 98]⟩, ⟨#[120]⟩⟩] w' ∧ Lab.At pb [⟨⟨#[99]⟩, ⟨#[50]⟩⟩, ⟨⟨#[106, 111, 98]⟩, ⟨#[120]⟩⟩] w' ∧ Lab.At (some ⟨gx5, 0, none⟩) [⟨⟨#[97]⟩, ⟨#[49]⟩⟩] w' ∧ Lab.At (some ⟨gx6, 0, none⟩) [⟨⟨#[97]⟩, ⟨#[50]⟩⟩, ⟨⟨#[98]⟩, ⟨#[51]⟩⟩] w') := fun w' h => ⟨(K8.out w' (hb9.trans (h.mono hb9.size))).1, (K8.out w' (hb9.trans (h.mono hb9.size))).2.1, (K8.out w' (hb9.trans (h.mono hb9.size))).2.2, HA9.out.below h (Nat.le_refl _)⟩
          have B9 := below_next B8 hb9
          clear K8 B8 hb9
          clear HA9
          go_wp2_with (go_at_call 34; refine (lmerge_is _ _ _ _ 1 cx5 2 cx6 _ 0 Awk.t4 v9 rfl rfl (K9.out _ (Below.refl _ v9)).2.2.1 (K9.out _ (Below.refl _ v9)).2.2.2 (FIT.out _ (by decide)) (FIT.out _ (by decide)) (by omega) (by omega)).mono ?_)
          first | rintro e v10 u rfl hu hb10 | rintro e v10 ⟨⟨u, rfl, hu⟩, hb10⟩
          obtain ⟨pc, cc, eu, hA, _⟩ := OwnLabels.open hu
          replace eu : u = .slice pc 2 cc := eu
          subst eu
          have HA10 := Lib.hid hA
          clear hA hu
          have K10 : Hid (∀ w', Below v10.heap.size v10 w' → Lab.At pa [⟨⟨#[97]⟩, ⟨#[49]⟩⟩, ⟨⟨#[106, 111, 98]⟩, ⟨#[120]⟩⟩] w' ∧ Lab.At pb [⟨⟨#[99]⟩, ⟨#[50]⟩⟩, ⟨⟨#[106, 111, 98]⟩, ⟨#[120]⟩⟩] w' ∧ Lab.At (some ⟨gx5, 0, none⟩) [⟨⟨#[97]⟩, ⟨#[49]⟩⟩] w' ∧ Lab.At (some ⟨gx6, 0, none⟩) [⟨⟨#[97]⟩, ⟨#[50]⟩⟩, ⟨⟨#[98]⟩, ⟨#[51]⟩⟩] w' ∧ Lab.At pc [⟨⟨#[97]⟩, ⟨#[49]⟩⟩, ⟨⟨#[98]⟩, ⟨#[51]⟩⟩] w') := fun w' h => ⟨(K9.out w' (hb10.trans (h.mono hb10.size))).1, (K9.out w' (hb10.trans (h.mono hb10.size))).2.1, (K9.out w' (hb10.trans (h.mono hb10.size))).2.2.1, (K9.out w' (hb10.trans (h.mono hb10.size))).2.2.2, HA10.out.below h (Nat.le_refl _)⟩
          have B10 := below_next B9 hb10
          clear K9 B9 hb10
          clear HA10
          have KX : Hid (∀ w', Below v10.heap.size v10 w' → Lab.At pa [⟨⟨#[97]⟩, ⟨#[49]⟩⟩, ⟨⟨#[106, 111, 98]⟩, ⟨#[120]⟩⟩] w' ∧ Lab.At pb [⟨⟨#[99]⟩, ⟨#[50]⟩⟩, ⟨⟨#[106, 111, 98]⟩, ⟨#[120]⟩⟩] w' ∧ Lab.At pc [⟨⟨#[97]⟩, ⟨#[49]⟩⟩, ⟨⟨#[98]⟩, ⟨#[51]⟩⟩] w') := fun w' h => ⟨(K10.out w' h).1, (K10.out w' h).2.1, (K10.out w' h).2.2.2.2⟩
          clear K10
          have K10 := KX
          clear KX
          have O := Lib.hid (fun G W hG => Lab.of_lit [⟨#[106, 111, 98]⟩, ⟨#[116]⟩] _ rfl 2 rfl (by omega) (by omega) (by omega) [⟨⟨#[106, 111, 98]⟩, ⟨#[116]⟩⟩] rfl G W hG)
          go_wp2_with (go_at_call 5; refine (O.out _ _ (by simp)).mono ?_)
          first | rintro e v11 gx7 cx7 rfl hA hb11 | rintro e v11 ⟨⟨gx7, cx7, rfl, hA⟩, hb11⟩
          clear O
          have HA11 := Lib.hid hA
          clear hA
          have K11 : Hid (∀ w', Below v11.heap.size v11 w' → Lab.At pa [⟨⟨#[97]⟩, ⟨#[49]⟩⟩, ⟨⟨#[106, 111, 98]⟩, ⟨#[120]⟩⟩] w' ∧ Lab.At pb [⟨⟨#[99]⟩, ⟨#[50]⟩⟩, ⟨⟨#[106, 111, 98]⟩, ⟨#[120]⟩⟩] w' ∧ Lab.At pc [⟨⟨#[97]⟩, ⟨#[49]⟩⟩, ⟨⟨#[98]⟩, ⟨#[51]⟩⟩] w' ∧ Lab.At (some ⟨gx7, 0, none⟩) [⟨⟨#[106, 111, 98]⟩, ⟨#[116]⟩⟩] w') := fun w' h => ⟨(K10.out w' (hb11.trans (h.mono hb11.size))).1, (K10.out w' (hb11.trans (h.mono hb11.size))).2.1, (K10.out w' (hb11.trans (h.mono hb11.size))).2.2, HA11.out.below h (Nat.le_refl _)⟩
          have B11 := below_next B10 hb11
          clear K10 B10 hb11
          clear HA11
          have O := Lib.hid (fun G W hG => Lab.of_lit [⟨#[106, 111, 98]⟩, ⟨#[115]⟩, ⟨#[120]⟩, ⟨#[49]⟩] _ rfl 4 rfl (by omega) (by omega) (by omega) [⟨⟨#[106, 111, 98]⟩, ⟨#[115]⟩⟩, ⟨⟨#[120]⟩, ⟨#[49]⟩⟩] rfl G W hG)
          go_wp2_with (go_at_call 5; refine (O.out _ _ (by simp)).mono ?_)
          first | rintro e v12 gx8 cx8 rfl hA hb12 | rintro e v12 ⟨⟨gx8, cx8, rfl, hA⟩, hb12⟩
          clear O
          have HA12 := Lib.hid hA
          clear hA
          have K12 : Hid (∀ w', Below v12.heap.size v12 w' → Lab.At pa [⟨⟨#[97]⟩, ⟨#[49]⟩⟩, ⟨⟨#[106, 111, 98]⟩, ⟨#[120]⟩⟩] w' ∧ Lab.At pb [⟨⟨#[99]⟩, ⟨#[50]⟩⟩, ⟨⟨#[106, 111, 98]⟩, ⟨#[120]⟩⟩] w' ∧ Lab.At pc [⟨⟨#[97]⟩, ⟨#[49]⟩⟩, ⟨⟨#[98]⟩, ⟨#[51]⟩⟩] w' ∧ Lab.At (some ⟨gx7, 0, none⟩) [⟨⟨#[106, 111, 98]⟩, ⟨#[116]⟩⟩] w' ∧ Lab.At (some ⟨gx8, 0, none⟩) [⟨⟨#[106, 111, 98]⟩, ⟨#[115]⟩⟩, ⟨⟨#[120]⟩, ⟨#[49]⟩⟩] w') := fun w' h => ⟨(K11.out w' (hb12.trans (h.mono hb12.size))).1, (K11.out w' (hb12.trans (h.mono hb12.size))).2.1, (K11.out w' (hb12.trans (h.mono hb12.size))).2.2.1, (K11.out w' (hb12.trans (h.mono hb12.size))).2.2.2, HA12.out.below h (Nat.le_refl _)⟩
          have B12 := below_next B11 hb12
          clear K11 B11 hb12
          clear HA12
          go_wp2_with (go_at_call 35; refine (lexport_is _ _ _ _ 1 cx7 2 cx8 _ 0 Awk.t5 v12 rfl rfl (K12.out _ (Below.refl _ v12)).2.2.2.1 (K12.out _ (Below.refl _ v12)).2.2.2.2 (FIT.out _ (by decide)) (FIT.out _ (by decide)) (by omega) (by omega)).mono ?_)
          first | rintro e v13 u rfl hu hb13 | rintro e v13 ⟨⟨u, rfl, hu⟩, hb13⟩
          obtain ⟨pd, cd, eu, hA, _⟩ := OwnLabels.open hu
          replace eu : u = .slice pd 3 cd := eu
          subst eu
          have HA13 := Lib.hid hA
          clear hA hu
          have K13 : Hid (∀ w', Below v13.heap.size v13 w' → Lab.At pa [⟨⟨#[97]⟩, ⟨#[49]⟩⟩, ⟨⟨#[106, 111, 98]⟩, ⟨#[120]⟩⟩] w' ∧ Lab.At pb [⟨⟨#[99]⟩, ⟨#[50]⟩⟩, ⟨⟨#[106, 111, 98]⟩, ⟨#[120]⟩⟩] w' ∧ Lab.At pc [⟨⟨#[97]⟩, ⟨#[49]⟩⟩, ⟨⟨#[98]⟩, ⟨#[51]⟩⟩] w' ∧ Lab.At (some ⟨gx7, 0, none⟩) [⟨⟨#[106, 111, 98]⟩, ⟨#[116]⟩⟩] w' ∧ Lab.At (some ⟨gx8, 0, none⟩) [⟨⟨#[106, 111, 98]⟩, ⟨#[115]⟩⟩, ⟨⟨#[120]⟩, ⟨#[49]⟩⟩] w' ∧ Lab.At pd [⟨⟨#[101, 120, 112, 111, 114, 116, 101, 100, 95, 106, 111, 98]⟩, ⟨#[115]⟩⟩, ⟨⟨#[106, 111, 98]⟩, ⟨#[116]⟩⟩, ⟨⟨#[120]⟩, ⟨#[49]⟩⟩] w') := fun w' h => ⟨(K12.out w' (hb13.trans (h.mono hb13.size))).1, (K12.out w' (hb13.trans (h.mono hb13.size))).2.1, (K12.out w' (hb13.trans (h.mono hb13.size))).2.2.1, (K12.out w' (hb13.trans (h.mono hb13.size))).2.2.2.1, (K12.out w' (hb13.trans (h.mono hb13.size))).2.2.2.2, HA13.out.below h (Nat.le_refl _)⟩
          have B13 := below_next B12 hb13
          clear K12 B12 hb13
          clear HA13
          have KX : Hid (∀ w', Below v13.heap.size v13 w' → Lab.At pa [⟨⟨#[97]⟩, ⟨#[49]⟩⟩, ⟨⟨#[106, 111, 98]⟩, ⟨#[120]⟩⟩] w' ∧ Lab.At pb [⟨⟨#[99]⟩, ⟨#[50]⟩⟩, ⟨⟨#[106, 111, 98]⟩, ⟨#[120]⟩⟩] w' ∧ Lab.At pc [⟨⟨#[97]⟩, ⟨#[49]⟩⟩, ⟨⟨#[98]⟩, ⟨#[51]⟩⟩] w' ∧ Lab.At pd [⟨⟨#[101, 120, 112, 111, 114, 116, 101, 100, 95, 106, 111, 98]⟩, ⟨#[115]⟩⟩, ⟨⟨#[106, 111, 98]⟩, ⟨#[116]⟩⟩, ⟨⟨#[120]⟩, ⟨#[49]⟩⟩] w') := fun w' h => ⟨(K13.out w' h).1, (K13.out w' h).2.1, (K13.out w' h).2.2.1, (K13.out w' h).2.2.2.2.2⟩
          clear K13
          have K13 := KX
          clear KX
          have O := Lib.hid (fun G W hG => Lab.of_lit [⟨#[106, 111, 98]⟩, ⟨#[116]⟩] _ rfl 2 rfl (by omega) (by omega) (by omega) [⟨⟨#[106, 111, 98]⟩, ⟨#[116]⟩⟩] rfl G W hG)
          go_wp2_with (go_at_call 5; refine (O.out _ _ (by simp)).mono ?_)
          first | rintro e v14 gx9 cx9 rfl hA hb14 | rintro e v14 ⟨⟨gx9, cx9, rfl, hA⟩, hb14⟩
          clear O
          have HA14 := Lib.hid hA
          clear hA
          have K14 : Hid (∀ w', Below v14.heap.size v14 w' → Lab.At pa [⟨⟨#[97]⟩, ⟨#[49]⟩⟩, ⟨⟨#[106, 111, 98]⟩, ⟨#[120]⟩⟩] w' ∧ Lab.At pb [⟨⟨#[99]⟩, ⟨#[50]⟩⟩, ⟨⟨#[106, 111, 98]⟩, ⟨#[120]⟩⟩] w' ∧ Lab.At pc [⟨⟨#[97]⟩, ⟨#[49]⟩⟩, ⟨⟨#[98]⟩, ⟨#[51]⟩⟩] w' ∧ Lab.At pd [⟨⟨#[101, 120, 112, 111, 114, 116, 101, 100, 95, 106, 111, 98]⟩, ⟨#[115]⟩⟩, ⟨⟨#[106, 111, 98]⟩, ⟨#[116]⟩⟩, ⟨⟨#[120]⟩, ⟨#[49]⟩⟩] w' ∧ Lab.At (some ⟨gx9, 0, none⟩) [⟨⟨#[106, 111, 98]⟩, ⟨#[116]⟩⟩] w') := fun w' h => ⟨(K13.out w' (hb14.trans (h.mono hb14.size))).1, (K13.out w' (hb14.trans (h.mono hb14.size))).2.1, (K13.out w' (hb14.trans (h.mono hb14.size))).2.2.1, (K13.out w' (hb14.trans (h.mono hb14.size))).2.2.2, HA14.out.below h (Nat.le_refl _)⟩
          have B14 := below_next B13 hb14
          clear K13 B13 hb14
          clear HA14
          have O := Lib.hid (fun G W hG => Lab.of_lit [⟨#[101, 120, 112, 111, 114, 116, 101, 100, 95, 106, 111, 98]⟩, ⟨#[117]⟩, ⟨#[106, 111, 98]⟩, ⟨#[115]⟩, ⟨#[120]⟩, ⟨#[49]⟩] _ rfl 6 rfl (by omega) (by omega) (by omega) [⟨⟨#[101, 120, 112, 111, 114, 116, 101, 100, 95, 106, 111, 98]⟩, ⟨#[117]⟩⟩, ⟨⟨#[106, 111, 98]⟩, ⟨#[115]⟩⟩, ⟨⟨#[120]⟩, ⟨#[49]⟩⟩] rfl G W hG)
          go_wp2_with (go_at_call 5; refine (O.out _ _ (by simp)).mono ?_)
          first | rintro e v15 gx10 cx10 rfl hA hb15 | rintro e v15 ⟨⟨gx10, cx10, rfl, hA⟩, hb15⟩
          clear O
          have HA15 := Lib.hid hA
          clear hA
          have K15 : Hid (∀ w', Below v15.heap.size v15 w' → Lab.At pa [⟨⟨#[97]⟩, ⟨#[49]⟩⟩, ⟨⟨#[106, 111, 98]⟩, ⟨#[120]⟩⟩] w' ∧ Lab.At pb [⟨⟨#[99]⟩, ⟨#[50]⟩⟩, ⟨⟨#[106, 111, 98]⟩, ⟨#[120]⟩⟩] w' ∧ Lab.At pc [⟨⟨#[97]⟩, ⟨#[49]⟩⟩, ⟨⟨#[98]⟩, ⟨#[51]⟩⟩] w' ∧ Lab.At pd [⟨⟨#[101, 120, 112, 111, 114, 116, 101, 100, 95, 106, 111, 98]⟩, ⟨#[115]⟩⟩, ⟨⟨#[106, 111, 98]⟩, ⟨#[116]⟩⟩, ⟨⟨#[120]⟩, ⟨#[49]⟩⟩] w' ∧ Lab.At (some ⟨gx9, 0, none⟩) [⟨⟨#[106, 111, 98]⟩, ⟨#[116]⟩⟩] w' ∧ Lab.At (some ⟨gx10, 0, none⟩) [⟨⟨#[101, 120, 112, 111, 114, 116, 101, 100, 95, 106, 111, 98]⟩, ⟨#[117]⟩⟩, ⟨⟨#[106, 111, 98]⟩, ⟨#[115]⟩⟩, ⟨⟨#[120]⟩, ⟨#[49]⟩⟩] w') := fun w' h => ⟨(K14.out w' (hb15.trans (h.mono hb15.size))).1, (K14.out w' (hb15.trans (h.mono hb15.size))).2.1, (K14.out w' (hb15.trans (h.mono hb15.size))).2.2.1, (K14.out w' (hb15.trans (h.mono hb15.size))).2.2.2.1, (K14.out w' (hb15.trans (h.mono hb15.size))).2.2.2.2, HA15.out.below h (Nat.le_refl _)⟩
          have B15 := below_next B14 hb15
          clear K14 B14 hb15
          clear HA15
          go_wp2_with (go_at_call 35; refine (lexport_is _ _ _ _ 1 cx9 3 cx10 _ 0 Awk.t6 v15 rfl rfl (K15.out _ (Below.refl _ v15)).2.2.2.2.1 (K15.out _ (Below.refl _ v15)).2.2.2.2.2 (FIT.out _ (by decide)) (FIT.out _ (by decide)) (by omega) (by omega)).mono ?_)
          first | rintro e v16 u rfl hu hb16 | rintro e v16 ⟨⟨u, rfl, hu⟩, hb16⟩
          obtain ⟨pe, ce, eu, hA, _⟩ := OwnLabels.open hu
          replace eu : u = .slice pe 3 ce := eu
          subst eu
          have HA16 := Lib.hid hA
          clear hA hu
          have K16 : Hid (∀ w', Below v16.heap.size v16 w' → Lab.At pa [⟨⟨#[97]⟩, ⟨#[49]⟩⟩, ⟨⟨#[106, 111, 98]⟩, ⟨#[120]⟩⟩] w' ∧ Lab.At pb [⟨⟨#[99]⟩, ⟨#[50]⟩⟩, ⟨⟨#[106, 111, 98]⟩, ⟨#[120]⟩⟩] w' ∧ Lab.At pc [⟨⟨#[97]⟩, ⟨#[49]⟩⟩, ⟨⟨#[98]⟩, ⟨#[51]⟩⟩] w' ∧ Lab.At pd [⟨⟨#[101, 120, 112, 111, 114, 116, 101, 100, 95, 106, 111, 98]⟩, ⟨#[115]⟩⟩, ⟨⟨#[106, 111, 98]⟩, ⟨#[116]⟩⟩, ⟨⟨#[120]⟩, ⟨#[49]⟩⟩] w' ∧ Lab.At (some ⟨gx9, 0, none⟩) [⟨⟨#[106, 111, 98]⟩, ⟨#[116]⟩⟩] w' ∧ Lab.At (some ⟨gx10, 0, none⟩) [⟨⟨#[101, 120, 112, 111, 114, 116, 101, 100, 95, 106, 111, 98]⟩, ⟨#[117]⟩⟩, ⟨⟨#[106, 111, 98]⟩, ⟨#[115]⟩⟩, ⟨⟨#[120]⟩, ⟨#[49]⟩⟩] w' ∧ Lab.At pe [⟨⟨#[101, 120, 112, 111, 114, 116, 101, 100, 95, 106, 111, 98]⟩, ⟨#[117]⟩⟩, ⟨⟨#[106, 111, 98]⟩, ⟨#[116]⟩⟩, ⟨⟨#[120]⟩, ⟨#[49]⟩⟩] w') := fun w' h => ⟨(K15.out w' (hb16.trans (h.mono hb16.size))).1, (K15.out w' (hb16.trans (h.mono hb16.size))).2.1, (K15.out w' (hb16.trans (h.mono hb16.size))).2.2.1, (K15.out w' (hb16.trans (h.mono hb16.size))).2.2.2.1, (K15.out w' (hb16.trans (h.mono hb16.size))).2.2.2.2.1, (K15.out w' (hb16.trans (h.mono hb16.size))).2.2.2.2.2, HA16.out.below h (Nat.le_refl _)⟩
          have B16 := below_next B15 hb16
          clear K15 B15 hb16
          clear HA16
          have KX : Hid (∀ w', Below v16.heap.size v16 w' → Lab.At pa [⟨⟨#[97]⟩, ⟨#[49]⟩⟩, ⟨⟨#[106, 111, 98]⟩, ⟨#[120]⟩⟩] w' ∧ Lab.At pb [⟨⟨#[99]⟩, ⟨#[50]⟩⟩, ⟨⟨#[106, 111, 98]⟩, ⟨#[120]⟩⟩] w' ∧ Lab.At pc [⟨⟨#[97]⟩, ⟨#[49]⟩⟩, ⟨⟨#[98]⟩, ⟨#[51]⟩⟩] w' ∧ Lab.At pd [⟨⟨#[101, 120, 112, 111, 114, 116, 101, 100, 95, 106, 111, 98]⟩, ⟨#[115]⟩⟩, ⟨⟨#[106, 111, 98]⟩, ⟨#[116]⟩⟩, ⟨⟨#[120]⟩, ⟨#[49]⟩⟩] w' ∧ Lab.At pe [⟨⟨#[101, 120, 112, 111, 114, 116, 101, 100, 95, 106, 111, 98]⟩, ⟨#[117]⟩⟩, ⟨⟨#[106, 111, 98]⟩, ⟨#[116]⟩⟩, ⟨⟨#[120]⟩, ⟨#[49]⟩⟩] w') := fun w' h => ⟨(K16.out w' h).1, (K16.out w' h).2.1, (K16.out w' h).2.2.1, (K16.out w' h).2.2.2.1, (K16.out w' h).2.2.2.2.2.2⟩
          clear K16
          have K16 := KX
          clear KX
          have O := Lib.hid (fun G W hG => Lab.of_lit [⟨#[97]⟩, ⟨#[49]⟩, ⟨#[98]⟩, ⟨#[50]⟩] _ rfl 4 rfl (by omega) (by omega) (by omega) [⟨⟨#[97]⟩, ⟨#[49]⟩⟩, ⟨⟨#[98]⟩, ⟨#[50]⟩⟩] rfl G W hG)
          go_wp2_with (go_at_call 5; refine (O.out _ _ (by simp)).mono ?_)
          first | rintro e v17 gx11 cx11 rfl hA hb17 | rintro e v17 ⟨⟨gx11, cx11, rfl, hA⟩, hb17⟩
          clear O
          have HA17 := Lib.hid hA
          clear hA
          have K17 : Hid (∀ w', Below v17.heap.size v17 w' → Lab.At pa [⟨⟨#[97]⟩, ⟨#[49]⟩⟩, ⟨⟨#[106, 111, 98]⟩, ⟨#[120]⟩⟩] w' ∧ Lab.At pb [⟨⟨#[99]⟩, ⟨#[50]⟩⟩, ⟨⟨#[106, 111, 98]⟩, ⟨#[120]⟩⟩] w' ∧ Lab.At pc [⟨⟨#[97]⟩, ⟨#[49]⟩⟩, ⟨⟨#[98]⟩, ⟨#[51]⟩⟩] w' ∧ Lab.At pd [⟨⟨#[101, 120, 112, 111, 114, 116, 101, 100, 95, 106, 111, 98]⟩, ⟨#[115]⟩⟩, ⟨⟨#[106, 111, 98]⟩, ⟨#[116]⟩⟩, ⟨⟨#[120]⟩, ⟨#[49]⟩⟩] w' ∧ Lab.At pe [⟨⟨#[101, 120, 112, 111, 114, 116, 101, 100, 95, 106, 111, 98]⟩, ⟨#[117]⟩⟩, ⟨⟨#[106, 111, 98]⟩, ⟨#[116]⟩⟩, ⟨⟨#[120]⟩, ⟨#[49]⟩⟩] w' ∧ Lab.At (some ⟨gx11, 0, none⟩) [⟨⟨#[97]⟩, ⟨#[49]⟩⟩, ⟨⟨#[98]⟩, ⟨#[50]⟩⟩] w') := fun w' h => ⟨(K16.out w' (hb17.trans (h.mono hb17.size))).1, (K16.out w' (hb17.trans (h.mono hb17.size))).2.1, (K16.out w' (hb17.trans (h.mono hb17.size))).2.2.1, (K16.out w' (hb17.trans (h.mono hb17.size))).2.2.2.1, (K16.out w' (hb17.trans (h.mono hb17.size))).2.2.2.2, HA17.out.below h (Nat.le_refl _)⟩
          have B17 := below_next B16 hb17
          clear K16 B16 hb17
          clear HA17
          have hA := ((K17.out _ (Below.refl _ v17)).2.2.2.2.2).alloc (.cells #[.string ⟨#[98]⟩] 9)
          have HT := Lib.hid (Awk.txt v17)
          have HAL := Lib.hid hA
          clear hA
          go_wp2_with (go_at_call 37; refine (ldrop_is _ _ _ [⟨#[98]⟩] 2 cx11 1 1 _ 0 Awk.t7 (v17.alloc (.cells #[.string ⟨#[98]⟩] 9)) rfl rfl HAL.out HT.out (FIT.out _ (by decide)) (by omega) (by omega)).mono ?_)
          first | rintro e v18 u rfl hu hb0 | rintro e v18 ⟨⟨u, rfl, hu⟩, hb0⟩
          have hb18 : Below v17.heap.size v17 v18 := ((Below.refl _ v17).alloc (Nat.le_refl _) _).trans (hb0.mono (by simp))
          obtain ⟨pf, cf, eu, hA, _⟩ := OwnLabels.open hu
          replace eu : u = .slice pf 1 cf := eu
          subst eu
          have HA18 := Lib.hid hA
          clear hA hu hb0 HT HAL
          have K18 : Hid (∀ w', Below v18.heap.size v18 w' → Lab.At pa [⟨⟨#[97]⟩, ⟨#[49]⟩⟩, ⟨⟨#[106, 111, 98]⟩, ⟨#[120]⟩⟩] w' ∧ Lab.At pb [⟨⟨#[99]⟩, ⟨#[50]⟩⟩, ⟨⟨#[106, 111, 98]⟩, ⟨#[120]⟩⟩] w' ∧ Lab.At pc [⟨⟨#[97]⟩, ⟨#[49]⟩⟩, ⟨⟨#[98]⟩, ⟨#[51]⟩⟩] w' ∧ Lab.At pd [⟨⟨#[101, 120, 112, 111, 114, 116, 101, 100, 95, 106, 111, 98]⟩, ⟨#[115]⟩⟩, ⟨⟨#[106, 111, 98]⟩, ⟨#[116]⟩⟩, ⟨⟨#[120]⟩, ⟨#[49]⟩⟩] w' ∧ Lab.At pe [⟨⟨#[101, 120, 112, 111, 114, 116, 101, 100, 95, 106, 111, 98]⟩, ⟨#[117]⟩⟩, ⟨⟨#[106, 111, 98]⟩, ⟨#[116]⟩⟩, ⟨⟨#[120]⟩, ⟨#[49]⟩⟩] w' ∧ Lab.At (some ⟨gx11, 0, none⟩) [⟨⟨#[97]⟩, ⟨#[49]⟩⟩, ⟨⟨#[98]⟩, ⟨#[50]⟩⟩] w' ∧ Lab.At pf [⟨⟨#[97]⟩, ⟨#[49]⟩⟩] w') := fun w' h => ⟨(K17.out w' (hb18.trans (h.mono hb18.size))).1, (K17.out w' (hb18.trans (h.mono hb18.size))).2.1, (K17.out w' (hb18.trans (h.mono hb18.size))).2.2.1, (K17.out w' (hb18.trans (h.mono hb18.size))).2.2.2.1, (K17.out w' (hb18.trans (h.mono hb18.size))).2.2.2.2.1, (K17.out w' (hb18.trans (h.mono hb18.size))).2.2.2.2.2, HA18.out.below h (Nat.le_refl _)⟩
          have B18 := below_next B17 hb18
          clear K17 B17 hb18
          clear HA18
          have KX : Hid (∀ w', Below v18.heap.size v18 w' → Lab.At pa [⟨⟨#[97]⟩, ⟨#[49]⟩⟩, ⟨⟨#[106, 111, 98]⟩, ⟨#[120]⟩⟩] w' ∧ Lab.At pb [⟨⟨#[99]⟩, ⟨#[50]⟩⟩, ⟨⟨#[106, 111, 98]⟩, ⟨#[120]⟩⟩] w' ∧ Lab.At pc [⟨⟨#[97]⟩, ⟨#[49]⟩⟩, ⟨⟨#[98]⟩, ⟨#[51]⟩⟩] w' ∧ Lab.At pd [⟨⟨#[101, 120, 112, 111, 114, 116, 101, 100, 95, 106, 111, 98]⟩, ⟨#[115]⟩⟩, ⟨⟨#[106, 111, 98]⟩, ⟨#[116]⟩⟩, ⟨⟨#[120]⟩, ⟨#[49]⟩⟩] w' ∧ Lab.At pe [⟨⟨#[101, 120, 112, 111, 114, 116, 101, 100, 95, 106, 111, 98]⟩, ⟨#[117]⟩⟩, ⟨⟨#[106, 111, 98]⟩, ⟨#[116]⟩⟩, ⟨⟨#[120]⟩, ⟨#[49]⟩⟩] w' ∧ Lab.At pf [⟨⟨#[97]⟩, ⟨#[49]⟩⟩] w') := fun w' h => ⟨(K18.out w' h).1, (K18.out w' h).2.1, (K18.out w' h).2.2.1, (K18.out w' h).2.2.2.1, (K18.out w' h).2.2.2.2.1, (K18.out w' h).2.2.2.2.2.2⟩
          clear K18
          have K18 := KX
          clear KX
          have MT := Lib.hid (fun w => metric_is ⟨#[97, 58, 98]⟩ true (by decide +kernel) w (by unfold maxLen; decide))
          go_wp2_with (go_at_call 17; refine (MT.out _).mono ?_)
          try rintro _ _ ⟨rfl, rfl⟩
          clear MT
          have O := Lib.hid (fun G W hG => Lab.of_lit [⟨#[97]⟩, ⟨#[49]⟩] _ rfl 2 rfl (by omega) (by omega) (by omega) [⟨⟨#[97]⟩, ⟨#[49]⟩⟩] rfl G W hG)
          go_wp2_with (go_at_call 5; refine (O.out _ _ (by simp)).mono ?_)
          first | rintro e v19 gy1 cy1 rfl hA hb19 | rintro e v19 ⟨⟨gy1, cy1, rfl, hA⟩, hb19⟩
          clear O
          have HA19 := Lib.hid hA
          clear hA
          have K19 : Hid (∀ w', Below v19.heap.size v19 w' → Lab.At pa [⟨⟨#[97]⟩, ⟨#[49]⟩⟩, ⟨⟨#[106, 111, 98]⟩, ⟨#[120]⟩⟩] w' ∧ Lab.At pb [⟨⟨#[99]⟩, ⟨#[50]⟩⟩, ⟨⟨#[106, 111, 98]⟩, ⟨#[120]⟩⟩] w' ∧ Lab.At pc [⟨⟨#[97]⟩, ⟨#[49]⟩⟩, ⟨⟨#[98]⟩, ⟨#[51]⟩⟩] w' ∧ Lab.At pd [⟨⟨#[101, 120, 112, 111, 114, 116, 101, 100, 95, 106, 111, 98]⟩, ⟨#[115]⟩⟩, ⟨⟨#[106, 111, 98]⟩, ⟨#[116]⟩⟩, ⟨⟨#[120]⟩, ⟨#[49]⟩⟩] w' ∧ Lab.At pe [⟨⟨#[101, 120, 112, 111, 114, 116, 101, 100, 95, 106, 111, 98]⟩, ⟨#[117]⟩⟩, ⟨⟨#[106, 111, 98]⟩, ⟨#[116]⟩⟩, ⟨⟨#[120]⟩, ⟨#[49]⟩⟩] w' ∧ Lab.At pf [⟨⟨#[97]⟩, ⟨#[49]⟩⟩] w' ∧ Lab.At (some ⟨gy1, 0, none⟩) [⟨⟨#[97]⟩, ⟨#[49]⟩⟩] w') := fun w' h => ⟨(K18.out w' (hb19.trans (h.mono hb19.size))).1, (K18.out w' (hb19.trans (h.mono hb19.size))).2.1, (K18.out w' (hb19.trans (h.mono hb19.size))).2.2.1, (K18.out w' (hb19.trans (h.mono hb19.size))).2.2.2.1, (K18.out w' (hb19.trans (h.mono hb19.size))).2.2.2.2.1, (K18.out w' (hb19.trans (h.mono hb19.size))).2.2.2.2.2, HA19.out.below h (Nat.le_refl _)⟩
          have B19 := below_next B18 hb19
          clear K18 B18 hb19
          clear HA19
          have O := Lib.hid (fun G W hG => Lab.of_lit [⟨#[97]⟩, ⟨#[49]⟩, ⟨#[98]⟩, ⟨#[50]⟩] _ rfl 4 rfl (by omega) (by omega) (by omega) [⟨⟨#[97]⟩, ⟨#[49]⟩⟩, ⟨⟨#[98]⟩, ⟨#[50]⟩⟩] rfl G W hG)
          go_wp2_with (go_at_call 5; refine (O.out _ _ (by simp)).mono ?_)
          first | rintro e v20 gy2 cy2 rfl hA hb20 | rintro e v20 ⟨⟨gy2, cy2, rfl, hA⟩, hb20⟩
          clear O
          have HA20 := Lib.hid hA
          clear hA
          have K20 : Hid (∀ w', Below v20.heap.size v20 w' → Lab.At pa [⟨⟨#[97]⟩, ⟨#[49]⟩⟩, ⟨⟨#[106, 111, 98]⟩, ⟨#[120]⟩⟩] w' ∧ Lab.At pb [⟨⟨#[99]⟩, ⟨#[50]⟩⟩, ⟨⟨#[106, 111, 98]⟩, ⟨#[120]⟩⟩] w' ∧ Lab.At pc [⟨⟨#[97]⟩, ⟨#[49]⟩⟩, ⟨⟨#[98]⟩, ⟨#[51]⟩⟩] w' ∧ Lab.At pd [⟨⟨#[101, 120, 112, 111, 114, 116, 101, 100, 95, 106, 111, 98]⟩, ⟨#[115]⟩⟩, ⟨⟨#[106, 111, 98]⟩, ⟨#[116]⟩⟩, ⟨⟨#[120]⟩, ⟨#[49]⟩⟩] w' ∧ Lab.At pe [⟨⟨#[101, 120, 112, 111, 114, 116, 101, 100, 95, 106, 111, 98]⟩, ⟨#[117]⟩⟩, ⟨⟨#[106, 111, 98]⟩, ⟨#[116]⟩⟩, ⟨⟨#[120]⟩, ⟨#[49]⟩⟩] w' ∧ Lab.At pf [⟨⟨#[97]⟩, ⟨#[49]⟩⟩] w' ∧ Lab.At (some ⟨gy1, 0, none⟩) [⟨⟨#[97]⟩, ⟨#[49]⟩⟩] w' ∧ Lab.At (some ⟨gy2, 0, none⟩) [⟨⟨#[97]⟩, ⟨#[49]⟩⟩, ⟨⟨#[98]⟩, ⟨#[50]⟩⟩] w') := fun w' h => ⟨(K19.out w' (hb20.trans (h.mono hb20.size))).1, (K19.out w' (hb20.trans (h.mono hb20.size))).2.1, (K19.out w' (hb20.trans (h.mono hb20.size))).2.2.1, (K19.out w' (hb20.trans (h.mono hb20.size))).2.2.2.1, (K19.out w' (hb20.trans (h.mono hb20.size))).2.2.2.2.1, (K19.out w' (hb20.trans (h.mono hb20.size))).2.2.2.2.2.1, (K19.out w' (hb20.trans (h.mono hb20.size))).2.2.2.2.2.2, HA20.out.below h (Nat.le_refl _)⟩
          have B20 := below_next B19 hb20
          clear K19 B19 hb20
          clear HA20
          go_wp2_with (go_at_call 44; refine (lcompare_is _ _ _ _ 1 cy1 2 cy2 (-1) Awk.t8 v20 rfl rfl (K20.out _ (Below.refl _ v20)).2.2.2.2.2.2.1 (K20.out _ (Below.refl _ v20)).2.2.2.2.2.2.2 (by omega)).mono ?_)
          first | rintro e v21 rfl hb21 | rintro e v21 ⟨rfl, hb21⟩
          have K21 : Hid (∀ w', Below v21.heap.size v21 w' → Lab.At pa [⟨⟨#[97]⟩, ⟨#[49]⟩⟩, ⟨⟨#[106, 111, 98]⟩, ⟨#[120]⟩⟩] w' ∧ Lab.At pb [⟨⟨#[99]⟩, ⟨#[50]⟩⟩, ⟨⟨#[106, 111, 98]⟩, ⟨#[120]⟩⟩] w' ∧ Lab.At pc [⟨⟨#[97]⟩, ⟨#[49]⟩⟩, ⟨⟨#[98]⟩, ⟨#[51]⟩⟩] w' ∧ Lab.At pd [⟨⟨#[101, 120, 112, 111, 114, 116, 101, 100, 95, 106, 111, 98]⟩, ⟨#[115]⟩⟩, ⟨⟨#[106, 111, 98]⟩, ⟨#[116]⟩⟩, ⟨⟨#[120]⟩, ⟨#[49]⟩⟩] w' ∧ Lab.At pe [⟨⟨#[101, 120, 112, 111, 114, 116, 101, 100, 95, 106, 111, 98]⟩, ⟨#[117]⟩⟩, ⟨⟨#[106, 111, 98]⟩, ⟨#[116]⟩⟩, ⟨⟨#[120]⟩, ⟨#[49]⟩⟩] w' ∧ Lab.At pf [⟨⟨#[97]⟩, ⟨#[49]⟩⟩] w' ∧ Lab.At (some ⟨gy1, 0, none⟩) [⟨⟨#[97]⟩, ⟨#[49]⟩⟩] w' ∧ Lab.At (some ⟨gy2, 0, none⟩) [⟨⟨#[97]⟩, ⟨#[49]⟩⟩, ⟨⟨#[98]⟩, ⟨#[50]⟩⟩] w') := fun w' h => ⟨(K20.out w' (hb21.trans (h.mono hb21.size))).1, (K20.out w' (hb21.trans (h.mono hb21.size))).2.1, (K20.out w' (hb21.trans (h.mono hb21.size))).2.2.1, (K20.out w' (hb21.trans (h.mono hb21.size))).2.2.2.1, (K20.out w' (hb21.trans (h.mono hb21.size))).2.2.2.2.1, (K20.out w' (hb21.trans (h.mono hb21.size))).2.2.2.2.2.1, (K20.out w' (hb21.trans (h.mono hb21.size))).2.2.2.2.2.2.1, (K20.out w' (hb21.trans (h.mono hb21.size))).2.2.2.2.2.2.2⟩
          have B21 := below_next B20 hb21
          clear K20 B20 hb21
          have KX : Hid (∀ w', Below v21.heap.size v21 w' → Lab.At pa [⟨⟨#[97]⟩, ⟨#[49]⟩⟩, ⟨⟨#[106, 111, 98]⟩, ⟨#[120]⟩⟩] w' ∧ Lab.At pb [⟨⟨#[99]⟩, ⟨#[50]⟩⟩, ⟨⟨#[106, 111, 98]⟩, ⟨#[120]⟩⟩] w' ∧ Lab.At pc [⟨⟨#[97]⟩, ⟨#[49]⟩⟩, ⟨⟨#[98]⟩, ⟨#[51]⟩⟩] w' ∧ Lab.At pd [⟨⟨#[101, 120, 112, 111, 114, 116, 101, 100, 95, 106, 111, 98]⟩, ⟨#[115]⟩⟩, ⟨⟨#[106, 111, 98]⟩, ⟨#[116]⟩⟩, ⟨⟨#[120]⟩, ⟨#[49]⟩⟩] w' ∧ Lab.At pe [⟨⟨#[101, 120, 112, 111, 114, 116, 101, 100, 95, 106, 111, 98]⟩, ⟨#[117]⟩⟩, ⟨⟨#[106, 111, 98]⟩, ⟨#[116]⟩⟩, ⟨⟨#[120]⟩, ⟨#[49]⟩⟩] w' ∧ Lab.At pf [⟨⟨#[97]⟩, ⟨#[49]⟩⟩] w') := fun w' h => ⟨(K21.out w' h).1, (K21.out w' h).2.1, (K21.out w' h).2.2.1, (K21.out w' h).2.2.2.1, (K21.out w' h).2.2.2.2.1, (K21.out w' h).2.2.2.2.2.1⟩
          clear K21
          have K21 := KX
          clear KX
          go_wp2_with fail
          obtain ⟨v22, hV⟩ : ∃ V, V = v21.alloc (.cells #[.slice pa 2 ca, .slice pb 2 cb, .slice pc 2 cc, .slice pd 3 cd, .slice pe 3 ce, .slice pf 1 cf] 25) := ⟨_, rfl⟩
          have hb22 : Below v21.heap.size v21 v22 := by rw [hV]; exact (Below.refl _ _).alloc (Nat.le_refl _) _
          have HSX : Hid (v22.heap[v21.heap.size]? = some (.cells #[.slice pa 2 ca, .slice pb 2 cb, .slice pc 2 cc, .slice pd 3 cd, .slice pe 3 ce, .slice pf 1 cf] 25)) := by
            show v22.heap[v21.heap.size]? = _
            rw [hV]
            exact alloc_new _ _
          have HSZ : Hid (v22.heap.size = v21.heap.size + 1) := by
            show v22.heap.size = _
            rw [hV]
            simp
          rw [← hV]
          clear hV
          have K22 : Hid (∀ w', Below v22.heap.size v22 w' → Lab.At pa [⟨⟨#[97]⟩, ⟨#[49]⟩⟩, ⟨⟨#[106, 111, 98]⟩, ⟨#[120]⟩⟩] w' ∧ Lab.At pb [⟨⟨#[99]⟩, ⟨#[50]⟩⟩, ⟨⟨#[106, 111, 98]⟩, ⟨#[120]⟩⟩] w' ∧ Lab.At pc [⟨⟨#[97]⟩, ⟨#[49]⟩⟩, ⟨⟨#[98]⟩, ⟨#[51]⟩⟩] w' ∧ Lab.At pd [⟨⟨#[101, 120, 112, 111, 114, 116, 101, 100, 95, 106, 111, 98]⟩, ⟨#[115]⟩⟩, ⟨⟨#[106, 111, 98]⟩, ⟨#[116]⟩⟩, ⟨⟨#[120]⟩, ⟨#[49]⟩⟩] w' ∧ Lab.At pe [⟨⟨#[101, 120, 112, 111, 114, 116, 101, 100, 95, 106, 111, 98]⟩, ⟨#[117]⟩⟩, ⟨⟨#[106, 111, 98]⟩, ⟨#[116]⟩⟩, ⟨⟨#[120]⟩, ⟨#[49]⟩⟩] w' ∧ Lab.At pf [⟨⟨#[97]⟩, ⟨#[49]⟩⟩] w' ∧ w'.heap[v21.heap.size]? = some (.cells #[.slice pa 2 ca, .slice pb 2 cb, .slice pc 2 cc, .slice pd 3 cd, .slice pe 3 ce, .slice pf 1 cf] 25)) := fun w' h => ⟨(K21.out w' (hb22.trans (h.mono hb22.size))).1, (K21.out w' (hb22.trans (h.mono hb22.size))).2.1, (K21.out w' (hb22.trans (h.mono hb22.size))).2.2.1, (K21.out w' (hb22.trans (h.mono hb22.size))).2.2.2.1, (K21.out w' (hb22.trans (h.mono hb22.size))).2.2.2.2.1, (K21.out w' (hb22.trans (h.mono hb22.size))).2.2.2.2.2, below_kept h HSX.out (by rw [HSZ.out]; omega)⟩
          have B22 := below_next B21 hb22
          clear K21 B21 hb22
          clear HSX
          have O := Lib.hid (fun G W hG => Lab.of_lit [⟨#[97]⟩, ⟨#[49]⟩, ⟨#[106, 111, 98]⟩, ⟨#[120]⟩] _ rfl 4 rfl (by omega) (by omega) (by omega) [⟨⟨#[97]⟩, ⟨#[49]⟩⟩, ⟨⟨#[106, 111, 98]⟩, ⟨#[120]⟩⟩] rfl G W hG)
          go_wp2_with (go_at_call 5; refine (O.out _ _ (by first | exact HSZ.out.symm | simp)).mono ?_)
          first | rintro e v23 gz0 cz0 rfl hA hb23 | rintro e v23 ⟨⟨gz0, cz0, rfl, hA⟩, hb23⟩
          clear O
          have HA23 := Lib.hid hA
          clear hA
          have K23 : Hid (∀ w', Below v23.heap.size v23 w' → Lab.At pa [⟨⟨#[97]⟩, ⟨#[49]⟩⟩, ⟨⟨#[106, 111, 98]⟩, ⟨#[120]⟩⟩] w' ∧ Lab.At pb [⟨⟨#[99]⟩, ⟨#[50]⟩⟩, ⟨⟨#[106, 111, 98]⟩, ⟨#[120]⟩⟩] w' ∧ Lab.At pc [⟨⟨#[97]⟩, ⟨#[49]⟩⟩, ⟨⟨#[98]⟩, ⟨#[51]⟩⟩] w' ∧ Lab.At pd [⟨⟨#[101, 120, 112, 111, 114, 116, 101, 100, 95, 106, 111, 98]⟩, ⟨#[115]⟩⟩, ⟨⟨#[106, 111, 98]⟩, ⟨#[116]⟩⟩, ⟨⟨#[120]⟩, ⟨#[49]⟩⟩] w' ∧ Lab.At pe [⟨⟨#[101, 120, 112, 111, 114, 116, 101, 100, 95, 106, 111, 98]⟩, ⟨#[117]⟩⟩, ⟨⟨#[106, 111, 98]⟩, ⟨#[116]⟩⟩, ⟨⟨#[120]⟩, ⟨#[49]⟩⟩] w' ∧ Lab.At pf [⟨⟨#[97]⟩, ⟨#[49]⟩⟩] w' ∧ w'.heap[v21.heap.size]? = some (.cells #[.slice pa 2 ca, .slice pb 2 cb, .slice pc 2 cc, .slice pd 3 cd, .slice pe 3 ce, .slice pf 1 cf] 25) ∧ Lab.At (some ⟨gz0, 0, none⟩) [⟨⟨#[97]⟩, ⟨#[49]⟩⟩, ⟨⟨#[106, 111, 98]⟩, ⟨#[120]⟩⟩] w') := fun w' h => ⟨(K22.out w' (hb23.trans (h.mono hb23.size))).1, (K22.out w' (hb23.trans (h.mono hb23.size))).2.1, (K22.out w' (hb23.trans (h.mono hb23.size))).2.2.1, (K22.out w' (hb23.trans (h.mono hb23.size))).2.2.2.1, (K22.out w' (hb23.trans (h.mono hb23.size))).2.2.2.2.1, (K22.out w' (hb23.trans (h.mono hb23.size))).2.2.2.2.2.1, (K22.out w' (hb23.trans (h.mono hb23.size))).2.2.2.2.2.2, HA23.out.below h (Nat.le_refl _)⟩
          have B23 := below_next B22 hb23
          clear K22 B22 hb23
          clear HA23
          have O := Lib.hid (fun G W hG => Lab.of_lit [⟨#[99]⟩, ⟨#[50]⟩, ⟨#[106, 111, 98]⟩, ⟨#[120]⟩] _ rfl 4 rfl (by omega) (by omega) (by omega) [⟨⟨#[99]⟩, ⟨#[50]⟩⟩, ⟨⟨#[106, 111, 98]⟩, ⟨#[120]⟩⟩] rfl G W hG)
          go_wp2_with (go_at_call 5; refine (O.out _ _ (by first | exact HSZ.out.symm | simp)).mono ?_)
          first | rintro e v24 gz1 cz1 rfl hA hb24 | rintro e v24 ⟨⟨gz1, cz1, rfl, hA⟩, hb24⟩
          clear O
          have HA24 := Lib.hid hA
          clear hA
          have K24 : Hid (∀ w', Below v24.heap.size v24 w' → Lab.At pa [⟨⟨#[97]⟩, ⟨#[49]⟩⟩, ⟨⟨#[106, 111, 98]⟩, ⟨#[120]⟩⟩] w' ∧ Lab.At pb [⟨⟨#[99]⟩, ⟨#[50]⟩⟩, ⟨⟨#[106, 111, 98]⟩, ⟨#[120]⟩⟩] w' ∧ Lab.At pc [⟨⟨#[97]⟩, ⟨#[49]⟩⟩, ⟨⟨#[98]⟩, ⟨#[51]⟩⟩] w' ∧ Lab.At pd [⟨⟨#[101, 120, 112, 111, 114, 116, 101, 100, 95, 106, 111, 98]⟩, ⟨#[115]⟩⟩, ⟨⟨#[106, 111, 98]⟩, ⟨#[116]⟩⟩, ⟨⟨#[120]⟩, ⟨#[49]⟩⟩] w' ∧ Lab.At pe [⟨⟨#[101, 120, 112, 111, 114, 116, 101, 100, 95, 106, 111, 98]⟩, ⟨#[117]⟩⟩, ⟨⟨#[106, 111, 98]⟩, ⟨#[116]⟩⟩, ⟨⟨#[120]⟩, ⟨#[49]⟩⟩] w' ∧ Lab.At pf [⟨⟨#[97]⟩, ⟨#[49]⟩⟩] w' ∧ w'.heap[v21.heap.size]? = some (.cells #[.slice pa 2 ca, .slice pb 2 cb, .slice pc 2 cc, .slice pd 3 cd, .slice pe 3 ce, .slice pf 1 cf] 25) ∧ Lab.At (some ⟨gz0, 0, none⟩) [⟨⟨#[97]⟩, ⟨#[49]⟩⟩, ⟨⟨#[106, 111, 98]⟩, ⟨#[120]⟩⟩] w' ∧ Lab.At (some ⟨gz1, 0, none⟩) [⟨⟨#[99]⟩, ⟨#[50]⟩⟩, ⟨⟨#[106, 111, 98]⟩, ⟨#[120]⟩⟩] w') := fun w' h => ⟨(K23.out w' (hb24.trans (h.mono hb24.size))).1, (K23.out w' (hb24.trans (h.mono hb24.size))).2.1, (K23.out w' (hb24.trans (h.mono hb24.size))).2.2.1, (K23.out w' (hb24.trans (h.mono hb24.size))).2.2.2.1, (K23.out w' (hb24.trans (h.mono hb24.size))).2.2.2.2.1, (K23.out w' (hb24.trans (h.mono hb24.size))).2.2.2.2.2.1, (K23.out w' (hb24.trans (h.mono hb24.size))).2.2.2.2.2.2.1, (K23.out w' (hb24.trans (h.mono hb24.size))).2.2.2.2.2.2.2, HA24.out.below h (Nat.le_refl _)⟩
          have B24 := below_next B23 hb24
          clear K23 B23 hb24
          clear HA24
          have O := Lib.hid (fun G W hG => Lab.of_lit [⟨#[97]⟩, ⟨#[49]⟩, ⟨#[98]⟩, ⟨#[51]⟩] _ rfl 4 rfl (by omega) (by omega) (by omega) [⟨⟨#[97]⟩, ⟨#[49]⟩⟩, ⟨⟨#[98]⟩, ⟨#[51]⟩⟩] rfl G W hG)
          go_wp2_with (go_at_call 5; refine (O.out _ _ (by first | exact HSZ.out.symm | simp)).mono ?_)
          first | rintro e v25 gz2 cz2 rfl hA hb25 | rintro e v25 ⟨⟨gz2, cz2, rfl, hA⟩, hb25⟩
          clear O
          have HA25 := Lib.hid hA
          clear hA
          have K25 : Hid (∀ w', Below v25.heap.size v25 w' → Lab.At pa [⟨⟨#[97]⟩, ⟨#[49]⟩⟩, ⟨⟨#[106, 111, 98]⟩, ⟨#[120]⟩⟩] w' ∧ Lab.At pb [⟨⟨#[99]⟩, ⟨#[50]⟩⟩, ⟨⟨#[106, 111, 98]⟩, ⟨#[120]⟩⟩] w' ∧ Lab.At pc [⟨⟨#[97]⟩, ⟨#[49]⟩⟩, ⟨⟨#[98]⟩, ⟨#[51]⟩⟩] w' ∧ Lab.At pd [⟨⟨#[101, 120, 112, 111, 114, 116, 101, 100, 95, 106, 111, 98]⟩, ⟨#[115]⟩⟩, ⟨⟨#[106, 111, 98]⟩, ⟨#[116]⟩⟩, ⟨⟨#[120]⟩, ⟨#[49]⟩⟩] w' ∧ Lab.At pe [⟨⟨#[101, 120, 112, 111, 114, 116, 101, 100, 95, 106, 111, 98]⟩, ⟨#[117]⟩⟩, ⟨⟨#[106, 111, 98]⟩, ⟨#[116]⟩⟩, ⟨⟨#[120]⟩, ⟨#[49]⟩⟩] w' ∧ Lab.At pf [⟨⟨#[97]⟩, ⟨#[49]⟩⟩] w' ∧ w'.heap[v21.heap.size]? = some (.cells #[.slice pa 2 ca, .slice pb 2 cb, .slice pc 2 cc, .slice pd 3 cd, .slice pe 3 ce, .slice pf 1 cf] 25) ∧ Lab.At (some ⟨gz0, 0, none⟩) [⟨⟨#[97]⟩, ⟨#[49]⟩⟩, ⟨⟨#[106, 111, 98]⟩, ⟨#[120]⟩⟩] w' ∧ Lab.At (some ⟨gz1, 0, none⟩) [⟨⟨#[99]⟩, ⟨#[50]⟩⟩, ⟨⟨#[106, 111, 98]⟩, ⟨#[120]⟩⟩] w' ∧ Lab.At (some ⟨gz2, 0, none⟩) [⟨⟨#[97]⟩, ⟨#[49]⟩⟩, ⟨⟨#[98]⟩, ⟨#[51]⟩⟩] w') := fun w' h => ⟨(K24.out w' (hb25.trans (h.mono hb25.size))).1, (K24.out w' (hb25.trans (h.mono hb25.size))).2.1, (K24.out w' (hb25.trans (h.mono hb25.size))).2.2.1, (K24.out w' (hb25.trans (h.mono hb25.size))).2.2.2.1, (K24.out w' (hb25.trans (h.mono hb25.size))).2.2.2.2.1, (K24.out w' (hb25.trans (h.mono hb25.size))).2.2.2.2.2.1, (K24.out w' (hb25.trans (h.mono hb25.size))).2.2.2.2.2.2.1, (K24.out w' (hb25.trans (h.mono hb25.size))).2.2.2.2.2.2.2.1, (K24.out w' (hb25.trans (h.mono hb25.size))).2.2.2.2.2.2.2.2, HA25.out.below h (Nat.le_refl _)⟩
          have B25 := below_next B24 hb25
          clear K24 B24 hb25
          clear HA25
          have O := Lib.hid (fun G W hG => Lab.of_lit [⟨#[101, 120, 112, 111, 114, 116, 101, 100, 95, 106, 111, 98]⟩, ⟨#[115]⟩, ⟨#[106, 111, 98]⟩, ⟨#[116]⟩, ⟨#[120]⟩, ⟨#[49]⟩] _ rfl 6 rfl (by omega) (by omega) (by omega) [⟨⟨#[101, 120, 112, 111, 114, 116, 101, 100, 95, 106, 111, 98]⟩, ⟨#[115]⟩⟩, ⟨⟨#[106, 111, 98]⟩, ⟨#[116]⟩⟩, ⟨⟨#[120]⟩, ⟨#[49]⟩⟩] rfl G W hG)
          go_wp2_with (go_at_call 5; refine (O.out _ _ (by first | exact HSZ.out.symm | simp)).mono ?_)
          first | rintro e v26 gz3 cz3 rfl hA hb26 | rintro e v26 ⟨⟨gz3, cz3, rfl, hA⟩, hb26⟩
          clear O
          have HA26 := Lib.hid hA
          clear hA
          have K26 : Hid (∀ w', Below v26.heap.size v26 w' → Lab.At pa [⟨⟨#[97]⟩, ⟨#[49]⟩⟩, ⟨⟨#[106, 111, 98]⟩, ⟨#[120]⟩⟩] w' ∧ Lab.At pb [⟨⟨#[99]⟩, ⟨#[50]⟩⟩, ⟨⟨#[106, 111, 98]⟩, ⟨#[120]⟩⟩] w' ∧ Lab.At pc [⟨⟨#[97]⟩, ⟨#[49]⟩⟩, ⟨⟨#[98]⟩, ⟨#[51]⟩⟩] w' ∧ Lab.At pd [⟨⟨#[101, 120, 112, 111, 114, 116, 101, 100, 95, 106, 111, 98]⟩, ⟨#[115]⟩⟩, ⟨⟨#[106, 111, 98]⟩, ⟨#[116]⟩⟩, ⟨⟨#[120]⟩, ⟨#[49]⟩⟩] w' ∧ Lab.At pe [⟨⟨#[101, 120, 112, 111, 114, 116, 101, 100, 95, 106, 111, 98]⟩, ⟨#[117]⟩⟩, ⟨⟨#[106, 111, 98]⟩, ⟨#[116]⟩⟩, ⟨⟨#[120]⟩, ⟨#[49]⟩⟩] w' ∧ Lab.At pf [⟨⟨#[97]⟩, ⟨#[49]⟩⟩] w' ∧ w'.heap[v21.heap.size]? = some (.cells #[.slice pa 2 ca, .slice pb 2 cb, .slice pc 2 cc, .slice pd 3 cd, .slice pe 3 ce, .slice pf 1 cf] 25) ∧ Lab.At (some ⟨gz0, 0, none⟩) [⟨⟨#[97]⟩, ⟨#[49]⟩⟩, ⟨⟨#[106, 111, 98]⟩, ⟨#[120]⟩⟩] w' ∧ Lab.At (some ⟨gz1, 0, none⟩) [⟨⟨#[99]⟩, ⟨#[50]⟩⟩, ⟨⟨#[106, 111, 98]⟩, ⟨#[120]⟩⟩] w' ∧ Lab.At (some ⟨gz2, 0, none⟩) [⟨⟨#[97]⟩, ⟨#[49]⟩⟩, ⟨⟨#[98]⟩, ⟨#[51]⟩⟩] w' ∧ Lab.At (some ⟨gz3, 0, none⟩) [⟨⟨#[101, 120, 112, 111, 114, 116, 101, 100, 95, 106, 111, 98]⟩, ⟨#[115]⟩⟩, ⟨⟨#[106, 111, 98]⟩, ⟨#[116]⟩⟩, ⟨⟨#[120]⟩, ⟨#[49]⟩⟩] w') := fun w' h => ⟨(K25.out w' (hb26.trans (h.mono hb26.size))).1, (K25.out w' (hb26.trans (h.mono hb26.size))).2.1, (K25.out w' (hb26.trans (h.mono hb26.size))).2.2.1, (K25.out w' (hb26.trans (h.mono hb26.size))).2.2.2.1, (K25.out w' (hb26.trans (h.mono hb26.size))).2.2.2.2.1, (K25.out w' (hb26.trans (h.mono hb26.size))).2.2.2.2.2.1, (K25.out w' (hb26.trans (h.mono hb26.size))).2.2.2.2.2.2.1, (K25.out w' (hb26.trans (h.mono hb26.size))).2.2.2.2.2.2.2.1, (K25.out w' (hb26.trans (h.mono hb26.size))).2.2.2.2.2.2.2.2.1, (K25.out w' (hb26.trans (h.mono hb26.size))).2.2.2.2.2.2.2.2.2, HA26.out.below h (Nat.le_refl _)⟩
          have B26 := below_next B25 hb26
          clear K25 B25 hb26
          clear HA26
          have O := Lib.hid (fun G W hG => Lab.of_lit [⟨#[101, 120, 112, 111, 114, 116, 101, 100, 95, 106, 111, 98]⟩, ⟨#[117]⟩, ⟨#[106, 111, 98]⟩, ⟨#[116]⟩, ⟨#[120]⟩, ⟨#[49]⟩] _ rfl 6 rfl (by omega) (by omega) (by omega) [⟨⟨#[101, 120, 112, 111, 114, 116, 101, 100, 95, 106, 111, 98]⟩, ⟨#[117]⟩⟩, ⟨⟨#[106, 111, 98]⟩, ⟨#[116]⟩⟩, ⟨⟨#[120]⟩, ⟨#[49]⟩⟩] rfl G W hG)
          go_wp2_with (go_at_call 5; refine (O.out _ _ (by first | exact HSZ.out.symm | simp)).mono ?_)
          first | rintro e v27 gz4 cz4 rfl hA hb27 | rintro e v27 ⟨⟨gz4, cz4, rfl, hA⟩, hb27⟩
          clear O
          have HA27 := Lib.hid hA
          clear hA
          have K27 : Hid (∀ w', Below v27.heap.size v27 w' → Lab.At pa [⟨⟨#[97]⟩, ⟨#[49]⟩⟩, ⟨⟨#[106, 111, 98]⟩, ⟨#[120]⟩⟩] w' ∧ Lab.At pb [⟨⟨#[99]⟩, ⟨#[50]⟩⟩, ⟨⟨#[106, 111, 98]⟩, ⟨#[120]⟩⟩] w' ∧ Lab.At pc [⟨⟨#[97]⟩, ⟨#[49]⟩⟩, ⟨⟨#[98]⟩, ⟨#[51]⟩⟩] w' ∧ Lab.At pd [⟨⟨#[101, 120, 112, 111, 114, 116, 101, 100, 95, 106, 111, 98]⟩, ⟨#[115]⟩⟩, ⟨⟨#[106, 111, 98]⟩, ⟨#[116]⟩⟩, ⟨⟨#[120]⟩, ⟨#[49]⟩⟩] w' ∧ Lab.At pe [⟨⟨#[101, 120, 112, 111, 114, 116, 101, 100, 95, 106, 111, 98]⟩, ⟨#[117]⟩⟩, ⟨⟨#[106, 111, 98]⟩, ⟨#[116]⟩⟩, ⟨⟨#[120]⟩, ⟨#[49]⟩⟩] w' ∧ Lab.At pf [⟨⟨#[97]⟩, ⟨#[49]⟩⟩] w' ∧ w'.heap[v21.heap.size]? = some (.cells #[.slice pa 2 ca, .slice pb 2 cb, .slice pc 2 cc, .slice pd 3 cd, .slice pe 3 ce, .slice pf 1 cf] 25) ∧ Lab.At (some ⟨gz0, 0, none⟩) [⟨⟨#[97]⟩, ⟨#[49]⟩⟩, ⟨⟨#[106, 111, 98]⟩, ⟨#[120]⟩⟩] w' ∧ Lab.At (some ⟨gz1, 0, none⟩) [⟨⟨#[99]⟩, ⟨#[50]⟩⟩, ⟨⟨#[106, 111, 98]⟩, ⟨#[120]⟩⟩] w' ∧ Lab.At (some ⟨gz2, 0, none⟩) [⟨⟨#[97]⟩, ⟨#[49]⟩⟩, ⟨⟨#[98]⟩, ⟨#[51]⟩⟩] w' ∧ Lab.At (some ⟨gz3, 0, none⟩) [⟨⟨#[101, 120, 112, 111, 114, 116, 101, 100, 95, 106, 111, 98]⟩, ⟨#[115]⟩⟩, ⟨⟨#[106, 111, 98]⟩, ⟨#[116]⟩⟩, ⟨⟨#[120]⟩, ⟨#[49]⟩⟩] w' ∧ Lab.At (some ⟨gz4, 0, none⟩) [⟨⟨#[101, 120, 112, 111, 114, 116, 101, 100, 95, 106, 111, 98]⟩, ⟨#[117]⟩⟩, ⟨⟨#[106, 111, 98]⟩, ⟨#[116]⟩⟩, ⟨⟨#[120]⟩, ⟨#[49]⟩⟩] w') := fun w' h => ⟨(K26.out w' (hb27.trans (h.mono hb27.size))).1, (K26.out w' (hb27.trans (h.mono hb27.size))).2.1, (K26.out w' (hb27.trans (h.mono hb27.size))).2.2.1, (K26.out w' (hb27.trans (h.mono hb27.size))).2.2.2.1, (K26.out w' (hb27.trans (h.mono hb27.size))).2.2.2.2.1, (K26.out w' (hb27.trans (h.mono hb27.size))).2.2.2.2.2.1, (K26.out w' (hb27.trans (h.mono hb27.size))).2.2.2.2.2.2.1, (K26.out w' (hb27.trans (h.mono hb27.size))).2.2.2.2.2.2.2.1, (K26.out w' (hb27.trans (h.mono hb27.size))).2.2.2.2.2.2.2.2.1, (K26.out w' (hb27.trans (h.mono hb27.size))).2.2.2.2.2.2.2.2.2.1, (K26.out w' (hb27.trans (h.mono hb27.size))).2.2.2.2.2.2.2.2.2.2, HA27.out.below h (Nat.le_refl _)⟩
          have B27 := below_next B26 hb27
          clear K26 B26 hb27
          clear HA27
          have O := Lib.hid (fun G W hG => Lab.of_lit [⟨#[97]⟩, ⟨#[49]⟩] _ rfl 2 rfl (by omega) (by omega) (by omega) [⟨⟨#[97]⟩, ⟨#[49]⟩⟩] rfl G W hG)
          go_wp2_with (go_at_call 5; refine (O.out _ _ (by first | exact HSZ.out.symm | simp)).mono ?_)
          first | rintro e v28 gz5 cz5 rfl hA hb28 | rintro e v28 ⟨⟨gz5, cz5, rfl, hA⟩, hb28⟩
          clear O
          have HA28 := Lib.hid hA
          clear hA
          have K28 : Hid (∀ w', Below v28.heap.size v28 w' → Lab.At pa [⟨⟨#[97]⟩, ⟨#[49]⟩⟩, ⟨⟨#[106, 111, 98]⟩, ⟨#[120]⟩⟩] w' ∧ Lab.At pb [⟨⟨#[99]⟩, ⟨#[50]⟩⟩, ⟨⟨#[106, 111, 98]⟩, ⟨#[120]⟩⟩] w' ∧ Lab.At pc [⟨⟨#[97]⟩, ⟨#[49]⟩⟩, ⟨⟨#[98]⟩, ⟨#[51]⟩⟩] w' ∧ Lab.At pd [⟨⟨#[101, 120, 112, 111, 114, 116, 101, 100, 95, 106, 111, 98]⟩, ⟨#[115]⟩⟩, ⟨⟨#[106, 111, 98]⟩, ⟨#[116]⟩⟩, ⟨⟨#[120]⟩, ⟨#[49]⟩⟩] w' ∧ Lab.At pe [⟨⟨#[101, 120, 112, 111, 114, 116, 101, 100, 95, 106, 111, 98]⟩, ⟨#[117]⟩⟩, ⟨⟨#[106, 111, 98]⟩, ⟨#[116]⟩⟩, ⟨⟨#[120]⟩, ⟨#[49]⟩⟩] w' ∧ Lab.At pf [⟨⟨#[97]⟩, ⟨#[49]⟩⟩] w' ∧ w'.heap[v21.heap.size]? = some (.cells #[.slice pa 2 ca, .slice pb 2 cb, .slice pc 2 cc, .slice pd 3 cd, .slice pe 3 ce, .slice pf 1 cf] 25) ∧ Lab.At (some ⟨gz0, 0, none⟩) [⟨⟨#[97]⟩, ⟨#[49]⟩⟩, ⟨⟨#[106, 111, 98]⟩, ⟨#[120]⟩⟩] w' ∧ Lab.At (some ⟨gz1, 0, none⟩) [⟨⟨#[99]⟩, ⟨#[50]⟩⟩, ⟨⟨#[106, 111, 98]⟩, ⟨#[120]⟩⟩] w' ∧ Lab.At (some ⟨gz2, 0, none⟩) [⟨⟨#[97]⟩, ⟨#[49]⟩⟩, ⟨⟨#[98]⟩, ⟨#[51]⟩⟩] w' ∧ Lab.At (some ⟨gz3, 0, none⟩) [⟨⟨#[101, 120, 112, 111, 114, 116, 101, 100, 95, 106, 111, 98]⟩, ⟨#[115]⟩⟩, ⟨⟨#[106, 111, 98]⟩, ⟨#[116]⟩⟩, ⟨⟨#[120]⟩, ⟨#[49]⟩⟩] w' ∧ Lab.At (some ⟨gz4, 0, none⟩) [⟨⟨#[101, 120, 112, 111, 114, 116, 101, 100, 95, 106, 111, 98]⟩, ⟨#[117]⟩⟩, ⟨⟨#[106, 111, 98]⟩, ⟨#[116]⟩⟩, ⟨⟨#[120]⟩, ⟨#[49]⟩⟩] w' ∧ Lab.At (some ⟨gz5, 0, none⟩) [⟨⟨#[97]⟩, ⟨#[49]⟩⟩] w') := fun w' h => ⟨(K27.out w' (hb28.trans (h.mono hb28.size))).1, (K27.out w' (hb28.trans (h.mono hb28.size))).2.1, (K27.out w' (hb28.trans (h.mono hb28.size))).2.2.1, (K27.out w' (hb28.trans (h.mono hb28.size))).2.2.2.1, (K27.out w' (hb28.trans (h.mono hb28.size))).2.2.2.2.1, (K27.out w' (hb28.trans (h.mono hb28.size))).2.2.2.2.2.1, (K27.out w' (hb28.trans (h.mono hb28.size))).2.2.2.2.2.2.1, (K27.out w' (hb28.trans (h.mono hb28.size))).2.2.2.2.2.2.2.1, (K27.out w' (hb28.trans (h.mono hb28.size))).2.2.2.2.2.2.2.2.1, (K27.out w' (hb28.trans (h.mono hb28.size))).2.2.2.2.2.2.2.2.2.1, (K27.out w' (hb28.trans (h.mono hb28.size))).2.2.2.2.2.2.2.2.2.2.1, (K27.out w' (hb28.trans (h.mono hb28.size))).2.2.2.2.2.2.2.2.2.2.2, HA28.out.below h (Nat.le_refl _)⟩
          have B28 := below_next B27 hb28
          clear K27 B27 hb28
          clear HA28
          go_wp2_with fail
          obtain ⟨VE, hV⟩ : ∃ V, V = v28.alloc (.cells #[.slice (some ⟨gz0, 0, none⟩) 2 cz0, .slice (some ⟨gz1, 0, none⟩) 2 cz1, .slice (some ⟨gz2, 0, none⟩) 2 cz2, .slice (some ⟨gz3, 0, none⟩) 3 cz3, .slice (some ⟨gz4, 0, none⟩) 3 cz4, .slice (some ⟨gz5, 0, none⟩) 1 cz5] 25) := ⟨_, rfl⟩
          have hbE : Below v28.heap.size v28 VE := by rw [hV]; exact (Below.refl _ _).alloc (Nat.le_refl _) _
          have HSX : Hid (VE.heap[v28.heap.size]? = some (.cells #[.slice (some ⟨gz0, 0, none⟩) 2 cz0, .slice (some ⟨gz1, 0, none⟩) 2 cz1, .slice (some ⟨gz2, 0, none⟩) 2 cz2, .slice (some ⟨gz3, 0, none⟩) 3 cz3, .slice (some ⟨gz4, 0, none⟩) 3 cz4, .slice (some ⟨gz5, 0, none⟩) 1 cz5] 25)) := by
            show VE.heap[v28.heap.size]? = _
            rw [hV]
            exact alloc_new _ _
          rw [← hV]
          clear hV
          have HX := Lib.hid (Lab.slAt_of v21.heap.size [⟨pa, 2, ca, [⟨⟨#[97]⟩, ⟨#[49]⟩⟩, ⟨⟨#[106, 111, 98]⟩, ⟨#[120]⟩⟩]⟩, ⟨pb, 2, cb, [⟨⟨#[99]⟩, ⟨#[50]⟩⟩, ⟨⟨#[106, 111, 98]⟩, ⟨#[120]⟩⟩]⟩, ⟨pc, 2, cc, [⟨⟨#[97]⟩, ⟨#[49]⟩⟩, ⟨⟨#[98]⟩, ⟨#[51]⟩⟩]⟩, ⟨pd, 3, cd, [⟨⟨#[101, 120, 112, 111, 114, 116, 101, 100, 95, 106, 111, 98]⟩, ⟨#[115]⟩⟩, ⟨⟨#[106, 111, 98]⟩, ⟨#[116]⟩⟩, ⟨⟨#[120]⟩, ⟨#[49]⟩⟩]⟩, ⟨pe, 3, ce, [⟨⟨#[101, 120, 112, 111, 114, 116, 101, 100, 95, 106, 111, 98]⟩, ⟨#[117]⟩⟩, ⟨⟨#[106, 111, 98]⟩, ⟨#[116]⟩⟩, ⟨⟨#[120]⟩, ⟨#[49]⟩⟩]⟩, ⟨pf, 1, cf, [⟨⟨#[97]⟩, ⟨#[49]⟩⟩]⟩] _ rfl VE ((K28.out _ hbE).2.2.2.2.2.2.1) (List.forall_mem_cons.2 ⟨(K28.out _ hbE).1, (List.forall_mem_cons.2 ⟨(K28.out _ hbE).2.1, (List.forall_mem_cons.2 ⟨(K28.out _ hbE).2.2.1, (List.forall_mem_cons.2 ⟨(K28.out _ hbE).2.2.2.1, (List.forall_mem_cons.2 ⟨(K28.out _ hbE).2.2.2.2.1, (List.forall_mem_cons.2 ⟨(K28.out _ hbE).2.2.2.2.2.1, (fun _ h => by simp at h)⟩)⟩)⟩)⟩)⟩)⟩))
          have HY := Lib.hid (Lab.slAt_of v28.heap.size [⟨(some ⟨gz0, 0, none⟩), 2, cz0, [⟨⟨#[97]⟩, ⟨#[49]⟩⟩, ⟨⟨#[106, 111, 98]⟩, ⟨#[120]⟩⟩]⟩, ⟨(some ⟨gz1, 0, none⟩), 2, cz1, [⟨⟨#[99]⟩, ⟨#[50]⟩⟩, ⟨⟨#[106, 111, 98]⟩, ⟨#[120]⟩⟩]⟩, ⟨(some ⟨gz2, 0, none⟩), 2, cz2, [⟨⟨#[97]⟩, ⟨#[49]⟩⟩, ⟨⟨#[98]⟩, ⟨#[51]⟩⟩]⟩, ⟨(some ⟨gz3, 0, none⟩), 3, cz3, [⟨⟨#[101, 120, 112, 111, 114, 116, 101, 100, 95, 106, 111, 98]⟩, ⟨#[115]⟩⟩, ⟨⟨#[106, 111, 98]⟩, ⟨#[116]⟩⟩, ⟨⟨#[120]⟩, ⟨#[49]⟩⟩]⟩, ⟨(some ⟨gz4, 0, none⟩), 3, cz4, [⟨⟨#[101, 120, 112, 111, 114, 116, 101, 100, 95, 106, 111, 98]⟩, ⟨#[117]⟩⟩, ⟨⟨#[106, 111, 98]⟩, ⟨#[116]⟩⟩, ⟨⟨#[120]⟩, ⟨#[49]⟩⟩]⟩, ⟨(some ⟨gz5, 0, none⟩), 1, cz5, [⟨⟨#[97]⟩, ⟨#[49]⟩⟩]⟩] _ rfl VE HSX.out (List.forall_mem_cons.2 ⟨(K28.out _ hbE).2.2.2.2.2.2.2.1, (List.forall_mem_cons.2 ⟨(K28.out _ hbE).2.2.2.2.2.2.2.2.1, (List.forall_mem_cons.2 ⟨(K28.out _ hbE).2.2.2.2.2.2.2.2.2.1, (List.forall_mem_cons.2 ⟨(K28.out _ hbE).2.2.2.2.2.2.2.2.2.2.1, (List.forall_mem_cons.2 ⟨(K28.out _ hbE).2.2.2.2.2.2.2.2.2.2.2.1, (List.forall_mem_cons.2 ⟨(K28.out _ hbE).2.2.2.2.2.2.2.2.2.2.2.2, (fun _ h => by simp at h)⟩)⟩)⟩)⟩)⟩)⟩))
          have HS := Lib.hid (samelists_true v21.heap.size v28.heap.size 6 6 [⟨pa, 2, ca, [⟨⟨#[97]⟩, ⟨#[49]⟩⟩, ⟨⟨#[106, 111, 98]⟩, ⟨#[120]⟩⟩]⟩, ⟨pb, 2, cb, [⟨⟨#[99]⟩, ⟨#[50]⟩⟩, ⟨⟨#[106, 111, 98]⟩, ⟨#[120]⟩⟩]⟩, ⟨pc, 2, cc, [⟨⟨#[97]⟩, ⟨#[49]⟩⟩, ⟨⟨#[98]⟩, ⟨#[51]⟩⟩]⟩, ⟨pd, 3, cd, [⟨⟨#[101, 120, 112, 111, 114, 116, 101, 100, 95, 106, 111, 98]⟩, ⟨#[115]⟩⟩, ⟨⟨#[106, 111, 98]⟩, ⟨#[116]⟩⟩, ⟨⟨#[120]⟩, ⟨#[49]⟩⟩]⟩, ⟨pe, 3, ce, [⟨⟨#[101, 120, 112, 111, 114, 116, 101, 100, 95, 106, 111, 98]⟩, ⟨#[117]⟩⟩, ⟨⟨#[106, 111, 98]⟩, ⟨#[116]⟩⟩, ⟨⟨#[120]⟩, ⟨#[49]⟩⟩]⟩, ⟨pf, 1, cf, [⟨⟨#[97]⟩, ⟨#[49]⟩⟩]⟩] [⟨(some ⟨gz0, 0, none⟩), 2, cz0, [⟨⟨#[97]⟩, ⟨#[49]⟩⟩, ⟨⟨#[106, 111, 98]⟩, ⟨#[120]⟩⟩]⟩, ⟨(some ⟨gz1, 0, none⟩), 2, cz1, [⟨⟨#[99]⟩, ⟨#[50]⟩⟩, ⟨⟨#[106, 111, 98]⟩, ⟨#[120]⟩⟩]⟩, ⟨(some ⟨gz2, 0, none⟩), 2, cz2, [⟨⟨#[97]⟩, ⟨#[49]⟩⟩, ⟨⟨#[98]⟩, ⟨#[51]⟩⟩]⟩, ⟨(some ⟨gz3, 0, none⟩), 3, cz3, [⟨⟨#[101, 120, 112, 111, 114, 116, 101, 100, 95, 106, 111, 98]⟩, ⟨#[115]⟩⟩, ⟨⟨#[106, 111, 98]⟩, ⟨#[116]⟩⟩, ⟨⟨#[120]⟩, ⟨#[49]⟩⟩]⟩, ⟨(some ⟨gz4, 0, none⟩), 3, cz4, [⟨⟨#[101, 120, 112, 111, 114, 116, 101, 100, 95, 106, 111, 98]⟩, ⟨#[117]⟩⟩, ⟨⟨#[106, 111, 98]⟩, ⟨#[116]⟩⟩, ⟨⟨#[120]⟩, ⟨#[49]⟩⟩]⟩, ⟨(some ⟨gz5, 0, none⟩), 1, cz5, [⟨⟨#[97]⟩, ⟨#[49]⟩⟩]⟩] 6 VE rfl rfl HX.out HY.out rfl (fun t ht => by simp only [List.mem_cons, List.not_mem_nil, or_false] at ht; rcases ht with rfl | rfl | rfl | rfl | rfl | rfl <;> exact ⟨rfl, Nat.le_of_ble_eq_true rfl⟩) (fun t ht => by simp only [List.mem_cons, List.not_mem_nil, or_false] at ht; rcases ht with rfl | rfl | rfl | rfl | rfl | rfl <;> exact ⟨rfl, Nat.le_of_ble_eq_true rfl⟩) (by omega))
          clear HX HY HSX
          go_wp2_with (go_at_call 48; refine HS.out.mono ?_)
          first | rintro e vF rfl hbF | rintro e vF ⟨rfl, hbF⟩
          go_wp2_with fail
          go_ret
          exact ⟨rfl, below_next (below_next B28 hbE) hbF⟩
end Go.Proofs.YtbilaghljlobpaaGreat
