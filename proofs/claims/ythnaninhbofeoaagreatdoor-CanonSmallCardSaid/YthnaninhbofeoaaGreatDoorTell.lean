/- The walk of 'tells': what the program and the reference tell of labels and of a string is the same. (Printed by gen_tell.py.) -/
import Derived.Test.YthnaninhbofeoaaGreatDoorCanC
import Derived.Test.YthnaninhbofeoaaGreatDoorRefH
import Derived.Test.YthnaninhbofeoaaGreatDoorKitB
namespace Go.Proofs.YthnaninhbofeoaaGreatDoor
open Go.RowKit

theorem Can.bytes_len (ls : List Lab.L) (h1 : ls.length ≤ 70) (hF : Lab.Fit 1100 ls) : (Can.bytes ls).1.length ≤ 1000000 := by
  unfold Can.bytes
  split
  · have := Can.raw_length ls 1100 hF
    exact Nat.le_trans this (Nat.le_trans (Nat.mul_le_mul_right _ h1) (by decide))
  · simp
theorem Can.short_fit (ls : List Lab.L) (h : Can.short ls = true) : ls.length ≤ 70 ∧ Lab.Fit 1100 ls := by
  unfold Can.short at h
  rw [Bool.and_eq_true] at h
  refine ⟨of_decide_eq_true h.1, fun x hx => ?_⟩
  have := List.all_eq_true.1 h.2 x hx
  rw [Bool.and_eq_true] at this
  exact ⟨of_decide_eq_true this.1, of_decide_eq_true this.2⟩

set_option maxHeartbeats 6400000 in
set_option maxRecDepth 100000 in
theorem ctells_true (p : Option Addr) (ls : List Lab.L) (n c : Nat) (s : ByteArray) (m : Int) (w : World) (hn : ls.length = n) (hA : Lab.At p ls w) (hp : p = none → c = 0) (hF : Lab.Fit maxLen ls) (hl : n ≤ maxLen) (hs : s.size ≤ maxLen)
    (hm : w.cell? ⟨0, 0, none⟩ = some (.int .i64 m)) :
    Calls Tryz.prog 14 #[.slice p n c, .string s] w fun e w' => e = .returned (.bool true) ∧ Below w.heap.size w w' := by
  obtain ⟨b, hb⟩ : ∃ b, Can.short ls = b := ⟨_, rfl⟩
  have HS := Lib.hid (short_is p ls n c b hb w hn hA hF hl)
  cases b
  · clear hb hn hA hp hF hl hm
    go_enter Tryz.func14, Tryz.ntmps14
    go_wp2_with (go_at_call 26; refine HS.out.mono ?_)
    first | rintro e w1 rfl hb1 | rintro e w1 ⟨rfl, hb1⟩
    go_wp2_with fail
    go_ret
    exact ⟨rfl, hb1⟩
  by_cases hsz : s.size ≤ 3000
  case neg =>
    have hs2 : 3000 < s.size := by omega
    unfold maxLen at hs
    clear hb hn hA hp hF hl hm hsz
    go_enter Tryz.func14, Tryz.ntmps14
    go_wp2_with (go_at_call 26; refine HS.out.mono ?_)
    first | rintro e w1 rfl hb1 | rintro e w1 ⟨rfl, hb1⟩
    go_wp2_with fail
    go_ret
    exact ⟨rfl, hb1⟩
  obtain ⟨h70, hF2⟩ := Can.short_fit ls hb
  rw [hn] at h70
  obtain ⟨⟨r, er⟩, hr⟩ : ∃ q, Can.bytes ls = q := ⟨_, rfl⟩
  have hrl := Can.bytes_len ls (by omega) hF2
  rw [hr] at hrl
  dsimp only at hrl
  have hF3 : Lab.Fit 4294967296 ls := fun x hx => by have := hF2 x hx; omega
  obtain ⟨S, hS⟩ : ∃ S, ByteArray.mk r.toArray = S := ⟨_, rfl⟩
  have hSz : r.length = S.size := by rw [← hS]; simp [ByteArray.size]
  have hSd : S.data.toList = r := by rw [← hS]
  obtain ⟨t, ht⟩ : ∃ t, (if er = 0 then Can.sum 14695981039346656037 r else 0) = t := ⟨_, rfl⟩
  obtain ⟨⟨lr, e2⟩, hread⟩ : ∃ q, Can.read s.data.toList = q := ⟨_, rfl⟩
  have hlr : lr.length ≤ 1000000 := by
    have h1 : (Can.read s.data.toList).1.length ≤ 1000000 := by
      unfold Can.read
      simp only []
      split
      · simp
      · rename_i h
        simp only [not_or] at h
        split
        · rw [Can.pairs_length]; omega
        · simp
    rw [hread] at h1
    exact h1
  have H1 := Lib.hid (fun w hA => lent_is p ls n c w hn hA hp (by omega))
  have H2 := Lib.hid (fun p n' c w hn hA => cbytes_is p ls n' c r er hr w hn hA hF3 (by unfold maxLen; omega))
  have H3 := Lib.hid (fun p n' c w hn hA => csize_is p ls n' c r er hr w hn hA hF3 (by unfold maxLen; omega))
  have H4 := Lib.hid (fun p n' c w hn hA => cprint_is p ls n' c r er hr t ht w hn hA hF3 (by unfold maxLen; omega) (by omega))
  have H5 := Lib.hid (fun p n' c w hn hA => rbytes_is p ls n' c r er hr w hn hA hF3 (by unfold maxLen; omega))
  have H6 := Lib.hid (fun m w hm => cread_is s lr e2 hread m w hm (by omega))
  have H7 := Lib.hid (fun w => rread_is s lr e2 hread w (by omega))
  have H8 := Lib.hid (fun g cap B w hA hO => kept_true g cap p ls n c B w hn hA (by omega) hO)
  have hS9 : er = 0 → Hid (∀ w, Calls Tryz.prog 41 #[.string S] w fun e W' => e = .returned (.int .u64 (t : Int)) ∧ w = W') := fun h0 w => rsum_is S (by unfold maxLen; omega) t (by rw [hSd, ← ht, if_pos h0]) w
  rw [hS] at H2 H5
  rw [hSz] at H3
  have htz : er ≠ 0 → t = 0 := fun h0 => by rw [← ht, if_neg h0]
  have HN := Lib.hid hn
  have hg0 := World.block_lt_of_cell? _ _ hm
  have i1 : (s.size : Int) ≤ 3000 := by omega
  have q1 : (S.toList == S.toList) = true := by simp
  clear hb hn hp hF hl hs hF2 hF3 hrl hS hSz hSd ht hread hr
  by_cases h0 : er = 0
  · have HS9 := hS9 h0
    subst h0
    clear hS9 htz
    go_enter Tryz.func14, Tryz.ntmps14
    go_wp2_with (go_at_call 26; refine HS.out.mono ?_)
    first | rintro e w1 rfl hb1 | rintro e w1 ⟨rfl, hb1⟩
    have hA1 := hA.below hb1 (Nat.le_refl _)
    go_wp2_with (go_at_call 39; refine (H1.out _ hA1).mono ?_)
    first | rintro e w2 g cap rfl hO2 hb2 | rintro e w2 ⟨⟨g, cap, rfl, hO2⟩, hb2⟩
    have hb2 := below_next hb1 hb2
    have hO2 := row_lift hO2 hb1.size
    have hT : ∀ w', OwnLabels w.heap.size (.slice (some ⟨g, 0, none⟩) (n + 3) cap) (ls ++ Mark.some 3) w' → Lab.At (some ⟨g, 0, none⟩) ls w' := by
      intro w' h
      obtain ⟨p', c', he, hAt, _, _⟩ := h.open
      rw [List.length_append, Mark.some_length, HN.out] at he
      cases he
      exact hAt.take
    have HT := Lib.hid hT
    clear hT
    go_wp2_with (go_at_call 19; refine (H2.out _ n _ _ HN.out (HT.out _ hO2)).mono ?_)
    first | rintro e w3 ⟨rfl, hb3⟩ | rintro e w3 rfl hb3
    have hO3 := row_below hO2 hb3 (Nat.le_refl _)
    have hb3 := below_next hb2 hb3
    go_wp2_with (go_at_call 32; refine (H3.out _ n _ _ HN.out (HT.out _ hO3)).mono ?_)
    first | rintro e w4 ⟨rfl, hb4⟩ | rintro e w4 rfl hb4
    have hO4 := row_below hO3 hb4 (Nat.le_refl _)
    have hb4 := below_next hb3 hb4
    go_wp2_with (go_at_call 40; refine (H4.out _ n _ _ HN.out (HT.out _ hO4)).mono ?_)
    first | rintro e w5 ⟨rfl, hb5⟩ | rintro e w5 rfl hb5
    have hO5 := row_below hO4 hb5 (Nat.le_refl _)
    have hb5 := below_next hb4 hb5
    have hA5 := hA.below hb5 (Nat.le_refl _)
    go_wp2_with (go_at_call 17; refine (H5.out _ n _ _ HN.out hA5).mono ?_)
    first | rintro e w6 ⟨rfl, hb6⟩ | rintro e w6 rfl hb6
    have hO6 := row_below hO5 hb6 (Nat.le_refl _)
    have hb6 := below_next hb5 hb6
    go_wp2_with (go_at_call 41; refine (HS9.out _).mono ?_)
    try rintro e w7 ⟨rfl, rfl⟩
    have hm6 := cell_later hb6 hm (Nat.le_refl _)
    go_wp2_with (go_at_call 24; refine (H6.out _ _ hm6).mono ?_)
    first | rintro e w7 ⟨⟨vx, rfl, hX⟩, hb7⟩ | rintro e w7 vx rfl hX hb7
    have hO7 := row_below hO6 hb7 (Nat.le_refl _)
    have hb7 := below_next hb6 hb7
    go_wp2_with (go_at_call 42; refine (H7.out _).mono ?_)
    first | rintro e w8 ⟨⟨vy, rfl, hY⟩, hb8⟩ | rintro e w8 vy rfl hY hb8
    have hX8 := row_below hX hb8 (Nat.le_refl _)
    have hO8 := row_below hO7 hb8 (Nat.le_refl _)
    have hb8 := below_next hb7 hb8
    obtain ⟨px, cx, rfl, hAx, _, _⟩ := OwnLabels.open hX8
    obtain ⟨py, cy, rfl, hAy, _, _⟩ := OwnLabels.open hY
    obtain ⟨N, hNN⟩ : ∃ N, lr.length = N := ⟨_, rfl⟩
    have HSm := Lib.hid (same_true px py lr N cx cy w8 hNN hAx hAy (by unfold maxLen; omega))
    rw [hNN]
    have hA9 := fun k => hA.below (below_drewN hb8 k) (Nat.le_refl _)
    have HK9 := Lib.hid (fun k => H8.out g cap _ _ (hA9 k) (show OwnLabels w.heap.size _ _ (w8.drewN k) from hO8))
    clear hX hX8 hY hAx hAy hO2 hO3 hO4 hO5 hO6 hO7 hO8 hA1 hA5 hA9 hA hNN
    go_wp2_with (go_at_call 38; refine HSm.out.mono ?_)
    first | rintro e w9 rfl k rfl | rintro e w9 k rfl rfl | rintro e w9 ⟨rfl, k, rfl⟩
    go_wp2_with (go_at_call 43; refine (HK9.out k).mono ?_)
    first | rintro e w10 rfl hb10 | rintro e w10 ⟨rfl, hb10⟩
    go_wp2_with fail
    go_ret
    exact ⟨rfl, below_next (below_drewN hb8 k) hb10⟩
  · have q2 : (er == 0) = false := by simpa using h0
    obtain rfl : t = 0 := htz h0
    clear hS9 htz h0
    go_enter Tryz.func14, Tryz.ntmps14
    go_wp2_with (go_at_call 26; refine HS.out.mono ?_)
    first | rintro e w1 rfl hb1 | rintro e w1 ⟨rfl, hb1⟩
    have hA1 := hA.below hb1 (Nat.le_refl _)
    go_wp2_with (go_at_call 39; refine (H1.out _ hA1).mono ?_)
    first | rintro e w2 g cap rfl hO2 hb2 | rintro e w2 ⟨⟨g, cap, rfl, hO2⟩, hb2⟩
    have hb2 := below_next hb1 hb2
    have hO2 := row_lift hO2 hb1.size
    have hT : ∀ w', OwnLabels w.heap.size (.slice (some ⟨g, 0, none⟩) (n + 3) cap) (ls ++ Mark.some 3) w' → Lab.At (some ⟨g, 0, none⟩) ls w' := by
      intro w' h
      obtain ⟨p', c', he, hAt, _, _⟩ := h.open
      rw [List.length_append, Mark.some_length, HN.out] at he
      cases he
      exact hAt.take
    have HT := Lib.hid hT
    clear hT
    go_wp2_with (go_at_call 19; refine (H2.out _ n _ _ HN.out (HT.out _ hO2)).mono ?_)
    first | rintro e w3 ⟨rfl, hb3⟩ | rintro e w3 rfl hb3
    have hO3 := row_below hO2 hb3 (Nat.le_refl _)
    have hb3 := below_next hb2 hb3
    go_wp2_with (go_at_call 32; refine (H3.out _ n _ _ HN.out (HT.out _ hO3)).mono ?_)
    first | rintro e w4 ⟨rfl, hb4⟩ | rintro e w4 rfl hb4
    have hO4 := row_below hO3 hb4 (Nat.le_refl _)
    have hb4 := below_next hb3 hb4
    go_wp2_with (go_at_call 40; refine (H4.out _ n _ _ HN.out (HT.out _ hO4)).mono ?_)
    first | rintro e w5 ⟨rfl, hb5⟩ | rintro e w5 rfl hb5
    have hO5 := row_below hO4 hb5 (Nat.le_refl _)
    have hb5 := below_next hb4 hb5
    have hA5 := hA.below hb5 (Nat.le_refl _)
    go_wp2_with (go_at_call 17; refine (H5.out _ n _ _ HN.out hA5).mono ?_)
    first | rintro e w6 ⟨rfl, hb6⟩ | rintro e w6 rfl hb6
    have hO6 := row_below hO5 hb6 (Nat.le_refl _)
    have hb6 := below_next hb5 hb6
    have hm6 := cell_later hb6 hm (Nat.le_refl _)
    go_wp2_with (go_at_call 24; refine (H6.out _ _ hm6).mono ?_)
    first | rintro e w7 ⟨⟨vx, rfl, hX⟩, hb7⟩ | rintro e w7 vx rfl hX hb7
    have hO7 := row_below hO6 hb7 (Nat.le_refl _)
    have hb7 := below_next hb6 hb7
    go_wp2_with (go_at_call 42; refine (H7.out _).mono ?_)
    first | rintro e w8 ⟨⟨vy, rfl, hY⟩, hb8⟩ | rintro e w8 vy rfl hY hb8
    have hX8 := row_below hX hb8 (Nat.le_refl _)
    have hO8 := row_below hO7 hb8 (Nat.le_refl _)
    have hb8 := below_next hb7 hb8
    obtain ⟨px, cx, rfl, hAx, _, _⟩ := OwnLabels.open hX8
    obtain ⟨py, cy, rfl, hAy, _, _⟩ := OwnLabels.open hY
    obtain ⟨N, hNN⟩ : ∃ N, lr.length = N := ⟨_, rfl⟩
    have HSm := Lib.hid (same_true px py lr N cx cy w8 hNN hAx hAy (by unfold maxLen; omega))
    rw [hNN]
    have hA9 := fun k => hA.below (below_drewN hb8 k) (Nat.le_refl _)
    have HK9 := Lib.hid (fun k => H8.out g cap _ _ (hA9 k) (show OwnLabels w.heap.size _ _ (w8.drewN k) from hO8))
    clear hX hX8 hY hAx hAy hO2 hO3 hO4 hO5 hO6 hO7 hO8 hA1 hA5 hA9 hA hNN
    go_wp2_with (go_at_call 38; refine HSm.out.mono ?_)
    first | rintro e w9 rfl k rfl | rintro e w9 k rfl rfl | rintro e w9 ⟨rfl, k, rfl⟩
    go_wp2_with (go_at_call 43; refine (HK9.out k).mono ?_)
    first | rintro e w10 rfl hb10 | rintro e w10 ⟨rfl, hb10⟩
    go_wp2_with fail
    go_ret
    exact ⟨rfl, below_next (below_drewN hb8 k) hb10⟩
end Go.Proofs.YthnaninhbofeoaaGreatDoor
