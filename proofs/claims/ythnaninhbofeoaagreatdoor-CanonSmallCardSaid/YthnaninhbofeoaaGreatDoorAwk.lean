/- The examples of the chapter: they are as told. -/
import Derived.Test.YthnaninhbofeoaaGreatDoorAwkB
namespace Go.Proofs.YthnaninhbofeoaaGreatDoor
open Go.RowKit

def Can.exA : List Lab.L := [⟨⟨#[97]⟩, ⟨#[49]⟩⟩]
def Can.exB : List Lab.L := [⟨⟨#[97]⟩, ⟨#[49]⟩⟩, ⟨⟨#[106, 111, 98]⟩, ⟨#[120]⟩⟩]
theorem Can.exA_bytes : Can.bytes Can.exA = ([97, 255, 49, 255], 0) := by decide +kernel
theorem Can.exB_bytes : Can.bytes Can.exB = ([97, 255, 49, 255, 106, 111, 98, 255, 120, 255], 0) := by decide +kernel
theorem Can.ex0_bytes : Can.bytes [] = ([], 0) := by decide +kernel
theorem Can.ex1_read : Can.read (ByteArray.mk #[97, 255, 255]).data.toList = ([], 50) := rfl
theorem Can.ex2_read : Can.read (ByteArray.mk #[98, 255, 49, 255, 97, 255, 49, 255]).data.toList = ([], 50) := rfl
def Can.exK : List ByteArray := [⟨#[119, 101, 98, 254, 97, 255, 49, 255]⟩, ⟨#[120, 254]⟩, ⟨#[119, 101, 98, 254, 97, 255, 49, 255]⟩]
theorem Can.exK_seen : (Can.seen Can.exK 3).2.1 = [0, 1] := by decide +kernel
theorem Can.exA_fit : Lab.Fit 1100 Can.exA := by
  show ∀ x ∈ Can.exA, x.n.size ≤ 1100 ∧ x.v.size ≤ 1100
  decide +kernel
theorem Can.exB_fit : Lab.Fit 1100 Can.exB := by
  show ∀ x ∈ Can.exB, x.n.size ≤ 1100 ∧ x.v.size ≤ 1100
  decide +kernel
theorem Can.ex_job : Can.job (ByteArray.mk #[119, 101, 98]).data.toList = true ∧ Can.job (ByteArray.mk #[120]).data.toList = true := by decide +kernel

theorem Can.ofB (W : World) : Calls Tryz.prog 15 #[.slice (some ⟨W.heap.size, 0, none⟩) 4 4] (W.alloc (.cells #[.string ⟨#[97]⟩, .string ⟨#[49]⟩, .string ⟨#[106, 111, 98]⟩, .string ⟨#[120]⟩] 9)) fun e w' =>
    (∃ p c, e = .returned (.slice p 2 c) ∧ Lab.At p Can.exB w' ∧ c ≤ maxLen) ∧ Below (W.heap.size + 1) (W.alloc (.cells #[.string ⟨#[97]⟩, .string ⟨#[49]⟩, .string ⟨#[106, 111, 98]⟩, .string ⟨#[120]⟩] 9)) w' :=
  (of_is W.heap.size _ [⟨#[97]⟩, ⟨#[49]⟩, ⟨#[106, 111, 98]⟩, ⟨#[120]⟩] 4 Can.exB _ (lit_texts _ _ rfl W 4 rfl (by omega)) rfl rfl (by omega) (by omega) rfl).mono fun e w' ⟨⟨u, he, hu⟩, hb⟩ => by
    obtain ⟨p, c, rfl, hA, _, hc⟩ := hu.open
    exact ⟨⟨p, c, he, hA, hc⟩, by rw [World.size_alloc] at hb; exact hb⟩
theorem Can.ofA (W : World) : Calls Tryz.prog 15 #[.slice (some ⟨W.heap.size, 0, none⟩) 2 2] (W.alloc (.cells #[.string ⟨#[97]⟩, .string ⟨#[49]⟩] 9)) fun e w' =>
    (∃ p c, e = .returned (.slice p 1 c) ∧ Lab.At p Can.exA w' ∧ c ≤ maxLen) ∧ Below (W.heap.size + 1) (W.alloc (.cells #[.string ⟨#[97]⟩, .string ⟨#[49]⟩] 9)) w' :=
  (of_is W.heap.size _ [⟨#[97]⟩, ⟨#[49]⟩] 2 Can.exA _ (lit_texts _ _ rfl W 2 rfl (by omega)) rfl rfl (by omega) (by omega) rfl).mono fun e w' ⟨⟨u, he, hu⟩, hb⟩ => by
    obtain ⟨p, c, rfl, hA, _, hc⟩ := hu.open
    exact ⟨⟨p, c, he, hA, hc⟩, by rw [World.size_alloc] at hb; exact hb⟩
theorem Can.fit_more {ls : List Lab.L} (h : Lab.Fit 1100 ls) : Lab.Fit 4294967296 ls := fun x hx => by have := h x hx; omega

theorem Can.lit01 (W : World) : OwnInts W.heap.size (.slice (some ⟨W.heap.size, 0, none⟩) 2 2) [0, 1] (W.alloc (.cells #[.int .i64 0, .int .i64 1] 3)) :=
  ⟨rfl, .inr ⟨W.heap.size, 2, _, rfl, Nat.le_refl _, alloc_new _ _, Nat.le_refl _, by unfold maxLen; omega, rfl, rfl⟩⟩
theorem Can.firstEx (p : Option Addr) (c : Nat) (W : World) (hA : Lab.At p Can.exA W) : Calls Tryz.prog 23 #[.slice (some ⟨W.heap.size, 0, none⟩) 3 3]
    (W.alloc (.cells #[.string ⟨#[119, 101, 98]⟩, .slice p 1 c, .string ⟨#[120]⟩, .slice none 0 0, .string ⟨#[119, 101, 98]⟩, .slice p 1 c] 37)) fun e w' =>
    (∃ v, e = .returned (.tuple #[v, .int .i64 0]) ∧ OwnInts (W.heap.size + 1) v [0, 1] w') ∧ Below (W.heap.size + 1) (W.alloc (.cells #[.string ⟨#[119, 101, 98]⟩, .slice p 1 c, .string ⟨#[120]⟩, .slice none 0 0, .string ⟨#[119, 101, 98]⟩, .slice p 1 c] 37)) w' := by
  have h := first_ok W.heap.size 0 3 [⟨⟨#[119, 101, 98]⟩, p, 1, c, Can.exA⟩, ⟨⟨#[120]⟩, none, 0, 0, []⟩, ⟨⟨#[119, 101, 98]⟩, p, 1, c, Can.exA⟩] Can.exK 3
    (W.alloc (.cells #[.string ⟨#[119, 101, 98]⟩, .slice p 1 c, .string ⟨#[120]⟩, .slice none 0 0, .string ⟨#[119, 101, 98]⟩, .slice p 1 c] 37)) (by simp) rfl rfl ?_ ?_ (by omega) ?_ [0, 1] Can.exK_seen
  · rw [World.size_alloc] at h
    exact h
  · intro i hi
    have hA2 := hA.alloc (.cells #[.string ⟨#[119, 101, 98]⟩, .slice p 1 c, .string ⟨#[120]⟩, .slice none 0 0, .string ⟨#[119, 101, 98]⟩, .slice p 1 c] 37)
    match i, hi with
    | 0, _ => exact ⟨by simp, by simp, hA2⟩
    | 1, _ => exact ⟨by simp, by simp, .inl rfl⟩
    | 2, _ => exact ⟨by simp, by simp, hA2⟩
  · intro i h1 h2
    match i, h1, h2 with
    | 0, _, _ => exact ⟨rfl, (show (1 : Nat) ≤ 70 by omega), Can.exA_fit, (show (3 : Nat) ≤ 1000000 by omega), Can.ex_job.1, _, Can.exA_bytes, rfl⟩
    | 1, _, _ => exact ⟨rfl, (show (0 : Nat) ≤ 70 by omega), fun x hx => by simp at hx, (show (1 : Nat) ≤ 1000000 by omega), Can.ex_job.2, _, Can.ex0_bytes, rfl⟩
    | 2, _, _ => exact ⟨rfl, (show (1 : Nat) ≤ 70 by omega), Can.exA_fit, (show (3 : Nat) ≤ 1000000 by omega), Can.ex_job.1, _, Can.exA_bytes, rfl⟩
  · decide +kernel

set_option maxHeartbeats 6400000 in
set_option maxRecDepth 100000 in
theorem awake_true (m : Int) (w : World) (hm : w.cell? ⟨0, 0, none⟩ = some (.int .i64 m)) :
    Calls Tryz.prog 8 #[] w fun e w' => e = .returned (.bool true) ∧ Below w.heap.size w w' := by
  have O1 := Lib.hid Can.ofB
  have O2 := Lib.hid Can.ofA
  have B1 := Lib.hid (fun p c w hA => cbytes_is p Can.exB 2 c _ 0 Can.exB_bytes w rfl hA (Can.fit_more Can.exB_fit) (by unfold maxLen; omega))
  have Z1 := Lib.hid (fun p c w hA => csize_is p Can.exB 2 c _ 0 Can.exB_bytes w rfl hA (Can.fit_more Can.exB_fit) (by unfold maxLen; omega))
  have B0 := Lib.hid (fun w => cbytes_is none [] 0 0 _ 0 Can.ex0_bytes w rfl (.inl rfl) (fun x hx => by simp at hx) (by unfold maxLen; omega))
  have K1 := Lib.hid (fun p c w hA => ckey_ok ⟨#[119, 101, 98]⟩ p Can.exA 1 c _ _ Can.ex_job.1 Can.exA_bytes rfl w rfl hA Can.exA_fit (by omega) (by decide))
  have R1 := Lib.hid (fun m w hm => cread_is ⟨#[97, 255, 255]⟩ [] 50 Can.ex1_read m w hm (by decide))
  have R2 := Lib.hid (fun m w hm => cread_is ⟨#[98, 255, 49, 255, 97, 255, 49, 255]⟩ [] 50 Can.ex2_read m w hm (by decide))
  have F1 := Lib.hid Can.firstEx
  go_enter Tryz.func8, Tryz.ntmps8
  go_wp2_with (go_at_call 15; refine (O1.out _).mono ?_)
  first | rintro e w1 p1 c1 rfl hA1 hc1 hb1 | rintro e w1 ⟨⟨p1, c1, rfl, hA1, hc1⟩, hb1⟩
  replace hb1 : Below w.heap.size w w1 := ((Below.refl _ _).alloc (Nat.le_refl _) _).trans (hb1.mono (by omega))
  go_wp2_with (go_at_call 19; refine (B1.out _ _ _ hA1).mono ?_)
  first | rintro e w2 rfl hb2 | rintro e w2 ⟨rfl, hb2⟩
  replace hb2 := below_next hb1 hb2
  clear hb1 hA1
  go_wp2_with (go_at_call 15; refine (O1.out _).mono ?_)
  first | rintro e w3 p3 c3 rfl hA3 hc3 hb3 | rintro e w3 ⟨⟨p3, c3, rfl, hA3, hc3⟩, hb3⟩
  replace hb3 : Below w.heap.size w w3 := (hb2.alloc hb2.size _).trans (hb3.mono (by have := hb2.size; omega))
  clear hb2
  go_wp2_with (go_at_call 32; refine (Z1.out _ _ _ hA3).mono ?_)
  first | rintro e w4 rfl hb4 | rintro e w4 ⟨rfl, hb4⟩
  replace hb4 := below_next hb3 hb4
  clear hb3 hA3
  go_wp2_with (go_at_call 19; refine (B0.out _).mono ?_)
  first | rintro e w5 rfl hb5 | rintro e w5 ⟨rfl, hb5⟩
  replace hb5 := below_next hb4 hb5
  clear hb4
  go_wp2_with (go_at_call 15; refine (O2.out _).mono ?_)
  first | rintro e w6 p6 c6 rfl hA6 hc6 hb6 | rintro e w6 ⟨⟨p6, c6, rfl, hA6, hc6⟩, hb6⟩
  replace hb6 : Below w.heap.size w w6 := (hb5.alloc hb5.size _).trans (hb6.mono (by have := hb5.size; omega))
  clear hb5
  go_wp2_with (go_at_call 21; refine (K1.out _ _ _ (hA6.alloc _)).mono ?_)
  first | rintro e w7 rfl hb7 | rintro e w7 ⟨rfl, hb7⟩
  have k7 := below_kept hb7 (alloc_new w6 _) (by simp)
  have hA7 := (hA6.alloc _).below hb7 (Nat.le_refl _)
  have hs7 := hb7.size
  simp only [World.size_alloc] at hs7
  replace hb7 : Below w.heap.size w w7 := (hb6.alloc hb6.size _).trans (hb7.mono (by have := hb6.size; simp; omega))
  have hm7 := cell_later hb7 hm (Nat.le_refl _)
  clear hA6
  go_wp2_with (go_at_call 24; refine (R1.out _ _ hm7).mono ?_)
  first | rintro e w8 v8 rfl hv8 hb8 | rintro e w8 ⟨⟨v8, rfl, hv8⟩, hb8⟩
  have k8 := below_kept hb8 k7 (by omega)
  have hA8 := hA7.below hb8 (Nat.le_refl _)
  have hs8 := hb8.size
  replace hb8 := below_next hb7 hb8
  have hm8 := cell_later hb8 hm (Nat.le_refl _)
  clear hb7 hA7 hm7 hv8 k7
  go_wp2_with (go_at_call 24; refine (R2.out _ _ hm8).mono ?_)
  first | rintro e w9 v9 rfl hv9 hb9 | rintro e w9 ⟨⟨v9, rfl, hv9⟩, hb9⟩
  have k9 := below_kept hb9 k8 (by omega)
  have hA9 := hA8.below hb9 (Nat.le_refl _)
  have hs9 := hb9.size
  replace hb9 := below_next hb8 hb9
  clear hb8 hA8 hm8 hv9 k8
  have d0 : w9.cell? ⟨w6.heap.size, 0, none⟩ = some (.string ⟨#[119, 101, 98]⟩) := by rw [Lib.cell_of_heap k9]; rfl
  have d1 : w9.cell? ⟨w6.heap.size, 1, none⟩ = some (.slice p6 1 c6) := by rw [Lib.cell_of_heap k9]; rfl
  go_wp2_with (go_at_call 23; refine (F1.out _ _ _ hA9).mono ?_)
  first | rintro e w10 v10 rfl hv10 hb10 | rintro e w10 ⟨⟨v10, rfl, hv10⟩, hb10⟩
  have hb11 : Below w.heap.size w w10 := (hb9.alloc hb9.size _).trans (hb10.mono (by have := hb9.size; simp; omega))
  have S1 := Lib.hid (sameints_true _ w10.heap.size v10 (.slice (some ⟨w10.heap.size, 0, none⟩) 2 2) [0, 1] (w10.alloc (.cells #[.int .i64 0, .int .i64 1] 3)) (World.ownsRow.alloc hv10 _) (Can.lit01 w10) (by simp))
  clear hv10 hA9 d0 d1 k9
  go_wp2_with (go_at_call 30; refine S1.out.mono ?_)
  first | rintro e w11 rfl k rfl | rintro e w11 k rfl rfl | rintro e w11 ⟨rfl, k, rfl⟩
  go_wp2_with fail
  go_ret
  exact ⟨rfl, below_drewN (hb11.alloc hb11.size _) k⟩
end Go.Proofs.YthnaninhbofeoaaGreatDoor
