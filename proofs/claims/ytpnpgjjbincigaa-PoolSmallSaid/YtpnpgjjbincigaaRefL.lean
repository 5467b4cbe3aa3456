/- Contracts of the reference's canon: Job, Key. Contracts of the reference's canon: Keys. (Printed by gen_keys.py.) -/
import Derived.Test.YtpnpgjjbincigaaRefH
import Derived.Test.YtpnpgjjbincigaaCnW
import Derived.Test.YtpnpgjjbincigaaKitB
namespace Go.Proofs.Ytpnpgjjbincigaa
open Go.RowKit

set_option maxHeartbeats 800000 in
set_option maxRecDepth 100000 in
theorem rjob_is (s : ByteArray) (b : Bool) (h : Can.job s.data.toList = b) (w : World) (hs : s.size ≤ 1000000) :
    Calls Try.prog 90 #[.string s] w fun e w' => e = .returned (.bool b) ∧ Below w.heap.size w w' := by
  unfold Can.job at h
  rw [Utf.len_is] at h
  by_cases h1 : 1 ≤ s.size
  · have q0 : ((s.size : Int) == 0) = false := beq_eq_false_iff_ne.2 (by omega)
    by_cases h2 : s.size ≤ 128
    · rw [decide_eq_true h1, decide_eq_true h2, Bool.true_and, Bool.true_and] at h
      have HV := Lib.hid (fun w => rcheck_any s b h w (by omega))
      clear h
      go_enter Try.func90, Try.ntmps90
      go_wp2_with (go_at_call 99; refine (HV.out _).mono ?_)
      first | rintro e w1 n er rfl hq hb1 | rintro e w1 ⟨⟨n, er, rfl, hq⟩, hb1⟩
      have HQ := Lib.hid hq
      clear hq
      go_wp2_with fail
      go_ret
      exact ⟨by rw [← HQ.out]; rfl, hb1⟩
    · have hb : b = false := by rw [← h, decide_eq_false h2]; simp
      subst hb
      have h3 : 128 < s.size := by omega
      clear h h2
      go_enter Try.func90, Try.ntmps90
      go_wp2_with fail
      go_ret
      exact ⟨rfl, Below.refl _ _⟩
  · have hb : b = false := by rw [← h, decide_eq_false h1]; simp
    subst hb
    have h3 : s.size = 0 := by omega
    clear h h1
    go_enter Try.func90, Try.ntmps90
    go_wp2_with fail
    go_ret
    exact ⟨rfl, Below.refl _ _⟩

set_option maxHeartbeats 1600000 in
set_option maxRecDepth 100000 in
theorem rkey_is (job : ByteArray) (p : Option Addr) (ls : List Lab.L) (n c : Nat) (k : List UInt8) (er : Int) (h : Can.key (Lab.bs job) ls = (k, er)) (w : World) (hn : ls.length = n) (hA : Lab.At p ls w) (hF : Lab.Fit 1100 ls) (hl : n ≤ 70) (hjs : job.size ≤ 1000000) :
    Calls Try.prog 72 #[.agg #[.string job, .slice p n c]] w fun e w' => e = .returned (.tuple #[.string ⟨k.toArray⟩, .int .i64 er]) ∧ Below w.heap.size w w' := by
  unfold Can.key at h
  obtain ⟨⟨r, e0⟩, hr⟩ : ∃ q, Can.bytes ls = q := ⟨_, rfl⟩
  rw [hr] at h
  dsimp only at h
  obtain ⟨j0, hj⟩ : ∃ j0, Can.job (Lab.bs job) = j0 := ⟨_, rfl⟩
  rw [hj] at h
  have hj2 : Can.job job.data.toList = j0 := hj
  have HJ := Lib.hid (fun w => rjob_is job j0 hj2 w hjs)
  have HB := Lib.hid (fun w hA => rbytes_is p ls n c r e0 hr w hn hA (fun x hx => by have := hF x hx; omega) (by unfold maxLen; omega))
  cases j0
  · rw [if_neg (by simp)] at h
    simp only [Prod.mk.injEq] at h
    obtain ⟨rfl, rfl⟩ := h
    clear hj hj2 hr hn hA hF hl hjs
    go_enter Try.func72, Try.ntmps72
    go_wp2_with (go_at_call 90; refine (HJ.out _).mono ?_)
    first | rintro e w1 rfl hb1 | rintro e w1 ⟨rfl, hb1⟩
    go_wp2_with fail
    go_ret2
    exact ⟨rfl, ((Below.refl _ _).alloc (Nat.le_refl _) _).trans (hb1.mono (by simp))⟩
  · rw [if_pos rfl] at h
    by_cases h0 : e0 = 0
    · subst h0
      rw [if_pos rfl] at h
      simp only [Prod.mk.injEq] at h
      obtain ⟨hk, rfl⟩ := h
      have C0 := fun W => conv_bytes [254] #[.int .u8 254] rfl W 1 rfl (by omega)
      obtain ⟨Y, hY⟩ : ∃ Y, ByteArray.mk r.toArray = Y := ⟨_, rfl⟩
      have hXY : Hid (job ++ ⟨#[254]⟩ ++ Y = ⟨k.toArray⟩) := by
        show job ++ ⟨#[254]⟩ ++ Y = ⟨k.toArray⟩
        rw [← hY, ← hk]
        apply ByteArray.ext
        apply Array.toList_inj.1
        simp [Lab.bs]
      have hrl : r.length ≤ 1000000 := by
        have := Can.raw_length ls 1100 hF
        have h2 : (Can.bytes ls).1.length ≤ 1000000 := by
          unfold Can.bytes
          split
          · exact Nat.le_trans this (Nat.le_trans (Nat.mul_le_mul_right _ (by omega : ls.length ≤ 70)) (by decide))
          · simp
        rw [hr] at h2; exact h2
      have hYs : Y.size ≤ 1000000 := by
        have e2 : Y.size = r.length := by rw [← hY]; exact List.size_toArray
        omega
      have i1 : (job.size : Int) ≤ 1000000 := by omega
      have i2 : (Y.size : Int) ≤ 1000000 := by omega
      have i3 : (job ++ ⟨#[254]⟩).size = job.size + 1 := by rw [ByteArray.size_append]; rfl
      have i4 : (ByteArray.mk #[254]).size = 1 := rfl
      rw [hY] at HB
      clear hY hk hr hj hj2 hrl hF hn
      go_enter Try.func72, Try.ntmps72
      go_wp2_with (go_at_call 90; refine (HJ.out _).mono ?_)
      first | rintro e w1 rfl hb1 | rintro e w1 ⟨rfl, hb1⟩
      have k1 := below_kept hb1 (alloc_new w _) (by simp)
      have hs1 := hb1.size
      simp only [World.size_alloc] at hs1
      have c1 : w1.cell? ⟨w.heap.size, 1, none⟩ = some (.slice p n c) := by rw [Lib.cell_of_heap k1]; rfl
      have hA1 := (hA.alloc (.cells #[.string job, .slice p n c] 29)).below hb1 (Nat.le_refl _)
      go_wp2_with (go_at_call 91; refine (HB.out _ hA1).mono ?_)
      first | rintro e w2 rfl hb2 | rintro e w2 ⟨rfl, hb2⟩
      have k2 := below_kept hb2 k1 (by omega)
      have hs2 := hb2.size
      have c0 : w2.cell? ⟨w.heap.size, 0, none⟩ = some (.string job) := by rw [Lib.cell_of_heap k2]; rfl
      have hB : Below w.heap.size w w2 := (((Below.refl _ _).alloc (Nat.le_refl _) _).trans (hb1.mono (by simp))).trans (hb2.mono (by omega))
      go_wp2_with fail
      go_ret2
      exact ⟨by rw [← hXY.out]; rfl, hB.alloc hB.size _⟩
    · rw [if_neg h0] at h
      simp only [Prod.mk.injEq] at h
      obtain ⟨rfl, rfl⟩ := h
      have q1 : (e0 != 0) = true := by simpa using h0
      clear hj hj2 hr hn hF hl hjs h0
      go_enter Try.func72, Try.ntmps72
      go_wp2_with (go_at_call 90; refine (HJ.out _).mono ?_)
      first | rintro e w1 rfl hb1 | rintro e w1 ⟨rfl, hb1⟩
      have k1 := below_kept hb1 (alloc_new w _) (by simp)
      have hs1 := hb1.size
      simp only [World.size_alloc] at hs1
      have c1 : w1.cell? ⟨w.heap.size, 1, none⟩ = some (.slice p n c) := by rw [Lib.cell_of_heap k1]; rfl
      have hA1 := (hA.alloc (.cells #[.string job, .slice p n c] 29)).below hb1 (Nat.le_refl _)
      go_wp2_with (go_at_call 91; refine (HB.out _ hA1).mono ?_)
      first | rintro e w2 rfl hb2 | rintro e w2 ⟨rfl, hb2⟩
      go_wp2_with fail
      go_ret2
      exact ⟨rfl, (((Below.refl _ _).alloc (Nat.le_refl _) _).trans (hb1.mono (by simp))).trans (hb2.mono (by omega))⟩
end Go.Proofs.Ytpnpgjjbincigaa
