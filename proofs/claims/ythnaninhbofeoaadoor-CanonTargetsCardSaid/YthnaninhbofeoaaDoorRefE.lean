/- Contracts of the reference's labels: Value, wrong, Less. -/
import Derived.Test.YthnaninhbofeoaaDoorRefD
namespace Go.Proofs.YthnaninhbofeoaaDoor
open Go.RowKit

set_option maxHeartbeats 800000 in
theorem rval_is (s : ByteArray) (b : Bool) (h : Lab.value s.data.toList = b) (w : World) (hs : s.size ≤ maxLen) :
    Calls Tryd.prog 131 #[.string s] w fun e w' => e = .returned (.bool b) ∧ Below w.heap.size w w' := by
  unfold maxLen at hs
  unfold Lab.value at h
  rw [Utf.len_is] at h
  by_cases h1 : s.size ≤ 1024
  · rw [decide_eq_true h1, Bool.true_and] at h
    have HC := Lib.hid (fun w => rcheck_any s b h w (by omega))
    clear h
    go_enter Tryd.func131, Tryd.ntmps131
    go_wp2_with (go_at_call 58; refine (HC.out _).mono ?_)
    first | rintro e w1 n er rfl ho hb1 | rintro e w1 ⟨⟨n, er, rfl, ho⟩, hb1⟩
    go_wp2_with fail
    go_ret
    exact ⟨by first | rfl | rw [ho], hb1⟩
  · have hb : b = false := by rw [← h, decide_eq_false h1]; rfl
    subst hb
    clear h
    have h2 : 1024 < s.size := by omega
    go_enter Tryd.func131, Tryd.ntmps131
    go_wp2_with fail
    go_ret
    exact ⟨rfl, Below.refl _ _⟩

theorem drewN_below (w : World) (n : Nat) : Below w.heap.size w (w.drewN n) := below_drewN (Below.refl _ _) n

set_option maxHeartbeats 800000 in
theorem wrong_is (x : Lab.L) (c : Int) (h : Lab.one x = c) (w : World) (hn : x.n.size ≤ maxLen) (hv : x.v.size ≤ maxLen) :
    Calls Tryd.prog 102 #[.agg #[.string x.n, .string x.v]] w fun e w' => e = .returned (.int .i64 c) ∧ Below w.heap.size w w' := by
  unfold Lab.one Lab.bs at h
  obtain ⟨bn, hbn⟩ : ∃ bn, Lab.named 95 x.n.data.toList = bn := ⟨_, rfl⟩
  obtain ⟨bv, hbv⟩ : ∃ bv, Lab.value x.v.data.toList = bv := ⟨_, rfl⟩
  rw [hbn, hbv] at h
  have HN := Lib.hid (fun w => rname_is x.n false 95 rfl bn hbn w hn)
  have HV := Lib.hid (fun w => rval_is x.v bv hbv w hv)
  clear hbn hbv
  cases bn
  · obtain rfl : c = 40 := by rw [← h]; rfl
    clear h
    go_enter Tryd.func102, Tryd.ntmps102
    go_wp2_with (go_at_call 130; refine (HN.out _).mono ?_)
    first | rintro e w1 rfl n rfl | rintro e w1 n rfl rfl | rintro e w1 ⟨rfl, n, rfl⟩
    go_wp2_with fail
    go_ret
    exact ⟨rfl, below_drewN ((Below.refl _ _).alloc (Nat.le_refl _) _) _⟩
  · cases bv
    · obtain rfl : c = 41 := by rw [← h]; rfl
      clear h
      go_enter Tryd.func102, Tryd.ntmps102
      go_wp2_with (go_at_call 130; refine (HN.out _).mono ?_)
      first | rintro e w1 rfl n rfl | rintro e w1 n rfl rfl | rintro e w1 ⟨rfl, n, rfl⟩
      go_wp2_with (go_at_call 131; refine (HV.out _).mono ?_)
      first | rintro e w1 rfl hb1 | rintro e w1 ⟨rfl, hb1⟩
      go_wp2_with fail
      go_ret
      exact ⟨rfl, (below_drewN ((Below.refl _ _).alloc (Nat.le_refl _) _) _).trans (hb1.mono (by simp))⟩
    · obtain rfl : c = 0 := by rw [← h]; rfl
      clear h
      go_enter Tryd.func102, Tryd.ntmps102
      go_wp2_with (go_at_call 130; refine (HN.out _).mono ?_)
      first | rintro e w1 rfl n rfl | rintro e w1 n rfl rfl | rintro e w1 ⟨rfl, n, rfl⟩
      go_wp2_with (go_at_call 131; refine (HV.out _).mono ?_)
      first | rintro e w1 rfl hb1 | rintro e w1 ⟨rfl, hb1⟩
      go_wp2_with fail
      go_ret
      exact ⟨rfl, (below_drewN ((Below.refl _ _).alloc (Nat.le_refl _) _) _).trans (hb1.mono (by simp))⟩

set_option maxHeartbeats 1600000 in
set_option maxRecDepth 100000 in
theorem less_is (a b : ByteArray) (p : Bool) (h : decide (Lab.bs a < Lab.bs b) = p) (w : World) (ha : a.size ≤ maxLen) :
    Calls Tryd.prog 56 #[.string a, .string b] w fun e w' => e = .returned (.bool p) ∧ ∃ n, w' = w.drewN n := by
  unfold maxLen at ha
  have H0 : Hid (decide (a.data.toList.drop 0 < b.data.toList.drop 0) = p) := by
    show decide (a.data.toList.drop 0 < b.data.toList.drop 0) = p
    rw [List.drop_zero, List.drop_zero]; exact h
  clear h
  go_enter Tryd.func56, Tryd.ntmps56
  go_wp2_with fail
  go_loopw [5] (fun i wr => ∃ k : Nat, k ≤ a.size ∧ k ≤ b.size ∧ i = .int .i64 k ∧ Hid (decide (a.data.toList.drop k < b.data.toList.drop k) = p) ∧ ∃ n, wr = w.drewN n) (fun i _ => a.size - (intOf i).toNat)
  case atStart => exact ⟨0, Nat.zero_le _, Nat.zero_le _, rfl, H0, 0, rfl⟩
  case round =>
    obtain ⟨k, hk, hk2, rfl, HK, nw, rfl⟩ := hrel
    by_cases hlt : k < a.size ∧ k < b.size
    · obtain ⟨l1, l2⟩ := hlt
      have HA := Lib.hid (Utf.drop_cons a k l1)
      have HB := Lib.hid (Utf.drop_cons b k l2)
      have hca : (a[k].toNat : Int) < 256 := by have := a[k].toNat_lt; omega
      have hcb : (b[k].toNat : Int) < 256 := by have := b[k].toNat_lt; omega
      by_cases he : a[k] = b[k]
      · have HG : Hid (decide (a.data.toList.drop (k + 1) < b.data.toList.drop (k + 1)) = p) := by
          show decide (a.data.toList.drop (k + 1) < b.data.toList.drop (k + 1)) = p
          have h2 := HK.out
          rw [HA.out, HB.out, he] at h2
          rw [← h2, Bool.eq_iff_iff, decide_eq_true_eq, decide_eq_true_eq, List.cons_lt_cons_iff]
          simp
        have q1 : ((a[k].toNat : Int) == (b[k].toNat : Int)) = true := by rw [he]; simp
        have q2 : ((a[k].toNat : Int) != (b[k].toNat : Int)) = false := by rw [he]; simp
        have HE := Lib.hid he
        clear he HK HA HB
        go_wp2_with fail
        go_quiet (fail)
        go_wp2_with fail
        go_roundw
        case rel => exact ⟨k + 1, by omega, by omega, by go_num, HG, _, rfl⟩
        case measure => simp [intOf]; omega
      · have hne : (a[k].toNat : Int) ≠ (b[k].toNat : Int) := by
          intro h; apply he; rw [← UInt8.toNat_inj]; omega
        have HG : Hid (decide (a[k].toNat < b[k].toNat) = p) := by
          show decide (a[k].toNat < b[k].toNat) = p
          have h2 := HK.out
          rw [HA.out, HB.out] at h2
          rw [← h2, Bool.eq_iff_iff, decide_eq_true_eq, decide_eq_true_eq, List.cons_lt_cons_iff, ← UInt8.lt_iff_toNat_lt]
          simp [he]
        have q1 : ((a[k].toNat : Int) == (b[k].toNat : Int)) = false := by simpa using hne
        have q2 : ((a[k].toNat : Int) != (b[k].toNat : Int)) = true := by simpa using hne
        clear he HK HA HB hne
        go_wp2_with fail
        go_quiet (fail)
        go_wp2_with fail
        go_quiet (fail)
        go_wp2_with fail
        go_ret
        exact ⟨by rw [← HG.out]; rfl, _, by rw [World.drewN_drewN, World.drewN_drewN]⟩
    · have HG : Hid (decide (a.size < b.size) = p) := by
        show decide (a.size < b.size) = p
        have h2 := HK.out
        rw [← h2, Bool.eq_iff_iff, decide_eq_true_eq, decide_eq_true_eq]
        by_cases g : k < a.size
        · have g2 : b.size ≤ k := by omega
          rw [List.drop_eq_nil_iff.2 (by rw [Utf.len_is]; omega : b.data.toList.length ≤ k)]
          have : ¬ (a.data.toList.drop k < []) := List.not_lt_nil _
          constructor
          · intro; omega
          · intro h; exact absurd h this
        · rw [List.drop_eq_nil_iff.2 (by rw [Utf.len_is]; omega : a.data.toList.length ≤ k)]
          by_cases g2 : k < b.size
          · rw [Utf.drop_cons b k g2]
            constructor
            · intro; exact List.nil_lt_cons _ _
            · intro; omega
          · rw [List.drop_eq_nil_iff.2 (by rw [Utf.len_is]; omega : b.data.toList.length ≤ k)]
            constructor
            · intro; omega
            · intro h; exact absurd h (List.not_lt_nil _)
      clear HK
      by_cases g : k < a.size
      · have g2 : b.size ≤ k := by omega
        clear hlt
        go_wp2_with fail
        go_ret
        exact ⟨by rw [← HG.out]; rfl, _, rfl⟩
      · have g2 : a.size ≤ k := by omega
        clear hlt g
        go_wp2_with fail
        go_ret
        exact ⟨by rw [← HG.out]; rfl, _, rfl⟩
end Go.Proofs.YthnaninhbofeoaaDoor
