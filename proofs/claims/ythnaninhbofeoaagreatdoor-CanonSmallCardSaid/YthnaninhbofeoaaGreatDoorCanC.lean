/- Contracts of canon: Size, Print, Job; short of the law. -/
import Derived.Test.YthnaninhbofeoaaGreatDoorCanA
import Derived.Test.YthnaninhbofeoaaGreatDoorHash
namespace Go.Proofs.YthnaninhbofeoaaGreatDoor
open Go.RowKit

set_option maxHeartbeats 800000 in
theorem csize_is (p : Option Addr) (ls : List Lab.L) (n c : Nat) (r : List UInt8) (er : Int) (h : Can.bytes ls = (r, er)) (w : World) (hn : ls.length = n) (hA : Lab.At p ls w) (hF : Lab.Fit 4294967296 ls) (hl : n ≤ maxLen) :
    Calls Tryz.prog 32 #[.slice p n c] w fun e w' => e = .returned (.tuple #[.int .i64 (r.length : Int), .int .i64 er]) ∧ Below w.heap.size w w' := by
  have HC := Lib.hid (cbytes_is p ls n c r er h w hn hA hF hl)
  obtain ⟨b, hb⟩ : ∃ b, ByteArray.mk r.toArray = b := ⟨_, rfl⟩
  have hz : r.length = b.size := by rw [← hb]; simp [ByteArray.size]
  rw [hb] at HC
  rw [hz]
  clear h hn hA hF hl hb hz
  go_enter Tryz.func32, Tryz.ntmps32
  go_wp2_with (go_at_call 19; refine HC.out.mono ?_)
  first | rintro e w1 ⟨rfl, hb1⟩ | rintro e w1 rfl hb1
  go_wp2_with fail
  go_ret2
  exact ⟨rfl, hb1⟩

/-- what Print gives -/
def Can.print (ls : List Lab.L) : Nat × Int := if (Can.bytes ls).2 = 0 then (Can.sum 14695981039346656037 (Can.bytes ls).1, 0) else (0, (Can.bytes ls).2)

set_option maxHeartbeats 800000 in
theorem cprint_is (p : Option Addr) (ls : List Lab.L) (n c : Nat) (r : List UInt8) (er : Int) (h : Can.bytes ls = (r, er)) (t : Nat) (ht : (if er = 0 then Can.sum 14695981039346656037 r else 0) = t) (w : World) (hn : ls.length = n) (hA : Lab.At p ls w) (hF : Lab.Fit 4294967296 ls) (hl : n ≤ maxLen) (hrl : r.length ≤ 1000000000) :
    Calls Tryz.prog 40 #[.slice p n c] w fun e w' => e = .returned (.tuple #[.int .u64 (t : Int), .int .i64 er]) ∧ Below w.heap.size w w' := by
  have HC := Lib.hid (cbytes_is p ls n c r er h w hn hA hF hl)
  obtain ⟨b, hb⟩ : ∃ b, ByteArray.mk r.toArray = b := ⟨_, rfl⟩
  have hd : b.data.toList = r := by rw [← hb]
  have hz : b.size ≤ 1000000000 := by rw [← hb]; simpa [ByteArray.size] using hrl
  rw [hb] at HC
  clear h hn hA hF hl hb
  by_cases h0 : er = 0
  · subst h0
    rw [if_pos rfl] at ht
    have HS := Lib.hid (fun w => sum_is b (by unfold maxLen; omega) t (by rw [hd]; exact ht) w)
    clear ht hd hrl
    go_enter Tryz.func40, Tryz.ntmps40
    go_wp2_with (go_at_call 19; refine HC.out.mono ?_)
    first | rintro e w1 ⟨rfl, hb1⟩ | rintro e w1 rfl hb1
    go_wp2_with (go_at_call 60; refine (HS.out _).mono ?_)
    first | rintro e w2 ⟨rfl, hb2⟩ | rintro e w2 rfl hb2
    go_wp2_with fail
    go_ret2
    exact ⟨rfl, below_next hb1 hb2⟩
  · rw [if_neg h0] at ht
    subst ht
    have q1 : (er != 0) = true := by simpa using h0
    clear hd hrl
    go_enter Tryz.func40, Tryz.ntmps40
    go_wp2_with (go_at_call 19; refine HC.out.mono ?_)
    first | rintro e w1 ⟨rfl, hb1⟩ | rintro e w1 rfl hb1
    go_wp2_with fail
    go_ret2
    exact ⟨rfl, hb1⟩

def Can.job (l : List UInt8) : Bool := decide (1 ≤ l.length) && decide (l.length ≤ 128) && Utf.valid l
set_option maxHeartbeats 800000 in
theorem cjob_is (s : ByteArray) (b : Bool) (h : Can.job s.data.toList = b) (w : World) (hs : s.size ≤ maxLen) :
    Calls Tryz.prog 47 #[.string s] w fun e w' => e = .returned (.bool b) ∧ w = w' := by
  have hs' := hs
  unfold maxLen at hs
  unfold Can.job at h
  rw [show s.data.toList.length = s.size from by simp] at h
  by_cases h1 : 1 ≤ s.size
  · by_cases h2 : s.size ≤ 128
    · rw [decide_eq_true h1, decide_eq_true h2, Bool.true_and, Bool.true_and] at h
      have HV := Lib.hid (fun w => valid_is s b h w hs')
      clear h
      go_enter Tryz.func47, Tryz.ntmps47
      go_wp2_with (go_at_call 73; refine (HV.out _).mono ?_)
      try rintro e w1 ⟨rfl, rfl⟩
      go_wp2_with fail
      go_ret
      exact ⟨rfl, rfl⟩
    · have hb : b = false := by rw [← h, decide_eq_false h2]; simp
      subst hb
      have h3 : 128 < s.size := by omega
      clear h h2
      go_enter Tryz.func47, Tryz.ntmps47
      go_wp2_with fail
      go_ret
      exact ⟨rfl, rfl⟩
  · have hb : b = false := by rw [← h, decide_eq_false h1]; simp
    subst hb
    have h3 : s.size < 1 := by omega
    clear h h1
    go_enter Tryz.func47, Tryz.ntmps47
    go_wp2_with fail
    go_ret
    exact ⟨rfl, rfl⟩

/-- what 'short' asks -/
def Can.short (ls : List Lab.L) : Bool := decide (ls.length ≤ 70) && ls.all fun x => decide (x.n.size ≤ 1100) && decide (x.v.size ≤ 1100)
set_option maxHeartbeats 1600000 in
set_option maxRecDepth 100000 in
theorem short_is (p : Option Addr) (ls : List Lab.L) (n c : Nat) (b : Bool) (h : Can.short ls = b) (w : World) (hn : ls.length = n) (hA : Lab.At p ls w) (hF : Lab.Fit maxLen ls) (hl : n ≤ maxLen) :
    Calls Tryz.prog 26 #[.slice p n c] w fun e w' => e = .returned (.bool b) ∧ Below w.heap.size w w' := by
  unfold maxLen at hl
  unfold Can.short at h
  rw [hn] at h
  by_cases h70 : n ≤ 70
  · rw [decide_eq_true h70, Bool.true_and] at h
    have H0 : Hid ((ls.drop 0).all (fun x => decide (x.n.size ≤ 1100) && decide (x.v.size ≤ 1100)) = b) := h
    have HN := Lib.hid hn
    clear h hn
    go_enter Tryz.func26, Tryz.ntmps26
    go_wp2_with fail
    go_loopw [10] (fun i wr => ∃ k : Nat, k ≤ n ∧ i = .int .i64 k ∧ Hid ((ls.drop k).all (fun x => decide (x.n.size ≤ 1100) && decide (x.v.size ≤ 1100)) = b) ∧ Below w.heap.size w wr) (fun i _ => n - (intOf i).toNat)
    case atStart => exact ⟨0, Nat.zero_le _, rfl, H0, Below.refl _ _⟩
    case round =>
      obtain ⟨k, hk, rfl, HK, hb⟩ := hrel
      have hsz := hb.size
      by_cases hlt : k < n
      · have hkl : k < ls.length := by rw [HN.out]; exact hlt
        have hA2 := hA.below hb (Nat.le_refl _)
        obtain ⟨bb, o, rfl, hc⟩ := hA2.open k hkl
        have HD := Lib.hid (List.drop_eq_getElem_cons hkl)
        obtain ⟨x, hx⟩ : ∃ x, ls[k] = x := ⟨_, rfl⟩
        have hfx := hF x (by rw [← hx]; exact List.getElem_mem _)
        unfold maxLen at hfx
        have c0 := (hc k hkl).1
        have c1 := (hc k hkl).2
        rw [hx] at c0 c1 HD
        have hbx : bb < wr.heap.size := World.block_lt_of_cell? _ _ c0
        have hstep : Hid ((decide (x.n.size ≤ 1100) && decide (x.v.size ≤ 1100) && (ls.drop (k + 1)).all (fun x => decide (x.n.size ≤ 1100) && decide (x.v.size ≤ 1100))) = b) := by
          have h2 := HK.out
          rw [HD.out, List.all_cons] at h2
          exact h2
        obtain ⟨hn1, hv1⟩ := hfx
        clear hx hc HK HD
        by_cases hxn : x.n.size ≤ 1100
        · by_cases hxv : x.v.size ≤ 1100
          · have HG : Hid ((ls.drop (k + 1)).all (fun x => decide (x.n.size ≤ 1100) && decide (x.v.size ≤ 1100)) = b) := by
              show (ls.drop (k + 1)).all (fun x => decide (x.n.size ≤ 1100) && decide (x.v.size ≤ 1100)) = b
              rw [← hstep.out, decide_eq_true hxn, decide_eq_true hxv]; simp
            clear hstep
            go_wp2_with fail
            go_roundw
            case rel => exact ⟨k + 1, by omega, by go_num, HG, hb.alloc hsz _⟩
            case measure => simp [intOf]; omega
          · have HG : Hid (b = false) := by
              show b = false
              rw [← hstep.out, decide_eq_false hxv]; simp
            have hxv2 : 1100 < x.v.size := by omega
            clear hstep hxv
            go_wp2_with fail
            go_ret
            exact ⟨by rw [HG.out]; rfl, hb.alloc hsz _⟩
        · have HG : Hid (b = false) := by
            show b = false
            rw [← hstep.out, decide_eq_false hxn]; simp
          have hxn2 : 1100 < x.n.size := by omega
          clear hstep hxn
          go_wp2_with fail
          go_ret
          exact ⟨by rw [HG.out]; rfl, hb.alloc hsz _⟩
      · have HG : Hid (b = true) := by
          have h2 := HK.out
          rw [List.drop_eq_nil_iff.2 (by rw [HN.out]; omega)] at h2
          exact h2.symm
        clear HK
        go_wp2_with fail
        go_ret
        exact ⟨by rw [HG.out]; rfl, hb⟩
  · have hb : b = false := by rw [← h, decide_eq_false h70]; simp
    subst hb
    have h3 : 70 < n := by omega
    clear h h70 hn hA hF
    go_enter Tryz.func26, Tryz.ntmps26
    go_wp2_with fail
    go_ret
    exact ⟨rfl, Below.refl _ _⟩
end Go.Proofs.YthnaninhbofeoaaGreatDoor
