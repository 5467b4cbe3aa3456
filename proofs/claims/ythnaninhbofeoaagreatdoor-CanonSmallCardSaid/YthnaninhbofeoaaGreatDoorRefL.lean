/- Contracts of the reference's canon: Job, Key. Contracts of the reference's canon: Keys. (Printed by gen_keys.py.) -/
import Derived.Test.YthnaninhbofeoaaGreatDoorRefH
import Derived.Test.YthnaninhbofeoaaGreatDoorKeyK
import Derived.Test.YthnaninhbofeoaaGreatDoorKitB
namespace Go.Proofs.YthnaninhbofeoaaGreatDoor
open Go.RowKit

set_option maxHeartbeats 800000 in
set_option maxRecDepth 100000 in
theorem rjob_is (s : ByteArray) (b : Bool) (h : Can.job s.data.toList = b) (w : World) (hs : s.size ≤ 1000000) :
    Calls Tryz.prog 48 #[.string s] w fun e w' => e = .returned (.bool b) ∧ Below w.heap.size w w' := by
  unfold Can.job at h
  rw [Utf.len_is] at h
  by_cases h1 : 1 ≤ s.size
  · have q0 : ((s.size : Int) == 0) = false := beq_eq_false_iff_ne.2 (by omega)
    by_cases h2 : s.size ≤ 128
    · rw [decide_eq_true h1, decide_eq_true h2, Bool.true_and, Bool.true_and] at h
      have HV := Lib.hid (fun w => rcheck_any s b h w (by omega))
      clear h
      go_enter Tryz.func48, Tryz.ntmps48
      go_wp2_with (go_at_call 74; refine (HV.out _).mono ?_)
      first | rintro e w1 n er rfl hq hb1 | rintro e w1 ⟨⟨n, er, rfl, hq⟩, hb1⟩
      have HQ := Lib.hid hq
      clear hq
      go_wp2_with fail
      go_ret
      exact ⟨by rw [← HQ.out]; rfl, hb1⟩
    · have hb : b = false := by rw [← h, decide_eq_false h2]; simp
      subst hb
      have h3 : 128 < s.size := by omega
      clear h h2
      go_enter Tryz.func48, Tryz.ntmps48
      go_wp2_with fail
      go_ret
      exact ⟨rfl, Below.refl _ _⟩
  · have hb : b = false := by rw [← h, decide_eq_false h1]; simp
    subst hb
    have h3 : s.size = 0 := by omega
    clear h h1
    go_enter Tryz.func48, Tryz.ntmps48
    go_wp2_with fail
    go_ret
    exact ⟨rfl, Below.refl _ _⟩

set_option maxHeartbeats 1600000 in
set_option maxRecDepth 100000 in
theorem rkey_is (job : ByteArray) (p : Option Addr) (ls : List Lab.L) (n c : Nat) (k : List UInt8) (er : Int) (h : Can.key (Lab.bs job) ls = (k, er)) (w : World) (hn : ls.length = n) (hA : Lab.At p ls w) (hF : Lab.Fit 1100 ls) (hl : n ≤ 70) (hjs : job.size ≤ 1000000) :
    Calls Tryz.prog 44 #[.agg #[.string job, .slice p n c]] w fun e w' => e = .returned (.tuple #[.string ⟨k.toArray⟩, .int .i64 er]) ∧ Below w.heap.size w w' := by
  unfold Can.key at h
  obtain ⟨⟨r, e0⟩, hr⟩ : ∃ q, Can.bytes ls = q := ⟨_, rfl⟩
  rw [hr] at h
  dsimp only at h
  obtain ⟨j0, hj⟩ : ∃ j0, Can.job (Lab.bs job) = j0 := ⟨_, rfl⟩
  rw [hj] at h
  have hj2 : Can.job job.data.toList = j0 := hj
  have HJ := Lib.hid (fun w => rjob_is job j0 hj2 w hjs)
  have HB := Lib.hid (fun w hA => rbytes_is p ls n c r e0 hr w hn hA (fun x hx => by have := hF x hx; omega) (by unfold maxLen; omega))
  cases j0
  · rw [if_neg (by simp)] at h
    simp only [Prod.mk.injEq] at h
    obtain ⟨rfl, rfl⟩ := h
    clear hj hj2 hr hn hA hF hl hjs
    go_enter Tryz.func44, Tryz.ntmps44
    go_wp2_with (go_at_call 48; refine (HJ.out _).mono ?_)
    first | rintro e w1 rfl hb1 | rintro e w1 ⟨rfl, hb1⟩
    go_wp2_with fail
    go_ret2
    exact ⟨rfl, ((Below.refl _ _).alloc (Nat.le_refl _) _).trans (hb1.mono (by simp))⟩
  · rw [if_pos rfl] at h
    by_cases h0 : e0 = 0
    · subst h0
      rw [if_pos rfl] at h
      simp only [Prod.mk.injEq] at h
      obtain ⟨hk, rfl⟩ := h
      have C0 := fun W => conv_bytes [254] #[.int .u8 254] rfl W 1 rfl (by omega)
      obtain ⟨Y, hY⟩ : ∃ Y, ByteArray.mk r.toArray = Y := ⟨_, rfl⟩
      have hXY : Hid (job ++ ⟨#[254]⟩ ++ Y = ⟨k.toArray⟩) := by
        show job ++ ⟨#[254]⟩ ++ Y = ⟨k.toArray⟩
        rw [← hY, ← hk]
        apply ByteArray.ext
        apply Array.toList_inj.1
        simp [Lab.bs]
      have hrl : r.length ≤ 1000000 := by
        have := Can.raw_length ls 1100 hF
        have h2 : (Can.bytes ls).1.length ≤ 1000000 := by
          unfold Can.bytes
          split
          · exact Nat.le_trans this (Nat.le_trans (Nat.mul_le_mul_right _ (by omega : ls.length ≤ 70)) (by decide))
          · simp
        rw [hr] at h2; exact h2
      have hYs : Y.size ≤ 1000000 := by
        have e2 : Y.size = r.length := by rw [← hY]; exact List.size_toArray
        omega
      have i1 : (job.size : Int) ≤ 1000000 := by omega
      have i2 : (Y.size : Int) ≤ 1000000 := by omega
      have i3 : (job ++ ⟨#[254]⟩).size = job.size + 1 := by rw [ByteArray.size_append]; rfl
      have i4 : (ByteArray.mk #[254]).size = 1 := rfl
      rw [hY] at HB
      clear hY hk hr hj hj2 hrl hF hn
      go_enter Tryz.func44, Tryz.ntmps44
      go_wp2_with (go_at_call 48; refine (HJ.out _).mono ?_)
      first | rintro e w1 rfl hb1 | rintro e w1 ⟨rfl, hb1⟩
      have k1 := below_kept hb1 (alloc_new w _) (by simp)
      have hs1 := hb1.size
      simp only [World.size_alloc] at hs1
      have c1 : w1.cell? ⟨w.heap.size, 1, none⟩ = some (.slice p n c) := by rw [Lib.cell_of_heap k1]; rfl
      have hA1 := (hA.alloc (.cells #[.string job, .slice p n c] 37)).below hb1 (Nat.le_refl _)
      go_wp2_with (go_at_call 17; refine (HB.out _ hA1).mono ?_)
      first | rintro e w2 rfl hb2 | rintro e w2 ⟨rfl, hb2⟩
      have k2 := below_kept hb2 k1 (by omega)
      have hs2 := hb2.size
      have c0 : w2.cell? ⟨w.heap.size, 0, none⟩ = some (.string job) := by rw [Lib.cell_of_heap k2]; rfl
      have hB : Below w.heap.size w w2 := (((Below.refl _ _).alloc (Nat.le_refl _) _).trans (hb1.mono (by simp))).trans (hb2.mono (by omega))
      go_wp2_with fail
      go_ret2
      exact ⟨by rw [← hXY.out]; rfl, hB.alloc hB.size _⟩
    · rw [if_neg h0] at h
      simp only [Prod.mk.injEq] at h
      obtain ⟨rfl, rfl⟩ := h
      have q1 : (e0 != 0) = true := by simpa using h0
      clear hj hj2 hr hn hF hl hjs h0
      go_enter Tryz.func44, Tryz.ntmps44
      go_wp2_with (go_at_call 48; refine (HJ.out _).mono ?_)
      first | rintro e w1 rfl hb1 | rintro e w1 ⟨rfl, hb1⟩
      have k1 := below_kept hb1 (alloc_new w _) (by simp)
      have hs1 := hb1.size
      simp only [World.size_alloc] at hs1
      have c1 : w1.cell? ⟨w.heap.size, 1, none⟩ = some (.slice p n c) := by rw [Lib.cell_of_heap k1]; rfl
      have hA1 := (hA.alloc (.cells #[.string job, .slice p n c] 37)).below hb1 (Nat.le_refl _)
      go_wp2_with (go_at_call 17; refine (HB.out _ hA1).mono ?_)
      first | rintro e w2 rfl hb2 | rintro e w2 ⟨rfl, hb2⟩
      go_wp2_with fail
      go_ret2
      exact ⟨rfl, (((Below.refl _ _).alloc (Nat.le_refl _) _).trans (hb1.mono (by simp))).trans (hb2.mono (by omega))⟩
end Go.Proofs.YthnaninhbofeoaaGreatDoor
namespace Go.Proofs.YthnaninhbofeoaaGreatDoor
open Go.RowKit

set_option maxHeartbeats 1600000 in
set_option maxRecDepth 100000 in
theorem rkeys_is (b o c : Nat) (ts : List Can.T) (ks : List ByteArray) (er : Int) (n : Nat) (w : World) (hb0 : b < w.heap.size) (hn : ts.length = n) (hT : Can.TAt b o ts w) (hF : ∀ t ∈ ts, Can.TFit t) (he : Can.err ts = er) (hk : Can.keysOf ts = ks) (hl : n ≤ 1000) :
    Calls Tryz.prog 64 #[.slice (some ⟨b, o, none⟩) n c] w fun e w' => (∃ v, e = .returned (.tuple #[v, .int .i64 er]) ∧ OwnTexts w.heap.size v ks w') ∧ Below w.heap.size w w' := by
  have HN := Lib.hid hn
  have HK := Lib.hid hk
  have HO := Lib.hid hF
  have HT := Lib.hid hT
  have HE := Lib.hid he
  have H0 : Hid (Can.err (ts.drop 0) = er) := he
  clear hn hk hF hT he
  go_enter Tryz.func64, Tryz.ntmps64
  go_wp2_with fail
  go_loopw [4, 5] (fun v i wr => ∃ k : Nat, k ≤ n ∧ i = .int .i64 k ∧ OwnTexts w.heap.size v ((ts.take k).map Can.keyB) wr ∧ Hid (Can.err (ts.drop k) = er) ∧ Below w.heap.size w wr) (fun _ i _ => n - (intOf i).toNat)
  case atStart => exact ⟨0, Nat.zero_le _, rfl, OwnTexts.nil _ _, H0, Below.refl _ _⟩
  case round =>
    obtain ⟨k, hk, rfl, hown, HD, hb⟩ := hrel
    have hsz := hb.size
    by_cases hlt : k < n
    · have hk1 : k < ts.length := by rw [HN.out]; exact hlt
      obtain ⟨h0, h1, h2⟩ := HT.out k hk1
      have hd : ts.drop k = ts[k] :: ts.drop (k + 1) := List.drop_eq_getElem_cons hk1
      have htk : (ts.take (k + 1)).map Can.keyB = (ts.take k).map Can.keyB ++ [Can.keyB ts[k]] := by
        rw [List.take_add_one, List.getElem?_eq_getElem hk1, List.map_append]; rfl
      obtain ⟨g1, g2, g3, g4⟩ := HO.out ts[k] (List.getElem_mem _)
      obtain ⟨t, ht⟩ : ∃ t, ts[k] = t := ⟨_, rfl⟩
      rw [ht] at h0 h1 h2 g1 g2 g3 g4 hd htk
      have d0 := (hb.cell (p := ⟨b, o + k * 2, none⟩) hb0).trans h0
      have d1 := (hb.cell (p := ⟨b, o + k * 2 + 1, none⟩) hb0).trans h1
      have hA := h2.below hb (Nat.le_refl _)
      have hbr : b < wr.heap.size := by omega
      obtain ⟨⟨kk, e0⟩, hq⟩ : ∃ q, Can.key (Lab.bs t.job) t.ls = q := ⟨_, rfl⟩
      have HC := Lib.hid (fun W hA => rkey_is t.job t.p t.ls t.n t.c kk e0 hq W g1 hA g3 g2 g4)
      have hkb : Can.keyB t = ⟨kk.toArray⟩ := by unfold Can.keyB; rw [hq]
      have hke : Can.keyE t = e0 := by unfold Can.keyE; rw [hq]
      rw [hkb] at htk
      have hst : (if e0 = 0 then Can.err (ts.drop (k + 1)) else e0) = er := by
        have h3 := HD.out
        rw [hd] at h3
        have : Can.err (t :: ts.drop (k + 1)) = if Can.keyE t = 0 then Can.err (ts.drop (k + 1)) else Can.keyE t := rfl
        rw [this, hke] at h3
        exact h3
      obtain ⟨y, hy⟩ : ∃ y, ByteArray.mk kk.toArray = y := ⟨_, rfl⟩
      rw [hy] at HC htk
      have HX := Lib.hid htk
      have hlk : ((ts.take k).map Can.keyB).length ≤ 1000 := by rw [List.length_map, List.length_take]; omega
      obtain ⟨l0, hl0⟩ : ∃ l0, (ts.take k).map Can.keyB = l0 := ⟨_, rfl⟩
      rw [hl0] at hown HX hlk
      obtain ⟨tj, tp, tn, tc, tl⟩ := t
      dsimp only at d0 d1 hA HC
      clear ht h0 h1 h2 g1 g2 g3 g4 hq hl0 hd htk hkb hke HD hy
      by_cases h00 : e0 = 0
      · subst h00
        rw [if_pos rfl] at hst
        have HS := Lib.hid hst
        clear hst
        go_wp2_with (go_at_call 44; refine (HC.out _ hA).mono ?_)
        first | rintro e w2 rfl hb2 | rintro e w2 ⟨rfl, hb2⟩
        have hb3 : Below w.heap.size w w2 := hb.trans (hb2.mono (by omega))
        have hown2 := hown.below hb2 (Nat.le_refl _)
        go_wp2_with (at_builtin; refine wpList_pushT rfl _ _ rfl _ _ _ _ rfl hown2 [y] _ _ rfl _ rfl (by simp) ?c1 ?c2 ?_)
        case c1 => simp only [List.length_cons, List.length_nil]; omega
        case c2 => exact hb3.size
        intro v' w4 hown' hg
        have hb4 := below_push _ hb3 hown2 hg
        go_wp2_with fail
        go_roundw
        case rel => exact ⟨k + 1, by omega, by go_num, by rw [HX.out]; exact hown', HS, hb4⟩
        case measure => simp [intOf]; omega
      · rw [if_neg h00] at hst
        subst hst
        have q1 : (e0 != 0) = true := by simpa using h00
        have HK2 : Hid (ks = []) := by
          show ks = []
          rw [← HK.out]
          unfold Can.keysOf
          rw [HE.out, if_neg h00]
        clear h00
        go_wp2_with (go_at_call 44; refine (HC.out _ hA).mono ?_)
        first | rintro e w2 rfl hb2 | rintro e w2 ⟨rfl, hb2⟩
        have hb3 : Below w.heap.size w w2 := hb.trans (hb2.mono (by omega))
        go_wp2_with fail
        go_ret2
        exact ⟨⟨_, rfl, by rw [HK2.out]; exact OwnTexts.nil _ _⟩, hb3⟩
    · have hk2 : ts.take k = ts := List.take_of_length_le (by rw [HN.out]; omega)
      rw [hk2] at hown
      have he0 : er = 0 := by
        have := HD.out
        rw [List.drop_eq_nil_iff.2 (by rw [HN.out]; omega)] at this
        exact this.symm
      subst he0
      have HK2 : Hid (ks = ts.map Can.keyB) := by
        show ks = _
        rw [← HK.out]
        unfold Can.keysOf
        rw [HE.out, if_pos rfl]
      clear hk2 HD
      go_wp2_with fail
      go_ret2
      exact ⟨⟨_, rfl, by rw [HK2.out]; exact hown⟩, hb⟩
end Go.Proofs.YthnaninhbofeoaaGreatDoor
