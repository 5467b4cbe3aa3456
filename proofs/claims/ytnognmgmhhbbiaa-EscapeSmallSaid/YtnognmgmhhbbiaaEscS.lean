/- Contracts of the reference implementation: stands, Clean, Read, ReadQuote. -/
import Derived.Test.YtnognmgmhhbbiaaEscR
import Derived.Test.YtnognmgmhhbbiaaEscClean
namespace Go.Proofs.Ytnognmgmhhbbiaa
open Go.RowKit

theorem enc_dec (v : Bool) (d x : UInt8) (h : Esc.dec v d = some x) : Esc.enc v x = [92, d] := by
  unfold Esc.dec at h
  split at h
  · rename_i e; subst e; cases h; rfl
  · split at h
    · rename_i e; subst e; cases h; rfl
    · split at h
      · rename_i e; obtain ⟨rfl, rfl⟩ := e; cases h; rfl
      · cases h

set_option maxHeartbeats 400000 in
theorem stands_any (d : UInt8) (q : Bool) (w : World) :
    Calls Try.prog 43 #[.int .u8 d.toNat, .bool q] w fun e w' => e = .returned (match Esc.dec q d with | some x => .tuple #[.int .u8 x.toNat, .bool true] | none => .tuple #[.int .u8 34, .bool false]) ∧ w = w' := by
  by_cases h1 : d = 92
  · subst h1
    have e : Esc.dec q 92 = some 92 := by cases q <;> decide
    rw [e]
    go_enter Try.func43, Try.ntmps43
    go_wp2
    go_ret2
    exact ⟨rfl, rfl⟩
  by_cases h2 : d = 110
  · subst h2
    have e : Esc.dec q 110 = some 10 := by cases q <;> decide
    rw [e]
    go_enter Try.func43, Try.ntmps43
    go_wp2
    go_ret2
    exact ⟨rfl, rfl⟩
  have b1 := Esc.beq_no (n := 92) rfl h1
  have b2 := Esc.beq_no (n := 110) rfl h2
  by_cases h3 : d = 34
  · subst h3
    cases q
    · rw [show Esc.dec false 34 = none from by decide]
      go_enter Try.func43, Try.ntmps43
      go_wp2
      go_ret2
      exact ⟨rfl, rfl⟩
    · rw [show Esc.dec true 34 = some 34 from by decide]
      go_enter Try.func43, Try.ntmps43
      go_wp2
      go_ret2
      exact ⟨rfl, rfl⟩
  have b3 := Esc.beq_no (n := 34) rfl h3
  rw [Esc.dec_none q d h1 h2 (fun _ => h3)]
  clear h1 h2 h3
  go_enter Try.func43, Try.ntmps43
  go_wp2
  go_ret2
  exact ⟨rfl, rfl⟩
theorem stands_some (d x : UInt8) (q : Bool) (h : Esc.dec q d = some x) (w : World) :
    Calls Try.prog 43 #[.int .u8 d.toNat, .bool q] w fun e w' => e = .returned (.tuple #[.int .u8 x.toNat, .bool true]) ∧ w = w' := by
  have := stands_any d q w; rw [h] at this; exact this
theorem stands_none (d : UInt8) (q : Bool) (h : Esc.dec q d = none) (w : World) :
    Calls Try.prog 43 #[.int .u8 d.toNat, .bool q] w fun e w' => e = .returned (.tuple #[.int .u8 34, .bool false]) ∧ w = w' := by
  have := stands_any d q w; rw [h] at this; exact this

set_option maxHeartbeats 800000 in
theorem refClean_any (s : ByteArray) (w : World) (hs : s.size ≤ maxLen) :
    Calls Try.prog 30 #[.string s] w fun e w' => e = .returned (.bool (Esc.clean s.data.toList)) ∧ w = w' := by
  unfold maxLen at hs
  go_enter Try.func30, Try.ntmps30
  go_wp2
  go_loop [3] (fun i => ∃ k : Nat, k ≤ s.size ∧ i = .int .i64 k ∧ Hid (Esc.clean (s.data.toList.take k) = true)) (fun i => s.size - (intOf i).toNat)
  case atStart => exact ⟨0, Nat.zero_le _, rfl, rfl⟩
  case round =>
    obtain ⟨k, hk, rfl, hC⟩ := hrel
    by_cases hlt : k < s.size
    · rcases kind4 s[k] with h | ⟨h, h9⟩ | h | ⟨h, h1⟩
      · have b1 : ((s[k].toNat : Int) < 32) := by rw [h]; decide
        have b2 : ((s[k].toNat : Int) != 9) = false := Esc.bne_no (k := 9) rfl h
        have b3 : ((s[k].toNat : Int) == 127) = false := Esc.beq_no (k := 127) rfl (by rw [h]; decide)
        have H := Lib.hid (show Esc.clean (s.data.toList.take (k + 1)) = true by rw [clean_take s k hlt, hC.out, h]; rfl)
        clear h
        go_wp2
        go_round
        case rel => exact ⟨k + 1, by omega, by go_num, H⟩
        case measure => simp [intOf]; omega
      · have b2 : ((s[k].toNat : Int) != 9) = true := Esc.bne_yes (k := 9) rfl h9
        have H := Lib.hid (clean_bad s k hlt (ok_low h h9))
        clear h9
        go_wp2
        go_ret
        exact ⟨by rw [H.out]; rfl, rfl⟩
      · have b1 : 32 ≤ ((s[k].toNat : Int)) := by rw [h]; decide
        have b2 : ((s[k].toNat : Int) != 9) = true := Esc.bne_yes (k := 9) rfl (by rw [h]; decide)
        have b3 : ((s[k].toNat : Int) == 127) = true := Esc.beq_yes (k := 127) rfl h
        have H := Lib.hid (clean_bad s k hlt (by rw [h]; rfl))
        clear h
        go_wp2
        go_ret
        exact ⟨by rw [H.out]; rfl, rfl⟩
      · have b2 : ((s[k].toNat : Int) != 9) = true := Esc.bne_yes (k := 9) rfl (by intro e; rw [e] at h; exact absurd h (by decide))
        have b3 : ((s[k].toNat : Int) == 127) = false := Esc.beq_no (k := 127) rfl h1
        have H := Lib.hid (show Esc.clean (s.data.toList.take (k + 1)) = true by rw [clean_take s k hlt, hC.out, ok_good h h1]; rfl)
        clear h1
        go_wp2
        go_round
        case rel => exact ⟨k + 1, by omega, by go_num, H⟩
        case measure => simp [intOf]; omega
    · have H := Lib.hid (show Esc.clean s.data.toList = true by rw [← hC.out, List.take_of_length_le (by rw [len_list]; omega)])
      go_wp2
      go_ret
      exact ⟨by rw [H.out]; rfl, rfl⟩

set_option maxHeartbeats 3200000 in
set_option maxRecDepth 100000 in
theorem refRead_any (q : Bool) (s : ByteArray) (w : World) (hs : s.size ≤ 65536) :
    Calls Try.prog 28 #[.string s, .bool q] w fun e w' => e = .returned (outVal2 (Esc.rd q false s.data.toList)) ∧ Below w.heap.size w w' := by
  go_enter Try.func28, Try.ntmps28
  go_wp2
  go_loopw [7, 6] (fun i v wr => ∃ (k : Nat) (acc : List UInt8), k ≤ s.size ∧ acc.length ≤ k ∧ i = .int .i64 k ∧ Hid (Esc.rd q false s.data.toList = (Esc.rd q false (s.data.toList.drop k)).pre acc k) ∧ OwnBytes w.heap.size v acc wr ∧ Below w.heap.size w wr) (fun i _ _ => s.size - (intOf i).toNat)
  case atStart => exact ⟨0, [], Nat.zero_le _, Nat.zero_le _, rfl, (by rw [List.drop_zero, Esc.Out.pre_nil]; rfl), own_nil _ _, Below.refl _ _⟩
  case round =>
    obtain ⟨k, acc, hk, hacc, rfl, hR, hown, hbl⟩ := hrel
    by_cases hlt : k < s.size
    · have hd := Lib.hid (Esc.drop_one s k hlt)
      by_cases h10 : s[k] = 10
      · have b10 := Esc.beq_yes (n := 10) rfl h10
        have H := Lib.hid h10
        clear h10
        go_wp2
        go_ret2
        refine ⟨?_, hbl⟩
        rw [hR.out, hd.out, H.out, Esc.rd_feed]; rfl
      have b10 := Esc.beq_no (n := 10) rfl h10
      by_cases h92 : s[k] = 92
      · have b34 := Esc.beq_no (k := 34) (n := 34) rfl (show s[k] ≠ 34 by rw [h92]; decide)
        have bw := Esc.bne_no (k := 92) (n := 92) rfl h92
        have H := Lib.hid h92
        clear h92 h10
        by_cases hl : k + 1 < s.size
        · have bl : (((k : Int) + 1) == (s.size : Int)) = false := by simp; omega
          have hd1 := Lib.hid (Esc.drop_one s (k + 1) hl)
          have q1 : (0 : Int) ≤ (k : Int) + 1 := by omega
          have q2 : (k : Int) + 1 < (s.size : Int) := by omega
          have q3 : ((k : Int) + 1).toNat = k + 1 := by omega
          cases hdec : Esc.dec q s[k + 1] with
          | none =>
            have HD := Lib.hid hdec
            clear hdec
            go_wp2_with (go_at_call 43; refine (stands_none s[k + 1] q HD.out _).mono ?_)
            try rintro _ _ ⟨rfl, rfl⟩
            go_wp2
            go_ret2
            refine ⟨?_, hbl⟩
            rw [hR.out, hd.out, hd1.out, H.out, Esc.rd_bad _ _ _ _ HD.out]; rfl
          | some x =>
            have HD := Lib.hid hdec
            clear hdec
            go_wp2_with (go_at_call 43; refine (stands_some s[k + 1] x q HD.out _).mono ?_)
            try rintro _ _ ⟨rfl, rfl⟩
            go_wp2_with (at_builtin; refine wpList_push rfl _ _ rfl _ _ _ _ rfl hown [x] _ _ rfl rfl ?c1 ?c2 ?_)
            case c1 => simp only [List.length_cons, List.length_nil]; omega
            case c2 => exact hbl.size
            intro v' w1 hown' hg
            have hbl' := (below_alloc hbl _).grown hg (by simp; exact Nat.le_succ_of_le hbl.size) (fun j hj => (World.ownsRow.lt hown j hj).1)
            go_wp2
            go_roundw
            case rel => exact ⟨k + 2, acc ++ [x], by omega, by simp; omega, by go_num, (by rw [hR.out, hd.out, hd1.out, H.out, Esc.rd_two _ _ _ _ _ HD.out, Esc.Out.pre_cons]; rfl), hown', hbl'⟩
            case measure => simp [intOf]; omega
        · have bl : (((k : Int) + 1) == (s.size : Int)) = true := by simp; omega
          have hnil := Lib.hid (show s.data.toList.drop (k + 1) = [] from List.drop_eq_nil_iff.2 (by simp; omega))
          go_wp2
          go_ret2
          refine ⟨?_, hbl⟩
          rw [hR.out, hd.out, hnil.out, H.out, Esc.rd_last]; rfl
      have bw := Esc.bne_yes (k := 92) (n := 92) rfl h92
      by_cases h34 : s[k] = 34
      · have b34 := Esc.beq_yes (n := 34) rfl h34
        have H := Lib.hid h34
        clear h34 h10 h92
        cases q
        · go_wp2_with (at_builtin; refine wpList_push rfl _ _ rfl _ _ _ _ rfl hown [s[k]] _ _ rfl rfl ?c1 ?c2 ?_)
          case c1 => simp only [List.length_cons, List.length_nil]; omega
          case c2 => exact hbl.size
          intro v' w1 hown' hg
          have hbl' := (below_alloc hbl _).grown hg (by simp; exact Nat.le_succ_of_le hbl.size) (fun j hj => (World.ownsRow.lt hown j hj).1)
          go_wp2
          go_roundw
          case rel => exact ⟨k + 1, acc ++ [s[k]], by omega, by simp; omega, by go_num, (by rw [hR.out, hd.out, H.out, Esc.rd_plain false false 34 _ (by decide) (by simp) (by decide), Esc.Out.pre_cons]; rfl), hown', hbl'⟩
          case measure => simp [intOf]; omega
        · go_wp2
          go_ret2
          refine ⟨?_, hbl⟩
          rw [hR.out, hd.out, H.out, Esc.rd_quote]; rfl
      · have b34 := Esc.beq_no (n := 34) rfl h34
        have hp := Lib.hid (Esc.rd_plain q false s[k] (s.data.toList.drop (k + 1)) h10 (fun h => h34 h.2) h92)
        clear h10 h34 h92
        go_wp2_with (at_builtin; refine wpList_push rfl _ _ rfl _ _ _ _ rfl hown [s[k]] _ _ rfl rfl ?c1 ?c2 ?_)
        case c1 => simp only [List.length_cons, List.length_nil]; omega
        case c2 => exact hbl.size
        intro v' w1 hown' hg
        have hbl' := (below_alloc hbl _).grown hg (by simp; exact Nat.le_succ_of_le hbl.size) (fun j hj => (World.ownsRow.lt hown j hj).1)
        go_wp2
        go_roundw
        case rel => exact ⟨k + 1, acc ++ [s[k]], by omega, by simp; omega, by go_num, (by rw [hR.out, hd.out, hp.out, Esc.Out.pre_cons]; rfl), hown', hbl'⟩
        case measure => simp [intOf]; omega
    · have hnil := Lib.hid (show s.data.toList.drop k = [] from List.drop_eq_nil_iff.2 (by simp; omega))
      have hcv := conv_own hown
      go_wp2
      go_ret2
      refine ⟨?_, hbl⟩
      rw [hR.out, hnil.out, Esc.rd_nil]
      simp [Esc.Out.pre, outVal2]
end Go.Proofs.Ytnognmgmhhbbiaa
