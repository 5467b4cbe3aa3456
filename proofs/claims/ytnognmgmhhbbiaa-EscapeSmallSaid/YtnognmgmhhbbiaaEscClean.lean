/- Contract of Clean, and the walk of EscapeClean. -/
import Derived.Test.YtnognmgmhhbbiaaEscG
import Derived.Test.YtnognmgmhhbbiaaEscP4
namespace Go.Proofs.Ytnognmgmhhbbiaa
open Go.RowKit

/-- the four kinds of bytes -/
inductive Kind4 (c : UInt8) : Prop
  | tab (h : c = 9)
  | low (h : (c.toNat : Int) < 32) (h9 : c ≠ 9)
  | del (h : c = 127)
  | good (h : 32 ≤ (c.toNat : Int)) (h127 : c ≠ 127)
theorem kind4 (c : UInt8) : Kind4 c := by
  by_cases h : (c.toNat : Int) < 32
  · by_cases h9 : c = 9
    · exact .tab h9
    · exact .low h h9
  · by_cases h1 : c = 127
    · exact .del h1
    · exact .good (by omega) h1
theorem ok_tab : Esc.okB 9 = true := by decide
theorem ok_del : Esc.okB 127 = false := by decide
theorem ok_low {c : UInt8} (h : (c.toNat : Int) < 32) (h9 : c ≠ 9) : Esc.okB c = false := by
  have : c < 32 := by rw [UInt8.lt_iff_toNat_lt]; show c.toNat < 32; omega
  simp [Esc.okB, this, h9]
theorem ok_good {c : UInt8} (h : 32 ≤ (c.toNat : Int)) (h1 : c ≠ 127) : Esc.okB c = true := by
  have : ¬ c < 32 := by rw [UInt8.lt_iff_toNat_lt]; show ¬ c.toNat < 32; omega
  simp [Esc.okB, this, h1]
theorem clean_take (s : ByteArray) (k : Nat) (h : k < s.size) : Esc.clean (s.data.toList.take (k + 1)) = (Esc.clean (s.data.toList.take k) && Esc.okB s[k]) := by
  rw [take_snoc s k h, Esc.clean_append]; simp [Esc.clean]
theorem clean_bad (s : ByteArray) (k : Nat) (h : k < s.size) (hb : Esc.okB s[k] = false) : Esc.clean s.data.toList = false := by
  rw [← List.take_append_drop (k + 1) s.data.toList, Esc.clean_append, clean_take s k h, hb]; simp
theorem one_list (s : ByteArray) (k : Nat) (h : k < s.size) : (s.extract k (k + 1)).toList = [s[k]] := by
  rw [ByteArray.toList_eq, Lib.extract_data, Esc.drop_one s k h]; simp
theorem feeds_take (s : ByteArray) (k : Nat) (h : k < s.size) : Esc.feeds (s.data.toList.take (k + 1)) = (Esc.feeds (s.data.toList.take k) && (Esc.okB s[k] || s[k] == 10)) := by
  rw [take_snoc s k h, Esc.feeds_append]; simp [Esc.feeds]

set_option maxHeartbeats 800000 in
theorem clean_any (s : ByteArray) (w : World) (hs : s.size ≤ maxLen) :
    Calls Try.prog 18 #[.string s] w fun e w' => e = .returned (.bool (Esc.clean s.data.toList)) ∧ w = w' := by
  unfold maxLen at hs
  go_enter Try.func18, Try.ntmps18
  go_wp2
  go_loop [7] (fun i => ∃ k : Nat, k ≤ s.size ∧ i = .int .i64 k ∧ Hid (Esc.clean (s.data.toList.take k) = true)) (fun i => s.size - (intOf i).toNat)
  case atStart => exact ⟨0, Nat.zero_le _, rfl, rfl⟩
  case round =>
    obtain ⟨k, hk, rfl, hC⟩ := hrel
    by_cases hlt : k < s.size
    · rcases kind4 s[k] with h | ⟨h, h9⟩ | h | ⟨h, h1⟩
      · have b1 : ((s[k].toNat : Int) < 32) := by rw [h]; decide
        have b2 : ((s[k].toNat : Int) != 9) = false := Esc.bne_no (k := 9) rfl h
        have b3 : ((s[k].toNat : Int) == 127) = false := Esc.beq_no (k := 127) rfl (by rw [h]; decide)
        have H := Lib.hid (show Esc.clean (s.data.toList.take (k + 1)) = true by rw [clean_take s k hlt, hC.out, h]; rfl)
        clear h
        go_wp2
        go_round
        case rel => exact ⟨k + 1, by omega, by go_num, H⟩
        case measure => simp [intOf]; omega
      · have b2 : ((s[k].toNat : Int) != 9) = true := Esc.bne_yes (k := 9) rfl h9
        have H := Lib.hid (clean_bad s k hlt (ok_low h h9))
        clear h9
        go_wp2
        go_ret
        exact ⟨by rw [H.out]; rfl, rfl⟩
      · have b1 : 32 ≤ ((s[k].toNat : Int)) := by rw [h]; decide
        have b3 : ((s[k].toNat : Int) == 127) = true := Esc.beq_yes (k := 127) rfl h
        have H := Lib.hid (clean_bad s k hlt (by rw [h]; rfl))
        clear h
        go_wp2
        go_ret
        exact ⟨by rw [H.out]; rfl, rfl⟩
      · have b3 : ((s[k].toNat : Int) == 127) = false := Esc.beq_no (k := 127) rfl h1
        have H := Lib.hid (show Esc.clean (s.data.toList.take (k + 1)) = true by rw [clean_take s k hlt, hC.out, ok_good h h1]; rfl)
        clear h1
        go_wp2
        go_round
        case rel => exact ⟨k + 1, by omega, by go_num, H⟩
        case measure => simp [intOf]; omega
    · have H := Lib.hid (show Esc.clean s.data.toList = true by rw [← hC.out, List.take_of_length_le (by rw [len_list]; omega)])
      go_wp2
      go_ret
      exact ⟨by rw [H.out]; rfl, rfl⟩

theorem clean_is (s : ByteArray) (b : Bool) (h : Esc.clean s.data.toList = b) (w : World) (hs : s.size ≤ 65536) :
    Calls Try.prog 18 #[.string s] w fun e w' => e = .returned (.bool b) ∧ w = w' := by
  rw [← h]; exact clean_any s w (by unfold maxLen; omega)

set_option maxHeartbeats 1600000 in
set_option maxRecDepth 100000 in
theorem walk_EscapeClean (a0 : ByteArray) (w0 : a0.size ≤ maxLen) (w : World) :
    Calls Try.prog 5 #[.string a0] w fun e w' => e = .returned (.bool true) ∧ Below w.heap.size w w' := by
  go_enter Try.func5, Try.ntmps5
  go_wp2_with (go_at_call 10; refine (awake_any _).mono ?_)
  rintro e w4 ⟨rfl, hb⟩
  go_wp2_with (go_at_call 11; refine (short_le a0 _ w0).mono ?_)
  rintro e _ ⟨s, hs, rfl, rfl⟩
  clear w0
  go_wp2_with fail
  go_loop [16, 3, 4] (fun i c f => ∃ k : Nat, k ≤ s.size ∧ i = .int .i64 k ∧ c = .bool (Esc.clean (s.data.toList.take k)) ∧ f = .bool (Esc.feeds (s.data.toList.take k))) (fun i _ _ => s.size - (intOf i).toNat)
  case atStart => exact ⟨0, Nat.zero_le _, rfl, rfl, rfl⟩
  case round =>
    obtain ⟨k, hk, rfl, rfl, rfl⟩ := hrel
    by_cases hlt : k < s.size
    · have q1 : ((k : Int) + 1).toNat = k + 1 := by omega
      have hc : Esc.clean (s.extract k (k + 1)).data.toList = Esc.okB s[k] := by
        rw [Lib.extract_data, Esc.drop_one s k hlt]; simp [Esc.clean]
      rcases kind4 s[k] with h | ⟨h, h9⟩ | h | ⟨h, h1⟩
      · have b1 : ((s[k].toNat : Int) < 32) := by rw [h]; decide
        have b2 : ((s[k].toNat : Int) != 9) = false := Esc.bne_no (k := 9) rfl h
        have b3 : ((s[k].toNat : Int) == 127) = false := Esc.beq_no (k := 127) rfl (by rw [h]; decide)
        rw [h] at hc
        have H := Lib.hid h
        have HC := Lib.hid (hc.trans ok_tab)
        clear h hc
        go_wp2_with (go_at_call 18; refine (clean_is _ true HC.out _ (by rw [ByteArray.size_extract]; omega)).mono ?_)
        go_round
        case rel => exact ⟨k + 1, by omega, by go_num, by rw [clean_take s k hlt, H.out, ok_tab, Bool.and_true], by rw [feeds_take s k hlt, H.out]; simp [ok_tab]⟩
        case measure => simp [intOf]; omega
      · have b2 : ((s[k].toNat : Int) != 9) = true := Esc.bne_yes (k := 9) rfl h9
        have HC := Lib.hid (hc.trans (ok_low h h9))
        have HO := Lib.hid (ok_low h h9)
        clear hc h9
        cases hf : Esc.feeds (s.data.toList.take k)
        · go_wp2_with (go_at_call 18; refine (clean_is _ false HC.out _ (by rw [ByteArray.size_extract]; omega)).mono ?_)
          go_round
          case rel => exact ⟨k + 1, by omega, by go_num, by rw [clean_take s k hlt, HO.out, Bool.and_false], by rw [feeds_take s k hlt, hf]; rfl⟩
          case measure => simp [intOf]; omega
        · go_wp2_with (go_at_call 18; refine (clean_is _ false HC.out _ (by rw [ByteArray.size_extract]; omega)).mono ?_)
          go_round
          case rel => exact ⟨k + 1, by omega, by go_num, by rw [clean_take s k hlt, HO.out, Bool.and_false], by rw [feeds_take s k hlt, hf, HO.out, one_list s k hlt]; simp⟩
          case measure => simp [intOf]; omega
      · have b1 : 32 ≤ ((s[k].toNat : Int)) := by rw [h]; decide
        have b3 : ((s[k].toNat : Int) == 127) = true := Esc.beq_yes (k := 127) rfl h
        rw [h] at hc
        have H := Lib.hid h
        have HC := Lib.hid (hc.trans ok_del)
        clear h hc
        cases hf : Esc.feeds (s.data.toList.take k)
        · go_wp2_with (go_at_call 18; refine (clean_is _ false HC.out _ (by rw [ByteArray.size_extract]; omega)).mono ?_)
          go_round
          case rel => exact ⟨k + 1, by omega, by go_num, by rw [clean_take s k hlt, H.out, ok_del, Bool.and_false], by rw [feeds_take s k hlt, hf]; rfl⟩
          case measure => simp [intOf]; omega
        · go_wp2_with (go_at_call 18; refine (clean_is _ false HC.out _ (by rw [ByteArray.size_extract]; omega)).mono ?_)
          go_round
          case rel => exact ⟨k + 1, by omega, by go_num, by rw [clean_take s k hlt, H.out, ok_del, Bool.and_false], by rw [feeds_take s k hlt, hf, one_list s k hlt, H.out, ok_del]; simp⟩
          case measure => simp [intOf]; omega
      · have b3 : ((s[k].toNat : Int) == 127) = false := Esc.beq_no (k := 127) rfl h1
        have HC := Lib.hid (hc.trans (ok_good h h1))
        have HO := Lib.hid (ok_good h h1)
        clear h1 hc
        go_wp2_with (go_at_call 18; refine (clean_is _ true HC.out _ (by rw [ByteArray.size_extract]; omega)).mono ?_)
        go_round
        case rel => exact ⟨k + 1, by omega, by go_num, by rw [clean_take s k hlt, HO.out, Bool.and_true], by rw [feeds_take s k hlt, HO.out]; simp⟩
        case measure => simp [intOf]; omega
    · have ht : s.data.toList.take k = s.data.toList := List.take_of_length_le (by rw [len_list]; omega)
      rw [ht]
      clear ht
      go_wp2_with (go_at_call 14; refine (help_small s _ hs).mono ?_)
      rintro e w5 f hf hf2 rfl hb5
      replace hb := below_next hb hb5
      clear hb5
      have HC := Lib.hid (show Esc.clean f.data.toList = Esc.feeds s.data.toList by rw [hf.out, Esc.clean_form])
      have HF := Lib.hid (Esc.clean_or_feeds s.data.toList)
      generalize hc1 : Esc.clean s.data.toList = c1 at *
      generalize hc2 : Esc.feeds s.data.toList = c2 at *
      have HC1 := Lib.hid hc1
      clear hc1 hc2
      cases c1 <;> cases c2 <;> first | (exact absurd HF.out (by decide)) | skip
      all_goals
        go_wp2_with (go_at_call 18; refine (clean_is s _ HC1.out _ (by omega)).mono ?_)
        rintro _ _ ⟨rfl, rfl⟩
        go_wp2_with (go_at_call 18; refine (clean_is f _ HC.out _ (by omega)).mono ?_)
        rintro _ _ ⟨rfl, rfl⟩
        go_wp2
        go_ret
        exact ⟨rfl, hb⟩
end Go.Proofs.Ytnognmgmhhbbiaa
