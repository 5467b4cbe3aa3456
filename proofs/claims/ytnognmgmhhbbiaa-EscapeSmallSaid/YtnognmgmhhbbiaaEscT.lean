/- Contract of the reference's ReadQuote. -/
import Derived.Test.YtnognmgmhhbbiaaEscS
namespace Go.Proofs.Ytnognmgmhhbbiaa
open Go.RowKit

theorem rq_step (l acc r : List UInt8) (c : UInt8) (hc : Esc.enc true c = [c]) (h : l = Esc.form true acc ++ c :: r) : l = Esc.form true (acc ++ [c]) ++ r := by
  rw [h, Esc.form_append]; simp [Esc.form, hc]
theorem rq_step2 (l acc r : List UInt8) (d x : UInt8) (hd : Esc.dec true d = some x) (h : l = Esc.form true acc ++ 92 :: d :: r) : l = Esc.form true (acc ++ [x]) ++ r := by
  rw [h, Esc.form_append]; simp [Esc.form, enc_dec true d x hd]
theorem form_snoc_len (acc : List UInt8) (c : UInt8) : (Esc.form true (acc ++ [c])).length = (Esc.form true acc).length + (Esc.enc true c).length := by
  rw [Esc.form_append, List.length_append]; simp [Esc.form]

set_option maxHeartbeats 3200000 in
set_option maxRecDepth 100000 in
theorem refQuote_in (s : ByteArray) (k : Nat) (w : World) (hs : s.size ≤ 65536) (hk : k < s.size) (h34 : s[k] = 34) :
    Calls Try.prog 29 #[.string s, .int .i64 (k : Int)] w fun e w' => e = .returned (outVal (Esc.rq s.data.toList k)) ∧ Below w.heap.size w w' := by
  have hd0 := Lib.hid (Esc.drop_one s k hk)
  have bk : ((k : Int) == (s.size : Int)) = false := by simp; omega
  have bc : ((s[k].toNat : Int) != 34) = false := Esc.bne_no (k := 34) rfl h34
  have H34 := Lib.hid h34
  clear h34
  have HB : Hid (∀ e, Esc.rd true true (s.data.toList.drop (k + 1)) = .bad e → Esc.rq s.data.toList k = .bad e) := fun e he => Esc.rq_bad _ _ _ _ (by rw [hd0.out, H34.out]) he
  have HG : Hid (∀ x n, Esc.rd true true (s.data.toList.drop (k + 1)) = .good x n → Esc.rq s.data.toList k = .good x (k + 1 + n + 1)) := fun x n he => Esc.rq_good _ _ _ _ _ (by rw [hd0.out, H34.out]) he
  clear hd0 H34
  have dk : decide (s.size < k) = false := by simp; omega
  go_enter Try.func29, Try.ntmps29
  go_wp2
  go_loop [7] (fun i => ∃ (j : Nat) (acc : List UInt8), i = .int .i64 j ∧ k + 1 ≤ j ∧ ((j ≤ s.size ∧ j = k + 1 + (Esc.form true acc).length ∧ Hid (s.data.toList.drop (k + 1) = Esc.form true acc ++ s.data.toList.drop j)) ∨ (j = s.size + 1 ∧ Hid (s.data.toList.drop (k + 1) = Esc.form true acc ++ [92])))) (fun i => s.size + 1 - (intOf i).toNat)
  case atStart => exact ⟨k + 1, [], by go_num, by omega, .inl ⟨by omega, rfl, rfl⟩⟩
  case round =>
    obtain ⟨j, acc, rfl, hkj, ⟨hj, hjl, hA⟩ | ⟨hj, hA⟩⟩ := hrel
    · have hjl' := Lib.hid hjl
      clear hjl
      by_cases hlt : j < s.size
      · have hd := Lib.hid (Esc.drop_one s j hlt)
        by_cases h34 : s[j] = 34
        · have b34 : ((s[j].toNat : Int) != 34) = false := Esc.bne_no (k := 34) rfl h34
          have H := Lib.hid h34
          clear h34
          have he : (s.extract (k + 1) j).data.toList = Esc.form true acc := by
            rw [Lib.extract_data, hA.out, List.take_append_of_le_length (by rw [hjl'.out]; omega), List.take_of_length_le (by rw [hjl'.out]; omega)]
          have hr := refRead_any true (s.extract (k + 1) j)
          rw [he, Esc.rd_whole] at hr
          have HR := Lib.hid hr
          clear hr he
          have HE := Lib.hid (HG.out acc _ (show Esc.rd true true (s.data.toList.drop (k + 1)) = .good acc (Esc.form true acc).length by rw [hA.out, hd.out, H.out]; exact Esc.rd_quoted _ _))
          go_wp2_with (go_at_call 28; refine (HR.out _ (by rw [ByteArray.size_extract]; omega)).mono ?_)
          first | rintro e w1 rfl hb | rintro e w1 ⟨rfl, hb⟩
          rw [show outVal2 (.good acc (Esc.form true acc).length) = .tuple #[.string ⟨acc.toArray⟩, .int .i64 0] from rfl]
          go_wp2
          go_ret3
          refine ⟨?_, hb⟩
          rw [HE.out, show k + 1 + (Esc.form true acc).length + 1 = j + 1 by rw [← hjl'.out]]
          simp [outVal]
        · have b34 : ((s[j].toNat : Int) != 34) = true := Esc.bne_yes (k := 34) rfl h34
          by_cases h10 : s[j] = 10
          · have b10 := Esc.beq_yes (n := 10) rfl h10
            have HE := Lib.hid (HB.out 223 (by rw [hA.out, hd.out, h10]; exact Esc.rd_form_feed _ _ _ _))
            clear h10 h34
            go_wp2
            go_ret3
            exact ⟨by rw [HE.out]; rfl, Below.refl _ _⟩
          have b10 := Esc.beq_no (n := 10) rfl h10
          by_cases h92 : s[j] = 92
          · have b92 := Esc.beq_yes (n := 92) rfl h92
            have H := Lib.hid h92
            clear h92 h10 h34
            by_cases hl : j + 1 < s.size
            · have hd1 := Lib.hid (Esc.drop_one s (j + 1) hl)
              have q3 : ((j : Int) + 1).toNat = j + 1 := by omega
              cases hdec : Esc.dec true s[j + 1] with
              | none =>
                have HE := Lib.hid (HB.out 220 (by rw [hA.out, hd.out, H.out, hd1.out]; exact Esc.rd_form_bad _ _ _ _ _ hdec))
                have HD := Lib.hid hdec
                clear hdec
                go_wp2_with (go_at_call 43; refine (stands_none s[j + 1] true HD.out _).mono ?_)
                try rintro _ _ ⟨rfl, rfl⟩
                go_wp2
                go_ret3
                exact ⟨by rw [HE.out]; rfl, Below.refl _ _⟩
              | some x =>
                have HD := Lib.hid hdec
                clear hdec
                go_wp2_with (go_at_call 43; refine (stands_some s[j + 1] x true HD.out _).mono ?_)
                try rintro _ _ ⟨rfl, rfl⟩
                go_wp2
                go_round
                case rel => exact ⟨j + 2, acc ++ [x], by go_num, by omega, .inl ⟨by omega, by rw [form_snoc_len, enc_dec true _ x HD.out]; simp; have := hjl'.out; omega, rq_step2 _ _ _ _ _ HD.out (by rw [hA.out, hd.out, H.out, hd1.out])⟩⟩
                case measure => simp [intOf]; omega
            · have hnil := Lib.hid (show s.data.toList.drop (j + 1) = [] from List.drop_eq_nil_iff.2 (by simp; omega))
              go_wp2
              go_round
              case rel => exact ⟨j + 2, acc, by go_num, by omega, .inr ⟨by omega, by rw [hA.out, hd.out, H.out, hnil.out]; rfl⟩⟩
              case measure => simp [intOf]; omega
          · have b92 := Esc.beq_no (n := 92) rfl h92
            have he : Esc.enc true s[j] = [s[j]] := enc_plain true _ h92 h10 (fun h => h34 h.2)
            have HE := Lib.hid he
            clear he h92 h10 h34
            go_wp2
            go_round
            case rel => exact ⟨j + 1, acc ++ [s[j]], by go_num, by omega, .inl ⟨by omega, by rw [form_snoc_len, HE.out]; simp; have := hjl'.out; omega, rq_step _ _ _ _ HE.out (by rw [hA.out, hd.out])⟩⟩
            case measure => simp [intOf]; omega
      · have hnil := Lib.hid (show s.data.toList.drop j = [] from List.drop_eq_nil_iff.2 (by simp; omega))
        have HE := Lib.hid (HB.out 222 (by rw [hA.out, hnil.out, Esc.rd_form, Esc.rd_nil]; rfl))
        go_wp2
        go_ret3
        exact ⟨by rw [HE.out]; rfl, Below.refl _ _⟩
    · have HE := Lib.hid (HB.out 222 (by rw [hA.out, Esc.rd_form, Esc.rd_last]; rfl))
      have hj' : s.size < j := by omega
      clear hj
      go_wp2
      go_ret3
      exact ⟨by rw [HE.out]; rfl, Below.refl _ _⟩

set_option maxHeartbeats 800000 in
theorem refQuote_any (s : ByteArray) (at_ : Int) (w : World) (hm : s.size ≤ 65536) :
    Calls Try.prog 29 #[.string s, .int .i64 at_] w fun e w' => e = .returned (quoteVal s at_) ∧ Below w.heap.size w w' := by
  by_cases ha : 0 ≤ at_ ∧ at_ ≤ s.size
  · rw [show quoteVal s at_ = outVal (Esc.rq s.data.toList at_.toNat) from by unfold quoteVal; rw [if_pos hm, if_pos ha]]
    obtain ⟨k, rfl⟩ := Int.eq_ofNat_of_zero_le ha.1
    rw [Int.toNat_natCast]
    have hk : k ≤ s.size := by omega
    clear ha
    by_cases hlt : k < s.size
    · by_cases hc : s[k] = 34
      · exact refQuote_in s k w hm hlt hc
      · have bk : ((k : Int) == (s.size : Int)) = false := by simp; omega
        have bc : ((s[k].toNat : Int) != 34) = true := Esc.bne_yes (k := 34) rfl hc
        have HE := Lib.hid (show Esc.rq s.data.toList k = .bad 221 from Esc.rq_not _ _ _ _ (Esc.drop_one s k hlt) hc)
        clear hc
        go_enter Try.func29, Try.ntmps29
        go_wp2
        go_ret3
        exact ⟨by rw [HE.out]; rfl, Below.refl _ _⟩
    · have bk : ((k : Int) == (s.size : Int)) = true := by simp; omega
      have HE := Lib.hid (show Esc.rq s.data.toList k = .bad 221 from Esc.rq_end _ _ (List.drop_eq_nil_iff.2 (by simp; omega)))
      go_enter Try.func29, Try.ntmps29
      go_wp2
      go_ret3
      exact ⟨by rw [HE.out]; rfl, Below.refl _ _⟩
  · rw [show quoteVal s at_ = .tuple #[.string ⟨#[]⟩, .int .i64 0, .int .i64 2] from by unfold quoteVal; rw [if_pos hm, if_neg ha]]
    by_cases h0 : at_ < 0
    · go_enter Try.func29, Try.ntmps29
      go_wp2
      go_ret3
      exact ⟨rfl, Below.refl _ _⟩
    · have h1 : (s.size : Int) < at_ := by omega
      go_enter Try.func29, Try.ntmps29
      go_wp2
      go_ret3
      exact ⟨rfl, Below.refl _ _⟩
end Go.Proofs.Ytnognmgmhhbbiaa
