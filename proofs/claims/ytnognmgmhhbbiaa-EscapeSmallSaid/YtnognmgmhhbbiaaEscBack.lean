/- The walk of EscapeBack. -/
import Derived.Test.YtnognmgmhhbbiaaEscCounts
namespace Go.Proofs.Ytnognmgmhhbbiaa
open Go.RowKit

theorem readHelp_of (s x : ByteArray) (n : Nat) (h : Esc.rd false false s.data.toList = .good x.data.toList n) (w : World) (hm : s.size ≤ 65536) :
    Calls Try.prog 16 #[.string s] w fun e w' => e = .returned (.tuple #[.string x, .int .i64 0]) ∧ Below w.heap.size w w' := by
  have e : readVal false s = .tuple #[.string x, .int .i64 0] := by
    unfold readVal; rw [if_pos hm, h]; show Value.tuple #[.string ⟨x.data.toList.toArray⟩, .int .i64 0] = _; rw [mk_list]
  rw [← e]; exact readHelp_any s w (by unfold maxLen; omega)
theorem readValue_of (s x : ByteArray) (n : Nat) (h : Esc.rd true false s.data.toList = .good x.data.toList n) (w : World) (hm : s.size ≤ 65536) :
    Calls Try.prog 17 #[.string s] w fun e w' => e = .returned (.tuple #[.string x, .int .i64 0]) ∧ Below w.heap.size w w' := by
  have e : readVal true s = .tuple #[.string x, .int .i64 0] := by
    unfold readVal; rw [if_pos hm, h]; show Value.tuple #[.string ⟨x.data.toList.toArray⟩, .int .i64 0] = _; rw [mk_list]
  rw [← e]; exact readValue_any s w (by unfold maxLen; omega)
theorem readHelp_bad (s : ByteArray) (k : Int) (h : Esc.rd false false s.data.toList = .bad k) (w : World) (hm : s.size ≤ 65536) :
    Calls Try.prog 16 #[.string s] w fun e w' => e = .returned (.tuple #[.string ⟨#[]⟩, .int .i64 k]) ∧ Below w.heap.size w w' := by
  have e : readVal false s = .tuple #[.string ⟨#[]⟩, .int .i64 k] := by
    unfold readVal; rw [if_pos hm, h]; rfl
  rw [← e]; exact readHelp_any s w (by unfold maxLen; omega)
theorem readValue_bad (s : ByteArray) (k : Int) (h : Esc.rd true false s.data.toList = .bad k) (w : World) (hm : s.size ≤ 65536) :
    Calls Try.prog 17 #[.string s] w fun e w' => e = .returned (.tuple #[.string ⟨#[]⟩, .int .i64 k]) ∧ Below w.heap.size w w' := by
  have e : readVal true s = .tuple #[.string ⟨#[]⟩, .int .i64 k] := by
    unfold readVal; rw [if_pos hm, h]; rfl
  rw [← e]; exact readValue_any s w (by unfold maxLen; omega)

theorem back_quote (s b : ByteArray) (hb : Hid (b.data.toList = Esc.form true s.data.toList)) (hb2 : b.size ≤ 2000) : quoteVal (⟨#[34]⟩ ++ b ++ ⟨#[34]⟩) 0 = .tuple #[.string s, .int .i64 ((1 + b.size + 1 : Nat) : Int), .int .i64 0] := by
  have hd : (⟨#[34]⟩ ++ b ++ ⟨#[34]⟩ : ByteArray).data.toList = 34 :: (Esc.form true s.data.toList ++ 34 :: []) := by
    rw [list_append, list_append, hb.out]; simp
  have hsz : (⟨#[34]⟩ ++ b ++ ⟨#[34]⟩ : ByteArray).size = 1 + b.size + 1 := by simp only [ByteArray.size_append]; rfl
  unfold quoteVal
  rw [if_pos (by omega), if_pos (by omega), Int.toNat_zero, Esc.rq_good _ _ _ _ _ (by rw [List.drop_zero]; exact hd) (Esc.rd_quoted s.data.toList [])]
  unfold outVal
  have hl : (Esc.form true s.data.toList).length = b.size := by rw [← len_list, hb.out]
  rw [hl]

theorem quote_of (s b : ByteArray) (hb : Hid (b.data.toList = Esc.form true s.data.toList)) (_hb2 : b.size ≤ 2000) (w : World) (hs : s.size ≤ 1000) :
    Calls Try.prog 12 #[.string s] w fun e w' => e = .returned (.tuple #[.string (⟨#[34]⟩ ++ b ++ ⟨#[34]⟩), .int .i64 0]) ∧ Below w.heap.size w w' := by
  have e : quoted s = .tuple #[.string (⟨#[34]⟩ ++ b ++ ⟨#[34]⟩), .int .i64 0] := by
    unfold quoted
    rw [if_pos (by omega)]
    have hd : (⟨#[34]⟩ ++ b ++ ⟨#[34]⟩ : ByteArray).data.toList = 34 :: (Esc.form true s.data.toList ++ [34]) := by
      rw [list_append, list_append, hb.out]; simp
    rw [← hd, mk_list]
  rw [← e]; exact quote_any s w (by unfold maxLen; omega)
theorem sz1 (c : UInt8) : (ByteArray.mk #[c]).size = 1 := rfl
theorem back_feed (s a b : ByteArray) (ha : Hid (a.data.toList = Esc.form false s.data.toList)) (hb : Hid (b.data.toList = Esc.form true s.data.toList)) : (10 : UInt8) ∉ (a ++ b ++ (⟨#[34]⟩ ++ b ++ ⟨#[34]⟩)).data.toList := by
  rw [list_append, list_append, list_append, list_append, ha.out, hb.out]
  have h1 := Esc.feed_not_mem false s.data.toList
  have h2 := Esc.feed_not_mem true s.data.toList
  simp [h1, h2]

/-- a reading of a string: it fails with a number, or gives a string whose form it is -/
theorem reads_cases (v : Bool) (s : ByteArray) : (∃ k : Int, Hid (Esc.rd v false s.data.toList = .bad k) ∧ (k == 0) = false) ∨
    ∃ (x : ByteArray) (n : Nat), Hid (Esc.rd v false s.data.toList = .good x.data.toList n) ∧ Hid (s.data.toList = Esc.form v x.data.toList) ∧ x.size ≤ s.size := by
  rcases h : Esc.rd v false s.data.toList with k | ⟨l, n⟩
  · left
    have := rd_bad_ne _ _ _ _ h
    exact ⟨k, rfl, by simpa [bne] using this⟩
  · right
    have hok := Esc.rd_ok v false _ s.data.toList (Nat.le_refl _)
    rw [h] at hok
    have hf := Esc.form_of_rd v _ s.data.toList l n (Nat.le_refl _) h
    refine ⟨⟨l.toArray⟩, n, by simp [Hid], by simp [Hid, hf], ?_⟩
    have h1 := hok.1
    have h2 := hok.2
    rw [len_list] at h1
    show l.toArray.size ≤ s.size
    simp; omega

set_option maxHeartbeats 3200000 in
set_option maxRecDepth 100000 in
theorem walk_EscapeBack (a0 a1 : ByteArray) (w0 : a0.size ≤ maxLen) (w1 : a1.size ≤ maxLen) (w : World) :
    Calls Try.prog 6 #[.string a0, .string a1] w fun e w' => e = .returned (.bool true) ∧ Below w.heap.size w w' := by
  go_enter Try.func6, Try.ntmps6
  go_wp2_with (go_at_call 10; refine (awake_any _).mono ?_)
  rintro e w4 ⟨rfl, hb⟩
  go_wp2_with (go_at_call 11; refine (short_le a0 _ w0).mono ?_)
  rintro e _ ⟨s, h0, rfl, rfl⟩
  go_wp2_with (go_at_call 11; refine (short_le a1 _ w1).mono ?_)
  rintro e _ ⟨t, h1, rfl, rfl⟩
  clear w0 w1
  go_wp2_with (go_at_call 14; refine (help_small s _ h0).mono ?_)
  first | rintro e y0 a ha ha2 rfl hb5 | rintro e y0 ⟨a, ha, ha2, rfl, hb5⟩
  replace hb := below_next hb hb5
  clear hb5
  go_wp2_with (go_at_call 15; refine (value_small s _ h0).mono ?_)
  first | rintro e y1 b hb' hb2 rfl hb5 | rintro e y1 ⟨b, hb', hb2, rfl, hb5⟩
  replace hb := below_next hb hb5
  clear hb5
  go_wp2_with (go_at_call 12; refine (quote_of s b hb' hb2 _ h0).mono ?_)
  first | rintro e y2 rfl hb5 | rintro e y2 ⟨rfl, hb5⟩
  replace hb := below_next hb hb5
  clear hb5
  go_wp2_with (go_at_call 16; refine (readHelp_of a s _ (by rw [ha.out]; exact Esc.rd_whole _ _) _ (by omega)).mono ?_)
  first | rintro e y3 rfl hb5 | rintro e y3 ⟨rfl, hb5⟩
  replace hb := below_next hb hb5
  clear hb5
  go_wp2_with (go_at_call 17; refine (readValue_of b s _ (by rw [hb'.out]; exact Esc.rd_whole _ _) _ (by omega)).mono ?_)
  first | rintro e y4 rfl hb5 | rintro e y4 ⟨rfl, hb5⟩
  replace hb := below_next hb hb5
  clear hb5
  go_wp2_with (go_at_call 13; refine (readQuote_is _ _ _ (back_quote s b hb' hb2) _ (by simp only [ByteArray.size_append, sz1]; omega)).mono ?_)
  first | rintro e y5 rfl hb5 | rintro e y5 ⟨rfl, hb5⟩
  replace hb := below_next hb hb5
  clear hb5
  go_wp2_with (go_at_call 19; refine (contains_one _ 10 (back_feed s a b ha hb') _).mono ?_)
  first | rintro e _ rfl rfl | rintro e _ ⟨rfl, rfl⟩
  go_wp2_with (go_at_call 14; refine (help_small t _ h1).mono ?_)
  first | rintro e y6 c hc hc2 rfl hb5 | rintro e y6 ⟨c, hc, hc2, rfl, hb5⟩
  replace hb := below_next hb hb5
  clear hb5
  go_wp2_with (go_at_call 15; refine (value_small t _ h1).mono ?_)
  first | rintro e y7 d hd hd2 rfl hb5 | rintro e y7 ⟨d, hd, hd2, rfl, hb5⟩
  replace hb := below_next hb hb5
  clear hb5
  have hpa : (a.toList == c.toList) = (s.toList == t.toList) := by
    rw [bytes_beq, bytes_beq, ha.out, hc.out, decide_eq_decide, Esc.form_inj]
  have hpb : (b.toList == d.toList) = (s.toList == t.toList) := by
    rw [bytes_beq, bytes_beq, hb'.out, hd.out, decide_eq_decide, Esc.form_inj]
  rcases reads_cases false s with ⟨k, hk, hk0⟩ | ⟨x, n, hx, hfx, hxs⟩
  · go_wp2_with (go_at_call 16; refine (readHelp_bad s k hk.out _ (by omega)).mono ?_)
    first | rintro e y8 rfl hb5 | rintro e y8 ⟨rfl, hb5⟩
    replace hb := below_next hb hb5
    clear hb5
    rcases reads_cases true s with ⟨m, hm, hm0⟩ | ⟨z, n', hz, hfz, hzs⟩
    · go_wp2_with (go_at_call 17; refine (readValue_bad s m hm.out _ (by omega)).mono ?_)
      first | rintro e y10 rfl hb5 | rintro e y10 ⟨rfl, hb5⟩
      replace hb := below_next hb hb5
      clear hb5
      go_wp2
      go_ret
      exact ⟨rfl, hb⟩
    · go_wp2_with (go_at_call 17; refine (readValue_of s z n' hz.out _ (by omega)).mono ?_)
      first | rintro e y10 rfl hb5 | rintro e y10 ⟨rfl, hb5⟩
      replace hb := below_next hb hb5
      clear hb5
      go_wp2_with (go_at_call 15; refine (value_is z s hfz.out _ (by omega)).mono ?_)
      first | rintro e y11 rfl hb5 | rintro e y11 ⟨rfl, hb5⟩
      replace hb := below_next hb hb5
      clear hb5
      go_wp2
      go_ret
      exact ⟨rfl, hb⟩
  · go_wp2_with (go_at_call 16; refine (readHelp_of s x n hx.out _ (by omega)).mono ?_)
    first | rintro e y8 rfl hb5 | rintro e y8 ⟨rfl, hb5⟩
    replace hb := below_next hb hb5
    clear hb5
    go_wp2_with (go_at_call 14; refine (help_is x s hfx.out _ (by omega)).mono ?_)
    first | rintro e y9 rfl hb5 | rintro e y9 ⟨rfl, hb5⟩
    replace hb := below_next hb hb5
    clear hb5
    rcases reads_cases true s with ⟨m, hm, hm0⟩ | ⟨z, n', hz, hfz, hzs⟩
    · go_wp2_with (go_at_call 17; refine (readValue_bad s m hm.out _ (by omega)).mono ?_)
      first | rintro e y10 rfl hb5 | rintro e y10 ⟨rfl, hb5⟩
      replace hb := below_next hb hb5
      clear hb5
      go_wp2
      go_ret
      exact ⟨rfl, hb⟩
    · go_wp2_with (go_at_call 17; refine (readValue_of s z n' hz.out _ (by omega)).mono ?_)
      first | rintro e y10 rfl hb5 | rintro e y10 ⟨rfl, hb5⟩
      replace hb := below_next hb hb5
      clear hb5
      go_wp2_with (go_at_call 15; refine (value_is z s hfz.out _ (by omega)).mono ?_)
      first | rintro e y11 rfl hb5 | rintro e y11 ⟨rfl, hb5⟩
      replace hb := below_next hb hb5
      clear hb5
      go_wp2
      go_ret
      exact ⟨rfl, hb⟩
end Go.Proofs.Ytnognmgmhhbbiaa
