/- The walk of EscapeWrong. -/
import Derived.Test.YtnognmgmhhbbiaaEscG
import Derived.Test.YtnognmgmhhbbiaaEscP4
namespace Go.Proofs.Ytnognmgmhhbbiaa
open Go.RowKit

theorem data_mk (l : List UInt8) : (ByteArray.mk l.toArray).data.toList = l := by simp
theorem size_le_of (s : ByteArray) (n : Nat) (h : s.data.toList.length ≤ n) : s.size ≤ n := by rw [len_list] at h; exact h

theorem readVal_bad (v : Bool) (s : ByteArray) (e : Int) (hs : s.size ≤ 65536) (h : Esc.rd v false s.data.toList = .bad e) : readVal v s = .tuple #[.string ⟨#[]⟩, .int .i64 e] := by
  unfold readVal; rw [if_pos hs, h]; rfl
theorem quoteVal_bad (s : ByteArray) (r : List UInt8) (e : Int) (hs : s.size ≤ 65536) (h : s.data.toList = 34 :: r) (hr : Esc.rd true true r = .bad e) : quoteVal s 0 = .tuple #[.string ⟨#[]⟩, .int .i64 0, .int .i64 e] := by
  unfold quoteVal
  rw [if_pos hs, if_pos (by omega), Int.toNat_zero, Esc.rq_bad _ _ r e (by rw [List.drop_zero]; exact h) hr]; rfl

theorem sz1 (c : UInt8) : (ByteArray.mk #[c]).size = 1 := rfl
theorem sz2 (c d : UInt8) : (ByteArray.mk #[c, d]).size = 2 := rfl
/-- behind a letter that begins no escape -/
structure Plain (d : UInt8) : Prop where
  a : d ≠ 92
  b : d ≠ 110
  c : d ≠ 34

theorem wr_end (f : ByteArray) (hf2 : f.size ≤ 2000) : quoteVal f f.size = .tuple #[.string ⟨#[]⟩, .int .i64 0, .int .i64 221] := by
  unfold quoteVal
  rw [if_pos (by omega), if_pos (by omega), Int.toNat_natCast, Esc.rq_end _ _ (List.drop_eq_nil_iff.2 (by rw [len_list]; exact Nat.le_refl _))]; rfl
section
variable (s t f : ByteArray) (v : Bool) (hf : Hid (f.data.toList = Esc.form v s.data.toList)) (hf2 : f.size ≤ 2000) (ht : t.size ≤ 1000)
include hf hf2 ht
theorem wr_feed : readVal v (f ++ ⟨#[10]⟩ ++ t) = .tuple #[.string ⟨#[]⟩, .int .i64 223] :=
  readVal_bad _ _ _ (by simp only [ByteArray.size_append, sz1]; omega) (by
    rw [list_append, list_append, hf.out, List.append_assoc]; exact Esc.rd_form_feed _ _ _ _)
theorem wr_bad (d : UInt8) (hd : Esc.dec v d = none) : readVal v (f ++ ⟨#[92, d]⟩ ++ t) = .tuple #[.string ⟨#[]⟩, .int .i64 220] :=
  readVal_bad _ _ _ (by simp only [ByteArray.size_append, sz2]; omega) (by
    rw [list_append, list_append, hf.out, List.append_assoc]; exact Esc.rd_form_bad _ _ _ _ _ hd)
end
section
variable (s t f : ByteArray) (hf : Hid (f.data.toList = Esc.form true s.data.toList)) (hf2 : f.size ≤ 2000) (ht : t.size ≤ 1000)
include hf hf2
theorem wr_last : readVal true (f ++ ⟨#[92]⟩) = .tuple #[.string ⟨#[]⟩, .int .i64 220] :=
  readVal_bad _ _ _ (by simp only [ByteArray.size_append, sz1]; omega) (by rw [list_append, hf.out]; exact Esc.rd_form_last _ _)
include ht
theorem wr_quote : readVal true (f ++ ⟨#[34]⟩ ++ t) = .tuple #[.string ⟨#[]⟩, .int .i64 221] :=
  readVal_bad _ _ _ (by simp only [ByteArray.size_append, sz1]; omega) (by
    rw [list_append, list_append, hf.out, List.append_assoc]; exact Esc.rd_form_quote _ _)
theorem wr_qfeed : quoteVal (⟨#[34]⟩ ++ f ++ ⟨#[10]⟩ ++ t) 0 = .tuple #[.string ⟨#[]⟩, .int .i64 0, .int .i64 223] :=
  quoteVal_bad _ (Esc.form true s.data.toList ++ 10 :: t.data.toList) _ (by simp only [ByteArray.size_append, sz1]; omega) (by
    rw [list_append, list_append, list_append, hf.out]; simp) (Esc.rd_form_feed _ _ _ _)
theorem wr_qbad (d : UInt8) (hd : Esc.dec true d = none) : quoteVal (⟨#[34]⟩ ++ f ++ ⟨#[92, d]⟩ ++ t) 0 = .tuple #[.string ⟨#[]⟩, .int .i64 0, .int .i64 220] :=
  quoteVal_bad _ (Esc.form true s.data.toList ++ 92 :: d :: t.data.toList) _ (by simp only [ByteArray.size_append, sz1, sz2]; omega) (by
    rw [list_append, list_append, list_append, hf.out]; simp) (Esc.rd_form_bad _ _ _ _ _ hd)
end

theorem conv_one (x : UInt8) (u : World) : (convert 31 9 (.slice (some ⟨u.heap.size, 0, none⟩) 1 1)).run Try.prog (u.alloc (.cells #[.int .u8 (x.toNat : Int)] 5)) = .ok (.string ⟨#[x]⟩) (u.alloc (.cells #[.int .u8 (x.toNat : Int)] 5)) :=
  run_convert_bytes_back _ 31 9 5 ⟨u.heap.size, 0, none⟩ 1 [x] Try.underlying31 Try.underlying5 Try.underlying9 (by
    intro j hj
    obtain rfl : j = 0 := by simp at hj; omega
    simp [Addr.add])
theorem conv_120 (u : World) : (convert 31 9 (.slice (some ⟨u.heap.size, 0, none⟩) 1 1)).run Try.prog (u.alloc (.cells #[.int .u8 120] 5)) = .ok (.string ⟨#[120]⟩) (u.alloc (.cells #[.int .u8 120] 5)) :=
  conv_one 120 u
theorem cat_slash (x : UInt8) : (ByteArray.mk #[92] ++ ByteArray.mk #[x]) = ByteArray.mk #[92, x] := rfl
theorem below_alloc {w u : World} (h : Below w.heap.size w u) (o : Obj) : Below w.heap.size w (u.alloc o) := h.alloc h.size o
theorem cat_nil : (ByteArray.mk #[] ++ ByteArray.mk #[]) = ByteArray.mk #[] := rfl

set_option maxHeartbeats 1600000 in
set_option maxRecDepth 100000 in
theorem wrong_plain (a0 a1 : ByteArray) (d : UInt8) (hd : Plain d) (w0 : a0.size ≤ maxLen) (w1 : a1.size ≤ maxLen) (w : World) :
    Calls Try.prog 4 #[.string a0, .string a1, .int .u8 d.toNat] w fun e w' => e = .returned (.bool true) ∧ Below w.heap.size w w' := by
  have b1 : ((d.toNat : Int) == 110) = false := Esc.beq_no (k := 110) rfl hd.b
  have b2 : ((d.toNat : Int) == 92) = false := Esc.beq_no (k := 92) rfl hd.a
  have b3 : ((d.toNat : Int) == 34) = false := Esc.beq_no (k := 34) rfl hd.c
  go_enter Try.func4, Try.ntmps4
  go_wp2_with (go_at_call 10; refine (awake_any _).mono ?_)
  rintro e w4 ⟨rfl, hb⟩
  go_wp2_with (go_at_call 11; refine (short_le a0 _ w0).mono ?_)
  rintro e _ ⟨t0, h0, rfl, rfl⟩
  go_wp2_with (go_at_call 11; refine (short_le a1 _ w1).mono ?_)
  rintro e _ ⟨t1, h1, rfl, rfl⟩
  clear w0 w1
  go_wp2_with (go_at_call 14; refine (help_small t0 _ h0).mono ?_)
  rintro e w5 ⟨f, hf, hf2, rfl, hb5⟩
  replace hb := below_next hb hb5
  clear hb5
  go_wp2_with (go_at_call 15; refine (value_small t0 _ h0).mono ?_)
  rintro e w6 ⟨g, hg, hg2, rfl, hb5⟩
  replace hb := below_next hb hb5
  clear hb5
  have hcv := conv_one d w6
  have cn := cat_nil
  have cs := cat_slash d
  go_wp2_with fail
  replace hb := below_alloc hb (.cells #[.int .u8 (d.toNat : Int)] 5)
  generalize w6.alloc (.cells #[.int .u8 (d.toNat : Int)] 5) = w7 at *
  go_wp2_with (go_at_call 16; refine (readHelp_is _ _ (wr_feed t0 t1 f false hf hf2 h1) _ (by simp only [ByteArray.size_append, sz1]; omega)).mono ?_)
  first | rintro e y0 rfl hb5 | rintro e y0 ⟨rfl, hb5⟩
  replace hb := below_next hb hb5
  clear hb5
  go_wp2_with (go_at_call 17; refine (readValue_is _ _ (wr_feed t0 t1 g true hg hg2 h1) _ (by simp only [ByteArray.size_append, sz1]; omega)).mono ?_)
  first | rintro e y1 rfl hb5 | rintro e y1 ⟨rfl, hb5⟩
  replace hb := below_next hb hb5
  clear hb5
  go_wp2_with (go_at_call 13; refine (readQuote_is _ _ _ (wr_qfeed t0 t1 g hg hg2 h1) _ (by simp only [ByteArray.size_append, sz1]; omega)).mono ?_)
  first | rintro e y2 rfl hb5 | rintro e y2 ⟨rfl, hb5⟩
  replace hb := below_next hb hb5
  clear hb5
  go_wp2_with (go_at_call 16; refine (readHelp_is _ _ (wr_bad t0 t1 f false hf hf2 h1 d (Esc.dec_none false d hd.a hd.b (fun _ => hd.c))) _ (by simp only [ByteArray.size_append, sz2]; omega)).mono ?_)
  first | rintro e y3 rfl hb5 | rintro e y3 ⟨rfl, hb5⟩
  replace hb := below_next hb hb5
  clear hb5
  go_wp2_with (go_at_call 17; refine (readValue_is _ _ (wr_bad t0 t1 g true hg hg2 h1 d (Esc.dec_none true d hd.a hd.b (fun _ => hd.c))) _ (by simp only [ByteArray.size_append, sz2]; omega)).mono ?_)
  first | rintro e y4 rfl hb5 | rintro e y4 ⟨rfl, hb5⟩
  replace hb := below_next hb hb5
  clear hb5
  go_wp2_with (go_at_call 13; refine (readQuote_is _ _ _ (wr_qbad t0 t1 g hg hg2 h1 d (Esc.dec_none true d hd.a hd.b (fun _ => hd.c))) _ (by simp only [ByteArray.size_append, sz1, sz2]; omega)).mono ?_)
  first | rintro e y5 rfl hb5 | rintro e y5 ⟨rfl, hb5⟩
  replace hb := below_next hb hb5
  clear hb5
  go_wp2_with (go_at_call 16; refine (readHelp_is _ _ (wr_bad t0 t1 f false hf hf2 h1 34 (by decide)) _ (by simp only [ByteArray.size_append, sz2]; omega)).mono ?_)
  first | rintro e y6 rfl hb5 | rintro e y6 ⟨rfl, hb5⟩
  replace hb := below_next hb hb5
  clear hb5
  go_wp2_with (go_at_call 17; refine (readValue_is _ _ (wr_quote t0 t1 g hg hg2 h1) _ (by simp only [ByteArray.size_append, sz1]; omega)).mono ?_)
  first | rintro e y7 rfl hb5 | rintro e y7 ⟨rfl, hb5⟩
  replace hb := below_next hb hb5
  clear hb5
  go_wp2_with (go_at_call 13; refine (readQuote_is _ _ _ (wr_end g hg2) _ (by omega)).mono ?_)
  first | rintro e y8 rfl hb5 | rintro e y8 ⟨rfl, hb5⟩
  replace hb := below_next hb hb5
  clear hb5
  go_wp2_with (go_at_call 17; refine (readValue_is _ _ (wr_last t0 g hg hg2) _ (by simp only [ByteArray.size_append, sz1]; omega)).mono ?_)
  first | rintro e y9 rfl hb5 | rintro e y9 ⟨rfl, hb5⟩
  replace hb := below_next hb hb5
  clear hb5
  go_wp2
  go_ret
  exact ⟨rfl, hb⟩

set_option maxHeartbeats 1600000 in
set_option maxRecDepth 100000 in
theorem wrong_110 (a0 a1 : ByteArray) (w0 : a0.size ≤ maxLen) (w1 : a1.size ≤ maxLen) (w : World) :
    Calls Try.prog 4 #[.string a0, .string a1, .int .u8 110] w fun e w' => e = .returned (.bool true) ∧ Below w.heap.size w w' := by
  go_enter Try.func4, Try.ntmps4
  go_wp2_with (go_at_call 10; refine (awake_any _).mono ?_)
  rintro e w4 ⟨rfl, hb⟩
  go_wp2_with (go_at_call 11; refine (short_le a0 _ w0).mono ?_)
  rintro e _ ⟨t0, h0, rfl, rfl⟩
  go_wp2_with (go_at_call 11; refine (short_le a1 _ w1).mono ?_)
  rintro e _ ⟨t1, h1, rfl, rfl⟩
  clear w0 w1
  go_wp2_with (go_at_call 14; refine (help_small t0 _ h0).mono ?_)
  rintro e w5 ⟨f, hf, hf2, rfl, hb5⟩
  replace hb := below_next hb hb5
  clear hb5
  go_wp2_with (go_at_call 15; refine (value_small t0 _ h0).mono ?_)
  rintro e w6 ⟨g, hg, hg2, rfl, hb5⟩
  replace hb := below_next hb hb5
  clear hb5
  have hcv := conv_120 w6
  have cn := cat_nil
  have cs := cat_slash 120
  go_wp2_with fail
  replace hb := below_alloc hb (.cells #[.int .u8 120] 5)
  generalize w6.alloc (.cells #[.int .u8 120] 5) = w7 at *
  go_wp2_with (go_at_call 16; refine (readHelp_is _ _ (wr_feed t0 t1 f false hf hf2 h1) _ (by simp only [ByteArray.size_append, sz1]; omega)).mono ?_)
  first | rintro e y0 rfl hb5 | rintro e y0 ⟨rfl, hb5⟩
  replace hb := below_next hb hb5
  clear hb5
  go_wp2_with (go_at_call 17; refine (readValue_is _ _ (wr_feed t0 t1 g true hg hg2 h1) _ (by simp only [ByteArray.size_append, sz1]; omega)).mono ?_)
  first | rintro e y1 rfl hb5 | rintro e y1 ⟨rfl, hb5⟩
  replace hb := below_next hb hb5
  clear hb5
  go_wp2_with (go_at_call 13; refine (readQuote_is _ _ _ (wr_qfeed t0 t1 g hg hg2 h1) _ (by simp only [ByteArray.size_append, sz1]; omega)).mono ?_)
  first | rintro e y2 rfl hb5 | rintro e y2 ⟨rfl, hb5⟩
  replace hb := below_next hb hb5
  clear hb5
  go_wp2_with (go_at_call 16; refine (readHelp_is _ _ (wr_bad t0 t1 f false hf hf2 h1 120 (by decide : Esc.dec false 120 = none)) _ (by simp only [ByteArray.size_append, sz2]; omega)).mono ?_)
  first | rintro e y3 rfl hb5 | rintro e y3 ⟨rfl, hb5⟩
  replace hb := below_next hb hb5
  clear hb5
  go_wp2_with (go_at_call 17; refine (readValue_is _ _ (wr_bad t0 t1 g true hg hg2 h1 120 (by decide : Esc.dec true 120 = none)) _ (by simp only [ByteArray.size_append, sz2]; omega)).mono ?_)
  first | rintro e y4 rfl hb5 | rintro e y4 ⟨rfl, hb5⟩
  replace hb := below_next hb hb5
  clear hb5
  go_wp2_with (go_at_call 13; refine (readQuote_is _ _ _ (wr_qbad t0 t1 g hg hg2 h1 120 (by decide : Esc.dec true 120 = none)) _ (by simp only [ByteArray.size_append, sz1, sz2]; omega)).mono ?_)
  first | rintro e y5 rfl hb5 | rintro e y5 ⟨rfl, hb5⟩
  replace hb := below_next hb hb5
  clear hb5
  go_wp2_with (go_at_call 16; refine (readHelp_is _ _ (wr_bad t0 t1 f false hf hf2 h1 34 (by decide)) _ (by simp only [ByteArray.size_append, sz2]; omega)).mono ?_)
  first | rintro e y6 rfl hb5 | rintro e y6 ⟨rfl, hb5⟩
  replace hb := below_next hb hb5
  clear hb5
  go_wp2_with (go_at_call 17; refine (readValue_is _ _ (wr_quote t0 t1 g hg hg2 h1) _ (by simp only [ByteArray.size_append, sz1]; omega)).mono ?_)
  first | rintro e y7 rfl hb5 | rintro e y7 ⟨rfl, hb5⟩
  replace hb := below_next hb hb5
  clear hb5
  go_wp2_with (go_at_call 13; refine (readQuote_is _ _ _ (wr_end g hg2) _ (by omega)).mono ?_)
  first | rintro e y8 rfl hb5 | rintro e y8 ⟨rfl, hb5⟩
  replace hb := below_next hb hb5
  clear hb5
  go_wp2_with (go_at_call 17; refine (readValue_is _ _ (wr_last t0 g hg hg2) _ (by simp only [ByteArray.size_append, sz1]; omega)).mono ?_)
  first | rintro e y9 rfl hb5 | rintro e y9 ⟨rfl, hb5⟩
  replace hb := below_next hb hb5
  clear hb5
  go_wp2
  go_ret
  exact ⟨rfl, hb⟩

set_option maxHeartbeats 1600000 in
set_option maxRecDepth 100000 in
theorem wrong_92 (a0 a1 : ByteArray) (w0 : a0.size ≤ maxLen) (w1 : a1.size ≤ maxLen) (w : World) :
    Calls Try.prog 4 #[.string a0, .string a1, .int .u8 92] w fun e w' => e = .returned (.bool true) ∧ Below w.heap.size w w' := by
  go_enter Try.func4, Try.ntmps4
  go_wp2_with (go_at_call 10; refine (awake_any _).mono ?_)
  rintro e w4 ⟨rfl, hb⟩
  go_wp2_with (go_at_call 11; refine (short_le a0 _ w0).mono ?_)
  rintro e _ ⟨t0, h0, rfl, rfl⟩
  go_wp2_with (go_at_call 11; refine (short_le a1 _ w1).mono ?_)
  rintro e _ ⟨t1, h1, rfl, rfl⟩
  clear w0 w1
  go_wp2_with (go_at_call 14; refine (help_small t0 _ h0).mono ?_)
  rintro e w5 ⟨f, hf, hf2, rfl, hb5⟩
  replace hb := below_next hb hb5
  clear hb5
  go_wp2_with (go_at_call 15; refine (value_small t0 _ h0).mono ?_)
  rintro e w6 ⟨g, hg, hg2, rfl, hb5⟩
  replace hb := below_next hb hb5
  clear hb5
  have hcv := conv_120 w6
  have cn := cat_nil
  have cs := cat_slash 120
  go_wp2_with fail
  replace hb := below_alloc hb (.cells #[.int .u8 120] 5)
  generalize w6.alloc (.cells #[.int .u8 120] 5) = w7 at *
  go_wp2_with (go_at_call 16; refine (readHelp_is _ _ (wr_feed t0 t1 f false hf hf2 h1) _ (by simp only [ByteArray.size_append, sz1]; omega)).mono ?_)
  first | rintro e y0 rfl hb5 | rintro e y0 ⟨rfl, hb5⟩
  replace hb := below_next hb hb5
  clear hb5
  go_wp2_with (go_at_call 17; refine (readValue_is _ _ (wr_feed t0 t1 g true hg hg2 h1) _ (by simp only [ByteArray.size_append, sz1]; omega)).mono ?_)
  first | rintro e y1 rfl hb5 | rintro e y1 ⟨rfl, hb5⟩
  replace hb := below_next hb hb5
  clear hb5
  go_wp2_with (go_at_call 13; refine (readQuote_is _ _ _ (wr_qfeed t0 t1 g hg hg2 h1) _ (by simp only [ByteArray.size_append, sz1]; omega)).mono ?_)
  first | rintro e y2 rfl hb5 | rintro e y2 ⟨rfl, hb5⟩
  replace hb := below_next hb hb5
  clear hb5
  go_wp2_with (go_at_call 16; refine (readHelp_is _ _ (wr_bad t0 t1 f false hf hf2 h1 120 (by decide : Esc.dec false 120 = none)) _ (by simp only [ByteArray.size_append, sz2]; omega)).mono ?_)
  first | rintro e y3 rfl hb5 | rintro e y3 ⟨rfl, hb5⟩
  replace hb := below_next hb hb5
  clear hb5
  go_wp2_with (go_at_call 17; refine (readValue_is _ _ (wr_bad t0 t1 g true hg hg2 h1 120 (by decide : Esc.dec true 120 = none)) _ (by simp only [ByteArray.size_append, sz2]; omega)).mono ?_)
  first | rintro e y4 rfl hb5 | rintro e y4 ⟨rfl, hb5⟩
  replace hb := below_next hb hb5
  clear hb5
  go_wp2_with (go_at_call 13; refine (readQuote_is _ _ _ (wr_qbad t0 t1 g hg hg2 h1 120 (by decide : Esc.dec true 120 = none)) _ (by simp only [ByteArray.size_append, sz1, sz2]; omega)).mono ?_)
  first | rintro e y5 rfl hb5 | rintro e y5 ⟨rfl, hb5⟩
  replace hb := below_next hb hb5
  clear hb5
  go_wp2_with (go_at_call 16; refine (readHelp_is _ _ (wr_bad t0 t1 f false hf hf2 h1 34 (by decide)) _ (by simp only [ByteArray.size_append, sz2]; omega)).mono ?_)
  first | rintro e y6 rfl hb5 | rintro e y6 ⟨rfl, hb5⟩
  replace hb := below_next hb hb5
  clear hb5
  go_wp2_with (go_at_call 17; refine (readValue_is _ _ (wr_quote t0 t1 g hg hg2 h1) _ (by simp only [ByteArray.size_append, sz1]; omega)).mono ?_)
  first | rintro e y7 rfl hb5 | rintro e y7 ⟨rfl, hb5⟩
  replace hb := below_next hb hb5
  clear hb5
  go_wp2_with (go_at_call 13; refine (readQuote_is _ _ _ (wr_end g hg2) _ (by omega)).mono ?_)
  first | rintro e y8 rfl hb5 | rintro e y8 ⟨rfl, hb5⟩
  replace hb := below_next hb hb5
  clear hb5
  go_wp2_with (go_at_call 17; refine (readValue_is _ _ (wr_last t0 g hg hg2) _ (by simp only [ByteArray.size_append, sz1]; omega)).mono ?_)
  first | rintro e y9 rfl hb5 | rintro e y9 ⟨rfl, hb5⟩
  replace hb := below_next hb hb5
  clear hb5
  go_wp2
  go_ret
  exact ⟨rfl, hb⟩

set_option maxHeartbeats 1600000 in
set_option maxRecDepth 100000 in
theorem wrong_34 (a0 a1 : ByteArray) (w0 : a0.size ≤ maxLen) (w1 : a1.size ≤ maxLen) (w : World) :
    Calls Try.prog 4 #[.string a0, .string a1, .int .u8 34] w fun e w' => e = .returned (.bool true) ∧ Below w.heap.size w w' := by
  go_enter Try.func4, Try.ntmps4
  go_wp2_with (go_at_call 10; refine (awake_any _).mono ?_)
  rintro e w4 ⟨rfl, hb⟩
  go_wp2_with (go_at_call 11; refine (short_le a0 _ w0).mono ?_)
  rintro e _ ⟨t0, h0, rfl, rfl⟩
  go_wp2_with (go_at_call 11; refine (short_le a1 _ w1).mono ?_)
  rintro e _ ⟨t1, h1, rfl, rfl⟩
  clear w0 w1
  go_wp2_with (go_at_call 14; refine (help_small t0 _ h0).mono ?_)
  rintro e w5 ⟨f, hf, hf2, rfl, hb5⟩
  replace hb := below_next hb hb5
  clear hb5
  go_wp2_with (go_at_call 15; refine (value_small t0 _ h0).mono ?_)
  rintro e w6 ⟨g, hg, hg2, rfl, hb5⟩
  replace hb := below_next hb hb5
  clear hb5
  have hcv := conv_120 w6
  have cn := cat_nil
  have cs := cat_slash 120
  go_wp2_with fail
  replace hb := below_alloc hb (.cells #[.int .u8 120] 5)
  generalize w6.alloc (.cells #[.int .u8 120] 5) = w7 at *
  go_wp2_with (go_at_call 16; refine (readHelp_is _ _ (wr_feed t0 t1 f false hf hf2 h1) _ (by simp only [ByteArray.size_append, sz1]; omega)).mono ?_)
  first | rintro e y0 rfl hb5 | rintro e y0 ⟨rfl, hb5⟩
  replace hb := below_next hb hb5
  clear hb5
  go_wp2_with (go_at_call 17; refine (readValue_is _ _ (wr_feed t0 t1 g true hg hg2 h1) _ (by simp only [ByteArray.size_append, sz1]; omega)).mono ?_)
  first | rintro e y1 rfl hb5 | rintro e y1 ⟨rfl, hb5⟩
  replace hb := below_next hb hb5
  clear hb5
  go_wp2_with (go_at_call 13; refine (readQuote_is _ _ _ (wr_qfeed t0 t1 g hg hg2 h1) _ (by simp only [ByteArray.size_append, sz1]; omega)).mono ?_)
  first | rintro e y2 rfl hb5 | rintro e y2 ⟨rfl, hb5⟩
  replace hb := below_next hb hb5
  clear hb5
  go_wp2_with (go_at_call 16; refine (readHelp_is _ _ (wr_bad t0 t1 f false hf hf2 h1 120 (by decide : Esc.dec false 120 = none)) _ (by simp only [ByteArray.size_append, sz2]; omega)).mono ?_)
  first | rintro e y3 rfl hb5 | rintro e y3 ⟨rfl, hb5⟩
  replace hb := below_next hb hb5
  clear hb5
  go_wp2_with (go_at_call 17; refine (readValue_is _ _ (wr_bad t0 t1 g true hg hg2 h1 120 (by decide : Esc.dec true 120 = none)) _ (by simp only [ByteArray.size_append, sz2]; omega)).mono ?_)
  first | rintro e y4 rfl hb5 | rintro e y4 ⟨rfl, hb5⟩
  replace hb := below_next hb hb5
  clear hb5
  go_wp2_with (go_at_call 13; refine (readQuote_is _ _ _ (wr_qbad t0 t1 g hg hg2 h1 120 (by decide : Esc.dec true 120 = none)) _ (by simp only [ByteArray.size_append, sz1, sz2]; omega)).mono ?_)
  first | rintro e y5 rfl hb5 | rintro e y5 ⟨rfl, hb5⟩
  replace hb := below_next hb hb5
  clear hb5
  go_wp2_with (go_at_call 16; refine (readHelp_is _ _ (wr_bad t0 t1 f false hf hf2 h1 34 (by decide)) _ (by simp only [ByteArray.size_append, sz2]; omega)).mono ?_)
  first | rintro e y6 rfl hb5 | rintro e y6 ⟨rfl, hb5⟩
  replace hb := below_next hb hb5
  clear hb5
  go_wp2_with (go_at_call 17; refine (readValue_is _ _ (wr_quote t0 t1 g hg hg2 h1) _ (by simp only [ByteArray.size_append, sz1]; omega)).mono ?_)
  first | rintro e y7 rfl hb5 | rintro e y7 ⟨rfl, hb5⟩
  replace hb := below_next hb hb5
  clear hb5
  go_wp2_with (go_at_call 13; refine (readQuote_is _ _ _ (wr_end g hg2) _ (by omega)).mono ?_)
  first | rintro e y8 rfl hb5 | rintro e y8 ⟨rfl, hb5⟩
  replace hb := below_next hb hb5
  clear hb5
  go_wp2_with (go_at_call 17; refine (readValue_is _ _ (wr_last t0 g hg hg2) _ (by simp only [ByteArray.size_append, sz1]; omega)).mono ?_)
  first | rintro e y9 rfl hb5 | rintro e y9 ⟨rfl, hb5⟩
  replace hb := below_next hb hb5
  clear hb5
  go_wp2
  go_ret
  exact ⟨rfl, hb⟩

theorem walk_EscapeWrong (a0 a1 : ByteArray) (a2 : Int) (w0 : a0.size ≤ maxLen) (w1 : a1.size ≤ maxLen) (w2 : (Lit.int .u8 a2).wf = true) (w : World) :
    Calls Try.prog 4 #[.string a0, .string a1, .int .u8 a2] w fun e w' => e = .returned (.bool true) ∧ Below w.heap.size w w' := by
  have hx : 0 ≤ a2 ∧ a2 ≤ 255 := by simpa [Lit.wf, IntKind.min, IntKind.max, IntKind.signed, IntKind.bits] using w2
  obtain ⟨d, rfl⟩ : ∃ d : UInt8, a2 = (d.toNat : Int) := ⟨UInt8.ofNat a2.toNat, by rw [UInt8.toNat_ofNat_of_lt' (by show a2.toNat < 256; omega)]; omega⟩
  by_cases h1 : d = 110
  · subst h1; exact wrong_110 a0 a1 w0 w1 w
  by_cases h2 : d = 92
  · subst h2; exact wrong_92 a0 a1 w0 w1 w
  by_cases h3 : d = 34
  · subst h3; exact wrong_34 a0 a1 w0 w1 w
  exact wrong_plain a0 a1 d ⟨h2, h1, h3⟩ w0 w1 w
end Go.Proofs.Ytnognmgmhhbbiaa
