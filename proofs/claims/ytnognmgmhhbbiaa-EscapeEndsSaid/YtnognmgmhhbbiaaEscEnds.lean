/- The walk of EscapeEnds. -/
import Derived.Test.YtnognmgmhhbbiaaEscG
namespace Go.Proofs.Ytnognmgmhhbbiaa
open Go.RowKit

theorem ends_one (a s q b : ByteArray) (ha : a.size ≤ 1000) (hq : Hid (q.data.toList = 34 :: (Esc.form true s.data.toList ++ [34]))) (hq2 : q.size ≤ 2002) (hb : b.size ≤ 1000) :
    quoteVal (a ++ q ++ b) a.size = .tuple #[.string s, .int .i64 ((a.size : Int) + q.size), .int .i64 0] := by
  have hl : q.size = (Esc.form true s.data.toList).length + 2 := by rw [← len_list, hq.out]; simp
  unfold quoteVal
  rw [if_pos (by simp; omega), if_pos (by simp; omega), Int.toNat_natCast, ByteArray.append_assoc]
  have hd := drop_pre a (q ++ b)
  rw [list_append q b, hq.out, List.cons_append, List.append_assoc, List.singleton_append] at hd
  rw [Esc.rq_good _ _ _ _ _ hd (Esc.rd_quoted s.data.toList b.data.toList)]
  unfold outVal
  simp only
  have e1 : ((a.size + 1 + (Esc.form true s.data.toList).length + 1 : Nat) : Int) = (a.size : Int) + q.size := by omega
  rw [e1, mk_list]
theorem ends_two (a s q : ByteArray) (k : Nat) (ha : a.size ≤ 1000) (hq : Hid (q.data.toList = 34 :: (Esc.form true s.data.toList ++ [34]))) (hq2 : q.size ≤ 2002) (hk1 : 1 ≤ k) (hk2 : k + 1 ≤ q.size) :
    quoteVal (a ++ q.extract 0 k) a.size = .tuple #[.string ⟨#[]⟩, .int .i64 0, .int .i64 222] := by
  have hl : q.size = (Esc.form true s.data.toList).length + 2 := by rw [← len_list, hq.out]; simp
  obtain ⟨j, rfl⟩ : ∃ j, k = j + 1 := ⟨k - 1, by omega⟩
  unfold quoteVal
  rw [if_pos (by simp [ByteArray.size_extract]; omega), if_pos (by simp; omega), Int.toNat_natCast]
  have hd := drop_pre a (q.extract 0 (j + 1))
  rw [Lib.extract_data, List.drop_zero, Nat.sub_zero, hq.out, List.take_succ_cons, List.take_append_of_le_length (by omega)] at hd
  rw [Esc.rq_bad _ _ _ _ hd (Esc.rd_cut s.data.toList j)]
  rfl

set_option maxHeartbeats 1600000 in
set_option maxRecDepth 100000 in
theorem walk_EscapeEnds (a0 a1 a2 : ByteArray) (a3 : Int) (w0 : a0.size ≤ maxLen) (w1 : a1.size ≤ maxLen) (w2 : a2.size ≤ maxLen) (w3 : (Lit.int .u16 a3).wf = true) (w : World) :
    Calls Try.prog 3 #[.string a0, .string a1, .string a2, .int .u16 a3] w fun e w' => e = .returned (.bool true) ∧ Below w.heap.size w w' := by
  have hx : 0 ≤ a3 ∧ a3 ≤ 65535 := by simpa [Lit.wf, IntKind.min, IntKind.max, IntKind.signed, IntKind.bits] using w3
  obtain ⟨hx0, hx1⟩ := hx
  clear w3
  go_enter Try.func3, Try.ntmps3
  go_wp2_with (go_at_call 10; refine (awake_any _).mono ?_)
  rintro e w4 ⟨rfl, hb⟩
  go_wp2_with (go_at_call 11; refine (short_le a0 _ w0).mono ?_)
  rintro e _ ⟨t0, h0, rfl, rfl⟩
  go_wp2_with (go_at_call 11; refine (short_le a1 _ w1).mono ?_)
  rintro e _ ⟨t1, h1, rfl, rfl⟩
  go_wp2_with (go_at_call 11; refine (short_le a2 _ w2).mono ?_)
  rintro e _ ⟨t2, h2, rfl, rfl⟩
  clear w0 w1 w2
  go_wp2_with (go_at_call 12; refine (quote_small t1 _ h1).mono ?_)
  rintro e w5 ⟨q, hq, hq1, hq2, rfl, hb5⟩
  replace hb := below_next hb hb5
  clear hb5
  go_wp2_with (go_at_call 13; refine (readQuote_is _ _ _ (ends_one t0 t1 q t2 h0 hq hq2 h2) _ (by simp; omega)).mono ?_)
  rintro e w6 ⟨rfl, hb6⟩
  replace hb := below_next hb hb6
  clear hb6
  have m0 : 0 ≤ a3 % ((q.size : Int) - 1) := Int.emod_nonneg _ (by omega)
  have m1 : a3 % ((q.size : Int) - 1) ≤ (q.size : Int) - 2 := by have := Int.emod_lt_of_pos a3 (show (0 : Int) < (q.size : Int) - 1 by omega); omega
  go_wp2_with (go_at_call 13; refine (readQuote_is _ _ _ (ends_two t0 t1 q _ h0 hq hq2 (by omega) (by omega)) _ (by simp [ByteArray.size_extract]; omega)).mono ?_)
  rintro e w7 ⟨rfl, hb7⟩
  replace hb := below_next hb hb7
  clear hb7
  go_wp2
  go_ret
  exact ⟨rfl, hb⟩
end Go.Proofs.Ytnognmgmhhbbiaa
