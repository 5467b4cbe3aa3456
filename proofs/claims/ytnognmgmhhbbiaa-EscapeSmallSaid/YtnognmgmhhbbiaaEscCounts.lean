/- Contract of Count, and the walk of EscapeCounts. -/
import Derived.Test.YtnognmgmhhbbiaaEscG
import Derived.Test.YtnognmgmhhbbiaaEscP4
import Derived.Test.YtnognmgmhhbbiaaStr
namespace Go.Proofs.Ytnognmgmhhbbiaa
open Go.RowKit

theorem count_le (l : List UInt8) (c : UInt8) : l.count c ≤ l.length := List.count_le_length

/-- how many escapes the forms have -/
def esc2 (l : List UInt8) : Nat := l.count 92 + l.count 10
def esc3 (l : List UInt8) : Nat := l.count 92 + l.count 10 + l.count 34

set_option maxHeartbeats 400000 in
theorem count_any (s : ByteArray) (w : World) (hs : s.size ≤ 65536) :
    Calls Try.prog 20 #[.string s] w fun e w' => e = .returned (.tuple #[.int .i64 (esc2 s.data.toList : Nat), .int .i64 (esc3 s.data.toList : Nat)]) ∧ w = w' := by
  have h1 : cntB s 92 ≤ s.size := by have := count_le s.data.toList 92; rw [len_list] at this; exact this
  have h2 : cntB s 10 ≤ s.size := by have := count_le s.data.toList 10; rw [len_list] at this; exact this
  have h3 : cntB s 34 ≤ s.size := by have := count_le s.data.toList 34; rw [len_list] at this; exact this
  go_enter Try.func20, Try.ntmps20
  go_wp2_with (go_at_call 26; refine (count_one s 92 _).mono ?_)
  first | rintro e _ rfl rfl | rintro e _ ⟨rfl, rfl⟩
  go_wp2_with (go_at_call 26; refine (count_one s 10 _).mono ?_)
  first | rintro e _ rfl rfl | rintro e _ ⟨rfl, rfl⟩
  go_wp2_with (go_at_call 26; refine (count_one s 34 _).mono ?_)
  first | rintro e _ rfl rfl | rintro e _ ⟨rfl, rfl⟩
  go_wp2
  go_ret2
  refine ⟨?_, rfl⟩
  have e2 : ((esc2 s.data.toList : Nat) : Int) = (cntB s 92 : Nat) + (cntB s 10 : Nat) := by unfold esc2 cntB; omega
  have e3 : ((esc3 s.data.toList : Nat) : Int) = (cntB s 92 : Nat) + (cntB s 10 : Nat) + (cntB s 34 : Nat) := by unfold esc3 cntB; omega
  rw [e2, e3]; rfl

theorem form_mk (v : Bool) (s f : ByteArray) (hs : s.size ≤ 65536) (h : f.data.toList = Esc.form v s.data.toList) : wrote v s = .tuple #[.string f, .int .i64 0] := by
  unfold wrote
  rw [if_pos hs, ← h, mk_list]
theorem help_is (s f : ByteArray) (h : f.data.toList = Esc.form false s.data.toList) (w : World) (hs : s.size ≤ 65536) :
    Calls Try.prog 14 #[.string s] w fun e w' => e = .returned (.tuple #[.string f, .int .i64 0]) ∧ Below w.heap.size w w' := by
  rw [← form_mk false s f hs h]; exact help_any s w (by unfold maxLen; omega)
theorem value_is (s f : ByteArray) (h : f.data.toList = Esc.form true s.data.toList) (w : World) (hs : s.size ≤ 65536) :
    Calls Try.prog 15 #[.string s] w fun e w' => e = .returned (.tuple #[.string f, .int .i64 0]) ∧ Below w.heap.size w w' := by
  rw [← form_mk true s f hs h]; exact value_any s w (by unfold maxLen; omega)
theorem count_is (s : ByteArray) (x y : Nat) (hx : esc2 s.data.toList = x) (hy : esc3 s.data.toList = y) (w : World) (hs : s.size ≤ 65536) :
    Calls Try.prog 20 #[.string s] w fun e w' => e = .returned (.tuple #[.int .i64 x, .int .i64 y]) ∧ w = w' := by
  rw [← hx, ← hy]; exact count_any s w hs

theorem bytes_beq (a b : ByteArray) : (a.toList == b.toList) = decide (a.data.toList = b.data.toList) := by
  rw [ByteArray.toList_eq, ByteArray.toList_eq]
  rw [Bool.eq_iff_iff]; simp

set_option maxHeartbeats 1600000 in
set_option maxRecDepth 100000 in
theorem walk_EscapeCounts (a0 a1 : ByteArray) (w0 : a0.size ≤ maxLen) (w1 : a1.size ≤ maxLen) (w : World) :
    Calls Try.prog 7 #[.string a0, .string a1] w fun e w' => e = .returned (.bool true) ∧ Below w.heap.size w w' := by
  go_enter Try.func7, Try.ntmps7
  go_wp2_with (go_at_call 10; refine (awake_any _).mono ?_)
  rintro e w4 ⟨rfl, hb⟩
  go_wp2_with (go_at_call 11; refine (short_le a0 _ w0).mono ?_)
  rintro e _ ⟨s, h0, rfl, rfl⟩
  go_wp2_with (go_at_call 11; refine (short_le a1 _ w1).mono ?_)
  rintro e _ ⟨t, h1, rfl, rfl⟩
  clear w0 w1
  go_wp2_with (go_at_call 14; refine (help_small s _ h0).mono ?_)
  first | rintro e y0 a ha ha2 rfl hb5 | rintro e y0 ⟨a, ha, ha2, rfl, hb5⟩
  replace hb := below_next hb hb5
  clear hb5
  go_wp2_with (go_at_call 15; refine (value_small s _ h0).mono ?_)
  first | rintro e y1 b hb' hb2 rfl hb5 | rintro e y1 ⟨b, hb', hb2, rfl, hb5⟩
  replace hb := below_next hb hb5
  clear hb5
  go_wp2_with (go_at_call 14; refine (help_small t _ h1).mono ?_)
  first | rintro e y2 c hc hc2 rfl hb5 | rintro e y2 ⟨c, hc, hc2, rfl, hb5⟩
  replace hb := below_next hb hb5
  clear hb5
  go_wp2_with (go_at_call 15; refine (value_small t _ h1).mono ?_)
  first | rintro e y3 d hd hd2 rfl hb5 | rintro e y3 ⟨d, hd, hd2, rfl, hb5⟩
  replace hb := below_next hb hb5
  clear hb5
  have hac : (a ++ c).data.toList = Esc.form false (s ++ t).data.toList := by rw [list_append, list_append, Esc.form_append, ha.out, hc.out]
  have HAC := Lib.hid hac
  have hbd : (b ++ d).data.toList = Esc.form true (s ++ t).data.toList := by rw [list_append, list_append, Esc.form_append, hb'.out, hd.out]
  have HBD := Lib.hid hbd
  clear hac hbd
  go_wp2_with (go_at_call 14; refine (help_is _ _ HAC.out _ (by simp only [ByteArray.size_append]; omega)).mono ?_)
  first | rintro e y4 rfl hb5 | rintro e y4 ⟨rfl, hb5⟩
  replace hb := below_next hb hb5
  clear hb5
  go_wp2_with (go_at_call 15; refine (value_is _ _ HBD.out _ (by simp only [ByteArray.size_append]; omega)).mono ?_)
  first | rintro e y5 rfl hb5 | rintro e y5 ⟨rfl, hb5⟩
  replace hb := below_next hb hb5
  clear hb5
  obtain ⟨x, hx⟩ : ∃ x, Hid (esc2 s.data.toList = x) := ⟨_, rfl⟩
  obtain ⟨y, hy⟩ : ∃ y, Hid (esc3 s.data.toList = y) := ⟨_, rfl⟩
  have hla : a.size = s.size + x := by rw [← len_list, ha.out, Esc.form_len_help, len_list, ← hx.out]; rfl
  have hlb : b.size = s.size + y := by rw [← len_list, hb'.out, Esc.form_len_value, len_list, ← hy.out]; rfl
  have hxy : x ≤ y := by rw [← hx.out, ← hy.out]; unfold esc2 esc3; omega
  have ga1 : (a.size : Int) ≤ s.size + x := by omega
  have ga2 : (s.size : Int) + x ≤ a.size := by omega
  have gb1 : (b.size : Int) ≤ s.size + y := by omega
  have gb2 : (s.size : Int) + y ≤ b.size := by omega
  have hpa : (a.toList == s.toList) = decide (x = 0) := by
    rw [bytes_beq, ha.out, decide_eq_decide, Esc.form_eq_iff, Esc.form_len_help, ← hx.out]; unfold esc2; omega
  have hpb : (b.toList == s.toList) = decide (y = 0) := by
    rw [bytes_beq, hb'.out, decide_eq_decide, Esc.form_eq_iff, Esc.form_len_value, ← hy.out]; unfold esc3; omega
  have hpx : ((x : Int) == 0) = decide (x = 0) := by rw [Bool.eq_iff_iff]; simp
  have hpy : ((y : Int) == 0) = decide (y = 0) := by rw [Bool.eq_iff_iff]; simp
  generalize decide (x = 0) = p at hpa hpx
  generalize decide (y = 0) = r at hpb hpy
  clear hla hlb
  go_wp2_with (go_at_call 20; refine (count_is s x y hx.out hy.out _ (by omega)).mono ?_)
  first | rintro e _ rfl rfl | rintro e _ ⟨rfl, rfl⟩
  go_wp2
  go_ret
  exact ⟨rfl, hb⟩
end Go.Proofs.Ytnognmgmhhbbiaa
