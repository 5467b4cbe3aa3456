/- Contracts of the exported functions: Help, Value, Quote, ReadHelp, ReadValue, ReadQuote. -/
import Derived.Test.YtnognmgmhhbbiaaEscC
namespace Go.Proofs.Ytnognmgmhhbbiaa
open Go.RowKit

theorem read2_any (q : Bool) (s : ByteArray) (w : World) (hs : s.size ≤ 65536) :
    Calls Try.prog 23 #[.string s, .int .i64 2, .bool q] w fun e w' => e = .returned (outVal (Esc.rd false q s.data.toList)) ∧ Below w.heap.size w w' := by
  cases q
  · exact read_false false s 2 rfl (by omega) (by omega) w hs
  · exact read_true false s 2 rfl (by omega) (by omega) w hs
theorem read3_any (q : Bool) (s : ByteArray) (w : World) (hs : s.size ≤ 65536) :
    Calls Try.prog 23 #[.string s, .int .i64 3, .bool q] w fun e w' => e = .returned (outVal (Esc.rd true q s.data.toList)) ∧ Below w.heap.size w w' := by
  cases q
  · exact read_false true s 3 rfl (by omega) (by omega) w hs
  · exact read_true true s 3 rfl (by omega) (by omega) w hs

def str (l : List UInt8) : Value := .string ⟨l.toArray⟩

/-- what Help, Value give -/
def wrote (v : Bool) (s : ByteArray) : Value :=
  if s.size ≤ 65536 then .tuple #[.string ⟨(Esc.form v s.data.toList).toArray⟩, .int .i64 0] else .tuple #[.string ⟨#[]⟩, .int .i64 3]

set_option maxHeartbeats 400000 in
theorem help_any (s : ByteArray) (w : World) (hm : s.size ≤ maxLen) :
    Calls Try.prog 14 #[.string s] w fun e w' => e = .returned (wrote false s) ∧ Below w.heap.size w w' := by
  unfold wrote
  by_cases hs : s.size ≤ 65536
  · rw [if_pos hs]
    go_enter Try.func14, Try.ntmps14
    go_wp2_with (go_at_call 24; refine (write_any false _ _ hs).mono ?_)
    rintro e w1 ⟨rfl, hb⟩
    go_wp2
    go_ret2
    exact ⟨rfl, hb⟩
  · rw [if_neg hs]
    go_enter Try.func14, Try.ntmps14
    go_wp2_with (go_at_call 24; refine (write_long _ _ _ (by omega) hm).mono ?_)
    rintro e w1 ⟨rfl, hb⟩
    go_wp2
    go_ret2
    exact ⟨rfl, hb⟩

set_option maxHeartbeats 400000 in
theorem value_any (s : ByteArray) (w : World) (hm : s.size ≤ maxLen) :
    Calls Try.prog 15 #[.string s] w fun e w' => e = .returned (wrote true s) ∧ Below w.heap.size w w' := by
  unfold wrote
  by_cases hs : s.size ≤ 65536
  · rw [if_pos hs]
    go_enter Try.func15, Try.ntmps15
    go_wp2_with (go_at_call 24; refine (write_any true _ _ hs).mono ?_)
    rintro e w1 ⟨rfl, hb⟩
    go_wp2
    go_ret2
    exact ⟨rfl, hb⟩
  · rw [if_neg hs]
    go_enter Try.func15, Try.ntmps15
    go_wp2_with (go_at_call 24; refine (write_long _ _ _ (by omega) hm).mono ?_)
    rintro e w1 ⟨rfl, hb⟩
    go_wp2
    go_ret2
    exact ⟨rfl, hb⟩

/-- what Quote gives -/
def quoted (s : ByteArray) : Value :=
  if s.size ≤ 65536 then .tuple #[.string ⟨(34 :: (Esc.form true s.data.toList ++ [34])).toArray⟩, .int .i64 0] else .tuple #[.string ⟨#[]⟩, .int .i64 3]

set_option maxHeartbeats 400000 in
theorem quote_any (s : ByteArray) (w : World) (hm : s.size ≤ maxLen) :
    Calls Try.prog 12 #[.string s] w fun e w' => e = .returned (quoted s) ∧ Below w.heap.size w w' := by
  unfold quoted
  have hv := value_any s w hm
  unfold wrote at hv
  by_cases hs : s.size ≤ 65536
  · rw [if_pos hs]
    rw [if_pos hs] at hv
    have HV := Lib.hid hv
    clear hv
    have hl := (Esc.form_le true s.data.toList).2
    have hl2 : s.data.toList.length = s.size := by rw [Array.length_toList]; rfl
    have hl3 : (Esc.form true s.data.toList).length ≤ 131072 := by omega
    clear hl hl2
    go_enter Try.func12, Try.ntmps12
    go_wp2_with (go_at_call 15; refine HV.out.mono ?_)
    rintro e w1 ⟨rfl, hb⟩
    go_wp2
    go_ret2
    refine ⟨?_, hb⟩
    have e1 : (ByteArray.mk #[34] ++ ByteArray.mk (Esc.form true s.data.toList).toArray ++ ByteArray.mk #[34]) = ByteArray.mk (34 :: (Esc.form true s.data.toList ++ [34])).toArray := by
      have h1 : ByteArray.mk #[34] = ByteArray.mk [34].toArray := rfl
      rw [h1, ByteArray.mk_append_mk, ByteArray.mk_append_mk]; rfl
    rw [← e1]; rfl
  · rw [if_neg hs]
    rw [if_neg hs] at hv
    have HV := Lib.hid hv
    clear hv
    go_enter Try.func12, Try.ntmps12
    go_wp2_with (go_at_call 15; refine HV.out.mono ?_)
    rintro e w1 ⟨rfl, hb⟩
    go_wp2
    go_ret2
    exact ⟨rfl, hb⟩

end Go.Proofs.Ytnognmgmhhbbiaa
