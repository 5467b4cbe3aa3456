/- The callees' contracts at short strings. -/
import Derived.Test.YtnognmgmhhbbiaaEscF
import Derived.Test.YtnognmgmhhbbiaaEscP3
namespace Go.Proofs.Ytnognmgmhhbbiaa
open Go.RowKit

theorem len_list (s : ByteArray) : s.data.toList.length = s.size := by rw [Array.length_toList]; rfl
theorem mk_list (s : ByteArray) : (⟨s.data.toList.toArray⟩ : ByteArray) = s := by simp
theorem list_append (a b : ByteArray) : (a ++ b).data.toList = a.data.toList ++ b.data.toList := by simp [ByteArray.data_append]

theorem short_le (s : ByteArray) (w : World) (hs : s.size ≤ maxLen) :
    Calls Try.prog 11 #[.string s] w fun e w' => ∃ t : ByteArray, t.size ≤ 1000 ∧ e = .returned (.string t) ∧ w = w' := by
  refine (short_any s w hs).mono ?_
  rintro e w' ⟨rfl, rfl⟩
  exact ⟨_, by rw [ByteArray.size_extract]; omega, rfl, rfl⟩

theorem quote_small (s : ByteArray) (w : World) (hs : s.size ≤ 1000) :
    Calls Try.prog 12 #[.string s] w fun e w' => ∃ q : ByteArray, Hid (q.data.toList = 34 :: (Esc.form true s.data.toList ++ [34])) ∧ 2 ≤ q.size ∧ q.size ≤ 2002 ∧ e = .returned (.tuple #[.string q, .int .i64 0]) ∧ Below w.heap.size w w' := by
  refine (quote_any s w (by unfold maxLen; omega)).mono ?_
  rintro e w' ⟨rfl, hb⟩
  have hf := (Esc.form_le true s.data.toList).2
  rw [len_list] at hf
  have hq : (ByteArray.mk (34 :: (Esc.form true s.data.toList ++ [34])).toArray).size = (Esc.form true s.data.toList).length + 2 := by
    show (34 :: (Esc.form true s.data.toList ++ [34])).toArray.size = _
    simp
  refine ⟨⟨(34 :: (Esc.form true s.data.toList ++ [34])).toArray⟩, by simp [Hid], by omega, by omega, ?_, hb⟩
  unfold quoted
  rw [if_pos (by omega)]

theorem form_small (v : Bool) (s : ByteArray) (hs : s.size ≤ 1000) : ∃ f : ByteArray, wrote v s = .tuple #[.string f, .int .i64 0] ∧ Hid (f.data.toList = Esc.form v s.data.toList) ∧ f.size ≤ 2000 := by
  have hf := (Esc.form_le v s.data.toList).2
  rw [len_list] at hf
  refine ⟨⟨(Esc.form v s.data.toList).toArray⟩, ?_, by simp [Hid], ?_⟩
  · unfold wrote; rw [if_pos (by omega)]
  · show (Esc.form v s.data.toList).toArray.size ≤ 2000
    simp; omega
theorem help_small (s : ByteArray) (w : World) (hs : s.size ≤ 1000) :
    Calls Try.prog 14 #[.string s] w fun e w' => ∃ f : ByteArray, Hid (f.data.toList = Esc.form false s.data.toList) ∧ f.size ≤ 2000 ∧ e = .returned (.tuple #[.string f, .int .i64 0]) ∧ Below w.heap.size w w' := by
  refine (help_any s w (by unfold maxLen; omega)).mono ?_
  rintro e w' ⟨rfl, hb⟩
  obtain ⟨f, h1, h2, h3⟩ := form_small false s hs
  exact ⟨f, h2, h3, by rw [h1], hb⟩
theorem value_small (s : ByteArray) (w : World) (hs : s.size ≤ 1000) :
    Calls Try.prog 15 #[.string s] w fun e w' => ∃ f : ByteArray, Hid (f.data.toList = Esc.form true s.data.toList) ∧ f.size ≤ 2000 ∧ e = .returned (.tuple #[.string f, .int .i64 0]) ∧ Below w.heap.size w w' := by
  refine (value_any s w (by unfold maxLen; omega)).mono ?_
  rintro e w' ⟨rfl, hb⟩
  obtain ⟨f, h1, h2, h3⟩ := form_small true s hs
  exact ⟨f, h2, h3, by rw [h1], hb⟩

theorem readQuote_is (s : ByteArray) (at_ : Int) (v : Value) (h : quoteVal s at_ = v) (w : World) (hm : s.size ≤ 65536) :
    Calls Try.prog 13 #[.string s, .int .i64 at_] w fun e w' => e = .returned v ∧ Below w.heap.size w w' := by
  rw [← h]; exact readQuote_any s at_ w (by unfold maxLen; omega)
theorem readHelp_is (s : ByteArray) (v : Value) (h : readVal false s = v) (w : World) (hm : s.size ≤ 65536) :
    Calls Try.prog 16 #[.string s] w fun e w' => e = .returned v ∧ Below w.heap.size w w' := by
  rw [← h]; exact readHelp_any s w (by unfold maxLen; omega)
theorem readValue_is (s : ByteArray) (v : Value) (h : readVal true s = v) (w : World) (hm : s.size ≤ 65536) :
    Calls Try.prog 17 #[.string s] w fun e w' => e = .returned v ∧ Below w.heap.size w w' := by
  rw [← h]; exact readValue_any s w (by unfold maxLen; omega)

theorem drop_pre (a b : ByteArray) : (a ++ b).data.toList.drop a.size = b.data.toList := by
  rw [list_append, ← len_list a, List.drop_left]
end Go.Proofs.Ytnognmgmhhbbiaa
