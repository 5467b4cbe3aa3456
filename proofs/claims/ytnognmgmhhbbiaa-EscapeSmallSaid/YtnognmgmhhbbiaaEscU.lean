/- The walk of tells, and of EscapeTells. -/
import Derived.Test.YtnognmgmhhbbiaaEscT
import Derived.Test.YtnognmgmhhbbiaaEscP5
import Derived.Test.YtnognmgmhhbbiaaEscCounts
namespace Go.Proofs.Ytnognmgmhhbbiaa
open Go.RowKit

theorem data_mk' (l : List UInt8) : (ByteArray.mk l.toArray).data.toList = l := by simp

theorem readVal_ex (v : Bool) (s : ByteArray) (hs : s.size ≤ 65536) : ∃ (x : ByteArray) (e : Int), Hid (readVal v s = .tuple #[.string x, .int .i64 e]) ∧ Hid (outVal2 (Esc.rd v false s.data.toList) = .tuple #[.string x, .int .i64 e]) ∧ 0 ≤ e ∧ e ≤ 300 := by
  have h := Esc.rd_err v false _ s.data.toList (Nat.le_refl _)
  unfold readVal
  rw [if_pos hs]
  cases hr : Esc.rd v false s.data.toList with
  | bad e => rw [hr] at h; exact ⟨_, e, rfl, rfl, by have := h.1; omega, by have := h.2; omega⟩
  | good l n => exact ⟨_, 0, rfl, rfl, by omega, by omega⟩
theorem rq_ex (l : List UInt8) (k : Nat) : ∃ (x : ByteArray) (n e : Int), outVal (Esc.rq l k) = .tuple #[.string x, .int .i64 n, .int .i64 e] ∧ 0 ≤ e ∧ e ≤ 300 := by
  unfold Esc.rq
  cases hd : l.drop k with
  | nil => exact ⟨_, _, _, rfl, by omega, by omega⟩
  | cons c r =>
    simp only
    split
    · have h := Esc.rd_err true true _ r (Nat.le_refl _)
      cases hr : Esc.rd true true r with
      | bad e => rw [hr] at h; exact ⟨_, _, e, rfl, by have := h.1; omega, by have := h.2; omega⟩
      | good x n => exact ⟨_, _, 0, rfl, by omega, by omega⟩
    · exact ⟨_, _, _, rfl, by omega, by omega⟩
theorem quoteVal_ex (s : ByteArray) (at_ : Int) : ∃ (x : ByteArray) (n e : Int), Hid (quoteVal s at_ = .tuple #[.string x, .int .i64 n, .int .i64 e]) ∧ 0 ≤ e ∧ e ≤ 300 := by
  unfold quoteVal
  split
  · split
    · obtain ⟨x, n, e, h, h1, h2⟩ := rq_ex s.data.toList at_.toNat
      exact ⟨x, n, e, h, h1, h2⟩
    · exact ⟨_, _, _, rfl, by omega, by omega⟩
  · exact ⟨_, _, _, rfl, by omega, by omega⟩

section
variable (s a : ByteArray) (w : World) (hs : s.size ≤ 65536)
include hs
theorem help_to (h : Hid (a = ⟨(Esc.form false s.data.toList).toArray⟩)) :
    Calls Try.prog 14 #[.string s] w fun e w' => e = .returned (.tuple #[.string a, .int .i64 0]) ∧ Below w.heap.size w w' :=
  help_is s a (by rw [h.out]) w hs
theorem value_to (h : Hid (a = ⟨(Esc.form true s.data.toList).toArray⟩)) :
    Calls Try.prog 15 #[.string s] w fun e w' => e = .returned (.tuple #[.string a, .int .i64 0]) ∧ Below w.heap.size w w' :=
  value_is s a (by rw [h.out]) w hs
theorem quote_to (h : Hid (a = ⟨(34 :: (Esc.form true s.data.toList ++ [34])).toArray⟩)) :
    Calls Try.prog 12 #[.string s] w fun e w' => e = .returned (.tuple #[.string a, .int .i64 0]) ∧ Below w.heap.size w w' := by
  have e : quoted s = .tuple #[.string a, .int .i64 0] := by unfold quoted; rw [if_pos hs, h.out]
  rw [← e]; exact quote_any s w (by unfold maxLen; omega)
theorem ref0_to (h : Hid (a = ⟨(Esc.form false s.data.toList).toArray⟩)) :
    Calls Try.prog 27 #[.string s, .int .i64 0] w fun e w' => e = .returned (.tuple #[.string a, .int .i64 0]) ∧ Below w.heap.size w w' := by
  rw [h.out]; exact refWrite_0 s w hs
theorem ref1_to (h : Hid (a = ⟨(Esc.form true s.data.toList).toArray⟩)) :
    Calls Try.prog 27 #[.string s, .int .i64 1] w fun e w' => e = .returned (.tuple #[.string a, .int .i64 0]) ∧ Below w.heap.size w w' := by
  rw [h.out]; exact refWrite_1 s w hs
theorem ref2_to (h : Hid (a = ⟨(34 :: (Esc.form true s.data.toList ++ [34])).toArray⟩)) :
    Calls Try.prog 27 #[.string s, .int .i64 2] w fun e w' => e = .returned (.tuple #[.string a, .int .i64 0]) ∧ Below w.heap.size w w' := by
  rw [h.out]; exact refWrite_2 s w hs
theorem readH_to (e : Int) (h : Hid (readVal false s = .tuple #[.string a, .int .i64 e])) :
    Calls Try.prog 16 #[.string s] w fun x w' => x = .returned (.tuple #[.string a, .int .i64 e]) ∧ Below w.heap.size w w' := by
  rw [← h.out]; exact readHelp_any s w (by unfold maxLen; omega)
theorem readV_to (e : Int) (h : Hid (readVal true s = .tuple #[.string a, .int .i64 e])) :
    Calls Try.prog 17 #[.string s] w fun x w' => x = .returned (.tuple #[.string a, .int .i64 e]) ∧ Below w.heap.size w w' := by
  rw [← h.out]; exact readValue_any s w (by unfold maxLen; omega)
theorem refR_to (q : Bool) (e : Int) (h : Hid (outVal2 (Esc.rd q false s.data.toList) = .tuple #[.string a, .int .i64 e])) :
    Calls Try.prog 28 #[.string s, .bool q] w fun x w' => x = .returned (.tuple #[.string a, .int .i64 e]) ∧ Below w.heap.size w w' := by
  rw [← h.out]; exact refRead_any q s w hs
theorem readQ_to (at_ n e : Int) (h : Hid (quoteVal s at_ = .tuple #[.string a, .int .i64 n, .int .i64 e])) :
    Calls Try.prog 13 #[.string s, .int .i64 at_] w fun x w' => x = .returned (.tuple #[.string a, .int .i64 n, .int .i64 e]) ∧ Below w.heap.size w w' := by
  rw [← h.out]; exact readQuote_any s at_ w (by unfold maxLen; omega)
theorem refQ_to (at_ n e : Int) (h : Hid (quoteVal s at_ = .tuple #[.string a, .int .i64 n, .int .i64 e])) :
    Calls Try.prog 29 #[.string s, .int .i64 at_] w fun x w' => x = .returned (.tuple #[.string a, .int .i64 n, .int .i64 e]) ∧ Below w.heap.size w w' := by
  rw [← h.out]; exact refQuote_any s at_ w hs
theorem clean_to (c : Bool) (h : Hid (Esc.clean s.data.toList = c)) :
    Calls Try.prog 18 #[.string s] w fun e w' => e = .returned (.bool c) ∧ w = w' := by
  rw [← h.out]; exact clean_any s w (by unfold maxLen; omega)
theorem refC_to (c : Bool) (h : Hid (Esc.clean s.data.toList = c)) :
    Calls Try.prog 30 #[.string s] w fun e w' => e = .returned (.bool c) ∧ w = w' := by
  rw [← h.out]; exact refClean_any s w (by unfold maxLen; omega)
end

set_option maxHeartbeats 3200000 in
set_option maxRecDepth 100000 in
theorem tells_any (s : ByteArray) (at_ : Int) (w : World) (hm : s.size ≤ maxLen) :
    Calls Try.prog 21 #[.string s, .int .i64 at_] w fun e w' => e = .returned (.bool true) ∧ Below w.heap.size w w' := by
  by_cases hs3 : s.size ≤ 3000
  · have hs : s.size ≤ 65536 := by omega
    obtain ⟨a, ha⟩ : ∃ a : ByteArray, Hid (a = ⟨(Esc.form false s.data.toList).toArray⟩) := ⟨_, rfl⟩
    obtain ⟨b, hb'⟩ : ∃ a : ByteArray, Hid (a = ⟨(Esc.form true s.data.toList).toArray⟩) := ⟨_, rfl⟩
    obtain ⟨c, hc⟩ : ∃ a : ByteArray, Hid (a = ⟨(34 :: (Esc.form true s.data.toList ++ [34])).toArray⟩) := ⟨⟨(34 :: (Esc.form true s.data.toList ++ [34])).toArray⟩, Lib.hid rfl⟩
    obtain ⟨d, e4, hd, hd', hd1, hd2⟩ := readVal_ex false s hs
    obtain ⟨f, e5, hf, hf', hf1, hf2⟩ := readVal_ex true s hs
    obtain ⟨g, n, e6, hg, hg1, hg2⟩ := quoteVal_ex s at_
    obtain ⟨cl, hcl⟩ : ∃ c, Hid (Esc.clean s.data.toList = c) := ⟨_, rfl⟩
    obtain ⟨x, hx⟩ : ∃ x, Hid (esc2 s.data.toList = x) := ⟨_, rfl⟩
    obtain ⟨y, hy⟩ : ∃ y, Hid (esc3 s.data.toList = y) := ⟨_, rfl⟩
    have hla : a.size = s.size + x := by rw [← len_list, ha.out, data_mk', Esc.form_len_help, len_list, ← hx.out]; rfl
    have hlb : b.size = s.size + y := by rw [← len_list, hb'.out, data_mk', Esc.form_len_value, len_list, ← hy.out]; rfl
    have hsa := (Esc.form_le false s.data.toList).2
    have hsb := (Esc.form_le true s.data.toList).2
    have ga1 : a.size ≤ s.size + x := by omega
    have ga2 : s.size + x ≤ a.size := by omega
    have ga3 : x ≤ 6000 := by rw [len_list] at hsa; rw [← len_list a, ha.out, data_mk'] at hla; omega
    have gb1 : b.size ≤ s.size + y := by omega
    have gb2 : s.size + y ≤ b.size := by omega
    have gb3 : y ≤ 6000 := by rw [len_list] at hsb; rw [← len_list b, hb'.out, data_mk'] at hlb; omega
    have hb := Below.refl w.heap.size w
    clear hla hlb hsa hsb hm
    go_enter Try.func21, Try.ntmps21
    go_wp2_with (go_at_call 14; refine (help_to s a _ hs ha).mono ?_)
    first | rintro e z0 rfl hb5 | rintro e z0 ⟨rfl, hb5⟩
    replace hb := below_next hb hb5
    clear hb5
    go_wp2_with (go_at_call 15; refine (value_to s b _ hs hb').mono ?_)
    first | rintro e z1 rfl hb5 | rintro e z1 ⟨rfl, hb5⟩
    replace hb := below_next hb hb5
    clear hb5
    go_wp2_with (go_at_call 12; refine (quote_to s c _ hs hc).mono ?_)
    first | rintro e z2 rfl hb5 | rintro e z2 ⟨rfl, hb5⟩
    replace hb := below_next hb hb5
    clear hb5
    go_wp2_with (go_at_call 16; refine (readH_to s d _ hs e4 hd).mono ?_)
    first | rintro e z3 rfl hb5 | rintro e z3 ⟨rfl, hb5⟩
    replace hb := below_next hb hb5
    clear hb5
    go_wp2_with (go_at_call 17; refine (readV_to s f _ hs e5 hf).mono ?_)
    first | rintro e z4 rfl hb5 | rintro e z4 ⟨rfl, hb5⟩
    replace hb := below_next hb hb5
    clear hb5
    go_wp2_with (go_at_call 13; refine (readQ_to s g _ hs at_ n e6 hg).mono ?_)
    first | rintro e z5 rfl hb5 | rintro e z5 ⟨rfl, hb5⟩
    replace hb := below_next hb hb5
    clear hb5
    go_wp2_with (go_at_call 27; refine (ref0_to s a _ hs ha).mono ?_)
    first | rintro e z6 rfl hb5 | rintro e z6 ⟨rfl, hb5⟩
    replace hb := below_next hb hb5
    clear hb5
    go_wp2_with (go_at_call 27; refine (ref1_to s b _ hs hb').mono ?_)
    first | rintro e z7 rfl hb5 | rintro e z7 ⟨rfl, hb5⟩
    replace hb := below_next hb hb5
    clear hb5
    go_wp2_with (go_at_call 27; refine (ref2_to s c _ hs hc).mono ?_)
    first | rintro e z8 rfl hb5 | rintro e z8 ⟨rfl, hb5⟩
    replace hb := below_next hb hb5
    clear hb5
    go_wp2_with (go_at_call 28; refine (refR_to s d _ hs false e4 hd').mono ?_)
    first | rintro e z9 rfl hb5 | rintro e z9 ⟨rfl, hb5⟩
    replace hb := below_next hb hb5
    clear hb5
    go_wp2_with (go_at_call 28; refine (refR_to s f _ hs true e5 hf').mono ?_)
    first | rintro e z10 rfl hb5 | rintro e z10 ⟨rfl, hb5⟩
    replace hb := below_next hb hb5
    clear hb5
    go_wp2_with (go_at_call 29; refine (refQ_to s g _ hs at_ n e6 hg).mono ?_)
    first | rintro e z11 rfl hb5 | rintro e z11 ⟨rfl, hb5⟩
    replace hb := below_next hb hb5
    clear hb5
    go_wp2_with (go_at_call 20; refine (count_is s x y hx.out hy.out _ hs).mono ?_)
    first | rintro _ _ rfl rfl | rintro _ _ ⟨rfl, rfl⟩
    go_wp2_with (go_at_call 18; refine (clean_to s _ hs cl hcl).mono ?_)
    try first | rintro _ _ rfl rfl | rintro _ _ ⟨rfl, rfl⟩
    go_wp2_with (go_at_call 30; refine (refC_to s _ hs cl hcl).mono ?_)
    try first | rintro _ _ rfl rfl | rintro _ _ ⟨rfl, rfl⟩
    go_wp2
    have ey : ((y : Int) == (b.size : Int) - (s.size : Int)) = true := by simp; omega
    go_ret
    refine ⟨?_, hb⟩
    rw [← ey]; rfl
  · unfold maxLen at hm
    go_enter Try.func21, Try.ntmps21
    go_wp2
    go_ret
    exact ⟨rfl, Below.refl _ _⟩
end Go.Proofs.Ytnognmgmhhbbiaa
