/- Contracts of utf8.ValidString in the chapter's own words, and of json.Number. -/
import Derived.Test.YtmmijebekipdeaaDoorJsU
import Derived.Test.YtmmijebekipdeaaDoorJsN
import Derived.Test.YtmmijebekipdeaaDoorShelfU
import Derived.Lib.ValidLaws
namespace Go.Proofs.YtmmijebekipdeaaDoor
open Go.RowKit
set_option maxRecDepth 100000

theorem Js.decodeL_drop (s : ByteArray) (i : Nat) (h : i < s.size) : Lib.decodeL (s.data.toList.drop i) = Utf8.decode s i := by
  have h9 := Lib.decodeGo_extract s i h
  unfold Lib.decodeGo at h9
  have hz : (s.extract i s.size).size ≠ 0 := by rw [ByteArray.size_extract]; omega
  rw [if_neg hz] at h9
  rw [← h9]
  unfold Lib.decodeL
  congr 1
  apply ByteArray.ext
  rw [ByteArray.data_extract]
  apply Array.toList_inj.1
  simp
  rw [List.take_of_length_le (by simp)]
theorem Js.valid_bad (s : ByteArray) : ∀ f i, s.size ≤ f + i → Lib.validD (s.data.toList.drop i) = (Js.badF s f i).isNone
  | 0, i, h => by
    rw [List.drop_eq_nil_of_le (by simpa using h), Lib.validD_nil]
    rfl
  | f + 1, i, h => by
    rw [Js.badF]
    by_cases hi : s.size ≤ i
    · rw [if_pos hi, List.drop_eq_nil_of_le (by simpa using hi), Lib.validD_nil]
      rfl
    · rw [if_neg hi]
      have hne : s.data.toList.drop i ≠ [] := fun e => by
        have := congrArg List.length e
        simp at this
        omega
      rw [Lib.validD_step _ hne, Js.decodeL_drop s i (by omega)]
      obtain ⟨h0, h1⟩ := Js.decode_rune s i
      by_cases hr : Js.rune s i = 0
      · rw [if_pos hr, h0 hr, if_pos ⟨rfl, rfl⟩]
        rfl
      · obtain ⟨h2, h3⟩ := h1 hr
        rw [if_neg hr, if_neg (fun hh => by have := h3 hh.1; omega), h2, List.drop_drop]
        exact Js.valid_bad s f (i + Js.rune s i) (by omega)
theorem Js.validString_is (s : ByteArray) (w : World) (hs : s.size ≤ maxLen) (hT : Lib.Utf8Tabs 0 1 w) :
    Calls Tryd.prog 26 #[.string s] w fun e w' => e = .returned (.bool (Js.bad8 s).isNone) ∧ Below w.heap.size w w' := by
  have h9 : Calls Tryd.prog 26 #[.string s] w _ := Any.utf8_ValidString Tryd.laysValid s w (by unfold maxLen at hs; omega) hT
  have e : Lib.validD s.data.toList = (Js.bad8 s).isNone := by
    have := Js.valid_bad s s.size 0 (by omega)
    rw [List.drop_zero] at this
    exact this
  rw [e] at h9
  exact h9

/-- a string that is a number -/
def Js.isNum (s : ByteArray) : Bool := (Js.num s 0).2 && ((Js.num s 0).1 == s.size) && decide (0 < s.size)
set_option maxHeartbeats 2000000 in
theorem Js.jnumber_is (s : ByteArray) (w : World) (hs : s.size ≤ 1000000) :
    Calls Tryd.prog 43 #[.string s] w fun e w' => e = .returned (.bool (Js.isNum s)) ∧ Below w.heap.size w w' := by
  have HM := Lib.hid (fun w' (h : w'.heap[w.heap.size]? = some (Js.obj s 0 0 0)) => Js.number_is w.heap.size s 0 0 0 w' h (Nat.zero_le _) hs)
  obtain ⟨B, hB⟩ : ∃ B, Js.isNum s = B := ⟨_, rfl⟩
  rw [hB]
  unfold Js.isNum at hB
  obtain ⟨N, hN⟩ : ∃ N, Js.num s 0 = N := ⟨_, rfl⟩
  rw [hN] at HM hB
  clear hN
  obtain ⟨n, ok⟩ := N
  have HR : Hid ((w.alloc (.cells #[.string s, .int .i64 0, .int .i64 0, .int .i64 0] 89)).heap[w.heap.size]? = some (Js.obj s 0 0 0)) := alloc_new _ _
  have HW : Hid (Below w.heap.size w (w.alloc (.cells #[.string s, .int .i64 0, .int .i64 0, .int .i64 0] 89))) := (Below.refl _ w).alloc (Nat.le_refl _) _
  have HB := Lib.hid hB
  clear hB
  cases ok with
  | false =>
    have HE : Hid (B = false) := by have h9 : _ = B := HB.out; rw [← h9]; rfl
    clear HB
    go_enter Tryd.func43, Tryd.ntmps43
    go_wp2_with (go_at_call 77; refine (HM.out _ HR.out).mono ?_)
    first | rintro e w2 rfl b2 | rintro e w2 ⟨rfl, b2⟩
    have HB2 : Hid (Below w.heap.size w w2) := HW.out.trans (b2.mono (by simp))
    clear HM HR HW b2
    go_wp2
    go_ret
    obtain rfl : B = false := HE.out
    exact ⟨by first | rfl | simp, HB2.out⟩
  | true =>
    go_enter Tryd.func43, Tryd.ntmps43
    go_wp2_with (go_at_call 77; refine (HM.out _ HR.out).mono ?_)
    first | rintro e w2 rfl b2 | rintro e w2 ⟨rfl, b2⟩
    have HB2 : Hid (Below w.heap.size w w2) := HW.out.trans (b2.mono (by simp))
    clear HM HR HW b2
    by_cases h1 : n = s.size
    · have b1 : ((n : Int) == (s.size : Int)) = true := Js.beq_t (by omega)
      have HE : Hid (B = decide (0 < n)) := by have h9 : _ = B := HB.out; rw [← h9, h1]; show _ = _; simp
      clear h1 HB
      go_wp2
      go_ret
      obtain rfl : B = decide (0 < n) := HE.out
      exact ⟨by first | rfl | simp, HB2.out⟩
    · have b1 : ((n : Int) == (s.size : Int)) = false := Js.beq_f (by omega)
      have HE : Hid (B = false) := by have h9 : _ = B := HB.out; rw [← h9]; show _ = _; simp [h1]
      clear h1 HB
      go_wp2
      go_ret
      obtain rfl : B = false := HE.out
      exact ⟨by first | rfl | simp, HB2.out⟩
end Go.Proofs.YtmmijebekipdeaaDoor
