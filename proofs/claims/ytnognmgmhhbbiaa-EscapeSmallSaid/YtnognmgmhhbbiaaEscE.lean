/- Contracts of ReadHelp, ReadValue, ReadQuote. -/
import Derived.Test.YtnognmgmhhbbiaaEscD
import Derived.Test.YtnognmgmhhbbiaaEscP2
namespace Go.Proofs.Ytnognmgmhhbbiaa
open Go.RowKit

def outVal2 : Esc.Out → Value
  | .bad e => .tuple #[.string ⟨#[]⟩, .int .i64 e]
  | .good l _ => .tuple #[.string ⟨l.toArray⟩, .int .i64 0]
def readVal (v : Bool) (s : ByteArray) : Value := if s.size ≤ 65536 then outVal2 (Esc.rd v false s.data.toList) else .tuple #[.string ⟨#[]⟩, .int .i64 3]

set_option maxHeartbeats 400000 in
theorem readHelp_any (s : ByteArray) (w : World) (hm : s.size ≤ maxLen) :
    Calls Try.prog 16 #[.string s] w fun e w' => e = .returned (readVal false s) ∧ Below w.heap.size w w' := by
  unfold maxLen at hm
  unfold readVal
  by_cases hs : s.size ≤ 65536
  · rw [if_pos hs]
    have hr := fun w => read2_any false s w hs
    rcases hrd : Esc.rd false false s.data.toList with e | ⟨l, n⟩
    all_goals
      rw [hrd] at hr
      have HR := Lib.hid hr
      clear hr hrd
      go_enter Try.func16, Try.ntmps16
      go_wp2_with (go_at_call 23; refine (HR.out _).mono ?_)
      rintro e1 w1 ⟨rfl, hb⟩
      first
        | rw [show outVal (.bad e) = .tuple #[.string ⟨#[]⟩, .int .i64 0, .int .i64 e] from rfl]
        | rw [show outVal (.good l n) = .tuple #[.string ⟨l.toArray⟩, .int .i64 n, .int .i64 0] from rfl]
      go_wp2
      go_ret2
      exact ⟨rfl, hb⟩
  · rw [if_neg hs]
    go_enter Try.func16, Try.ntmps16
    go_wp2
    go_ret2
    exact ⟨rfl, Below.refl _ _⟩

set_option maxHeartbeats 400000 in
theorem readValue_any (s : ByteArray) (w : World) (hm : s.size ≤ maxLen) :
    Calls Try.prog 17 #[.string s] w fun e w' => e = .returned (readVal true s) ∧ Below w.heap.size w w' := by
  unfold maxLen at hm
  unfold readVal
  by_cases hs : s.size ≤ 65536
  · rw [if_pos hs]
    have hr := fun w => read3_any false s w hs
    rcases hrd : Esc.rd true false s.data.toList with e | ⟨l, n⟩
    all_goals
      rw [hrd] at hr
      have HR := Lib.hid hr
      clear hr hrd
      go_enter Try.func17, Try.ntmps17
      go_wp2_with (go_at_call 23; refine (HR.out _).mono ?_)
      rintro e1 w1 ⟨rfl, hb⟩
      first
        | rw [show outVal (.bad e) = .tuple #[.string ⟨#[]⟩, .int .i64 0, .int .i64 e] from rfl]
        | rw [show outVal (.good l n) = .tuple #[.string ⟨l.toArray⟩, .int .i64 n, .int .i64 0] from rfl]
      go_wp2
      go_ret2
      exact ⟨rfl, hb⟩
  · rw [if_neg hs]
    go_enter Try.func17, Try.ntmps17
    go_wp2
    go_ret2
    exact ⟨rfl, Below.refl _ _⟩

/-- a quoted form at a place -/
def Esc.rq (l : List UInt8) (k : Nat) : Esc.Out :=
  match l.drop k with
  | [] => .bad 221
  | c :: r => if c = 34 then (match Esc.rd true true r with | .bad e => .bad e | .good x n => .good x (k + 1 + n + 1)) else .bad 221
theorem Esc.rq_end (l : List UInt8) (k : Nat) (h : l.drop k = []) : Esc.rq l k = .bad 221 := by simp [Esc.rq, h]
theorem Esc.rq_not (l : List UInt8) (k : Nat) (c : UInt8) (r : List UInt8) (h : l.drop k = c :: r) (hc : c ≠ 34) : Esc.rq l k = .bad 221 := by simp [Esc.rq, h, hc]
theorem Esc.rq_bad (l : List UInt8) (k : Nat) (r : List UInt8) (e : Int) (h : l.drop k = 34 :: r) (hr : Esc.rd true true r = .bad e) : Esc.rq l k = .bad e := by simp [Esc.rq, h, hr]
theorem Esc.rq_good (l : List UInt8) (k : Nat) (r x : List UInt8) (n : Nat) (h : l.drop k = 34 :: r) (hr : Esc.rd true true r = .good x n) : Esc.rq l k = .good x (k + 1 + n + 1) := by simp [Esc.rq, h, hr]

/-- what ReadQuote gives -/
def quoteVal (s : ByteArray) (at_ : Int) : Value :=
  if s.size ≤ 65536 then (if 0 ≤ at_ ∧ at_ ≤ s.size then outVal (Esc.rq s.data.toList at_.toNat) else .tuple #[.string ⟨#[]⟩, .int .i64 0, .int .i64 2]) else .tuple #[.string ⟨#[]⟩, .int .i64 0, .int .i64 3]

theorem rd_bad_ne (v q : Bool) (l : List UInt8) (e : Int) (h : Esc.rd v q l = .bad e) : (e != 0) = true := by
  have H : e ≠ 0 := by
    have H := Esc.rd_ok v q l.length l (Nat.le_refl _)
    rw [h] at H
    exact H
  simpa using H
theorem rd_good_le (v q : Bool) (l x : List UInt8) (n : Nat) (h : Esc.rd v q l = .good x n) : n ≤ l.length := by
  have H := Esc.rd_ok v q l.length l (Nat.le_refl _)
  rw [h] at H
  exact H.1

set_option maxHeartbeats 800000 in
theorem readQuote_any (s : ByteArray) (at_ : Int) (w : World) (hm : s.size ≤ maxLen) :
    Calls Try.prog 13 #[.string s, .int .i64 at_] w fun e w' => e = .returned (quoteVal s at_) ∧ Below w.heap.size w w' := by
  unfold maxLen at hm
  by_cases hs : s.size ≤ 65536
  · by_cases ha : 0 ≤ at_ ∧ at_ ≤ s.size
    · rw [show quoteVal s at_ = outVal (Esc.rq s.data.toList at_.toNat) from by unfold quoteVal; rw [if_pos hs, if_pos ha]]
      obtain ⟨k, rfl⟩ := Int.eq_ofNat_of_zero_le ha.1
      rw [Int.toNat_natCast]
      have hk : k ≤ s.size := by omega
      clear ha
      by_cases hlt : k < s.size
      · have hd := Lib.hid (Esc.drop_one s k hlt)
        have bk : ((k : Int) == (s.size : Int)) = false := by simp; omega
        by_cases hc : s[k] = 34
        · have bc : ((s[k].toNat : Int) != 34) = false := Esc.bne_no (k := 34) rfl hc
          have H := Lib.hid hc
          clear hc
          have he : (s.extract (k + 1) s.size).data.toList = s.data.toList.drop (k + 1) := by
            rw [Lib.extract_data]
            exact List.take_of_length_le (by rw [List.length_drop, Array.length_toList]; exact Nat.le_refl _)
          have hsz : (s.extract (k + 1) s.size).size ≤ 65536 := by rw [ByteArray.size_extract]; omega
          have hr := read3_any true (s.extract (k + 1) s.size)
          rw [he] at hr
          rcases hrd : Esc.rd true true (s.data.toList.drop (k + 1)) with e | ⟨l, n⟩
          · have hne := rd_bad_ne _ _ _ _ hrd
            have HE := Lib.hid (show Esc.rq s.data.toList k = .bad e from Esc.rq_bad _ _ _ _ (by rw [hd.out, H.out]) hrd)
            rw [hrd] at hr
            have HR := Lib.hid hr
            clear hr hrd he
            go_enter Try.func13, Try.ntmps13
            go_wp2_with (go_at_call 23; refine (HR.out _ hsz).mono ?_)
            rintro e1 w1 ⟨rfl, hb⟩
            rw [show outVal (.bad e) = .tuple #[.string ⟨#[]⟩, .int .i64 0, .int .i64 e] from rfl]
            go_wp2
            go_ret3
            exact ⟨by rw [HE.out]; rfl, hb⟩
          · have hnl := rd_good_le _ _ _ _ _ hrd
            rw [List.length_drop] at hnl
            have hl2 : s.data.toList.length = s.size := by rw [Array.length_toList]; rfl
            have HE := Lib.hid (show Esc.rq s.data.toList k = .good l (k + 1 + n + 1) from Esc.rq_good _ _ _ _ _ (by rw [hd.out, H.out]) hrd)
            rw [hrd] at hr
            have HR := Lib.hid hr
            have hnk : k + 1 + n ≤ s.size := by omega
            clear hr hrd he hl2 hnl
            go_enter Try.func13, Try.ntmps13
            go_wp2_with (go_at_call 23; refine (HR.out _ hsz).mono ?_)
            rintro e1 w1 ⟨rfl, hb⟩
            rw [show outVal (.good l n) = .tuple #[.string ⟨l.toArray⟩, .int .i64 n, .int .i64 0] from rfl]
            go_wp2
            go_ret3
            refine ⟨?_, hb⟩
            rw [HE.out]
            simp [outVal]
        · have bc : ((s[k].toNat : Int) != 34) = true := Esc.bne_yes (k := 34) rfl hc
          have HE := Lib.hid (show Esc.rq s.data.toList k = .bad 221 from Esc.rq_not _ _ _ _ hd.out hc)
          clear hc
          go_enter Try.func13, Try.ntmps13
          go_wp2
          go_ret3
          exact ⟨by rw [HE.out]; rfl, Below.refl _ _⟩
      · have bk : ((k : Int) == (s.size : Int)) = true := by simp; omega
        have HE := Lib.hid (show Esc.rq s.data.toList k = .bad 221 from Esc.rq_end _ _ (List.drop_eq_nil_iff.2 (by simp; omega)))
        go_enter Try.func13, Try.ntmps13
        go_wp2
        go_ret3
        exact ⟨by rw [HE.out]; rfl, Below.refl _ _⟩
    · rw [show quoteVal s at_ = .tuple #[.string ⟨#[]⟩, .int .i64 0, .int .i64 2] from by unfold quoteVal; rw [if_pos hs, if_neg ha]]
      by_cases h0 : at_ < 0
      · go_enter Try.func13, Try.ntmps13
        go_wp2
        go_ret3
        exact ⟨rfl, Below.refl _ _⟩
      · have h1 : (s.size : Int) < at_ := by omega
        go_enter Try.func13, Try.ntmps13
        go_wp2
        go_ret3
        exact ⟨rfl, Below.refl _ _⟩
  · rw [show quoteVal s at_ = .tuple #[.string ⟨#[]⟩, .int .i64 0, .int .i64 3] from by unfold quoteVal; rw [if_neg hs]]
    go_enter Try.func13, Try.ntmps13
    go_wp2
    go_ret3
    exact ⟨rfl, Below.refl _ _⟩
end Go.Proofs.Ytnognmgmhhbbiaa
