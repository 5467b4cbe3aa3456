/- Contracts of canon: Size, Print, Job; short of the law. -/
import Derived.Test.YtpnpgjjbincigaaCanA
import Derived.Test.YtpnpgjjbincigaaHash
namespace Go.Proofs.Ytpnpgjjbincigaa
open Go.RowKit

/-- what Print gives -/
def Can.print (ls : List Lab.L) : Nat × Int := if (Can.bytes ls).2 = 0 then (Can.sum 14695981039346656037 (Can.bytes ls).1, 0) else (0, (Can.bytes ls).2)

def Can.job (l : List UInt8) : Bool := decide (1 ≤ l.length) && decide (l.length ≤ 128) && Utf.valid l
set_option maxHeartbeats 800000 in
theorem cjob_is (s : ByteArray) (b : Bool) (h : Can.job s.data.toList = b) (w : World) (hs : s.size ≤ maxLen) :
    Calls Try.prog 83 #[.string s] w fun e w' => e = .returned (.bool b) ∧ w = w' := by
  have hs' := hs
  unfold maxLen at hs
  unfold Can.job at h
  rw [show s.data.toList.length = s.size from by simp] at h
  by_cases h1 : 1 ≤ s.size
  · by_cases h2 : s.size ≤ 128
    · rw [decide_eq_true h1, decide_eq_true h2, Bool.true_and, Bool.true_and] at h
      have HV := Lib.hid (fun w => valid_is s b h w hs')
      clear h
      go_enter Try.func83, Try.ntmps83
      go_wp2_with (go_at_call 94; refine (HV.out _).mono ?_)
      try rintro e w1 ⟨rfl, rfl⟩
      go_wp2_with fail
      go_ret
      exact ⟨rfl, rfl⟩
    · have hb : b = false := by rw [← h, decide_eq_false h2]; simp
      subst hb
      have h3 : 128 < s.size := by omega
      clear h h2
      go_enter Try.func83, Try.ntmps83
      go_wp2_with fail
      go_ret
      exact ⟨rfl, rfl⟩
  · have hb : b = false := by rw [← h, decide_eq_false h1]; simp
    subst hb
    have h3 : s.size < 1 := by omega
    clear h h1
    go_enter Try.func83, Try.ntmps83
    go_wp2_with fail
    go_ret
    exact ⟨rfl, rfl⟩

/-- what 'short' asks -/
def Can.short (ls : List Lab.L) : Bool := decide (ls.length ≤ 70) && ls.all fun x => decide (x.n.size ≤ 1100) && decide (x.v.size ≤ 1100)
end Go.Proofs.Ytpnpgjjbincigaa
