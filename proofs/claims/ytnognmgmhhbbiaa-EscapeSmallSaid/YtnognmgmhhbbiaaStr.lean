/- Package strings at one byte: Count, Contains. -/
import Derived.Test.YtnognmgmhhbbiaaProg
import Derived.WalkKit
import Derived.WalkSpells
import Derived.WalkLawsBesides
import Derived.Lib.Bytealg
import Derived.Lib.Hide
namespace Go.Proofs.Ytnognmgmhhbbiaa
open Go.RowKit

def cntB (s : ByteArray) (c : UInt8) : Nat := s.data.toList.count c
set_option maxHeartbeats 1000000 in
set_option maxRecDepth 100000 in
theorem count_one (s : ByteArray) (c : UInt8) (w : World) :
    Calls Try.prog 26 #[.string s, .string ⟨#[c]⟩] w fun e w' => e = .returned (.int .i64 (cntB s c : Nat)) ∧ w = w' := by
  go_enter Try.func26, Try.ntmps26
  go_wp2
  rw [run_callFunc_extern Try.func42 (by kernel_rfl) (by kernel_rfl) (by kernel_rfl) (e := Extern.BytealgCount.count) (by kernel_rfl), Lib.run_countString]
  simp only [Result.andThen]
  rw [Oper.upon_value]
  go_wp2
  go_ret
  exact ⟨rfl, rfl⟩

theorem indexByte_none (l : List UInt8) (c : UInt8) (h : c ∉ l) : Lib.indexByte l c = -1 := by
  induction l with
  | nil => rfl
  | cons b l ih =>
    rw [List.mem_cons, not_or] at h
    have hb : (b == c) = false := by simpa using fun e => h.1 e.symm
    simp [Lib.indexByte, hb, ih h.2]
theorem indexByte_some (l : List UInt8) (c : UInt8) (h : c ∈ l) : 0 ≤ Lib.indexByte l c := by
  induction l with
  | nil => cases h
  | cons b l ih =>
    unfold Lib.indexByte
    by_cases hb : b = c
    · simp [hb]
    · have h' : c ∈ l := by rcases List.mem_cons.1 h with e | e; exact absurd e.symm hb; exact e
      have := ih h'
      simp only [beq_iff_eq, if_neg hb]
      split
      · omega
      · omega

set_option maxHeartbeats 1000000 in
set_option maxRecDepth 100000 in
theorem contains_one (s : ByteArray) (c : UInt8) (h : c ∉ s.data.toList) (w : World) :
    Calls Try.prog 19 #[.string s, .string ⟨#[c]⟩] w fun e w' => e = .returned (.bool false) ∧ w = w' := by
  have hi := indexByte_none s.data.toList c h
  have HI := Lib.hid hi
  have hne : ([c] == s.toList) = false := by
    rw [ByteArray.toList_eq]
    simp only [beq_eq_false_iff_ne, ne_eq]
    intro e; rw [← e] at h; simp at h
  clear hi h
  go_enter Try.func19, Try.ntmps19
  go_wp2
  rw [run_callFunc_extern Try.func55 (by kernel_rfl) (by kernel_rfl) (by kernel_rfl) (e := Extern.BytealgIndexByte.indexByte) (by kernel_rfl), Lib.run_indexByteString]
  have HI2 : Lib.indexByte s.data.toList ((((ByteArray.mk #[c])[0]'Nat.zero_lt_one).toNat : Int).toNat.toUInt8) = -1 := by
    show Lib.indexByte s.data.toList ((c.toNat : Int).toNat.toUInt8) = -1
    rw [Int.toNat_natCast, show c.toNat.toUInt8 = c from UInt8.ofNat_toNat]; exact HI.out
  rw [HI2]
  simp only [Result.andThen]
  rw [Oper.upon_value]
  go_wp2
  go_ret
  exact ⟨rfl, rfl⟩
end Go.Proofs.Ytnognmgmhhbbiaa
