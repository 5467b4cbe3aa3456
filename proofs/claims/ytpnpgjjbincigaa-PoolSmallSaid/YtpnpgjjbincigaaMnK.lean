/- The keys of many targets (two minutes in the kernel). -/
import Derived.Test.YtpnpgjjbincigaaPoH
namespace Go.Proofs.Ytpnpgjjbincigaa
open Go.RowKit
set_option linter.unusedVariables false

/-- the digits of a number -/
def Mny.dg (i : Nat) : ByteArray := ⟨#[UInt8.ofNat (48 + i / 1000 % 10), UInt8.ofNat (48 + i / 100 % 10), UInt8.ofNat (48 + i / 10 % 10), UInt8.ofNat (48 + i % 10)]⟩
/-- one of the targets -/
def Mny.u (i : Nat) : Po.U := (⟨#[106]⟩, [⟨⟨#[97]⟩, Mny.dg i⟩])
theorem Mny.ok (i : Nat) : Po.okU (Mny.u i) := by
  refine ⟨(by show 1 ≤ 1000; decide), fun x hx => ?_, (by show 1 ≤ 1000; decide)⟩
  have hx' : x ∈ [(⟨⟨#[97]⟩, Mny.dg i⟩ : Lab.L)] := hx
  rw [List.mem_singleton] at hx'
  subst hx'
  exact ⟨(by show 1 ≤ 2000; decide), (by show 4 ≤ 2000; decide)⟩
set_option maxRecDepth 100000 in
theorem Mny.ke (i : Nat) (hi : i < 3001) : Po.ke (Mny.u i) = 0 := by
  have : ∀ m : Fin 3001, Po.ke (Mny.u m) = 0 := by decide +kernel
  exact this ⟨i, hi⟩
set_option maxRecDepth 100000 in
theorem Mny.lt1 (i : Nat) (hi : i < 3000) : Po.ky (Mny.u i) < Po.ky (Mny.u (i + 1)) := by
  have : ∀ m : Fin 3000, Po.ky (Mny.u m) < Po.ky (Mny.u (m + 1)) := by decide +kernel
  exact this ⟨i, hi⟩
theorem Mny.lt (i j : Nat) (hij : i < j) (hj : j < 3001) : Po.ky (Mny.u i) < Po.ky (Mny.u j) := by
  induction j with
  | zero => omega
  | succ j ih =>
    by_cases h : i = j
    · subst h; exact Mny.lt1 i (by omega)
    · exact List.lt_trans (ih (by omega) (by omega)) (Mny.lt1 j (by omega))
end Go.Proofs.Ytpnpgjjbincigaa
