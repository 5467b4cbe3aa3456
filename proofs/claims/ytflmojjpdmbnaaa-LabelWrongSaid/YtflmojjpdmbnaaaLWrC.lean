/- The closures of LabelWrong: labels that are not right are rejected by all functions. (Printed by gen_wrc.py.) -/
import Derived.Test.YtflmojjpdmbnaaaLWrP
namespace Go.Proofs.Ytflmojjpdmbnaaa
open Go.RowKit
/-- nothing comes out, and the error of labels that are not right -/
def WrOut (w : World) (e : Ending) (w' : World) : Prop := (∃ (p : Option Addr) (c : Nat), e = .returned (.tuple #[.slice p 0 c, .int .i64 44])) ∧ Below w.heap.size w w'
set_option maxHeartbeats 1600000 in
theorem wr1_is (X : Nat) (p : Option Addr) (ls : List Lab.L) (n c : Nat) (w : World) (h : Lab.right ls = false) (hn : ls.length = n) (hA : Lab.At p ls w) (hF : Lab.Fit maxLen ls) (hl : n ≤ 10000) (hc : w.cell? ⟨X, 0, none⟩ = some (.slice p n c)) :
    Calls Try.prog 32 #[.pointer (some ⟨X, 0, none⟩)] w (WrOut w) := by
  have hs : Lab.set ls [] = ([], 44) := by unfold Lab.set; rw [h]; rfl
  have HS := Lib.hid (opened (n := 0) rfl (lset_is p none ls [] n c 0 0 [] 44 hs w hn rfl hA (.inl rfl) hF (fun x hx => by simp at hx) hl (by omega)))
  clear hs h hn hA hF
  go_enter Try.func32, Try.ntmps32
  go_wp2_with (go_at_call 22; refine HS.out.mono ?_)
  first | rintro e w1 p1 c1 rfl hA1 hb1 | rintro e w1 ⟨⟨p1, c1, rfl, hA1⟩, hb1⟩
  clear hA1
  go_wp2_with fail
  go_ret2
  exact ⟨⟨p1, c1, rfl⟩, hb1⟩
set_option maxHeartbeats 1600000 in
theorem wr2_is (X : Nat) (p : Option Addr) (ls : List Lab.L) (n c : Nat) (w : World) (h : Lab.right ls = false) (hn : ls.length = n) (hA : Lab.At p ls w) (hF : Lab.Fit maxLen ls) (hl : n ≤ 10000) (hc : w.cell? ⟨X, 0, none⟩ = some (.slice p n c)) (pa : Option Addr) (A : List Lab.L) (la ca Y : Nat) (hla : A.length = la) (hB : Lab.At pa A w) (hG : Lab.Fit maxLen A) (hl2 : la ≤ 10000) (hcY : w.cell? ⟨Y, 0, none⟩ = some (.slice pa la ca)) :
    Calls Try.prog 33 #[.pointer (some ⟨Y, 0, none⟩), .pointer (some ⟨X, 0, none⟩)] w (WrOut w) := by
  have hs : Lab.merge A ls = ([], 44) := by unfold Lab.merge; rw [h, Bool.and_false]; rfl
  have HS := Lib.hid (opened (n := 0) rfl (lmerge_is pa p A ls la ca n c [] 44 hs w hla hn hB hA hG hF hl2 hl))
  clear hs h hn hA hF hla hB hG
  go_enter Try.func33, Try.ntmps33
  go_wp2_with (go_at_call 21; refine HS.out.mono ?_)
  first | rintro e w1 p1 c1 rfl hA1 hb1 | rintro e w1 ⟨⟨p1, c1, rfl, hA1⟩, hb1⟩
  clear hA1
  go_wp2_with fail
  go_ret2
  exact ⟨⟨p1, c1, rfl⟩, hb1⟩
set_option maxHeartbeats 1600000 in
theorem wr3_is (X : Nat) (p : Option Addr) (ls : List Lab.L) (n c : Nat) (w : World) (h : Lab.right ls = false) (hn : ls.length = n) (hA : Lab.At p ls w) (hF : Lab.Fit maxLen ls) (hl : n ≤ 10000) (hc : w.cell? ⟨X, 0, none⟩ = some (.slice p n c)) (pa : Option Addr) (A : List Lab.L) (la ca Y : Nat) (hla : A.length = la) (hB : Lab.At pa A w) (hG : Lab.Fit maxLen A) (hl2 : la ≤ 10000) (hcY : w.cell? ⟨Y, 0, none⟩ = some (.slice pa la ca)) :
    Calls Try.prog 34 #[.pointer (some ⟨X, 0, none⟩), .pointer (some ⟨Y, 0, none⟩)] w (WrOut w) := by
  have hs : Lab.export ls A = ([], 44) := by unfold Lab.export; rw [h, Bool.false_and]; rfl
  have HS := Lib.hid (opened (n := 0) rfl (lexport_is p pa ls A n c la ca [] 44 hs w hn hla hA hB hF hG hl hl2))
  clear hs h hn hA hF hla hB hG
  go_enter Try.func34, Try.ntmps34
  go_wp2_with (go_at_call 23; refine HS.out.mono ?_)
  first | rintro e w1 p1 c1 rfl hA1 hb1 | rintro e w1 ⟨⟨p1, c1, rfl, hA1⟩, hb1⟩
  clear hA1
  go_wp2_with fail
  go_ret2
  exact ⟨⟨p1, c1, rfl⟩, hb1⟩
set_option maxHeartbeats 1600000 in
theorem wr4_is (X : Nat) (p : Option Addr) (ls : List Lab.L) (n c : Nat) (w : World) (h : Lab.right ls = false) (hn : ls.length = n) (hA : Lab.At p ls w) (hF : Lab.Fit maxLen ls) (hl : n ≤ 10000) (hc : w.cell? ⟨X, 0, none⟩ = some (.slice p n c)) (pa : Option Addr) (A : List Lab.L) (la ca Y : Nat) (hla : A.length = la) (hB : Lab.At pa A w) (hG : Lab.Fit maxLen A) (hl2 : la ≤ 10000) (hcY : w.cell? ⟨Y, 0, none⟩ = some (.slice pa la ca)) :
    Calls Try.prog 35 #[.pointer (some ⟨Y, 0, none⟩), .pointer (some ⟨X, 0, none⟩)] w (WrOut w) := by
  have hs : Lab.export A ls = ([], 44) := by unfold Lab.export; rw [h, Bool.and_false]; rfl
  have HS := Lib.hid (opened (n := 0) rfl (lexport_is pa p A ls la ca n c [] 44 hs w hla hn hB hA hG hF hl2 hl))
  clear hs h hn hA hF hla hB hG
  go_enter Try.func35, Try.ntmps35
  go_wp2_with (go_at_call 23; refine HS.out.mono ?_)
  first | rintro e w1 p1 c1 rfl hA1 hb1 | rintro e w1 ⟨⟨p1, c1, rfl, hA1⟩, hb1⟩
  clear hA1
  go_wp2_with fail
  go_ret2
  exact ⟨⟨p1, c1, rfl⟩, hb1⟩
set_option maxHeartbeats 1600000 in
theorem wr5_is (X : Nat) (p : Option Addr) (ls : List Lab.L) (n c : Nat) (w : World) (h : Lab.right ls = false) (hn : ls.length = n) (hA : Lab.At p ls w) (hF : Lab.Fit maxLen ls) (hl : n ≤ 10000) (hc : w.cell? ⟨X, 0, none⟩ = some (.slice p n c)) :
    Calls Try.prog 36 #[.pointer (some ⟨X, 0, none⟩)] w (WrOut w) := by
  have hs : Lab.filt (Lab.has []) ls = ([], 44) := by unfold Lab.filt; rw [h]; rfl
  have HS := Lib.hid (opened (n := 0) rfl (lkeep_is p none ls [] n c 0 0 [] 44 hs w hn rfl hA (.inl rfl) hF hl (by omega)))
  clear hs h hn hA hF
  go_enter Try.func36, Try.ntmps36
  go_wp2_with (go_at_call 26; refine HS.out.mono ?_)
  first | rintro e w1 p1 c1 rfl hA1 hb1 | rintro e w1 ⟨⟨p1, c1, rfl, hA1⟩, hb1⟩
  clear hA1
  go_wp2_with fail
  go_ret2
  exact ⟨⟨p1, c1, rfl⟩, hb1⟩
set_option maxHeartbeats 1600000 in
theorem wr6_is (X : Nat) (p : Option Addr) (ls : List Lab.L) (n c : Nat) (w : World) (h : Lab.right ls = false) (hn : ls.length = n) (hA : Lab.At p ls w) (hF : Lab.Fit maxLen ls) (hl : n ≤ 10000) (hc : w.cell? ⟨X, 0, none⟩ = some (.slice p n c)) :
    Calls Try.prog 37 #[.pointer (some ⟨X, 0, none⟩)] w (WrOut w) := by
  have hs : Lab.filt (fun s => !Lab.has [] s) ls = ([], 44) := by unfold Lab.filt; rw [h]; rfl
  have HS := Lib.hid (opened (n := 0) rfl (ldrop_is p none ls [] n c 0 0 [] 44 hs w hn rfl hA (.inl rfl) hF hl (by omega)))
  clear hs h hn hA hF
  go_enter Try.func37, Try.ntmps37
  go_wp2_with (go_at_call 27; refine HS.out.mono ?_)
  first | rintro e w1 p1 c1 rfl hA1 hb1 | rintro e w1 ⟨⟨p1, c1, rfl, hA1⟩, hb1⟩
  clear hA1
  go_wp2_with fail
  go_ret2
  exact ⟨⟨p1, c1, rfl⟩, hb1⟩
set_option maxHeartbeats 1600000 in
theorem wr7_is (X : Nat) (p : Option Addr) (ls : List Lab.L) (n c : Nat) (w : World) (h : Lab.right ls = false) (hn : ls.length = n) (hA : Lab.At p ls w) (hF : Lab.Fit maxLen ls) (hl : n ≤ 10000) (hc : w.cell? ⟨X, 0, none⟩ = some (.slice p n c)) :
    Calls Try.prog 38 #[.pointer (some ⟨X, 0, none⟩)] w (WrOut w) := by
  have hs : Lab.filt (fun s => !Lib.hasPrefix s.data.toList (ByteArray.mk #[120]).data.toList) ls = ([], 44) := by unfold Lab.filt; rw [h]; rfl
  have HS := Lib.hid (opened (n := 0) rfl (lwithout_is p ls ⟨#[120]⟩ n c [] 44 hs w hn hA hF hl))
  clear hs h hn hA hF
  go_enter Try.func38, Try.ntmps38
  go_wp2_with (go_at_call 28; refine HS.out.mono ?_)
  first | rintro e w1 p1 c1 rfl hA1 hb1 | rintro e w1 ⟨⟨p1, c1, rfl, hA1⟩, hb1⟩
  clear hA1
  go_wp2_with fail
  go_ret2
  exact ⟨⟨p1, c1, rfl⟩, hb1⟩
end Go.Proofs.Ytflmojjpdmbnaaa
