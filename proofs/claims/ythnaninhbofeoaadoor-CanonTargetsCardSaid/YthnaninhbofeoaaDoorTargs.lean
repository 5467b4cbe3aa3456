/- The walk of CanonTargets. -/
import Derived.Test.YthnaninhbofeoaaDoorTargB
import Derived.Test.YthnaninhbofeoaaDoorAwk
namespace Go.Proofs.YthnaninhbofeoaaDoor
open Go.RowKit

set_option maxHeartbeats 1600000 in
set_option maxRecDepth 100000 in
theorem walk_CanonTargets (aj : ByteArray) (ap : Option Addr) (al : List Lab.L) (an ac : Nat) (bj : ByteArray) (bp : Option Addr) (bl : List Lab.L) (bn bc : Nat) (s : ByteArray) (m : Int) (w : World) (hna : al.length = an) (hA : Lab.At ap al w) (hp : ap = none → ac = 0) (hFa : Lab.Fit maxLen al) (hla : an ≤ maxLen) (hja : aj.size ≤ maxLen)
    (hnb : bl.length = bn) (hB : Lab.At bp bl w) (_hpb : bp = none → bc = 0) (hFb : Lab.Fit maxLen bl) (hlb : bn ≤ maxLen) (hjb : bj.size ≤ maxLen) (hs : s.size ≤ maxLen) (hm : w.cell? ⟨0, 0, none⟩ = some (.int .i64 m)) :
    Calls Tryd.prog 4 #[.agg #[.string aj, .slice ap an ac], .agg #[.string bj, .slice bp bn bc], .string s] w fun e w' => e = .returned (.bool true) ∧ Below w.heap.size w w' := by
  have HT := Lib.hid (fun w hA hB hm => show Calls Tryd.prog 10 #[.agg #[.string aj, .slice ap an ac], .agg #[.string bj, .slice bp bn bc], .string s] w (fun e w' => e = .returned (.bool true) ∧ Below w.heap.size w w') by
    by_cases h : Can.short al = true ∧ Can.short bl = true ∧ s.size ≤ 3000 ∧ aj.size ≤ 300 ∧ bj.size ≤ 300
    · exact ctargets_near aj ap al an ac bj bp bl bn bc s m w hna hnb hA hB hp h.2.2.1 h.2.2.2.1 h.2.2.2.2 hm h.1 h.2.1
    · refine ctargets_far aj ap al an ac bj bp bl bn bc s m w hna hnb hA hB hFa hFb hla hlb hja hjb hs hm ?_
      by_cases h1 : Can.short al = true
      · by_cases h2 : Can.short bl = true
        · refine .inr (.inr ⟨h1, h2, ?_⟩)
          by_cases h3 : s.size ≤ 3000
          · by_cases h4 : aj.size ≤ 300
            · exact .inr (.inr ⟨h3, h4, Nat.lt_of_not_le fun h5 => h ⟨h1, h2, h3, h4, h5⟩⟩)
            · exact .inr (.inl ⟨h3, Nat.lt_of_not_le h4⟩)
          · exact .inl (Nat.lt_of_not_le h3)
        · exact .inr (.inl ⟨h1, Bool.eq_false_iff.2 h2⟩)
      · exact .inl (Bool.eq_false_iff.2 h1))
  have HA := Lib.hid (fun w hm => awake_true m w hm)
  have hm0 : ∀ a b : Obj, ((w.alloc a).alloc b).cell? ⟨0, 0, none⟩ = some (.int .i64 m) := fun a b => cell_later (((Below.refl _ _).alloc (Nat.le_refl _) _).alloc (by simp) _) hm (Nat.le_refl _)
  clear hna hnb hp hFa hFb hla hlb hja hjb hs
  go_enter Tryd.func4, Tryd.ntmps4
  go_wp2_with (go_at_call 10; refine (HT.out _ ((hA.alloc _).alloc _) ((hB.alloc _).alloc _) (hm0 _ _)).mono ?_)
  first | rintro e w1 rfl hb1 | rintro e w1 ⟨rfl, hb1⟩
  have hm1 := cell_later hb1 (hm0 _ _) (Nat.le_refl _)
  have hb2 : Below w.heap.size w w1 := (((Below.refl _ _).alloc (Nat.le_refl _) _).alloc (by simp) _).trans (hb1.mono (by simp; omega))
  go_wp2_with (go_at_call 9; refine (HA.out _ hm1).mono ?_)
  first | rintro e w2 rfl hb3 | rintro e w2 ⟨rfl, hb3⟩
  go_wp2_with fail
  go_ret
  exact ⟨rfl, below_next hb2 hb3⟩
end Go.Proofs.YthnaninhbofeoaaDoor
