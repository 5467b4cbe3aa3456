/- Contract of the reference's Compare of labels. -/
import Derived.Test.YtpnpgjjbincigaaSame
import Derived.Test.YtpnpgjjbincigaaCanO
import Derived.Test.YtpnpgjjbincigaaMadeD
import Derived.Test.YtpnpgjjbincigaaCanP
import Derived.Test.YtpnpgjjbincigaaLabC
import Derived.Test.YtpnpgjjbincigaaL4J
import Derived.Test.YtpnpgjjbincigaaRefF
import Derived.BigQuiet
import Derived.Deep.RegionHeld3
import Derived.Deep.AppendLies
import Derived.StillTailTactics
import Derived.Deep.RegionLawGrows
import Derived.Deep.Upon
import Derived.Laws.StructEq
import Derived.Laws.AppendOwnNone
import Derived.WalkArith
import Derived.Orders
import Derived.WalkKit
import Derived.Sort.OwnSorted
import Derived.Laws.OwnMore
import Derived.Lib.SliceRun
import Derived.Maps.RangeWalk
import Derived.Maps.OwnOps
import Derived.Maps.OwnSet
import Derived.Maps.StringElems
import Derived.Deep.DeepCutAuto
namespace Go.Proofs.Ytpnpgjjbincigaa
open Go.RowKit

theorem Lab.c1_cases5 (x y : Lab.L) :
    (Lab.bs x.n < Lab.bs y.n ∧ Lab.c1 x y = -1) ∨ (¬ Lab.bs x.n < Lab.bs y.n ∧ ¬ Lab.bs x.n = Lab.bs y.n ∧ Lab.c1 x y = 1) ∨
    (¬ Lab.bs x.n < Lab.bs y.n ∧ Lab.bs x.n = Lab.bs y.n ∧ Lab.bs x.v < Lab.bs y.v ∧ Lab.c1 x y = -1) ∨ (¬ Lab.bs x.n < Lab.bs y.n ∧ Lab.bs x.n = Lab.bs y.n ∧ ¬ Lab.bs x.v < Lab.bs y.v ∧ ¬ Lab.bs x.v = Lab.bs y.v ∧ Lab.c1 x y = 1) ∨
    (¬ Lab.bs x.n < Lab.bs y.n ∧ ¬ Lab.bs x.v < Lab.bs y.v ∧ x = y ∧ Lab.c1 x y = 0) := by
  have h1 : Lab.cf x y = if Lab.bs x.n < Lab.bs y.n then -1 else if Lab.bs x.n = Lab.bs y.n then 0 else 1 := Can.cmp_law _ _
  have h2 := Can.cmp_law (Lab.bs x.v) (Lab.bs y.v)
  unfold Lab.c1 Lab.or2
  by_cases a : Lab.bs x.n < Lab.bs y.n
  · rw [if_pos a] at h1
    exact .inl ⟨a, by rw [h1]; rfl⟩
  rw [if_neg a] at h1
  by_cases b : Lab.bs x.n = Lab.bs y.n
  · rw [if_pos b] at h1
    rw [h1, if_pos rfl, h2]
    by_cases c : Lab.bs x.v < Lab.bs y.v
    · exact .inr (.inr (.inl ⟨a, b, c, by rw [if_pos c]⟩))
    · rw [if_neg c]
      by_cases d : Lab.bs x.v = Lab.bs y.v
      · refine .inr (.inr (.inr (.inr ⟨a, c, ?_, by rw [if_pos d]⟩)))
        cases x; cases y
        have e1 := Lab.bs_inj b
        have e2 := Lab.bs_inj d
        dsimp only at e1 e2
        rw [e1, e2]
      · exact .inr (.inr (.inr (.inl ⟨a, b, c, d, by rw [if_neg d]⟩)))
  · rw [if_neg b] at h1
    exact .inr (.inl ⟨a, b, by rw [h1]; rfl⟩)

set_option maxHeartbeats 6400000 in
set_option maxRecDepth 100000 in
theorem rcompare4_is (p q : Option Addr) (a b : List Lab.L) (n c n2 c2 : Nat) (r : Int) (h : Lab.cmpL a b = r) (w : World) (hn : a.length = n) (hn2 : b.length = n2) (hA : Lab.At p a w) (hB : Lab.At q b w) (hF : Lab.Fit maxLen a) (_hF2 : Lab.Fit maxLen b) (hl : n ≤ maxLen) (_hl2 : n2 ≤ maxLen) :
    Calls Try.prog 92 #[.slice p n c, .slice q n2 c2] w fun e w' => e = .returned (.int .i64 r) ∧ Below w.heap.size w w' := by
  unfold maxLen at hl _hl2
  have HN := Lib.hid hn
  have HN2 := Lib.hid hn2
  have HA := Lib.hid hA
  have HB := Lib.hid hB
  have HFA := Lib.hid hF
  have H0 : Hid (Lab.cmpL (a.drop 0) (b.drop 0) = r) := h
  clear hn hn2 hA hB h hF _hF2
  go_enter Try.func92, Try.ntmps92
  go_wp2_with fail
  go_loopw [5] (fun i wr => ∃ k : Nat, k ≤ n ∧ k ≤ n2 ∧ i = .int .i64 (k : Int) ∧ Hid (Lab.cmpL (a.drop k) (b.drop k) = r) ∧ Below w.heap.size w wr) (fun i _ => n - (intOf i).toNat)
  case atStart => exact ⟨0, Nat.zero_le _, Nat.zero_le _, rfl, H0, Below.refl _ _⟩
  case round =>
    obtain ⟨k, hk, hk2, rfl, HK, hb⟩ := hrel
    have n0 : (0 : Int) ≤ (k : Int) := by omega
    by_cases hlt : k < n
    · have hkl : k < a.length := by rw [HN.out]; exact hlt
      have n1 : (k : Int) < (n : Int) := by omega
      have n1b : decide ((k : Int) < (n : Int)) = true := decide_eq_true n1
      by_cases hlt2 : k < n2
      · have hkl2 : k < b.length := by rw [HN2.out]; exact hlt2
        obtain ⟨b0, o, rfl, hc⟩ := (HA.out.below hb (Nat.le_refl _)).open k hkl
        obtain ⟨b1, o1, rfl, hd⟩ := (HB.out.below hb (Nat.le_refl _)).open k hkl2
        have hst := HK.out
        rw [Lab.cmpL_drop a b k hkl hkl2] at hst
        have hfx := HFA.out a[k] (List.getElem_mem _)
        obtain ⟨x, hx⟩ : ∃ x, a[k] = x := ⟨_, rfl⟩
        obtain ⟨y, hy⟩ : ∃ y, b[k] = y := ⟨_, rfl⟩
        have c0 := (hc k hkl).1
        have c1 := (hc k hkl).2
        have d0 := (hd k hkl2).1
        have d1 := (hd k hkl2).2
        rw [hx] at c0 c1 hst hfx
        rw [hy] at d0 d1 hst
        have n2' : (k : Int) < (n2 : Int) := by omega
        have n2b : decide ((k : Int) < (n2 : Int)) = true := decide_eq_true n2'
        have HL1 := Lib.hid (fun p h w => less_is x.n y.n p h w hfx.1)
        have HL2 := Lib.hid (fun p h w => less_is x.v y.v p h w hfx.2)
        have hcs := Lab.c1_cases5 x y
        clear hx hy hc hd hfx
        rcases hcs with ⟨g1, gc⟩ | ⟨g1, g2, gc⟩ | ⟨g1, g2, g3, gc⟩ | ⟨g1, g2, g3, g4, gc⟩ | ⟨g1, g3, g2, gc⟩
        · have HQ1 := Lib.hid (fun w => HL1.out true (decide_eq_true g1) w)
          rw [gc, if_neg (by omega)] at hst
          subst hst
          clear g1 gc HL1 HL2 HK H0
          go_wp2_with fail
          go_quiet ((go_at_call 75; exact Calls.quiet_of (HQ1.out _)))
          go_wp2_with fail
          go_ret
          exact ⟨rfl, below_drewN hb _⟩
        · have HQ1 := Lib.hid (fun w => HL1.out false (decide_eq_false g1) w)
          have q1 : (x.n.toList == y.n.toList) = false := by rw [Lab.bytes_beq]; exact decide_eq_false g2
          have hneq := fun w => neqLab2 x y (fun e => g2 (by rw [e])) w
          rw [gc, if_neg (by omega)] at hst
          subst hst
          clear g1 g2 gc HL1 HL2 HK H0
          go_wp2_with fail
          go_quiet ((go_at_call 75; exact Calls.quiet_of (HQ1.out _)))
          go_wp2_with fail
          go_quiet (fail)
          go_wp2_with fail
          go_ret
          exact ⟨rfl, below_drewN (below_drewN hb _) _⟩
        · have HQ1 := Lib.hid (fun w => HL1.out false (decide_eq_false g1) w)
          have HQ2 := Lib.hid (fun w => HL2.out true (decide_eq_true g3) w)
          have q1 : (x.n.toList == y.n.toList) = true := by rw [Lab.bytes_beq]; exact decide_eq_true g2
          rw [gc, if_neg (by omega)] at hst
          subst hst
          clear g1 g2 g3 gc HL1 HL2 HK H0
          go_wp2_with fail
          go_region_held3 (fun w' => w'.cell? ⟨b0, o + k * 2, none⟩ = some (.string x.n) ∧ w'.cell? ⟨b0, o + k * 2 + 1, none⟩ = some (.string x.v) ∧ w'.cell? ⟨b1, o1 + k * 2, none⟩ = some (.string y.n) ∧ w'.cell? ⟨b1, o1 + k * 2 + 1, none⟩ = some (.string y.v))
            (first
              | (go_split_ands
                 refine ⟨?_, ?_, ?_, ?_⟩ <;> (first | assumption | (rw [World.cell?_drewN]; assumption)))
              | go_keep)
            ((first
              | (go_at_call 75; (with_reducible refine (HQ1.out _).mono ?_); rintro e w3 ⟨rfl, n3, rfl⟩)
              | (go_at_call 75; (with_reducible refine (HQ2.out _).mono ?_); rintro e w3 ⟨rfl, n3, rfl⟩)))
          go_wp2_with fail
          go_ret
          exact ⟨rfl, below_drewN hb _⟩
        · have HQ1 := Lib.hid (fun w => HL1.out false (decide_eq_false g1) w)
          have HQ2 := Lib.hid (fun w => HL2.out false (decide_eq_false g3) w)
          have q1 : (x.n.toList == y.n.toList) = true := by rw [Lab.bytes_beq]; exact decide_eq_true g2
          have hneq := fun w => neqLab2 x y (fun e => g4 (by rw [e])) w
          rw [gc, if_neg (by omega)] at hst
          subst hst
          clear g1 g2 g3 g4 gc HL1 HL2 HK H0
          go_wp2_with fail
          go_region_held3 (fun w' => w'.cell? ⟨b0, o + k * 2, none⟩ = some (.string x.n) ∧ w'.cell? ⟨b0, o + k * 2 + 1, none⟩ = some (.string x.v) ∧ w'.cell? ⟨b1, o1 + k * 2, none⟩ = some (.string y.n) ∧ w'.cell? ⟨b1, o1 + k * 2 + 1, none⟩ = some (.string y.v))
            (first
              | (go_split_ands
                 refine ⟨?_, ?_, ?_, ?_⟩ <;> (first | assumption | (rw [World.cell?_drewN]; assumption)))
              | go_keep)
            ((first
              | (go_at_call 75; (with_reducible refine (HQ1.out _).mono ?_); rintro e w3 ⟨rfl, n3, rfl⟩)
              | (go_at_call 75; (with_reducible refine (HQ2.out _).mono ?_); rintro e w3 ⟨rfl, n3, rfl⟩)))
          go_wp2_with fail
          go_quiet (fail)
          go_wp2_with fail
          go_ret
          exact ⟨rfl, below_drewN (below_drewN hb _) _⟩
        · have HQ1 := Lib.hid (fun w => HL1.out false (decide_eq_false g1) w)
          have HQ2 := Lib.hid (fun w => HL2.out false (decide_eq_false g3) w)
          subst g2
          have q1 : (x.n.toList == x.n.toList) = true := by simp
          have hneq := neqLab x
          rw [gc, if_pos rfl] at hst
          have HG := Lib.hid hst
          clear g1 g3 gc HL1 HL2 HK hst
          go_wp2_with fail
          go_region_held3 (fun w' => w'.cell? ⟨b0, o + k * 2, none⟩ = some (.string x.n) ∧ w'.cell? ⟨b0, o + k * 2 + 1, none⟩ = some (.string x.v) ∧ w'.cell? ⟨b1, o1 + k * 2, none⟩ = some (.string x.n) ∧ w'.cell? ⟨b1, o1 + k * 2 + 1, none⟩ = some (.string x.v))
            (first
              | (go_split_ands
                 refine ⟨?_, ?_, ?_, ?_⟩ <;> (first | assumption | (rw [World.cell?_drewN]; assumption)))
              | go_keep)
            ((first
              | (go_at_call 75; (with_reducible refine (HQ1.out _).mono ?_); rintro e w3 ⟨rfl, n3, rfl⟩)
              | (go_at_call 75; (with_reducible refine (HQ2.out _).mono ?_); rintro e w3 ⟨rfl, n3, rfl⟩)))
          go_wp2_with fail
          go_quiet (fail)
          go_wp2_with fail
          go_roundw
          case rel => exact ⟨k + 1, by omega, by omega, by go_num, HG, by first | exact below_drewN hb _ | exact below_drewN (below_drewN hb _) _ | exact below_drewN (below_drewN (below_drewN hb _) _) _ | exact below_drewN (below_drewN (below_drewN (below_drewN hb _) _) _) _⟩
          case measure => simp [intOf]; omega
      · have hst := HK.out
        rw [Lab.cmpL_long a b k hkl (by rw [HN2.out]; omega)] at hst
        subst hst
        have n2' : (n2 : Int) ≤ (k : Int) := by omega
        have n2b : decide ((k : Int) < (n2 : Int)) = false := decide_eq_false (by omega)
        have n3 : ¬ ((n : Int) < (n2 : Int)) := by omega
        have n3b : decide (n < n2) = false := decide_eq_false (by omega)
        have n4 : (n2 : Int) < (n : Int) := by omega
        have n4b : decide (n2 < n) = true := decide_eq_true (by omega)
        clear HK H0
        go_wp2_with fail
        go_ret
        exact ⟨rfl, hb⟩
    · have hst := HK.out
      rw [Lab.cmpL_short a b k (by rw [HN.out]; omega), HN2.out] at hst
      obtain rfl : k = n := by omega
      have n1 : ¬ ((k : Int) < (k : Int)) := by omega
      have n1b : decide ((k : Int) < (k : Int)) = false := decide_eq_false n1
      clear HK H0
      by_cases h2 : k < n2
      · rw [if_pos h2] at hst
        subst hst
        have n2' : (k : Int) < (n2 : Int) := by omega
        have n3' : decide (k < n2) = true := decide_eq_true h2
        go_wp2_with fail
        go_ret
        exact ⟨rfl, hb⟩
      · rw [if_neg h2] at hst
        subst hst
        have n2' : (n2 : Int) ≤ (k : Int) := by omega
        have n3' : decide (k < n2) = false := decide_eq_false h2
        have n4' : decide (n2 < k) = false := decide_eq_false (by omega)
        go_wp2_with fail
        go_ret
        exact ⟨rfl, hb⟩
end Go.Proofs.Ytpnpgjjbincigaa
