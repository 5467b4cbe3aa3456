/- The law JsonWords: numbers are told from other strings, and strings are quoted, as the reference does. -/
import Derived.Test.YtmmijebekipdeaaDoorRjD
import Derived.Test.YtmmijebekipdeaaDoorJtC
import Derived.BigQuiet
namespace Go.Proofs.YtmmijebekipdeaaDoor
open Go.RowKit
set_option maxRecDepth 100000
set_option linter.unusedVariables false

set_option maxHeartbeats 2000000 in
theorem Js.words_is (s : ByteArray) (w : World) (hT : Lib.Utf8Tabs 0 1 w) (hs : s.size ≤ 1000000) :
    Calls Tryd.prog 15 #[.string s] w fun e w' => e = .returned (.bool true) ∧ Below w.heap.size w w' := by
  have H1 := Lib.hid (Js.jquote_is s w hT (by omega))
  have H2 := Lib.hid (fun w' => Rj.quote_is s w' (by omega))
  have H3 := Lib.hid (fun w' => Js.jnumber_is s w' hs)
  have H4 := Lib.hid (fun w' => Rj.jnumber_is s w' (by omega))
  obtain ⟨E, hE⟩ : ∃ E, Js.qErr s = E := ⟨_, rfl⟩
  obtain ⟨X, hX⟩ : ∃ X, Js.qText s = X := ⟨_, rfl⟩
  obtain ⟨b, hb⟩ : ∃ b, Js.isNum s = b := ⟨_, rfl⟩
  rw [hE, hX] at H1 H2
  rw [hb] at H3 H4
  clear hE hX hb hT
  have c1 : (((⟨X.toArray⟩ : ByteArray).toList == (⟨X.toArray⟩ : ByteArray).toList) : Bool) = true := by rw [beq_self_eq_true]
  have c2 : ((E : Int) == (E : Int)) = true := by rw [beq_self_eq_true]
  go_enter Tryd.func15, Tryd.ntmps15
  go_wp2_with (go_at_call 30; refine H1.out.mono ?_)
  first | rintro e w1 rfl b1 | rintro e w1 ⟨rfl, b1⟩
  have HB := Lib.hid b1
  clear b1 H1
  have hz := HB.out.size
  go_wp2_with (go_at_call 42; refine (H2.out w1).mono ?_)
  first | rintro e w2 rfl b1 | rintro e w2 ⟨rfl, b1⟩
  replace HB := Lib.hid (HB.out.trans (b1.mono hz))
  clear b1 H2 hz
  have hz := HB.out.size
  cases b
  all_goals
    go_wp2_with (go_at_call 43; refine (H3.out w2).mono ?_)
    first | rintro e w3 rfl b1 | rintro e w3 ⟨rfl, b1⟩
    replace HB := Lib.hid (HB.out.trans (b1.mono hz))
    clear b1 H3 hz
    have hz := HB.out.size
    go_wp2_with (go_at_call 44; refine (H4.out w3).mono ?_)
    try rintro _ _ ⟨rfl, rfl⟩
    go_wp2_with fail
    go_ret
    exact ⟨rfl, HB.out⟩

set_option maxHeartbeats 2000000 in
theorem walk_JsonWords (a0 : ByteArray) (h0 : a0.size ≤ maxLen) (w : World) (hT : Lib.Utf8Tabs 0 1 w) :
    Calls Tryd.prog 4 #[.string a0] w fun e w' => e = .returned (.bool true) ∧ Below w.heap.size w w' := by
  have HT := Lib.hid (fun w' (hw : Below w.heap.size w w') => Utf8Tabs_below hT hw)
  have HW := Lib.hid (fun (h : a0.size ≤ 1000000) => Js.words_is a0 w hT h)
  have HA := Lib.hid (fun w' (hw : Below w.heap.size w w') => Js.awake_is w' (Utf8Tabs_below hT hw))
  unfold maxLen at h0
  clear hT
  by_cases h1 : 400 < a0.size
  · have g1 : decide ((400 : Int) < a0.size) = true := decide_eq_true (by omega)
    by_cases h2 : a0.size ≤ 10000
    · have g2 : decide ((a0.size : Int) ≤ 10000) = true := decide_eq_true (by omega)
      go_enter Tryd.func4, Tryd.ntmps4
      go_wp2_with (go_at_call 14; refine (HA.out w (Below.refl _ _)).mono ?_)
      first | rintro e w1 rfl b1 | rintro e w1 ⟨rfl, b1⟩
      go_wp2_with fail
      go_ret
      exact ⟨rfl, b1⟩
    · have g2 : decide ((a0.size : Int) ≤ 10000) = false := decide_eq_false (by omega)
      by_cases h3 : 70000 ≤ a0.size
      · have g3 : decide ((70000 : Int) ≤ a0.size) = true := decide_eq_true (by omega)
        go_enter Tryd.func4, Tryd.ntmps4
        go_wp2_with (go_at_call 14; refine (HA.out w (Below.refl _ _)).mono ?_)
        first | rintro e w1 rfl b1 | rintro e w1 ⟨rfl, b1⟩
        go_wp2_with fail
        go_ret
        exact ⟨rfl, b1⟩
      · have g3 : decide ((70000 : Int) ≤ a0.size) = false := decide_eq_false (by omega)
        have hs := HW.out (by omega)
        go_enter Tryd.func4, Tryd.ntmps4
        go_wp2_with (go_at_call 15; refine hs.mono ?_)
        first | rintro e w1 rfl b1 | rintro e w1 ⟨rfl, b1⟩
        go_wp2_with (go_at_call 14; refine (HA.out w1 b1).mono ?_)
        first | rintro e w2 rfl b2 | rintro e w2 ⟨rfl, b2⟩
        go_wp2_with fail
        go_ret
        exact ⟨rfl, b1.trans (b2.mono b1.size)⟩
  · have g1 : decide ((400 : Int) < a0.size) = false := decide_eq_false (by omega)
    have g3 : decide ((70000 : Int) ≤ a0.size) = false := decide_eq_false (by omega)
    have hs := HW.out (by omega)
    go_enter Tryd.func4, Tryd.ntmps4
    go_wp2_with (go_at_call 15; refine hs.mono ?_)
    first | rintro e w1 rfl b1 | rintro e w1 ⟨rfl, b1⟩
    go_wp2_with (go_at_call 14; refine (HA.out w1 b1).mono ?_)
    first | rintro e w2 rfl b2 | rintro e w2 ⟨rfl, b2⟩
    go_wp2_with fail
    go_ret
    exact ⟨rfl, b1.trans (b2.mono b1.size)⟩
end Go.Proofs.YtmmijebekipdeaaDoor
