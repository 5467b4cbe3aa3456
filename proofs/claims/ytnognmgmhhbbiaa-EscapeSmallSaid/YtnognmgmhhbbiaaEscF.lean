/- Contract of awake: the examples of the chapter. -/
import Derived.Test.YtnognmgmhhbbiaaEscE
import Derived.Test.YtnognmgmhhbbiaaMap
namespace Go.Proofs.Ytnognmgmhhbbiaa
open Go.RowKit

theorem aw1 (w : World) : Calls Try.prog 14 #[.string ⟨#[97, 92, 10]⟩] w fun e w' => e = .returned (.tuple #[.string ⟨#[97, 92, 92, 92, 110]⟩, .int .i64 0]) ∧ Below w.heap.size w w' := by
  refine (help_any _ w (by decide)).mono ?_
  rintro e w' ⟨rfl, hb⟩
  exact ⟨by rfl, hb⟩
theorem aw2 (w : World) : Calls Try.prog 15 #[.string ⟨#[34]⟩] w fun e w' => e = .returned (.tuple #[.string ⟨#[92, 34]⟩, .int .i64 0]) ∧ Below w.heap.size w w' := by
  refine (value_any _ w (by decide)).mono ?_
  rintro e w' ⟨rfl, hb⟩
  exact ⟨by rfl, hb⟩
theorem aw3 (w : World) : Calls Try.prog 12 #[.string ⟨#[120, 10]⟩] w fun e w' => e = .returned (.tuple #[.string ⟨#[34, 120, 92, 110, 34]⟩, .int .i64 0]) ∧ Below w.heap.size w w' := by
  refine (quote_any _ w (by decide)).mono ?_
  rintro e w' ⟨rfl, hb⟩
  exact ⟨by rfl, hb⟩
theorem aw4 (w : World) : Calls Try.prog 16 #[.string ⟨#[92, 110]⟩] w fun e w' => e = .returned (.tuple #[.string ⟨#[10]⟩, .int .i64 0]) ∧ Below w.heap.size w w' := by
  refine (readHelp_any _ w (by decide)).mono ?_
  rintro e w' ⟨rfl, hb⟩
  exact ⟨by rfl, hb⟩
theorem aw5 (w : World) : Calls Try.prog 16 #[.string ⟨#[34]⟩] w fun e w' => e = .returned (.tuple #[.string ⟨#[34]⟩, .int .i64 0]) ∧ Below w.heap.size w w' := by
  refine (readHelp_any _ w (by decide)).mono ?_
  rintro e w' ⟨rfl, hb⟩
  exact ⟨by rfl, hb⟩
theorem aw6 (w : World) : Calls Try.prog 17 #[.string ⟨#[92, 34]⟩] w fun e w' => e = .returned (.tuple #[.string ⟨#[34]⟩, .int .i64 0]) ∧ Below w.heap.size w w' := by
  refine (readValue_any _ w (by decide)).mono ?_
  rintro e w' ⟨rfl, hb⟩
  exact ⟨by rfl, hb⟩
theorem aw7 (w : World) : Calls Try.prog 13 #[.string ⟨#[34, 97, 34, 98]⟩, .int .i64 0] w fun e w' => e = .returned (.tuple #[.string ⟨#[97]⟩, .int .i64 3, .int .i64 0]) ∧ Below w.heap.size w w' := by
  refine (readQuote_any _ _ w (by decide)).mono ?_
  rintro e w' ⟨rfl, hb⟩
  exact ⟨by rfl, hb⟩
theorem aw8 (w : World) : Calls Try.prog 16 #[.string ⟨#[92, 34]⟩] w fun e w' => e = .returned (.tuple #[.string ⟨#[]⟩, .int .i64 220]) ∧ Below w.heap.size w w' := by
  refine (readHelp_any _ w (by decide)).mono ?_
  rintro e w' ⟨rfl, hb⟩
  exact ⟨by rfl, hb⟩
theorem aw9 (w : World) : Calls Try.prog 17 #[.string ⟨#[34]⟩] w fun e w' => e = .returned (.tuple #[.string ⟨#[]⟩, .int .i64 221]) ∧ Below w.heap.size w w' := by
  refine (readValue_any _ w (by decide)).mono ?_
  rintro e w' ⟨rfl, hb⟩
  exact ⟨by rfl, hb⟩
theorem aw10 (w : World) : Calls Try.prog 17 #[.string ⟨#[92]⟩] w fun e w' => e = .returned (.tuple #[.string ⟨#[]⟩, .int .i64 220]) ∧ Below w.heap.size w w' := by
  refine (readValue_any _ w (by decide)).mono ?_
  rintro e w' ⟨rfl, hb⟩
  exact ⟨by rfl, hb⟩
theorem aw11 (w : World) : Calls Try.prog 17 #[.string ⟨#[92, 120]⟩] w fun e w' => e = .returned (.tuple #[.string ⟨#[]⟩, .int .i64 220]) ∧ Below w.heap.size w w' := by
  refine (readValue_any _ w (by decide)).mono ?_
  rintro e w' ⟨rfl, hb⟩
  exact ⟨by rfl, hb⟩
theorem aw12 (w : World) : Calls Try.prog 13 #[.string ⟨#[34, 97]⟩, .int .i64 0] w fun e w' => e = .returned (.tuple #[.string ⟨#[]⟩, .int .i64 0, .int .i64 222]) ∧ Below w.heap.size w w' := by
  refine (readQuote_any _ _ w (by decide)).mono ?_
  rintro e w' ⟨rfl, hb⟩
  exact ⟨by rfl, hb⟩
theorem aw13 (w : World) : Calls Try.prog 13 #[.string ⟨#[34, 97, 92]⟩, .int .i64 0] w fun e w' => e = .returned (.tuple #[.string ⟨#[]⟩, .int .i64 0, .int .i64 222]) ∧ Below w.heap.size w w' := by
  refine (readQuote_any _ _ w (by decide)).mono ?_
  rintro e w' ⟨rfl, hb⟩
  exact ⟨by rfl, hb⟩
theorem aw14 (w : World) : Calls Try.prog 13 #[.string ⟨#[97]⟩, .int .i64 0] w fun e w' => e = .returned (.tuple #[.string ⟨#[]⟩, .int .i64 0, .int .i64 221]) ∧ Below w.heap.size w w' := by
  refine (readQuote_any _ _ w (by decide)).mono ?_
  rintro e w' ⟨rfl, hb⟩
  exact ⟨by rfl, hb⟩
theorem aw15 (w : World) : Calls Try.prog 13 #[.string ⟨#[34, 10]⟩, .int .i64 0] w fun e w' => e = .returned (.tuple #[.string ⟨#[]⟩, .int .i64 0, .int .i64 223]) ∧ Below w.heap.size w w' := by
  refine (readQuote_any _ _ w (by decide)).mono ?_
  rintro e w' ⟨rfl, hb⟩
  exact ⟨by rfl, hb⟩

theorem strLaw : Maps.Keyed Try.prog 9 := Maps.string_keyed Try.underlying9
/-- the map of the examples, as data -/
def exD : DataW Unit := ((((DataW.map []).put (.string [34, 97]) (.lit (.int .i64 222))).put (.string [34, 97, 92]) (.lit (.int .i64 222))).put (.string [97]) (.lit (.int .i64 221))).put (.string [34, 10]) (.lit (.int .i64 223))
theorem exD_at (l : List UInt8) (c : Int) (h : ∀ zd : DataW Unit, exD.atKey (.string l) zd = .lit (.int .i64 c)) :
    (l = [34, 97] ∧ c = 222) ∨ (l = [34, 97, 92] ∧ c = 222) ∨ (l = [97] ∧ c = 221) ∨ (l = [34, 10] ∧ c = 223) := by
  by_cases h1 : l = [34, 97]
  · subst h1; have := h .nil; rw [show exD.atKey (.string [34, 97]) .nil = .lit (.int .i64 222) from rfl] at this; simp at this; exact .inl ⟨rfl, this.symm⟩
  by_cases h2 : l = [34, 97, 92]
  · subst h2; have := h .nil; rw [show exD.atKey (.string [34, 97, 92]) .nil = .lit (.int .i64 222) from rfl] at this; simp at this; exact .inr (.inl ⟨rfl, this.symm⟩)
  by_cases h3 : l = [97]
  · subst h3; have := h .nil; rw [show exD.atKey (.string [97]) .nil = .lit (.int .i64 221) from rfl] at this; simp at this; exact .inr (.inr (.inl ⟨rfl, this.symm⟩))
  by_cases h4 : l = [34, 10]
  · subst h4; have := h .nil; rw [show exD.atKey (.string [34, 10]) .nil = .lit (.int .i64 223) from rfl] at this; simp at this; exact .inr (.inr (.inr ⟨rfl, this.symm⟩))
  exfalso
  have g := h .nil
  unfold exD at g
  rw [Maps.atKey_put_other (by simpa using h4), Maps.atKey_put_other (by simpa using h3), Maps.atKey_put_other (by simpa using h2), Maps.atKey_put_other (by simpa using h1)] at g
  simp [DataW.atKey] at g

set_option maxHeartbeats 1600000 in
set_option maxRecDepth 100000 in
theorem awake_any (w : World) : Calls Try.prog 10 #[] w fun e w' => e = .returned (.bool true) ∧ Below w.heap.size w w' := by
  go_enter Try.func10, Try.ntmps10
  go_wp2_with (go_at_call 14; refine (aw1 _).mono ?_)
  rintro e1 w1 ⟨rfl, hb1⟩
  go_wp2_with (go_at_call 15; refine (aw2 _).mono ?_)
  rintro e2 w2 ⟨rfl, hb2⟩
  replace hb2 := below_next hb1 hb2
  clear hb1
  go_wp2_with (go_at_call 12; refine (aw3 _).mono ?_)
  rintro e3 w3 ⟨rfl, hb3⟩
  replace hb3 := below_next hb2 hb3
  clear hb2
  go_wp2_with (go_at_call 16; refine (aw4 _).mono ?_)
  rintro e4 w4 ⟨rfl, hb4⟩
  replace hb4 := below_next hb3 hb4
  clear hb3
  go_wp2_with (go_at_call 16; refine (aw5 _).mono ?_)
  rintro e5 w5 ⟨rfl, hb5⟩
  replace hb5 := below_next hb4 hb5
  clear hb4
  go_wp2_with (go_at_call 17; refine (aw6 _).mono ?_)
  rintro e6 w6 ⟨rfl, hb6⟩
  replace hb6 := below_next hb5 hb6
  clear hb5
  go_wp2_with (go_at_call 13; refine (aw7 _).mono ?_)
  rintro e7 w7 ⟨rfl, hb7⟩
  replace hb7 := below_next hb6 hb7
  clear hb6
  go_wp2_with (go_at_call 16; refine (aw8 _).mono ?_)
  rintro e8 w8 ⟨rfl, hb8⟩
  replace hb8 := below_next hb7 hb8
  clear hb7
  go_wp2_with (go_at_call 17; refine (aw9 _).mono ?_)
  rintro e9 w9 ⟨rfl, hb9⟩
  replace hb9 := below_next hb8 hb9
  clear hb8
  go_wp2_with (go_at_call 17; refine (aw10 _).mono ?_)
  rintro e10 w10 ⟨rfl, hb10⟩
  replace hb10 := below_next hb9 hb10
  clear hb9
  go_wp2_with (go_at_call 17; refine (aw11 _).mono ?_)
  rintro e11 w11 ⟨rfl, hb11⟩
  replace hb11 := below_next hb10 hb11
  clear hb10
  have hmm := @run_makeMap Try.prog
  have hown := World.ownsMap_made (H := Unit) w11 Try.prog 9 (plainElem Try.prog 25)
  go_wp2_with (refine wpList_insert_own _ rfl _ _ _ 41 rfl 9 25 strLaw Try.underlying41 _ _ _ _ rfl hown (by decide) (.string ⟨#[34, 97]⟩) (.int .i64 222) (.string [34, 97]) rfl rfl (WideMaps.keyOf_string_mk Try.underlying9 (by decide)) (.lit (.int .i64 222)) [] (plainElem_int Try.underlying25 (by decide)) ?_)
  clear hown
  intro m1 hown hg1
  go_wp2_with (refine wpList_insert_own _ rfl _ _ _ 41 rfl 9 25 strLaw Try.underlying41 _ _ _ _ rfl hown (by decide) (.string ⟨#[34, 97, 92]⟩) (.int .i64 222) (.string [34, 97, 92]) rfl rfl (WideMaps.keyOf_string_mk Try.underlying9 (by decide)) (.lit (.int .i64 222)) [] (plainElem_int Try.underlying25 (by decide)) ?_)
  clear hown
  intro m2 hown hg2
  go_wp2_with (refine wpList_insert_own _ rfl _ _ _ 41 rfl 9 25 strLaw Try.underlying41 _ _ _ _ rfl hown (by decide) (.string ⟨#[97]⟩) (.int .i64 221) (.string [97]) rfl rfl (WideMaps.keyOf_string_mk Try.underlying9 (by decide)) (.lit (.int .i64 221)) [] (plainElem_int Try.underlying25 (by decide)) ?_)
  clear hown
  intro m3 hown hg3
  go_wp2_with (refine wpList_insert_own _ rfl _ _ _ 41 rfl 9 25 strLaw Try.underlying41 _ _ _ _ rfl hown (by decide) (.string ⟨#[34, 10]⟩) (.int .i64 223) (.string [34, 10]) rfl rfl (WideMaps.keyOf_string_mk Try.underlying9 (by decide)) (.lit (.int .i64 223)) [] (plainElem_int Try.underlying25 (by decide)) ?_)
  clear hown
  intro m4 hown hg4
  have hbl : Below w.heap.size w m4 := by
    have h0 := hb11.alloc hb11.size (.map #[] 0)
    have h1 := h0.grown hg1 h0.size (by intro k hk; cases hk; exact hb11.size)
    have h2 := h1.grown hg2 h1.size (by intro k hk; cases hk; exact hb11.size)
    have h3 := h2.grown hg3 h2.size (by intro k hk; cases hk; exact hb11.size)
    exact h3.grown hg4 h3.size (by intro k hk; cases hk; exact hb11.size)
  have hsz := hb11.size
  clear hg1 hg2 hg3 hg4 hb11
  go_wp2_with (at_range; refine wpList_range_own _ rfl _ 41 rfl 9 25 strLaw Try.underlying41 _ _ _ _ rfl hown ?_)
  intro w0 hrg0 hg0 hs0
  have hbl0 := hbl.grown hg0 hbl.size (by intro k hk; cases hk)
  have hsz4 := hbl.size
  have Hs0 := Lib.hid hs0
  clear hs0 hg0 hown hbl
  go_wp2
  go_loopw [129] (fun _ wr => ∃ left cnt, wr.ranges Try.prog 9 (plainElem Try.prog 25) w11.heap.size m4.heap.size (0 + 1 + 1 + 1 + 1) exD left cnt ∧ Below w.heap.size w wr) (fun _ wr => wr.rangeLeft w11.heap.size m4.heap.size)
  case atStart => exact ⟨_, _, hrg0, hbl0⟩
  case round =>
    clear hrg0 hbl0
    obtain ⟨left, cnt, hrg, hbl⟩ := hrel
    go_wp2_with (at_next; refine wpList_next_ranges_si _ rfl _ rfl 9 25 .i64 strLaw Try.underlying9 Try.underlying25 _ _ _ _ _ _ rfl hrg ?_ ?_)
    · intro _ _
      go_wp2
      go_ret
      exact ⟨rfl, hbl⟩
    · intro x c wx cnt1 hat hrg1 hlt hg1 hs1 hen
      have hblx := hbl.grown hg1 hbl.size (by intro k hk; cases hk; exact hsz4)
      have HL := Lib.hid hrg.left_eq
      have D := exD_at _ _ hat
      clear hat hs1 hg1 hrg hbl
      rcases D with ⟨hx, rfl⟩ | ⟨hx, rfl⟩ | ⟨hx, rfl⟩ | ⟨hx, rfl⟩
      · obtain rfl : x = ⟨#[34, 97]⟩ := eq_of_bytes hx
        clear hx
        go_wp2_with (go_at_call 13; refine (aw12 _).mono ?_)
        rintro e2 w2 rfl hb2
        have hrg2 := hrg1.kept (below_grown hb2) (by simp) (by simp)
        go_wp2
        go_roundw
        case rel => exact ⟨_, _, hrg2, below_next hblx hb2⟩
        case measure => rw [hrg2.left_eq, HL.out]; exact hlt
      · obtain rfl : x = ⟨#[34, 97, 92]⟩ := eq_of_bytes hx
        clear hx
        go_wp2_with (go_at_call 13; refine (aw13 _).mono ?_)
        rintro e2 w2 rfl hb2
        have hrg2 := hrg1.kept (below_grown hb2) (by simp) (by simp)
        go_wp2
        go_roundw
        case rel => exact ⟨_, _, hrg2, below_next hblx hb2⟩
        case measure => rw [hrg2.left_eq, HL.out]; exact hlt
      · obtain rfl : x = ⟨#[97]⟩ := eq_of_bytes hx
        clear hx
        go_wp2_with (go_at_call 13; refine (aw14 _).mono ?_)
        rintro e2 w2 rfl hb2
        have hrg2 := hrg1.kept (below_grown hb2) (by simp) (by simp)
        go_wp2
        go_roundw
        case rel => exact ⟨_, _, hrg2, below_next hblx hb2⟩
        case measure => rw [hrg2.left_eq, HL.out]; exact hlt
      · obtain rfl : x = ⟨#[34, 10]⟩ := eq_of_bytes hx
        clear hx
        go_wp2_with (go_at_call 13; refine (aw15 _).mono ?_)
        rintro e2 w2 rfl hb2
        have hrg2 := hrg1.kept (below_grown hb2) (by simp) (by simp)
        go_wp2
        go_roundw
        case rel => exact ⟨_, _, hrg2, below_next hblx hb2⟩
        case measure => rw [hrg2.left_eq, HL.out]; exact hlt
end Go.Proofs.Ytnognmgmhhbbiaa
