/- Marks; LentTexts, KeptTexts, ApartLabels of gaugerkit. (Printed by gen_5m.py.) -/
import Derived.Test.YtbilaghljlobpaaGreatL4X
import Derived.Test.YtbilaghljlobpaaGreatL5A
import Derived.BigQuiet
namespace Go.Proofs.YtbilaghljlobpaaGreat
open Go.RowKit

def Mark.txt (k i : Nat) : ByteArray := ⟨(Mark.any ((k : Int) % 256) ((k : Int) / 256) ((k : Int) / 65536) ((i : Int) % 256) ((i : Int) / 256 % 256) ((i : Int) / 65536 % 256)).toArray⟩
def Mark.labk (k i : Nat) : Lab.L := ⟨Mark.txt k i, Mark.txt k (i + 1)⟩
set_option maxHeartbeats 1600000 in
set_option maxRecDepth 100000 in
theorem mtextk_is (k i : Nat) (hk : k ≤ 1000) (_hi : i ≤ 9223372036854775807) (w : World) :
    Calls Tryz.prog 71 #[.int .i64 (k : Int), .int .i64 (i : Int)] w fun e w' => e = .returned (.string (Mark.txt k i)) ∧ Below w.heap.size w w' := by
  have C0 := fun W => conv_any ((k : Int) % 256) ((k : Int) / 256) ((k : Int) / 65536) ((i : Int) % 256) ((i : Int) / 256 % 256) ((i : Int) / 65536 % 256) (by omega) (by omega) (by omega) (by omega) (by omega) (by omega) W
  go_enter Tryz.func71, Tryz.ntmps71
  go_wp2_with fail
  go_ret
  exact ⟨rfl, (Below.refl _ _).alloc (Nat.le_refl _) _⟩

set_option maxHeartbeats 1600000 in
set_option maxRecDepth 100000 in
theorem mlabk_is (k i : Nat) (hk : k ≤ 1000) (hi : i + 1 ≤ 9223372036854775807) (w : World) :
    Calls Tryz.prog 49 #[.int .i64 (k : Int), .int .i64 (i : Int)] w fun e w' => e = .returned (.agg #[.string (Mark.labk k i).n, .string (Mark.labk k i).v]) ∧ Below w.heap.size w w' := by
  have H1 := Lib.hid (fun w => mtextk_is k i hk (by omega) w)
  have H2 := mtextk_is k (i + 1) hk (by omega)
  have e1 : ((i + 1 : Nat) : Int) = (i : Int) + 1 := by omega
  obtain ⟨a, ha⟩ : ∃ a, Mark.txt k i = a := ⟨_, rfl⟩
  obtain ⟨b, hb⟩ : ∃ b, Mark.txt k (i + 1) = b := ⟨_, rfl⟩
  show Calls _ _ _ _ fun e w' => e = .returned (.agg #[.string (Mark.txt k i), .string (Mark.txt k (i + 1))]) ∧ Below w.heap.size w w'
  rw [ha] at H1 ⊢
  rw [hb] at H2 ⊢
  rw [e1] at H2
  have H2 := Lib.hid H2
  have n1 : IntKind.i64.wrap ((i : Int) + 1) = (i : Int) + 1 := by rw [IntKind.wrap_i64]; omega
  clear ha hb e1
  go_enter Tryz.func49, Tryz.ntmps49
  go_wp2_with (go_at_call 71; refine (H1.out _).mono ?_)
  first | rintro e w1 rfl hb1 | rintro e w1 ⟨rfl, hb1⟩
  have k1 := below_kept hb1 (alloc_new w _) (by simp)
  have hs1 := hb1.size
  simp only [World.size_alloc] at hs1
  go_wp2_with (go_at_call 71; refine (H2.out _).mono ?_)
  first | rintro e w2 rfl hb2 | rintro e w2 ⟨rfl, hb2⟩
  have k2 := below_kept hb2 k1 (by omega)
  have c0 : w2.cell? ⟨w.heap.size, 0, none⟩ = some (.string ⟨#[]⟩) := by rw [Lib.cell_of_heap k2]; rfl
  have c1 : w2.cell? ⟨w.heap.size, 1, none⟩ = some (.string ⟨#[]⟩) := by rw [Lib.cell_of_heap k2]; rfl
  have f0 : w2.frozen? ⟨w.heap.size, 0, none⟩ = false := Lib.frozen_of_heap k2 0
  have f1 : w2.frozen? ⟨w.heap.size, 1, none⟩ = false := Lib.frozen_of_heap k2 1
  have hB : Below w.heap.size w w2 := (((Below.refl _ _).alloc (Nat.le_refl _) _).trans (hb1.mono (by simp))).trans (hb2.mono (by omega))
  go_wp2_with fail
  have d0 : ((w2.setCell ⟨w.heap.size, 0, none⟩ (.string a)).setCell ⟨w.heap.size, 1, none⟩ (.string b)).cell? ⟨w.heap.size, 0, none⟩ = some (.string a) :=
    (World.cell?_setCell_other _ _ _ _ (by intro e; cases e)).trans (World.cell?_setCell_same' _ _ _ (by rw [c0]; rfl))
  have d1 : ((w2.setCell ⟨w.heap.size, 0, none⟩ (.string a)).setCell ⟨w.heap.size, 1, none⟩ (.string b)).cell? ⟨w.heap.size, 1, none⟩ = some (.string b) :=
    World.cell?_setCell_same' _ _ _ (by rw [World.cell?_setCell_other _ _ _ _ (by intro e; cases e), c1]; rfl)
  refine bodyPost_ret (v := .agg #[.string a, .string b]) ?_ rfl ⟨rfl, (hB.setCell (p := ⟨w.heap.size, 0, none⟩) (Nat.le_refl _) _).setCell (p := ⟨w.heap.size, 1, none⟩) (Nat.le_refl _) _⟩
  generalize (w2.setCell ⟨w.heap.size, 0, none⟩ (.string a)).setCell ⟨w.heap.size, 1, none⟩ (.string b) = W at d0 d1
  simp [results, Tryz.f49, go_sem, d0, d1]

def Mark.ts (k : Nat) : List ByteArray := (List.range k).map (Mark.txt 1)
theorem Mark.ts_succ (k : Nat) : Mark.ts (k + 1) = Mark.ts k ++ [Mark.txt 1 k] := by simp [Mark.ts, List.range_succ]
theorem Mark.ts_length (k : Nat) : (Mark.ts k).length = k := by simp [Mark.ts]
theorem Txt.At.cases {p : Option Addr} {xs : List ByteArray} {w : World} (h : Txt.At p xs w) :
    (p = none ∧ xs = []) ∨ ∃ ad : Addr, p = some ad ∧ ∀ (j : Nat) u, (xs.map Value.string)[j]? = some u → w.cell? (ad.add j) = some u := by
  rcases h with rfl | ⟨b, o, rfl, hc⟩
  · cases p with
    | none => exact .inl ⟨rfl, rfl⟩
    | some ad => exact .inr ⟨ad, rfl, fun j u hj => by simp at hj⟩
  · refine .inr ⟨_, rfl, fun j u hj => ?_⟩
    have e : (⟨b, o, none⟩ : Addr).add j = ⟨b, o + j, none⟩ := by unfold Addr.add; split <;> simp_all
    rw [e]
    rw [List.getElem?_map] at hj
    cases hx : xs[j]? with
    | none => rw [hx] at hj; simp at hj
    | some x =>
      obtain ⟨hlt, hx2⟩ := List.getElem?_eq_some_iff.1 hx
      rw [hx] at hj
      simp only [Option.map_some, Option.some.injEq] at hj
      rw [hc j hlt, hx2, hj]
theorem OwnTexts.form {B : Nat} {v : Value} {l : List ByteArray} {w : World} (h : OwnTexts B v l w) (hl : 0 < l.length) :
    ∃ g cap, v = .slice (some ⟨g, 0, none⟩) l.length cap ∧ B ≤ g ∧ g < w.heap.size ∧ l.length ≤ cap ∧ cap ≤ maxLen := by
  obtain ⟨_, h2⟩ := h
  rcases h2 with ⟨_, h0⟩ | ⟨g, cap, cur, rfl, hg, hh, hn, hc, _⟩
  · omega
  · exact ⟨g, cap, rfl, hg, lt_of_heap hh, hn, hc⟩

set_option maxHeartbeats 3200000 in
set_option maxRecDepth 100000 in
theorem lentt_is (p : Option Addr) (xs : List ByteArray) (n c : Nat) (w : World) (hn : xs.length = n) (hA : Txt.At p xs w) (hp : p = none → c = 0) (hl : n ≤ 100000) :
    Calls Tryz.prog 32 #[.slice p n c] w fun e w' => (∃ g cap, e = .returned (.slice (some ⟨g, 0, none⟩) n cap) ∧ OwnTexts w.heap.size (.slice (some ⟨g, 0, none⟩) (n + 12) cap) (xs ++ Mark.ts 12) w') ∧ Below w.heap.size w w' := by
  obtain ⟨i0, hi, hz0, hz1, hz2⟩ := info_parts infoStr
  have HI := Lib.hid hi
  have HN := Lib.hid hn
  rcases hA.cases with ⟨rfl, hls⟩ | ⟨ad, rfl, hnews0⟩
  case' inl =>
    obtain rfl := hp rfl
    obtain rfl : n = 0 := by rw [← hn, hls]; rfl
    clear hi hn hA
    go_enter Tryz.func32, Tryz.ntmps32
    go_wp2_with (at_make; refine wpList_make_own _ rfl _ _ 32 rfl w.heap.size 9 i0 _ 1 Tryz.underlying32 HI.out hz0 hz1 _ _ _ 12 rfl rfl ?e0 ?e1 ?e2 ?e3 ?_)
    case e2 => unfold maxLen; omega
    intro w1 hmk hg1
    have hb1 : Below w.heap.size w w1 := (Below.refl _ _).grown hg1 (Nat.le_refl _) (fun k e => by cases e)
    have hown2 : OwnTexts w.heap.size (.slice (some ⟨w.heap.size, 0, none⟩) 0 12) xs w1 := by rw [hls]; exact hmk
    have hb2 := hb1
    have hmk2 := hmk
    go_wp2_with (at_builtin; refine wpList_append_own_none rfl _ _ 32 rfl w.heap.size 9 i0 1 Tryz.underlying32 HI.out _ 0 _ rfl hmk2 rfl ?_; clear hmk2)
  case' inr =>
    clear hi hn hA
    go_enter Tryz.func32, Tryz.ntmps32
    go_wp2_with (at_make; refine wpList_make_own _ rfl _ _ 32 rfl w.heap.size 9 i0 _ 1 Tryz.underlying32 HI.out hz0 hz1 _ _ _ (n + 12) rfl rfl ?c0 ?c1 ?c2 ?c3 ?_)
    case c0 => omega
    case c1 => rw [hz2]; omega
    case c2 => unfold maxLen; omega
    case c3 => exact Nat.le_refl _
    intro w1 hmk hg1
    have hb1 : Below w.heap.size w w1 := (Below.refl _ _).grown hg1 (Nat.le_refl _) (fun k e => by cases e)
    have hnews := fun j u hj => cell_later hb1 (hnews0 j u hj) (Nat.le_refl _)
    have hnl : (xs.map Value.string).length = n * 1 := by rw [List.length_map, HN.out, Nat.mul_one]
    have hone : ∀ u ∈ xs.map Value.string, u.oneCell' = true := fun u hu => by
      obtain ⟨x, _, rfl⟩ := List.mem_map.1 hu
      rfl
    go_wp2_with (at_builtin; refine wpList_append_own _ rfl _ _ 32 rfl w.heap.size 9 i0 _ 1 16 Tryz.underlying32 HI.out hz0 hz1 hz2 rfl (by decide) _ 0 _ rfl hmk ad n c (xs.map Value.string) rfl hnl hnews hone ?c4 ?c5 ?c6 ?_)
    case c4 => unfold maxLen; omega
    case c5 => omega
    case c6 => exact hb1.size
    intro v2 w2 hown1 hg2 _
    have hown2 : OwnTexts w.heap.size v2 xs w2 := by
      unfold OwnTexts
      rw [HN.out]
      simpa using hown1
    have hb2 : Below w.heap.size w w2 := hb1.grown hg2 hb1.size (fun k e => by cases e; exact Nat.le_refl _)
  all_goals
    go_wp2_with fail
    go_loopw [3, 4] (fun v i wr => ∃ k : Nat, k ≤ 12 ∧ i = .int .i64 k ∧ OwnTexts w.heap.size v (xs ++ Mark.ts k) wr ∧ Below w.heap.size w wr) (fun _ i _ => 12 - (intOf i).toNat)
    case atStart => exact ⟨0, by omega, rfl, by rw [show Mark.ts 0 = [] from rfl, List.append_nil]; exact hown2, hb2⟩
    case round =>
      obtain ⟨k, hk, rfl, hown, hb⟩ := hrel
      have hsz := hb.size
      have hlk := congrArg (· + k) HN.out
      by_cases hlt : k < 12
      · have HM := Lib.hid (fun w => mtextk_is 1 k (by omega) (by omega) w)
        have HS := Lib.hid (Mark.ts_succ k)
        obtain ⟨y, hy⟩ : ∃ y, Mark.txt 1 k = y := ⟨_, rfl⟩
        rw [hy] at HM HS
        clear hy
        go_wp2_with (go_at_call 71; refine (HM.out _).mono ?_)
        first | rintro e w3 rfl hb3 | rintro e w3 ⟨rfl, hb3⟩
        have hown3 := hown.below hb3 (Nat.le_refl _)
        have hb4 := below_next hb hb3
        go_wp2_with (at_builtin; refine wpList_pushT rfl _ _ rfl _ _ _ _ rfl hown3 [y] _ _ rfl _ rfl (by simp) ?c1 ?c2 ?_)
        case c1 => rw [List.length_append, Mark.ts_length]; simp only [List.length_cons, List.length_nil]; omega
        case c2 => exact hb4.size
        intro v' w4 hown' hg
        have hb5 := below_push _ hb4 hown3 hg
        go_wp2_with fail
        go_roundw
        case rel => exact ⟨k + 1, by omega, by go_num, by rw [HS.out]; first | exact hown' | (rw [← List.append_assoc]; exact hown') | (rw [hls, List.nil_append]; exact hown'), hb5⟩
        case measure => simp [intOf]; omega
      · obtain rfl : k = 12 := by omega
        obtain ⟨g, cap, rfl, hg1, hg2, hg3, hg4⟩ := hown.form (by rw [List.length_append, Mark.ts_length]; omega)
        have hll := HN.out
        try (have i1 : ((n : Int)) ≤ (cap : Int) := by rw [List.length_append, Mark.ts_length] at hg3; omega)
        go_wp2_with fail
        go_ret
        refine ⟨⟨g, cap, rfl, ?_⟩, hb⟩
        rw [List.length_append, Mark.ts_length, hll] at hown
        exact hown

set_option maxHeartbeats 3200000 in
set_option maxRecDepth 100000 in
theorem keptt_true (g cap : Nat) (p : Option Addr) (xs : List ByteArray) (n c B : Nat) (w : World) (hn : xs.length = n) (hA : Txt.At p xs w) (hl : n ≤ 100000)
    (hO : OwnTexts B (.slice (some ⟨g, 0, none⟩) (n + 12) cap) (xs ++ Mark.ts 12) w) :
    Calls Tryz.prog 46 #[.slice (some ⟨g, 0, none⟩) n cap, .slice p n c] w fun e w' => e = .returned (.bool true) ∧ Below w.heap.size w w' := by
  have HALL : Hid ((∀ i (h : i < xs.length), w.cell? ⟨g, i, none⟩ = some (.string xs[i])) ∧ (∀ k, k < 12 → w.cell? ⟨g, n + k, none⟩ = some (.string (Mark.txt 1 k))) ∧ n + 12 ≤ cap ∧ cap ≤ maxLen ∧ g < w.heap.size) := by
    rcases hO.open with ⟨_, h0⟩ | ⟨g', c', hv, hg, hle, hcm, hcell⟩
    · have := congrArg List.length h0
      rw [List.length_append, Mark.ts_length] at this
      simp only [List.length_nil] at this
      omega
    · rw [List.length_append, Mark.ts_length, hn] at hle hv
      simp only [Value.slice.injEq, Option.some.injEq, Addr.mk.injEq, and_true, true_and] at hv
      obtain ⟨rfl, rfl⟩ := hv
      refine ⟨fun i hi => hcell i _ ?_, fun k hk => hcell (n + k) _ ?_, hle, hcm, hg⟩
      · rw [List.getElem?_append_left hi]
        exact List.getElem?_eq_getElem hi
      · rw [List.getElem?_append_right (by omega), hn, Nat.add_sub_cancel_left]
        simp [Mark.ts, hk]
  obtain ⟨_, _, hcap, hcm, hg⟩ := HALL.out
  unfold maxLen at hcm
  have HN := Lib.hid hn
  have HA := Lib.hid hA
  have i1 : ((n : Int) + 12) ≤ (cap : Int) := by omega
  have q0 : ((n : Int) != (n : Int)) = false := by simp
  clear hO hA hn
  go_enter Tryz.func46, Tryz.ntmps46
  go_wp2_with fail
  go_loopw [6] (fun i wr => ∃ k : Nat, k ≤ n + 12 ∧ i = .int .i64 (k : Int) ∧ Below w.heap.size w wr) (fun i _ => n + 12 - (intOf i).toNat)
  case atStart => exact ⟨0, by omega, rfl, Below.refl _ _⟩
  case round =>
    obtain ⟨k, hk, rfl, hb⟩ := hrel
    have hsz := hb.size
    by_cases hlt : k < n + 12
    · have n0 : (0 : Int) ≤ (k : Int) := by omega
      have n1 : (k : Int) < (n : Int) + 12 := by omega
      by_cases hlo : k < n
      · have hkx : k < xs.length := by rw [HN.out]; exact hlo
        obtain ⟨b1, o1, rfl, hc⟩ := (HA.out.below hb (Nat.le_refl _)).open k hkx
        have d0 := cell_later hb (HALL.out.1 k hkx) (Nat.le_refl _)
        have d1 := hc k hkx
        obtain ⟨y, hy⟩ : ∃ y, xs[k] = y := ⟨_, rfl⟩
        rw [hy] at d0 d1
        have q1 : (y.toList == y.toList) = true := by simp
        have n2 : (k : Int) < (n : Int) := by omega
        have n3 : decide ((k : Int) < (n : Int)) = true := decide_eq_true n2
        have n4 : decide ((n : Int) ≤ (k : Int)) = false := decide_eq_false (by omega)
        have n5 : decide (k < n) = true := decide_eq_true hlo
        have n6 : decide (n ≤ k) = false := decide_eq_false (by omega)
        clear hy hc
        go_wp2_with fail
        go_quiet (fail)
        go_wp2_with fail
        go_roundw
        case rel => exact ⟨k + 1, by omega, by go_num, below_drewN hb _⟩
        case measure => simp [intOf]; omega
      · obtain ⟨j, rfl⟩ : ∃ j, k = n + j := ⟨k - n, by omega⟩
        have hj : j < 12 := by omega
        have d0 := cell_later hb (HALL.out.2.1 j hj) (Nat.le_refl _)
        have HM := Lib.hid (fun w => mtextk_is 1 j (by omega) (by omega) w)
        obtain ⟨y, hy⟩ : ∃ y, Mark.txt 1 j = y := ⟨_, rfl⟩
        rw [hy] at HM d0
        have q1 : (y.toList == y.toList) = true := by simp
        have m1 : (0 : Int) ≤ (n : Int) + (j : Int) := by omega
        have n2 : (n : Int) ≤ (n : Int) + (j : Int) := by omega
        have n3 : decide ((n : Int) + (j : Int) < (n : Int)) = false := decide_eq_false (by omega)
        have n4 : decide ((n : Int) ≤ (n : Int) + (j : Int)) = true := decide_eq_true n2
        have n5 : decide (n + j < n) = false := decide_eq_false (by omega)
        have n6 : decide (n ≤ n + j) = true := decide_eq_true (by omega)
        have n7 : IntKind.i64.wrap ((n : Int) + (j : Int) - (n : Int)) = (j : Int) := by rw [IntKind.wrap_i64]; omega
        have n8 : ((n : Int) + (j : Int)).toNat = n + j := by omega
        have n9 : (n : Int) + (j : Int) < (n : Int) + 12 := by omega
        have HK : Hid (∀ w', Below wr.heap.size wr w' → w'.cell? ⟨g, n + j, none⟩ = some (.string y)) := fun w' h => cell_later h d0 (Nat.le_refl _)
        clear hy
        go_wp2_with fail
        refine wp_region_held_drew (S := fun w' => w'.cell? ⟨g, n + j, none⟩ = some (.string y)) (by kernel_rfl) (by assumption) (fun hHeld => ?_)
        refine Lab.take (i := 0) (v := ?_) rfl (by kernel_rfl) (by kernel_rfl) (by kernel_rfl) (fun _ _ _ h => h) (.inl ⟨by rfl, ?_⟩) (by assumption) ?_
        rotate_left
        · (intro w9 hS9; (try dsimp only at hS9); go_simp; try with_reducible rfl)
        try simp only [Act.put, List.setIfInBounds_toArray, List.set_cons_zero, List.set_cons_succ]
        refine Lab.take (i := 1) (v := ?_) rfl (by kernel_rfl) (by kernel_rfl) (by kernel_rfl) (fun _ _ _ h => h) (.inl ⟨by rfl, ?_⟩) (by assumption) ?_
        rotate_left
        · (intro w9 hS9; (try dsimp only at hS9); go_simp; try with_reducible rfl)
        try simp only [Act.put, List.setIfInBounds_toArray, List.set_cons_zero, List.set_cons_succ]
        refine Lab.take (i := 2) (v := ?_) rfl (by kernel_rfl) (by kernel_rfl) (by kernel_rfl) (fun _ _ _ h => h) (.inl ⟨by rfl, ?_⟩) (by assumption) ?_
        rotate_left
        · (intro w9 hS9; (try dsimp only at hS9); go_simp; try with_reducible rfl)
        try simp only [Act.put, List.setIfInBounds_toArray, List.set_cons_zero, List.set_cons_succ]
        refine Lab.take (i := 3) (v := ?_) rfl (by kernel_rfl) (by kernel_rfl) (by kernel_rfl) (fun _ _ _ h => h) (.inl ⟨by rfl, ?_⟩) (by assumption) ?_
        rotate_left
        · (intro w9 hS9; (try dsimp only at hS9); go_simp; try with_reducible rfl)
        try simp only [Act.put, List.setIfInBounds_toArray, List.set_cons_zero, List.set_cons_succ]
        refine Lab.take (i := 4) (v := ?_) rfl (by kernel_rfl) (by kernel_rfl) (by kernel_rfl) (fun _ _ _ h => h) (.inl ⟨by rfl, ?_⟩) (by assumption) ?_
        rotate_left
        · (intro w9 hS9; (try dsimp only at hS9); go_simp; try with_reducible rfl)
        try simp only [Act.put, List.setIfInBounds_toArray, List.set_cons_zero, List.set_cons_succ]
        refine Lab.take (i := 5) (v := undef) rfl (by kernel_rfl) (by kernel_rfl) (by kernel_rfl) (fun _ _ _ h => h) (.inr ⟨by rfl, rfl⟩) (by assumption) ?_
        try simp only [Act.put, List.setIfInBounds_toArray, List.set_cons_zero, List.set_cons_succ]
        refine Lab.take (i := 6) (v := undef) rfl (by kernel_rfl) (by kernel_rfl) (by kernel_rfl) (fun _ _ _ h => h) (.inr ⟨by rfl, rfl⟩) (by assumption) ?_
        try simp only [Act.put, List.setIfInBounds_toArray, List.set_cons_zero, List.set_cons_succ]
        refine Lab.take (i := 7) (v := undef) rfl (by kernel_rfl) (by kernel_rfl) (by kernel_rfl) (fun _ _ _ h => h) (.inr ⟨by rfl, rfl⟩) (by assumption) ?_
        try simp only [Act.put, List.setIfInBounds_toArray, List.set_cons_zero, List.set_cons_succ]
        refine Lab.take (i := 8) (v := undef) rfl (by kernel_rfl) (by kernel_rfl) (by kernel_rfl) (fun _ _ _ h => h) (.inr ⟨by rfl, rfl⟩) (by assumption) ?_
        try simp only [Act.put, List.setIfInBounds_toArray, List.set_cons_zero, List.set_cons_succ]
        refine Lab.take (i := 9) (v := undef) rfl (by kernel_rfl) (by kernel_rfl) (by kernel_rfl) (fun _ _ _ h => h) (.inr ⟨by rfl, rfl⟩) (by assumption) ?_
        try simp only [Act.put, List.setIfInBounds_toArray, List.set_cons_zero, List.set_cons_succ]
        refine Lab.take (i := 10) (v := undef) rfl (by kernel_rfl) (by kernel_rfl) (by kernel_rfl) (fun _ _ _ h => h) (.inr ⟨by rfl, rfl⟩) (by assumption) ?_
        try simp only [Act.put, List.setIfInBounds_toArray, List.set_cons_zero, List.set_cons_succ]
        refine Lab.take (i := 11) (v := undef) rfl (by kernel_rfl) (by kernel_rfl) (by kernel_rfl) (fun _ _ _ h => h) (.inr ⟨by rfl, rfl⟩) (by assumption) ?_
        try simp only [Act.put, List.setIfInBounds_toArray, List.set_cons_zero, List.set_cons_succ]
        refine Lab.take (i := 12) (v := undef) rfl (by kernel_rfl) (by kernel_rfl) (by kernel_rfl) (fun _ _ _ h => h) (.inr ⟨by rfl, rfl⟩) (by assumption) ?_
        try simp only [Act.put, List.setIfInBounds_toArray, List.set_cons_zero, List.set_cons_succ]
        refine Lab.take (i := 13) (v := undef) rfl (by kernel_rfl) (by kernel_rfl) (by kernel_rfl) (fun _ _ _ h => h) (.inr ⟨by rfl, rfl⟩) (by assumption) ?_
        try simp only [Act.put, List.setIfInBounds_toArray, List.set_cons_zero, List.set_cons_succ]
        refine Lab.take (i := 14) (v := undef) rfl (by kernel_rfl) (by kernel_rfl) (by kernel_rfl) (fun _ _ _ h => h) (.inr ⟨by rfl, rfl⟩) (by assumption) ?_
        try simp only [Act.put, List.setIfInBounds_toArray, List.set_cons_zero, List.set_cons_succ]
        refine Lab.take (i := 15) (v := ?_) rfl (by kernel_rfl) (by kernel_rfl) (by kernel_rfl) (fun _ _ _ h => h) (.inl ⟨by rfl, ?_⟩) (by assumption) ?_
        rotate_left
        · (intro w9 hS9; (try dsimp only at hS9); go_simp; try with_reducible rfl)
        try simp only [Act.put, List.setIfInBounds_toArray, List.set_cons_zero, List.set_cons_succ]
        refine Lab.take (i := 16) (v := ?_) rfl (by kernel_rfl) (by kernel_rfl) (by kernel_rfl) (fun _ _ _ h => h) (.inl ⟨by rfl, ?_⟩) (by assumption) ?_
        rotate_left
        · (intro w9 hS9; (try dsimp only at hS9); go_simp; try with_reducible rfl)
        try simp only [Act.put, List.setIfInBounds_toArray, List.set_cons_zero, List.set_cons_succ]
        refine Lab.take (i := 17) (v := ?_) rfl (by kernel_rfl) (by kernel_rfl) (by kernel_rfl) (fun _ _ _ h => h) (.inl ⟨by rfl, ?_⟩) (by assumption) ?_
        rotate_left
        · (intro w9 hS9; (try dsimp only at hS9); go_simp; try with_reducible rfl)
        try simp only [Act.put, List.setIfInBounds_toArray, List.set_cons_zero, List.set_cons_succ]
        refine Lab.take (i := 18) (v := ?_) rfl (by kernel_rfl) (by kernel_rfl) (by kernel_rfl) (fun _ _ _ h => h) (.inl ⟨by rfl, ?_⟩) (by assumption) ?_
        rotate_left
        · (intro w9 hS9; (try dsimp only at hS9); go_simp; try with_reducible rfl)
        try simp only [Act.put, List.setIfInBounds_toArray, List.set_cons_zero, List.set_cons_succ]
        refine Lab.take (i := 19) (v := ?_) rfl (by kernel_rfl) (by kernel_rfl) (by kernel_rfl) (fun _ _ _ h => h) (.inl ⟨by rfl, ?_⟩) (by assumption) ?_
        rotate_left
        · (intro w9 hS9; (try dsimp only at hS9); go_simp; try with_reducible rfl)
        try simp only [Act.put, List.setIfInBounds_toArray, List.set_cons_zero, List.set_cons_succ]
        refine Lab.take (i := 20) (v := ?_) rfl (by kernel_rfl) (by kernel_rfl) (by kernel_rfl) (fun _ _ _ h => h) (.inl ⟨by rfl, ?_⟩) (by assumption) ?_
        rotate_left
        · (intro w9 hS9; (try dsimp only at hS9); go_simp; try with_reducible rfl)
        try simp only [Act.put, List.setIfInBounds_toArray, List.set_cons_zero, List.set_cons_succ]
        refine Lab.take (i := 21) (v := ?_) rfl (by kernel_rfl) (by kernel_rfl) (by kernel_rfl) (fun _ _ _ h => h) (.inl ⟨by rfl, ?_⟩) (by assumption) ?_
        rotate_left
        · (intro w9 hS9; (try dsimp only at hS9); go_simp; try with_reducible rfl)
        try simp only [Act.put, List.setIfInBounds_toArray, List.set_cons_zero, List.set_cons_succ]
        refine Lab.take (i := 22) (v := ?_) rfl (by kernel_rfl) (by kernel_rfl) (by kernel_rfl) (fun _ _ _ h => h) (.inl ⟨by rfl, ?_⟩) (by assumption) ?_
        rotate_left
        · (intro w9 hS9; (try dsimp only at hS9); go_simp; try with_reducible rfl)
        try simp only [Act.put, List.setIfInBounds_toArray, List.set_cons_zero, List.set_cons_succ]
        refine Lab.take (i := 23) (v := ?_) rfl (by kernel_rfl) (by kernel_rfl) (by kernel_rfl) (fun _ _ _ h => h) (.inl ⟨by rfl, ?_⟩) (by assumption) ?_
        rotate_left
        · (intro w9 hS9; (try dsimp only at hS9); go_simp; try with_reducible rfl)
        try simp only [Act.put, List.setIfInBounds_toArray, List.set_cons_zero, List.set_cons_succ]
        refine Lab.take (i := 24) (v := ?_) rfl (by kernel_rfl) (by kernel_rfl) (by kernel_rfl) (fun _ _ _ h => h) (.inl ⟨by rfl, ?_⟩) (by assumption) ?_
        rotate_left
        · (intro w9 hS9; (try dsimp only at hS9); go_simp; try with_reducible rfl)
        try simp only [Act.put, List.setIfInBounds_toArray, List.set_cons_zero, List.set_cons_succ]
        refine Lab.take (i := 25) (v := ?_) rfl (by kernel_rfl) (by kernel_rfl) (by kernel_rfl) (fun _ _ _ h => h) (.inl ⟨by rfl, ?_⟩) (by assumption) ?_
        rotate_left
        · (intro w9 hS9; (try dsimp only at hS9); go_simp; try with_reducible rfl)
        try simp only [Act.put, List.setIfInBounds_toArray, List.set_cons_zero, List.set_cons_succ]
        refine Lab.take (i := 26) (v := ?_) rfl (by kernel_rfl) (by kernel_rfl) (by kernel_rfl) (fun _ _ _ h => h) (.inl ⟨by rfl, ?_⟩) (by assumption) ?_
        rotate_left
        · (intro w9 hS9; (try dsimp only at hS9); go_simp; try with_reducible rfl)
        try simp only [Act.put, List.setIfInBounds_toArray, List.set_cons_zero, List.set_cons_succ]
        refine Lab.take (i := 27) (v := ?_) rfl (by kernel_rfl) (by kernel_rfl) (by kernel_rfl) (fun _ _ _ h => h) (.inl ⟨by rfl, ?_⟩) (by assumption) ?_
        rotate_left
        · (intro w9 hS9; (try dsimp only at hS9); go_simp; try with_reducible rfl)
        try simp only [Act.put, List.setIfInBounds_toArray, List.set_cons_zero, List.set_cons_succ]
        refine Lab.take (i := 28) (v := ?_) rfl (by kernel_rfl) (by kernel_rfl) (by kernel_rfl) (fun _ _ _ h => h) (.inl ⟨by rfl, ?_⟩) (by assumption) ?_
        rotate_left
        · (intro w9 hS9; (try dsimp only at hS9); go_simp; try with_reducible rfl)
        try simp only [Act.put, List.setIfInBounds_toArray, List.set_cons_zero, List.set_cons_succ]
        refine Lab.take (i := 29) (v := ?_) rfl (by kernel_rfl) (by kernel_rfl) (by kernel_rfl) (fun _ _ _ h => h) (.inl ⟨by rfl, ?_⟩) (by assumption) ?_
        rotate_left
        · (intro w9 hS9; (try dsimp only at hS9); go_simp; try with_reducible rfl)
        try simp only [Act.put, List.setIfInBounds_toArray, List.set_cons_zero, List.set_cons_succ]
        refine wpAnyH_ready (rs := [30]) (by kernel_rfl) (by simp) ?_
        refine AllReadyH.cons rfl (fun K hK => ?_) AllReadyH.nil
        go_simp
        (go_at_call 71; refine (HM.out _).mono ?_; rintro e w3 ⟨rfl, hb3⟩)
        refine hK.out _ _ (cell_later hb3 hHeld (Nat.le_refl _)) (fun hHeld => ?_)
        clear hK K
        try simp only [Act.put, List.setIfInBounds_toArray, List.set_cons_zero, List.set_cons_succ]
        refine Lab.take (i := 31) (v := ?_) rfl (by kernel_rfl) (by kernel_rfl) (by kernel_rfl) (fun _ _ _ h => h) (.inl ⟨by rfl, ?_⟩) (by assumption) ?_
        rotate_left
        · (intro w9 hS9; (try dsimp only at hS9); go_simp; try with_reducible rfl)
        try simp only [Act.put, List.setIfInBounds_toArray, List.set_cons_zero, List.set_cons_succ]
        refine Lab.take (i := 32) (v := ?_) rfl (by kernel_rfl) (by kernel_rfl) (by kernel_rfl) (fun _ _ _ h => h) (.inl ⟨by rfl, ?_⟩) (by assumption) ?_
        rotate_left
        · (intro w9 hS9; (try dsimp only at hS9); go_simp; try with_reducible rfl)
        try simp only [Act.put, List.setIfInBounds_toArray, List.set_cons_zero, List.set_cons_succ]
        refine Lab.take (i := 33) (v := ?_) rfl (by kernel_rfl) (by kernel_rfl) (by kernel_rfl) (fun _ _ _ h => h) (.inl ⟨by rfl, ?_⟩) (by assumption) ?_
        rotate_left
        · (intro w9 hS9; (try dsimp only at hS9); go_simp; try with_reducible rfl)
        try simp only [Act.put, List.setIfInBounds_toArray, List.set_cons_zero, List.set_cons_succ]
        refine Lab.take (i := 34) (v := ?_) rfl (by kernel_rfl) (by kernel_rfl) (by kernel_rfl) (fun _ _ _ h => h) (.inl ⟨by rfl, ?_⟩) (by assumption) ?_
        rotate_left
        · (intro w9 hS9; (try dsimp only at hS9); go_simp; try with_reducible rfl)
        try simp only [Act.put, List.setIfInBounds_toArray, List.set_cons_zero, List.set_cons_succ]
        refine wpAnyH_done (by kernel_rfl) ?_ _
        have hb4 : Below w.heap.size w w3 := below_next hb.drew hb3
        go_wp2_with fail
        go_roundw
        case rel => exact ⟨n + j + 1, by omega, by go_num, hb4⟩
        case measure => simp [intOf]; omega
    · obtain rfl : k = n + 12 := by omega
      go_wp2_with fail
      go_ret
      exact ⟨rfl, hb⟩

/-- a slice of labels as it stands in a cell -/
structure Apart.S where
  p : Option Addr
  n : Nat
  c : Nat
/-- the first m of a slice's places hold its marks -/
def Apart.Full (k : Nat) (s : Apart.S) (m : Nat) (w : World) : Prop :=
  ∀ g, s.p = some ⟨g, 0, none⟩ → ∀ t, t < m → w.cell? ⟨g, t * 2, none⟩ = some (.string (Mark.labk k t).n) ∧ w.cell? ⟨g, t * 2 + 1, none⟩ = some (.string (Mark.labk k t).v)
theorem Apart.Full.below {k : Nat} {s : Apart.S} {m : Nat} {w w' : World} (h : Apart.Full k s m w) (hb : Below w.heap.size w w') : Apart.Full k s m w' :=
  fun g hg t ht => ⟨cell_later hb (h g hg t ht).1 (Nat.le_refl _), cell_later hb (h g hg t ht).2 (Nat.le_refl _)⟩
theorem Apart.Full.other {k : Nat} {s : Apart.S} {m : Nat} {w : World} (h : Apart.Full k s m w) (g o : Nat) (v : Value) (hg : ∀ g', s.p = some ⟨g', 0, none⟩ → g' ≠ g) : Apart.Full k s m (w.setCell ⟨g, o, none⟩ v) := by
  intro g' hg' t ht
  have hne := hg g' hg'
  have h1 := h g' hg' t ht
  exact ⟨(World.cell?_setCell_other _ _ _ _ (by intro e; cases e; exact hne rfl)).trans h1.1, (World.cell?_setCell_other _ _ _ _ (by intro e; cases e; exact hne rfl)).trans h1.2⟩
theorem Apart.Full.next {k g n c m : Nat} {w : World} (h : Apart.Full k ⟨some ⟨g, 0, none⟩, n, c⟩ m w) (h0 : (w.cell? ⟨g, m * 2, none⟩).isSome) (h1 : (w.cell? ⟨g, m * 2 + 1, none⟩).isSome) :
    Apart.Full k ⟨some ⟨g, 0, none⟩, n, c⟩ (m + 1) ((w.setCell ⟨g, m * 2, none⟩ (.string (Mark.labk k m).n)).setCell ⟨g, m * 2 + 1, none⟩ (.string (Mark.labk k m).v)) := by
  intro g' hg' t ht
  simp only [Option.some.injEq, Addr.mk.injEq, and_true] at hg'
  subst hg'
  by_cases e : t = m
  · subst e
    refine ⟨(World.cell?_setCell_other _ _ _ _ (by intro e; simp only [Addr.mk.injEq] at e; omega)).trans (World.cell?_setCell_same' _ _ _ ?_), World.cell?_setCell_same' _ _ _ ?_⟩
    · exact h0
    · rw [World.cell?_setCell_other _ _ _ _ (by intro e; simp only [Addr.mk.injEq] at e; omega)]
      exact h1
  · have q := h g rfl t (by omega)
    refine ⟨(World.cell?_setCell_other _ _ _ _ (by intro e; simp only [Addr.mk.injEq] at e; omega)).trans ((World.cell?_setCell_other _ _ _ _ (by intro e; simp only [Addr.mk.injEq] at e; omega)).trans q.1), (World.cell?_setCell_other _ _ _ _ (by intro e; simp only [Addr.mk.injEq] at e; omega)).trans ((World.cell?_setCell_other _ _ _ _ (by intro e; simp only [Addr.mk.injEq] at e; omega)).trans q.2)⟩

set_option maxHeartbeats 6400000 in
set_option maxRecDepth 100000 in
theorem apart_is (B b c0 N : Nat) (vs : List Apart.S) (C : Array Value) (w : World) (hN : vs.length = N) (hN2 : N ≤ 900) (hb : w.heap[b]? = some (.cells C 25)) (hC : ∀ i (h : i < vs.length), C[i]? = some (.slice vs[i].p vs[i].n vs[i].c))
    (hR : ∀ i (h : i < vs.length), Lab.Room B vs[i].p vs[i].n vs[i].c w) (hD : ∀ i j (hi : i < vs.length) (hj : j < vs.length), i < j → ∀ g, vs[i].p = some ⟨g, 0, none⟩ → vs[j].p ≠ some ⟨g, 0, none⟩) (hB : B ≤ w.heap.size) :
    Calls Tryz.prog 47 #[.slice (some ⟨b, 0, none⟩) N c0] w fun e w' => e = .returned (.bool true) ∧ Below B w w' := by
  have HN := Lib.hid hN
  have HR := Lib.hid hR
  have HD := Lib.hid hD
  have HC : Hid (∀ i (h : i < vs.length) w', Over w w' → w'.cell? ⟨b, i, none⟩ = some (.slice vs[i].p vs[i].n vs[i].c)) := fun i h w' ho => by
    rw [Lib.cell_of_heap (ho.other hb (by decide))]
    exact hC i h
  clear hN hR hD hC hb
  go_enter Tryz.func47, Tryz.ntmps47
  go_wp2_with fail
  go_loopw [3] (fun i wr => ∃ k : Nat, k ≤ N ∧ i = .int .i64 (k : Int) ∧ Hid (Over w wr) ∧ Hid (∀ j (h : j < vs.length), j < k → Apart.Full (20 + j) vs[j] vs[j].c wr) ∧ Below B w wr) (fun i _ => N - (intOf i).toNat)
  case atStart => exact ⟨0, by omega, rfl, Over.refl _, fun j _ h => absurd h (by omega), Below.refl _ _⟩
  case round =>
    obtain ⟨wo, rfl⟩ : ∃ wo : World, wo = wr := ⟨_, rfl⟩
    obtain ⟨i, hi, rfl, HO, HF, hb⟩ := hrel
    have hsz := hb.size
    by_cases hlt : i < N
    · have hiv : i < vs.length := by rw [HN.out]; exact hlt
      have hcell := HC.out i hiv wo HO.out
      have hroom := (HR.out i hiv).over HO.out
      have n0 : (0 : Int) ≤ (i : Int) := by omega
      have n1 : (i : Int) < (N : Int) := by omega
      have n2 : IntKind.i64.wrap (20 + (i : Int)) = 20 + (i : Int) := by rw [IntKind.wrap_i64]; omega
      have HDF : Hid (∀ j (h : j < vs.length), j < i → ∀ g, vs[i].p = some ⟨g, 0, none⟩ → ∀ g', vs[j].p = some ⟨g', 0, none⟩ → g' ≠ g) := fun j h hj g hg g' hg' e => by
        subst e
        exact HD.out j i h hiv hj g' hg' hg
      have HFL := HF
      obtain ⟨s, hs⟩ : ∃ s, vs[i] = s := ⟨_, rfl⟩
      rw [hs] at hcell hroom HDF
      have HS := Lib.hid hs
      clear hs
      obtain ⟨sp, sn, sc⟩ := s
      dsimp only at hcell hroom HDF
      rcases hroom with ⟨rfl, rfl, rfl⟩ | ⟨g, cur, rfl, hgB, hh, hcs, hnc, hcm⟩
      · have HF2 : Hid (∀ w', Over wo w' → (∀ j (h : j < vs.length), j < i → Apart.Full (20 + j) vs[j] vs[j].c w') → ∀ j (h : j < vs.length), j < i + 1 → Apart.Full (20 + j) vs[j] vs[j].c w') := fun w' _ hf j h hj => by
          by_cases e : j = i
          · subst e
            rw [HS.out]
            intro g' hg'
            cases hg'
          · exact hf j h (by omega)
        clear HDF HFL
        go_wp2_with fail
        go_quiet (fail)
        go_wp2_with fail
        go_loopw [5] (fun q wq => q = .int .i64 0 ∧ ∃ m, wq = wo.drewN m) (fun _ _ => 0)
        case atStart => exact ⟨rfl, _, rfl⟩
        case round =>
          obtain ⟨rfl, m, rfl⟩ := hrel
          have hbd : Below wo.heap.size wo (wo.drewN m) := below_drewN (Below.refl _ _) m
          have HO2 : Hid (Over w (wo.drewN m)) := HO.out.trans (Over.below hbd)
          have HF3 : Hid (∀ j (h : j < vs.length), j < i + 1 → Apart.Full (20 + j) vs[j] vs[j].c (wo.drewN m)) := HF2.out _ (Over.below hbd) (fun j h hj => (HF.out j h hj).below hbd)
          go_wp2_with fail
          go_roundw
          case rel => exact ⟨i + 1, by omega, by go_num, HO2, HF3, below_drewN hb m⟩
          case measure => simp [intOf]; omega
      · unfold maxLen at hcm
        have hgw := lt_of_heap hh
        have HCS := Lib.hid hcs
        have HH := Lib.hid hh
        have i1 : ((sc : Int)) ≤ (sc : Int) := by omega
        have i2 : ((sn : Int)) ≤ (sc : Int) := by omega
        clear hcs hh
        go_wp2_with fail
        go_quiet (fail)
        go_wp2_with fail
        go_loopw [5] (fun q wq => ∃ k : Nat, k ≤ sc ∧ q = .int .i64 (k : Int) ∧ Hid (Over wo wq) ∧ Hid (∀ j (h : j < vs.length), j < i → Apart.Full (20 + j) vs[j] vs[j].c wq) ∧ Hid (Apart.Full (20 + i) ⟨some ⟨g, 0, none⟩, sn, sc⟩ k wq) ∧ Below B w wq) (fun q _ => sc - (intOf q).toNat)
        case atStart => exact ⟨0, by omega, rfl, Over.below (below_drewN (Below.refl _ _) _), fun j h hj => (HF.out j h hj).below (below_drewN (Below.refl _ _) _), fun _ _ t ht => absurd ht (by omega), below_drewN hb _⟩
        case round =>
          clear hb
          obtain ⟨k, hk, rfl, HO1, HF1, HG1, hb⟩ := hrel
          have hszq := hb.size
          by_cases hlt2 : k < sc
          · have HM := Lib.hid (fun w => mlabk_is (20 + i) k (by omega) (by omega) w)
            rw [show ((20 + i : Nat) : Int) = 20 + (i : Int) by omega] at HM
            obtain ⟨y, hy⟩ : ∃ y, Mark.labk (20 + i) k = y := ⟨_, rfl⟩
            rw [hy] at HM
            have m1 : (0 : Int) ≤ (k : Int) := by omega
            have m2 : (k : Int) < (sc : Int) := by omega
            go_wp2_with (go_at_call 49; refine (HM.out _).mono ?_)
            first | rintro e w1 rfl hb1 | rintro e w1 ⟨rfl, hb1⟩
            have ho1 : Over wo w1 := HO1.out.trans (Over.below hb1)
            have hb2 : Below B w w1 := hb.trans (hb1.mono (by omega))
            obtain ⟨cur1, q1, q2⟩ := ho1.shape HH.out
            have q3 : k * 2 + 1 < cur1.size := by have := HCS.out; omega
            have c0 : w1.cell? ⟨g, k * 2, none⟩ = some cur1[k * 2] := by rw [Lib.cell_of_heap q1, Array.getElem?_eq_getElem (by omega)]
            have c1 : w1.cell? ⟨g, k * 2 + 1, none⟩ = some cur1[k * 2 + 1] := by rw [Lib.cell_of_heap q1, Array.getElem?_eq_getElem (by omega)]
            have f0 : w1.frozen? ⟨g, k * 2, none⟩ = false := Lib.frozen_of_heap q1 _
            have f1 : w1.frozen? ⟨g, k * 2 + 1, none⟩ = false := Lib.frozen_of_heap q1 _
            have o1 := Over.set (i := k * 2) q1 (.string y.n)
            obtain ⟨cur2, r1, r2⟩ := o1.shape q1
            have o2 := Over.set (i := k * 2 + 1) r1 (.string y.v)
            have HOE := Lib.hid ((ho1.trans o1).trans o2)
            have hf1 : ∀ j (h : j < vs.length), j < i → Apart.Full (20 + j) vs[j] vs[j].c ((w1.setCell ⟨g, k * 2, none⟩ (.string y.n)).setCell ⟨g, k * 2 + 1, none⟩ (.string y.v)) := fun j h hj =>
              (((HF1.out j h hj).below hb1).other g (k * 2) _ (HDF.out j h hj g rfl)).other g (k * 2 + 1) _ (HDF.out j h hj g rfl)
            have hg1 := (HG1.out.below hb1).next (by rw [c0]; rfl) (by rw [c1]; rfl)
            rw [hy] at hg1
            have HF9 := Lib.hid hf1
            have HG9 := Lib.hid hg1
            have hbE := (hb2.setCell (p := ⟨g, k * 2, none⟩) hgB (.string y.n)).setCell (p := ⟨g, k * 2 + 1, none⟩) hgB (.string y.v)
            clear ho1 q1 r1 o1 o2 hy hf1 hg1 hb1 hb2 HO1 HF1 HG1 hb
            go_wp2_with fail
            go_roundw
            case rel => exact ⟨k + 1, by omega, by go_num, HOE, HF9, HG9, hbE⟩
            case measure => simp [intOf]; omega
          · obtain rfl : k = sc := by omega
            have HO2 : Hid (Over w wr) := HO.out.trans HO1.out
            have HF3 : Hid (∀ j (h : j < vs.length), j < i + 1 → Apart.Full (20 + j) vs[j] vs[j].c wr) := by
              show ∀ j (h : j < vs.length), _
              intro j h hj
              by_cases e : j = i
              · subst e
                rw [HS.out]
                exact HG1.out
              · exact HF1.out j h (by omega)
            go_wp2_with fail
            go_roundw
            case rel => exact ⟨i + 1, by omega, by go_num, HO2, HF3, hb⟩
            case measure => simp [intOf]; omega
    · obtain rfl : i = N := by omega
      have HFA : Hid (∀ j (h : j < vs.length), Apart.Full (20 + j) vs[j] vs[j].c wo) := fun j h => HF.out j h (by rw [← HN.out]; exact h)
      have HRA : Hid (∀ j (h : j < vs.length), Lab.Room B vs[j].p vs[j].n vs[j].c wo) := fun j h => (HR.out j h).over HO.out
      have HCA : Hid (∀ j (h : j < vs.length), wo.cell? ⟨b, j, none⟩ = some (.slice vs[j].p vs[j].n vs[j].c)) := fun j h => HC.out j h wo HO.out
      have HBA := Lib.hid hb
      clear HO HF hb HC HR
      go_wp2_with fail
      go_loopw [6] (fun q wq => ∃ k : Nat, k ≤ i ∧ q = .int .i64 (k : Int) ∧ Below wo.heap.size wo wq) (fun q _ => i - (intOf q).toNat)
      case atStart => exact ⟨0, by omega, rfl, Below.refl _ _⟩
      case round =>
        obtain ⟨wp, rfl⟩ : ∃ wp : World, wp = wr := ⟨_, rfl⟩
        obtain ⟨j, hj, rfl, hb⟩ := hrel
        have hszq := hb.size
        by_cases hlt3 : j < i
        · have hjv : j < vs.length := by rw [HN.out]; exact hlt3
          have hcell := cell_later hb (HCA.out j hjv) (Nat.le_refl _)
          have hroom := HRA.out j hjv
          have hfull := HFA.out j hjv
          have n0 : (0 : Int) ≤ (j : Int) := by omega
          have n1 : (j : Int) < (i : Int) := by omega
          have n2 : IntKind.i64.wrap (20 + (j : Int)) = 20 + (j : Int) := by rw [IntKind.wrap_i64]; omega
          obtain ⟨s, hs⟩ : ∃ s, vs[j] = s := ⟨_, rfl⟩
          rw [hs] at hcell hroom hfull
          clear hs
          obtain ⟨sp, sn, sc⟩ := s
          dsimp only at hcell hroom hfull
          have HFU := Lib.hid hfull
          clear hfull
          rcases hroom with ⟨rfl, rfl, rfl⟩ | ⟨g, cur, rfl, hgB, hh, hcs, hnc, hcm⟩
          · go_wp2_with fail
            go_quiet (fail)
            go_wp2_with fail
            go_loopw [8] (fun q wq => q = .int .i64 0 ∧ Below wo.heap.size wo wq) (fun _ _ => 0)
            case atStart => exact ⟨rfl, below_drewN hb _⟩
            case round =>
              clear hb
              obtain ⟨rfl, hb⟩ := hrel
              go_wp2_with fail
              go_roundw
              case rel => exact ⟨j + 1, by omega, by go_num, hb⟩
              case measure => simp [intOf]; omega
          · unfold maxLen at hcm
            have hgw := lt_of_heap hh
            have i1 : ((sc : Int)) ≤ (sc : Int) := by omega
            have i2 : ((sn : Int)) ≤ (sc : Int) := by omega
            clear hcs hh
            go_wp2_with fail
            go_quiet (fail)
            go_wp2_with fail
            go_loopw [8] (fun q wq => ∃ k : Nat, k ≤ sc ∧ q = .int .i64 (k : Int) ∧ Below wo.heap.size wo wq) (fun q _ => sc - (intOf q).toNat)
            case atStart => exact ⟨0, by omega, rfl, below_drewN hb _⟩
            case round =>
              clear hb
              obtain ⟨k, hk, rfl, hb⟩ := hrel
              have hszq2 := hb.size
              by_cases hlt2 : k < sc
              · have d0 := cell_later hb (HFU.out g rfl k hlt2).1 (Nat.le_refl _)
                have d1 := cell_later hb (HFU.out g rfl k hlt2).2 (Nat.le_refl _)
                have HM := Lib.hid (fun w => mlabk_is (20 + j) k (by omega) (by omega) w)
                rw [show ((20 + j : Nat) : Int) = 20 + (j : Int) by omega] at HM
                obtain ⟨y, hy⟩ : ∃ y, Mark.labk (20 + j) k = y := ⟨_, rfl⟩
                rw [hy] at HM d0 d1
                have hneq := neqLab y
                have m1 : (0 : Int) ≤ (k : Int) := by omega
                have m2 : (k : Int) < (sc : Int) := by omega
                clear hy hcell
                go_wp2_with fail
                go_region_held3 (fun w' => w'.cell? ⟨g, k * 2, none⟩ = some (.string y.n) ∧ w'.cell? ⟨g, k * 2 + 1, none⟩ = some (.string y.v))
                  (first
                    | go_keep
                    | (go_split_ands
                       refine ⟨?_, ?_⟩
                       · (refine cell_later hb3 ?_ (Nat.le_refl _); assumption)
                       · (refine cell_later hb3 ?_ (Nat.le_refl _); assumption)))
                  ((go_at_call 49; refine (HM.out _).mono ?_; rintro e w3 ⟨rfl, hb3⟩))
                have hb4 : Below wo.heap.size wo w3 := by
                  first
                    | exact below_next hb hb3
                    | exact below_next (below_drewN hb _) hb3
                    | exact below_next hb.drew hb3
                    | exact below_next (hb.drew _) hb3
                go_wp2_with fail
                go_roundw
                case rel => exact ⟨k + 1, by omega, by go_num, hb4⟩
                case measure => simp [intOf]; omega
              · go_wp2_with fail
                go_roundw
                case rel => exact ⟨j + 1, by omega, by go_num, hb⟩
                case measure => simp [intOf]; omega
        · go_wp2_with fail
          go_ret
          exact ⟨rfl, HBA.out.trans (hb.mono (by have := HBA.out.size; omega))⟩
end Go.Proofs.YtbilaghljlobpaaGreat
