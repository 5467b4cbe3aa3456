/- Contracts of gaugerkit: labels compared, lent, kept; marks. Contract of gaugerlaw04.of. -/
import Derived.Test.YtbilaghljlobpaaGreatCanO
import Derived.Test.YtbilaghljlobpaaGreatCanP
import Derived.Test.YtbilaghljlobpaaGreatLabC
import Derived.Test.YtbilaghljlobpaaGreatL4Q
import Derived.Laws.StructEq
import Derived.Deep.RegionHeld3
import Derived.Laws.AppendOwnNone
import Derived.WalkArith
namespace Go.Proofs.YtbilaghljlobpaaGreat
open Go.RowKit
theorem below_push {w W w' : World} {e k n : Nat} {v : Value} {xs : List Value} (o : Obj) (hb : Below w.heap.size w W) (hown : W.ownsRow w.heap.size e k v n xs) (hg : (W.alloc o).grownBy w' v.ownBlock) : Below w.heap.size w w' :=
  (hb.alloc hb.size o).grown hg (by simp; exact Nat.le_succ_of_le hb.size) (fun j hj => (World.ownsRow.lt hown j hj).1)

end Go.Proofs.YtbilaghljlobpaaGreat
namespace Go.Proofs.YtbilaghljlobpaaGreat
open Go.RowKit

theorem neqLab (x : Lab.L) (w : World) : (binOp .neq 31 (.agg #[.string x.n, .string x.v]) (.agg #[.string x.n, .string x.v])).run Tryz.prog w = .ok (.bool false) w := by
  have hS : Tryz.prog.underlying 31 = some (.struct (Tryz.prog.fieldsOf 31)) := by kernel_rfl
  have hp : Tryz.prog.stoodInHeld 31 = false := by kernel_rfl
  rw [run_neq_struct, show (10000 : Nat) = 9999 + 1 from rfl, run_equalIn_agg w 9999 31 _ _ hS hp]
  have u9 := Tryz.underlying9
  have a9 := Tryz.isAgg9
  have z9 := Tryz.sizeOf9
  simp only [Program.fieldsOf, Tryz.underlying31]
  go_simp

set_option maxHeartbeats 800000 in
theorem same_true (p1 p2 : Option Addr) (ls : List Lab.L) (n c1 c2 : Nat) (w : World) (hn : ls.length = n) (hA : Lab.At p1 ls w) (hB : Lab.At p2 ls w) (hl : n ≤ maxLen) :
    Calls Tryz.prog 65 #[.slice p1 n c1, .slice p2 n c2] w fun e w' => e = .returned (.bool true) ∧ ∃ k, w' = w.drewN k := by
  unfold maxLen at hl
  have HN := Lib.hid hn
  have q0 : ((n : Int) != (n : Int)) = false := by simp
  clear hn
  go_enter Tryz.func65, Tryz.ntmps65
  go_wp2_with fail
  go_loopw [5] (fun i wr => ∃ k : Nat, k ≤ n ∧ i = .int .i64 k ∧ ∃ m, wr = w.drewN m) (fun i _ => n - (intOf i).toNat)
  case atStart => exact ⟨0, Nat.zero_le _, rfl, 0, rfl⟩
  case round =>
    obtain ⟨k, hk, rfl, m, rfl⟩ := hrel
    by_cases hlt : k < n
    · have hkl : k < ls.length := by rw [HN.out]; exact hlt
      obtain ⟨b1, o1, rfl, hc1⟩ := hA.open k hkl
      obtain ⟨b2, o2, rfl, hc2⟩ := hB.open k hkl
      obtain ⟨x, hx⟩ : ∃ x, ls[k] = x := ⟨_, rfl⟩
      have d0 := (hc1 k hkl).1
      have d1 := (hc1 k hkl).2
      have e0 := (hc2 k hkl).1
      have e1 := (hc2 k hkl).2
      rw [hx] at d0 d1 e0 e1
      have hneq := neqLab x
      clear hc1 hc2 hx hA hB
      go_wp2_with fail
      go_quiet (fail)
      go_wp2_with fail
      go_roundw
      case rel => exact ⟨k + 1, by omega, by go_num, _, rfl⟩
      case measure => simp [intOf]; omega
    · go_wp2_with fail
      go_ret
      exact ⟨rfl, m, rfl⟩

/-- the text of a mark of slice 9 -/
def Mark.text (i : Nat) : ByteArray := ⟨#[35, 9, 0, 0, 47, i.toUInt8, 0, 0]⟩
def Mark.lab (i : Nat) : Lab.L := ⟨Mark.text i, Mark.text (i + 1)⟩

theorem conv_bytes (l : List UInt8) (C : Array Value) (hC : C.toList = Lib.byteCells l) (W : World) (k : Nat) (hk : l.length = k) (hk2 : k ≤ 1000) :
    (convert 22 9 (.slice (some ⟨W.heap.size, 0, none⟩) k k)).run Tryz.prog (W.alloc (.cells C 5)) = .ok (.string ⟨l.toArray⟩) (W.alloc (.cells C 5)) := by
  subst hk
  have hz : C.size = l.length := by rw [← Array.length_toList, hC, Lib.byteCells_length]
  refine conv_own (B := W.heap.size) (l := l) ⟨by rw [Lib.byteCells_length]; omega, .inr ⟨W.heap.size, l.length, C, rfl, Nat.le_refl _, alloc_new _ _, by omega, by unfold maxLen; omega, by omega, ?_⟩⟩
  rw [hC, List.take_of_length_le]
  rw [Lib.byteCells_length]; omega

set_option maxHeartbeats 1600000 in
set_option maxRecDepth 100000 in
theorem mtext_is (i : Nat) (hi : i ≤ 4) (w : World) :
    Calls Tryz.prog 71 #[.int .i64 9, .int .i64 (i : Int)] w fun e w' => e = .returned (.string (Mark.text i)) ∧ Below w.heap.size w w' := by
  obtain rfl | rfl | rfl | rfl | rfl : i = 0 ∨ i = 1 ∨ i = 2 ∨ i = 3 ∨ i = 4 := by omega
  · have C0 := fun W => conv_bytes [35, 9, 0, 0, 47, 0, 0, 0] #[.int .u8 35, .int .u8 9, .int .u8 0, .int .u8 0, .int .u8 47, .int .u8 0, .int .u8 0, .int .u8 0] rfl W 8 rfl (by omega)
    go_enter Tryz.func71, Tryz.ntmps71
    go_wp2_with fail
    go_ret
    exact ⟨rfl, (Below.refl _ _).alloc (Nat.le_refl _) _⟩
  · have C0 := fun W => conv_bytes [35, 9, 0, 0, 47, 1, 0, 0] #[.int .u8 35, .int .u8 9, .int .u8 0, .int .u8 0, .int .u8 47, .int .u8 1, .int .u8 0, .int .u8 0] rfl W 8 rfl (by omega)
    go_enter Tryz.func71, Tryz.ntmps71
    go_wp2_with fail
    go_ret
    exact ⟨rfl, (Below.refl _ _).alloc (Nat.le_refl _) _⟩
  · have C0 := fun W => conv_bytes [35, 9, 0, 0, 47, 2, 0, 0] #[.int .u8 35, .int .u8 9, .int .u8 0, .int .u8 0, .int .u8 47, .int .u8 2, .int .u8 0, .int .u8 0] rfl W 8 rfl (by omega)
    go_enter Tryz.func71, Tryz.ntmps71
    go_wp2_with fail
    go_ret
    exact ⟨rfl, (Below.refl _ _).alloc (Nat.le_refl _) _⟩
  · have C0 := fun W => conv_bytes [35, 9, 0, 0, 47, 3, 0, 0] #[.int .u8 35, .int .u8 9, .int .u8 0, .int .u8 0, .int .u8 47, .int .u8 3, .int .u8 0, .int .u8 0] rfl W 8 rfl (by omega)
    go_enter Tryz.func71, Tryz.ntmps71
    go_wp2_with fail
    go_ret
    exact ⟨rfl, (Below.refl _ _).alloc (Nat.le_refl _) _⟩
  · have C0 := fun W => conv_bytes [35, 9, 0, 0, 47, 4, 0, 0] #[.int .u8 35, .int .u8 9, .int .u8 0, .int .u8 0, .int .u8 47, .int .u8 4, .int .u8 0, .int .u8 0] rfl W 8 rfl (by omega)
    go_enter Tryz.func71, Tryz.ntmps71
    go_wp2_with fail
    go_ret
    exact ⟨rfl, (Below.refl _ _).alloc (Nat.le_refl _) _⟩

set_option maxHeartbeats 1600000 in
set_option maxRecDepth 100000 in
theorem mlab_is (i : Nat) (hi : i ≤ 3) (w : World) :
    Calls Tryz.prog 49 #[.int .i64 9, .int .i64 (i : Int)] w fun e w' => e = .returned (.agg #[.string (Mark.lab i).n, .string (Mark.lab i).v]) ∧ Below w.heap.size w w' := by
  have H1 := Lib.hid (fun w => mtext_is i (by omega) w)
  have H2 := mtext_is (i + 1) (by omega)
  have e1 : ((i + 1 : Nat) : Int) = (i : Int) + 1 := by omega
  rw [e1] at H2
  have H2 := Lib.hid H2
  obtain ⟨a, ha⟩ : ∃ a, Mark.text i = a := ⟨_, rfl⟩
  obtain ⟨b, hb⟩ : ∃ b, Mark.text (i + 1) = b := ⟨_, rfl⟩
  show Calls _ _ _ _ fun e w' => e = .returned (.agg #[.string (Mark.text i), .string (Mark.text (i + 1))]) ∧ Below w.heap.size w w'
  rw [ha] at H1 ⊢
  rw [hb] at H2 ⊢
  have hi2 : (i : Int) ≤ 3 := by omega
  clear ha hb e1
  go_enter Tryz.func49, Tryz.ntmps49
  go_wp2_with (go_at_call 71; refine (H1.out _).mono ?_)
  first | rintro e w1 rfl hb1 | rintro e w1 ⟨rfl, hb1⟩
  have k1 := below_kept hb1 (alloc_new w _) (by simp)
  have hs1 := hb1.size
  simp only [World.size_alloc] at hs1
  go_wp2_with (go_at_call 71; refine (H2.out _).mono ?_)
  first | rintro e w2 rfl hb2 | rintro e w2 ⟨rfl, hb2⟩
  have k2 := below_kept hb2 k1 (by omega)
  have c0 : w2.cell? ⟨w.heap.size, 0, none⟩ = some (.string ⟨#[]⟩) := by rw [Lib.cell_of_heap k2]; rfl
  have c1 : w2.cell? ⟨w.heap.size, 1, none⟩ = some (.string ⟨#[]⟩) := by rw [Lib.cell_of_heap k2]; rfl
  have f0 : w2.frozen? ⟨w.heap.size, 0, none⟩ = false := Lib.frozen_of_heap k2 0
  have f1 : w2.frozen? ⟨w.heap.size, 1, none⟩ = false := Lib.frozen_of_heap k2 1
  have hB : Below w.heap.size w w2 := (((Below.refl _ _).alloc (Nat.le_refl _) _).trans (hb1.mono (by simp))).trans (hb2.mono (by omega))
  go_wp2_with fail
  have d0 : ((w2.setCell ⟨w.heap.size, 0, none⟩ (.string a)).setCell ⟨w.heap.size, 1, none⟩ (.string b)).cell? ⟨w.heap.size, 0, none⟩ = some (.string a) :=
    (World.cell?_setCell_other _ _ _ _ (by intro e; cases e)).trans (World.cell?_setCell_same' _ _ _ (by rw [c0]; rfl))
  have d1 : ((w2.setCell ⟨w.heap.size, 0, none⟩ (.string a)).setCell ⟨w.heap.size, 1, none⟩ (.string b)).cell? ⟨w.heap.size, 1, none⟩ = some (.string b) :=
    World.cell?_setCell_same' _ _ _ (by rw [World.cell?_setCell_other _ _ _ _ (by intro e; cases e), c1]; rfl)
  refine bodyPost_ret (v := .agg #[.string a, .string b]) ?_ rfl ⟨rfl, (hB.setCell (p := ⟨w.heap.size, 0, none⟩) (Nat.le_refl _) _).setCell (p := ⟨w.heap.size, 1, none⟩) (Nat.le_refl _) _⟩
  generalize (w2.setCell ⟨w.heap.size, 0, none⟩ (.string a)).setCell ⟨w.heap.size, 1, none⟩ (.string b) = W at d0 d1
  simp [results, Tryz.f49, go_sem, d0, d1]
end Go.Proofs.YtbilaghljlobpaaGreat
namespace Go.Proofs.YtbilaghljlobpaaGreat
open Go.RowKit

def Mark.some (k : Nat) : List Lab.L := (List.range k).map Mark.lab
theorem Mark.some_succ (k : Nat) : Mark.some (k + 1) = Mark.some k ++ [Mark.lab k] := by simp [Mark.some, List.range_succ]
theorem Mark.some_length (k : Nat) : (Mark.some k).length = k := by simp [Mark.some]

/-- a slice of the call's own that is not nil -/
theorem OwnLabels.form {B : Nat} {v : Value} {l : List Lab.L} {w : World} (h : OwnLabels B v l w) (hl : 0 < l.length) :
    ∃ g cap, v = .slice (some ⟨g, 0, none⟩) l.length cap ∧ B ≤ g ∧ g < w.heap.size ∧ l.length ≤ cap ∧ cap ≤ maxLen := by
  obtain ⟨_, h2⟩ := h
  rcases h2 with ⟨_, h0⟩ | ⟨g, cap, cur, rfl, hg, hh, hn, hc, _⟩
  · omega
  · exact ⟨g, cap, rfl, hg, lt_of_heap hh, hn, hc⟩
/-- the beginning of a slice of labels -/
theorem Lab.At.take {p : Option Addr} {a b : List Lab.L} {w : World} (h : Lab.At p (a ++ b) w) : Lab.At p a w := by
  rcases h with h | ⟨b', o, rfl, hc⟩
  · exact .inl (List.append_eq_nil_iff.1 h).1
  · refine .inr ⟨b', o, rfl, fun i hi => ?_⟩
    have := hc i (by rw [List.length_append]; omega)
    rw [List.getElem_append_left hi] at this
    exact this
theorem Lab.At.news {p : Addr} {b o : Nat} {ls : List Lab.L} {w : World} (hc : ∀ i (h : i < ls.length), w.cell? ⟨b, o + i * 2, none⟩ = some (.string ls[i].n) ∧ w.cell? ⟨b, o + i * 2 + 1, none⟩ = some (.string ls[i].v)) (hp : p = ⟨b, o, none⟩) :
    ∀ j u, (Lab.cells ls)[j]? = some u → w.cell? (p.add j) = some u := by
  intro j u hj
  subst hp
  have hj2 : j < (Lab.cells ls).length := (List.getElem?_eq_some_iff.1 hj).1
  rw [Lab.cells_length] at hj2
  have e : (⟨b, o, none⟩ : Addr).add j = ⟨b, o + j, none⟩ := by unfold Addr.add; split <;> simp_all
  rw [e]
  have h1 := hc (j / 2) (by omega)
  have h2 := Lab.cells_get ls (j / 2) (by omega)
  rcases Nat.mod_two_eq_zero_or_one j with h | h
  · have e2 : j / 2 * 2 = j := by omega
    rw [e2] at h1 h2
    rw [h1.1]
    exact (h2.1.symm.trans hj)
  · have e2 : j / 2 * 2 + 1 = j := by omega
    have e3 : o + j / 2 * 2 + 1 = o + j := by omega
    rw [e2] at h2
    rw [e3] at h1
    rw [h1.2]
    exact (h2.2.symm.trans hj)

theorem Lab.At.cases {p : Option Addr} {ls : List Lab.L} {w : World} (h : Lab.At p ls w) :
    (p = none ∧ ls = []) ∨ ∃ ad : Addr, p = some ad ∧ ∀ j u, (Lab.cells ls)[j]? = some u → w.cell? (ad.add j) = some u := by
  rcases h with rfl | ⟨b, o, rfl, hc⟩
  · cases p with
    | none => exact .inl ⟨rfl, rfl⟩
    | some ad => exact .inr ⟨ad, rfl, fun j u hj => by simp [Lab.cells] at hj⟩
  · exact .inr ⟨_, rfl, Lab.At.news (p := ⟨b, o, none⟩) hc rfl⟩

set_option maxHeartbeats 1600000 in
set_option maxRecDepth 100000 in
theorem lent_is (p : Option Addr) (ls : List Lab.L) (n c : Nat) (w : World) (hn : ls.length = n) (hA : Lab.At p ls w) (hp : p = none → c = 0) (hl : n ≤ 100000) :
    Calls Tryz.prog 10 #[.slice p n c] w fun e w' => (∃ g cap, e = .returned (.slice (some ⟨g, 0, none⟩) n cap) ∧ OwnLabels w.heap.size (.slice (some ⟨g, 0, none⟩) (n + 3) cap) (ls ++ Mark.some 3) w') ∧ Below w.heap.size w w' := by
  obtain ⟨i0, hi, hz0, hz1, hz2⟩ := info_parts infoLab
  have HI := Lib.hid hi
  have HN := Lib.hid hn
  rcases hA.cases with ⟨rfl, hls⟩ | ⟨ad, rfl, hnews0⟩
  case' inl =>
    obtain rfl := hp rfl
    obtain rfl : n = 0 := by rw [← hn, hls]; rfl
    clear hi hn hA
    go_enter Tryz.func10, Tryz.ntmps10
    go_wp2_with (at_make; refine wpList_make_own _ rfl _ _ 25 rfl w.heap.size 31 i0 _ 2 Tryz.underlying25 HI.out hz0 hz1 _ _ _ 3 rfl rfl ?e0 ?e1 ?e2 ?e3 ?_)
    case e2 => unfold maxLen; omega
    intro w1 hmk hg1
    have hb1 : Below w.heap.size w w1 := (Below.refl _ _).grown hg1 (Nat.le_refl _) (fun k e => by cases e)
    have hown2 : OwnLabels w.heap.size (.slice (some ⟨w.heap.size, 0, none⟩) 0 3) ls w1 := by rw [hls]; exact hmk
    have hb2 := hb1
    have hmk2 := hmk
    go_wp2_with (at_builtin; refine wpList_append_own_none rfl _ _ 25 rfl w.heap.size 31 i0 2 Tryz.underlying25 HI.out _ 0 _ rfl hmk2 rfl ?_; clear hmk2)
  case' inr =>
    clear hi hn hA
    go_enter Tryz.func10, Tryz.ntmps10
    go_wp2_with (at_make; refine wpList_make_own _ rfl _ _ 25 rfl w.heap.size 31 i0 _ 2 Tryz.underlying25 HI.out hz0 hz1 _ _ _ (n + 3) rfl rfl ?c0 ?c1 ?c2 ?c3 ?_)
    case c0 => omega
    case c1 => rw [hz2]; omega
    case c2 => unfold maxLen; omega
    case c3 => exact Nat.le_refl _
    intro w1 hmk hg1
    have hb1 : Below w.heap.size w w1 := (Below.refl _ _).grown hg1 (Nat.le_refl _) (fun k e => by cases e)
    have hnews := fun j u hj => cell_later hb1 (hnews0 j u hj) (Nat.le_refl _)
    have hnl : (Lab.cells ls).length = n * 2 := by rw [Lab.cells_length, HN.out]
    go_wp2_with (at_builtin; refine wpList_append_own _ rfl _ _ 25 rfl w.heap.size 31 i0 _ 2 32 Tryz.underlying25 HI.out hz0 hz1 hz2 rfl (by decide) _ 0 _ rfl hmk ad n c (Lab.cells ls) rfl hnl hnews (Lab.cells_one _) ?c4 ?c5 ?c6 ?_)
    case c4 => unfold maxLen; omega
    case c5 => omega
    case c6 => exact hb1.size
    intro v2 w2 hown1 hg2 _
    have hown2 : OwnLabels w.heap.size v2 ls w2 := by
      unfold OwnLabels
      rw [HN.out]
      simpa using hown1
    have hb2 : Below w.heap.size w w2 := hb1.grown hg2 hb1.size (fun k e => by cases e; exact Nat.le_refl _)
  all_goals
    go_wp2_with fail
    go_loopw [3, 4] (fun v i wr => ∃ k : Nat, k ≤ 3 ∧ i = .int .i64 k ∧ OwnLabels w.heap.size v (ls ++ Mark.some k) wr ∧ Below w.heap.size w wr) (fun _ i _ => 3 - (intOf i).toNat)
    case atStart => exact ⟨0, by omega, rfl, by rw [show Mark.some 0 = [] from rfl, List.append_nil]; exact hown2, hb2⟩
    case round =>
      obtain ⟨k, hk, rfl, hown, hb⟩ := hrel
      have hsz := hb.size
      have hlk := congrArg (· + k) HN.out
      by_cases hlt : k < 3
      · have HM := Lib.hid (fun w => mlab_is k (by omega) w)
        have HS := Lib.hid (Mark.some_succ k)
        obtain ⟨y, hy⟩ : ∃ y, Mark.lab k = y := ⟨_, rfl⟩
        rw [hy] at HM HS
        clear hy
        go_wp2_with (go_at_call 49; refine (HM.out _).mono ?_)
        first | rintro e w3 rfl hb3 | rintro e w3 ⟨rfl, hb3⟩
        have hown3 := hown.below hb3 (Nat.le_refl _)
        have hb4 := below_next hb hb3
        go_wp2_with (at_builtin; refine wpList_pushL 25 Tryz.underlying25 rfl _ _ rfl _ _ _ _ rfl hown3 y _ _ rfl _ rfl (by simp) ?c1 ?c2 ?_)
        case c1 => rw [List.length_append, Mark.some_length]; omega
        case c2 => exact hb4.size
        intro v' w4 hown' hg
        have hb5 := below_push _ hb4 hown3 hg
        go_wp2_with fail
        go_roundw
        case rel => exact ⟨k + 1, by omega, by go_num, by rw [HS.out]; first | exact hown' | (rw [← List.append_assoc]; exact hown') | (rw [hls, List.nil_append]; exact hown'), hb5⟩
        case measure => simp [intOf]; omega
      · obtain rfl : k = 3 := by omega
        obtain ⟨g, cap, rfl, hg1, hg2, hg3, hg4⟩ := hown.form (by rw [List.length_append, Mark.some_length]; omega)
        have hll := HN.out
        try (have i1 : ((n : Int)) ≤ (cap : Int) := by rw [List.length_append, Mark.some_length] at hg3; omega)
        go_wp2_with fail
        go_ret
        refine ⟨⟨g, cap, rfl, ?_⟩, hb⟩
        rw [List.length_append, Mark.some_length, hll] at hown
        exact hown

theorem Lab.At.cellsAt {g : Nat} {ls : List Lab.L} {w : World} (h : Lab.At (some ⟨g, 0, none⟩) ls w) (i : Nat) (hi : i < ls.length) :
    w.cell? ⟨g, i * 2, none⟩ = some (.string ls[i].n) ∧ w.cell? ⟨g, i * 2 + 1, none⟩ = some (.string ls[i].v) := by
  obtain ⟨b, o, he, hc⟩ := h.open i hi
  cases he
  have := hc i hi
  rw [Nat.zero_add] at this
  exact this

set_option maxHeartbeats 1600000 in
set_option maxRecDepth 100000 in
theorem kept_true (g cap : Nat) (p : Option Addr) (ls : List Lab.L) (n c B : Nat) (w : World) (hn : ls.length = n) (hA : Lab.At p ls w) (hl : n ≤ 100000)
    (hO : OwnLabels B (.slice (some ⟨g, 0, none⟩) (n + 3) cap) (ls ++ Mark.some 3) w) :
    Calls Tryz.prog 25 #[.slice (some ⟨g, 0, none⟩) n cap, .slice p n c] w fun e w' => e = .returned (.bool true) ∧ Below w.heap.size w w' := by
  obtain ⟨p', c', he, hAt, hle, hcm⟩ := hO.open
  rw [List.length_append, Mark.some_length, hn] at hle he
  cases he
  have hS := same_true (some ⟨g, 0, none⟩) p ls n cap c w hn hAt.take hA (by unfold maxLen; omega)
  have HS := Lib.hid hS
  have HC : Hid (∀ k (hk : k < 3), w.cell? ⟨g, (n + k) * 2, none⟩ = some (.string (Mark.lab k).n) ∧ w.cell? ⟨g, (n + k) * 2 + 1, none⟩ = some (.string (Mark.lab k).v)) := by
    show ∀ k (hk : k < 3), w.cell? ⟨g, (n + k) * 2, none⟩ = some (.string (Mark.lab k).n) ∧ w.cell? ⟨g, (n + k) * 2 + 1, none⟩ = some (.string (Mark.lab k).v)
    intro k hk
    have := hAt.cellsAt (n + k) (by rw [List.length_append, Mark.some_length, hn]; omega)
    have e : (ls ++ Mark.some 3)[n + k]'(by rw [List.length_append, Mark.some_length, hn]; omega) = Mark.lab k := by
      rw [List.getElem_append_right (by omega)]
      simp [Mark.some, hn]
    rw [e] at this
    exact this
  have i1 : ((n : Int) + 3) ≤ (cap : Int) := by omega
  have i2 : decide ((cap : Int) < (n : Int) + 3) = false := decide_eq_false (by omega)
  have hg := World.block_lt_of_cell? _ _ (HC.out 0 (by omega)).1
  clear hS hO hAt hA hn hle
  go_enter Tryz.func25, Tryz.ntmps25
  go_wp2_with (go_at_call 65; refine HS.out.mono ?_)
  first | rintro e w1 rfl m rfl | rintro e w1 m rfl rfl | rintro e w1 ⟨rfl, m, rfl⟩
  go_wp2_with fail
  go_loopw [6] (fun i wr => ∃ k : Nat, k ≤ 3 ∧ i = .int .i64 k ∧ Below w.heap.size w wr) (fun i _ => 3 - (intOf i).toNat)
  case atStart => exact ⟨0, by omega, rfl, below_drewN (Below.refl _ _) _⟩
  case round =>
    obtain ⟨k, hk, rfl, hb⟩ := hrel
    have hsz := hb.size
    by_cases hlt : k < 3
    · have d0 := cell_later hb (HC.out k hlt).1 (Nat.le_refl _)
      have d1 := cell_later hb (HC.out k hlt).2 (Nat.le_refl _)
      have HM := Lib.hid (fun w => mlab_is k (by omega) w)
      obtain ⟨y, hy⟩ : ∃ y, Mark.lab k = y := ⟨_, rfl⟩
      rw [hy] at HM d0 d1
      have hneq := neqLab y
      have i3 : (0 : Int) ≤ (n : Int) + (k : Int) := by omega
      have i4 : (n : Int) + (k : Int) < (n : Int) + 3 := by omega
      have i5 : IntKind.i64.wrap ((n : Int) + (k : Int)) = (n : Int) + (k : Int) := by rw [IntKind.wrap_i64]; omega
      have i6 : ((n : Int) + (k : Int)).toNat = n + k := by omega
      clear hy
      go_wp2_with fail
      go_region_held3 (fun w' => w'.cell? ⟨g, (n + k) * 2, none⟩ = some (.string y.n) ∧ w'.cell? ⟨g, (n + k) * 2 + 1, none⟩ = some (.string y.v))
        (first
          | go_keep
          | (go_split_ands
             refine ⟨?_, ?_⟩
             · (refine cell_later hb3 ?_ (Nat.le_refl _); assumption)
             · (refine cell_later hb3 ?_ (Nat.le_refl _); assumption)))
        ((go_at_call 49; refine (HM.out _).mono ?_; rintro e w3 ⟨rfl, hb3⟩))
      have hb4 : Below w.heap.size w w3 := by
        first
          | exact below_next hb hb3
          | exact below_next (below_drewN hb _) hb3
          | exact below_next hb.drew hb3
          | exact below_next (hb.drew _) hb3
      go_wp2_with fail
      go_roundw
      case rel => exact ⟨k + 1, by omega, by go_num, hb4⟩
      case measure => simp [intOf]; omega
    · go_wp2_with fail
      go_ret
      exact ⟨rfl, hb⟩
end Go.Proofs.YtbilaghljlobpaaGreat
namespace Go.Proofs.YtbilaghljlobpaaGreat
open Go.RowKit
theorem neqLab2 (x y : Lab.L) (hxy : x ≠ y) (w : World) : (binOp .neq 31 (.agg #[.string x.n, .string x.v]) (.agg #[.string y.n, .string y.v])).run Tryz.prog w = .ok (.bool true) w := by
  have hS : Tryz.prog.underlying 31 = some (.struct (Tryz.prog.fieldsOf 31)) := by kernel_rfl
  have hp : Tryz.prog.stoodInHeld 31 = false := by kernel_rfl
  rw [run_neq_struct, show (10000 : Nat) = 9999 + 1 from rfl, run_equalIn_agg w 9999 31 _ _ hS hp]
  have u9 := Tryz.underlying9
  have a9 := Tryz.isAgg9
  have z9 := Tryz.sizeOf9
  simp only [Program.fieldsOf, Tryz.underlying31]
  by_cases hn : x.n = y.n
  · have hv : x.v ≠ y.v := fun e => hxy (by cases x; cases y; simp_all)
    have q1 : (x.n.toList == y.n.toList) = true := by rw [Lab.bytes_beq, hn]; simp
    have q2 : (x.v.toList == y.v.toList) = false := by rw [Lab.bytes_beq]; exact decide_eq_false fun e => hv (Lab.bs_inj e)
    go_simp
  · have q1 : (x.n.toList == y.n.toList) = false := by rw [Lab.bytes_beq]; exact decide_eq_false fun e => hn (Lab.bs_inj e)
    go_simp

set_option maxHeartbeats 1600000 in
theorem same_is (p1 p2 : Option Addr) (a b : List Lab.L) (n m c1 c2 : Nat) (r : Bool) (h : r = true ↔ a = b) (w : World) (hn : a.length = n) (hm : b.length = m) (hA : Lab.At p1 a w) (hB : Lab.At p2 b w) (hl : n ≤ maxLen) (hl2 : m ≤ maxLen) :
    Calls Tryz.prog 65 #[.slice p1 n c1, .slice p2 m c2] w fun e w' => e = .returned (.bool r) ∧ ∃ k, w' = w.drewN k := by
  by_cases hab : a = b
  · subst hab
    obtain rfl : r = true := h.2 rfl
    obtain rfl : n = m := hn.symm.trans hm
    exact same_true p1 p2 a n c1 c2 w hn hA hB hl
  obtain rfl : r = false := by cases r <;> simp_all
  unfold maxLen at hl hl2
  by_cases hnm : n = m
  · subst hnm
    have HN := Lib.hid hn
    have HM := Lib.hid hm
    have HNE : Hid (¬ ∀ i (h1 : i < a.length) (h2 : i < b.length), a[i] = b[i]) := fun hall => hab (List.ext_getElem (hn.trans hm.symm) hall)
    have q0 : ((n : Int) != (n : Int)) = false := by simp
    clear hn hm h hab
    go_enter Tryz.func65, Tryz.ntmps65
    go_wp2_with fail
    go_loopw [5] (fun i wr => ∃ k : Nat, k ≤ n ∧ i = .int .i64 k ∧ Hid (∀ i (h1 : i < a.length) (h2 : i < b.length), i < k → a[i] = b[i]) ∧ ∃ m, wr = w.drewN m) (fun i _ => n - (intOf i).toNat)
    case atStart => exact ⟨0, Nat.zero_le _, rfl, fun i _ _ hi => absurd hi (by omega), 0, rfl⟩
    case round =>
      obtain ⟨k, hk, rfl, HK, m, rfl⟩ := hrel
      by_cases hlt : k < n
      · have hkl : k < a.length := by rw [HN.out]; exact hlt
        have hkl2 : k < b.length := by rw [HM.out]; exact hlt
        obtain ⟨b1, o1, rfl, hc1⟩ := hA.open k hkl
        obtain ⟨b2, o2, rfl, hc2⟩ := hB.open k hkl2
        have d0 := (hc1 k hkl).1
        have d1 := (hc1 k hkl).2
        have e0 := (hc2 k hkl2).1
        have e1 := (hc2 k hkl2).2
        by_cases hxy : a[k] = b[k]
        · have HK2 : Hid (∀ i (h1 : i < a.length) (h2 : i < b.length), i < k + 1 → a[i] = b[i]) := fun i h1 h2 hi => by
            by_cases e : i = k
            · subst e; exact hxy
            · exact HK.out i h1 h2 (by omega)
          rw [← hxy] at e0 e1
          obtain ⟨x, hx⟩ : ∃ x, a[k] = x := ⟨_, rfl⟩
          rw [hx] at d0 d1 e0 e1
          have hneq := neqLab x
          clear hc1 hc2 hx hA hB hxy HK
          go_wp2_with fail
          go_quiet (fail)
          go_wp2_with fail
          go_roundw
          case rel => exact ⟨k + 1, by omega, by go_num, HK2, _, rfl⟩
          case measure => simp [intOf]; omega
        · have hneq := fun w => neqLab2 _ _ hxy w
          obtain ⟨x, hx⟩ : ∃ x, a[k] = x := ⟨_, rfl⟩
          obtain ⟨y, hy⟩ : ∃ y, b[k] = y := ⟨_, rfl⟩
          rw [hx] at d0 d1 hneq
          rw [hy] at e0 e1 hneq
          clear hc1 hc2 hx hy hA hB hxy HK
          go_wp2_with fail
          go_quiet (fail)
          go_wp2_with fail
          go_ret
          exact ⟨rfl, _, by rw [World.drewN_drewN]⟩
      · exact absurd (fun i h1 h2 => HK.out i h1 h2 (by have := HN.out; omega)) HNE.out
  · have q0 : ((n : Int) != (m : Int)) = true := by simp; omega
    clear hn hm h hab hA hB
    go_enter Tryz.func65, Tryz.ntmps65
    go_wp2_with fail
    go_ret
    exact ⟨rfl, 0, rfl⟩
end Go.Proofs.YtbilaghljlobpaaGreat
