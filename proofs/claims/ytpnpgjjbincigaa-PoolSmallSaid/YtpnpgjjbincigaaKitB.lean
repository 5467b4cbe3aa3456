/- Contracts of gaugerkit: SameLabels (of the same labels), markText, markLabel. Contracts of gaugerkit: LentLabels, KeptLabels. -/
import Derived.Test.YtpnpgjjbincigaaCanO
import Derived.Test.YtpnpgjjbincigaaLabC
import Derived.Laws.StructEq
import Derived.Deep.RegionHeld3
import Derived.Test.YtpnpgjjbincigaaCanA
import Derived.Laws.AppendOwnNone
namespace Go.Proofs.Ytpnpgjjbincigaa
open Go.RowKit

theorem neqLab (x : Lab.L) (w : World) : (binOp .neq 37 (.agg #[.string x.n, .string x.v]) (.agg #[.string x.n, .string x.v])).run Try.prog w = .ok (.bool false) w := by
  have hS : Try.prog.underlying 37 = some (.struct (Try.prog.fieldsOf 37)) := by kernel_rfl
  have hp : Try.prog.stoodInHeld 37 = false := by kernel_rfl
  rw [run_neq_struct, show (10000 : Nat) = 9999 + 1 from rfl, run_equalIn_agg w 9999 37 _ _ hS hp]
  have u9 := Try.underlying9
  have a9 := Try.isAgg9
  have z9 := Try.sizeOf9
  simp only [Program.fieldsOf, Try.underlying37]
  go_simp

set_option maxHeartbeats 800000 in
theorem same_true (p1 p2 : Option Addr) (ls : List Lab.L) (n c1 c2 : Nat) (w : World) (hn : ls.length = n) (hA : Lab.At p1 ls w) (hB : Lab.At p2 ls w) (hl : n ≤ maxLen) :
    Calls Try.prog 50 #[.slice p1 n c1, .slice p2 n c2] w fun e w' => e = .returned (.bool true) ∧ ∃ k, w' = w.drewN k := by
  unfold maxLen at hl
  have HN := Lib.hid hn
  have q0 : ((n : Int) != (n : Int)) = false := by simp
  clear hn
  go_enter Try.func50, Try.ntmps50
  go_wp2_with fail
  go_loopw [5] (fun i wr => ∃ k : Nat, k ≤ n ∧ i = .int .i64 k ∧ ∃ m, wr = w.drewN m) (fun i _ => n - (intOf i).toNat)
  case atStart => exact ⟨0, Nat.zero_le _, rfl, 0, rfl⟩
  case round =>
    obtain ⟨k, hk, rfl, m, rfl⟩ := hrel
    by_cases hlt : k < n
    · have hkl : k < ls.length := by rw [HN.out]; exact hlt
      obtain ⟨b1, o1, rfl, hc1⟩ := hA.open k hkl
      obtain ⟨b2, o2, rfl, hc2⟩ := hB.open k hkl
      obtain ⟨x, hx⟩ : ∃ x, ls[k] = x := ⟨_, rfl⟩
      have d0 := (hc1 k hkl).1
      have d1 := (hc1 k hkl).2
      have e0 := (hc2 k hkl).1
      have e1 := (hc2 k hkl).2
      rw [hx] at d0 d1 e0 e1
      have hneq := neqLab x
      clear hc1 hc2 hx hA hB
      go_wp2_with fail
      go_quiet (fail)
      go_wp2_with fail
      go_roundw
      case rel => exact ⟨k + 1, by omega, by go_num, _, rfl⟩
      case measure => simp [intOf]; omega
    · go_wp2_with fail
      go_ret
      exact ⟨rfl, m, rfl⟩

/-- the text of a mark of slice 9 -/
def Mark.text (i : Nat) : ByteArray := ⟨#[35, 9, 0, 0, 47, i.toUInt8, 0, 0]⟩
def Mark.lab (i : Nat) : Lab.L := ⟨Mark.text i, Mark.text (i + 1)⟩

theorem conv_bytes (l : List UInt8) (C : Array Value) (hC : C.toList = Lib.byteCells l) (W : World) (k : Nat) (hk : l.length = k) (hk2 : k ≤ 1000) :
    (convert 54 9 (.slice (some ⟨W.heap.size, 0, none⟩) k k)).run Try.prog (W.alloc (.cells C 5)) = .ok (.string ⟨l.toArray⟩) (W.alloc (.cells C 5)) := by
  subst hk
  have hz : C.size = l.length := by rw [← Array.length_toList, hC, Lib.byteCells_length]
  refine conv_own (B := W.heap.size) (l := l) ⟨by rw [Lib.byteCells_length]; omega, .inr ⟨W.heap.size, l.length, C, rfl, Nat.le_refl _, alloc_new _ _, by omega, by unfold maxLen; omega, by omega, ?_⟩⟩
  rw [hC, List.take_of_length_le]
  rw [Lib.byteCells_length]; omega

set_option maxHeartbeats 1600000 in
set_option maxRecDepth 100000 in
theorem mtext_is (i : Nat) (hi : i ≤ 4) (w : World) :
    Calls Try.prog 81 #[.int .i64 9, .int .i64 (i : Int)] w fun e w' => e = .returned (.string (Mark.text i)) ∧ Below w.heap.size w w' := by
  obtain rfl | rfl | rfl | rfl | rfl : i = 0 ∨ i = 1 ∨ i = 2 ∨ i = 3 ∨ i = 4 := by omega
  · have C0 := fun W => conv_bytes [35, 9, 0, 0, 47, 0, 0, 0] #[.int .u8 35, .int .u8 9, .int .u8 0, .int .u8 0, .int .u8 47, .int .u8 0, .int .u8 0, .int .u8 0] rfl W 8 rfl (by omega)
    go_enter Try.func81, Try.ntmps81
    go_wp2_with fail
    go_ret
    exact ⟨rfl, (Below.refl _ _).alloc (Nat.le_refl _) _⟩
  · have C0 := fun W => conv_bytes [35, 9, 0, 0, 47, 1, 0, 0] #[.int .u8 35, .int .u8 9, .int .u8 0, .int .u8 0, .int .u8 47, .int .u8 1, .int .u8 0, .int .u8 0] rfl W 8 rfl (by omega)
    go_enter Try.func81, Try.ntmps81
    go_wp2_with fail
    go_ret
    exact ⟨rfl, (Below.refl _ _).alloc (Nat.le_refl _) _⟩
  · have C0 := fun W => conv_bytes [35, 9, 0, 0, 47, 2, 0, 0] #[.int .u8 35, .int .u8 9, .int .u8 0, .int .u8 0, .int .u8 47, .int .u8 2, .int .u8 0, .int .u8 0] rfl W 8 rfl (by omega)
    go_enter Try.func81, Try.ntmps81
    go_wp2_with fail
    go_ret
    exact ⟨rfl, (Below.refl _ _).alloc (Nat.le_refl _) _⟩
  · have C0 := fun W => conv_bytes [35, 9, 0, 0, 47, 3, 0, 0] #[.int .u8 35, .int .u8 9, .int .u8 0, .int .u8 0, .int .u8 47, .int .u8 3, .int .u8 0, .int .u8 0] rfl W 8 rfl (by omega)
    go_enter Try.func81, Try.ntmps81
    go_wp2_with fail
    go_ret
    exact ⟨rfl, (Below.refl _ _).alloc (Nat.le_refl _) _⟩
  · have C0 := fun W => conv_bytes [35, 9, 0, 0, 47, 4, 0, 0] #[.int .u8 35, .int .u8 9, .int .u8 0, .int .u8 0, .int .u8 47, .int .u8 4, .int .u8 0, .int .u8 0] rfl W 8 rfl (by omega)
    go_enter Try.func81, Try.ntmps81
    go_wp2_with fail
    go_ret
    exact ⟨rfl, (Below.refl _ _).alloc (Nat.le_refl _) _⟩

set_option maxHeartbeats 1600000 in
set_option maxRecDepth 100000 in
theorem mlab_is (i : Nat) (hi : i ≤ 3) (w : World) :
    Calls Try.prog 93 #[.int .i64 9, .int .i64 (i : Int)] w fun e w' => e = .returned (.agg #[.string (Mark.lab i).n, .string (Mark.lab i).v]) ∧ Below w.heap.size w w' := by
  have H1 := Lib.hid (fun w => mtext_is i (by omega) w)
  have H2 := mtext_is (i + 1) (by omega)
  have e1 : ((i + 1 : Nat) : Int) = (i : Int) + 1 := by omega
  rw [e1] at H2
  have H2 := Lib.hid H2
  obtain ⟨a, ha⟩ : ∃ a, Mark.text i = a := ⟨_, rfl⟩
  obtain ⟨b, hb⟩ : ∃ b, Mark.text (i + 1) = b := ⟨_, rfl⟩
  show Calls _ _ _ _ fun e w' => e = .returned (.agg #[.string (Mark.text i), .string (Mark.text (i + 1))]) ∧ Below w.heap.size w w'
  rw [ha] at H1 ⊢
  rw [hb] at H2 ⊢
  have hi2 : (i : Int) ≤ 3 := by omega
  clear ha hb e1
  go_enter Try.func93, Try.ntmps93
  go_wp2_with (go_at_call 81; refine (H1.out _).mono ?_)
  first | rintro e w1 rfl hb1 | rintro e w1 ⟨rfl, hb1⟩
  have k1 := below_kept hb1 (alloc_new w _) (by simp)
  have hs1 := hb1.size
  simp only [World.size_alloc] at hs1
  go_wp2_with (go_at_call 81; refine (H2.out _).mono ?_)
  first | rintro e w2 rfl hb2 | rintro e w2 ⟨rfl, hb2⟩
  have k2 := below_kept hb2 k1 (by omega)
  have c0 : w2.cell? ⟨w.heap.size, 0, none⟩ = some (.string ⟨#[]⟩) := by rw [Lib.cell_of_heap k2]; rfl
  have c1 : w2.cell? ⟨w.heap.size, 1, none⟩ = some (.string ⟨#[]⟩) := by rw [Lib.cell_of_heap k2]; rfl
  have f0 : w2.frozen? ⟨w.heap.size, 0, none⟩ = false := Lib.frozen_of_heap k2 0
  have f1 : w2.frozen? ⟨w.heap.size, 1, none⟩ = false := Lib.frozen_of_heap k2 1
  have hB : Below w.heap.size w w2 := (((Below.refl _ _).alloc (Nat.le_refl _) _).trans (hb1.mono (by simp))).trans (hb2.mono (by omega))
  go_wp2_with fail
  have d0 : ((w2.setCell ⟨w.heap.size, 0, none⟩ (.string a)).setCell ⟨w.heap.size, 1, none⟩ (.string b)).cell? ⟨w.heap.size, 0, none⟩ = some (.string a) :=
    (World.cell?_setCell_other _ _ _ _ (by intro e; cases e)).trans (World.cell?_setCell_same' _ _ _ (by rw [c0]; rfl))
  have d1 : ((w2.setCell ⟨w.heap.size, 0, none⟩ (.string a)).setCell ⟨w.heap.size, 1, none⟩ (.string b)).cell? ⟨w.heap.size, 1, none⟩ = some (.string b) :=
    World.cell?_setCell_same' _ _ _ (by rw [World.cell?_setCell_other _ _ _ _ (by intro e; cases e), c1]; rfl)
  refine bodyPost_ret (v := .agg #[.string a, .string b]) ?_ rfl ⟨rfl, (hB.setCell (p := ⟨w.heap.size, 0, none⟩) (Nat.le_refl _) _).setCell (p := ⟨w.heap.size, 1, none⟩) (Nat.le_refl _) _⟩
  generalize (w2.setCell ⟨w.heap.size, 0, none⟩ (.string a)).setCell ⟨w.heap.size, 1, none⟩ (.string b) = W at d0 d1
  simp [results, Try.f93, go_sem, d0, d1]
end Go.Proofs.Ytpnpgjjbincigaa
namespace Go.Proofs.Ytpnpgjjbincigaa
open Go.RowKit

def Mark.some (k : Nat) : List Lab.L := (List.range k).map Mark.lab
theorem Mark.some_succ (k : Nat) : Mark.some (k + 1) = Mark.some k ++ [Mark.lab k] := by simp [Mark.some, List.range_succ]
theorem Mark.some_length (k : Nat) : (Mark.some k).length = k := by simp [Mark.some]

/-- a slice of the call's own that is not nil -/
theorem OwnLabels.form {B : Nat} {v : Value} {l : List Lab.L} {w : World} (h : OwnLabels B v l w) (hl : 0 < l.length) :
    ∃ g cap, v = .slice (some ⟨g, 0, none⟩) l.length cap ∧ B ≤ g ∧ g < w.heap.size ∧ l.length ≤ cap ∧ cap ≤ maxLen := by
  obtain ⟨_, h2⟩ := h
  rcases h2 with ⟨_, h0⟩ | ⟨g, cap, cur, rfl, hg, hh, hn, hc, _⟩
  · omega
  · exact ⟨g, cap, rfl, hg, lt_of_heap hh, hn, hc⟩
/-- the beginning of a slice of labels -/
theorem Lab.At.take {p : Option Addr} {a b : List Lab.L} {w : World} (h : Lab.At p (a ++ b) w) : Lab.At p a w := by
  rcases h with h | ⟨b', o, rfl, hc⟩
  · exact .inl (List.append_eq_nil_iff.1 h).1
  · refine .inr ⟨b', o, rfl, fun i hi => ?_⟩
    have := hc i (by rw [List.length_append]; omega)
    rw [List.getElem_append_left hi] at this
    exact this
theorem Lab.At.news {p : Addr} {b o : Nat} {ls : List Lab.L} {w : World} (hc : ∀ i (h : i < ls.length), w.cell? ⟨b, o + i * 2, none⟩ = some (.string ls[i].n) ∧ w.cell? ⟨b, o + i * 2 + 1, none⟩ = some (.string ls[i].v)) (hp : p = ⟨b, o, none⟩) :
    ∀ j u, (Lab.cells ls)[j]? = some u → w.cell? (p.add j) = some u := by
  intro j u hj
  subst hp
  have hj2 : j < (Lab.cells ls).length := (List.getElem?_eq_some_iff.1 hj).1
  rw [Lab.cells_length] at hj2
  have e : (⟨b, o, none⟩ : Addr).add j = ⟨b, o + j, none⟩ := by unfold Addr.add; split <;> simp_all
  rw [e]
  have h1 := hc (j / 2) (by omega)
  have h2 := Lab.cells_get ls (j / 2) (by omega)
  rcases Nat.mod_two_eq_zero_or_one j with h | h
  · have e2 : j / 2 * 2 = j := by omega
    rw [e2] at h1 h2
    rw [h1.1]
    exact (h2.1.symm.trans hj)
  · have e2 : j / 2 * 2 + 1 = j := by omega
    have e3 : o + j / 2 * 2 + 1 = o + j := by omega
    rw [e2] at h2
    rw [e3] at h1
    rw [h1.2]
    exact (h2.2.symm.trans hj)

theorem Lab.At.cases {p : Option Addr} {ls : List Lab.L} {w : World} (h : Lab.At p ls w) :
    (p = none ∧ ls = []) ∨ ∃ ad : Addr, p = some ad ∧ ∀ j u, (Lab.cells ls)[j]? = some u → w.cell? (ad.add j) = some u := by
  rcases h with rfl | ⟨b, o, rfl, hc⟩
  · cases p with
    | none => exact .inl ⟨rfl, rfl⟩
    | some ad => exact .inr ⟨ad, rfl, fun j u hj => by simp [Lab.cells] at hj⟩
  · exact .inr ⟨_, rfl, Lab.At.news (p := ⟨b, o, none⟩) hc rfl⟩

theorem Lab.At.cellsAt {g : Nat} {ls : List Lab.L} {w : World} (h : Lab.At (some ⟨g, 0, none⟩) ls w) (i : Nat) (hi : i < ls.length) :
    w.cell? ⟨g, i * 2, none⟩ = some (.string ls[i].n) ∧ w.cell? ⟨g, i * 2 + 1, none⟩ = some (.string ls[i].v) := by
  obtain ⟨b, o, he, hc⟩ := h.open i hi
  cases he
  have := hc i hi
  rw [Nat.zero_add] at this
  exact this

end Go.Proofs.Ytpnpgjjbincigaa
