/- Contracts of hash: bytes (the iterator), Add, Sum. -/
import Derived.RangeFuncNested
import Derived.RangeFuncBound
import Derived.RangeFuncBox
import Derived.RangeFuncCalls
import Derived.RangeFuncLeaves
import Derived.Shelf.Abstract
import Derived.Shelf.RegionOpen
import Derived.WalkKit
import Derived.OwnWalkIn
import Derived.TacticsInMore
import Derived.LoopNIn
import Derived.LoopIn
import Derived.Laws.Bits64
import Derived.Laws.Bits64b
import Derived.Test.YthnaninhbofeoaaGreatDoorCanP
import Derived.Test.YthnaninhbofeoaaGreatDoorUtfC
namespace Go.Proofs.YthnaninhbofeoaaGreatDoor
open Go.RowKit Go.Shelf
attribute [local go_sem] Oper.semAt_some

/-- what has come when k rounds are over -/
def Can.upto (s : ByteArray) (k : Nat) : List UInt8 := s.data.toList.take k
theorem Can.upto_succ (s : ByteArray) (k : Nat) (h : k < s.size) : Can.upto s (k + 1) = Can.upto s k ++ [s[k]] := by
  unfold Can.upto
  rw [List.take_add_one, List.getElem?_eq_getElem (by rw [Array.length_toList]; exact h)]
  rfl
theorem Can.upto_length (s : ByteArray) (k : Nat) (h : k ≤ s.size) : (Can.upto s k).length = k := by
  unfold Can.upto
  rw [List.length_take, Array.length_toList]
  exact Nat.min_eq_left h
/-- a round that goes on keeps the two boxes -/
def Can.Keep (Bs Bb : Nat) (W W' : World) : Prop := (∀ v, W.cell? ⟨Bs, 0, none⟩ = some v → W'.cell? ⟨Bs, 0, none⟩ = some v) ∧ ∀ v, W.cell? ⟨Bb, 0, none⟩ = some v → W'.cell? ⟨Bb, 0, none⟩ = some v
theorem Can.Keep.refl (Bs Bb : Nat) (W : World) : Can.Keep Bs Bb W W := ⟨fun _ h => h, fun _ h => h⟩
theorem Can.Keep.trans {Bs Bb : Nat} {A B C : World} (h : Can.Keep Bs Bb A B) (k : Can.Keep Bs Bb B C) : Can.Keep Bs Bb A C := ⟨fun v e => k.1 v (h.1 v e), fun v e => k.2 v (h.2 v e)⟩
theorem Can.Keep.put {Bs Bb : Nat} (W : World) (l : Nat) (o o' : Obj) (h : W.heap[l]? = some o) (hc : o.isCells = false) : Can.Keep Bs Bb W (W.putObj l o') :=
  ⟨fun _ hv => cell_kept hv (grownBy_putObj' W l o') (fun r e => by cases e; exact ⟨o, h, hc⟩), fun _ hv => cell_kept hv (grownBy_putObj' W l o') (fun r e => by cases e; exact ⟨o, h, hc⟩)⟩
theorem Can.Keep.set {Bs Bb : Nat} (W : World) (B : Nat) (v : Value) (h1 : B ≠ Bs) (h2 : B ≠ Bb) : Can.Keep Bs Bb W (W.setCell ⟨B, 0, none⟩ v) :=
  ⟨fun u hu => (World.cell?_setCell_other _ _ _ _ (by intro e; cases e; exact h1 rfl)).trans hu, fun u hu => (World.cell?_setCell_other _ _ _ _ (by intro e; cases e; exact h2 rfl)).trans hu⟩

set_option maxRecDepth 100000 in
set_option maxHeartbeats 2000000 in
theorem bytes1_in (F : Fence) (n : Nat) (hf : F.fn 139) (hro : F.round = none) (hn : 1 ≤ n) (l Bs Bb : Nat) (s : ByteArray) (hs : s.size ≤ maxLen) (J Jx : List UInt8 → World → Prop)
    (hY : ∀ pre x W, J pre W → pre.length < s.size → YieldAt F (n - 1) Tryz.prog l #[.int .u8 (x.toNat : Int)] W fun e W' =>
      (e = .returned (.bool true) ∧ J (pre ++ [x]) W' ∧ Can.Keep Bs Bb W W') ∨ (e = .returned (.bool false) ∧ Jx (pre ++ [x]) W'))
    (W : World) (hBs : W.cell? ⟨Bs, 0, none⟩ = some (.string s)) (hBb : W.cell? ⟨Bb, 0, none⟩ = some (.bool false)) (h0 : J [] W) :
    CallsIn F n Tryz.prog 139 #[.func (.yield l) #[] #[], .pointer (some ⟨Bs, 0, none⟩), .pointer (some ⟨Bb, 0, none⟩)] W fun e W' => (∃ v, e = .returned v) ∧
      ((∃ ys, ys = s.data.toList ∧ J ys W') ∨ (∃ pre, (∃ k, k ≤ s.size ∧ pre = Can.upto s k) ∧ Jx pre W')) := by
  unfold maxLen at hs
  refine callsIn_of_wp Tryz.func139 rfl hf ?_ hro
  simp only [Tryz.ntmps139, List.size_toArray, List.length_cons, List.length_nil, Nat.reduceAdd, Nat.reduceSub, Array.replicate_succ, Array.replicate_zero, List.push_toArray, List.append_toArray, List.nil_append, List.cons_append]
  gi_wp2
  gi_loopw [8] (fun i wr => ∃ k : Nat, k ≤ s.size ∧ i = .int .i64 k ∧ J (Can.upto s k) wr ∧ Can.Keep Bs Bb W wr) (fun i _ => s.size - (intOf i).toNat)
  case atStart => exact ⟨0, Nat.zero_le _, rfl, h0, Can.Keep.refl _ _ _⟩
  case round =>
    obtain ⟨k, hk, rfl, hJs, hkp⟩ := hrel
    have c0 := hkp.1 _ hBs
    have c1 := hkp.2 _ hBb
    by_cases hlt : k < s.size
    · obtain ⟨fn, tmps, assign, body, hy, hR⟩ := hY _ s[k] wr hJs (by rw [Can.upto_length s k hk]; exact hlt)
      gi_wp2
      refine hR.mono ?_
      rintro e W3 (⟨rfl, hJ3, hk3⟩ | ⟨rfl, hJx3⟩)
      · gi_wp2
        go_roundw
        case rel => exact ⟨k + 1, by omega, by go_num, by rw [Can.upto_succ s k hlt]; exact hJ3, hkp.trans hk3⟩
        case measure => simp [intOf]; omega
      · gi_wp2
        refine bodyPost_ret (results_none rfl _ _ _) rfl ?_
        exact ⟨⟨_, rfl⟩, .inr ⟨_, ⟨k + 1, by omega, (Can.upto_succ s k hlt).symm⟩, hJx3⟩⟩
    · have hks : k = s.size := by omega
      have ha : Can.upto s k = s.data.toList := List.take_of_length_le (by rw [Array.length_toList]; exact (show s.size ≤ k by omega))
      rw [ha] at hJs
      clear ha
      gi_wp2
      go_end0
      exact ⟨⟨_, rfl⟩, .inl ⟨_, rfl, hJs⟩⟩

set_option maxHeartbeats 1000000 in
theorem bytes_in (F : Fence) (n : Nat) (hf : F.fn 115) (hro : F.round = none) (s : ByteArray) (w : World) :
    CallsIn F n Tryz.prog 115 #[.string s, .bool false] w fun e w' => e = .returned (.func (.func 139) #[] #[.pointer (some ⟨w.heap.size, 0, none⟩), .pointer (some ⟨w.heap.size + 1, 0, none⟩)]) ∧
      w' = (w.alloc (.cells #[.string s] 9)).alloc (.cells #[.bool false] 4) := by
  refine callsIn_of_wp Tryz.func115 rfl hf ?_ hro
  simp only [Tryz.ntmps115, List.size_toArray, List.length_cons, List.length_nil, Nat.reduceAdd, Nat.reduceSub, Array.replicate_succ, Array.replicate_zero, List.push_toArray, List.append_toArray, List.nil_append, List.cons_append]
  gi_wp2
  go_ret
  exact ⟨rfl, rfl⟩

theorem bytes_stops (F : Fence) (n : Nat) (hf : F.fn 139) (hro : F.round = none) (hn : 1 ≤ n) (Bs Bb : Nat) (s : ByteArray) (hs : s.size ≤ maxLen) (w : World) (hBs : Bs < w.heap.size) (hBb : Bb < w.heap.size)
    (hc : w.cell? ⟨Bs, 0, none⟩ = some (.string s)) (hd : w.cell? ⟨Bb, 0, none⟩ = some (.bool false)) :
    SeqStopsK F n Tryz.prog 139 #[.pointer (some ⟨Bs, 0, none⟩), .pointer (some ⟨Bb, 0, none⟩)] (fun x : UInt8 => #[Value.int .u8 (x.toNat : Int)]) (Can.Keep Bs Bb) (fun ys => ys = s.data.toList) (fun pre => ∃ k, k ≤ s.size ∧ pre = Can.upto s k) s.size w :=
  fun l J Jx W hW _ _ hY h0 => bytes1_in F n hf hro hn l Bs Bb s hs J Jx hY W ((hW.cell (p := ⟨Bs, 0, none⟩) hBs).trans hc) ((hW.cell (p := ⟨Bb, 0, none⟩) hBb).trans hd) h0

theorem Can.sum_snoc (h : Nat) (l : List UInt8) (x : UInt8) : Can.sum h (l ++ [x]) = Can.step (Can.sum h l) x := by
  unfold Can.sum
  rw [List.foldl_append, List.foldl_cons, List.foldl_nil]

theorem Can.step_is (h : Nat) (c : UInt8) (hh : h < 18446744073709551616) : IntKind.u64.wrap (bits .xor .u64 (h : Int) (c.toNat : Int) * 1099511628211) = (Can.step h c : Nat) := by
  rw [bits_xor_u64_nat h c.toNat hh (by have := c.toNat_lt; omega), IntKind.wrap_u64]
  unfold Can.step
  omega

set_option maxRecDepth 100000 in
set_option maxHeartbeats 2000000 in
theorem add_in (F : Fence) (n : Nat) (h3 : F.fn 91) (h5 : F.fn 115) (h7 : F.fn 139) (hro : F.round = none) (hn : 3 ≤ n) (h : Nat) (hh : h < 18446744073709551616) (s : ByteArray) (hs : s.size ≤ maxLen) (w : World) :
    CallsIn F n Tryz.prog 91 #[.int .u64 (h : Int), .string s] w fun e W' => e = .returned (.int .u64 (Can.sum h s.data.toList : Nat)) ∧ Below w.heap.size w W' := by
  have h1 : 1 ≤ n := by omega
  refine callsIn_of_wp_marks Tryz.func91 rfl h3 ?_ hro
  simp only [Tryz.ntmps91, List.size_toArray, List.length_cons, List.length_nil, Nat.reduceAdd, Nat.reduceSub, Array.replicate_succ, Array.replicate_zero, List.push_toArray, List.append_toArray, List.nil_append, List.cons_append]
  gi_wp2_with (gi_at_call 115; refine (bytes_in F (n - 1) h5 hro _ _).mono ?_; rintro e w' ⟨rfl, rfl⟩)
  have bS := Boxed.new w 59 (.int .u64 (h : Int))
  have bN := Boxed.new (w.alloc (.cells #[.int .u64 (h : Int)] 59)) 9 (.string s)
  rw [World.size_alloc] at bN
  have bB := Boxed.new ((w.alloc (.cells #[.int .u64 (h : Int)] 59)).alloc (.cells #[.string s] 9)) 4 (.bool false)
  rw [World.size_alloc, World.size_alloc] at bB
  have hB0 : Below w.heap.size w (((w.alloc (.cells #[.int .u64 (h : Int)] 59)).alloc (.cells #[.string s] 9)).alloc (.cells #[.bool false] 4)) := (((Below.refl _ w).alloc (Nat.le_refl _) _).alloc (by simp) _).alloc (by simp; omega) _
  refine wpIn_rangeFunc_ownG hro h1 (gf := 139) (lb := #[.pointer (some ⟨w.heap.size + 1, 0, none⟩), .pointer (some ⟨w.heap.size + 1 + 1, 0, none⟩)]) rfl h7 (enters_of Tryz.func139 (by kernel_rfl) rfl)
    (bytes_stops F (n - 1) h7 hro (by omega) (w.heap.size + 1) (w.heap.size + 1 + 1) s hs _ (by simp) (by simp) ((bN.alloc _).cell) bB.cell)
    (fun {_ _ _} h k => h.trans k) (fun W l o o' _ h hc _ => Can.Keep.put W l o o' h hc) (Below.refl _ _) (fun _ => rfl)
    (fun pre W => (W.cell? ⟨w.heap.size, 0, none⟩ = some (.int .u64 (Can.sum h pre : Nat)) ∧ W.frozen? ⟨w.heap.size, 0, none⟩ = false) ∧ Below w.heap.size w W)
    (fun _ _ _ => False)
    (OwnFrom.and (Own.from (fun s A B row hs hg hr => ⟨cell_kept hs.1 hg hr, (frozen_kept hs.1 hg hr).trans hs.2⟩) _) (ownFrom_below (Nat.le_refl _) (by simp; omega)))
    (fun _ _ _ _ _ hs _ _ => hs)
    ⟨⟨((bS.alloc _).alloc _).cell, ((bS.alloc _).alloc _).frozen⟩, hB0⟩
    (fun x => { tmps := #[.int .u64 (h : Int), .string s, .pointer (some ⟨w.heap.size, 0, none⟩), undef, .int .u64 0, .int .u8 (x.toNat : Int), .string s,
      .func (.func 139) #[] #[.pointer (some ⟨w.heap.size + 1, 0, none⟩), .pointer (some ⟨w.heap.size + 1 + 1, 0, none⟩)], .int .u8 (x.toNat : Int), undef, undef, undef, undef, undef, undef], defers := [] }) ?assign ?body ?done ?stop
  case assign =>
    intro l x W K hK
    gi_wp2
    exact hK
  case body =>
    rintro l pre x W ⟨⟨hc, hf⟩, hB⟩ _
    have hx : (x.toNat : Int) < 256 := by have := x.toNat_lt; omega
    have hS := Can.sum_lt h pre hh
    have hsn := Can.sum_snoc h pre x
    obtain ⟨S, hSe⟩ : ∃ S, Can.sum h pre = S := ⟨_, rfl⟩
    rw [hSe] at hc hS hsn
    have hst := Can.step_is S x hS
    obtain ⟨T, hT⟩ : ∃ T, Can.step S x = T := ⟨_, rfl⟩
    rw [hT] at hst hsn
    have HS := Lib.hid hsn
    clear hT
    have hS2 : (S : Int) < 18446744073709551616 := by omega
    clear hsn hSe
    gi_wp2
    exact ⟨(KeepsOthers.setCell _ _ _).from _, Can.Keep.set _ _ _ (by omega) (by omega), ⟨by rw [HS.out]; exact World.cell?_setCell_same' _ _ _ (by rw [hc]; rfl), by rw [World.frozen?_setCell]; exact hf⟩, hB.setCell (p := ⟨w.heap.size, 0, none⟩) (Nat.le_refl _) _⟩
  case done =>
    rintro D ys W hD rfl ⟨⟨hc, _⟩, hB⟩ hK
    gi_wp2
    refine ⟨by simp, .inl ⟨_, _, rfl, run_takeDeferred hK, ?_⟩⟩
    exact ⟨_, results_tmp rfl _ _ _, rfl, hB.trans (belowK_b (w := w) (Nat.le_refl _) W D _ _ (by simp at hD; omega) hK rfl rfl)⟩
  case stop =>
    rintro D c pre W _ _ h _
    exact h.elim

theorem add_is (h : Nat) (hh : h < 18446744073709551616) (s : ByteArray) (hs : s.size ≤ maxLen) (w : World) :
    Calls Tryz.prog 91 #[.int .u64 (h : Int), .string s] w fun e W' => e = .returned (.int .u64 (Can.sum h s.data.toList : Nat)) ∧ Below w.heap.size w W' :=
  (add_in Fence.wide 3 trivial trivial trivial rfl (Nat.le_refl _) h hh s hs w).calls (fun _ d h => by simp [Fence.wide] at h)

set_option maxHeartbeats 400000 in
theorem sum_is (s : ByteArray) (hs : s.size ≤ maxLen) (r : Nat) (hr : Can.sum 14695981039346656037 s.data.toList = r) (w : World) :
    Calls Tryz.prog 60 #[.string s] w fun e W' => e = .returned (.int .u64 (r : Int)) ∧ Below w.heap.size w W' := by
  have h := add_is 14695981039346656037 (by omega) s hs w
  rw [hr] at h
  have HC := Lib.hid h
  clear h hr hs
  go_enter Tryz.func60, Tryz.ntmps60
  go_wp2_with (go_at_call 91; refine HC.out.mono ?_)
  first | rintro e w1 ⟨rfl, hb1⟩ | rintro e w1 rfl hb1
  go_wp2_with fail
  go_ret
  exact ⟨rfl, hb1⟩
end Go.Proofs.YthnaninhbofeoaaGreatDoor
