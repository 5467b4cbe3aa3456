/- Contracts of the small functions: short, pairs, the closure of write. -/
import Derived.Test.YtnognmgmhhbbiaaEscP
import Derived.Test.YtnognmgmhhbbiaaBld
import Derived.Test.YtnognmgmhhbbiaaShelf
import Derived.Lib.Hide
namespace Go.Proofs.Ytnognmgmhhbbiaa
open Go.RowKit
set_option maxHeartbeats 400000 in
theorem short_any (s : ByteArray) (w : World) (hs : s.size ≤ maxLen) :
    Calls Try.prog 11 #[.string s] w fun e w' => e = .returned (.string (s.extract 0 (min s.size 1000))) ∧ w = w' := by
  unfold maxLen at hs
  go_enter Try.func11, Try.ntmps11
  have hm : (min (s.size : Int) 1000).toNat = min s.size 1000 := by omega
  have h0 : 0 ≤ min (s.size : Int) 1000 := by omega
  have h1 : min (s.size : Int) 1000 ≤ s.size := by omega
  go_wp2
  go_ret
  exact ⟨rfl, rfl⟩

set_option maxHeartbeats 400000 in
theorem pairs_any (w : World) :
    Calls Try.prog 37 #[] w fun e w' => e = .returned (.agg #[.int .u8 92, .int .u8 92, .int .u8 10, .int .u8 110, .int .u8 34, .int .u8 34]) ∧ Below w.heap.size w w' := by
  go_enter Try.func37, Try.ntmps37
  go_wp2
  exact bodyPost_ret (v := .agg #[.int .u8 92, .int .u8 92, .int .u8 10, .int .u8 110, .int .u8 34, .int .u8 34]) (by simp [results, Try.results37, go_sem]) rfl ⟨rfl, (Below.refl _ _).alloc (Nat.le_refl _) _⟩

abbrev pairsObj : Obj := .cells #[.int .u8 92, .int .u8 92, .int .u8 10, .int .u8 110, .int .u8 34, .int .u8 34] 65

def Put (B b : Nat) (bs : List Value) (w : World) (e : Ending) (w' : World) : Prop :=
  e = .returned (.tuple #[]) ∧ Lib.IsBuilderF 55 5 B b bs w' ∧ Below B w w' ∧ Lib.OthersKept 5 (some b) w w'

set_option maxHeartbeats 400000 in
theorem put_92 (kA kN : Nat) (n : Int) (hn : n = 2 ∨ n = 3) (B b : Nat) (bs : List Value) (c : Int) (w : World)
    (hA : w.heap[kA]? = some pairsObj) (hN : w.heap[kN]? = some (.cells #[.int .i64 n] 3)) (hb : Lib.IsBuilderF 55 5 B b bs w)
    (hlen : bs.length + 2 ≤ 140737488355328) (hB : B ≤ w.heap.size) (h1 : (c == 92) = true) :
    Calls Try.prog 39 #[.int .u8 c, .pointer (some ⟨kA, 0, none⟩), .pointer (some ⟨kN, 0, none⟩), .pointer (some ⟨b, 0, none⟩)] w (Put B b (bs ++ [.int .u8 92, .int .u8 92]) w) := by
  have c0 : w.cell? ⟨kA, 0, none⟩ = some (.int .u8 92) := by rw [Lib.cell_of_heap hA]; rfl
  have c1 : w.cell? ⟨kA, 1, none⟩ = some (.int .u8 92) := by rw [Lib.cell_of_heap hA]; rfl
  have cN : w.cell? ⟨kN, 0, none⟩ = some (.int .i64 n) := by rw [Lib.cell_of_heap hN]; rfl
  have hbB : b < w.heap.size := by rcases hb with h | h <;> exact h.lt
  rcases hn with rfl | rfl
  all_goals
    go_enter Try.func39, Try.ntmps39
    go_wp2
    refine wp_loop_rounds 4 ?_
    rw [rounds_succ]
    go_wp2_with (go_at_call 38; refine (writeByte_k B b bs 92 _ (hb.alloc _) (by omega) (by simp; omega)).mono ?_)
    rintro e w1 ⟨rfl, hb1, hl1, hk1⟩
    have hx : w1.heap[w.heap.size]? = some (.cells #[.int .u8 92, .int .u8 92] 64) := kept_cells hk1 (alloc_new _ _) (by omega) (by decide)
    have d1 : w1.cell? ⟨w.heap.size, 1, none⟩ = some (.int .u8 92) := by rw [Lib.cell_of_heap hx]; rfl
    have hs1 := hl1.size
    simp only [World.size_alloc] at hs1
    go_wp2_with (go_at_call 38; refine (writeByte_k B b _ 92 _ (.inr hb1) (by simp; omega) (by omega)).mono ?_)
    rintro e w2 ⟨rfl, hb2, hl2, hk2⟩
    go_wp2
    go_end0
    exact ⟨rfl, .inr (by simpa using hb2), (((Below.refl B w).alloc hB _).trans hl1).trans hl2, (((Lib.OthersKept.refl _ _ w).alloc _).trans hk1).trans hk2⟩


set_option maxHeartbeats 400000 in
theorem put_10 (kA kN : Nat) (n : Int) (hn : n = 2 ∨ n = 3) (B b : Nat) (bs : List Value) (c : Int) (w : World)
    (hA : w.heap[kA]? = some pairsObj) (hN : w.heap[kN]? = some (.cells #[.int .i64 n] 3)) (hb : Lib.IsBuilderF 55 5 B b bs w)
    (hlen : bs.length + 2 ≤ 140737488355328) (hB : B ≤ w.heap.size) (h0 : (c == 92) = false) (h1 : (c == 10) = true) :
    Calls Try.prog 39 #[.int .u8 c, .pointer (some ⟨kA, 0, none⟩), .pointer (some ⟨kN, 0, none⟩), .pointer (some ⟨b, 0, none⟩)] w (Put B b (bs ++ [.int .u8 92, .int .u8 110]) w) := by
  have c0 : w.cell? ⟨kA, 0, none⟩ = some (.int .u8 92) := by rw [Lib.cell_of_heap hA]; rfl
  have c1 : w.cell? ⟨kA, 1, none⟩ = some (.int .u8 92) := by rw [Lib.cell_of_heap hA]; rfl
  have c2 : w.cell? ⟨kA, 2, none⟩ = some (.int .u8 10) := by rw [Lib.cell_of_heap hA]; rfl
  have c3 : w.cell? ⟨kA, 3, none⟩ = some (.int .u8 110) := by rw [Lib.cell_of_heap hA]; rfl
  have cN : w.cell? ⟨kN, 0, none⟩ = some (.int .i64 n) := by rw [Lib.cell_of_heap hN]; rfl
  have hlA := lt_of_heap hA
  have hbB : b < w.heap.size := by rcases hb with h | h <;> exact h.lt
  rcases hn with rfl | rfl
  all_goals
    go_enter Try.func39, Try.ntmps39
    go_wp2
    refine wp_loop_rounds 4 ?_
    rw [rounds_succ]
    go_wp2_with fail
    rw [rounds_succ]
    go_wp2_with (go_at_call 38; refine (writeByte_k B b bs 92 _ ((hb.alloc _).alloc _) (by omega) (by simp; omega)).mono ?_)
    rintro e w1 ⟨rfl, hb1, hl1, hk1⟩
    have hx : w1.heap[w.heap.size + 1]? = some (.cells #[.int .u8 10, .int .u8 110] 64) := kept_cells hk1 (by simpa using alloc_new (w.alloc _) _) (by omega) (by decide)
    have d1 : w1.cell? ⟨w.heap.size + 1, 1, none⟩ = some (.int .u8 110) := by rw [Lib.cell_of_heap hx]; rfl
    have hs1 := hl1.size
    simp only [World.size_alloc] at hs1
    go_wp2_with (go_at_call 38; refine (writeByte_k B b _ 110 _ (.inr hb1) (by simp; omega) (by omega)).mono ?_)
    rintro e w2 ⟨rfl, hb2, hl2, hk2⟩
    go_wp2
    go_end0
    exact ⟨rfl, .inr (by simpa using hb2), ((((Below.refl B w).alloc hB _).alloc (by simp; omega) _).trans hl1).trans hl2, ((((Lib.OthersKept.refl _ _ w).alloc _).alloc _).trans hk1).trans hk2⟩

set_option maxHeartbeats 400000 in
theorem put_34 (kA kN : Nat) (B b : Nat) (bs : List Value) (c : Int) (w : World)
    (hA : w.heap[kA]? = some pairsObj) (hN : w.heap[kN]? = some (.cells #[.int .i64 3] 3)) (hb : Lib.IsBuilderF 55 5 B b bs w)
    (hlen : bs.length + 2 ≤ 140737488355328) (hB : B ≤ w.heap.size) (h0 : (c == 92) = false) (h1 : (c == 10) = false) (h2 : (c == 34) = true) :
    Calls Try.prog 39 #[.int .u8 c, .pointer (some ⟨kA, 0, none⟩), .pointer (some ⟨kN, 0, none⟩), .pointer (some ⟨b, 0, none⟩)] w (Put B b (bs ++ [.int .u8 92, .int .u8 34]) w) := by
  have c0 : w.cell? ⟨kA, 0, none⟩ = some (.int .u8 92) := by rw [Lib.cell_of_heap hA]; rfl
  have c1 : w.cell? ⟨kA, 1, none⟩ = some (.int .u8 92) := by rw [Lib.cell_of_heap hA]; rfl
  have c2 : w.cell? ⟨kA, 2, none⟩ = some (.int .u8 10) := by rw [Lib.cell_of_heap hA]; rfl
  have c3 : w.cell? ⟨kA, 3, none⟩ = some (.int .u8 110) := by rw [Lib.cell_of_heap hA]; rfl
  have c4 : w.cell? ⟨kA, 4, none⟩ = some (.int .u8 34) := by rw [Lib.cell_of_heap hA]; rfl
  have c5 : w.cell? ⟨kA, 5, none⟩ = some (.int .u8 34) := by rw [Lib.cell_of_heap hA]; rfl
  have cN : w.cell? ⟨kN, 0, none⟩ = some (.int .i64 3) := by rw [Lib.cell_of_heap hN]; rfl
  have hlA := lt_of_heap hA
  have hbB : b < w.heap.size := by rcases hb with h | h <;> exact h.lt
  go_enter Try.func39, Try.ntmps39
  go_wp2
  refine wp_loop_rounds 4 ?_
  rw [rounds_succ]
  go_wp2_with fail
  rw [rounds_succ]
  go_wp2_with fail
  rw [rounds_succ]
  go_wp2_with (go_at_call 38; refine (writeByte_k B b bs 92 _ (((hb.alloc _).alloc _).alloc _) (by omega) (by simp; omega)).mono ?_)
  rintro e w1 ⟨rfl, hb1, hl1, hk1⟩
  have hx : w1.heap[w.heap.size + 1 + 1]? = some (.cells #[.int .u8 34, .int .u8 34] 64) := kept_cells hk1 (by simpa using alloc_new ((w.alloc _).alloc _) _) (by omega) (by decide)
  have d1 : w1.cell? ⟨w.heap.size + 1 + 1, 1, none⟩ = some (.int .u8 34) := by rw [Lib.cell_of_heap hx]; rfl
  have hs1 := hl1.size
  simp only [World.size_alloc] at hs1
  go_wp2_with (go_at_call 38; refine (writeByte_k B b _ 34 _ (.inr hb1) (by simp; omega) (by omega)).mono ?_)
  rintro e w2 ⟨rfl, hb2, hl2, hk2⟩
  go_wp2
  go_end0
  exact ⟨rfl, .inr (by simpa using hb2), (((((Below.refl B w).alloc hB _).alloc (by simp; omega) _).alloc (by simp; omega) _).trans hl1).trans hl2, (((((Lib.OthersKept.refl _ _ w).alloc _).alloc _).alloc _).trans hk1).trans hk2⟩

set_option maxHeartbeats 400000 in
theorem put_plain2 (kA kN : Nat) (B b : Nat) (bs : List Value) (c : Int) (w : World)
    (hA : w.heap[kA]? = some pairsObj) (hN : w.heap[kN]? = some (.cells #[.int .i64 2] 3)) (hb : Lib.IsBuilderF 55 5 B b bs w)
    (hlen : bs.length + 2 ≤ 140737488355328) (hB : B ≤ w.heap.size) (h0 : (c == 92) = false) (h1 : (c == 10) = false) :
    Calls Try.prog 39 #[.int .u8 c, .pointer (some ⟨kA, 0, none⟩), .pointer (some ⟨kN, 0, none⟩), .pointer (some ⟨b, 0, none⟩)] w (Put B b (bs ++ [.int .u8 c]) w) := by
  have c0 : w.cell? ⟨kA, 0, none⟩ = some (.int .u8 92) := by rw [Lib.cell_of_heap hA]; rfl
  have c1 : w.cell? ⟨kA, 1, none⟩ = some (.int .u8 92) := by rw [Lib.cell_of_heap hA]; rfl
  have c2 : w.cell? ⟨kA, 2, none⟩ = some (.int .u8 10) := by rw [Lib.cell_of_heap hA]; rfl
  have c3 : w.cell? ⟨kA, 3, none⟩ = some (.int .u8 110) := by rw [Lib.cell_of_heap hA]; rfl
  have cN : w.cell? ⟨kN, 0, none⟩ = some (.int .i64 2) := by rw [Lib.cell_of_heap hN]; rfl
  have hlA := lt_of_heap hA
  have hbB : b < w.heap.size := by rcases hb with h | h <;> exact h.lt
  go_enter Try.func39, Try.ntmps39
  go_wp2
  refine wp_loop_rounds 4 ?_
  rw [rounds_succ]
  go_wp2_with fail
  rw [rounds_succ]
  go_wp2_with fail
  rw [rounds_succ]
  go_wp2_with (go_at_call 38; refine (writeByte_k B b bs c _ ((hb.alloc _).alloc _) (by omega) (by simp; omega)).mono ?_)
  rintro e w1 ⟨rfl, hb1, hl1, hk1⟩
  go_wp2
  go_end0
  exact ⟨rfl, .inr hb1, (((Below.refl B w).alloc hB _).alloc (by simp; omega) _).trans hl1, (((Lib.OthersKept.refl _ _ w).alloc _).alloc _).trans hk1⟩

set_option maxHeartbeats 400000 in
theorem put_plain3 (kA kN : Nat) (B b : Nat) (bs : List Value) (c : Int) (w : World)
    (hA : w.heap[kA]? = some pairsObj) (hN : w.heap[kN]? = some (.cells #[.int .i64 3] 3)) (hb : Lib.IsBuilderF 55 5 B b bs w)
    (hlen : bs.length + 2 ≤ 140737488355328) (hB : B ≤ w.heap.size) (h0 : (c == 92) = false) (h1 : (c == 10) = false) (h2 : (c == 34) = false) :
    Calls Try.prog 39 #[.int .u8 c, .pointer (some ⟨kA, 0, none⟩), .pointer (some ⟨kN, 0, none⟩), .pointer (some ⟨b, 0, none⟩)] w (Put B b (bs ++ [.int .u8 c]) w) := by
  have c0 : w.cell? ⟨kA, 0, none⟩ = some (.int .u8 92) := by rw [Lib.cell_of_heap hA]; rfl
  have c1 : w.cell? ⟨kA, 1, none⟩ = some (.int .u8 92) := by rw [Lib.cell_of_heap hA]; rfl
  have c2 : w.cell? ⟨kA, 2, none⟩ = some (.int .u8 10) := by rw [Lib.cell_of_heap hA]; rfl
  have c3 : w.cell? ⟨kA, 3, none⟩ = some (.int .u8 110) := by rw [Lib.cell_of_heap hA]; rfl
  have c4 : w.cell? ⟨kA, 4, none⟩ = some (.int .u8 34) := by rw [Lib.cell_of_heap hA]; rfl
  have c5 : w.cell? ⟨kA, 5, none⟩ = some (.int .u8 34) := by rw [Lib.cell_of_heap hA]; rfl
  have cN : w.cell? ⟨kN, 0, none⟩ = some (.int .i64 3) := by rw [Lib.cell_of_heap hN]; rfl
  have hlA := lt_of_heap hA
  have hbB : b < w.heap.size := by rcases hb with h | h <;> exact h.lt
  go_enter Try.func39, Try.ntmps39
  go_wp2
  refine wp_loop_rounds 4 ?_
  rw [rounds_succ]
  go_wp2_with fail
  rw [rounds_succ]
  go_wp2_with fail
  rw [rounds_succ]
  go_wp2_with fail
  rw [rounds_succ]
  go_wp2_with (go_at_call 38; refine (writeByte_k B b bs c _ (((hb.alloc _).alloc _).alloc _) (by omega) (by simp; omega)).mono ?_)
  rintro e w1 ⟨rfl, hb1, hl1, hk1⟩
  go_wp2
  go_end0
  exact ⟨rfl, .inr hb1, ((((Below.refl B w).alloc hB _).alloc (by simp; omega) _).alloc (by simp; omega) _).trans hl1, ((((Lib.OthersKept.refl _ _ w).alloc _).alloc _).alloc _).trans hk1⟩

/-- the closure of write: it lays what is written for a byte -/
theorem put_any (v : Bool) (kA kN : Nat) (B b : Nat) (l : List UInt8) (c : UInt8) (w : World)
    (hA : w.heap[kA]? = some pairsObj) (hN : w.heap[kN]? = some (.cells #[.int .i64 (if v then 3 else 2)] 3)) (hb : Lib.IsBuilderF 55 5 B b (Lib.byteCells l) w)
    (hlen : l.length + 2 ≤ 140737488355328) (hB : B ≤ w.heap.size) :
    Calls Try.prog 39 #[.int .u8 c.toNat, .pointer (some ⟨kA, 0, none⟩), .pointer (some ⟨kN, 0, none⟩), .pointer (some ⟨b, 0, none⟩)] w (Put B b (Lib.byteCells (l ++ Esc.enc v c)) w) := by
  have hl : (Lib.byteCells l).length + 2 ≤ 140737488355328 := by rw [Lib.byteCells_length]; exact hlen
  rw [Lib.byteCells_append]
  have e92 : ∀ k : UInt8, ((c.toNat : Int) == (k.toNat : Int)) = decide (c = k) := by
    intro k
    rw [Bool.eq_iff_iff]
    simp only [beq_iff_eq, decide_eq_true_eq]
    constructor
    · intro h; exact UInt8.toNat_inj.1 (by omega)
    · intro h; rw [h]
  by_cases h0 : c = 92
  · subst h0
    exact put_92 kA kN _ (by cases v <;> simp) B b _ _ w hA hN hb hl hB rfl
  have g0 : ((c.toNat : Int) == 92) = false := by have := e92 92; simpa [h0] using this
  by_cases h1 : c = 10
  · subst h1
    exact put_10 kA kN _ (by cases v <;> simp) B b _ _ w hA hN hb hl hB rfl rfl
  have g1 : ((c.toNat : Int) == 10) = false := by have := e92 10; simpa [h1] using this
  cases v with
  | false =>
    have e : Lib.byteCells (Esc.enc false c) = [.int .u8 c.toNat] := by simp [Esc.enc, h0, h1, Lib.byteCells]
    rw [e]
    exact put_plain2 kA kN B b _ _ w hA hN hb hl hB g0 g1
  | true =>
    by_cases h2 : c = 34
    · subst h2
      exact put_34 kA kN B b _ _ w hA hN hb hl hB rfl rfl rfl
    have g2 : ((c.toNat : Int) == 34) = false := by have := e92 34; simpa [h2] using this
    have e : Lib.byteCells (Esc.enc true c) = [.int .u8 c.toNat] := by simp [Esc.enc, h0, h1, h2, Lib.byteCells]
    rw [e]
    exact put_plain3 kA kN B b _ _ w hA hN hb hl hB g0 g1 g2

end Go.Proofs.Ytnognmgmhhbbiaa
