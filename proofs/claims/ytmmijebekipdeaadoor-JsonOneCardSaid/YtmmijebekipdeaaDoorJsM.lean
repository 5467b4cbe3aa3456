/- Where the reader stands in memory; worlds that differ in its block alone (and in what is new). -/
import Derived.Test.YtmmijebekipdeaaDoorOwn
import Derived.Test.YtmmijebekipdeaaDoorShelf
import Derived.Test.YtmmijebekipdeaaDoorJsP
import Derived.Lib.Hide
namespace Go.Proofs.YtmmijebekipdeaaDoor
open Go.RowKit

/-- the reader's block: the text, and the numbers at, open, begun -/
abbrev Js.obj (s : ByteArray) (k o b : Nat) : Obj := .cells #[.string s, .int .i64 k, .int .i64 o, .int .i64 b] 89

/-- all blocks that there were stand, but for the block R -/
structure Kp (R : Nat) (w w' : World) : Prop where
  os : w'.os = w.os
  tape : w'.tape = w.tape
  output : w'.output = w.output
  size : w.heap.size ≤ w'.heap.size
  block : ∀ k, k < w.heap.size → k ≠ R → w'.heap[k]? = w.heap[k]?
theorem Kp.refl (R : Nat) (w : World) : Kp R w w := ⟨rfl, rfl, rfl, Nat.le_refl _, fun _ _ _ => rfl⟩
theorem Kp.trans {R : Nat} {a b c : World} (h : Kp R a b) (k : Kp R b c) : Kp R a c :=
  ⟨k.os.trans h.os, k.tape.trans h.tape, k.output.trans h.output, Nat.le_trans h.size k.size, fun i hi hr => (k.block i (Nat.lt_of_lt_of_le hi h.size) hr).trans (h.block i hi hr)⟩
theorem Kp.of {R B : Nat} {w w' : World} (h : Below B w w') (hB : w.heap.size ≤ B) : Kp R w w' :=
  ⟨h.os, h.tape, h.output, h.size, fun k hk _ => h.block k (Nat.lt_of_lt_of_le hk hB)⟩
theorem Kp.then {R B : Nat} {a w w' : World} (h : Kp R a w) (k : Below B w w') (hB : a.heap.size ≤ B) : Kp R a w' :=
  ⟨k.os.trans h.os, k.tape.trans h.tape, k.output.trans h.output, Nat.le_trans h.size k.size, fun i hi hr => (k.block i (Nat.lt_of_lt_of_le hi hB)).trans (h.block i hi hr)⟩
theorem Kp.set {R : Nat} {a w : World} (h : Kp R a w) (i : Nat) (v : Value) : Kp R a (w.setCell ⟨R, i, none⟩ v) :=
  ⟨h.os, h.tape, h.output, by simpa using h.size, fun k hk hr => (Below.heap_setCell w ⟨R, i, none⟩ v k hr).trans (h.block k hk hr)⟩
theorem Kp.below {R B : Nat} {w w' : World} (h : Kp R w w') (hB : B ≤ w.heap.size) (hR : B ≤ R) : Below B w w' :=
  ⟨h.os, h.tape, h.output, h.size, fun k hk => h.block k (by omega) (by omega)⟩
theorem Kp.row {R B e n m : Nat} {v : Value} {xs : List Value} {w w' : World} (h : w.ownsRow B e n v m xs) (k : Kp R w w') (hR : R < B) : w'.ownsRow B e n v m xs := by
  obtain ⟨h1, h2⟩ := h
  refine ⟨h1, ?_⟩
  rcases h2 with h2 | ⟨g, cap, cur, hv, hg, hh, r⟩
  · exact .inl h2
  · exact .inr ⟨g, cap, cur, hv, hg, (k.block g (lt_of_heap hh) (by omega)).trans hh, r⟩
theorem Kp.rowF {R B e n m : Nat} {v : Value} {xs : List Value} {w w' : World} (h : w.ownsRowF B e n v m xs) (k : Kp R w w') (hR : R < B) : w'.ownsRowF B e n v m xs := by
  obtain ⟨h1, h2⟩ := h
  refine ⟨h1, ?_⟩
  rcases h2 with h2 | ⟨g, cap, cur, fz, hv, hg, hh, r⟩
  · exact .inl h2
  · exact .inr ⟨g, cap, cur, fz, hv, hg, (k.block g (lt_of_heap hh) (by omega)).trans hh, r⟩
theorem Kp.builder {R T e B b : Nat} {bs : List Value} {w w' : World} (h : Lib.IsBuilderF T e B b bs w) (k : Kp R w w') (hR : R < B) : Lib.IsBuilderF T e B b bs w' := by
  rcases h with ⟨hb, v, h1, h2, h3⟩ | ⟨hb, v, h1, h2, h3⟩
  · exact .inl ⟨hb, v, (k.block b (lt_of_heap h1) (by omega)).trans h1, k.rowF h2 hR, h3⟩
  · exact .inr ⟨hb, v, (k.block b (lt_of_heap h1) (by omega)).trans h1, k.rowF h2 hR, h3⟩

theorem bodyPost_stop {P : Program} {fn : Func} {R : Ending → World → Prop} {a : Act} {w : World} {ch : List PanicEntry} (hd : a.defers = []) (h : R (.panicked ch) w) : bodyPost P fn R (.panic ch) a w := by
  simp only [bodyPost, hd]
  first | exact h | exact ⟨trivial, h⟩ | simpa using h
theorem Kp.drew {R : Nat} {a w : World} (h : Kp R a w) (n : Nat) : Kp R a (w.drewN n) := h.trans (Kp.of (below_drewN (Below.refl _ _) n) (Nat.le_refl _))
theorem Js.set_at {R : Nat} {s : ByteArray} {k o b : Nat} {w : World} (h : w.heap[R]? = some (Js.obj s k o b)) (x : Int) (k' : Nat) (hx : x = k') : (w.setCell ⟨R, 1, none⟩ (.int .i64 x)).heap[R]? = some (Js.obj s k' o b) := by
  subst hx
  exact heap_setCell_same _ R 1 _ _ _ h
theorem Js.set_open {R : Nat} {s : ByteArray} {k o b : Nat} {w : World} (h : w.heap[R]? = some (Js.obj s k o b)) (x : Int) (k' : Nat) (hx : x = k') : (w.setCell ⟨R, 2, none⟩ (.int .i64 x)).heap[R]? = some (Js.obj s k k' b) := by
  subst hx
  exact heap_setCell_same _ R 2 _ _ _ h
theorem Js.set_begun {R : Nat} {s : ByteArray} {k o b : Nat} {w : World} (h : w.heap[R]? = some (Js.obj s k o b)) (x : Int) (k' : Nat) (hx : x = k') : (w.setCell ⟨R, 3, none⟩ (.int .i64 x)).heap[R]? = some (Js.obj s k o k') := by
  subst hx
  exact heap_setCell_same _ R 3 _ _ _ h
theorem Js.drew_heap {R : Nat} {s : ByteArray} {k o b : Nat} {w : World} (h : w.heap[R]? = some (Js.obj s k o b)) (n : Nat) : (w.drewN n).heap[R]? = some (Js.obj s k o b) := by simpa using h
/-- a call that stops the reading -/
def Js.Stops (R : Nat) (x : Nat × Nat) (w : World) (e : Ending) (w' : World) : Prop :=
  e = .panicked [{ v := .iface 85 (.agg #[.int .i64 x.1, .int .i64 x.2]), recovered := false }] ∧ Kp R w w'
/-- a call that goes on: what it hands back, and where the reader stands then -/
def Js.Goes (R : Nat) (s : ByteArray) (k o b : Nat) (v : Value) (w : World) (e : Ending) (w' : World) : Prop :=
  e = .returned v ∧ w'.heap[R]? = some (Js.obj s k o b) ∧ Kp R w w'

theorem Js.beq_t {a b : Int} (h : a = b) : (a == b) = true := by rw [beq_iff_eq]; exact h
theorem Js.beq_f {a b : Int} (h : a ≠ b) : (a == b) = false := by simpa using h
theorem Js.nx_get (s : ByteArray) (k : Nat) (h : k < s.size) : Js.nx s k = s[k].toNat := by unfold Js.nx; rw [dif_pos h]
theorem Js.nx_end (s : ByteArray) (k : Nat) (h : s.size ≤ k) : Js.nx s k = 0 := by unfold Js.nx; rw [dif_neg (by omega)]
theorem Js.nx_lt (s : ByteArray) (k : Nat) : Js.nx s k < 256 := by
  unfold Js.nx
  split
  · exact UInt8.toNat_lt _
  · omega
theorem Js.runF_more (p : Nat → Bool) (s : ByteArray) (h0 : p 0 = false) : ∀ n k, s.size - k ≤ n → Js.runF p s n k = Js.runF p s (s.size - k) k
  | 0, k, h => by rw [show s.size - k = 0 by omega]
  | n + 1, k, h => by
    by_cases hk : k < s.size
    · obtain ⟨m, hm⟩ : ∃ m, s.size - k = m + 1 := ⟨s.size - k - 1, by omega⟩
      rw [hm]
      unfold Js.runF
      by_cases hp : p (Js.nx s k) = true
      · rw [if_pos hp, if_pos hp, Js.runF_more p s h0 n (k + 1) (by omega), show m = s.size - (k + 1) by omega]
      · rw [if_neg hp, if_neg hp]
    · rw [show s.size - k = 0 by omega]
      unfold Js.runF
      rw [Js.nx_end s k (by omega), h0]
      rfl
theorem Js.run_step (p : Nat → Bool) (s : ByteArray) (k : Nat) (h0 : p 0 = false) (h : p (Js.nx s k) = true) : Js.runF p s (s.size - k) k = Js.runF p s (s.size - (k + 1)) (k + 1) := by
  have hk : k < s.size := Nat.lt_of_not_le fun hh => by rw [Js.nx_end s k hh, h0] at h; cases h
  obtain ⟨m, hm⟩ : ∃ m, s.size - k = m + 1 := ⟨s.size - k - 1, by omega⟩
  rw [hm, Js.runF, if_pos h, show m = s.size - (k + 1) by omega]
theorem Js.run_stop (p : Nat → Bool) (s : ByteArray) (k : Nat) (h : p (Js.nx s k) = false) : ∀ n, Js.runF p s n k = k
  | 0 => rfl
  | n + 1 => by rw [Js.runF, h]; rfl
theorem Js.run_ge (p : Nat → Bool) (s : ByteArray) : ∀ n k, k ≤ Js.runF p s n k
  | 0, k => Nat.le_refl _
  | n + 1, k => by
    rw [Js.runF]
    split
    · exact Nat.le_trans (Nat.le_succ k) (Js.run_ge p s n (k + 1))
    · exact Nat.le_refl _
theorem Js.run_le (p : Nat → Bool) (s : ByteArray) (h0 : p 0 = false) : ∀ n k, k ≤ s.size → Js.runF p s n k ≤ s.size
  | 0, k, h => h
  | n + 1, k, h => by
    rw [Js.runF]
    split
    case isTrue hp =>
      refine Js.run_le p s h0 n (k + 1) (Nat.lt_of_not_le fun hh => ?_)
      rw [Js.nx_end s k hh, h0] at hp; cases hp
    · exact h
theorem Js.sp_step (s : ByteArray) (k : Nat) (h : Js.isSp (Js.nx s k) = true) : Js.sp s k = Js.sp s (k + 1) := Js.run_step _ s k (by decide) h
theorem Js.sp_stop (s : ByteArray) (k : Nat) (h : Js.isSp (Js.nx s k) = false) : Js.sp s k = k := Js.run_stop _ s k h _
theorem Js.sp_ge (s : ByteArray) (k : Nat) : k ≤ Js.sp s k := Js.run_ge _ s _ k
theorem Js.sp_le (s : ByteArray) (k : Nat) (h : k ≤ s.size) : Js.sp s k ≤ s.size := Js.run_le _ s (by decide) _ k h
theorem Js.dg_step (s : ByteArray) (k : Nat) (h : Js.isDg (Js.nx s k) = true) : Js.dg s k = Js.dg s (k + 1) := Js.run_step _ s k (by decide) h
theorem Js.dg_stop (s : ByteArray) (k : Nat) (h : Js.isDg (Js.nx s k) = false) : Js.dg s k = k := Js.run_stop _ s k h _
theorem Js.dg_ge (s : ByteArray) (k : Nat) : k ≤ Js.dg s k := Js.run_ge _ s _ k
theorem Js.dg_le (s : ByteArray) (k : Nat) (h : k ≤ s.size) : Js.dg s k ≤ s.size := Js.run_le _ s (by decide) _ k h

/-- strings.IndexByte of a literal: what is asked of its result -/
theorem Js.ix_is (l : ByteArray) (c : Nat) (p : Bool) (hp : decide (0 ≤ Lib.indexByte l.data.toList (UInt8.ofNat c)) = p) :
    ∃ r : Int, decide (0 ≤ r) = p ∧ decide (r < 0) = !p ∧ ∀ w, Calls Tryd.prog 36 #[.string l, .int .u8 c] w fun e w' => e = .returned (.int .i64 r) ∧ w' = w := by
  refine ⟨_, hp, ?_, fun w => ?_⟩
  · rw [← hp]
    by_cases h : 0 ≤ Lib.indexByte l.data.toList (UInt8.ofNat c)
    · rw [decide_eq_true h, decide_eq_false (by omega)]; rfl
    · rw [decide_eq_false h, decide_eq_true (by omega)]; rfl
  · exact Tryd.strings_IndexByte l c w
theorem Js.fin256 {P : Nat → Prop} (h : ∀ c : Fin 256, P c.val) (c : Nat) (hc : c < 256) : P c := h ⟨c, hc⟩
theorem Js.ix_sp (c : Nat) (hc : c < 256) : decide (0 ≤ Lib.indexByte [32, 9, 10, 13] (UInt8.ofNat c)) = Js.isSp c :=
  Js.fin256 (P := fun c => decide (0 ≤ Lib.indexByte [32, 9, 10, 13] (UInt8.ofNat c)) = Js.isSp c) (by decide +kernel) c hc
end Go.Proofs.YtmmijebekipdeaaDoor
