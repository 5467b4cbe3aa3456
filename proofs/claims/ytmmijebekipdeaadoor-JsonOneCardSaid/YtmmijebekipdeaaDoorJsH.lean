/- Contract of json.Read, with the deferred function that recovers. -/
import Derived.Test.YtmmijebekipdeaaDoorJsG
import Derived.Test.YtmmijebekipdeaaDoorJsU
import Derived.Defers
import Derived.Recover
namespace Go.Proofs.YtmmijebekipdeaaDoor
open Go.RowKit
set_option maxRecDepth 100000

abbrev Js.zeroObj : Obj := .cells #[.int .u8 0, .string ⟨#[]⟩, .slice none 0 0, .slice none 0 0] 27
/-- the three results' blocks, and all else as it was -/
structure Js.Kp3 (V : Nat) (w w' : World) : Prop where
  os : w'.os = w.os
  tape : w'.tape = w.tape
  output : w'.output = w.output
  size : w.heap.size ≤ w'.heap.size
  block : ∀ k, k < w.heap.size → k ≠ V → k ≠ V + 1 → k ≠ V + 2 → w'.heap[k]? = w.heap[k]?

set_option maxHeartbeats 4000000 in
theorem Js.catch_stop (V : Nat) (k e : Nat) (older : List PanicEntry) (w : World) (x0 x1 x2 x3 x4 x5 : Value)
    (hV : w.heap[V]? = some (.cells #[x0, x1, x2, x3] 27)) (hA : w.heap[V + 1]? = some (.cells #[x4] 3)) (hE : w.heap[V + 2]? = some (.cells #[x5] 30)) :
    CallsD Tryd.prog 51 #[.pointer (some ⟨V, 0, none⟩), .pointer (some ⟨V + 1, 0, none⟩), .pointer (some ⟨V + 2, 0, none⟩)]
      (.panicking ({ v := .iface 85 (.agg #[.int .i64 k, .int .i64 e]), recovered := false } :: older)) w fun e' u' w' =>
      e' = .returned (.tuple #[]) ∧ u' = .panicking ({ v := .iface 85 (.agg #[.int .i64 k, .int .i64 e]), recovered := true } :: older) ∧
      w'.heap[V]? = some Js.zeroObj ∧ w'.heap[V + 1]? = some (.cells #[.int .i64 k] 3) ∧ w'.heap[V + 2]? = some (.cells #[.int .i64 e] 30) ∧ Js.Kp3 V w w' := by
  refine callsD_of_wpS Tryd.func51 rfl fun c₀ cs hu => ?_
  apply wpS_seq
  apply wpS_region
  have hrep : Array.replicate 18 undef = #[undef, undef, undef, undef, undef, undef, undef, undef, undef, undef, undef, undef, undef, undef, undef, undef, undef, undef] := rfl
  simp [wpOpsS, go_sem, recoverD, hu, Tryd.ntmps51, Exit.thenS, hrep]
  refine wpS_of_wp ?_
  have HV := Lib.hid hV
  have HA := Lib.hid hA
  have HE := Lib.hid hE
  clear hV hA hE
  have hta : ∀ W : World, (Instr.typeAssert (.iface 85 (.agg #[.int .i64 k, .int .i64 e])) 20 85 true).run Tryd.prog W = .ok (.tuple #[.agg #[.int .i64 k, .int .i64 e], .bool true]) W := fun W => by kernel_rfl
  clear hrep
  go_wp2_with fail
  have HVb := Lib.hid (alloc_kept (o' := .cells #[.int .i64 k, .int .i64 e] 85) HV.out)
  have HAb := Lib.hid (alloc_kept (o' := .cells #[.int .i64 k, .int .i64 e] 85) HA.out)
  have HEb := Lib.hid (alloc_kept (o' := .cells #[.int .i64 k, .int .i64 e] 85) HE.out)
  have HYb := Lib.hid (alloc_new w (.cells #[.int .i64 k, .int .i64 e] 85))
  have HB := Lib.hid ((Below.refl w.heap.size w).alloc (Nat.le_refl _) (.cells #[.int .i64 k, .int .i64 e] 85))
  have hlE := lt_of_heap HE.out
  generalize w.alloc (.cells #[.int .i64 k, .int .i64 e] 85) = W0 at HVb HAb HEb HYb HB ⊢
  have v0 : W0.cell? ⟨V, 0, none⟩ = some x0 := by rw [Lib.cell_of_heap HVb.out]; rfl
  have v1 : W0.cell? ⟨V, 1, none⟩ = some x1 := by rw [Lib.cell_of_heap HVb.out]; rfl
  have v2 : W0.cell? ⟨V, 2, none⟩ = some x2 := by rw [Lib.cell_of_heap HVb.out]; rfl
  have v3 : W0.cell? ⟨V, 3, none⟩ = some x3 := by rw [Lib.cell_of_heap HVb.out]; rfl
  have g0 : W0.frozen? ⟨V, 0, none⟩ = false := Lib.frozen_of_heap HVb.out 0
  have g1 : W0.frozen? ⟨V, 1, none⟩ = false := Lib.frozen_of_heap HVb.out 1
  have g2 : W0.frozen? ⟨V, 2, none⟩ = false := Lib.frozen_of_heap HVb.out 2
  have g3 : W0.frozen? ⟨V, 3, none⟩ = false := Lib.frozen_of_heap HVb.out 3
  have a0 : W0.cell? ⟨V + 1, 0, none⟩ = some x4 := by rw [Lib.cell_of_heap HAb.out]; rfl
  have gA : W0.frozen? ⟨V + 1, 0, none⟩ = false := Lib.frozen_of_heap HAb.out 0
  have e0 : W0.cell? ⟨V + 2, 0, none⟩ = some x5 := by rw [Lib.cell_of_heap HEb.out]; rfl
  have gE : W0.frozen? ⟨V + 2, 0, none⟩ = false := Lib.frozen_of_heap HEb.out 0
  have y0 : W0.cell? ⟨w.heap.size, 0, none⟩ = some (.int .i64 k) := by rw [Lib.cell_of_heap HYb.out]; rfl
  have y1 : W0.cell? ⟨w.heap.size, 1, none⟩ = some (.int .i64 e) := by rw [Lib.cell_of_heap HYb.out]; rfl
  have n1 : V < w.heap.size := by omega
  have n2 : V + 1 < w.heap.size := by omega
  go_region
  have b0 := heap_setCell_same W0 V 0 _ _ (.int .u8 0) HVb.out
  have b1 := heap_setCell_same _ V 1 _ _ (.string ⟨#[]⟩) b0
  have b2 := heap_setCell_same _ V 2 _ _ (.slice none 0 0) b1
  have b3 := heap_setCell_same _ V 3 _ _ (.slice none 0 0) b2
  have kV : Kp V W0 ((((W0.setCell ⟨V, 0, none⟩ (.int .u8 0)).setCell ⟨V, 1, none⟩ (.string ⟨#[]⟩)).setCell ⟨V, 2, none⟩ (.slice none 0 0)).setCell ⟨V, 3, none⟩ (.slice none 0 0)) := (((Kp.refl V W0).set 0 _).set 1 _).set 2 _ |>.set 3 _
  have hz := HB.out.size
  generalize (((W0.setCell ⟨V, 0, none⟩ (.int .u8 0)).setCell ⟨V, 1, none⟩ (.string ⟨#[]⟩)).setCell ⟨V, 2, none⟩ (.slice none 0 0)).setCell ⟨V, 3, none⟩ (.slice none 0 0) = W1 at b3 kV ⊢
  have hA1 := (kV.block (V + 1) (by omega) (by omega)).trans HAb.out
  have hE1 := (kV.block (V + 2) (by omega) (by omega)).trans HEb.out
  have d1 := heap_setCell_same W1 (V + 1) 0 _ _ (.int .i64 (k : Int)) hA1
  have kA : Kp (V + 1) W1 (W1.setCell ⟨V + 1, 0, none⟩ (.int .i64 k)) := (Kp.refl _ W1).set 0 _
  have hz1 := kV.size
  generalize W1.setCell ⟨V + 1, 0, none⟩ (.int .i64 k) = W2 at d1 kA ⊢
  have hE2 := (kA.block (V + 2) (by omega) (by omega)).trans hE1
  have d2 := heap_setCell_same W2 (V + 2) 0 _ _ (.int .i64 (e : Int)) hE2
  have kE : Kp (V + 2) W2 (W2.setCell ⟨V + 2, 0, none⟩ (.int .i64 e)) := (Kp.refl _ W2).set 0 _
  have hz2 := kA.size
  generalize W2.setCell ⟨V + 2, 0, none⟩ (.int .i64 e) = W3 at d2 kE ⊢
  have hz3 := kE.size
  refine ⟨rfl, .panicking ({ v := .iface 85 (.agg #[.int .i64 k, .int .i64 e]), recovered := true } :: older), by cases c₀; simp_all, .tuple #[], by simp [results, Tryd.results51, go_sem], rfl, rfl, ?_, ?_, d2, ?_⟩
  · exact (kE.block V (by omega) (by omega)).trans ((kA.block V (by omega) (by omega)).trans b3)
  · exact (kE.block (V + 1) (by omega) (by omega)).trans d1
  · exact ⟨kE.os.trans (kA.os.trans (kV.os.trans HB.out.os)), kE.tape.trans (kA.tape.trans (kV.tape.trans HB.out.tape)), kE.output.trans (kA.output.trans (kV.output.trans HB.out.output)), by show w.heap.size ≤ W3.heap.size; omega,
      fun j hj h0 h1 h2 => (kE.block j (by omega) h2).trans ((kA.block j (by omega) h1).trans ((kV.block j (by omega) h0).trans (HB.out.block j hj)))⟩

set_option maxHeartbeats 4000000 in
theorem Js.catch_idle (V : Nat) (w : World) :
    CallsD Tryd.prog 51 #[.pointer (some ⟨V, 0, none⟩), .pointer (some ⟨V + 1, 0, none⟩), .pointer (some ⟨V + 2, 0, none⟩)] .returning w fun e' u' w' =>
      e' = .returned (.tuple #[]) ∧ u' = .returning ∧ Below w.heap.size w w' := by
  refine callsD_of_wpS Tryd.func51 rfl fun c₀ cs hu => ?_
  apply wpS_seq
  apply wpS_region
  have hrep : Array.replicate 18 undef = #[undef, undef, undef, undef, undef, undef, undef, undef, undef, undef, undef, undef, undef, undef, undef, undef, undef, undef] := rfl
  simp [wpOpsS, go_sem, recoverD, hu, Tryd.ntmps51, Exit.thenS, hrep]
  refine wpS_of_wp ?_
  have hta : ∀ W : World, (Instr.typeAssert .nilIface 20 85 true).run Tryd.prog W = .ok (.tuple #[.agg #[.int .i64 0, .int .i64 0], .bool false]) W := fun W => by kernel_rfl
  clear hrep
  go_wp2_with fail
  exact ⟨rfl, .returning, by cases c₀; simp_all, .tuple #[], by simp [results, Tryd.results51, go_sem], rfl, rfl, (Below.refl _ _).alloc (Nat.le_refl _) _⟩
end Go.Proofs.YtmmijebekipdeaaDoor
