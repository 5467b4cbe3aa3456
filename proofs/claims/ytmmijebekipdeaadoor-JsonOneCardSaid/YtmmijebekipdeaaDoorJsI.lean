/- Contract of json.Read. -/
import Derived.Test.YtmmijebekipdeaaDoorJsH
import Derived.WalkKit
namespace Go.Proofs.YtmmijebekipdeaaDoor
open Go.RowKit
set_option maxRecDepth 100000

/-- what follows the value -/
def Js.fin (s : ByteArray) : Js.R (Js.V × Nat × Nat) → Js.R Js.V
  | .error e => .error e
  | .ok (v, k, _) => if Js.sp s k < s.size then .error (Js.wrong s (Js.sp s k)) else .ok v
/-- what Read hands back -/
def Js.RdRes (w : World) (x : Js.R Js.V) (e : Ending) (w' : World) : Prop :=
  Below w.heap.size w w' ∧ match x with
  | .ok v => ∃ t : Js.It, t.x = v ∧ e = .returned (.tuple #[.agg #[.int .u8 t.x.kind, .string t.x.text, t.nv, t.iv], .int .i64 (-1), .int .i64 0]) ∧ Js.VAt (fun k => w.heap.size ≤ k) w' t.x t.nv t.iv
  | .error p => e = .returned (.tuple #[.agg #[.int .u8 0, .string ⟨#[]⟩, .slice none 0 0, .slice none 0 0], .int .i64 p.1, .int .i64 p.2])

theorem Js.read_leave {fn : Func} {Q : Ending → World → Prop} {tmps : Array Value} {w : World} {V : Nat} {x0 x1 x2 x3 y z : Value} (hres : fn.results = #[.cell 2 27, .cell 3 3, .cell 4 30])
    (h2 : tmps[2]? = some (.pointer (some ⟨V, 0, none⟩))) (h3 : tmps[3]? = some (.pointer (some ⟨V + 1, 0, none⟩))) (h4 : tmps[4]? = some (.pointer (some ⟨V + 2, 0, none⟩)))
    (hV : w.heap[V]? = some (.cells #[x0, x1, x2, x3] 27)) (hA : w.heap[V + 1]? = some (.cells #[y] 3)) (hE : w.heap[V + 2]? = some (.cells #[z] 30))
    (h : Q (.returned (.tuple #[.agg #[x0, x1, x2, x3], y, z])) w) : Leaves Tryd.prog fn tmps Q [] .returning w := by
  have c0 : w.cell? ⟨V, 0, none⟩ = some x0 := by rw [Lib.cell_of_heap hV]; rfl
  have c1 : w.cell? ⟨V, 1, none⟩ = some x1 := by rw [Lib.cell_of_heap hV]; rfl
  have c2 : w.cell? ⟨V, 2, none⟩ = some x2 := by rw [Lib.cell_of_heap hV]; rfl
  have c3 : w.cell? ⟨V, 3, none⟩ = some x3 := by rw [Lib.cell_of_heap hV]; rfl
  have c4 : w.cell? ⟨V + 1, 0, none⟩ = some y := by rw [Lib.cell_of_heap hA]; rfl
  have c5 : w.cell? ⟨V + 2, 0, none⟩ = some z := by rw [Lib.cell_of_heap hE]; rfl
  refine ⟨.tuple #[.agg #[x0, x1, x2, x3], y, z], ?_, h⟩
  simp [results, hres, h2, h3, h4, go_sem, c0, c1, c2, c3, c4, c5]

theorem Js.Kp3.below {V : Nat} {w w1 w2 : World} (h : Below V w w1) (k : Js.Kp3 V w1 w2) (hV : V ≤ w1.heap.size) : Below V w w2 :=
  ⟨k.os.trans h.os, k.tape.trans h.tape, k.output.trans h.output, Nat.le_trans h.size k.size, fun j hj => (k.block j (by omega) (by omega) (by omega) (by omega)).trans (h.block j hj)⟩
theorem Js.sets6 {V : Nat} {w1 : World} {a0 a1 a2 a3 a4 a5 x0 x1 x2 x3 y z : Value} (hV : w1.heap[V]? = some (.cells #[a0, a1, a2, a3] 27)) (hA : w1.heap[V + 1]? = some (.cells #[a4] 3)) (hE : w1.heap[V + 2]? = some (.cells #[a5] 30)) :
    ((((((w1.setCell ⟨V, 0, none⟩ x0).setCell ⟨V, 1, none⟩ x1).setCell ⟨V, 2, none⟩ x2).setCell ⟨V, 3, none⟩ x3).setCell ⟨V + 1, 0, none⟩ y).setCell ⟨V + 2, 0, none⟩ z).heap[V]? = some (.cells #[x0, x1, x2, x3] 27) ∧ ((((((w1.setCell ⟨V, 0, none⟩ x0).setCell ⟨V, 1, none⟩ x1).setCell ⟨V, 2, none⟩ x2).setCell ⟨V, 3, none⟩ x3).setCell ⟨V + 1, 0, none⟩ y).setCell ⟨V + 2, 0, none⟩ z).heap[V + 1]? = some (.cells #[y] 3) ∧ ((((((w1.setCell ⟨V, 0, none⟩ x0).setCell ⟨V, 1, none⟩ x1).setCell ⟨V, 2, none⟩ x2).setCell ⟨V, 3, none⟩ x3).setCell ⟨V + 1, 0, none⟩ y).setCell ⟨V + 2, 0, none⟩ z).heap[V + 2]? = some (.cells #[z] 30) ∧ Js.Kp3 V w1 ((((((w1.setCell ⟨V, 0, none⟩ x0).setCell ⟨V, 1, none⟩ x1).setCell ⟨V, 2, none⟩ x2).setCell ⟨V, 3, none⟩ x3).setCell ⟨V + 1, 0, none⟩ y).setCell ⟨V + 2, 0, none⟩ z) := by
  have b0 := heap_setCell_same w1 V 0 _ _ x0 hV
  have b1 := heap_setCell_same _ V 1 _ _ x1 b0
  have b2 := heap_setCell_same _ V 2 _ _ x2 b1
  have b3 := heap_setCell_same _ V 3 _ _ x3 b2
  have kV : Kp V w1 ((((w1.setCell ⟨V, 0, none⟩ x0).setCell ⟨V, 1, none⟩ x1).setCell ⟨V, 2, none⟩ x2).setCell ⟨V, 3, none⟩ x3) := (((Kp.refl V w1).set 0 _).set 1 _).set 2 _ |>.set 3 _
  have hl := lt_of_heap hE
  generalize (((w1.setCell ⟨V, 0, none⟩ x0).setCell ⟨V, 1, none⟩ x1).setCell ⟨V, 2, none⟩ x2).setCell ⟨V, 3, none⟩ x3 = W1 at b3 kV ⊢
  have hA1 := (kV.block (V + 1) (by omega) (by omega)).trans hA
  have hE1 := (kV.block (V + 2) (by omega) (by omega)).trans hE
  have d1 := heap_setCell_same W1 (V + 1) 0 _ _ y hA1
  have kA : Kp (V + 1) W1 (W1.setCell ⟨V + 1, 0, none⟩ y) := (Kp.refl _ W1).set 0 _
  have hz1 := kV.size
  generalize W1.setCell ⟨V + 1, 0, none⟩ y = W2 at d1 kA ⊢
  have hE2 := (kA.block (V + 2) (by omega) (by omega)).trans hE1
  have d2 := heap_setCell_same W2 (V + 2) 0 _ _ z hE2
  have kE : Kp (V + 2) W2 (W2.setCell ⟨V + 2, 0, none⟩ z) := (Kp.refl _ W2).set 0 _
  have hz2 := kA.size
  generalize W2.setCell ⟨V + 2, 0, none⟩ z = W3 at d2 kE ⊢
  have hz3 := kE.size
  refine ⟨(kE.block V (by omega) (by omega)).trans ((kA.block V (by omega) (by omega)).trans b3), (kE.block (V + 1) (by omega) (by omega)).trans d1, d2, ?_⟩
  exact ⟨kE.os.trans (kA.os.trans kV.os), kE.tape.trans (kA.tape.trans kV.tape), kE.output.trans (kA.output.trans kV.output), by omega,
    fun j hj h0 h1 h2 => (kE.block j (by omega) h2).trans ((kA.block j (by omega) h1).trans (kV.block j (by omega) h0))⟩

set_option maxHeartbeats 8000000 in
theorem Js.read_is (s : ByteArray) (w : World) (hT : Lib.Utf8Tabs 0 1 w) (hs : s.size ≤ maxLen) :
    Calls Tryd.prog 18 #[.string s] w (Js.RdRes w (Js.read s)) := by
  have hmf : ∀ (fn : Fn) (first cap : Array Value) (w : World), (Instr.makeFunc fn first cap).run Tryd.prog w = .ok (.func fn first cap) w := fun _ _ _ _ => rfl
  obtain ⟨X, hX⟩ : ∃ X, Js.read s = X := ⟨_, rfl⟩
  rw [hX]
  unfold Js.read at hX
  unfold maxLen at hs
  have HT := Lib.hid hT
  by_cases h1 : 65536 < s.size
  · rw [if_pos h1] at hX
    have HX := Lib.hid hX
    have b1 : decide ((65536 : Int) < (s.size : Int)) = true := decide_eq_true (by omega)
    clear hX hT
    go_enter_defers Tryd.func18, Tryd.ntmps18
    go_wp2
    obtain rfl : _ = X := HX.out
    refine Js.read_leave (V := w.heap.size) rfl rfl rfl rfl (alloc_kept (alloc_kept (alloc_new _ _))) (alloc_kept ?_) ?_ ⟨(((Below.refl w.heap.size w).alloc (Nat.le_refl _) _).alloc (by simp) _).alloc (by simp; omega) _, rfl⟩
    · have h9 := alloc_new (w.alloc (.cells #[.int .u8 0, .string ⟨#[]⟩, .slice none 0 0, .slice none 0 0] 27)) (.cells #[.int .i64 0] 3)
      rw [World.size_alloc] at h9
      exact h9
    · have h9 := alloc_new ((w.alloc (.cells #[.int .u8 0, .string ⟨#[]⟩, .slice none 0 0, .slice none 0 0] 27)).alloc (.cells #[.int .i64 0] 3)) (.cells #[.int .i64 3] 30)
      rw [World.size_alloc, World.size_alloc] at h9
      exact h9
  · rw [if_neg h1] at hX
    have hs1 : s.size ≤ 1000000 := by omega
    have b1 : decide ((65536 : Int) < (s.size : Int)) = false := decide_eq_false (by omega)
    have hV0 : Hid ((((w.alloc (.cells #[.int .u8 0, .string ⟨#[]⟩, .slice none 0 0, .slice none 0 0] 27)).alloc (.cells #[.int .i64 0] 3)).alloc (.cells #[.int .i64 0] 30)).heap[w.heap.size]? = some Js.zeroObj) := alloc_kept (alloc_kept (alloc_new _ _))
    have hA0 : Hid ((((w.alloc (.cells #[.int .u8 0, .string ⟨#[]⟩, .slice none 0 0, .slice none 0 0] 27)).alloc (.cells #[.int .i64 0] 3)).alloc (.cells #[.int .i64 0] 30)).heap[w.heap.size + 1]? = some (.cells #[.int .i64 0] 3)) := alloc_kept (by
      have h9 := alloc_new (w.alloc (.cells #[.int .u8 0, .string ⟨#[]⟩, .slice none 0 0, .slice none 0 0] 27)) (.cells #[.int .i64 0] 3)
      rw [World.size_alloc] at h9
      exact h9)
    have hE0 : Hid ((((w.alloc (.cells #[.int .u8 0, .string ⟨#[]⟩, .slice none 0 0, .slice none 0 0] 27)).alloc (.cells #[.int .i64 0] 3)).alloc (.cells #[.int .i64 0] 30)).heap[w.heap.size + 2]? = some (.cells #[.int .i64 0] 30)) := by
      have h9 := alloc_new ((w.alloc (.cells #[.int .u8 0, .string ⟨#[]⟩, .slice none 0 0, .slice none 0 0] 27)).alloc (.cells #[.int .i64 0] 3)) (.cells #[.int .i64 0] 30)
      rw [World.size_alloc, World.size_alloc] at h9
      exact h9
    have hB0 : Hid (Below w.heap.size w (((w.alloc (.cells #[.int .u8 0, .string ⟨#[]⟩, .slice none 0 0, .slice none 0 0] 27)).alloc (.cells #[.int .i64 0] 3)).alloc (.cells #[.int .i64 0] 30))) := (((Below.refl w.heap.size w).alloc (Nat.le_refl _) _).alloc (by simp) _).alloc (by simp; omega) _
    obtain ⟨O, hO⟩ : ∃ O, Js.bad8 s = O := ⟨_, rfl⟩
    have HVa := Lib.hid (fun w' h => Js.valid_is s w' h)
    rw [hO] at hX HVa
    have HX := Lib.hid hX
    clear hX hT hO
    go_enter_defers Tryd.func18, Tryd.ntmps18
    go_wp2_with (go_at_call 50; refine (HVa.out _ (Utf8Tabs_below (w := w) HT.out hB0.out)).mono ?_)
    first | rintro e w1 rfl b1 | rintro e w1 ⟨rfl, b1⟩
    have HV1 := Lib.hid ((b1.block _ (lt_of_heap hV0.out)).trans hV0.out)
    have HA1 := Lib.hid ((b1.block _ (lt_of_heap hA0.out)).trans hA0.out)
    have HE1 := Lib.hid ((b1.block _ (lt_of_heap hE0.out)).trans hE0.out)
    have HB1 := Lib.hid (hB0.out.trans (b1.mono (by have h9 := lt_of_heap hE0.out; omega)))
    clear hV0 hA0 hE0 hB0 HVa b1
    cases O with
    | some k =>
      have HE9 : Hid (Except.error (k, 142) = X) := HX.out
      have k0 : (0 : Int) ≤ (k : Int) := by omega
      have hbI : Js.badI (some k) = (k : Int) := rfl
      have v0 : w1.cell? ⟨w.heap.size, 0, none⟩ = some (.int .u8 0) := by rw [Lib.cell_of_heap HV1.out]; rfl
      have g0 : w1.frozen? ⟨w.heap.size, 0, none⟩ = false := Lib.frozen_of_heap HV1.out 0
      have v1 : w1.cell? ⟨w.heap.size, 1, none⟩ = some (.string ⟨#[]⟩) := by rw [Lib.cell_of_heap HV1.out]; rfl
      have g1 : w1.frozen? ⟨w.heap.size, 1, none⟩ = false := Lib.frozen_of_heap HV1.out 1
      have v2 : w1.cell? ⟨w.heap.size, 2, none⟩ = some (.slice none 0 0) := by rw [Lib.cell_of_heap HV1.out]; rfl
      have g2 : w1.frozen? ⟨w.heap.size, 2, none⟩ = false := Lib.frozen_of_heap HV1.out 2
      have v3 : w1.cell? ⟨w.heap.size, 3, none⟩ = some (.slice none 0 0) := by rw [Lib.cell_of_heap HV1.out]; rfl
      have g3 : w1.frozen? ⟨w.heap.size, 3, none⟩ = false := Lib.frozen_of_heap HV1.out 3
      have a0 : w1.cell? ⟨(w.heap.size + 1), 0, none⟩ = some (.int .i64 0) := by rw [Lib.cell_of_heap HA1.out]; rfl
      have b0 : w1.frozen? ⟨(w.heap.size + 1), 0, none⟩ = false := Lib.frozen_of_heap HA1.out 0
      have e0 : w1.cell? ⟨(w.heap.size + 1 + 1), 0, none⟩ = some (.int .i64 0) := by rw [Lib.cell_of_heap HE1.out]; rfl
      have c0 : w1.frozen? ⟨(w.heap.size + 1 + 1), 0, none⟩ = false := Lib.frozen_of_heap HE1.out 0
      go_wp2
      obtain rfl : _ = X := HE9.out
      have hs6 := Js.sets6 (x0 := .int .u8 0) (x1 := .string ⟨#[]⟩) (x2 := .slice none 0 0) (x3 := .slice none 0 0) (y := .int .i64 k) (z := .int .i64 142) HV1.out HA1.out HE1.out
      exact Js.read_leave (V := w.heap.size) rfl rfl rfl rfl hs6.1 hs6.2.1 hs6.2.2.1 ⟨hs6.2.2.2.below HB1.out (Nat.le_of_lt (lt_of_heap HV1.out)), rfl⟩
    | none =>
      have hbI : Js.badI none = -1 := rfl
      have HZ1 : Hid (w.heap.size + 2 < w1.heap.size) := lt_of_heap HE1.out
      obtain ⟨W2, hW2⟩ : ∃ W2, w1.alloc (.cells #[.string s, .int .i64 0, .int .i64 0, .int .i64 0] 89) = W2 := ⟨_, rfl⟩
      have HR2 : Hid (W2.heap[w1.heap.size]? = some (Js.obj s 0 0 0)) := by subst hW2; exact alloc_new _ _
      have HV2 : Hid (W2.heap[w.heap.size]? = some Js.zeroObj) := by subst hW2; exact alloc_kept HV1.out
      have HA2 : Hid (W2.heap[w.heap.size + 1]? = some (.cells #[.int .i64 0] 3)) := by subst hW2; exact alloc_kept HA1.out
      have HE2 : Hid (W2.heap[w.heap.size + 2]? = some (.cells #[.int .i64 0] 30)) := by subst hW2; exact alloc_kept HE1.out
      have HB2 : Hid (Below w.heap.size w W2) := by subst hW2; exact HB1.out.alloc (by have h9 : _ < _ := HZ1.out; omega) _
      obtain ⟨E, hE⟩ : ∃ E, Js.val s 16 0 0 = E := ⟨_, rfl⟩
      have HC := Lib.hid (Js.value_is w1.heap.size s hs1 16 0 rfl 0 0 W2 HR2.out (Nat.zero_le _) (Nat.zero_le _))
      have HOk := Js.val_ok s 16 0 0
      have hXE : Hid (Js.fin s E = X) := by
        have h9 : Js.fin s (Js.val s 16 0 0) = X := HX.out
        rw [hE] at h9
        exact h9
      rw [hE] at HC HOk
      clear hE HX
      cases E with
      | error p =>
        have HE9 : Hid (Except.error p = X) := hXE.out
        clear HOk hXE
        go_wp2_with (go_at_call 52; refine HC.out.mono ?_)
        rintro e w3 ⟨rfl, k3⟩
        go_wp2
        have hz2 := HB2.out.size
        have hr2 := lt_of_heap HE2.out
        have hz1 : w.heap.size + 2 < w1.heap.size := HZ1.out
        have hV3 := (k3.block _ (lt_of_heap HV2.out) (by omega)).trans HV2.out
        have hA3 := (k3.block _ (lt_of_heap HA2.out) (by omega)).trans HA2.out
        have hE3 := (k3.block _ (lt_of_heap HE2.out) (by omega)).trans HE2.out
        have hB3 : Below w.heap.size w w3 := HB2.out.trans (k3.below (by omega) (by omega))
        refine leaves_cons (f := 51) (args := #[.pointer (some ⟨w.heap.size, 0, none⟩), .pointer (some ⟨w.heap.size + 1, 0, none⟩), .pointer (some ⟨w.heap.size + 2, 0, none⟩)]) (by simp) (by simp [go_sem]) ?_
        refine (Js.catch_stop w.heap.size p.1 p.2 [] w3 _ _ _ _ _ _ hV3 hA3 hE3).mono ?_
        rintro e u w4 ⟨rfl, rfl, hV4, hA4, hE4, k4⟩
        obtain rfl : _ = X := HE9.out
        exact Js.read_leave (V := w.heap.size) rfl rfl rfl rfl hV4 hA4 hE4 ⟨k4.below hB3 (Nat.le_of_lt (lt_of_heap hV3)), rfl⟩
      | ok y =>
        obtain ⟨v, j, b⟩ := y
        obtain ⟨-, hj, -⟩ := HOk v j b (Nat.zero_le _) (Nat.zero_le _) rfl
        have hXF : Hid ((if Js.sp s j < s.size then .error (Js.wrong s (Js.sp s j)) else .ok v : Js.R Js.V) = X) := hXE.out
        obtain ⟨q, hq⟩ : ∃ q, Js.sp s j = q := ⟨_, rfl⟩
        have hqb : q ≤ s.size := hq ▸ Js.sp_le s j hj
        have HSP := Lib.hid (fun w' (h : w'.heap[w1.heap.size]? = some (Js.obj s j 0 b)) => Js.space_is w1.heap.size s j 0 b w' h hj hs1)
        rw [hq] at hXF HSP
        clear hq hXE HOk
        have hz1 : w.heap.size + 2 < w1.heap.size := HZ1.out
        go_wp2_with (go_at_call 52; refine HC.out.mono ?_)
        rintro e w3 ⟨⟨x1, ⟨np, nn, nc⟩, ⟨ip, im, ic⟩⟩, rfl, rfl, r3, k3, hv3⟩
        have hXG : Hid ((if q < s.size then .error (Js.wrong s q) else .ok x1 : Js.R Js.V) = X) := hXF.out
        have hvG : Hid (Js.VAt (fun k => W2.heap.size ≤ k) w3 x1 (.slice np nn nc) (.slice ip im ic)) := hv3
        clear hXF hv3
        dsimp only [Js.It.nv, Js.It.iv]
        have hzW : w1.heap.size < W2.heap.size := lt_of_heap HR2.out
        have hV3 := (k3.block _ (lt_of_heap HV2.out) (by omega)).trans HV2.out
        have hA3 := (k3.block _ (lt_of_heap HA2.out) (by omega)).trans HA2.out
        have hE3 := (k3.block _ (lt_of_heap HE2.out) (by omega)).trans HE2.out
        have hB3 : Below w.heap.size w w3 := HB2.out.trans (k3.below (by omega) (by omega))
        have hz3 := k3.size
        have v0 : w3.cell? ⟨w.heap.size, 0, none⟩ = some (.int .u8 0) := by rw [Lib.cell_of_heap hV3]; rfl
        have g0 : w3.frozen? ⟨w.heap.size, 0, none⟩ = false := Lib.frozen_of_heap hV3 0
        have v1 : w3.cell? ⟨w.heap.size, 1, none⟩ = some (.string ⟨#[]⟩) := by rw [Lib.cell_of_heap hV3]; rfl
        have g1 : w3.frozen? ⟨w.heap.size, 1, none⟩ = false := Lib.frozen_of_heap hV3 1
        have v2 : w3.cell? ⟨w.heap.size, 2, none⟩ = some (.slice none 0 0) := by rw [Lib.cell_of_heap hV3]; rfl
        have g2 : w3.frozen? ⟨w.heap.size, 2, none⟩ = false := Lib.frozen_of_heap hV3 2
        have v3 : w3.cell? ⟨w.heap.size, 3, none⟩ = some (.slice none 0 0) := by rw [Lib.cell_of_heap hV3]; rfl
        have g3 : w3.frozen? ⟨w.heap.size, 3, none⟩ = false := Lib.frozen_of_heap hV3 3
        have kV : Kp w.heap.size w3 ((((w3.setCell ⟨w.heap.size, 0, none⟩ (.int .u8 x1.kind)).setCell ⟨w.heap.size, 1, none⟩ (.string x1.text)).setCell ⟨w.heap.size, 2, none⟩ (.slice np nn nc)).setCell ⟨w.heap.size, 3, none⟩ (.slice ip im ic)) := (((Kp.refl w.heap.size w3).set 0 _).set 1 _).set 2 _ |>.set 3 _
        have hV4 : ((((w3.setCell ⟨w.heap.size, 0, none⟩ (.int .u8 x1.kind)).setCell ⟨w.heap.size, 1, none⟩ (.string x1.text)).setCell ⟨w.heap.size, 2, none⟩ (.slice np nn nc)).setCell ⟨w.heap.size, 3, none⟩ (.slice ip im ic)).heap[w.heap.size]? = some (.cells #[.int .u8 x1.kind, .string x1.text, .slice np nn nc, .slice ip im ic] 27) := heap_setCell_same _ w.heap.size 3 _ _ _ (heap_setCell_same _ w.heap.size 2 _ _ _ (heap_setCell_same _ w.heap.size 1 _ _ _ (heap_setCell_same _ w.heap.size 0 _ _ _ hV3)))
        obtain ⟨W4, hW4⟩ : ∃ W4, ((((w3.setCell ⟨w.heap.size, 0, none⟩ (.int .u8 x1.kind)).setCell ⟨w.heap.size, 1, none⟩ (.string x1.text)).setCell ⟨w.heap.size, 2, none⟩ (.slice np nn nc)).setCell ⟨w.heap.size, 3, none⟩ (.slice ip im ic)) = W4 := ⟨_, rfl⟩
        rw [hW4] at kV hV4
        have hz4 := kV.size
        have hA4 := (kV.block _ (by omega) (by omega)).trans hA3
        have hE4 := (kV.block _ (by omega) (by omega)).trans hE3
        have hR4 := (kV.block _ (by omega) (by omega)).trans r3
        have hB4 : Below w.heap.size w W4 := ⟨kV.os.trans hB3.os, kV.tape.trans hB3.tape, kV.output.trans hB3.output, Nat.le_trans hB3.size kV.size, fun i hi => (kV.block i (by omega) (by omega)).trans (hB3.block i hi)⟩
        have HVt : Hid (Js.VAt (fun k => W2.heap.size ≤ k) W4 x1 (.slice np nn nc) (.slice ip im ic)) := Js.VAt.move ⟨fun i hi hl => kV.block i hl (by have h9 : _ ≤ i := hi; omega), fun i hi _ => hi⟩ _ _ _ hvG.out
        have HR4 := Lib.hid hR4
        have HV4 := Lib.hid hV4
        have HA4 := Lib.hid hA4
        have HE4 := Lib.hid hE4
        have HB4 := Lib.hid hB4
        clear hR4 hV4 hA4 hE4 hB4 hV3 hA3 hE3 hB3 r3 hvG kV k3
        go_wp2_with (go_at_call 53; refine (HSP.out _ HR4.out).mono ?_)
        rintro e w5 ⟨rfl, r5, k5⟩
        have hz5 := k5.size
        have hV5 := (k5.block _ (lt_of_heap HV4.out) (by omega)).trans HV4.out
        have hA5 := (k5.block _ (lt_of_heap HA4.out) (by omega)).trans HA4.out
        have hE5 := (k5.block _ (lt_of_heap HE4.out) (by omega)).trans HE4.out
        have hB5 : Below w.heap.size w w5 := HB4.out.trans (k5.below (by omega) (by omega))
        have HVu : Hid (Js.VAt (fun k => W2.heap.size ≤ k) w5 x1 (.slice np nn nc) (.slice ip im ic)) := Js.VAt.move ⟨fun i hi hl => k5.block i hl (by have h9 : _ ≤ i := hi; omega), fun i hi _ => hi⟩ _ _ _ HVt.out
        have c5 : w5.cell? ⟨w1.heap.size, 1, none⟩ = some (.int .i64 q) := by rw [Lib.cell_of_heap r5]; rfl
        by_cases hqs : q < s.size
        · have HE9 : Hid (Except.error (Js.wrong s q) = X) := by have h9 : _ = X := hXG.out; rw [if_pos hqs] at h9; exact h9
          have b5 : (q : Int) < s.size := by omega
          have HF : Hid (∀ w', w'.heap[w1.heap.size]? = some (Js.obj s q 0 b) → Calls Tryd.prog 54 #[.pointer (some ⟨w1.heap.size, 0, none⟩), .int .i64 143] w' (Js.Stops w1.heap.size (Js.wrong s q) w')) := fun w' h => by
            have h9 := Js.fail_is w1.heap.size s q 0 b 143 w' h
            rw [if_pos rfl] at h9
            exact h9
          clear hXG
          go_wp2_with (go_at_call 54; refine (HF.out _ r5).mono ?_)
          rintro e w6 ⟨rfl, k6⟩
          go_wp2
          have hz6 := k6.size
          have hV6 := (k6.block _ (lt_of_heap hV5) (by omega)).trans hV5
          have hA6 := (k6.block _ (lt_of_heap hA5) (by omega)).trans hA5
          have hE6 := (k6.block _ (lt_of_heap hE5) (by omega)).trans hE5
          have hB6 : Below w.heap.size w w6 := hB5.trans (k6.below (by omega) (by omega))
          refine leaves_cons (f := 51) (args := #[.pointer (some ⟨w.heap.size, 0, none⟩), .pointer (some ⟨w.heap.size + 1, 0, none⟩), .pointer (some ⟨w.heap.size + 2, 0, none⟩)]) (by simp) (by simp [go_sem]) ?_
          refine (Js.catch_stop w.heap.size (Js.wrong s q).1 (Js.wrong s q).2 [] w6 _ _ _ _ _ _ hV6 hA6 hE6).mono ?_
          rintro e u w7 ⟨rfl, rfl, hV7, hA7, hE7, k7⟩
          obtain rfl : _ = X := HE9.out
          exact Js.read_leave (V := w.heap.size) rfl rfl rfl rfl hV7 hA7 hE7 ⟨k7.below hB6 (Nat.le_of_lt (lt_of_heap hV6)), rfl⟩
        · have HE9 : Hid (Except.ok x1 = X) := by have h9 : _ = X := hXG.out; rw [if_neg hqs] at h9; exact h9
          have b5 : ¬ (q : Int) < s.size := by omega
          have h0 : w5.cell? ⟨w.heap.size, 0, none⟩ = some (.int .u8 x1.kind) := by rw [Lib.cell_of_heap hV5]; rfl
          have k0 : w5.frozen? ⟨w.heap.size, 0, none⟩ = false := Lib.frozen_of_heap hV5 0
          have h1 : w5.cell? ⟨w.heap.size, 1, none⟩ = some (.string x1.text) := by rw [Lib.cell_of_heap hV5]; rfl
          have k1 : w5.frozen? ⟨w.heap.size, 1, none⟩ = false := Lib.frozen_of_heap hV5 1
          have h2 : w5.cell? ⟨w.heap.size, 2, none⟩ = some (.slice np nn nc) := by rw [Lib.cell_of_heap hV5]; rfl
          have k2 : w5.frozen? ⟨w.heap.size, 2, none⟩ = false := Lib.frozen_of_heap hV5 2
          have h3 : w5.cell? ⟨w.heap.size, 3, none⟩ = some (.slice ip im ic) := by rw [Lib.cell_of_heap hV5]; rfl
          have k3 : w5.frozen? ⟨w.heap.size, 3, none⟩ = false := Lib.frozen_of_heap hV5 3
          have m0 : w5.cell? ⟨(w.heap.size + 1), 0, none⟩ = some (.int .i64 0) := by rw [Lib.cell_of_heap hA5]; rfl
          have n0 : w5.frozen? ⟨(w.heap.size + 1), 0, none⟩ = false := Lib.frozen_of_heap hA5 0
          have x0 : w5.cell? ⟨(w.heap.size + 1 + 1), 0, none⟩ = some (.int .i64 0) := by rw [Lib.cell_of_heap hE5]; rfl
          have y0 : w5.frozen? ⟨(w.heap.size + 1 + 1), 0, none⟩ = false := Lib.frozen_of_heap hE5 0
          clear hXG
          have hs6 := Js.sets6 (x0 := .int .u8 x1.kind) (x1 := .string x1.text) (x2 := .slice np nn nc) (x3 := .slice ip im ic) (y := .int .i64 (-1)) (z := .int .i64 0) hV5 hA5 hE5
          have HS6 := Lib.hid hs6
          clear hs6
          go_wp2
          obtain ⟨h61, h62, h63, k6⟩ := HS6.out
          refine leaves_cons (f := 51) (args := #[.pointer (some ⟨w.heap.size, 0, none⟩), .pointer (some ⟨w.heap.size + 1, 0, none⟩), .pointer (some ⟨w.heap.size + 2, 0, none⟩)]) (by simp) (by simp [go_sem]) ?_
          refine (Js.catch_idle w.heap.size _).mono ?_
          rintro e u w7 ⟨rfl, rfl, b7⟩
          obtain rfl : _ = X := HE9.out
          have hz6 := k6.size
          have hB6 := k6.below hB5 (Nat.le_of_lt (lt_of_heap hV5))
          refine Js.read_leave (V := w.heap.size) rfl rfl rfl rfl ((b7.block _ (lt_of_heap h61)).trans h61) ((b7.block _ (lt_of_heap h62)).trans h62) ((b7.block _ (lt_of_heap h63)).trans h63) ⟨hB6.trans (b7.mono hB6.size), ⟨x1, (np, nn, nc), (ip, im, ic)⟩, rfl, rfl, ?_⟩
          exact Js.VAt.move ⟨fun i hi hl => (b7.block i (Nat.lt_of_lt_of_le hl hz6)).trans (k6.block i hl (by have h9 : _ ≤ i := hi; omega) (by have h9 : _ ≤ i := hi; omega) (by have h9 : _ ≤ i := hi; omega)), fun i hi _ => by have h9 : _ ≤ i := hi; omega⟩ _ _ _ HVu.out
end Go.Proofs.YtmmijebekipdeaaDoor
