/- Contract of the reader: value, the walk. (Printed by gen_vlw.py.) -/
import Derived.Test.YtmmijebekipdeaaDoorJsF
namespace Go.Proofs.YtmmijebekipdeaaDoor
open Go.RowKit
set_option maxRecDepth 100000

abbrev Js.begS : ByteArray := ⟨#[91, 123, 34, 45, 48, 49, 50, 51, 52, 53, 54, 55, 56, 57, 110, 102, 116]⟩
theorem Js.ix_beg (c : Nat) (hc : c < 256) : decide (0 ≤ Lib.indexByte Js.begS.data.toList (UInt8.ofNat c)) = Js.begins c :=
  Js.fin256 (P := fun c => decide (0 ≤ Lib.indexByte Js.begS.data.toList (UInt8.ofNat c)) = Js.begins c) (by decide +kernel) c hc

structure Js.VInv (R : Nat) (s : ByteArray) (o : Nat) (w : World) (k b : Nat) (wr : World) : Prop where
  r : wr.heap[R]? = some (Js.obj s k o b)
  res : wr.heap[w.heap.size]? = some (Js.vObj 0 (.slice none 0 0) (.slice none 0 0))
  kp : Kp R w wr
section
variable {R : Nat} {s : ByteArray} {o : Nat} {w : World} {k b : Nat} {wr : World}
theorem Js.VInv.move (h : Js.VInv R s o w k b wr) {w' : World} (m : Kp R wr w') (hR : R < w.heap.size) {k' o' b' : Nat} (r : w'.heap[R]? = some (Js.obj s k' o' b')) : Js.VInv R s o' w k' b' w' :=
  ⟨r, (m.block _ (lt_of_heap h.res) (by omega)).trans h.res, h.kp.trans m⟩
theorem Js.VInv.back (h : Js.VInv R s o w k b wr) (hR : R < w.heap.size) {w' : World} (kV : Kp w.heap.size wr w') : w'.heap[R]? = some (Js.obj s k o b) ∧ Kp R w w' :=
  ⟨(kV.block R (by have := lt_of_heap h.r; omega) (by omega)).trans h.r,
    ⟨kV.os.trans h.kp.os, kV.tape.trans h.kp.tape, kV.output.trans h.kp.output, Nat.le_trans h.kp.size kV.size, fun j hj hr => (kV.block j (by have := h.kp.size; omega) (by omega)).trans (h.kp.block j hj hr)⟩⟩
theorem Js.VInv.plain (h : Js.VInv R s o w k b wr) (hR : R < w.heap.size) {w' : World} (kV : Kp w.heap.size wr w') (kd : Nat) (tx : ByteArray) :
    Js.VGoes R s k o b (.mk kd tx [] []) w (.returned (.agg #[.int .u8 kd, .string tx, .slice none 0 0, .slice none 0 0])) w' := by
  obtain ⟨h1, h2⟩ := h.back hR kV
  refine ⟨⟨.mk kd tx [] [], (none, 0, 0), (none, 0, 0)⟩, rfl, rfl, h1, h2, ?_⟩
  show Js.VAt _ w' (.mk kd tx [] []) (.slice none 0 0) (.slice none 0 0)
  unfold Js.VAt
  exact ⟨⟨none, 0, rfl, by simp, by simp, .inl rfl⟩, none, 0, rfl, by simp, by simp, .inl rfl⟩
theorem Js.VInv.with (h : Js.VInv R s o w k b wr) (hR : R < w.heap.size) {w' : World} (kV : Kp w.heap.size wr w') (t : Js.It) (hv : Js.VAt (fun k => w.heap.size + 1 ≤ k) wr t.x t.nv t.iv) :
    Js.VGoes R s k o b t.x w (.returned (.agg #[.int .u8 t.x.kind, .string t.x.text, t.nv, t.iv])) w' := by
  obtain ⟨h1, h2⟩ := h.back hR kV
  exact ⟨t, rfl, rfl, h1, h2, Js.VAt.move ⟨fun j hj hl => kV.block j hl (by have := hj; omega), fun j hj _ => by have := hj; omega⟩ _ _ _ hv⟩
end

theorem Js.ret_store_alloc {fn : Func} {Q : Ending → World → Prop} {a : Act} {w : World} {V n : Nat} {x0 x1 x2 x3 y0 y1 y2 y3 : Value} (A : Obj) (hres : fn.results = #[.cell n 27]) (ht : a.tmps[n]? = some (.pointer (some ⟨V, 0, none⟩)))
    (hh : w.heap[V]? = some (.cells #[y0, y1, y2, y3] 27)) (hd : a.defers = []) (h : ∀ w', Kp V w w' → Q (.returned (.agg #[x0, x1, x2, x3])) w') :
    bodyPost Tryd.prog fn Q .ret a (((((w.setCell ⟨V, 0, none⟩ x0).setCell ⟨V, 1, none⟩ x1).setCell ⟨V, 2, none⟩ x2).setCell ⟨V, 3, none⟩ x3).alloc A) := by
  have k0 := heap_setCell_same _ V 0 _ _ x0 hh
  have k1 := heap_setCell_same _ V 1 _ _ x1 k0
  have k2 := heap_setCell_same _ V 2 _ _ x2 k1
  have k3 := heap_setCell_same _ V 3 _ _ x3 k2
  exact Js.ret_cell hres ht (alloc_kept k3) hd (h _ ((((((Kp.refl V w).set 0 _).set 1 _).set 2 _).set 3 _).trans (Kp.of ((Below.refl _ _).alloc (Nat.le_refl _) A) (Nat.le_refl _))))
theorem Js.ret_store_drew {fn : Func} {Q : Ending → World → Prop} {a : Act} {w : World} {V n : Nat} {x0 x1 x2 x3 y0 y1 y2 y3 : Value} (hres : fn.results = #[.cell n 27]) (ht : a.tmps[n]? = some (.pointer (some ⟨V, 0, none⟩)))
    (hh : w.heap[V]? = some (.cells #[y0, y1, y2, y3] 27)) (hd : a.defers = []) (h : ∀ w', Kp V w w' → Q (.returned (.agg #[x0, x1, x2, x3])) w') :
    bodyPost Tryd.prog fn Q .ret a ((((w.setCell ⟨V, 0, none⟩ x0).setCell ⟨V, 1, none⟩ x1).setCell ⟨V, 2, none⟩ x2).setCell ⟨V, 3, none⟩ x3).drew := by
  have k0 := heap_setCell_same _ V 0 _ _ x0 hh
  have k1 := heap_setCell_same _ V 1 _ _ x1 k0
  have k2 := heap_setCell_same _ V 2 _ _ x2 k1
  have k3 := heap_setCell_same _ V 3 _ _ x3 k2
  exact Js.ret_cell hres ht k3 hd (h _ ((((((Kp.refl V w).set 0 _).set 1 _).set 2 _).set 3 _).drew 1))

set_option maxHeartbeats 8000000 in
theorem Js.value_step (R : Nat) (s : ByteArray) (hs : s.size ≤ 1000000) (o d : Nat) (ho : o + d = 16) (ih : ∀ d', d = d' + 1 → Js.ValIs R s (o + 1) d') : Js.ValIs R s o d := by
  intro k b w hR hk hb
  have HRW := lt_of_heap hR
  obtain ⟨X, hX⟩ : ∃ X, Js.val s d k b = X := ⟨_, rfl⟩
  rw [hX]
  rw [Js.val.eq_def] at hX
  dsimp only at hX
  obtain ⟨a, ha⟩ : ∃ a, Js.sp s k = a := ⟨_, rfl⟩
  have hab : a ≤ s.size := ha ▸ Js.sp_le s k hk
  have hc256 := Js.nx_lt s a
  have hal : Js.nx s a ≠ 0 → a < s.size := fun h => Nat.lt_of_not_le fun hh => h (Js.nx_end s _ hh)
  rw [ha] at hX
  have HSP := Lib.hid (fun w' (h : w'.heap[R]? = some (Js.obj s k o b)) => Js.space_is R s k o b w' h hk hs)
  rw [ha] at HSP
  have HN := Lib.hid (fun w' (h : w'.heap[R]? = some (Js.obj s a o b)) => Js.next_is R s a o b w' h hab)
  obtain ⟨c, hc⟩ : ∃ c, Js.nx s a = c := ⟨_, rfl⟩
  rw [hc] at hX HN hc256 hal
  have HX := Lib.hid hX
  have HC := Lib.hid hc
  have HV0 : Hid (Js.VInv R s o w k b (w.alloc (.cells #[.int .u8 0, .string ⟨#[]⟩, .slice none 0 0, .slice none 0 0] 27))) := ⟨alloc_kept hR, alloc_new _ _, Kp.of ((Below.refl w.heap.size w).alloc (Nat.le_refl _) _) (Nat.le_refl _)⟩
  have HF : Hid (∀ w' k' o' b', w'.heap[R]? = some (Js.obj s k' o' b') → Calls Tryd.prog 54 #[.pointer (some ⟨R, 0, none⟩), .int .i64 143] w' (Js.Stops R (Js.wrong s k') w')) := fun w' k' o' b' h => by
    have h9 := Js.fail_is R s k' o' b' 143 w' h
    rw [if_pos rfl] at h9
    exact h9
  clear hX ha hc hR
  go_enter Tryd.func52, Tryd.ntmps52
  go_wp2_with (go_at_call 53; refine (HSP.out _ HV0.out.r).mono ?_)
  rintro e w1 ⟨rfl, r1, k1⟩
  have HV1 := Lib.hid (HV0.out.move k1 HRW r1)
  clear HV0 HSP r1 k1
  go_wp2_with (go_at_call 81; refine (HN.out _ HV1.out.r).mono ?_)
  rintro e w2 ⟨rfl, q, rfl⟩
  have HV2 := Lib.hid (HV1.out.move ((Kp.refl R w1).drew q) HRW (Js.drew_heap HV1.out.r q))
  generalize w1.drewN q = w2 at HV2 ⊢
  clear HV1 HN
  by_cases hbg : Js.begins c = false
  · have HE : Hid (X = .error (Js.wrong s a)) := by have h9 : _ = X := HX.out; rw [if_pos hbg] at h9; exact h9.symm
    clear HX
    by_cases h0 : c = 0
    · have hb0 : ((c : Int) == 0) = true := Js.beq_t (by omega)
      go_wp2_with (go_at_call 54; refine (HF.out _ _ _ _ HV2.out.r).mono ?_)
      rintro e w3 ⟨rfl, k3⟩
      go_wp2
      exact bodyPost_stop rfl (Js.VRes.bad _ HE.out ⟨rfl, HV2.out.kp.trans k3⟩)
    · have hb0 : ((c : Int) == 0) = false := Js.beq_f (by omega)
      obtain ⟨r, hr1, hr2, HI⟩ := Js.ix_is Js.begS c _ (Js.ix_beg c hc256)
      rw [hbg] at hr2
      have hr3 : decide (r < 0) = true := hr2
      clear hr1 hr2 hbg
      go_wp2_with (go_at_call 36; refine (HI _).mono ?_)
      rintro e w3 ⟨rfl, rfl⟩
      go_wp2_with (go_at_call 54; refine (HF.out _ _ _ _ HV2.out.r).mono ?_)
      rintro e w4 ⟨rfl, k4⟩
      go_wp2
      exact bodyPost_stop rfl (Js.VRes.bad _ HE.out ⟨rfl, HV2.out.kp.trans k4⟩)
  have h0 : c ≠ 0 := fun e => by rw [e] at hbg; exact hbg rfl
  have hlt := hal h0
  have hbt : Js.begins c = true := by simpa using hbg
  have hb0 : ((c : Int) == 0) = false := Js.beq_f (by omega)
  obtain ⟨r, hr1, hr2, HI⟩ := Js.ix_is Js.begS c _ (Js.ix_beg c hc256)
  rw [hbt] at hr2
  have hr3 : decide (r < 0) = false := hr2
  have HX2 : Hid (_ = X) := (if_neg hbg).symm.trans HX.out
  clear hr1 hr2 HX hal hbg
  go_wp2_with (go_at_call 36; refine (HI _).mono ?_)
  rintro e w3 ⟨rfl, rfl⟩
  have c1 : w3.cell? ⟨R, 1, none⟩ = some (.int .i64 a) := by rw [Lib.cell_of_heap HV2.out.r]; rfl
  have c2 : w3.cell? ⟨R, 2, none⟩ = some (.int .i64 o) := by rw [Lib.cell_of_heap HV2.out.r]; rfl
  have c3 : w3.cell? ⟨R, 3, none⟩ = some (.int .i64 b) := by rw [Lib.cell_of_heap HV2.out.r]; rfl
  have f3 : w3.frozen? ⟨R, 3, none⟩ = false := Lib.frozen_of_heap HV2.out.r 3
  clear HI
  by_cases hb4 : b = 4096
  · have HE : Hid (X = .error (a, 5)) := by have h9 : _ = X := HX2.out; rw [if_pos hb4] at h9; exact h9.symm
    have hbb : ((b : Int) == 4096) = true := Js.beq_t (by omega)
    have HF5 : Hid (∀ w', w'.heap[R]? = some (Js.obj s a o b) → Calls Tryd.prog 54 #[.pointer (some ⟨R, 0, none⟩), .int .i64 5] w' (Js.Stops R (a, 5) w')) := fun w' h => by
      have h9 := Js.fail_is R s a o b 5 w' h
      rw [if_neg (by decide)] at h9
      exact h9
    clear HX2 hb4 hb
    go_wp2_with (go_at_call 54; refine (HF5.out _ HV2.out.r).mono ?_)
    rintro e w4 ⟨rfl, k4⟩
    go_wp2
    exact bodyPost_stop rfl (Js.VRes.bad _ HE.out ⟨rfl, HV2.out.kp.trans k4⟩)
  have hbb : ((b : Int) == 4096) = false := Js.beq_f (by omega)
  have HX3 : Hid (_ = X) := (if_neg hb4).symm.trans HX2.out
  have hb5 : b + 1 ≤ 4096 := by omega
  obtain ⟨W3, hW3⟩ : ∃ W3, w3.setCell ⟨R, 3, none⟩ (.int .i64 ((b : Int) + 1)) = W3 := ⟨_, rfl⟩
  have HV3 : Hid (Js.VInv R s o w a (b + 1) W3) := by subst hW3; exact HV2.out.move ((Kp.refl R w3).set 3 _) HRW (Js.set_begun HV2.out.r _ _ (by go_num))
  clear HX2 hb4 HV2
  by_cases h91 : c = 91
  · have HXl : Hid (_ = X) := (if_pos (show c = 91 ∨ c = 123 by omega)).symm.trans HX3.out
    subst h91
    have e1 : W3.cell? ⟨R, 1, none⟩ = some (.int .i64 a) := by rw [Lib.cell_of_heap HV3.out.r]; rfl
    have e2 : W3.cell? ⟨R, 2, none⟩ = some (.int .i64 o) := by rw [Lib.cell_of_heap HV3.out.r]; rfl
    have k2 : W3.frozen? ⟨R, 2, none⟩ = false := Lib.frozen_of_heap HV3.out.r 2
    have k1 : W3.frozen? ⟨R, 1, none⟩ = false := Lib.frozen_of_heap HV3.out.r 1
    clear HX3 HF
    cases d with
    | zero =>
      have HE : Hid (X = .error (a, 140)) := HXl.out.symm
      have hoo : ((o : Int) == 16) = true := Js.beq_t (by omega)
      have HF5 : Hid (∀ w', w'.heap[R]? = some (Js.obj s a o (b + 1)) → Calls Tryd.prog 54 #[.pointer (some ⟨R, 0, none⟩), .int .i64 140] w' (Js.Stops R (a, 140) w')) := fun w' h => by
        have h9 := Js.fail_is R s a o (b + 1) 140 w' h
        rw [if_neg (by decide)] at h9
        exact h9
      clear HXl ho ih
      go_wp2_with (go_at_call 54; refine (HF5.out _ HV3.out.r).mono ?_)
      rintro e w4 ⟨rfl, k4⟩
      go_wp2
      exact bodyPost_stop rfl (Js.VRes.bad _ HE.out ⟨rfl, HV3.out.kp.trans k4⟩)
    | succ d =>
      have hoo : ((o : Int) == 16) = false := Js.beq_f (by omega)
      have hX9 : Js.ls s false (Js.val s d) (a + 1) (b + 1) = X := HXl.out
      have HL : Hid (∀ w', w'.heap[R]? = some (Js.obj s (a + 1) (o + 1) (b + 1)) → Calls Tryd.prog 82 #[.pointer (some ⟨R, 0, none⟩), .int .u8 91] w' (Js.VRes R s (o + 1) w' X)) := fun w' h => by
        have h9 := Js.list_arr R s (o + 1) d (ih d rfl) (Js.val_ok s d) hs (a + 1) (b + 1) w' h hlt hb5
        rw [hX9] at h9
        exact h9
      have ho15 : o ≤ 15 := by omega
      clear HXl hX9 ih ho
      obtain ⟨W5, hW5⟩ : ∃ W5, (W3.setCell ⟨R, 2, none⟩ (.int .i64 ((o : Int) + 1))).setCell ⟨R, 1, none⟩ (.int .i64 ((a : Int) + 1)) = W5 := ⟨_, rfl⟩
      have HV5 : Hid (Js.VInv R s (o + 1) w (a + 1) (b + 1) W5) := by subst hW5; exact HV3.out.move (((Kp.refl R W3).set 2 _).set 1 _) HRW (Js.set_at (Js.set_open HV3.out.r _ _ (by go_num)) _ _ (by go_num))
      cases X with
      | error p =>
        go_wp2_with (go_at_call 82; refine (HL.out _ HV5.out.r).mono ?_)
        rintro e w6 ⟨rfl, k6⟩
        go_wp2
        exact bodyPost_stop rfl (Js.VRes.bad p rfl ⟨rfl, HV5.out.kp.trans k6⟩)
      | ok y =>
        obtain ⟨x, j, b2⟩ := y
        go_wp2_with (go_at_call 82; refine (HL.out _ HV5.out.r).mono ?_)
        rintro e w6 ⟨⟨x1, ⟨np, nn, nc⟩, ⟨ip, im, ic⟩⟩, rfl, rfl, r6, k6, hv6⟩
        have HV6 := Lib.hid (HV5.out.move k6 HRW r6)
        have hs5 := lt_of_heap HV5.out.res
        have HVt : Hid (Js.VAt (fun k => w.heap.size + 1 ≤ k) w6 x1 (.slice np nn nc) (.slice ip im ic)) := Js.VAt.move ⟨fun _ _ _ => rfl, fun j hj _ => by have h9 : _ ≤ j := hj; omega⟩ _ _ _ hv6
        have e6 : w6.cell? ⟨R, 2, none⟩ = some (.int .i64 ((o + 1 : Nat) : Int)) := by rw [Lib.cell_of_heap r6]; rfl
        have f6 : w6.frozen? ⟨R, 2, none⟩ = false := Lib.frozen_of_heap r6 2
        have hr6 := lt_of_heap r6
        have hz6 := lt_of_heap HV6.out.res
        have t0 : w6.cell? ⟨w.heap.size, 0, none⟩ = some (.int .u8 0) := by rw [Lib.cell_of_heap HV6.out.res]; rfl
        have g0 : w6.frozen? ⟨w.heap.size, 0, none⟩ = false := Lib.frozen_of_heap HV6.out.res 0
        have t1 : w6.cell? ⟨w.heap.size, 1, none⟩ = some (.string ⟨#[]⟩) := by rw [Lib.cell_of_heap HV6.out.res]; rfl
        have g1 : w6.frozen? ⟨w.heap.size, 1, none⟩ = false := Lib.frozen_of_heap HV6.out.res 1
        have t2 : w6.cell? ⟨w.heap.size, 2, none⟩ = some (.slice none 0 0) := by rw [Lib.cell_of_heap HV6.out.res]; rfl
        have g2 : w6.frozen? ⟨w.heap.size, 2, none⟩ = false := Lib.frozen_of_heap HV6.out.res 2
        have t3 : w6.cell? ⟨w.heap.size, 3, none⟩ = some (.slice none 0 0) := by rw [Lib.cell_of_heap HV6.out.res]; rfl
        have g3 : w6.frozen? ⟨w.heap.size, 3, none⟩ = false := Lib.frozen_of_heap HV6.out.res 3
        clear r6 k6 hv6 HL
        dsimp only [Js.It.nv, Js.It.iv]
        have kS : Kp R w6 (w6.setCell ⟨R, 2, none⟩ (.int .i64 (o : Int))) := (Kp.refl R w6).set 2 _
        have HV7 := Lib.hid (HV6.out.move kS HRW (Js.set_open HV6.out.r (o : Int) o rfl))
        have HVu : Hid (Js.VAt (fun k => w.heap.size + 1 ≤ k) (w6.setCell ⟨R, 2, none⟩ (.int .i64 (o : Int))) x1 (.slice np nn nc) (.slice ip im ic)) := Js.VAt.move ⟨fun j hj hl => kS.block j hl (by have h9 : _ ≤ j := hj; omega), fun j hj _ => hj⟩ _ _ _ HVt.out
        clear kS
        go_wp2
        exact Js.ret_store_alloc _ rfl rfl HV7.out.res rfl fun w' kV => Js.VRes.ok x1 j b2 rfl (HV7.out.with HRW kV ⟨x1, (np, nn, nc), (ip, im, ic)⟩ HVu.out)
  by_cases h123 : c = 123
  · have HXl : Hid (_ = X) := (if_pos (show c = 91 ∨ c = 123 by omega)).symm.trans HX3.out
    subst h123
    have e1 : W3.cell? ⟨R, 1, none⟩ = some (.int .i64 a) := by rw [Lib.cell_of_heap HV3.out.r]; rfl
    have e2 : W3.cell? ⟨R, 2, none⟩ = some (.int .i64 o) := by rw [Lib.cell_of_heap HV3.out.r]; rfl
    have k2 : W3.frozen? ⟨R, 2, none⟩ = false := Lib.frozen_of_heap HV3.out.r 2
    have k1 : W3.frozen? ⟨R, 1, none⟩ = false := Lib.frozen_of_heap HV3.out.r 1
    clear HX3 HF
    cases d with
    | zero =>
      have HE : Hid (X = .error (a, 140)) := HXl.out.symm
      have hoo : ((o : Int) == 16) = true := Js.beq_t (by omega)
      have HF5 : Hid (∀ w', w'.heap[R]? = some (Js.obj s a o (b + 1)) → Calls Tryd.prog 54 #[.pointer (some ⟨R, 0, none⟩), .int .i64 140] w' (Js.Stops R (a, 140) w')) := fun w' h => by
        have h9 := Js.fail_is R s a o (b + 1) 140 w' h
        rw [if_neg (by decide)] at h9
        exact h9
      clear HXl ho ih
      go_wp2_with (go_at_call 54; refine (HF5.out _ HV3.out.r).mono ?_)
      rintro e w4 ⟨rfl, k4⟩
      go_wp2
      exact bodyPost_stop rfl (Js.VRes.bad _ HE.out ⟨rfl, HV3.out.kp.trans k4⟩)
    | succ d =>
      have hoo : ((o : Int) == 16) = false := Js.beq_f (by omega)
      have hX9 : Js.ls s true (Js.val s d) (a + 1) (b + 1) = X := HXl.out
      have HL : Hid (∀ w', w'.heap[R]? = some (Js.obj s (a + 1) (o + 1) (b + 1)) → Calls Tryd.prog 82 #[.pointer (some ⟨R, 0, none⟩), .int .u8 123] w' (Js.VRes R s (o + 1) w' X)) := fun w' h => by
        have h9 := Js.list_obj R s (o + 1) d (ih d rfl) (Js.val_ok s d) hs (a + 1) (b + 1) w' h hlt hb5
        rw [hX9] at h9
        exact h9
      have ho15 : o ≤ 15 := by omega
      clear HXl hX9 ih ho
      obtain ⟨W5, hW5⟩ : ∃ W5, (W3.setCell ⟨R, 2, none⟩ (.int .i64 ((o : Int) + 1))).setCell ⟨R, 1, none⟩ (.int .i64 ((a : Int) + 1)) = W5 := ⟨_, rfl⟩
      have HV5 : Hid (Js.VInv R s (o + 1) w (a + 1) (b + 1) W5) := by subst hW5; exact HV3.out.move (((Kp.refl R W3).set 2 _).set 1 _) HRW (Js.set_at (Js.set_open HV3.out.r _ _ (by go_num)) _ _ (by go_num))
      cases X with
      | error p =>
        go_wp2_with (go_at_call 82; refine (HL.out _ HV5.out.r).mono ?_)
        rintro e w6 ⟨rfl, k6⟩
        go_wp2
        exact bodyPost_stop rfl (Js.VRes.bad p rfl ⟨rfl, HV5.out.kp.trans k6⟩)
      | ok y =>
        obtain ⟨x, j, b2⟩ := y
        go_wp2_with (go_at_call 82; refine (HL.out _ HV5.out.r).mono ?_)
        rintro e w6 ⟨⟨x1, ⟨np, nn, nc⟩, ⟨ip, im, ic⟩⟩, rfl, rfl, r6, k6, hv6⟩
        have HV6 := Lib.hid (HV5.out.move k6 HRW r6)
        have hs5 := lt_of_heap HV5.out.res
        have HVt : Hid (Js.VAt (fun k => w.heap.size + 1 ≤ k) w6 x1 (.slice np nn nc) (.slice ip im ic)) := Js.VAt.move ⟨fun _ _ _ => rfl, fun j hj _ => by have h9 : _ ≤ j := hj; omega⟩ _ _ _ hv6
        have e6 : w6.cell? ⟨R, 2, none⟩ = some (.int .i64 ((o + 1 : Nat) : Int)) := by rw [Lib.cell_of_heap r6]; rfl
        have f6 : w6.frozen? ⟨R, 2, none⟩ = false := Lib.frozen_of_heap r6 2
        have hr6 := lt_of_heap r6
        have hz6 := lt_of_heap HV6.out.res
        have t0 : w6.cell? ⟨w.heap.size, 0, none⟩ = some (.int .u8 0) := by rw [Lib.cell_of_heap HV6.out.res]; rfl
        have g0 : w6.frozen? ⟨w.heap.size, 0, none⟩ = false := Lib.frozen_of_heap HV6.out.res 0
        have t1 : w6.cell? ⟨w.heap.size, 1, none⟩ = some (.string ⟨#[]⟩) := by rw [Lib.cell_of_heap HV6.out.res]; rfl
        have g1 : w6.frozen? ⟨w.heap.size, 1, none⟩ = false := Lib.frozen_of_heap HV6.out.res 1
        have t2 : w6.cell? ⟨w.heap.size, 2, none⟩ = some (.slice none 0 0) := by rw [Lib.cell_of_heap HV6.out.res]; rfl
        have g2 : w6.frozen? ⟨w.heap.size, 2, none⟩ = false := Lib.frozen_of_heap HV6.out.res 2
        have t3 : w6.cell? ⟨w.heap.size, 3, none⟩ = some (.slice none 0 0) := by rw [Lib.cell_of_heap HV6.out.res]; rfl
        have g3 : w6.frozen? ⟨w.heap.size, 3, none⟩ = false := Lib.frozen_of_heap HV6.out.res 3
        clear r6 k6 hv6 HL
        dsimp only [Js.It.nv, Js.It.iv]
        have kS : Kp R w6 (w6.setCell ⟨R, 2, none⟩ (.int .i64 (o : Int))) := (Kp.refl R w6).set 2 _
        have HV7 := Lib.hid (HV6.out.move kS HRW (Js.set_open HV6.out.r (o : Int) o rfl))
        have HVu : Hid (Js.VAt (fun k => w.heap.size + 1 ≤ k) (w6.setCell ⟨R, 2, none⟩ (.int .i64 (o : Int))) x1 (.slice np nn nc) (.slice ip im ic)) := Js.VAt.move ⟨fun j hj hl => kS.block j hl (by have h9 : _ ≤ j := hj; omega), fun j hj _ => hj⟩ _ _ _ HVt.out
        clear kS
        go_wp2
        exact Js.ret_store_alloc _ rfl rfl HV7.out.res rfl fun w' kV => Js.VRes.ok x1 j b2 rfl (HV7.out.with HRW kV ⟨x1, (np, nn, nc), (ip, im, ic)⟩ HVu.out)
  have HX4 : Hid (_ = X) := (if_neg (show ¬ (c = 91 ∨ c = 123) by omega)).symm.trans HX3.out
  clear HX3
  by_cases h34 : c = 34
  · have HX5 : Hid (_ = X) := (if_pos h34).symm.trans HX4.out
    subst h34
    clear HX4
    obtain ⟨T, hT⟩ : ∃ T, Js.tx s a = T := ⟨_, rfl⟩
    have HT := Lib.hid (fun w' (h : w'.heap[R]? = some (Js.obj s a o (b + 1))) => Js.text_is R s a o (b + 1) w' h hlt hs)
    rw [hT] at HT HX5
    clear hT
    cases T with
    | error p =>
      have HE : Hid (X = .error p) := HX5.out.symm
      clear HX5
      go_wp2_with (go_at_call 83; refine (HT.out _ HV3.out.r).mono ?_)
      rintro e w4 ⟨rfl, k4⟩
      go_wp2
      exact bodyPost_stop rfl (Js.VRes.bad _ HE.out ⟨rfl, HV3.out.kp.trans k4⟩)
    | ok tc =>
      obtain ⟨tl, j⟩ := tc
      have HE : Hid (X = .ok (.mk 5 ⟨tl.toArray⟩ [] [], j, b + 1)) := HX5.out.symm
      clear HX5
      go_wp2_with (go_at_call 83; refine (HT.out _ HV3.out.r).mono ?_)
      rintro e w4 ⟨rfl, r4, k4⟩
      have HV4 := Lib.hid (HV3.out.move k4 HRW r4)
      have t0 : w4.cell? ⟨w.heap.size, 0, none⟩ = some (.int .u8 0) := by rw [Lib.cell_of_heap HV4.out.res]; rfl
      have g0 : w4.frozen? ⟨w.heap.size, 0, none⟩ = false := Lib.frozen_of_heap HV4.out.res 0
      have t1 : w4.cell? ⟨w.heap.size, 1, none⟩ = some (.string ⟨#[]⟩) := by rw [Lib.cell_of_heap HV4.out.res]; rfl
      have g1 : w4.frozen? ⟨w.heap.size, 1, none⟩ = false := Lib.frozen_of_heap HV4.out.res 1
      have t2 : w4.cell? ⟨w.heap.size, 2, none⟩ = some (.slice none 0 0) := by rw [Lib.cell_of_heap HV4.out.res]; rfl
      have g2 : w4.frozen? ⟨w.heap.size, 2, none⟩ = false := Lib.frozen_of_heap HV4.out.res 2
      have t3 : w4.cell? ⟨w.heap.size, 3, none⟩ = some (.slice none 0 0) := by rw [Lib.cell_of_heap HV4.out.res]; rfl
      have g3 : w4.frozen? ⟨w.heap.size, 3, none⟩ = false := Lib.frozen_of_heap HV4.out.res 3
      go_wp2
      exact Js.ret_store rfl rfl HV4.out.res rfl fun w' kV => Js.VRes.ok _ _ _ HE.out (HV4.out.plain HRW kV 5 ⟨tl.toArray⟩)
  have HX5 : Hid (_ = X) := (if_neg h34).symm.trans HX4.out
  clear HX4
  by_cases h110 : c = 110
  · have HXw : Hid (_ = X) := (if_pos h110).symm.trans HX5.out
    subst h110
    clear HX5
    obtain ⟨T, hT⟩ : ∃ T, Js.wd s [110, 117, 108, 108] a = T := ⟨_, rfl⟩
    have HT : Hid (∀ w', w'.heap[R]? = some (Js.obj s a o (b + 1)) → Calls Tryd.prog 84 #[.pointer (some ⟨R, 0, none⟩), .string ⟨#[110, 117, 108, 108]⟩, .int .u8 1] w' (Js.Res R w' (Js.wd s [110, 117, 108, 108] a) fun j => Js.Goes R s j o (b + 1) (Js.wordV 1) w')) := fun w' h => Js.word_is ⟨#[110, 117, 108, 108]⟩ 1 R s a o (b + 1) w' h hab hs (by decide) (by decide)
    rw [hT] at HT HXw
    clear hT
    cases T with
    | error p =>
      have HE : Hid (X = .error p) := HXw.out.symm
      clear HXw
      go_wp2_with (go_at_call 84; refine (HT.out _ HV3.out.r).mono ?_)
      rintro e w4 ⟨rfl, k4⟩
      go_wp2
      exact bodyPost_stop rfl (Js.VRes.bad _ HE.out ⟨rfl, HV3.out.kp.trans k4⟩)
    | ok j =>
      have HE : Hid (X = .ok (.mk 1 ⟨#[]⟩ [] [], j, b + 1)) := HXw.out.symm
      clear HXw
      go_wp2_with (go_at_call 84; refine (HT.out _ HV3.out.r).mono ?_)
      rintro e w4 ⟨rfl, r4, k4⟩
      have HV4 := Lib.hid (HV3.out.move k4 HRW r4)
      have t0 : w4.cell? ⟨w.heap.size, 0, none⟩ = some (.int .u8 0) := by rw [Lib.cell_of_heap HV4.out.res]; rfl
      have g0 : w4.frozen? ⟨w.heap.size, 0, none⟩ = false := Lib.frozen_of_heap HV4.out.res 0
      have t1 : w4.cell? ⟨w.heap.size, 1, none⟩ = some (.string ⟨#[]⟩) := by rw [Lib.cell_of_heap HV4.out.res]; rfl
      have g1 : w4.frozen? ⟨w.heap.size, 1, none⟩ = false := Lib.frozen_of_heap HV4.out.res 1
      have t2 : w4.cell? ⟨w.heap.size, 2, none⟩ = some (.slice none 0 0) := by rw [Lib.cell_of_heap HV4.out.res]; rfl
      have g2 : w4.frozen? ⟨w.heap.size, 2, none⟩ = false := Lib.frozen_of_heap HV4.out.res 2
      have t3 : w4.cell? ⟨w.heap.size, 3, none⟩ = some (.slice none 0 0) := by rw [Lib.cell_of_heap HV4.out.res]; rfl
      have g3 : w4.frozen? ⟨w.heap.size, 3, none⟩ = false := Lib.frozen_of_heap HV4.out.res 3
      go_wp2
      exact Js.ret_store rfl rfl HV4.out.res rfl fun w' kV => Js.VRes.ok _ _ _ HE.out (HV4.out.plain HRW kV 1 ⟨#[]⟩)
  have HX6 : Hid (_ = X) := (if_neg h110).symm.trans HX5.out
  clear HX5
  by_cases h102 : c = 102
  · have HXw : Hid (_ = X) := (if_pos h102).symm.trans HX6.out
    subst h102
    clear HX6
    obtain ⟨T, hT⟩ : ∃ T, Js.wd s [102, 97, 108, 115, 101] a = T := ⟨_, rfl⟩
    have HT : Hid (∀ w', w'.heap[R]? = some (Js.obj s a o (b + 1)) → Calls Tryd.prog 84 #[.pointer (some ⟨R, 0, none⟩), .string ⟨#[102, 97, 108, 115, 101]⟩, .int .u8 2] w' (Js.Res R w' (Js.wd s [102, 97, 108, 115, 101] a) fun j => Js.Goes R s j o (b + 1) (Js.wordV 2) w')) := fun w' h => Js.word_is ⟨#[102, 97, 108, 115, 101]⟩ 2 R s a o (b + 1) w' h hab hs (by decide) (by decide)
    rw [hT] at HT HXw
    clear hT
    cases T with
    | error p =>
      have HE : Hid (X = .error p) := HXw.out.symm
      clear HXw
      go_wp2_with (go_at_call 84; refine (HT.out _ HV3.out.r).mono ?_)
      rintro e w4 ⟨rfl, k4⟩
      go_wp2
      exact bodyPost_stop rfl (Js.VRes.bad _ HE.out ⟨rfl, HV3.out.kp.trans k4⟩)
    | ok j =>
      have HE : Hid (X = .ok (.mk 2 ⟨#[]⟩ [] [], j, b + 1)) := HXw.out.symm
      clear HXw
      go_wp2_with (go_at_call 84; refine (HT.out _ HV3.out.r).mono ?_)
      rintro e w4 ⟨rfl, r4, k4⟩
      have HV4 := Lib.hid (HV3.out.move k4 HRW r4)
      have t0 : w4.cell? ⟨w.heap.size, 0, none⟩ = some (.int .u8 0) := by rw [Lib.cell_of_heap HV4.out.res]; rfl
      have g0 : w4.frozen? ⟨w.heap.size, 0, none⟩ = false := Lib.frozen_of_heap HV4.out.res 0
      have t1 : w4.cell? ⟨w.heap.size, 1, none⟩ = some (.string ⟨#[]⟩) := by rw [Lib.cell_of_heap HV4.out.res]; rfl
      have g1 : w4.frozen? ⟨w.heap.size, 1, none⟩ = false := Lib.frozen_of_heap HV4.out.res 1
      have t2 : w4.cell? ⟨w.heap.size, 2, none⟩ = some (.slice none 0 0) := by rw [Lib.cell_of_heap HV4.out.res]; rfl
      have g2 : w4.frozen? ⟨w.heap.size, 2, none⟩ = false := Lib.frozen_of_heap HV4.out.res 2
      have t3 : w4.cell? ⟨w.heap.size, 3, none⟩ = some (.slice none 0 0) := by rw [Lib.cell_of_heap HV4.out.res]; rfl
      have g3 : w4.frozen? ⟨w.heap.size, 3, none⟩ = false := Lib.frozen_of_heap HV4.out.res 3
      go_wp2
      exact Js.ret_store rfl rfl HV4.out.res rfl fun w' kV => Js.VRes.ok _ _ _ HE.out (HV4.out.plain HRW kV 2 ⟨#[]⟩)
  have HX7 : Hid (_ = X) := (if_neg h102).symm.trans HX6.out
  clear HX6
  by_cases h116 : c = 116
  · have HXw : Hid (_ = X) := (if_pos h116).symm.trans HX7.out
    subst h116
    clear HX7
    obtain ⟨T, hT⟩ : ∃ T, Js.wd s [116, 114, 117, 101] a = T := ⟨_, rfl⟩
    have HT : Hid (∀ w', w'.heap[R]? = some (Js.obj s a o (b + 1)) → Calls Tryd.prog 84 #[.pointer (some ⟨R, 0, none⟩), .string ⟨#[116, 114, 117, 101]⟩, .int .u8 3] w' (Js.Res R w' (Js.wd s [116, 114, 117, 101] a) fun j => Js.Goes R s j o (b + 1) (Js.wordV 3) w')) := fun w' h => Js.word_is ⟨#[116, 114, 117, 101]⟩ 3 R s a o (b + 1) w' h hab hs (by decide) (by decide)
    rw [hT] at HT HXw
    clear hT
    cases T with
    | error p =>
      have HE : Hid (X = .error p) := HXw.out.symm
      clear HXw
      go_wp2_with (go_at_call 84; refine (HT.out _ HV3.out.r).mono ?_)
      rintro e w4 ⟨rfl, k4⟩
      go_wp2
      exact bodyPost_stop rfl (Js.VRes.bad _ HE.out ⟨rfl, HV3.out.kp.trans k4⟩)
    | ok j =>
      have HE : Hid (X = .ok (.mk 3 ⟨#[]⟩ [] [], j, b + 1)) := HXw.out.symm
      clear HXw
      go_wp2_with (go_at_call 84; refine (HT.out _ HV3.out.r).mono ?_)
      rintro e w4 ⟨rfl, r4, k4⟩
      have HV4 := Lib.hid (HV3.out.move k4 HRW r4)
      have t0 : w4.cell? ⟨w.heap.size, 0, none⟩ = some (.int .u8 0) := by rw [Lib.cell_of_heap HV4.out.res]; rfl
      have g0 : w4.frozen? ⟨w.heap.size, 0, none⟩ = false := Lib.frozen_of_heap HV4.out.res 0
      have t1 : w4.cell? ⟨w.heap.size, 1, none⟩ = some (.string ⟨#[]⟩) := by rw [Lib.cell_of_heap HV4.out.res]; rfl
      have g1 : w4.frozen? ⟨w.heap.size, 1, none⟩ = false := Lib.frozen_of_heap HV4.out.res 1
      have t2 : w4.cell? ⟨w.heap.size, 2, none⟩ = some (.slice none 0 0) := by rw [Lib.cell_of_heap HV4.out.res]; rfl
      have g2 : w4.frozen? ⟨w.heap.size, 2, none⟩ = false := Lib.frozen_of_heap HV4.out.res 2
      have t3 : w4.cell? ⟨w.heap.size, 3, none⟩ = some (.slice none 0 0) := by rw [Lib.cell_of_heap HV4.out.res]; rfl
      have g3 : w4.frozen? ⟨w.heap.size, 3, none⟩ = false := Lib.frozen_of_heap HV4.out.res 3
      go_wp2
      exact Js.ret_store rfl rfl HV4.out.res rfl fun w' kV => Js.VRes.ok _ _ _ HE.out (HV4.out.plain HRW kV 3 ⟨#[]⟩)
  have HX8 : Hid (_ = X) := (if_neg h116).symm.trans HX7.out
  clear HX7
  have d1 : ((c : Int) == 91) = false := Js.beq_f (by omega)
  have d2 : ((c : Int) == 123) = false := Js.beq_f (by omega)
  have d3 : ((c : Int) == 34) = false := Js.beq_f (by omega)
  have d4 : ((c : Int) == 110) = false := Js.beq_f (by omega)
  have d5 : ((c : Int) == 102) = false := Js.beq_f (by omega)
  have d6 : ((c : Int) == 116) = false := Js.beq_f (by omega)
  have HM := Lib.hid (fun w' (h : w'.heap[R]? = some (Js.obj s a o (b + 1))) => Js.number_is R s a o (b + 1) w' h hab hs)
  have hnb := Js.num_ok s a hab
  have e1 : W3.cell? ⟨R, 1, none⟩ = some (.int .i64 a) := by rw [Lib.cell_of_heap HV3.out.r]; rfl
  obtain ⟨N, hN⟩ : ∃ N, Js.num s a = N := ⟨_, rfl⟩
  rw [hN] at HM hnb HX8
  clear hN h91 h123 h34 h110 h102 h116 hbt h0
  obtain ⟨n, ok⟩ := N
  cases ok with
  | false =>
    have HE : Hid (X = .error (Js.wrong s n)) := HX8.out.symm
    clear HX8
    go_wp2_with (go_at_call 77; refine (HM.out _ HV3.out.r).mono ?_)
    first | rintro e w4 rfl b4 | rintro e w4 ⟨rfl, b4⟩
    have HV4 := Lib.hid (HV3.out.move (Kp.of b4 (Nat.le_refl _)) HRW ((b4.block R (lt_of_heap HV3.out.r)).trans HV3.out.r))
    have e4 : w4.cell? ⟨R, 1, none⟩ = some (.int .i64 a) := by rw [Lib.cell_of_heap HV4.out.r]; rfl
    have f4 : w4.frozen? ⟨R, 1, none⟩ = false := Lib.frozen_of_heap HV4.out.r 1
    go_wp2_with (go_at_call 54; refine (HF.out _ n o (b + 1) (Js.set_at HV4.out.r _ _ (by omega))).mono ?_)
    rintro e w5 ⟨rfl, k5⟩
    go_wp2
    exact bodyPost_stop rfl (Js.VRes.bad _ HE.out ⟨rfl, (HV4.out.kp.set 1 _).trans k5⟩)
  | true =>
    have HE : Hid (X = .ok (.mk 4 (s.extract a n) [] [], n, b + 1)) := HX8.out.symm
    clear HX8 HF
    obtain ⟨hn1, hn2⟩ := hnb
    have z1 : (a : Int) + ((n : Int) - a) = n := by omega
    have z2 : (a : Int) ≤ n := by omega
    have z3 : (n : Int) ≤ s.size := by omega
    have z4 : (0 : Int) ≤ a := by omega
    go_wp2_with (go_at_call 77; refine (HM.out _ HV3.out.r).mono ?_)
    first | rintro e w4 rfl b4 | rintro e w4 ⟨rfl, b4⟩
    have HV4 := Lib.hid (HV3.out.move (Kp.of b4 (Nat.le_refl _)) HRW ((b4.block R (lt_of_heap HV3.out.r)).trans HV3.out.r))
    have e4 : w4.cell? ⟨R, 1, none⟩ = some (.int .i64 a) := by rw [Lib.cell_of_heap HV4.out.r]; rfl
    have f4 : w4.frozen? ⟨R, 1, none⟩ = false := Lib.frozen_of_heap HV4.out.r 1
    obtain ⟨W5, hW5⟩ : ∃ W5, w4.setCell ⟨R, 1, none⟩ (.int .i64 (n : Int)) = W5 := ⟨_, rfl⟩
    have HV5 : Hid (Js.VInv R s o w n (b + 1) W5) := by subst hW5; exact HV4.out.move ((Kp.refl R w4).set 1 _) HRW (Js.set_at HV4.out.r _ _ rfl)
    have i0 : W5.cell? ⟨R, 0, none⟩ = some (.string s) := by rw [Lib.cell_of_heap HV5.out.r]; rfl
    have i1 : W5.cell? ⟨R, 1, none⟩ = some (.int .i64 n) := by rw [Lib.cell_of_heap HV5.out.r]; rfl
    have t0 : W5.cell? ⟨w.heap.size, 0, none⟩ = some (.int .u8 0) := by rw [Lib.cell_of_heap HV5.out.res]; rfl
    have g0 : W5.frozen? ⟨w.heap.size, 0, none⟩ = false := Lib.frozen_of_heap HV5.out.res 0
    have t1 : W5.cell? ⟨w.heap.size, 1, none⟩ = some (.string ⟨#[]⟩) := by rw [Lib.cell_of_heap HV5.out.res]; rfl
    have g1 : W5.frozen? ⟨w.heap.size, 1, none⟩ = false := Lib.frozen_of_heap HV5.out.res 1
    have t2 : W5.cell? ⟨w.heap.size, 2, none⟩ = some (.slice none 0 0) := by rw [Lib.cell_of_heap HV5.out.res]; rfl
    have g2 : W5.frozen? ⟨w.heap.size, 2, none⟩ = false := Lib.frozen_of_heap HV5.out.res 2
    have t3 : W5.cell? ⟨w.heap.size, 3, none⟩ = some (.slice none 0 0) := by rw [Lib.cell_of_heap HV5.out.res]; rfl
    have g3 : W5.frozen? ⟨w.heap.size, 3, none⟩ = false := Lib.frozen_of_heap HV5.out.res 3
    go_wp2_with fail
    go_region
    go_wp2
    exact Js.ret_store_drew rfl rfl HV5.out.res rfl fun w' kV => Js.VRes.ok _ _ _ HE.out (HV5.out.plain HRW kV 4 (s.extract a n))


/-- value reads a value, or stops the reading, as the plain words say -/
theorem Js.value_is (R : Nat) (s : ByteArray) (hs : s.size ≤ 1000000) : ∀ d o, o + d = 16 → Js.ValIs R s o d := by
  intro d
  induction d with
  | zero => exact fun o ho => Js.value_step R s hs o 0 ho (fun d' h => by cases h)
  | succ d ih => exact fun o ho => Js.value_step R s hs o (d + 1) ho (fun d' h => by cases h; exact ih (o + 1) (by omega))

end Go.Proofs.YtmmijebekipdeaaDoor
