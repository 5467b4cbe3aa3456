/- Contracts of json: copied, Get. -/
import Derived.Test.YtmmijebekipdeaaDoorJsJ
import Derived.Test.YtmmijebekipdeaaDoorJsZ
namespace Go.Proofs.YtmmijebekipdeaaDoor
open Go.RowKit
set_option maxRecDepth 100000
set_option linter.unusedVariables false

theorem Js.CI.item' {R : Rec Js.It} {B O kd : Nat} {t : ByteArray} {ns : List ByteArray} {nv : Value} {its : List Js.It} {iv : Value} {wB wr w1 : World} (_h1 : Js.CI R B O kd t ns nv its iv wB w1) (h : Js.CI R B O kd t ns nv its iv wB wr) {x : Js.V} {xn xi : Value} (hv : Js.VAt (fun k => wr.heap.size ≤ k) w1 x xn xi) : Js.VAt (Js.Fr B O iv) w1 x xn xi := h.item hv
theorem Js.clone_is {S : Nat → Prop} {w : World} {ns : List ByteArray} {v : Value} (h : Js.NsAt S w ns v) (hl : ns.length ≤ 1000000) :
    Calls Tryd.prog 93 #[v] w fun e w' => ∃ v', e = .returned v' ∧ Js.NsAt (fun k => w.heap.size ≤ k) w' ns v' ∧ Below w.heap.size w w' := by
  obtain ⟨p, c, rfl, h1, h2, h3⟩ := h
  have of : ∀ v' w', w'.ownsRow w.heap.size 9 1 v' ns.length (ns.map (Value.string)) → Js.NsAt (fun k => w.heap.size ≤ k) w' ns v' := by
    intro v' w' ho
    obtain ⟨_, ho⟩ := ho
    rcases ho with ⟨rfl, h0⟩ | ⟨g, cap, cur, rfl, hg, hh, hn, hc, hcs, ht⟩
    · exact ⟨none, 0, by rw [h0], by omega, Nat.zero_le _, .inl (List.length_eq_zero_iff.1 h0)⟩
    · refine ⟨_, cap, rfl, hn, hc, .inr ⟨g, 0, rfl, hg, fun i hi => ?_⟩⟩
      rw [Nat.zero_add, Lib.cell_of_heap hh]
      have e2 : (cur.toList.take (ns.length * 1))[i]? = some (.string ns[i]) := by rw [ht]; simp [hi]
      rw [List.getElem?_take_of_lt (by omega)] at e2
      simpa using e2
  rcases h3 with rfl | ⟨b, o, rfl, hS, hA⟩
  · cases p with
    | none =>
      refine (Tryd.slices_Clone_string_nil 0 c w).mono ?_
      rintro e w' ⟨rfl, rfl⟩
      exact ⟨_, rfl, ⟨none, 0, rfl, Nat.le_refl _, Nat.zero_le _, .inl rfl⟩, Below.refl _ _⟩
    | some a =>
      refine (Tryd.slices_Clone_string_zero a c w).mono ?_
      rintro e w' ⟨v', rfl, ho, _, hb⟩
      exact ⟨v', rfl, of v' w' (by simpa using ho), hb⟩
  · refine (Tryd.slices_Clone_string b o ns.length c ns w (Nat.le_refl _) (by omega) (fun j hj => by rw [hA j hj]; simp [List.getD_eq_getElem?_getD, hj])).mono ?_
    rintro e w' ⟨v', rfl, ho, _, hb⟩
    rw [List.take_length] at ho
    exact ⟨v', rfl, of v' w' ho, hb⟩

/-- the region in which the new value is begun -/
structure Js.NI (T : TypeId) (V : Nat) (wB : World) (k : Nat) (t : ByteArray) (ns : List ByteArray) (np : Option Addr) (n nc : Nat) (O : Nat) (d : Nat → Bool) (t0 t1 t2 t3 t4 t5 t6 t7 t8 : Value) (w' : World) : Prop where
  f0 : d 0 = true → t0 = .pointer (some ⟨V, 0, none⟩)
  f1 : d 1 = true → t1 = .int .u8 k
  f2 : d 2 = true → t2 = .pointer (some ⟨V, 1, none⟩)
  f3 : d 3 = true → t3 = .string t
  f4 : d 4 = true → t4 = .pointer (some ⟨V, 2, none⟩)
  f5 : d 5 = true → t5 = .slice np n nc
  f6 : d 6 = true → Js.NsAt (fun q => wB.heap.size ≤ q ∧ (d 8 = true → q ≠ O)) w' ns t6
  f7 : d 7 = true → t7 = .agg #[.int .u8 k, .string t, t6, .slice none 0 0]
  f8 : d 8 = true → t8 = .pointer (some ⟨O, 0, none⟩) ∧ wB.heap.size ≤ O ∧ ∃ y0 y1 y2 y3, w'.heap[O]? = some (.cells #[y0, y1, y2, y3] T)
  f9 : d 9 = true → w'.heap[O]? = some (.cells #[.int .u8 k, .string t, t6, .slice none 0 0] T)
  bl : Below wB.heap.size wB w'
  o7 : d 7 = true → d 6 = true
  o9 : d 9 = true → d 6 = true
  o97 : d 9 = true → d 7 = true
  o98 : d 9 = true → d 8 = true

section
variable {T : TypeId} {V : Nat} {wB : World} {k : Nat} {t : ByteArray} {ns : List ByteArray} {np : Option Addr} {n nc : Nat} {O : Nat} {d : Nat → Bool} {t0 t1 t2 t3 t4 t5 t6 t7 t8 : Value} {w' : World}
theorem Js.NI.s0 (h : Js.NI T V wB k t ns np n nc O d t0 t1 t2 t3 t4 t5 t6 t7 t8 w') : Js.NI T V wB k t ns np n nc O (fun i => d i || i == 0) (.pointer (some ⟨V, 0, none⟩)) t1 t2 t3 t4 t5 t6 t7 t8 w' where
  f0 := fun _ => rfl
  f1 := fun q => by have h9 := h.f1 (by simpa using q); simpa using h9
  f2 := fun q => by have h9 := h.f2 (by simpa using q); simpa using h9
  f3 := fun q => by have h9 := h.f3 (by simpa using q); simpa using h9
  f4 := fun q => by have h9 := h.f4 (by simpa using q); simpa using h9
  f5 := fun q => by have h9 := h.f5 (by simpa using q); simpa using h9
  f6 := fun q => by have h9 := h.f6 (by simpa using q); simpa using h9
  f7 := fun q => by have h9 := h.f7 (by simpa using q); simpa using h9
  f8 := fun q => by have h9 := h.f8 (by simpa using q); simpa using h9
  f9 := fun q => by have h9 := h.f9 (by simpa using q); simpa using h9
  bl := h.bl
  o7 := fun q => by have h9 := h.o7 (by simpa using q); simp [h9]
  o9 := fun q => by have h9 := h.o9 (by simpa using q); simp [h9]
  o97 := fun q => by have h9 := h.o97 (by simpa using q); simp [h9]
  o98 := fun q => by have h9 := h.o98 (by simpa using q); simp [h9]
theorem Js.NI.s1 (h : Js.NI T V wB k t ns np n nc O d t0 t1 t2 t3 t4 t5 t6 t7 t8 w') : Js.NI T V wB k t ns np n nc O (fun i => d i || i == 1) t0 (.int .u8 k) t2 t3 t4 t5 t6 t7 t8 w' where
  f0 := fun q => by have h9 := h.f0 (by simpa using q); simpa using h9
  f1 := fun _ => rfl
  f2 := fun q => by have h9 := h.f2 (by simpa using q); simpa using h9
  f3 := fun q => by have h9 := h.f3 (by simpa using q); simpa using h9
  f4 := fun q => by have h9 := h.f4 (by simpa using q); simpa using h9
  f5 := fun q => by have h9 := h.f5 (by simpa using q); simpa using h9
  f6 := fun q => by have h9 := h.f6 (by simpa using q); simpa using h9
  f7 := fun q => by have h9 := h.f7 (by simpa using q); simpa using h9
  f8 := fun q => by have h9 := h.f8 (by simpa using q); simpa using h9
  f9 := fun q => by have h9 := h.f9 (by simpa using q); simpa using h9
  bl := h.bl
  o7 := fun q => by have h9 := h.o7 (by simpa using q); simp [h9]
  o9 := fun q => by have h9 := h.o9 (by simpa using q); simp [h9]
  o97 := fun q => by have h9 := h.o97 (by simpa using q); simp [h9]
  o98 := fun q => by have h9 := h.o98 (by simpa using q); simp [h9]
theorem Js.NI.s2 (h : Js.NI T V wB k t ns np n nc O d t0 t1 t2 t3 t4 t5 t6 t7 t8 w') : Js.NI T V wB k t ns np n nc O (fun i => d i || i == 2) t0 t1 (.pointer (some ⟨V, 1, none⟩)) t3 t4 t5 t6 t7 t8 w' where
  f0 := fun q => by have h9 := h.f0 (by simpa using q); simpa using h9
  f1 := fun q => by have h9 := h.f1 (by simpa using q); simpa using h9
  f2 := fun _ => rfl
  f3 := fun q => by have h9 := h.f3 (by simpa using q); simpa using h9
  f4 := fun q => by have h9 := h.f4 (by simpa using q); simpa using h9
  f5 := fun q => by have h9 := h.f5 (by simpa using q); simpa using h9
  f6 := fun q => by have h9 := h.f6 (by simpa using q); simpa using h9
  f7 := fun q => by have h9 := h.f7 (by simpa using q); simpa using h9
  f8 := fun q => by have h9 := h.f8 (by simpa using q); simpa using h9
  f9 := fun q => by have h9 := h.f9 (by simpa using q); simpa using h9
  bl := h.bl
  o7 := fun q => by have h9 := h.o7 (by simpa using q); simp [h9]
  o9 := fun q => by have h9 := h.o9 (by simpa using q); simp [h9]
  o97 := fun q => by have h9 := h.o97 (by simpa using q); simp [h9]
  o98 := fun q => by have h9 := h.o98 (by simpa using q); simp [h9]
theorem Js.NI.s3 (h : Js.NI T V wB k t ns np n nc O d t0 t1 t2 t3 t4 t5 t6 t7 t8 w') : Js.NI T V wB k t ns np n nc O (fun i => d i || i == 3) t0 t1 t2 (.string t) t4 t5 t6 t7 t8 w' where
  f0 := fun q => by have h9 := h.f0 (by simpa using q); simpa using h9
  f1 := fun q => by have h9 := h.f1 (by simpa using q); simpa using h9
  f2 := fun q => by have h9 := h.f2 (by simpa using q); simpa using h9
  f3 := fun _ => rfl
  f4 := fun q => by have h9 := h.f4 (by simpa using q); simpa using h9
  f5 := fun q => by have h9 := h.f5 (by simpa using q); simpa using h9
  f6 := fun q => by have h9 := h.f6 (by simpa using q); simpa using h9
  f7 := fun q => by have h9 := h.f7 (by simpa using q); simpa using h9
  f8 := fun q => by have h9 := h.f8 (by simpa using q); simpa using h9
  f9 := fun q => by have h9 := h.f9 (by simpa using q); simpa using h9
  bl := h.bl
  o7 := fun q => by have h9 := h.o7 (by simpa using q); simp [h9]
  o9 := fun q => by have h9 := h.o9 (by simpa using q); simp [h9]
  o97 := fun q => by have h9 := h.o97 (by simpa using q); simp [h9]
  o98 := fun q => by have h9 := h.o98 (by simpa using q); simp [h9]
theorem Js.NI.s4 (h : Js.NI T V wB k t ns np n nc O d t0 t1 t2 t3 t4 t5 t6 t7 t8 w') : Js.NI T V wB k t ns np n nc O (fun i => d i || i == 4) t0 t1 t2 t3 (.pointer (some ⟨V, 2, none⟩)) t5 t6 t7 t8 w' where
  f0 := fun q => by have h9 := h.f0 (by simpa using q); simpa using h9
  f1 := fun q => by have h9 := h.f1 (by simpa using q); simpa using h9
  f2 := fun q => by have h9 := h.f2 (by simpa using q); simpa using h9
  f3 := fun q => by have h9 := h.f3 (by simpa using q); simpa using h9
  f4 := fun _ => rfl
  f5 := fun q => by have h9 := h.f5 (by simpa using q); simpa using h9
  f6 := fun q => by have h9 := h.f6 (by simpa using q); simpa using h9
  f7 := fun q => by have h9 := h.f7 (by simpa using q); simpa using h9
  f8 := fun q => by have h9 := h.f8 (by simpa using q); simpa using h9
  f9 := fun q => by have h9 := h.f9 (by simpa using q); simpa using h9
  bl := h.bl
  o7 := fun q => by have h9 := h.o7 (by simpa using q); simp [h9]
  o9 := fun q => by have h9 := h.o9 (by simpa using q); simp [h9]
  o97 := fun q => by have h9 := h.o97 (by simpa using q); simp [h9]
  o98 := fun q => by have h9 := h.o98 (by simpa using q); simp [h9]
theorem Js.NI.s5 (h : Js.NI T V wB k t ns np n nc O d t0 t1 t2 t3 t4 t5 t6 t7 t8 w') : Js.NI T V wB k t ns np n nc O (fun i => d i || i == 5) t0 t1 t2 t3 t4 (.slice np n nc) t6 t7 t8 w' where
  f0 := fun q => by have h9 := h.f0 (by simpa using q); simpa using h9
  f1 := fun q => by have h9 := h.f1 (by simpa using q); simpa using h9
  f2 := fun q => by have h9 := h.f2 (by simpa using q); simpa using h9
  f3 := fun q => by have h9 := h.f3 (by simpa using q); simpa using h9
  f4 := fun q => by have h9 := h.f4 (by simpa using q); simpa using h9
  f5 := fun _ => rfl
  f6 := fun q => by have h9 := h.f6 (by simpa using q); simpa using h9
  f7 := fun q => by have h9 := h.f7 (by simpa using q); simpa using h9
  f8 := fun q => by have h9 := h.f8 (by simpa using q); simpa using h9
  f9 := fun q => by have h9 := h.f9 (by simpa using q); simpa using h9
  bl := h.bl
  o7 := fun q => by have h9 := h.o7 (by simpa using q); simp [h9]
  o9 := fun q => by have h9 := h.o9 (by simpa using q); simp [h9]
  o97 := fun q => by have h9 := h.o97 (by simpa using q); simp [h9]
  o98 := fun q => by have h9 := h.o98 (by simpa using q); simp [h9]
theorem Js.NI.s6 (h : Js.NI T V wB k t ns np n nc O d t0 t1 t2 t3 t4 t5 t6 t7 t8 w') (h7 : d 7 = false) (h9 : d 9 = false) {v : Value} {w2 : World} (b : Below w'.heap.size w' w2) (hn : Js.NsAt (fun q => w'.heap.size ≤ q) w2 ns v) : Js.NI T V wB k t ns np n nc O (fun i => d i || i == 6) t0 t1 t2 t3 t4 t5 v t7 t8 w2 where
  f0 := fun q => h.f0 (by simpa using q)
  f1 := fun q => h.f1 (by simpa using q)
  f2 := fun q => h.f2 (by simpa using q)
  f3 := fun q => h.f3 (by simpa using q)
  f4 := fun q => h.f4 (by simpa using q)
  f5 := fun q => h.f5 (by simpa using q)
  f6 := fun _ => hn.move ⟨fun _ _ _ => rfl, fun q hq _ => ⟨Nat.le_trans h.bl.size hq, fun h8 => by
    obtain ⟨_, _, y0, y1, y2, y3, hh⟩ := h.f8 (by simpa using h8)
    have := lt_of_heap hh
    have := hq
    omega⟩⟩
  f7 := fun q => by simp [h7] at q
  f8 := fun q => by
    obtain ⟨h1, h2, y0, y1, y2, y3, hh⟩ := h.f8 (by simpa using q)
    exact ⟨h1, h2, y0, y1, y2, y3, (b.block _ (lt_of_heap hh)).trans hh⟩
  f9 := fun q => by simp [h9] at q
  bl := h.bl.trans (b.mono h.bl.size)
  o7 := fun q => by have h9 := h.o7 (by simpa using q); simp [h9]
  o9 := fun q => by have h9 := h.o9 (by simpa using q); simp [h9]
  o97 := fun q => by have h9 := h.o97 (by simpa using q); simp [h9]
  o98 := fun q => by have h9 := h.o98 (by simpa using q); simp [h9]
theorem Js.NI.s7 (h : Js.NI T V wB k t ns np n nc O d t0 t1 t2 t3 t4 t5 t6 t7 t8 w') (h6 : d 6 = true) (h9 : d 9 = false) : Js.NI T V wB k t ns np n nc O (fun i => d i || i == 7) t0 t1 t2 t3 t4 t5 t6 (.agg #[.int .u8 k, .string t, t6, .slice none 0 0]) t8 w' where
  f0 := fun q => h.f0 (by simpa using q)
  f1 := fun q => h.f1 (by simpa using q)
  f2 := fun q => h.f2 (by simpa using q)
  f3 := fun q => h.f3 (by simpa using q)
  f4 := fun q => h.f4 (by simpa using q)
  f5 := fun q => h.f5 (by simpa using q)
  f6 := fun q => by have h9 := h.f6 (by simpa using q); simpa using h9
  f7 := fun _ => rfl
  f8 := fun q => h.f8 (by simpa using q)
  f9 := fun q => by simp [h9] at q
  bl := h.bl
  o7 := fun _ => by simp [h6]
  o9 := fun q => by have h9 := h.o9 (by simpa using q); simp [h9]
  o97 := fun q => by have h9 := h.o97 (by simpa using q); simp [h9]
  o98 := fun q => by have h9 := h.o98 (by simpa using q); simp [h9]
theorem Js.NI.s8 (h : Js.NI T V wB k t ns np n nc O d t0 t1 t2 t3 t4 t5 t6 t7 t8 w') (h8 : d 8 = false) (h9 : d 9 = false) {y0 y1 y2 y3 : Value} : Js.NI T V wB k t ns np n nc w'.heap.size (fun i => d i || i == 8) t0 t1 t2 t3 t4 t5 t6 t7 (.pointer (some ⟨w'.heap.size, 0, none⟩)) (w'.alloc (.cells #[y0, y1, y2, y3] T)) where
  f0 := fun q => h.f0 (by simpa using q)
  f1 := fun q => h.f1 (by simpa using q)
  f2 := fun q => h.f2 (by simpa using q)
  f3 := fun q => h.f3 (by simpa using q)
  f4 := fun q => h.f4 (by simpa using q)
  f5 := fun q => h.f5 (by simpa using q)
  f6 := fun q => (h.f6 (by simpa using q)).move ⟨fun j _ hl => (Rj.bel1 w' _).block j hl, fun q hq hl => ⟨hq.1, fun _ => by omega⟩⟩
  f7 := fun q => h.f7 (by simpa using q)
  f8 := fun _ => ⟨rfl, h.bl.size, y0, y1, y2, y3, alloc_new _ _⟩
  f9 := fun q => by simp [h9] at q
  bl := h.bl.alloc h.bl.size _
  o7 := fun q => by have h9 := h.o7 (by simpa using q); simp [h9]
  o9 := fun q => by have h9 := h.o9 (by simpa using q); simp [h9]
  o97 := fun q => by have h9 := h.o97 (by simpa using q); simp [h9]
  o98 := fun q => by have h9 := h.o98 (by simpa using q); simp [h9]
theorem Js.NI.s9 (h : Js.NI T V wB k t ns np n nc O d t0 t1 t2 t3 t4 t5 t6 t7 t8 w') (h6 : d 6 = true) (h7 : d 7 = true) (h8 : d 8 = true) : Js.NI T V wB k t ns np n nc O (fun i => d i || i == 9) t0 t1 t2 t3 t4 t5 t6 t7 t8 ((((w'.setCell ⟨O, 0, none⟩ (.int .u8 k)).setCell ⟨O, 1, none⟩ (.string t)).setCell ⟨O, 2, none⟩ t6).setCell ⟨O, 3, none⟩ (.slice none 0 0)) where
  f0 := fun q => h.f0 (by simpa using q)
  f1 := fun q => h.f1 (by simpa using q)
  f2 := fun q => h.f2 (by simpa using q)
  f3 := fun q => h.f3 (by simpa using q)
  f4 := fun q => h.f4 (by simpa using q)
  f5 := fun q => h.f5 (by simpa using q)
  f6 := fun _ => (h.f6 h6).move ⟨fun j hj hl => ((((Kp.refl O w').set 0 _).set 1 _).set 2 _ |>.set 3 _).block j hl (hj.2 h8), fun q hq _ => ⟨hq.1, fun _ => hq.2 h8⟩⟩
  f7 := fun q => h.f7 (by simpa using q)
  f8 := fun _ => by
    obtain ⟨h1, h2, y0, y1, y2, y3, hh⟩ := h.f8 h8
    exact ⟨h1, h2, _, _, _, _, Rj.set4 hh _ _ _ _⟩
  f9 := fun _ => by
    obtain ⟨h1, h2, y0, y1, y2, y3, hh⟩ := h.f8 h8
    exact Rj.set4 hh _ _ _ _
  bl := Rj.bel4 h.bl (h.f8 h8).2.1 _ _ _ _
  o7 := fun q => by have h9 := h.o7 (by simpa using q); simp [h9]
  o9 := fun _ => by simp [h6]
  o97 := fun _ => by simp [h7]
  o98 := fun _ => by simp [h8]
end

set_option maxHeartbeats 8000000 in
theorem Js.copied_is : ∀ (N : Nat) (v : Js.V), Js.cnt v ≤ N → N ≤ 500000000 → Js.sz v → ∀ (S : Nat → Prop) (w : World) (nv iv : Value), Js.VAt S w v nv iv →
    Calls Tryd.prog 69 #[.agg #[.int .u8 v.kind, .string v.text, nv, iv]] w (Js.Made v w) := by
  intro N
  induction N with
  | zero => intro v hv; obtain ⟨k, t, ns, xs⟩ := v; unfold Js.cnt at hv; omega
  | succ N ih =>
    intro v hv hN hsz S w nv iv hA
    obtain ⟨k, t, ns, xs⟩ := v
    rw [Js.cnt] at hv
    rw [Js.sz] at hsz
    obtain ⟨-, hsn, hsl⟩ := hsz
    unfold Js.VAt at hA
    obtain ⟨hNs, ip, ic, rfl, hl1, hl2, hit⟩ := hA
    have HNs := Lib.hid hNs
    obtain ⟨np, nc, rfl, hn1, hn2, -⟩ := hNs
    dsimp only [Js.V.kind, Js.V.text, Js.V.names, Js.V.items]
    have hxl : xs.length ≤ Js.cntL xs := Js.len_cntL xs
    obtain ⟨n, hn⟩ : ∃ n, ns.length = n := ⟨_, rfl⟩
    obtain ⟨m, hm⟩ : ∃ m, xs.length = m := ⟨_, rfl⟩
    rw [hn, hm]
    rw [hm] at hxl hl1
    rw [hn] at HNs hn1
    have hm9 : m ≤ 500000000 := by omega
    have HM := Lib.hid hm
    have HI := Lib.hid hit
    have HH := Lib.hid ih
    have HV : Hid (1 + Js.cntL xs ≤ N + 1) := hv
    have HZ := Lib.hid hsl
    have hnl : ns.length ≤ 1000000 := hsn.1
    obtain ⟨wB, hwB⟩ : ∃ wB, (w.alloc (.cells #[.int .u8 k, .string t, .slice np n nc, .slice ip m ic] 27)).alloc (.cells #[.int .u8 0, .string ⟨#[]⟩, .slice none 0 0, .slice none 0 0] 27) = wB := ⟨_, rfl⟩
    have HBw : Hid (Below w.heap.size w wB) := by subst hwB; exact Rj.bel2 w _ _
    have HVc : Hid (wB.heap[w.heap.size]? = some (.cells #[.int .u8 k, .string t, .slice np n nc, .slice ip m ic] 27)) := by subst hwB; exact alloc_kept (alloc_new _ _)
    have HRc : Hid (wB.heap[w.heap.size + 1]? = some (.cells #[.int .u8 0, .string ⟨#[]⟩, .slice none 0 0, .slice none 0 0] 27)) := by subst hwB; exact Rj.new2 w _ _
    have hzB : wB.heap.size = w.heap.size + 2 := by subst hwB; simp
    have HWB := Lib.hid hwB
    have HNC := Lib.hid (fun w' (hw : Below w.heap.size w w') => Js.clone_is (HNs.out.move ⟨fun k _ hk => hw.block k hk, fun _ hk _ => hk⟩) hnl)
    clear hwB hn hm hit ih hv hsn hsl HNs hxl hl1 hl2 hn1 hn2
    go_enter Tryd.func69, Tryd.ntmps69
    go_upto_region 1 with fail
    rw [show (w.alloc (.cells #[.int .u8 k, .string t, .slice np n nc, .slice ip m ic] 27)).alloc (.cells #[.int .u8 0, .string ⟨#[]⟩, .slice none 0 0, .slice none 0 0] 27) = wB from HWB.out]
    clear HWB
    go_cut [3] (fun v3 wx => ∃ (O : Nat) (nvv : Value), v3 = .pointer (some ⟨O, 0, none⟩) ∧ Hid (Js.CI Js.iR wB.heap.size O k t ns nvv [] (.slice none 0 0) wB wx))
    case first =>
      refine wp_region_inv (by kernel_rfl) (by kernel_rfl) (fun a0 d a w' => ∃ (O : Nat) (t6 t7 t8 t9 t10 t11 t12 t13 t3 : Value), a = (((((((((a0.put (some 6) t6).put (some 7) t7).put (some 8) t8).put (some 9) t9).put (some 10) t10).put (some 11) t11).put (some 12) t12).put (some 13) t13).put (some 3) t3) ∧ Js.NI 27 w.heap.size wB k t ns np n nc O d t6 t7 t8 t9 t10 t11 t12 t13 t3 w') ?h0 ?hs ?he
      case h0 => exact ⟨0, undef, undef, undef, undef, undef, undef, undef, undef, undef, (by go_frame), ⟨fun q => (by cases q), fun q => (by cases q), fun q => (by cases q), fun q => (by cases q), fun q => (by cases q), fun q => (by cases q), fun q => (by cases q), fun q => (by cases q), fun q => (by cases q), fun q => (by cases q), below_drewN (Below.refl _ _) 1, fun q => (by cases q), fun q => (by cases q), fun q => (by cases q), fun q => (by cases q)⟩⟩
      case hs =>
        refine ⟨?_, ?_, ?_, ?_, ?_, ?_, ?_, ?_, ?_, ?_, trivial⟩
        · rintro d a w' hd hdep ⟨O, t6, t7, t8, t9, t10, t11, t12, t13, t3, rfl, h⟩ K hK
          rw [if_pos (by rfl)]
          go_frame
          go_simp
          exact hK _ _ ⟨O, .pointer (some ⟨w.heap.size, 0, none⟩), _, _, _, _, _, _, _, _, (by go_frame), h.s0⟩
        · rintro d a w' hd hdep ⟨O, t6, t7, t8, t9, t10, t11, t12, t13, t3, rfl, h⟩ K hK
          rw [if_pos (by rfl)]
          go_frame
          obtain rfl := h.f0 (hdep 0 (by decide))
          have hc : w'.cell? ⟨w.heap.size, 0, none⟩ = some (.int .u8 k) := by rw [Lib.cell_of_heap ((h.bl.block _ (lt_of_heap HVc.out)).trans HVc.out)]; rfl
          go_simp
          exact hK _ _ ⟨O, _, .int .u8 k, _, _, _, _, _, _, _, (by go_frame), h.s1⟩
        · rintro d a w' hd hdep ⟨O, t6, t7, t8, t9, t10, t11, t12, t13, t3, rfl, h⟩ K hK
          rw [if_pos (by rfl)]
          go_frame
          go_simp
          exact hK _ _ ⟨O, _, _, .pointer (some ⟨w.heap.size, 1, none⟩), _, _, _, _, _, _, (by go_frame), h.s2⟩
        · rintro d a w' hd hdep ⟨O, t6, t7, t8, t9, t10, t11, t12, t13, t3, rfl, h⟩ K hK
          rw [if_pos (by rfl)]
          go_frame
          obtain rfl := h.f2 (hdep 2 (by decide))
          have hc : w'.cell? ⟨w.heap.size, 1, none⟩ = some (.string t) := by rw [Lib.cell_of_heap ((h.bl.block _ (lt_of_heap HVc.out)).trans HVc.out)]; rfl
          go_simp
          exact hK _ _ ⟨O, _, _, _, .string t, _, _, _, _, _, (by go_frame), h.s3⟩
        · rintro d a w' hd hdep ⟨O, t6, t7, t8, t9, t10, t11, t12, t13, t3, rfl, h⟩ K hK
          rw [if_pos (by rfl)]
          go_frame
          go_simp
          exact hK _ _ ⟨O, _, _, _, _, .pointer (some ⟨w.heap.size, 2, none⟩), _, _, _, _, (by go_frame), h.s4⟩
        · rintro d a w' hd hdep ⟨O, t6, t7, t8, t9, t10, t11, t12, t13, t3, rfl, h⟩ K hK
          rw [if_pos (by rfl)]
          go_frame
          obtain rfl := h.f4 (hdep 4 (by decide))
          have hc : w'.cell? ⟨w.heap.size, 2, none⟩ = some (.slice np n nc) := by rw [Lib.cell_of_heap ((h.bl.block _ (lt_of_heap HVc.out)).trans HVc.out)]; rfl
          go_simp
          exact hK _ _ ⟨O, _, _, _, _, _, .slice np n nc, _, _, _, (by go_frame), h.s5⟩
        · rintro d a w' hd hdep ⟨O, t6, t7, t8, t9, t10, t11, t12, t13, t3, rfl, h⟩ K hK
          rw [if_pos (by rfl)]
          go_frame
          obtain rfl := h.f5 (hdep 5 (by decide))
          have h7 : d 7 = false := by cases h7 : d 7 with | false => rfl | true => exact absurd (h.o7 h7) (by rw [hd]; decide)
          have h9 : d 9 = false := by cases h9 : d 9 with | false => rfl | true => exact absurd (h.o9 h9) (by rw [hd]; decide)
          go_simp
          refine (HNC.out w' (HBw.out.trans (h.bl.mono HBw.out.size))).mono ?_
          rintro e w2 ⟨v', rfl, hn, b2⟩
          go_simp
          exact hK _ _ ⟨O, _, _, _, _, _, _, v', _, _, (by go_frame), h.s6 h7 h9 b2 hn⟩
        · rintro d a w' hd hdep ⟨O, t6, t7, t8, t9, t10, t11, t12, t13, t3, rfl, h⟩ K hK
          rw [if_pos (by rfl)]
          go_frame
          obtain rfl := h.f1 (hdep 1 (by decide))
          obtain rfl := h.f3 (hdep 3 (by decide))
          have h9 : d 9 = false := by cases h9 : d 9 with | false => rfl | true => exact absurd (h.o97 h9) (by rw [hd]; decide)
          have h6 := hdep 6 (by decide)
          obtain ⟨p6, c6, rfl, -⟩ := h.f6 h6
          go_simp
          exact hK _ _ ⟨O, _, _, _, _, _, _, _, .agg #[.int .u8 k, .string t, .slice p6 _ c6, .slice none 0 0], _, (by go_frame), h.s7 h6 h9⟩
        · rintro d a w' hd hdep ⟨O, t6, t7, t8, t9, t10, t11, t12, t13, t3, rfl, h⟩ K hK
          rw [if_pos (by rfl)]
          go_frame
          have h9 : d 9 = false := by cases h9 : d 9 with | false => rfl | true => exact absurd (h.o98 h9) (by rw [hd]; decide)
          go_simp
          exact hK _ _ ⟨w'.heap.size, _, _, _, _, _, _, _, _, .pointer (some ⟨w'.heap.size, 0, none⟩), (by go_frame), h.s8 hd h9⟩
        · rintro d a w' hd hdep ⟨O, t6, t7, t8, t9, t10, t11, t12, t13, t3, rfl, h⟩ K hK
          rw [if_pos (by rfl)]
          go_frame
          have h6 := hdep 6 (by decide)
          have h8 := hdep 8 (by decide)
          obtain ⟨e8, hO, y0, y1, y2, y3, hh⟩ := h.f8 h8
          have e7 := h.f7 (hdep 7 (by decide))
          subst e8 e7
          obtain ⟨p6, c6, rfl, -⟩ := h.f6 h6
          have l0 : w'.cell? ⟨O, 0, none⟩ = some y0 := by rw [Lib.cell_of_heap hh]; rfl
          have l1 : w'.cell? ⟨O, 1, none⟩ = some y1 := by rw [Lib.cell_of_heap hh]; rfl
          have l2 : w'.cell? ⟨O, 2, none⟩ = some y2 := by rw [Lib.cell_of_heap hh]; rfl
          have l3 : w'.cell? ⟨O, 3, none⟩ = some y3 := by rw [Lib.cell_of_heap hh]; rfl
          have g0 := Lib.frozen_of_heap hh 0
          have g1 := Lib.frozen_of_heap hh 1
          have g2 := Lib.frozen_of_heap hh 2
          have g3 := Lib.frozen_of_heap hh 3
          go_simp
          exact hK _ _ ⟨O, _, _, _, _, _, _, _, _, _, (by go_frame), h.s9 h6 (hdep 7 (by decide)) h8⟩
      case he =>
        rintro a0 w5 ⟨O, t6, t7, t8, t9, t10, t11, t12, t13, t3, rfl, h⟩
        obtain ⟨e8, hO, -⟩ := h.f8 rfl
        have h6 := h.f6 rfl
        have h9 := h.f9 rfl
        subst e8
        have hCI : Hid (Js.CI Js.iR wB.heap.size O k t ns t12 [] (.slice none 0 0) wB w5) := ⟨h9, h.bl, hO, by simp [Value.ownBlock], h6.move ⟨fun _ _ _ => rfl, fun q hq _ => ⟨hq.1, hq.2 rfl, by simp [Value.ownBlock]⟩⟩, OwnR.nil _ _ _, fun _ hx => by simp at hx⟩
        go_frame
        clear h h6 h9
        go_wp2_with fail
        go_meet
        exact ⟨O, t12, rfl, hCI.out⟩
    case rest =>
    obtain ⟨O, nvv, rfl, HL0⟩ := hcut
    have c3 : wc.cell? ⟨w.heap.size, 3, none⟩ = some (.slice ip m ic) := by rw [Lib.cell_of_heap ((HL0.out.bl.block _ (lt_of_heap HVc.out)).trans HVc.out)]; rfl
    go_wp2_with fail
    go_loopw [17] (fun v17 wr => ∃ (i : Nat) (its : List Js.It) (iv : Value), i ≤ m ∧ v17 = .int .i64 i ∧ Hid (its.map Js.It.x = xs.take i) ∧ Hid (Js.CI Js.iR wB.heap.size O k t ns nvv its iv wB wr)) (fun v17 _ => m - (intOf v17).toNat)
    case atStart => exact ⟨0, [], _, Nat.zero_le _, rfl, rfl, HL0.out⟩
    case round =>
      clear HL0 c3
      obtain ⟨i, its, iv, hi, rfl, HT, HL1⟩ := hrel
      have hO1 := HL1.out.hO
      have hO2 := lt_of_heap HL1.out.v
      have HBz : wB.heap.size ≤ wr.heap.size := HL1.out.bl.size
      by_cases h : i < m
      · have g1 : (i : Int) < m := by omega
        have g0 : (0 : Int) ≤ i := by omega
        have hx : i < xs.length := by have h9 : xs.length = m := HM.out; omega
        rcases HI.out with rfl | ⟨b, o, rfl, _, hL⟩
        · simp at hx
        obtain ⟨yn, yi, d0, d1, d2, d3, hX⟩ := Js.LAt.get xs b o i hx hL
        obtain ⟨yp, yc, yq, yd, rfl, rfl, -, -⟩ := hX.shape
        have hBr := HBw.out.trans (HL1.out.bl.mono HBw.out.size)
        replace d0 := cell_later hBr d0 (Nat.le_refl _)
        replace d1 := cell_later hBr d1 (Nat.le_refl _)
        replace d2 := cell_later hBr d2 (Nat.le_refl _)
        replace d3 := cell_later hBr d3 (Nat.le_refl _)
        have HC0 := Lib.hid (fun w' (hw : Below wB.heap.size wB w') => HH.out xs[i] (by have h8 : 1 + Js.cntL xs ≤ N + 1 := HV.out; have h9 := Js.cntL_part xs i hx; omega) (by omega) (Js.szL_get xs i hx HZ.out) S w' _ _ (hX.later (HBw.out.trans (hw.mono HBw.out.size))))
        have htk : xs.take (i + 1) = xs.take i ++ [xs[i]] := List.take_succ_eq_append_getElem hx
        obtain ⟨y, hy⟩ : ∃ y, xs[i] = y := ⟨_, rfl⟩
        rw [hy] at d0 d1 d2 d3 HC0 htk
        have hl1 : its.length = i := by have h8 := congrArg List.length HT.out; rw [List.length_map, List.length_take] at h8; omega
        have HTK := Lib.hid htk
        obtain ⟨C, hC⟩ : ∃ C : Array Value, C = #[.int .u8 y.kind, .string y.text, .slice yp y.names.length yc, .slice yq y.items.length yd] := ⟨_, rfl⟩
        obtain ⟨W6, hW6⟩ : ∃ W6, wr.alloc (.cells #[.int .u8 y.kind, .string y.text, .slice yp y.names.length yc, .slice yq y.items.length yd] 27) = W6 := ⟨_, rfl⟩
        have HXc : Hid (W6.heap[wr.heap.size]? = some (.cells C 27)) := by subst hW6 hC; exact alloc_new _ _
        have HL : Hid (Js.CI Js.iR wB.heap.size O k t ns nvv its iv wB W6) := by subst hW6; exact HL1.out.later (Rj.bel1 _ _) HBz
        have HBz6 : wB.heap.size ≤ W6.heap.size := HL.out.bl.size
        have HW6 := Lib.hid hW6
        have HC : Hid (∀ w', Below wB.heap.size wB w' → Calls Tryd.prog 69 #[.agg C] w' (Js.Made y w')) := by subst hC; exact HC0.out
        have HCe := Lib.hid hC
        clear hW6 hX hL hx hy htk hBr HC0 HL1 hC
        go_upto_region 5 with fail
        rw [show wr.alloc (.cells #[.int .u8 y.kind, .string y.text, .slice yp y.names.length yc, .slice yq y.items.length yd] 27) = W6 from HW6.out]
        clear HW6
        refine wp_region_inv (by kernel_rfl) (by kernel_rfl) (fun a0 d a w' => ∃ t21 t22 t23 t24 t25 t26 t27 : Value, a = (((((((a0.put (some 21) t21).put (some 22) t22).put (some 23) t23).put (some 24) t24).put (some 25) t25).put (some 26) t26).put (some 27) t27) ∧ Js.CR Js.iR wB.heap.size O k t ns nvv its iv wB wr.heap.size C y d t21 t22 t23 t24 t25 t26 t27 w') ?h0 ?hs ?he
        case h0 => exact ⟨u21, u22, u23, u24, u25, u26, u27, (by go_frame), Js.CR.start (HL.out.later (below_drewN (Below.refl _ _) 1) HBz6) (by exact HXc.out)⟩
        case hs =>
          refine ⟨?_, ?_, ?_, ?_, ?_, ?_, ?_, ?_, trivial⟩
          · rintro d a w' hd hdep ⟨t21, t22, t23, t24, t25, t26, t27, rfl, h⟩ K hK
            rw [if_pos (by rfl)]
            go_frame
            go_simp
            exact hK _ _ ⟨.pointer (some ⟨O, 3, none⟩), _, _, _, _, _, _, (by go_frame), h.s0 rfl⟩
          · rintro d a w' hd hdep ⟨t21, t22, t23, t24, t25, t26, t27, rfl, h⟩ K hK
            rw [if_pos (by rfl)]
            go_frame
            obtain rfl := h.f0 (hdep 0 (by decide))
            have hc5 : d 5 = false := by cases h5 : d 5 with | false => rfl | true => exact absurd (h.ord h5) (by rw [hd]; decide)
            have hv := h.cell hc5
            have hc : w'.cell? ⟨O, 3, none⟩ = some iv := by rw [Lib.cell_of_heap hv]; rfl
            go_simp
            exact hK _ _ ⟨_, iv, _, _, _, _, _, (by go_frame), h.s1 rfl⟩
          · rintro d a w' hd hdep ⟨t21, t22, t23, t24, t25, t26, t27, rfl, h⟩ K hK
            rw [if_pos (by rfl)]
            go_frame
            have hc3 : d 3 = false := by cases h3 : d 3 with | false => rfl | true => exact absurd (h.ord2 h3) (by rw [hd]; decide)
            obtain ⟨-, -, -, -, hX⟩ := h.at3 hc3
            obtain rfl : C = _ := HCe.out
            have q0 : w'.cell? ⟨wr.heap.size, 0, none⟩ = some (.int .u8 y.kind) := by rw [Lib.cell_of_heap hX]; rfl
            have q1 : w'.cell? ⟨wr.heap.size, 1, none⟩ = some (.string y.text) := by rw [Lib.cell_of_heap hX]; rfl
            have q2 : w'.cell? ⟨wr.heap.size, 2, none⟩ = some (.slice yp y.names.length yc) := by rw [Lib.cell_of_heap hX]; rfl
            have q3 : w'.cell? ⟨wr.heap.size, 3, none⟩ = some (.slice yq y.items.length yd) := by rw [Lib.cell_of_heap hX]; rfl
            go_simp
            exact hK _ _ ⟨_, _, .agg #[.int .u8 y.kind, .string y.text, .slice yp y.names.length yc, .slice yq y.items.length yd], _, _, _, _, (by go_frame), h.s2 rfl⟩
          · rintro d a w' hd hdep ⟨t21, t22, t23, t24, t25, t26, t27, rfl, h⟩ K hK
            rw [if_pos (by rfl)]
            go_frame
            have h2 := hdep 2 (by decide)
            obtain rfl := h.f2 h2
            obtain ⟨-, -, -, hL, -⟩ := h.at3 hd
            go_simp
            refine (HC.out w' hL.bl).mono ?_
            rintro e w2 ⟨i, hi0, rfl, b2, hv2⟩
            have hi := Lib.hid hi0
            clear hi0
            go_simp
            exact hK _ _ ⟨_, _, _, .agg #[.int .u8 i.x.kind, .string i.x.text, i.nv, i.iv], _, _, _, (by go_frame), h.s3 h2 hd ⟨i, hi.out, rfl, hL.later b2 (by have := lt_of_heap hL.v; have := hL.hO; omega), (hL.later b2 (by have := lt_of_heap hL.v; have := hL.hO; omega)).item' hL hv2⟩⟩
          · rintro d a w' hd hdep ⟨t21, t22, t23, t24, t25, t26, t27, rfl, h⟩ K hK
            rw [if_pos (by rfl)]
            go_frame
            have h3 := hdep 3 (by decide)
            obtain ⟨-, -, i, hi0, rfl, hL, hv⟩ := h.at4 h3 hd
            have hi := Lib.hid hi0
            clear hi0
            have kA : ∀ o, Below w'.heap.size w' (w'.alloc o) := fun o => Rj.bel1 w' o
            have hz : wB.heap.size ≤ w'.heap.size := by have := lt_of_heap hL.v; have := hL.hO; omega
            go_simp
            exact hK _ _ ⟨_, _, _, _, .slice (some ⟨w'.heap.size, 0, none⟩) 1 1, _, _, (by go_frame), h.s4 h3 hd ⟨i, w'.heap.size, 1, hi.out, rfl, alloc_new _ _, hL.later (kA _) hz, Js.VAt.move ⟨fun q _ hl => (kA _).block q hl, fun _ hq _ => hq⟩ _ _ _ hv⟩⟩
          · rintro d a w' hd hdep ⟨t21, t22, t23, t24, t25, t26, t27, rfl, h⟩ K hK
            rw [if_pos (by rfl)]
            go_frame
            have h1 := hdep 1 (by decide)
            have h3 := hdep 3 (by decide)
            have h4 := hdep 4 (by decide)
            obtain rfl := h.f1 h1
            obtain ⟨-, i, G, c, hi0, rfl, hG, hL, hv⟩ := h.at5 h3 h4 hd
            have hi := Lib.hid hi0
            clear hi0
            have hz : wB.heap.size ≤ w'.heap.size := by have := lt_of_heap hL.v; have := hL.hO; omega
            refine wp_pushN Js.iOk 25 Tryd.underlying25 (.tmp 22) (.tmp 25) (by rfl) wB.heap.size t22 its (by simp [Act.eval]) hL.hits i _ rfl G c (by simp [Act.eval]) hG (by omega) hz ?_
            intro g cap w2 hown hgrow hfresh
            exact hK _ _ ⟨_, _, _, _, _, _, _, (by go_frame), h.s5 h1 h3 h4 hd ⟨i, _, _, _, hi.out, rfl, (hgrow.block _ (lt_of_heap hL.v) (fun e => hL.ne e.symm)).trans hL.v, hL.push i hv hown hgrow hfresh⟩⟩
          · rintro d a w' hd hdep ⟨t21, t22, t23, t24, t25, t26, t27, rfl, h⟩ K hK
            rw [if_pos (by rfl)]
            go_frame
            go_simp
            exact hK _ _ ⟨_, _, _, _, _, _, .pointer (some ⟨O, 3, none⟩), (by go_frame), h.s6 rfl⟩
          · rintro d a w' hd hdep ⟨t21, t22, t23, t24, t25, t26, t27, rfl, h⟩ K hK
            rw [if_pos (by rfl)]
            go_frame
            have h5 := hdep 5 (by decide)
            obtain rfl := h.f6 (hdep 6 (by decide))
            obtain ⟨-, -, i, q, m9, c, hi0, rfl, hv, hL⟩ := h.at7 h5 hd
            have hi := Lib.hid hi0
            clear hi0
            have hc : w'.cell? ⟨O, 3, none⟩ = some iv := by rw [Lib.cell_of_heap hv]; rfl
            have hf := Lib.frozen_of_heap hv 3
            go_simp
            exact hK _ _ ⟨_, _, _, _, _, _, _, (by go_frame), h.s7 h5 hd ⟨i, _, hi.out, hL⟩⟩
        case he =>
          rintro a0 w5 ⟨t21, t22, t23, t24, t25, t26, t27, rfl, h⟩
          obtain ⟨i5, iv2, hi5, hL⟩ := h.fin
          go_frame
          clear h
          have hT2 : (its ++ [i5]).map Js.It.x = xs.take (i + 1) := by
            rw [List.map_append, show its.map Js.It.x = _ from HT.out, show xs.take (i + 1) = _ from HTK.out, ← hi5]; rfl
          have HT3 := Lib.hid hT2
          have HL3 := Lib.hid hL
          clear hT2 hL
          go_wp2_with fail
          go_roundw
          case rel => exact ⟨i + 1, its ++ [i5], iv2, by omega, by go_num, HT3.out, HL3.out⟩
          case measure => simp [intOf]; omega
      · obtain rfl : i = m := by omega
        have g1 : ¬ (i : Int) < i := by omega
        obtain ⟨j, hj, hjn, hji, hjv⟩ := HL1.out.done Js.iOk rfl rfl
        have hits : its.map Js.It.x = xs := HT.out.trans (List.take_of_length_le (by have h9 : xs.length = i := HM.out; omega))
        have l0 : wr.cell? ⟨O, 0, none⟩ = some (.int .u8 k) := by rw [Lib.cell_of_heap HL1.out.v]; rfl
        have l1 : wr.cell? ⟨O, 1, none⟩ = some (.string t) := by rw [Lib.cell_of_heap HL1.out.v]; rfl
        have l2 : wr.cell? ⟨O, 2, none⟩ = some nvv := by rw [Lib.cell_of_heap HL1.out.v]; rfl
        have l3 : wr.cell? ⟨O, 3, none⟩ = some iv := by rw [Lib.cell_of_heap HL1.out.v]; rfl
        have HR2 := Lib.hid ((HL1.out.bl.block _ (lt_of_heap HRc.out)).trans HRc.out)
        have m0 : wr.cell? ⟨w.heap.size + 1, 0, none⟩ = some (.int .u8 0) := by rw [Lib.cell_of_heap HR2.out]; rfl
        have m1 : wr.cell? ⟨w.heap.size + 1, 1, none⟩ = some (.string ⟨#[]⟩) := by rw [Lib.cell_of_heap HR2.out]; rfl
        have m2 : wr.cell? ⟨w.heap.size + 1, 2, none⟩ = some (.slice none 0 0) := by rw [Lib.cell_of_heap HR2.out]; rfl
        have m3 : wr.cell? ⟨w.heap.size + 1, 3, none⟩ = some (.slice none 0 0) := by rw [Lib.cell_of_heap HR2.out]; rfl
        have g2 := Lib.frozen_of_heap HR2.out 0
        have g3 := Lib.frozen_of_heap HR2.out 1
        have g4 := Lib.frozen_of_heap HR2.out 2
        have g5 := Lib.frozen_of_heap HR2.out 3
        obtain ⟨jx, jn, ji⟩ := j
        have hjn' : nvv = .slice jn.1 jn.2.1 jn.2.2 := hjn.symm
        have hji' : iv = .slice ji.1 ji.2.1 ji.2.2 := hji.symm
        subst hjn' hji'
        have HJ := Lib.hid hj
        have HJv := Lib.hid hjv
        have HIT := Lib.hid hits
        clear hj hjv hits hjn hji
        go_wp2_with fail
        refine Js.ret_store rfl rfl HR2.out rfl fun w' kw => ?_
        have hx2 : jx = .mk k t ns xs := by have h8 : jx = _ := HJ.out; rw [h8, show its.map Js.It.x = xs from HIT.out]
        subst hx2
        refine ⟨⟨.mk k t ns xs, jn, ji⟩, rfl, rfl, ?_, ?_⟩
        · exact HBw.out.trans ((HL1.out.bl.mono HBw.out.size).trans (kw.below (by omega) (by omega)))
        · exact Js.VAt.move ⟨fun q hq hl => kw.block q hl (by have := hq; omega), fun q hq _ => by have := hq; omega⟩ _ _ _ HJv.out
end Go.Proofs.YtmmijebekipdeaaDoor
