/- Contracts of the reader: word, digit. -/
import Derived.Test.YtmmijebekipdeaaDoorJsA
import Derived.Lib.OthersKept
import Derived.Laws.BitsLemmas
namespace Go.Proofs.YtmmijebekipdeaaDoor
open Go.RowKit
set_option maxRecDepth 100000

/-- a call's result: it goes on, or stops the reading -/
def Js.Res {α : Type} (R : Nat) (w : World) (x : Js.R α) (good : α → Ending → World → Prop) (e : Ending) (w' : World) : Prop :=
  match x with
  | .ok a => good a e w'
  | .error p => Js.Stops R p w e w'
theorem Js.Res.ok {α : Type} {R : Nat} {w : World} {x : Js.R α} {good : α → Ending → World → Prop} {e : Ending} {w' : World} (a : α) (h : x = .ok a) (g : good a e w') : Js.Res R w x good e w' := by subst h; exact g
theorem Js.Res.bad {α : Type} {R : Nat} {w : World} {x : Js.R α} {good : α → Ending → World → Prop} {e : Ending} {w' : World} (p : Nat × Nat) (h : x = .error p) (g : Js.Stops R p w e w') : Js.Res R w x good e w' := by subst h; exact g

theorem Js.ix_one' (x c : UInt8) : decide (0 ≤ Lib.indexByte [x] c) = decide (c = x) := by
  by_cases h : c = x
  · subst h; simp [Lib.indexByte]
  · have h2 : ¬ x = c := fun e => h e.symm
    simp [Lib.indexByte, h, h2]
theorem Js.hexd_cases (c d : Nat) (h : Js.hexd c = some d) : (48 ≤ c ∧ c ≤ 57 ∧ d = c - 48) ∨ (97 ≤ c ∧ c ≤ 102 ∧ d = c - 87) ∨ (65 ≤ c ∧ c ≤ 70 ∧ d = c - 55) := by
  unfold Js.hexd at h
  split at h
  · simp at h; omega
  · split at h
    · simp at h; omega
    · split at h
      · simp at h; omega
      · simp at h
theorem Js.hexd_lt (c d : Nat) (h : Js.hexd c = some d) : d < 16 := by
  have := Js.hexd_cases c d h; omega

set_option maxHeartbeats 1000000 in
theorem Js.digit_is (c d : Nat) (w : World) (h : Js.hexd c = some d) :
    Calls Tryd.prog 114 #[.int .u8 c] w fun e w' => e = .returned (.int .i32 d) ∧ w = w' := by
  rcases Js.hexd_cases c d h with ⟨h1, h2, rfl⟩ | ⟨h1, h2, rfl⟩ | ⟨h1, h2, rfl⟩
  · clear h
    obtain ⟨n, rfl⟩ : ∃ n, c = n + 48 := ⟨c - 48, by omega⟩
    have b1 : decide (((n + 48 : Nat) : Int) ≤ 57) = true := decide_eq_true (by omega)
    go_enter Tryd.func114, Tryd.ntmps114
    go_wp2
    go_ret
    exact ⟨by go_num, rfl⟩
  · clear h
    obtain ⟨n, rfl⟩ : ∃ n, c = n + 97 := ⟨c - 97, by omega⟩
    have b1 : decide (((n + 97 : Nat) : Int) ≤ 57) = false := decide_eq_false (by omega)
    have b2 : decide ((97 : Int) ≤ ((n + 97 : Nat) : Int)) = true := decide_eq_true (by omega)
    go_enter Tryd.func114, Tryd.ntmps114
    go_wp2
    go_ret
    exact ⟨by go_num, rfl⟩
  · clear h
    obtain ⟨n, rfl⟩ : ∃ n, c = n + 65 := ⟨c - 65, by omega⟩
    have b1 : decide (((n + 65 : Nat) : Int) ≤ 57) = false := decide_eq_false (by omega)
    have b2 : decide ((97 : Int) ≤ ((n + 65 : Nat) : Int)) = false := decide_eq_false (by omega)
    go_enter Tryd.func114, Tryd.ntmps114
    go_wp2
    go_ret
    exact ⟨by go_num, rfl⟩

theorem Js.ext_one (t : ByteArray) (i : Nat) (h : i < t.size) : t.extract i (i + 1) = ⟨#[t[i]]⟩ := by
  have hz : (t.extract i (i + 1)).size = 1 := by rw [ByteArray.size_extract]; omega
  apply ByteArray.ext
  apply Array.ext
  · exact hz
  · intro j h1 h2
    have hj : j = 0 := by simpa using h2
    subst hj
    simp [ByteArray.data_extract]
    rfl
theorem Js.drop_bytes (t : ByteArray) (i : Nat) (h : i < t.size) : (t.data.toList.map UInt8.toNat).drop i = t[i].toNat :: (t.data.toList.map UInt8.toNat).drop (i + 1) := by
  have hl : i < (t.data.toList.map UInt8.toNat).length := by simpa using h
  rw [List.drop_eq_getElem_cons hl]
  simp
  rfl
theorem Kp.iter {R : Nat} {a w : World} (h : Kp R a w) {k : Nat} (hk : a.heap.size ≤ k) (s : ByteArray) (pos : Nat) : Kp R a (w.iterAt k s pos) :=
  h.then (Lib.below_iterAt (B := a.heap.size) (Below.refl _ _) hk s pos) (Nat.le_refl _)
/-- a function's result that lies in a block of its own -/
theorem Js.ret_cell {fn : Func} {Q : Ending → World → Prop} {a : Act} {w : World} {V n : Nat} {x0 x1 x2 x3 : Value} (hres : fn.results = #[.cell n 27]) (ht : a.tmps[n]? = some (.pointer (some ⟨V, 0, none⟩)))
    (hh : w.heap[V]? = some (.cells #[x0, x1, x2, x3] 27)) (hd : a.defers = []) (h : Q (.returned (.agg #[x0, x1, x2, x3])) w) : bodyPost Tryd.prog fn Q .ret a w := by
  have c0 : w.cell? ⟨V, 0, none⟩ = some x0 := by rw [Lib.cell_of_heap hh]; rfl
  have c1 : w.cell? ⟨V, 1, none⟩ = some x1 := by rw [Lib.cell_of_heap hh]; rfl
  have c2 : w.cell? ⟨V, 2, none⟩ = some x2 := by rw [Lib.cell_of_heap hh]; rfl
  have c3 : w.cell? ⟨V, 3, none⟩ = some x3 := by rw [Lib.cell_of_heap hh]; rfl
  refine bodyPost_ret (v := .agg #[x0, x1, x2, x3]) ?_ hd h
  simp [results, hres, ht, go_sem, c0, c1, c2, c3]
/-- a value that is a word -/
abbrev Js.wordV (kind : Nat) : Value := .agg #[.int .u8 kind, .string ⟨#[]⟩, .slice none 0 0, .slice none 0 0]

set_option maxHeartbeats 2000000 in
theorem Js.word_is (t : ByteArray) (kind : Nat) (R : Nat) (s : ByteArray) (k o b : Nat) (w : World) (hR : w.heap[R]? = some (Js.obj s k o b)) (hk : k ≤ s.size) (hs : s.size ≤ 1000000)
    (ht : t.size ≤ 5) (ha : ∀ i (h : i < t.size), (t[i]).toNat < 128 ∧ (t[i]).toNat ≠ 0) :
    Calls Tryd.prog 84 #[.pointer (some ⟨R, 0, none⟩), .string t, .int .u8 kind] w
      (Js.Res R w (Js.wd s (t.data.toList.map UInt8.toNat) k) fun j => Js.Goes R s j o b (Js.wordV kind) w) := by
  obtain ⟨X, hX⟩ : ∃ X, Js.wd s (t.data.toList.map UInt8.toNat) k = X := ⟨_, rfl⟩
  rw [hX]
  have HX := Lib.hid hX
  have HR := Lib.hid hR
  have HRW := lt_of_heap hR
  clear hR hX
  go_enter Tryd.func84, Tryd.ntmps84
  go_wp2
  go_loopg [] (t.size + 1) (fun gk wr => ∃ i : Nat, i ≤ t.size ∧ t.size < gk + i ∧ k + i ≤ s.size ∧ Hid (Js.wd s ((t.data.toList.map UInt8.toNat).drop i) (k + i) = X) ∧
    Hid (wr.heap[w.heap.size + 1]? = some (.stringIter t i)) ∧ Hid (wr.heap[w.heap.size]? = some (.cells #[.int .u8 0, .string ⟨#[]⟩, .slice none 0 0, .slice none 0 0] 27)) ∧ Hid (wr.heap[R]? = some (Js.obj s (k + i) o b)) ∧ Hid (Kp R w wr))
  case atStart =>
    have hI := World.iter_heap (w.alloc (.cells #[.int .u8 0, .string ⟨#[]⟩, .slice none 0 0, .slice none 0 0] 27)) t 0
    simp only [World.size_alloc] at hI
    refine ⟨0, Nat.zero_le _, by omega, hk, HX.out, hI, ?_, ?_, ?_⟩
    · exact ((Below.refl (w.heap.size + 1) (w.alloc (.cells #[.int .u8 0, .string ⟨#[]⟩, .slice none 0 0, .slice none 0 0] 27))).alloc (by simp) _).block _ (by omega) |>.trans (alloc_new _ _)
    · exact ((((Below.refl w.heap.size w).alloc (Nat.le_refl _) _).alloc (by simp) _).block _ HRW).trans HR.out
    · exact Kp.of (((Below.refl w.heap.size w).alloc (Nat.le_refl _) _).alloc (by simp) _) (Nat.le_refl _)
  case round =>
    clear HR HX
    obtain ⟨i, hi, hg, hki, HX, HI, HV, HR, HP⟩ := hrel
    have hlI := (Array.getElem?_eq_some_iff.1 HI.out).1
    by_cases h : i < t.size
    · have hnx : ∀ ty, (Instr.next (.pointer (some ⟨w.heap.size + 1, 0, none⟩)) true ty).run Tryd.prog wr = _ := fun ty => Lib.run_next_ascii_at wr (w.heap.size + 1) t i ty HI.out h (ha i h).1
      obtain ⟨g', rfl⟩ : ∃ g', gk = g' + 1 := ⟨gk - 1, by omega⟩
      have HX2 : Hid (Js.wd s ((t.data.toList.map UInt8.toNat).drop i) (k + i) = X) := HX.out
      rw [Js.drop_bytes t i h, Js.wd] at HX2
      have HE := Lib.hid (Js.ext_one t i h)
      have hI2 := Lib.hid (Lib.iterAt_heap wr (w.heap.size + 1) t i (i + 1) HI.out)
      have hV2 := Lib.hid ((Lib.iterAt_other wr (w.heap.size + 1) w.heap.size t (i + 1) (by omega)).trans HV.out)
      have hR2 := Lib.hid ((Lib.iterAt_other wr (w.heap.size + 1) R t (i + 1) (by omega)).trans HR.out)
      have hP2 := Lib.hid (HP.out.iter (k := w.heap.size + 1) (by omega) t (i + 1))
      have hai := ha i h
      by_cases hc : Js.nx s (k + i) = t[i].toNat
      · have hks : k + i < s.size := Nat.lt_of_not_le fun hh => by rw [Js.nx_end s _ hh] at hc; omega
        rw [if_pos hc] at HX2
        have HW := Lib.hid (fun w' (h1 : w'.heap[R]? = some (Js.obj s (k + i) o b)) => Js.want_ok ⟨#[t[i]]⟩ R s (k + i) o b w' h1 hks hs (by omega) (by
          rw [hc, UInt8.ofNat_toNat]; show decide (0 ≤ Lib.indexByte [t[i]] t[i]) = true; rw [Js.ix_one']; simp))
        clear hc
        go_wp2_with (go_at_call 106; rw [HE.out]; refine (HW.out _ hR2.out).mono ?_)
        rintro e w1 ⟨rfl, h1, h2⟩
        go_wp2
        go_roundg g'
        case measure => omega
        case rel => exact ⟨i + 1, by omega, by omega, by omega, HX2.out, (h2.block _ (by rw [Lib.iterAt_size]; omega) (by omega)).trans hI2.out, (h2.block _ (by rw [Lib.iterAt_size]; omega) (by omega)).trans hV2.out, h1, hP2.out.trans h2⟩
      · rw [if_neg hc] at HX2
        have HW := Lib.hid (fun w' (h1 : w'.heap[R]? = some (Js.obj s (k + i) o b)) => Js.want_bad ⟨#[t[i]]⟩ R s (k + i) o b w' h1 hki (fun _ => by
          show decide (0 ≤ Lib.indexByte [t[i]] _) = false
          rw [Js.ix_one']
          refine decide_eq_false fun e => hc ?_
          rw [← e, UInt8.toNat_ofNat', Nat.mod_eq_of_lt (Js.nx_lt s _)]))
        clear hc
        go_wp2_with (go_at_call 106; rw [HE.out]; refine (HW.out _ hR2.out).mono ?_)
        rintro e w1 ⟨rfl, h2⟩
        go_wp2
        exact bodyPost_stop rfl (Js.Res.bad _ HX2.out.symm ⟨rfl, hP2.out.trans h2⟩)
    · have hnx : ∀ ty, (Instr.next (.pointer (some ⟨w.heap.size + 1, 0, none⟩)) true ty).run Tryd.prog wr = _ := fun ty => Lib.run_next_end_at wr (w.heap.size + 1) t i ty HI.out h
      have hz : Hid (X = .ok (k + i)) := by
        show X = .ok (k + i)
        have := HX.out
        rw [List.drop_eq_nil_of_le (by simp; omega)] at this
        exact this.symm
      have c0 : wr.cell? ⟨w.heap.size, 0, none⟩ = some (.int .u8 0) := by rw [Lib.cell_of_heap HV.out]; rfl
      have c1 : wr.cell? ⟨w.heap.size, 1, none⟩ = some (.string ⟨#[]⟩) := by rw [Lib.cell_of_heap HV.out]; rfl
      have c2 : wr.cell? ⟨w.heap.size, 2, none⟩ = some (.slice none 0 0) := by rw [Lib.cell_of_heap HV.out]; rfl
      have c3 : wr.cell? ⟨w.heap.size, 3, none⟩ = some (.slice none 0 0) := by rw [Lib.cell_of_heap HV.out]; rfl
      have f0 : wr.frozen? ⟨w.heap.size, 0, none⟩ = false := Lib.frozen_of_heap HV.out 0
      have f1 : wr.frozen? ⟨w.heap.size, 1, none⟩ = false := Lib.frozen_of_heap HV.out 1
      have f2 : wr.frozen? ⟨w.heap.size, 2, none⟩ = false := Lib.frozen_of_heap HV.out 2
      have f3 : wr.frozen? ⟨w.heap.size, 3, none⟩ = false := Lib.frozen_of_heap HV.out 3
      go_wp2
      have k0 := heap_setCell_same _ w.heap.size 0 _ _ (.int .u8 kind) HV.out
      have k1 := heap_setCell_same _ w.heap.size 1 _ _ (.string ⟨#[]⟩) k0
      have k2 := heap_setCell_same _ w.heap.size 2 _ _ (.slice none 0 0) k1
      have k3 := heap_setCell_same _ w.heap.size 3 _ _ (.slice none 0 0) k2
      refine Js.ret_cell rfl rfl k3 rfl (Js.Res.ok _ hz.out ⟨rfl, ?_, ?_⟩)
      · have hne : R ≠ w.heap.size := by omega
        rw [Below.heap_setCell _ ⟨w.heap.size, 3, none⟩ _ R hne, Below.heap_setCell _ ⟨w.heap.size, 2, none⟩ _ R hne, Below.heap_setCell _ ⟨w.heap.size, 1, none⟩ _ R hne, Below.heap_setCell _ ⟨w.heap.size, 0, none⟩ _ R hne]
        exact HR.out
      · exact HP.out.then (((((Below.refl w.heap.size _).setCell (p := ⟨w.heap.size, 0, none⟩) (Nat.le_refl _) _).setCell (p := ⟨w.heap.size, 1, none⟩) (Nat.le_refl _) _).setCell (p := ⟨w.heap.size, 2, none⟩) (Nat.le_refl _) _).setCell (p := ⟨w.heap.size, 3, none⟩) (Nat.le_refl _) _) (Nat.le_refl _)
end Go.Proofs.YtmmijebekipdeaaDoor
