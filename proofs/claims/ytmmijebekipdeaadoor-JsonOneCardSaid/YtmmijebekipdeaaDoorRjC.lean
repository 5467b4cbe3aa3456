/- The reference of chapter 14: wrong, space, is, hex, UTF8. -/
import Derived.Test.YtmmijebekipdeaaDoorJsD
import Derived.Deep.DeepCutAuto
namespace Go.Proofs.YtmmijebekipdeaaDoor
open Go.RowKit
set_option maxRecDepth 100000
set_option linter.unusedVariables false

/-- the block of a state: where, how many are open, how many have begun, what is wrong -/
abbrev Rj.stO (k o b e : Nat) : Obj := .cells #[.int .i64 k, .int .i64 o, .int .i64 b, .int .i64 e] 112
theorem Rj.ret_st {fn : Func} {Q : Ending → World → Prop} {a : Act} {w : World} {V n : Nat} {x0 x1 x2 x3 : Value} (hres : fn.results = #[.cell n 112]) (ht : a.tmps[n]? = some (.pointer (some ⟨V, 0, none⟩)))
    (hh : w.heap[V]? = some (.cells #[x0, x1, x2, x3] 112)) (hd : a.defers = []) (h : Q (.returned (.agg #[x0, x1, x2, x3])) w) : bodyPost Tryd.prog fn Q .ret a w := by
  have c0 : w.cell? ⟨V, 0, none⟩ = some x0 := by rw [Lib.cell_of_heap hh]; rfl
  have c1 : w.cell? ⟨V, 1, none⟩ = some x1 := by rw [Lib.cell_of_heap hh]; rfl
  have c2 : w.cell? ⟨V, 2, none⟩ = some x2 := by rw [Lib.cell_of_heap hh]; rfl
  have c3 : w.cell? ⟨V, 3, none⟩ = some x3 := by rw [Lib.cell_of_heap hh]; rfl
  refine bodyPost_ret (v := .agg #[x0, x1, x2, x3]) ?_ hd h
  simp [results, hres, ht, go_sem, c0, c1, c2, c3]
theorem Rj.ret_ts {fn : Func} {Q : Ending → World → Prop} {a : Act} {w : World} {V n m : Nat} {v x0 x1 x2 x3 : Value} (hres : fn.results = #[.tmp m, .cell n 112]) (hm : a.tmps[m]? = some v) (ht : a.tmps[n]? = some (.pointer (some ⟨V, 0, none⟩)))
    (hh : w.heap[V]? = some (.cells #[x0, x1, x2, x3] 112)) (hd : a.defers = []) (h : Q (.returned (.tuple #[v, .agg #[x0, x1, x2, x3]])) w) : bodyPost Tryd.prog fn Q .ret a w := by
  have c0 : w.cell? ⟨V, 0, none⟩ = some x0 := by rw [Lib.cell_of_heap hh]; rfl
  have c1 : w.cell? ⟨V, 1, none⟩ = some x1 := by rw [Lib.cell_of_heap hh]; rfl
  have c2 : w.cell? ⟨V, 2, none⟩ = some x2 := by rw [Lib.cell_of_heap hh]; rfl
  have c3 : w.cell? ⟨V, 3, none⟩ = some x3 := by rw [Lib.cell_of_heap hh]; rfl
  refine bodyPost_ret (v := .tuple #[v, .agg #[x0, x1, x2, x3]]) ?_ hd h
  simp [results, hres, ht, hm, go_sem, c0, c1, c2, c3]
theorem Rj.ret_vs {fn : Func} {Q : Ending → World → Prop} {a : Act} {w : World} {U V n m : Nat} {y0 y1 y2 y3 x0 x1 x2 x3 : Value} (hres : fn.results = #[.cell m 68, .cell n 112])
    (hm : a.tmps[m]? = some (.pointer (some ⟨U, 0, none⟩))) (ht : a.tmps[n]? = some (.pointer (some ⟨V, 0, none⟩))) (hu : w.heap[U]? = some (.cells #[y0, y1, y2, y3] 68))
    (hh : w.heap[V]? = some (.cells #[x0, x1, x2, x3] 112)) (hd : a.defers = []) (h : Q (.returned (.tuple #[.agg #[y0, y1, y2, y3], .agg #[x0, x1, x2, x3]])) w) : bodyPost Tryd.prog fn Q .ret a w := by
  have c0 : w.cell? ⟨V, 0, none⟩ = some x0 := by rw [Lib.cell_of_heap hh]; rfl
  have c1 : w.cell? ⟨V, 1, none⟩ = some x1 := by rw [Lib.cell_of_heap hh]; rfl
  have c2 : w.cell? ⟨V, 2, none⟩ = some x2 := by rw [Lib.cell_of_heap hh]; rfl
  have c3 : w.cell? ⟨V, 3, none⟩ = some x3 := by rw [Lib.cell_of_heap hh]; rfl
  have d0 : w.cell? ⟨U, 0, none⟩ = some y0 := by rw [Lib.cell_of_heap hu]; rfl
  have d1 : w.cell? ⟨U, 1, none⟩ = some y1 := by rw [Lib.cell_of_heap hu]; rfl
  have d2 : w.cell? ⟨U, 2, none⟩ = some y2 := by rw [Lib.cell_of_heap hu]; rfl
  have d3 : w.cell? ⟨U, 3, none⟩ = some y3 := by rw [Lib.cell_of_heap hu]; rfl
  refine bodyPost_ret (v := .tuple #[.agg #[y0, y1, y2, y3], .agg #[x0, x1, x2, x3]]) ?_ hd h
  simp [results, hres, ht, hm, go_sem, c0, c1, c2, c3, d0, d1, d2, d3]
theorem Rj.bel2 (w : World) (o p : Obj) : Below w.heap.size w ((w.alloc o).alloc p) := ((Below.refl _ w).alloc (Nat.le_refl _) o).alloc (by simp) p
theorem Rj.new2 (w : World) (o p : Obj) : ((w.alloc o).alloc p).heap[w.heap.size + 1]? = some p := by simpa using alloc_new (w.alloc o) p

set_option maxHeartbeats 1000000 in
theorem Rj.wrong_is (s : ByteArray) (k o b e E : Nat) (w : World) (hE : E = if k = s.size then 144 else 143) :
    Calls Tryd.prog 73 #[.string s, .agg #[.int .i64 k, .int .i64 o, .int .i64 b, .int .i64 e]] w fun r w' => r = .returned (.agg #[.int .i64 k, .int .i64 o, .int .i64 b, .int .i64 E]) ∧ Below w.heap.size w w' := by
  have HE := Lib.hid hE
  clear hE
  by_cases h : k = s.size
  · have HE2 : Hid (E = 144) := by have h9 : E = _ := HE.out; rw [if_pos h] at h9; exact h9
    have b1 : ((k : Int) == (s.size : Int)) = true := Js.beq_t (by omega)
    clear h HE
    go_enter Tryd.func73, Tryd.ntmps73
    go_wp2_with fail
    obtain rfl : E = 144 := HE2.out
    exact Rj.ret_st rfl rfl (Rj.new2 w _ _) rfl ⟨rfl, Rj.bel2 w _ _⟩
  · have HE2 : Hid (E = 143) := by have h9 : E = _ := HE.out; rw [if_neg h] at h9; exact h9
    have b1 : ((k : Int) == (s.size : Int)) = false := Js.beq_f (by omega)
    clear h HE
    go_enter Tryd.func73, Tryd.ntmps73
    go_wp2_with fail
    obtain rfl : E = 143 := HE2.out
    exact Rj.ret_st rfl rfl (Rj.new2 w _ _) rfl ⟨rfl, Rj.bel2 w _ _⟩

theorem Rj.set4 {V : Nat} {y0 y1 y2 y3 : Value} {T : TypeId} {w : World} (h : w.heap[V]? = some (.cells #[y0, y1, y2, y3] T)) (x0 x1 x2 x3 : Value) :
    ((((w.setCell ⟨V, 0, none⟩ x0).setCell ⟨V, 1, none⟩ x1).setCell ⟨V, 2, none⟩ x2).setCell ⟨V, 3, none⟩ x3).heap[V]? = some (.cells #[x0, x1, x2, x3] T) :=
  heap_setCell_same _ V 3 _ _ x3 (heap_setCell_same _ V 2 _ _ x2 (heap_setCell_same _ V 1 _ _ x1 (heap_setCell_same w V 0 _ _ x0 h)))
theorem Rj.bel4 {B V : Nat} {a w : World} (h : Below B a w) (hV : B ≤ V) (x0 x1 x2 x3 : Value) : Below B a ((((w.setCell ⟨V, 0, none⟩ x0).setCell ⟨V, 1, none⟩ x1).setCell ⟨V, 2, none⟩ x2).setCell ⟨V, 3, none⟩ x3) :=
  (((h.setCell (p := ⟨V, 0, none⟩) hV _).setCell (p := ⟨V, 1, none⟩) hV _).setCell (p := ⟨V, 2, none⟩) hV _).setCell (p := ⟨V, 3, none⟩) hV _
theorem Rj.st_set {V : Nat} {k o b e : Nat} {w : World} (h : w.heap[V]? = some (Rj.stO k o b e)) (x : Int) (k' : Nat) (hx : x = k') : (w.setCell ⟨V, 0, none⟩ (.int .i64 x)).heap[V]? = some (Rj.stO k' o b e) := by
  subst hx
  exact heap_setCell_same _ V 0 _ _ _ h
set_option maxHeartbeats 4000000 in
theorem Rj.space_is (s : ByteArray) (k o b e K : Nat) (w : World) (hk : k ≤ s.size) (hs : s.size ≤ 1152921504606846976) (hK : Js.sp s k = K) :
    Calls Tryd.prog 72 #[.string s, .agg #[.int .i64 k, .int .i64 o, .int .i64 b, .int .i64 e]] w fun r w' => r = .returned (.agg #[.int .i64 K, .int .i64 o, .int .i64 b, .int .i64 e]) ∧ Below w.heap.size w w' := by
  have HK := Lib.hid hK
  clear hK
  go_enter Tryd.func72, Tryd.ntmps72
  go_wp2_with fail
  go_loopg [] (s.size + 1) (fun gk wx => ∃ j : Nat, j ≤ s.size ∧ s.size < gk + j ∧ Hid (Js.sp s j = K) ∧ Hid (wx.heap[w.heap.size]? = some (Rj.stO j o b e)) ∧ Hid (∃ y0 y1 y2 y3, wx.heap[w.heap.size + 1]? = some (.cells #[y0, y1, y2, y3] 112)) ∧ Hid (Below w.heap.size w wx))
  case atStart => exact ⟨k, hk, by omega, HK.out, alloc_kept (alloc_new _ _), ⟨_, _, _, _, Rj.new2 w _ _⟩, Rj.bel2 w _ _⟩
  case round =>
    clear HK
    obtain ⟨j, hj, hg, HK, HR, HV, HB⟩ := hrel
    obtain ⟨y0, y1, y2, y3, hV⟩ := HV.out
    have HV := Lib.hid hV
    have c0 : wr.cell? ⟨w.heap.size, 0, none⟩ = some (.int .i64 j) := by rw [Lib.cell_of_heap HR.out]; rfl
    have c1 : wr.cell? ⟨w.heap.size, 1, none⟩ = some (.int .i64 o) := by rw [Lib.cell_of_heap HR.out]; rfl
    have c2 : wr.cell? ⟨w.heap.size, 2, none⟩ = some (.int .i64 b) := by rw [Lib.cell_of_heap HR.out]; rfl
    have c3 : wr.cell? ⟨w.heap.size, 3, none⟩ = some (.int .i64 e) := by rw [Lib.cell_of_heap HR.out]; rfl
    have f0 : wr.frozen? ⟨w.heap.size, 0, none⟩ = false := Lib.frozen_of_heap HR.out 0
    have g0 : wr.frozen? ⟨w.heap.size + 1, 0, none⟩ = false := Lib.frozen_of_heap HV.out 0
    have g1 : wr.frozen? ⟨w.heap.size + 1, 1, none⟩ = false := Lib.frozen_of_heap HV.out 1
    have g2 : wr.frozen? ⟨w.heap.size + 1, 2, none⟩ = false := Lib.frozen_of_heap HV.out 2
    have g3 : wr.frozen? ⟨w.heap.size + 1, 3, none⟩ = false := Lib.frozen_of_heap HV.out 3
    have e0 : wr.cell? ⟨w.heap.size + 1, 0, none⟩ = some y0 := by rw [Lib.cell_of_heap HV.out]; rfl
    have e1 : wr.cell? ⟨w.heap.size + 1, 1, none⟩ = some y1 := by rw [Lib.cell_of_heap HV.out]; rfl
    have e2 : wr.cell? ⟨w.heap.size + 1, 2, none⟩ = some y2 := by rw [Lib.cell_of_heap HV.out]; rfl
    have e3 : wr.cell? ⟨w.heap.size + 1, 3, none⟩ = some y3 := by rw [Lib.cell_of_heap HV.out]; rfl
    clear hV
    by_cases h : j < s.size
    · have h1 : (j : Int) < s.size := by omega
      have h2 : (0 : Int) ≤ j := by omega
      obtain ⟨g', rfl⟩ : ∃ g', gk = g' + 1 := ⟨gk - 1, by omega⟩
      have hc := Js.nx_get s j h
      by_cases hp : Js.isSp (Js.nx s j) = true
      · have HS := Lib.hid (Js.sp_step s j hp)
        have hq : s[j].toNat = 32 ∨ s[j].toNat = 9 ∨ s[j].toNat = 10 ∨ s[j].toNat = 13 := by
          rw [hc, Js.isSp, Bool.or_eq_true, Bool.or_eq_true, Bool.or_eq_true, beq_iff_eq, beq_iff_eq, beq_iff_eq, beq_iff_eq] at hp
          omega
        clear hp hc
        rcases hq with q | q | q | q
        all_goals
          have b1 : ((s[j].toNat : Int) == 32) = decide (s[j].toNat = 32) := by rw [q]; rfl
          have b2 : ((s[j].toNat : Int) == 9) = decide (s[j].toNat = 9) := by rw [q]; rfl
          have b3 : ((s[j].toNat : Int) == 10) = decide (s[j].toNat = 10) := by rw [q]; rfl
          have b4 : ((s[j].toNat : Int) == 13) = decide (s[j].toNat = 13) := by rw [q]; rfl
          rw [q] at b1 b2 b3 b4
          go_wp2_with fail
          go_roundg g'
          case measure => omega
          case rel => exact ⟨j + 1, by omega, by omega, by show Js.sp s (j + 1) = K; rw [← HS.out]; exact HK.out, Rj.st_set HR.out _ _ (by go_num), ⟨_, _, _, _, (Below.heap_setCell _ _ _ _ (by simp)).trans HV.out⟩, HB.out.setCell (p := ⟨w.heap.size, 0, none⟩) (Nat.le_refl _) _⟩
      · have hp0 : Js.isSp (Js.nx s j) = false := by simpa using hp
        have HE : Hid (j = K) := (Js.sp_stop s j hp0).symm.trans HK.out
        rw [hc, Js.isSp, Bool.or_eq_false_iff, Bool.or_eq_false_iff, Bool.or_eq_false_iff, beq_eq_false_iff_ne, beq_eq_false_iff_ne, beq_eq_false_iff_ne, beq_eq_false_iff_ne] at hp0
        have b1 : ((s[j].toNat : Int) == 32) = false := Js.beq_f (by omega)
        have b2 : ((s[j].toNat : Int) == 9) = false := Js.beq_f (by omega)
        have b3 : ((s[j].toNat : Int) == 10) = false := Js.beq_f (by omega)
        have b4 : ((s[j].toNat : Int) == 13) = false := Js.beq_f (by omega)
        clear hp hp0 hc
        go_wp2_with fail
        obtain rfl : j = K := HE.out
        exact Rj.ret_st rfl rfl (Rj.set4 HV.out _ _ _ _) rfl ⟨rfl, Rj.bel4 HB.out (Nat.le_succ _) _ _ _ _⟩
    · have h1 : ¬ (j : Int) < s.size := by omega
      have HE : Hid (j = K) := (Js.sp_stop s j (by rw [Js.nx_end s j (by omega)]; rfl)).symm.trans HK.out
      go_wp2_with fail
      obtain rfl : j = K := HE.out
      exact Rj.ret_st rfl rfl (Rj.set4 HV.out _ _ _ _) rfl ⟨rfl, Rj.bel4 HB.out (Nat.le_succ _) _ _ _ _⟩

set_option maxHeartbeats 1000000 in
theorem Rj.is_is (s : ByteArray) (k o b e c : Nat) (p : Bool) (w : World) (hk : k ≤ s.size) (hc : c ≠ 0) (hp : decide (Js.nx s k = c) = p) :
    Calls Tryd.prog 112 #[.string s, .agg #[.int .i64 k, .int .i64 o, .int .i64 b, .int .i64 e], .int .u8 c] w fun r w' => r = .returned (.bool p) ∧ Below w.heap.size w w' := by
  have HB : Hid (Below w.heap.size w (w.alloc (Rj.stO k o b e))) := (Below.refl _ w).alloc (Nat.le_refl _) _
  by_cases h : k < s.size
  · have h1 : (k : Int) < s.size := by omega
    have h2 : (0 : Int) ≤ k := by omega
    have b1 : ((s[k].toNat : Int) == (c : Int)) = p := by rw [← hp, Js.nx_get s k h, Bool.eq_iff_iff, beq_iff_eq, decide_eq_true_eq]; omega
    clear hp
    go_enter Tryd.func112, Tryd.ntmps112
    go_wp2_with fail
    go_ret
    exact ⟨by first | rfl | rw [b1], HB.out⟩
  · have h1 : ¬ (k : Int) < s.size := by omega
    have HP : Hid (p = false) := by show _ = _; rw [← hp, Js.nx_end s k (by omega)]; exact decide_eq_false (fun e => hc e.symm)
    clear hp
    go_enter Tryd.func112, Tryd.ntmps112
    go_wp2_with fail
    go_ret
    obtain rfl : p = false := HP.out
    exact ⟨rfl, HB.out⟩

/-- what hex hands back -/
def Rj.HexR (k : Nat) (x : Except Nat Nat) (r : Ending) : Prop := match x with
  | .ok n => r = .returned (.tuple #[.int .i64 n, .int .i64 ((k + 4 : Nat) : Int)])
  | .error p => ∃ n : Nat, r = .returned (.tuple #[.int .i64 n, .int .i64 p])
theorem Rj.hexR_ok {k : Nat} {x : Except Nat Nat} {r : Ending} (n : Nat) (h : x = .ok n) (g : r = .returned (.tuple #[.int .i64 n, .int .i64 ((k + 4 : Nat) : Int)])) : Rj.HexR k x r := by subst h; exact g
theorem Rj.hexR_bad {k : Nat} {x : Except Nat Nat} {r : Ending} (p n : Nat) (h : x = .error p) (g : r = .returned (.tuple #[.int .i64 n, .int .i64 p])) : Rj.HexR k x r := by subst h; exact ⟨n, g⟩
theorem Rj.hex_bad (s : ByteArray) : ∀ n k x p, Js.hx s n k x = .error p → k ≤ p ∧ p < k + n ∧ (k ≤ s.size → p ≤ s.size)
  | 0, k, x, p, h => by rw [Js.hx] at h; cases h
  | n + 1, k, x, p, h => by
    rw [Js.hx] at h
    split at h
    · cases h; exact ⟨Nat.le_refl _, by omega, fun h => h⟩
    · next d hd =>
      obtain ⟨h1, h2, h3⟩ := Rj.hex_bad s n (k + 1) _ p h
      refine ⟨by omega, by omega, fun hk => h3 ?_⟩
      exact Nat.lt_of_not_le fun hh => by rw [Js.nx_end s k hh] at hd; cases hd
theorem Rj.hexd_none (c : Nat) (h : Js.hexd c = none) : ¬ (48 ≤ c ∧ c ≤ 57) ∧ ¬ (97 ≤ c ∧ c ≤ 102) ∧ ¬ (65 ≤ c ∧ c ≤ 70) := by
  unfold Js.hexd at h
  refine ⟨fun g => ?_, fun g => ?_, fun g => ?_⟩
  · rw [if_pos g] at h; cases h
  · rw [if_neg (by omega), if_pos g] at h; cases h
  · rw [if_neg (by omega), if_neg (by omega), if_pos g] at h; cases h

set_option maxHeartbeats 20000000 in
theorem Rj.hex_is (s : ByteArray) (k : Nat) (w : World) (hk : k ≤ s.size) (hs : s.size ≤ 1152921504606846976) :
    Calls Tryd.prog 118 #[.string s, .int .i64 k] w fun r w' => Rj.HexR k (Js.hx s 4 k 0) r ∧ w = w' := by
  obtain ⟨R, hR⟩ : ∃ R, Js.hx s 4 k 0 = R := ⟨_, rfl⟩
  rw [hR]
  have HR := Lib.hid hR
  clear hR
  go_enter Tryd.func118, Tryd.ntmps118
  go_wp2_with fail
  go_loop [6, 7] (fun nv tv => ∃ m j n : Nat, nv = .int .i64 n ∧ tv = .int .i64 j ∧ m + j = k + 4 ∧ j ≤ s.size ∧ k ≤ j ∧ Hid (Js.hx s m j n = R) ∧ ((m = 4 ∧ n < 1) ∨ (m = 3 ∧ n < 16) ∨ (m = 2 ∧ n < 256) ∨ (m = 1 ∧ n < 4096) ∨ (m = 0 ∧ n < 65536))) (fun _ tv => k + 4 - (intOf tv).toNat)
  case atStart => exact ⟨4, k, 0, rfl, rfl, by omega, hk, Nat.le_refl _, HR.out, .inl ⟨rfl, by omega⟩⟩
  case round =>
    clear HR
    obtain ⟨m, j, n, rfl, rfl, hm, hj, hkj, HR, hn⟩ := hrel
    by_cases h4 : j < k + 4
    · have g4 : (j : Int) < (k : Int) + 4 := by omega
      obtain ⟨m', rfl⟩ : ∃ m', m = m' + 1 := ⟨m - 1, by omega⟩
      have HR2 : Hid ((match Js.hexd (Js.nx s j) with | none => .error j | some d => Js.hx s m' (j + 1) (16 * n + d)) = R) := by
        have h9 : _ = R := HR.out
        rw [Js.hx] at h9
        exact h9
      clear HR
      by_cases h : j < s.size
      · have h1 : (j : Int) < s.size := by omega
        have h2 : (0 : Int) ≤ j := by omega
        have hx3 := (Js.nx_get s j h).symm
        have hxl := Js.nx_lt s j
        obtain ⟨x, hx2⟩ : ∃ x, Js.nx s j = x := ⟨_, rfl⟩
        rw [hx2] at HR2 hx3 hxl
        clear hx2
        cases hd : Js.hexd x with
        | none =>
          have HE : Hid (R = .error j) := by have h9 : _ = R := HR2.out; rw [hd] at h9; exact h9.symm
          obtain ⟨n1, n2, n3⟩ := Rj.hexd_none x hd
          clear HR2 hd
          by_cases a1 : x < 48
          · have a2 : ¬ 97 ≤ x := by omega
            have a3 : ¬ 65 ≤ x := by omega
            clear n1 n2 n3
            go_wp2_with fail
            go_ret2
            exact ⟨Rj.hexR_bad j n HE.out rfl, rfl⟩
          by_cases a2 : x < 65
          · have a3 : ¬ x ≤ 57 := by omega
            have a4 : ¬ 97 ≤ x := by omega
            clear n1 n2 n3
            go_wp2_with fail
            go_ret2
            exact ⟨Rj.hexR_bad j n HE.out rfl, rfl⟩
          by_cases a3 : x < 97
          · have a4 : ¬ x ≤ 57 := by omega
            have a5 : ¬ x ≤ 70 := by omega
            clear n1 n2 n3
            go_wp2_with fail
            go_ret2
            exact ⟨Rj.hexR_bad j n HE.out rfl, rfl⟩
          · have a4 : ¬ x ≤ 57 := by omega
            have a5 : ¬ x ≤ 70 := by omega
            have a6 : ¬ x ≤ 102 := by omega
            clear n1 n2 n3
            go_wp2_with fail
            go_ret2
            exact ⟨Rj.hexR_bad j n HE.out rfl, rfl⟩
        | some d =>
          have HE : Hid (Js.hx s m' (j + 1) (16 * n + d) = R) := by have h9 : _ = R := HR2.out; rw [hd] at h9; exact h9
          have hdl := Js.hexd_lt x d hd
          have hcs := Js.hexd_cases x d hd
          clear HR2 hd
          rcases hcs with ⟨a1, a2, a3⟩ | ⟨a1, a2, a3⟩ | ⟨a1, a2, a3⟩
          · have HE2 : Hid (Js.hx s m' (j + 1) (16 * n + x - 48) = R) := by have h9 : _ = R := HE.out; rw [show 16 * n + x - 48 = 16 * n + d by omega]; exact h9
            clear a3 hdl HE
            go_wp2_with fail
            go_round
            case rel => exact ⟨m', j + 1, 16 * n + x - 48, by go_num, by go_num, by omega, by omega, by omega, HE2.out, by omega⟩
            case measure => simp [intOf]; omega
          · have a4 : ¬ x ≤ 57 := by omega
            have HE2 : Hid (Js.hx s m' (j + 1) (16 * n + x - 87) = R) := by have h9 : _ = R := HE.out; rw [show 16 * n + x - 87 = 16 * n + d by omega]; exact h9
            clear a3 hdl HE
            go_wp2_with fail
            go_round
            case rel => exact ⟨m', j + 1, 16 * n + x - 87, by go_num, by go_num, by omega, by omega, by omega, HE2.out, by omega⟩
            case measure => simp [intOf]; omega
          · have a4 : ¬ x ≤ 57 := by omega
            have a5 : ¬ 97 ≤ x := by omega
            have HE2 : Hid (Js.hx s m' (j + 1) (16 * n + x - 55) = R) := by have h9 : _ = R := HE.out; rw [show 16 * n + x - 55 = 16 * n + d by omega]; exact h9
            clear a3 hdl HE
            go_wp2_with fail
            go_round
            case rel => exact ⟨m', j + 1, 16 * n + x - 55, by go_num, by go_num, by omega, by omega, by omega, HE2.out, by omega⟩
            case measure => simp [intOf]; omega
      · have h1 : ¬ (j : Int) < s.size := by omega
        have HE : Hid (R = .error j) := by have h9 : _ = R := HR2.out; rw [Js.nx_end s j (by omega)] at h9; exact h9.symm
        clear HR2
        go_wp2_with fail
        go_ret2
        exact ⟨Rj.hexR_bad j n HE.out rfl, rfl⟩
    · have g4 : ¬ (j : Int) < (k : Int) + 4 := by omega
      obtain rfl : m = 0 := by omega
      obtain rfl : j = k + 4 := by omega
      have HE : Hid (R = .ok n) := by have h9 : _ = R := HR.out; rw [Js.hx] at h9; exact h9.symm
      clear HR
      go_wp2_with fail
      go_ret2
      exact ⟨Rj.hexR_ok n HE.out (by simp), rfl⟩

theorem own_lit {B g : Nat} {C : Array Value} {w : World} (l : List UInt8) (hh : w.heap[g]? = some (.cells C 5)) (hC : C.toList = Lib.byteCells l) (hB : B ≤ g) (hl : l.length ≤ maxLen) : OwnBytes B (.slice (some ⟨g, 0, none⟩) l.length l.length) l w := by
  have hs : C.size = l.length := by rw [← Array.length_toList, hC, Lib.byteCells_length]
  refine ⟨by rw [Lib.byteCells_length]; omega, .inr ⟨g, l.length, C, rfl, hB, hh, Nat.le_refl _, hl, by omega, ?_⟩⟩
  rw [List.take_of_length_le (by rw [hC, Lib.byteCells_length]; omega), hC]
theorem Rj.u8v (n : Nat) (h : n < 256) (v : Int) (hv : v = n) : (Value.int .u8 ((UInt8.ofNat n).toNat : Int)) = .int .u8 v := by
  subst hv
  rw [UInt8.toNat_ofNat', Nat.mod_eq_of_lt h]
theorem Rj.bel1 (w : World) (o : Obj) : Below w.heap.size w (w.alloc o) := (Below.refl _ w).alloc (Nat.le_refl _) o
set_option maxHeartbeats 2000000 in
theorem Rj.utf8_is (c : Nat) (w : World) (hc : c ≤ 1114111) :
    Calls Tryd.prog 119 #[.int .i64 c] w fun r w' => ∃ v, r = .returned v ∧ OwnBytes w.heap.size v (Js.enc c) w' ∧ Below w.heap.size w w' := by
  by_cases h1 : c < 128
  · go_enter Tryd.func119, Tryd.ntmps119
    go_wp2_with fail
    go_ret
    refine ⟨_, rfl, ?_, Rj.bel1 w _⟩
    unfold Js.enc
    rw [if_pos h1]
    exact own_lit [_] (alloc_new _ _) (by simp only [Lib.byteCells, List.map]; rw [Rj.u8v _ (by omega) c rfl]) (Nat.le_refl _) (by show _ ≤ 9223372036854775807; simp)
  by_cases h2 : c < 2048
  · go_enter Tryd.func119, Tryd.ntmps119
    go_wp2_with fail
    go_ret
    refine ⟨_, rfl, ?_, Rj.bel1 w _⟩
    unfold Js.enc
    rw [if_neg h1, if_pos h2]
    exact own_lit [_, _] (alloc_new _ _) (by simp only [Lib.byteCells, List.map]; rw [Rj.u8v _ (by omega) (192 + (c : Int) / 64) (by omega), Rj.u8v _ (by omega) (128 + (c : Int) % 64) (by omega)]) (Nat.le_refl _) (by show _ ≤ 9223372036854775807; simp)
  have h2n : decide ((c : Int) < 2048) = false := decide_eq_false (by omega)
  have h1n : decide ((c : Int) < 128) = false := decide_eq_false (by omega)
  have H1 := Lib.hid h1
  have H2 := Lib.hid h2
  clear h1 h2
  by_cases h3 : c < 65536
  · have h3n : decide ((c : Int) < 65536) = true := decide_eq_true (by omega)
    have H3 := Lib.hid h3
    clear h3
    go_enter Tryd.func119, Tryd.ntmps119
    go_wp2_with fail
    go_ret
    refine ⟨_, rfl, ?_, Rj.bel1 w _⟩
    unfold Js.enc
    have h3 := H3.out
    rw [if_neg H1.out, if_neg H2.out, if_pos h3]
    exact own_lit [_, _, _] (alloc_new _ _) (by simp only [Lib.byteCells, List.map]; rw [Rj.u8v _ (by have := H3.out; omega) ((224 + (c : Int) / 4096) % 256) (by have := H3.out; omega), Rj.u8v _ (by omega) (128 + (c : Int) / 64 % 64) (by omega), Rj.u8v _ (by omega) (128 + (c : Int) % 64) (by omega)]) (Nat.le_refl _) (by show _ ≤ 9223372036854775807; simp)
  · have h3n : decide ((c : Int) < 65536) = false := decide_eq_false (by omega)
    have H3 := Lib.hid h3
    clear h3
    go_enter Tryd.func119, Tryd.ntmps119
    go_wp2_with fail
    go_ret
    refine ⟨_, rfl, ?_, Rj.bel1 w _⟩
    have h3 := H3.out
    unfold Js.enc
    rw [if_neg H1.out, if_neg H2.out, if_neg h3]
    exact own_lit [_, _, _, _] (alloc_new _ _) (by simp only [Lib.byteCells, List.map]; rw [Rj.u8v _ (by omega) (240 + (c : Int) / 262144) (by omega), Rj.u8v _ (by omega) (128 + (c : Int) / 4096 % 64) (by omega), Rj.u8v _ (by omega) (128 + (c : Int) / 64 % 64) (by omega), Rj.u8v _ (by omega) (128 + (c : Int) % 64) (by omega)]) (Nat.le_refl _) (by show _ ≤ 9223372036854775807; simp)
end Go.Proofs.YtmmijebekipdeaaDoor
