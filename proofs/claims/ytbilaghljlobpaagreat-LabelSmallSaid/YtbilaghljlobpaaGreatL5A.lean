/- Contracts of gaugerlaw04.short and of gaugerkit.OverLabels (what it writes over is the call's own). -/
import Derived.Test.YtbilaghljlobpaaGreatL4Z3
import Derived.BigQuiet
namespace Go.Proofs.YtbilaghljlobpaaGreat
open Go.RowKit

/-- what 'short' asks -/
def Can.short (ls : List Lab.L) : Bool := decide (ls.length ≤ 70) && ls.all fun x => decide (x.n.size ≤ 1100) && decide (x.v.size ≤ 1100)
set_option maxHeartbeats 1600000 in
set_option maxRecDepth 100000 in
theorem short_is (p : Option Addr) (ls : List Lab.L) (n c : Nat) (b : Bool) (h : Can.short ls = b) (w : World) (hn : ls.length = n) (hA : Lab.At p ls w) (hF : Lab.Fit maxLen ls) (hl : n ≤ maxLen) :
    Calls Tryz.prog 9 #[.slice p n c] w fun e w' => e = .returned (.bool b) ∧ Below w.heap.size w w' := by
  unfold maxLen at hl
  unfold Can.short at h
  rw [hn] at h
  by_cases h70 : n ≤ 70
  · rw [decide_eq_true h70, Bool.true_and] at h
    have H0 : Hid ((ls.drop 0).all (fun x => decide (x.n.size ≤ 1100) && decide (x.v.size ≤ 1100)) = b) := h
    have HN := Lib.hid hn
    clear h hn
    go_enter Tryz.func9, Tryz.ntmps9
    go_wp2_with fail
    go_loopw [10] (fun i wr => ∃ k : Nat, k ≤ n ∧ i = .int .i64 k ∧ Hid ((ls.drop k).all (fun x => decide (x.n.size ≤ 1100) && decide (x.v.size ≤ 1100)) = b) ∧ Below w.heap.size w wr) (fun i _ => n - (intOf i).toNat)
    case atStart => exact ⟨0, Nat.zero_le _, rfl, H0, Below.refl _ _⟩
    case round =>
      obtain ⟨k, hk, rfl, HK, hb⟩ := hrel
      have hsz := hb.size
      by_cases hlt : k < n
      · have hkl : k < ls.length := by rw [HN.out]; exact hlt
        have hA2 := hA.below hb (Nat.le_refl _)
        obtain ⟨bb, o, rfl, hc⟩ := hA2.open k hkl
        have HD := Lib.hid (List.drop_eq_getElem_cons hkl)
        obtain ⟨x, hx⟩ : ∃ x, ls[k] = x := ⟨_, rfl⟩
        have hfx := hF x (by rw [← hx]; exact List.getElem_mem _)
        unfold maxLen at hfx
        have c0 := (hc k hkl).1
        have c1 := (hc k hkl).2
        rw [hx] at c0 c1 HD
        have hbx : bb < wr.heap.size := World.block_lt_of_cell? _ _ c0
        have hstep : Hid ((decide (x.n.size ≤ 1100) && decide (x.v.size ≤ 1100) && (ls.drop (k + 1)).all (fun x => decide (x.n.size ≤ 1100) && decide (x.v.size ≤ 1100))) = b) := by
          have h2 := HK.out
          rw [HD.out, List.all_cons] at h2
          exact h2
        obtain ⟨hn1, hv1⟩ := hfx
        clear hx hc HK HD
        by_cases hxn : x.n.size ≤ 1100
        · by_cases hxv : x.v.size ≤ 1100
          · have HG : Hid ((ls.drop (k + 1)).all (fun x => decide (x.n.size ≤ 1100) && decide (x.v.size ≤ 1100)) = b) := by
              show (ls.drop (k + 1)).all (fun x => decide (x.n.size ≤ 1100) && decide (x.v.size ≤ 1100)) = b
              rw [← hstep.out, decide_eq_true hxn, decide_eq_true hxv]; simp
            clear hstep
            go_wp2_with fail
            go_roundw
            case rel => exact ⟨k + 1, by omega, by go_num, HG, hb.alloc hsz _⟩
            case measure => simp [intOf]; omega
          · have HG : Hid (b = false) := by
              show b = false
              rw [← hstep.out, decide_eq_false hxv]; simp
            have hxv2 : 1100 < x.v.size := by omega
            clear hstep hxv
            go_wp2_with fail
            go_ret
            exact ⟨by rw [HG.out]; rfl, hb.alloc hsz _⟩
        · have HG : Hid (b = false) := by
            show b = false
            rw [← hstep.out, decide_eq_false hxn]; simp
          have hxn2 : 1100 < x.n.size := by omega
          clear hstep hxn
          go_wp2_with fail
          go_ret
          exact ⟨by rw [HG.out]; rfl, hb.alloc hsz _⟩
      · have HG : Hid (b = true) := by
          have h2 := HK.out
          rw [List.drop_eq_nil_iff.2 (by rw [HN.out]; omega)] at h2
          exact h2.symm
        clear HK
        go_wp2_with fail
        go_ret
        exact ⟨by rw [HG.out]; rfl, hb⟩
  · have hb : b = false := by rw [← h, decide_eq_false h70]; simp
    subst hb
    have h3 : 70 < n := by omega
    clear h h70 hn hA hF
    go_enter Tryz.func9, Tryz.ntmps9
    go_wp2_with fail
    go_ret
    exact ⟨rfl, Below.refl _ _⟩
/-- labels may be written over; all else that there was stays -/
def Over (w w' : World) : Prop := w.heap.size ≤ w'.heap.size ∧ ∀ h, h < w.heap.size → w'.heap[h]? = w.heap[h]? ∨ ∃ cur cur' : Array Value, w.heap[h]? = some (.cells cur 31) ∧ w'.heap[h]? = some (.cells cur' 31) ∧ cur'.size = cur.size
theorem Over.refl (w : World) : Over w w := ⟨Nat.le_refl _, fun _ _ => .inl rfl⟩
theorem Over.trans {a b c : World} (h1 : Over a b) (h2 : Over b c) : Over a c := by
  refine ⟨Nat.le_trans h1.1 h2.1, fun h hh => ?_⟩
  have q1 := h1.2 h hh
  have q2 := h2.2 h (Nat.lt_of_lt_of_le hh h1.1)
  rcases q1 with q1 | ⟨x, y, q1, q1', qs⟩
  · rcases q2 with q2 | ⟨x, y, q2, q2', qs⟩
    · exact .inl (q2.trans q1)
    · exact .inr ⟨x, y, q1.symm.trans q2, q2', qs⟩
  · rcases q2 with q2 | ⟨x2, y2, q2, q2', qs2⟩
    · exact .inr ⟨x, y, q1, q2.trans q1', qs⟩
    · have e := q1'.symm.trans q2
      simp only [Option.some.injEq, Obj.cells.injEq, and_true] at e
      subst e
      exact .inr ⟨x, y2, q1, q2', by omega⟩
theorem Over.below {w w' : World} (h : Below w.heap.size w w') : Over w w' := ⟨h.size, fun b hb => .inl (h.block b hb)⟩
theorem Over.set {w : World} {g i : Nat} {cur : Array Value} (hg : w.heap[g]? = some (.cells cur 31)) (v : Value) : Over w (w.setCell ⟨g, i, none⟩ v) := by
  refine ⟨by simp, fun h hh => ?_⟩
  by_cases e : h = g
  · subst e
    exact .inr ⟨cur, _, hg, heap_setCell_same w h i cur _ v hg, by simp⟩
  · exact .inl (heap_setCell_other w ⟨g, i, none⟩ h v e)
/-- a block of labels stays one, and as long -/
theorem Over.shape {w w' : World} (h : Over w w') {g : Nat} {cur : Array Value} (hg : w.heap[g]? = some (.cells cur 31)) : ∃ cur' : Array Value, w'.heap[g]? = some (.cells cur' 31) ∧ cur'.size = cur.size := by
  rcases h.2 g (lt_of_heap hg) with q | ⟨x, y, q1, q2, q3⟩
  · exact ⟨cur, q.trans hg, rfl⟩
  · have e := hg.symm.trans q1
    simp only [Option.some.injEq, Obj.cells.injEq, and_true] at e
    subst e
    exact ⟨y, q2, q3⟩
/-- a block of something else stays as it was -/
theorem Over.other {w w' : World} (h : Over w w') {g : Nat} {cur : Array Value} {T : TypeId} (hg : w.heap[g]? = some (.cells cur T)) (hT : T ≠ 31) : w'.heap[g]? = some (.cells cur T) := by
  rcases h.2 g (lt_of_heap hg) with q | ⟨x, y, q1, q2, q3⟩
  · exact q.trans hg
  · have e := hg.symm.trans q1
    simp only [Option.some.injEq, Obj.cells.injEq] at e
    exact absurd e.2.1 hT
/-- labels that may be written over -/
def Lab.Room (B : Nat) (p : Option Addr) (n c : Nat) (w : World) : Prop :=
  (p = none ∧ n = 0 ∧ c = 0) ∨ ∃ (g : Nat) (cur : Array Value), p = some ⟨g, 0, none⟩ ∧ B ≤ g ∧ w.heap[g]? = some (.cells cur 31) ∧ c * 2 ≤ cur.size ∧ n ≤ c ∧ c ≤ maxLen
theorem Lab.Room.over {B : Nat} {p : Option Addr} {n c : Nat} {w w' : World} (h : Lab.Room B p n c w) (ho : Over w w') : Lab.Room B p n c w' := by
  rcases h with h | ⟨g, cur, h1, h2, h3, h4, h5⟩
  · exact .inl h
  · obtain ⟨cur', q1, q2⟩ := ho.shape h3
    exact .inr ⟨g, cur', h1, h2, q1, by omega, h5⟩
theorem OwnLabels.room {B : Nat} {p : Option Addr} {n c : Nat} {ls : List Lab.L} {w : World} (h : OwnLabels B (.slice p n c) ls w) : Lab.Room B p n c w := by
  obtain ⟨_, h2⟩ := h
  rcases h2 with ⟨h2, _⟩ | ⟨g, cap, cur, hv, hg, hh, hn, hc, hcs, _⟩
  · simp only [Value.slice.injEq] at h2
    exact .inl h2
  · simp only [Value.slice.injEq] at hv
    obtain ⟨rfl, rfl, rfl⟩ := hv
    exact .inr ⟨g, cur, rfl, hg, hh, by omega, hn, hc⟩

theorem int_byte (x : Int) (h1 : 0 ≤ x) (h2 : x < 256) : ((UInt8.ofNat x.toNat).toNat : Int) = x := by
  rw [UInt8.toNat_ofNat']
  omega
/-- a string of eight bytes, six of which are whatever they are -/
def Mark.any (x1 x2 x3 x4 x5 x6 : Int) : List UInt8 := [35, UInt8.ofNat x1.toNat, UInt8.ofNat x2.toNat, UInt8.ofNat x3.toNat, 47, UInt8.ofNat x4.toNat, UInt8.ofNat x5.toNat, UInt8.ofNat x6.toNat]
theorem conv_any (x1 x2 x3 x4 x5 x6 : Int) (h1 : 0 ≤ x1 ∧ x1 < 256) (h2 : 0 ≤ x2 ∧ x2 < 256) (h3 : 0 ≤ x3 ∧ x3 < 256) (h4 : 0 ≤ x4 ∧ x4 < 256) (h5 : 0 ≤ x5 ∧ x5 < 256) (h6 : 0 ≤ x6 ∧ x6 < 256) (W : World) :
    (convert 22 9 (.slice (some ⟨W.heap.size, 0, none⟩) 8 8)).run Tryz.prog (W.alloc (.cells #[.int .u8 35, .int .u8 x1, .int .u8 x2, .int .u8 x3, .int .u8 47, .int .u8 x4, .int .u8 x5, .int .u8 x6] 5)) = .ok (.string ⟨(Mark.any x1 x2 x3 x4 x5 x6).toArray⟩) (W.alloc (.cells #[.int .u8 35, .int .u8 x1, .int .u8 x2, .int .u8 x3, .int .u8 47, .int .u8 x4, .int .u8 x5, .int .u8 x6] 5)) := by
  refine conv_bytes (Mark.any x1 x2 x3 x4 x5 x6) _ ?_ W 8 rfl (by omega)
  simp only [Mark.any, Lib.byteCells, List.map_cons, List.map_nil, int_byte _ h1.1 h1.2, int_byte _ h2.1 h2.2, int_byte _ h3.1 h3.2, int_byte _ h4.1 h4.2, int_byte _ h5.1 h5.2, int_byte _ h6.1 h6.2]
  rfl
set_option maxHeartbeats 1600000 in
set_option maxRecDepth 100000 in
theorem mtextany_is (k i : Nat) (hk : k ≤ 1000) (_hi : i ≤ 9223372036854775807) (w : World) :
    Calls Tryz.prog 71 #[.int .i64 (k : Int), .int .i64 (i : Int)] w fun e w' => (∃ s : ByteArray, e = .returned (.string s)) ∧ Below w.heap.size w w' := by
  have C0 := fun W => conv_any ((k : Int) % 256) ((k : Int) / 256) ((k : Int) / 65536) ((i : Int) % 256) ((i : Int) / 256 % 256) ((i : Int) / 65536 % 256) (by omega) (by omega) (by omega) (by omega) (by omega) (by omega) W
  go_enter Tryz.func71, Tryz.ntmps71
  go_wp2_with fail
  go_ret
  exact ⟨⟨_, rfl⟩, (Below.refl _ _).alloc (Nat.le_refl _) _⟩

set_option maxHeartbeats 1600000 in
set_option maxRecDepth 100000 in
theorem mlabany_is (k i : Nat) (hk : k ≤ 1000) (hi : i + 1 ≤ 9223372036854775807) (w : World) :
    Calls Tryz.prog 49 #[.int .i64 (k : Int), .int .i64 (i : Int)] w fun e w' => (∃ a b : ByteArray, e = .returned (.agg #[.string a, .string b])) ∧ Below w.heap.size w w' := by
  have H1 := Lib.hid (fun w => mtextany_is k i hk (by omega) w)
  have H2 := mtextany_is k (i + 1) hk (by omega)
  have e1 : ((i + 1 : Nat) : Int) = (i : Int) + 1 := by omega
  rw [e1] at H2
  have H2 := Lib.hid H2
  have n1 : IntKind.i64.wrap ((i : Int) + 1) = (i : Int) + 1 := by rw [IntKind.wrap_i64]; omega
  clear e1
  go_enter Tryz.func49, Tryz.ntmps49
  go_wp2_with (go_at_call 71; refine (H1.out _).mono ?_)
  first | rintro e w1 a rfl hb1 | rintro e w1 ⟨⟨a, rfl⟩, hb1⟩
  have k1 := below_kept hb1 (alloc_new w _) (by simp)
  have hs1 := hb1.size
  simp only [World.size_alloc] at hs1
  go_wp2_with (go_at_call 71; refine (H2.out _).mono ?_)
  first | rintro e w2 b rfl hb2 | rintro e w2 ⟨⟨b, rfl⟩, hb2⟩
  have k2 := below_kept hb2 k1 (by omega)
  have c0 : w2.cell? ⟨w.heap.size, 0, none⟩ = some (.string ⟨#[]⟩) := by rw [Lib.cell_of_heap k2]; rfl
  have c1 : w2.cell? ⟨w.heap.size, 1, none⟩ = some (.string ⟨#[]⟩) := by rw [Lib.cell_of_heap k2]; rfl
  have f0 : w2.frozen? ⟨w.heap.size, 0, none⟩ = false := Lib.frozen_of_heap k2 0
  have f1 : w2.frozen? ⟨w.heap.size, 1, none⟩ = false := Lib.frozen_of_heap k2 1
  have hB : Below w.heap.size w w2 := (((Below.refl _ _).alloc (Nat.le_refl _) _).trans (hb1.mono (by simp))).trans (hb2.mono (by omega))
  go_wp2_with fail
  have d0 : ((w2.setCell ⟨w.heap.size, 0, none⟩ (.string a)).setCell ⟨w.heap.size, 1, none⟩ (.string b)).cell? ⟨w.heap.size, 0, none⟩ = some (.string a) :=
    (World.cell?_setCell_other _ _ _ _ (by intro e; cases e)).trans (World.cell?_setCell_same' _ _ _ (by rw [c0]; rfl))
  have d1 : ((w2.setCell ⟨w.heap.size, 0, none⟩ (.string a)).setCell ⟨w.heap.size, 1, none⟩ (.string b)).cell? ⟨w.heap.size, 1, none⟩ = some (.string b) :=
    World.cell?_setCell_same' _ _ _ (by rw [World.cell?_setCell_other _ _ _ _ (by intro e; cases e), c1]; rfl)
  refine bodyPost_ret (v := .agg #[.string a, .string b]) ?_ rfl ⟨⟨_, _, rfl⟩, (hB.setCell (p := ⟨w.heap.size, 0, none⟩) (Nat.le_refl _) _).setCell (p := ⟨w.heap.size, 1, none⟩) (Nat.le_refl _) _⟩
  generalize (w2.setCell ⟨w.heap.size, 0, none⟩ (.string a)).setCell ⟨w.heap.size, 1, none⟩ (.string b) = W at d0 d1
  simp [results, Tryz.f49, go_sem, d0, d1]

set_option maxHeartbeats 1600000 in
set_option maxRecDepth 100000 in
theorem over_is (B : Nat) (p : Option Addr) (n c : Nat) (w : World) (h : Lab.Room B p n c w) (hB : B ≤ w.heap.size) :
    Calls Tryz.prog 24 #[.slice p n c] w fun e w' => e = .returned (.tuple #[]) ∧ Over w w' ∧ Below B w w' := by
  rcases h with ⟨rfl, rfl, rfl⟩ | ⟨g, cur, rfl, hg, hh, hc, hnc, hcm⟩
  · go_enter Tryz.func24, Tryz.ntmps24
    go_wp2_with fail
    go_loopw [3] (fun i wr => i = .int .i64 0 ∧ wr = w) (fun _ _ => 0)
    case atStart => exact ⟨rfl, rfl⟩
    case round =>
      obtain ⟨rfl, rfl⟩ := hrel
      go_wp2_with fail
      go_end0
      exact ⟨rfl, Over.refl _, Below.refl _ _⟩
  · unfold maxLen at hcm
    have hgw := lt_of_heap hh
    have HH := Lib.hid hh
    have HC := Lib.hid hc
    clear hh hc
    go_enter Tryz.func24, Tryz.ntmps24
    go_wp2_with fail
    go_loopw [3] (fun i wr => ∃ k : Nat, k ≤ c ∧ i = .int .i64 k ∧ Hid (Over w wr) ∧ Below B w wr) (fun i _ => c - (intOf i).toNat)
    case atStart => exact ⟨0, Nat.zero_le _, rfl, Over.refl _, Below.refl _ _⟩
    case round =>
      obtain ⟨k, hk, rfl, HO, hb⟩ := hrel
      have hsz := hb.size
      by_cases hlt : k < c
      · have HM := Lib.hid (fun w => mlabany_is 10 k (by omega) (by omega) w)
        go_wp2_with (go_at_call 49; refine (HM.out _).mono ?_)
        first | rintro e w1 a b rfl hb1 | rintro e w1 ⟨⟨a, b, rfl⟩, hb1⟩
        have ho1 : Over w w1 := HO.out.trans (Over.below hb1)
        have hb2 : Below B w w1 := hb.trans (hb1.mono (by omega))
        obtain ⟨cur1, q1, q2⟩ := ho1.shape HH.out
        have q3 : k * 2 + 1 < cur1.size := by have := HC.out; omega
        have c0 : w1.cell? ⟨g, k * 2, none⟩ = some cur1[k * 2] := by rw [Lib.cell_of_heap q1, Array.getElem?_eq_getElem (by omega)]
        have c1 : w1.cell? ⟨g, k * 2 + 1, none⟩ = some cur1[k * 2 + 1] := by rw [Lib.cell_of_heap q1, Array.getElem?_eq_getElem (by omega)]
        have f0 : w1.frozen? ⟨g, k * 2, none⟩ = false := Lib.frozen_of_heap q1 _
        have f1 : w1.frozen? ⟨g, k * 2 + 1, none⟩ = false := Lib.frozen_of_heap q1 _
        have HO1 := Lib.hid ho1
        have HQ := Lib.hid q1
        clear ho1 q1
        go_wp2_with fail
        have o1 := Over.set (i := k * 2) HQ.out (.string a)
        obtain ⟨cur2, r1, r2⟩ := o1.shape HQ.out
        have o2 := Over.set (i := k * 2 + 1) r1 (.string b)
        go_roundw
        case rel => exact ⟨k + 1, by omega, by go_num, (HO1.out.trans o1).trans o2, (hb2.setCell (p := ⟨g, k * 2, none⟩) hg _).setCell (p := ⟨g, k * 2 + 1, none⟩) hg _⟩
        case measure => simp [intOf]; omega
      · go_wp2_with fail
        go_end0
        exact ⟨rfl, HO.out, hb⟩
end Go.Proofs.YtbilaghljlobpaaGreat
