/- Contracts of gaugerkit: CopyLabels, CopyTargets, OverLabels, SpoilTargets (what they write over is the call's own). Contracts of gaugerkit: CopyTargets, SpoilTargets. -/
import Derived.Test.YtpnpgjjbincigaaKitB
import Derived.Test.YtpnpgjjbincigaaFst
import Derived.BigQuiet
import Derived.Test.YtpnpgjjbincigaaPoC
import Derived.Deep.RegionHeld3
namespace Go.Proofs.Ytpnpgjjbincigaa
open Go.RowKit

/-- labels may be written over; all else that there was stays -/
def Over (w w' : World) : Prop := w.heap.size ≤ w'.heap.size ∧ ∀ h, h < w.heap.size → w'.heap[h]? = w.heap[h]? ∨ ∃ cur cur' : Array Value, w.heap[h]? = some (.cells cur 37) ∧ w'.heap[h]? = some (.cells cur' 37) ∧ cur'.size = cur.size
theorem Over.refl (w : World) : Over w w := ⟨Nat.le_refl _, fun _ _ => .inl rfl⟩
theorem Over.trans {a b c : World} (h1 : Over a b) (h2 : Over b c) : Over a c := by
  refine ⟨Nat.le_trans h1.1 h2.1, fun h hh => ?_⟩
  have q1 := h1.2 h hh
  have q2 := h2.2 h (Nat.lt_of_lt_of_le hh h1.1)
  rcases q1 with q1 | ⟨x, y, q1, q1', qs⟩
  · rcases q2 with q2 | ⟨x, y, q2, q2', qs⟩
    · exact .inl (q2.trans q1)
    · exact .inr ⟨x, y, q1.symm.trans q2, q2', qs⟩
  · rcases q2 with q2 | ⟨x2, y2, q2, q2', qs2⟩
    · exact .inr ⟨x, y, q1, q2.trans q1', qs⟩
    · have e := q1'.symm.trans q2
      simp only [Option.some.injEq, Obj.cells.injEq, and_true] at e
      subst e
      exact .inr ⟨x, y2, q1, q2', by omega⟩
theorem Over.below {w w' : World} (h : Below w.heap.size w w') : Over w w' := ⟨h.size, fun b hb => .inl (h.block b hb)⟩
theorem Over.set {w : World} {g i : Nat} {cur : Array Value} (hg : w.heap[g]? = some (.cells cur 37)) (v : Value) : Over w (w.setCell ⟨g, i, none⟩ v) := by
  refine ⟨by simp, fun h hh => ?_⟩
  by_cases e : h = g
  · subst e
    exact .inr ⟨cur, _, hg, heap_setCell_same w h i cur _ v hg, by simp⟩
  · exact .inl (heap_setCell_other w ⟨g, i, none⟩ h v e)
/-- a block of labels stays one, and as long -/
theorem Over.shape {w w' : World} (h : Over w w') {g : Nat} {cur : Array Value} (hg : w.heap[g]? = some (.cells cur 37)) : ∃ cur' : Array Value, w'.heap[g]? = some (.cells cur' 37) ∧ cur'.size = cur.size := by
  rcases h.2 g (lt_of_heap hg) with q | ⟨x, y, q1, q2, q3⟩
  · exact ⟨cur, q.trans hg, rfl⟩
  · have e := hg.symm.trans q1
    simp only [Option.some.injEq, Obj.cells.injEq, and_true] at e
    subst e
    exact ⟨y, q2, q3⟩
/-- a block of something else stays as it was -/
theorem Over.other {w w' : World} (h : Over w w') {g : Nat} {cur : Array Value} {T : TypeId} (hg : w.heap[g]? = some (.cells cur T)) (hT : T ≠ 37) : w'.heap[g]? = some (.cells cur T) := by
  rcases h.2 g (lt_of_heap hg) with q | ⟨x, y, q1, q2, q3⟩
  · exact q.trans hg
  · have e := hg.symm.trans q1
    simp only [Option.some.injEq, Obj.cells.injEq] at e
    exact absurd e.2.1 hT
/-- labels that may be written over -/
def Lab.Room (B : Nat) (p : Option Addr) (n c : Nat) (w : World) : Prop :=
  (p = none ∧ n = 0 ∧ c = 0) ∨ ∃ (g : Nat) (cur : Array Value), p = some ⟨g, 0, none⟩ ∧ B ≤ g ∧ w.heap[g]? = some (.cells cur 37) ∧ c * 2 ≤ cur.size ∧ n ≤ c ∧ c ≤ maxLen
theorem Lab.Room.over {B : Nat} {p : Option Addr} {n c : Nat} {w w' : World} (h : Lab.Room B p n c w) (ho : Over w w') : Lab.Room B p n c w' := by
  rcases h with h | ⟨g, cur, h1, h2, h3, h4, h5⟩
  · exact .inl h
  · obtain ⟨cur', q1, q2⟩ := ho.shape h3
    exact .inr ⟨g, cur', h1, h2, q1, by omega, h5⟩
theorem OwnLabels.room {B : Nat} {p : Option Addr} {n c : Nat} {ls : List Lab.L} {w : World} (h : OwnLabels B (.slice p n c) ls w) : Lab.Room B p n c w := by
  obtain ⟨_, h2⟩ := h
  rcases h2 with ⟨h2, _⟩ | ⟨g, cap, cur, hv, hg, hh, hn, hc, hcs, _⟩
  · simp only [Value.slice.injEq] at h2
    exact .inl h2
  · simp only [Value.slice.injEq] at hv
    obtain ⟨rfl, rfl, rfl⟩ := hv
    exact .inr ⟨g, cur, rfl, hg, hh, by omega, hn, hc⟩

set_option maxHeartbeats 1600000 in
set_option maxRecDepth 100000 in
theorem copylabels_is (p : Option Addr) (ls : List Lab.L) (n c : Nat) (w : World) (hn : ls.length = n) (hA : Lab.At p ls w) (hp : p = none → c = 0) (hl : n ≤ 4398046511104) :
    Calls Try.prog 55 #[.slice p n c] w fun e w' => (∃ v, e = .returned v ∧ OwnLabels w.heap.size v ls w') ∧ Below w.heap.size w w' := by
  obtain ⟨i0, hi, hz0, hz1, hz2⟩ := info_parts infoLab
  have HI := Lib.hid hi
  have HN := Lib.hid hn
  rcases hA.cases with ⟨rfl, hls⟩ | ⟨ad, rfl, hnews0⟩
  · obtain rfl := hp rfl
    subst hls
    obtain rfl : n = 0 := by rw [← hn]; rfl
    clear hi hn hA
    go_enter Try.func55, Try.ntmps55
    go_wp2_with (at_builtin; refine wpList_append_own_none rfl _ _ 27 rfl w.heap.size 37 i0 2 Try.underlying27 HI.out _ 0 _ rfl (World.ownsRow_nil _ _ _ _) rfl ?_)
    go_wp2_with fail
    go_ret
    exact ⟨⟨_, rfl, OwnLabels.nil _ _⟩, Below.refl _ _⟩
  · clear hi hn hA
    have hnl : (Lab.cells ls).length = n * 2 := by rw [Lab.cells_length, HN.out]
    go_enter Try.func55, Try.ntmps55
    go_wp2_with (at_builtin; refine wpList_append_own _ rfl _ _ 27 rfl w.heap.size 37 i0 _ 2 32 Try.underlying27 HI.out hz0 hz1 hz2 rfl (by decide) _ 0 [] rfl (World.ownsRow_nil _ _ _ _) ad n c (Lab.cells ls) rfl hnl hnews0 (Lab.cells_one _) ?c4 ?c5 ?c6 ?_)
    case c4 => unfold maxLen; omega
    case c5 => omega
    case c6 => exact Nat.le_refl _
    intro v2 w2 hown1 hg2 _
    have hown2 : OwnLabels w.heap.size v2 ls w2 := by
      unfold OwnLabels
      rw [HN.out]
      simpa using hown1
    have hb2 : Below w.heap.size w w2 := (Below.refl _ _).grown hg2 (Nat.le_refl _) (fun k e => by cases e)
    go_wp2_with fail
    go_ret
    exact ⟨⟨_, rfl, hown2⟩, hb2⟩

theorem int_byte (x : Int) (h1 : 0 ≤ x) (h2 : x < 256) : ((UInt8.ofNat x.toNat).toNat : Int) = x := by
  rw [UInt8.toNat_ofNat']
  omega
/-- a string of eight bytes, six of which are whatever they are -/
def Mark.any (x1 x2 x3 x4 x5 x6 : Int) : List UInt8 := [35, UInt8.ofNat x1.toNat, UInt8.ofNat x2.toNat, UInt8.ofNat x3.toNat, 47, UInt8.ofNat x4.toNat, UInt8.ofNat x5.toNat, UInt8.ofNat x6.toNat]
theorem conv_any (x1 x2 x3 x4 x5 x6 : Int) (h1 : 0 ≤ x1 ∧ x1 < 256) (h2 : 0 ≤ x2 ∧ x2 < 256) (h3 : 0 ≤ x3 ∧ x3 < 256) (h4 : 0 ≤ x4 ∧ x4 < 256) (h5 : 0 ≤ x5 ∧ x5 < 256) (h6 : 0 ≤ x6 ∧ x6 < 256) (W : World) :
    (convert 54 9 (.slice (some ⟨W.heap.size, 0, none⟩) 8 8)).run Try.prog (W.alloc (.cells #[.int .u8 35, .int .u8 x1, .int .u8 x2, .int .u8 x3, .int .u8 47, .int .u8 x4, .int .u8 x5, .int .u8 x6] 5)) = .ok (.string ⟨(Mark.any x1 x2 x3 x4 x5 x6).toArray⟩) (W.alloc (.cells #[.int .u8 35, .int .u8 x1, .int .u8 x2, .int .u8 x3, .int .u8 47, .int .u8 x4, .int .u8 x5, .int .u8 x6] 5)) := by
  refine conv_bytes (Mark.any x1 x2 x3 x4 x5 x6) _ ?_ W 8 rfl (by omega)
  simp only [Mark.any, Lib.byteCells, List.map_cons, List.map_nil, int_byte _ h1.1 h1.2, int_byte _ h2.1 h2.2, int_byte _ h3.1 h3.2, int_byte _ h4.1 h4.2, int_byte _ h5.1 h5.2, int_byte _ h6.1 h6.2]
  rfl
set_option maxHeartbeats 1600000 in
set_option maxRecDepth 100000 in
theorem mtextany_is (k i : Nat) (hk : k ≤ 1000) (_hi : i ≤ 9223372036854775807) (w : World) :
    Calls Try.prog 81 #[.int .i64 (k : Int), .int .i64 (i : Int)] w fun e w' => (∃ s : ByteArray, e = .returned (.string s)) ∧ Below w.heap.size w w' := by
  have C0 := fun W => conv_any ((k : Int) % 256) ((k : Int) / 256) ((k : Int) / 65536) ((i : Int) % 256) ((i : Int) / 256 % 256) ((i : Int) / 65536 % 256) (by omega) (by omega) (by omega) (by omega) (by omega) (by omega) W
  go_enter Try.func81, Try.ntmps81
  go_wp2_with fail
  go_ret
  exact ⟨⟨_, rfl⟩, (Below.refl _ _).alloc (Nat.le_refl _) _⟩

set_option maxHeartbeats 1600000 in
set_option maxRecDepth 100000 in
theorem mlabany_is (k i : Nat) (hk : k ≤ 1000) (hi : i + 1 ≤ 9223372036854775807) (w : World) :
    Calls Try.prog 93 #[.int .i64 (k : Int), .int .i64 (i : Int)] w fun e w' => (∃ a b : ByteArray, e = .returned (.agg #[.string a, .string b])) ∧ Below w.heap.size w w' := by
  have H1 := Lib.hid (fun w => mtextany_is k i hk (by omega) w)
  have H2 := mtextany_is k (i + 1) hk (by omega)
  have e1 : ((i + 1 : Nat) : Int) = (i : Int) + 1 := by omega
  rw [e1] at H2
  have H2 := Lib.hid H2
  have n1 : IntKind.i64.wrap ((i : Int) + 1) = (i : Int) + 1 := by rw [IntKind.wrap_i64]; omega
  clear e1
  go_enter Try.func93, Try.ntmps93
  go_wp2_with (go_at_call 81; refine (H1.out _).mono ?_)
  first | rintro e w1 a rfl hb1 | rintro e w1 ⟨⟨a, rfl⟩, hb1⟩
  have k1 := below_kept hb1 (alloc_new w _) (by simp)
  have hs1 := hb1.size
  simp only [World.size_alloc] at hs1
  go_wp2_with (go_at_call 81; refine (H2.out _).mono ?_)
  first | rintro e w2 b rfl hb2 | rintro e w2 ⟨⟨b, rfl⟩, hb2⟩
  have k2 := below_kept hb2 k1 (by omega)
  have c0 : w2.cell? ⟨w.heap.size, 0, none⟩ = some (.string ⟨#[]⟩) := by rw [Lib.cell_of_heap k2]; rfl
  have c1 : w2.cell? ⟨w.heap.size, 1, none⟩ = some (.string ⟨#[]⟩) := by rw [Lib.cell_of_heap k2]; rfl
  have f0 : w2.frozen? ⟨w.heap.size, 0, none⟩ = false := Lib.frozen_of_heap k2 0
  have f1 : w2.frozen? ⟨w.heap.size, 1, none⟩ = false := Lib.frozen_of_heap k2 1
  have hB : Below w.heap.size w w2 := (((Below.refl _ _).alloc (Nat.le_refl _) _).trans (hb1.mono (by simp))).trans (hb2.mono (by omega))
  go_wp2_with fail
  have d0 : ((w2.setCell ⟨w.heap.size, 0, none⟩ (.string a)).setCell ⟨w.heap.size, 1, none⟩ (.string b)).cell? ⟨w.heap.size, 0, none⟩ = some (.string a) :=
    (World.cell?_setCell_other _ _ _ _ (by intro e; cases e)).trans (World.cell?_setCell_same' _ _ _ (by rw [c0]; rfl))
  have d1 : ((w2.setCell ⟨w.heap.size, 0, none⟩ (.string a)).setCell ⟨w.heap.size, 1, none⟩ (.string b)).cell? ⟨w.heap.size, 1, none⟩ = some (.string b) :=
    World.cell?_setCell_same' _ _ _ (by rw [World.cell?_setCell_other _ _ _ _ (by intro e; cases e), c1]; rfl)
  refine bodyPost_ret (v := .agg #[.string a, .string b]) ?_ rfl ⟨⟨_, _, rfl⟩, (hB.setCell (p := ⟨w.heap.size, 0, none⟩) (Nat.le_refl _) _).setCell (p := ⟨w.heap.size, 1, none⟩) (Nat.le_refl _) _⟩
  generalize (w2.setCell ⟨w.heap.size, 0, none⟩ (.string a)).setCell ⟨w.heap.size, 1, none⟩ (.string b) = W at d0 d1
  simp [results, Try.f93, go_sem, d0, d1]

set_option maxHeartbeats 1600000 in
set_option maxRecDepth 100000 in
theorem over_is (B : Nat) (p : Option Addr) (n c : Nat) (w : World) (h : Lab.Room B p n c w) (hB : B ≤ w.heap.size) :
    Calls Try.prog 80 #[.slice p n c] w fun e w' => e = .returned (.tuple #[]) ∧ Over w w' ∧ Below B w w' := by
  rcases h with ⟨rfl, rfl, rfl⟩ | ⟨g, cur, rfl, hg, hh, hc, hnc, hcm⟩
  · go_enter Try.func80, Try.ntmps80
    go_wp2_with fail
    go_loopw [3] (fun i wr => i = .int .i64 0 ∧ wr = w) (fun _ _ => 0)
    case atStart => exact ⟨rfl, rfl⟩
    case round =>
      obtain ⟨rfl, rfl⟩ := hrel
      go_wp2_with fail
      go_end0
      exact ⟨rfl, Over.refl _, Below.refl _ _⟩
  · unfold maxLen at hcm
    have hgw := lt_of_heap hh
    have HH := Lib.hid hh
    have HC := Lib.hid hc
    clear hh hc
    go_enter Try.func80, Try.ntmps80
    go_wp2_with fail
    go_loopw [3] (fun i wr => ∃ k : Nat, k ≤ c ∧ i = .int .i64 k ∧ Hid (Over w wr) ∧ Below B w wr) (fun i _ => c - (intOf i).toNat)
    case atStart => exact ⟨0, Nat.zero_le _, rfl, Over.refl _, Below.refl _ _⟩
    case round =>
      obtain ⟨k, hk, rfl, HO, hb⟩ := hrel
      have hsz := hb.size
      by_cases hlt : k < c
      · have HM := Lib.hid (fun w => mlabany_is 10 k (by omega) (by omega) w)
        go_wp2_with (go_at_call 93; refine (HM.out _).mono ?_)
        first | rintro e w1 a b rfl hb1 | rintro e w1 ⟨⟨a, b, rfl⟩, hb1⟩
        have ho1 : Over w w1 := HO.out.trans (Over.below hb1)
        have hb2 : Below B w w1 := hb.trans (hb1.mono (by omega))
        obtain ⟨cur1, q1, q2⟩ := ho1.shape HH.out
        have q3 : k * 2 + 1 < cur1.size := by have := HC.out; omega
        have c0 : w1.cell? ⟨g, k * 2, none⟩ = some cur1[k * 2] := by rw [Lib.cell_of_heap q1, Array.getElem?_eq_getElem (by omega)]
        have c1 : w1.cell? ⟨g, k * 2 + 1, none⟩ = some cur1[k * 2 + 1] := by rw [Lib.cell_of_heap q1, Array.getElem?_eq_getElem (by omega)]
        have f0 : w1.frozen? ⟨g, k * 2, none⟩ = false := Lib.frozen_of_heap q1 _
        have f1 : w1.frozen? ⟨g, k * 2 + 1, none⟩ = false := Lib.frozen_of_heap q1 _
        have HO1 := Lib.hid ho1
        have HQ := Lib.hid q1
        clear ho1 q1
        go_wp2_with fail
        have o1 := Over.set (i := k * 2) HQ.out (.string a)
        obtain ⟨cur2, r1, r2⟩ := o1.shape HQ.out
        have o2 := Over.set (i := k * 2 + 1) r1 (.string b)
        go_roundw
        case rel => exact ⟨k + 1, by omega, by go_num, (HO1.out.trans o1).trans o2, (hb2.setCell (p := ⟨g, k * 2, none⟩) hg _).setCell (p := ⟨g, k * 2 + 1, none⟩) hg _⟩
        case measure => simp [intOf]; omega
      · go_wp2_with fail
        go_end0
        exact ⟨rfl, HO.out, hb⟩
end Go.Proofs.Ytpnpgjjbincigaa
namespace Go.Proofs.Ytpnpgjjbincigaa
open Go.RowKit

set_option maxHeartbeats 3200000 in
set_option maxRecDepth 100000 in
theorem copytargets_is (p : Option Addr) (ts : List Can.T) (n c : Nat) (w : World) (hn : ts.length = n) (hT : Can.TPos p ts w) (hF : ∀ t ∈ ts, Can.TAny t) (hF2 : ∀ t ∈ ts, t.n ≤ 4398046511104) (hl : n ≤ 1000) :
    Calls Try.prog 38 #[.slice p n c] w fun e w' => (∃ (v : Value) (r : List Can.T), e = .returned v ∧ OwnTs w.heap.size v r w' ∧ r.map Can.jl = ts.map Can.jl) ∧ Below w.heap.size w w' := by
  have HN := Lib.hid hn
  have HF := Lib.hid hF
  have HF2 := Lib.hid hF2
  clear hn hF hF2
  go_enter Try.func38, Try.ntmps38
  go_wp2_with fail
  go_loopw [3, 4] (fun u i wr => ∃ k : Nat, k ≤ n ∧ i = .int .i64 k ∧ ∃ r : List Can.T, OwnTs w.heap.size u r wr ∧ Hid (r.map Can.jl = (ts.take k).map Can.jl) ∧ Below w.heap.size w wr) (fun _ i _ => n - (intOf i).toNat)
  case atStart => exact ⟨0, Nat.zero_le _, rfl, [], OwnTs.nil _ _, rfl, Below.refl _ _⟩
  case round =>
    obtain ⟨k, hk, rfl, r, hown, HR, hb⟩ := hrel
    have hsz := hb.size
    by_cases hlt : k < n
    · have hkd : k < ts.length := by rw [HN.out]; exact hlt
      rcases hT with hT | ⟨b, o, rfl, hb0, hT⟩
      · rw [hT] at hkd; simp at hkd
      obtain ⟨a0, a1, a2⟩ := (hT.belowT hb (Nat.le_refl _)) k hkd
      have z0 := (hT k hkd).1
      have z1 := (hT k hkd).2.1
      obtain ⟨f0, f1, f2, f3, f4⟩ := HF.out ts[k] (List.getElem_mem _)
      have f5 := HF2.out ts[k] (List.getElem_mem _)
      have HR2 : Hid (r.map Can.jl ++ [Can.jl ts[k]] = (ts.take (k + 1)).map Can.jl) := by
        show _ = _
        rw [List.take_add_one, List.getElem?_eq_getElem hkd, List.map_append, HR.out]
        rfl
      obtain ⟨t, ht⟩ : ∃ t, ts[k] = t := ⟨_, rfl⟩
      rw [ht] at a0 a1 a2 z0 z1 f0 f1 f2 f3 f4 f5 HR2
      obtain ⟨tj, tp, tn, tc, tl⟩ := t
      dsimp only at a0 a1 a2 z0 z1 f0 f1 f2 f3 f4 f5
      have hrl : r.length = k := by
        have := congrArg List.length HR.out
        rw [List.length_map, List.length_map, List.length_take] at this
        have := HN.out
        omega
      have HCL := Lib.hid (fun w hA => copylabels_is tp tl tn tc w f1 hA f3 (by omega))
      have n1 : (0 : Int) ≤ (k : Int) := by omega
      have n2 : (k : Int) < (n : Int) := by omega
      have hbr2 : b < wr.heap.size := by omega
      have HK3 : Hid (∀ w', Below w.heap.size w w' → w'.cell? ⟨b, o + k * 2, none⟩ = some (.string tj) ∧ w'.cell? ⟨b, o + k * 2 + 1, none⟩ = some (.slice tp tn tc)) := fun w' hw => ⟨cell_later hw z0 (Nat.le_refl _), cell_later hw z1 (Nat.le_refl _)⟩
      clear ht hkd HR hT
      go_wp2_with fail
      go_region_held3 (fun w' => w'.cell? ⟨b, o + k * 2, none⟩ = some (.string tj) ∧ w'.cell? ⟨b, o + k * 2 + 1, none⟩ = some (.slice tp tn tc))
        (first
          | exact HK3.out _ ((hb.drew.trans (hbx.mono hsz)).alloc (by have := hbx.size; simp at this; omega) _)
          | exact HK3.out _ (hb.drew.trans (hbx.mono hsz))
          | exact HK3.out _ (((hb.drew.trans (hbx.mono hsz)).alloc (by have := hbx.size; simp at this; omega) _).grown hgrow (by have := hbx.size; simp at this ⊢; omega) (fun j hj => (World.ownsRow.lt hown.1 j hj).1))
          | exact HK3.out _ hb.drew
          | go_keep)
        ((first
          | (go_at_call 55; refine (HCL.out _ (a2.below ((Below.refl _ wr).drew) (Nat.le_refl _))).mono ?_; rintro e wx ⟨⟨vx, rfl, hvx⟩, hbx⟩; obtain ⟨q, cq, rfl, _, _, _⟩ := OwnLabels.open hvx; rw [f1] at hvx ⊢)
          | (refine step_pushTg 23 Try.underlying23 (by rfl) _ _ (by rfl) w.heap.size _ r (by rfl) ((hown.below ((Below.refl _ wr).drew.trans hbx) (Nat.le_refl _)).alloc _) ⟨tj, q, tn, cq, tl⟩ f1 ((row_lift hvx hsz).alloc _) wx.heap.size 1 (by rfl) (heap_alloc_new wx _) (by omega) (by have := hbx.size; simp at this ⊢; omega) ?_; intro g2 cap2 w4 hown4 hgrow)))
      have hb4 : Below w.heap.size w w4 := ((hb.drew.trans (hbx.mono hsz)).alloc (by have := hbx.size; simp at this; omega) _).grown hgrow (by have := hbx.size; simp at this ⊢; omega) (fun j hj => (World.ownsRow.lt hown.1 j hj).1)
      go_wp2_with fail
      go_roundw
      case rel => exact ⟨k + 1, by omega, by go_num, r ++ [⟨tj, q, tn, cq, tl⟩], by first | exact hown4 | (rw [hrl] at hown4; exact hown4), by rw [List.map_append]; exact HR2, hb4⟩
      case measure => simp [intOf]; omega
    · have hkL : k = n := by omega
      subst hkL
      go_wp2_with fail
      go_ret
      refine ⟨⟨_, r, rfl, hown, ?_⟩, hb⟩
      have := HR.out
      rw [List.take_of_length_le (by have := HN.out; omega)] at this
      exact this

/-- a row of targets whose labels may be written over -/
def Tg.Row (B : Nat) (g : Nat) (ts : List Can.T) (k : Nat) (w : World) : Prop :=
  (∃ cur : Array Value, w.heap[g]? = some (.cells cur 29) ∧ ts.length * 2 ≤ cur.size ∧ ∀ i (h : i < ts.length), k ≤ i → cur[i * 2 + 1]? = some (.slice ts[i].p ts[i].n ts[i].c)) ∧ ∀ t ∈ ts, Lab.Room B t.p t.n t.c w
theorem Tg.Row.over {B g : Nat} {ts : List Can.T} {k : Nat} {w w' : World} (h : Tg.Row B g ts k w) (ho : Over w w') : Tg.Row B g ts k w' := by
  obtain ⟨⟨cur, h1, h2, h3⟩, h4⟩ := h
  exact ⟨⟨cur, ho.other h1 (by decide), h2, h3⟩, fun t ht => (h4 t ht).over ho⟩
theorem Over.setT {w : World} {g i : Nat} {cur : Array Value} {T : TypeId} (hg : w.heap[g]? = some (.cells cur T)) (hT : T ≠ 37) (v : Value) : ∀ (h : Nat) (x : Array Value), w.heap[h]? = some (Obj.cells x 37) → (w.setCell ⟨g, i, none⟩ v).heap[h]? = some (Obj.cells x 37) := by
  intro h x hx
  rw [heap_setCell_other w ⟨g, i, none⟩ h v (fun e => ?_)]
  · exact hx
  · simp only at e
    subst e
    rw [hg] at hx
    simp only [Option.some.injEq, Obj.cells.injEq] at hx
    exact hT hx.2.1
theorem Lab.Room.setT {B : Nat} {p : Option Addr} {n c : Nat} {w : World} (h : Lab.Room B p n c w) {g i : Nat} {cur : Array Value} (hg : w.heap[g]? = some (.cells cur 29)) (v : Value) : Lab.Room B p n c (w.setCell ⟨g, i, none⟩ v) := by
  rcases h with h | ⟨g2, cur2, h1, h2, h3, h4⟩
  · exact .inl h
  · exact .inr ⟨g2, cur2, h1, h2, Over.setT hg (by decide) v _ _ h3, h4⟩
theorem Tg.Row.set {B g : Nat} {ts : List Can.T} {k : Nat} {w : World} (h : Tg.Row B g ts k w) (u v : Value) : Tg.Row B g ts (k + 1) ((w.setCell ⟨g, k * 2, none⟩ u).setCell ⟨g, k * 2 + 1, none⟩ v) := by
  obtain ⟨⟨cur, h1, h2, h3⟩, h4⟩ := h
  have q1 := heap_setCell_same w g (k * 2) cur _ u h1
  have q2 := heap_setCell_same _ g (k * 2 + 1) _ _ v q1
  refine ⟨⟨_, q2, by simpa using h2, fun i hi hk => ?_⟩, fun t ht => ((h4 t ht).setT h1 u).setT q1 v⟩
  rw [Array.getElem?_setIfInBounds_ne (by omega), Array.getElem?_setIfInBounds_ne (by omega)]
  exact h3 i hi (by omega)
theorem OwnTs.row {B : Nat} {g n c : Nat} {ts : List Can.T} {w : World} (h : OwnTs B (.slice (some ⟨g, 0, none⟩) n c) ts w) : ts.length = n ∧ Tg.Row B g ts 0 w := by
  obtain ⟨⟨h1, h2⟩, h3⟩ := h
  rcases h2 with ⟨h2, _⟩ | ⟨g2, cap, cur, hv, hg, hh, hn, hc, hcs, ht⟩
  · cases h2
  · simp only [Value.slice.injEq, Option.some.injEq, Addr.mk.injEq, and_true] at hv
    obtain ⟨rfl, hl, rfl⟩ := hv
    refine ⟨hl.symm, ⟨cur, hh, by omega, fun i hi _ => ?_⟩, fun t ht => (h3 t ht).2.room⟩
    have h5 := (Can.tcells_get ts i hi).2
    rw [← ht, List.getElem?_take] at h5
    split at h5
    · rw [Array.getElem?_toList] at h5
      exact h5
    · simp at h5

set_option maxHeartbeats 3200000 in
set_option maxRecDepth 100000 in
theorem spoil_is (B : Nat) (v : Value) (ts : List Can.T) (w : World) (hv : OwnTs B v ts w) (hB : B ≤ w.heap.size) (hl : ts.length ≤ 1000) :
    Calls Try.prog 48 #[v] w fun e w' => e = .returned (.tuple #[]) ∧ Below B w w' := by
  rcases hv.open with ⟨rfl, h0⟩ | ⟨g, c, rfl, hg, hgw, hc, hcm, _⟩
  · go_enter Try.func48, Try.ntmps48
    go_wp2_with fail
    go_loopw [2] (fun i wr => i = .int .i64 0 ∧ wr = w) (fun _ _ => 0)
    case atStart => exact ⟨rfl, rfl⟩
    case round =>
      obtain ⟨rfl, rfl⟩ := hrel
      go_wp2_with fail
      go_end0
      exact ⟨rfl, Below.refl _ _⟩
  · obtain ⟨_, hrow⟩ := hv.row
    obtain ⟨n, hn⟩ : ∃ n, ts.length = n := ⟨_, rfl⟩
    rw [hn] at hl hc ⊢
    have HN := Lib.hid hn
    have HR := Lib.hid hrow
    clear hn hv hrow
    unfold maxLen at hcm
    go_enter Try.func48, Try.ntmps48
    go_wp2_with fail
    go_loopw [2] (fun i wr => ∃ k : Nat, k ≤ n ∧ i = .int .i64 k ∧ Hid (Tg.Row B g ts k wr) ∧ Below B w wr) (fun i _ => n - (intOf i).toNat)
    case atStart => exact ⟨0, Nat.zero_le _, rfl, HR, Below.refl _ _⟩
    case round =>
      obtain ⟨k, hk, rfl, HT, hb⟩ := hrel
      have hsz := hb.size
      by_cases hlt : k < n
      · have hkt : k < ts.length := by rw [HN.out]; exact hlt
        obtain ⟨⟨cur, r1, r2, r3⟩, r4⟩ := HT.out
        have r5 := r3 k hkt (Nat.le_refl _)
        have r6 := r4 ts[k] (List.getElem_mem _)
        obtain ⟨t, ht⟩ : ∃ t, ts[k] = t := ⟨_, rfl⟩
        rw [ht] at r5 r6
        obtain ⟨tj, tp, tn, tc, tl⟩ := t
        dsimp only at r5 r6
        have x1 : wr.cell? ⟨g, k * 2 + 1, none⟩ = some (.slice tp tn tc) := by rw [Lib.cell_of_heap r1, r5]
        have HO := Lib.hid (over_is B tp tn tc wr r6 (by omega))
        have HM := Lib.hid (fun w => mtextany_is 12 k (by omega) (by omega) w)
        have n1 : (0 : Int) ≤ (k : Int) := by omega
        have n2 : (k : Int) < (n : Int) := by omega
        clear r1 r2 r3 r4 r5 r6 ht hkt
        go_wp2_with (go_at_call 80; refine HO.out.mono ?_)
        first | rintro e w1 rfl ho1 hb1 | rintro e w1 ⟨rfl, ho1, hb1⟩
        have HT1 := Lib.hid (HT.out.over ho1)
        have hb2 : Below B w w1 := hb.trans hb1
        have hs2 := hb2.size
        clear x1 ho1
        go_wp2_with (go_at_call 81; refine (HM.out _).mono ?_)
        first | rintro e w2 s rfl hb3 | rintro e w2 ⟨⟨s, rfl⟩, hb3⟩
        have HT2 := Lib.hid (HT1.out.over (Over.below hb3))
        have hb4 : Below B w w2 := hb2.trans (hb3.mono (by omega))
        obtain ⟨⟨cur2, s1, s2, _⟩, _⟩ := HT2.out
        have s3 : k * 2 + 1 < cur2.size := by have := HN.out; omega
        have c0 : w2.cell? ⟨g, k * 2, none⟩ = some cur2[k * 2] := by rw [Lib.cell_of_heap s1, Array.getElem?_eq_getElem (by omega)]
        have c1 : w2.cell? ⟨g, k * 2 + 1, none⟩ = some cur2[k * 2 + 1] := by rw [Lib.cell_of_heap s1, Array.getElem?_eq_getElem (by omega)]
        have f0 : w2.frozen? ⟨g, k * 2, none⟩ = false := Lib.frozen_of_heap s1 _
        have f1 : w2.frozen? ⟨g, k * 2 + 1, none⟩ = false := Lib.frozen_of_heap s1 _
        clear s1 s2
        go_wp2_with fail
        go_roundw
        case rel => exact ⟨k + 1, by omega, by go_num, HT2.out.set _ _, (hb4.setCell (p := ⟨g, k * 2, none⟩) hg _).setCell (p := ⟨g, k * 2 + 1, none⟩) hg _⟩
        case measure => simp [intOf]; omega
      · go_wp2_with fail
        go_end0
        exact ⟨rfl, hb⟩
end Go.Proofs.Ytpnpgjjbincigaa
