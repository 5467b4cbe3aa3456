/- Contracts of the law's helpers: Target, moved, same. (Printed in part by gen_idx.py.) The chapter's example, in plain words; rows that are written out. gaugerlaw35.awake returns true. (Printed by gen_awk5.py.) -/
import Derived.Test.YtpnpgjjbincigaaPoF
import Derived.Deep.RegionHeld3
import Derived.BigQuiet
namespace Go.Proofs.Ytpnpgjjbincigaa
open Go.RowKit
set_option linter.unusedVariables false

theorem enc_ascii (m : Nat) (h : m < 128) : Utf8.encode (m : Int) = ⟨#[UInt8.ofNat m]⟩ := by
  unfold Utf8.encode
  have hv : Utf8.valid (m : Int) = true := by unfold Utf8.valid; simp; omega
  simp only [hv, if_true, Int.toNat_natCast]
  rw [if_pos (by omega)]
/-- the n-th target -/
def Po.tgt (n : Nat) : Po.U := (⟨#[106]⟩, [⟨⟨#[95, 95, 97, 100, 100, 114, 101, 115, 115, 95, 95]⟩, ⟨#[UInt8.ofNat (97 + n % 26), 58, 56, 48]⟩⟩])
set_option maxHeartbeats 1600000 in
set_option maxRecDepth 100000 in
theorem target_is (n : Nat) (hn : n ≤ 1000) (w : World) : Calls Try.prog 15 #[.int .i64 (n : Int)] w fun e w' => (∃ t : Can.T, e = .returned (.agg #[.string t.job, .slice t.p t.n t.c]) ∧ OwnT w.heap.size t w' ∧ Po.tv t = Po.tgt n) ∧ Below w.heap.size w w' := by
  have r1 : Int.tmod (n : Int) 26 = ((n % 26 : Nat) : Int) := by rw [Int.tmod_eq_emod_of_nonneg (by omega)]; omega
  obtain ⟨m, hm⟩ : ∃ m, n % 26 = m := ⟨_, rfl⟩
  have hm26 : m < 26 := by omega
  rw [hm] at r1
  obtain ⟨z, hz⟩ : ∃ z : Int, z = (97 + m : Nat) := ⟨_, rfl⟩
  have r2 : IntKind.i64.wrap ((m : Nat) : Int) = (m : Int) := by rw [IntKind.wrap_i64]; omega
  have r3 : IntKind.i64.wrap (97 + (m : Int)) = z := by rw [IntKind.wrap_i64]; omega
  have r4 : IntKind.i32.wrap z = z := by
    unfold IntKind.wrap; simp [IntKind.bits, IntKind.signed]; omega
  obtain ⟨sv, hs⟩ : ∃ sv : ByteArray, sv = ⟨#[UInt8.ofNat (97 + m)]⟩ := ⟨_, rfl⟩
  have r5 : Utf8.encode z = sv := by rw [hz, hs]; exact enc_ascii (97 + m) (by omega)
  have r6 : sv.size = 1 := by rw [hs]; rfl
  have HV : Hid (sv ++ ⟨#[58, 56, 48]⟩ = ⟨#[UInt8.ofNat (97 + m), 58, 56, 48]⟩) := by show _ = _; rw [hs]; rfl
  have HM := Lib.hid hm
  clear hz hs hm
  go_enter Try.func15, Try.ntmps15
  go_wp2_with fail
  obtain ⟨W1, hW1⟩ : ∃ W1, W1 = w.alloc (.cells #[.string ⟨#[106]⟩, .slice (some ⟨w.heap.size + 1, 0, none⟩) 1 1] 29) := ⟨_, rfl⟩
  have hs1 : W1.heap.size = w.heap.size + 1 := by rw [hW1]; simp
  rw [← hW1]
  have k1 := alloc_new W1 (.cells #[.string ⟨#[95, 95, 97, 100, 100, 114, 101, 115, 115, 95, 95]⟩, .string (sv ++ ⟨#[58, 56, 48]⟩)] 37)
  rw [hs1] at k1
  have k0 : (W1.alloc (.cells #[.string ⟨#[95, 95, 97, 100, 100, 114, 101, 115, 115, 95, 95]⟩, .string (sv ++ ⟨#[58, 56, 48]⟩)] 37)).heap[w.heap.size]? = some (.cells #[.string ⟨#[106]⟩, .slice (some ⟨w.heap.size + 1, 0, none⟩) 1 1] 29) := alloc_kept (by rw [hW1]; exact alloc_new _ _)
  have d0 := Lib.cell_of_heap k0
  have e0 := d0 0
  have e1 := d0 1
  have hO : OwnLabels w.heap.size (.slice (some ⟨w.heap.size + 1, 0, none⟩) 1 1) [⟨⟨#[95, 95, 97, 100, 100, 114, 101, 115, 115, 95, 95]⟩, sv ++ ⟨#[58, 56, 48]⟩⟩] (W1.alloc (.cells #[.string ⟨#[95, 95, 97, 100, 100, 114, 101, 115, 115, 95, 95]⟩, .string (sv ++ ⟨#[58, 56, 48]⟩)] 37)) :=
    ⟨by rfl, .inr ⟨_, 1, _, rfl, by omega, k1, Nat.le_refl _, by decide, rfl, rfl⟩⟩
  have hT : OwnT w.heap.size ⟨⟨#[106]⟩, some ⟨w.heap.size + 1, 0, none⟩, 1, 1, [⟨⟨#[95, 95, 97, 100, 100, 114, 101, 115, 115, 95, 95]⟩, sv ++ ⟨#[58, 56, 48]⟩⟩]⟩ _ := ⟨rfl, hO⟩
  refine bodyPost_ret (v := .agg #[.string ⟨#[106]⟩, .slice (some ⟨w.heap.size + 1, 0, none⟩) 1 1]) ?_ rfl ⟨⟨_, rfl, hT, ?_⟩, ?_⟩
  · generalize (W1.alloc (.cells #[.string ⟨#[95, 95, 97, 100, 100, 114, 101, 115, 115, 95, 95]⟩, .string (sv ++ ⟨#[58, 56, 48]⟩)] 37)) = W at e0 e1
    simp at e0 e1
    simp [results, Try.results15, go_sem, e0, e1]
  · unfold Po.tv Po.tgt
    rw [HV.out, HM.out]
  · exact ((by rw [hW1]; exact (Below.refl _ w).alloc (Nat.le_refl _) _ : Below w.heap.size w W1)).alloc (by omega) _
/-- moves at a place, with their labels -/
def Po.MAt (p : Option Addr) (l : List Mv) (w : World) : Prop := mvR.Lies p l w ∧ ∀ m ∈ l, Lab.At m.t.p m.t.ls w
theorem Po.MAt.below {p : Option Addr} {l : List Mv} {B : Nat} {w w' : World} (h : Po.MAt p l w) (hb : Below B w w') (hB : w.heap.size ≤ B) : Po.MAt p l w' :=
  ⟨h.1.below mvOk hb hB, fun s hs => (h.2 s hs).below hb hB⟩
theorem Po.MAt.cells {p : Option Addr} {l : List Mv} {w : World} (h : Po.MAt p l w) (h0 : 0 < l.length) : ∃ b o, p = some ⟨b, o, none⟩ ∧ ∀ i (hi : i < l.length),
    w.cell? ⟨b, o + i * 3, none⟩ = some (.int .u8 l[i].kind) ∧ w.cell? ⟨b, o + i * 3 + 1, none⟩ = some (.string l[i].t.job) ∧ w.cell? ⟨b, o + i * 3 + 2, none⟩ = some (.slice l[i].t.p l[i].t.n l[i].t.c) := by
  rcases h.1 with h1 | ⟨b, o, hp, hc⟩
  · rw [h1] at h0; cases h0
  · refine ⟨b, o, hp, fun i hi => ?_⟩
    have := hc i hi
    exact ⟨this 0 (by decide), this 1 (by decide), this 2 (by decide)⟩

set_option maxHeartbeats 1600000 in
set_option maxRecDepth 100000 in
theorem eqfM_is (p q : Option Addr) (l r : List Mv) (n c c2 : Nat) (w : World) (hn : l.length = n) (hm : r.length = n) (hA : Po.MAt p l w) (hB : Po.MAt q r w) (hl : n ≤ 1000000)
    (HG : ∀ i (h : i < l.length) (h2 : i < r.length) w', Below w.heap.size w w' → Calls Try.prog 69 #[.agg #[.int .u8 l[i].kind, .string l[i].t.job, .slice l[i].t.p l[i].t.n l[i].t.c], .agg #[.int .u8 r[i].kind, .string r[i].t.job, .slice r[i].t.p r[i].t.n r[i].t.c]] w' fun e w'' => e = .returned (.bool true) ∧ Below w'.heap.size w' w'') :
    Calls Try.prog 68 #[.slice p n c, .slice q n c2, .func (.func 69) #[] #[]] w fun e w' => e = .returned (.bool true) ∧ Below w.heap.size w w' := by
  have HN := Lib.hid hn
  have HM := Lib.hid hm
  have HA := Lib.hid hA
  have HB := Lib.hid hB
  have HG := Lib.hid HG
  have q0 : ((n : Int) != (n : Int)) = false := by simp
  clear hn hm hA hB
  go_enter Try.func68, Try.ntmps68
  go_wp2_with fail
  go_loopw [17] (fun i wr => ∃ k : Nat, k ≤ n ∧ i = .int .i64 (k : Int) ∧ Hid (Below w.heap.size w wr)) (fun i _ => n - (intOf i).toNat)
  case atStart => exact ⟨0, Nat.zero_le _, rfl, Below.refl _ _⟩
  case round =>
    obtain ⟨wj, rfl⟩ : ∃ wo : World, wo = wr := ⟨_, rfl⟩
    obtain ⟨k, hk, rfl, HB0⟩ := hrel
    by_cases hlt : k < n
    · have hkl : k < l.length := by rw [HN.out]; exact hlt
      have hkr : k < r.length := by rw [HM.out]; exact hlt
      obtain ⟨b, o, rfl, hc⟩ := HA.out.cells (by omega)
      obtain ⟨b2, o2, rfl, hc2⟩ := HB.out.cells (by omega)
      obtain ⟨d0, d1, d2⟩ := hc k hkl
      obtain ⟨e0, e1, e2⟩ := hc2 k hkr
      have hb : b < w.heap.size := World.block_lt_of_cell? _ _ d0
      have hb2 : b2 < w.heap.size := World.block_lt_of_cell? _ _ e0
      replace d0 := (HB0.out.cell (p := ⟨b, o + k * 3, none⟩) hb).trans d0
      replace d1 := (HB0.out.cell (p := ⟨b, o + k * 3 + 1, none⟩) hb).trans d1
      replace d2 := (HB0.out.cell (p := ⟨b, o + k * 3 + 2, none⟩) hb).trans d2
      replace e0 := (HB0.out.cell (p := ⟨b2, o2 + k * 3, none⟩) hb2).trans e0
      replace e1 := (HB0.out.cell (p := ⟨b2, o2 + k * 3 + 1, none⟩) hb2).trans e1
      replace e2 := (HB0.out.cell (p := ⟨b2, o2 + k * 3 + 2, none⟩) hb2).trans e2
      have HX := Lib.hid (HG.out k hkl hkr)
      obtain ⟨x, hx⟩ : ∃ x, l[k] = x := ⟨_, rfl⟩
      obtain ⟨y, hy⟩ : ∃ y, r[k] = y := ⟨_, rfl⟩
      rw [hx] at d0 d1 d2
      rw [hy] at e0 e1 e2
      rw [hx, hy] at HX
      have hsz := HB0.out.size
      have hbj : b < wj.heap.size := by omega
      have hbj2 : b2 < wj.heap.size := by omega
      have HB1 : Hid (Below w.heap.size w ((wj.alloc (.cells #[.int .u8 x.kind, .string x.t.job, .slice x.t.p x.t.n x.t.c] 62)).alloc (.cells #[.int .u8 y.kind, .string y.t.job, .slice y.t.p y.t.n y.t.c] 62))) := (HB0.out.alloc hsz _).alloc (by simp; omega) _
      have k1 : ((wj.alloc (.cells #[.int .u8 x.kind, .string x.t.job, .slice x.t.p x.t.n x.t.c] 62)).alloc (.cells #[.int .u8 y.kind, .string y.t.job, .slice y.t.p y.t.n y.t.c] 62)).heap[wj.heap.size]? = some (.cells #[.int .u8 x.kind, .string x.t.job, .slice x.t.p x.t.n x.t.c] 62) := alloc_kept (alloc_new _ _)
      have k2 : ((wj.alloc (.cells #[.int .u8 x.kind, .string x.t.job, .slice x.t.p x.t.n x.t.c] 62)).alloc (.cells #[.int .u8 y.kind, .string y.t.job, .slice y.t.p y.t.n y.t.c] 62)).heap[wj.heap.size + 1]? = some (.cells #[.int .u8 y.kind, .string y.t.job, .slice y.t.p y.t.n y.t.c] 62) := by simpa using alloc_new (wj.alloc (.cells #[.int .u8 x.kind, .string x.t.job, .slice x.t.p x.t.n x.t.c] 62)) (.cells #[.int .u8 y.kind, .string y.t.job, .slice y.t.p y.t.n y.t.c] 62)
      have n1 : (0 : Int) ≤ (k : Int) := by omega
      have n2 : (k : Int) < (n : Int) := by omega
      clear hx hy hc hc2 k1 k2
      go_wp2_with (go_at_call 69; refine (HX.out _ HB1.out).mono ?_)
      first | rintro e w3 rfl hb3 | rintro e w3 ⟨rfl, hb3⟩
      have hb4 : Below w.heap.size w w3 := HB1.out.trans (hb3.mono (by first | omega | (simp; omega)))
      clear hb3
      go_wp2_with fail
      go_roundw
      case rel => exact ⟨k + 1, by omega, by go_num, hb4⟩
      case measure => simp [intOf]; omega
    · have n2 : (n : Int) ≤ (k : Int) := by omega
      go_wp2_with fail
      go_ret
      exact ⟨rfl, HB0.out⟩

set_option maxHeartbeats 1600000 in
set_option maxRecDepth 100000 in
theorem eqfS_is (p q : Option Addr) (l r : List Sl) (n c c2 : Nat) (w : World) (hn : l.length = n) (hm : r.length = n) (hA : Po.At p l w) (hB : Po.At q r w) (hl : n ≤ 1000000)
    (HG : ∀ i (h : i < l.length) (h2 : i < r.length) w', Below w.heap.size w w' → Calls Try.prog 53 #[.agg #[.string l[i].t.job, .slice l[i].t.p l[i].t.n l[i].t.c, .int .i64 l[i].ev, .int .i64 l[i].ti, .bool l[i].en], .agg #[.string r[i].t.job, .slice r[i].t.p r[i].t.n r[i].t.c, .int .i64 r[i].ev, .int .i64 r[i].ti, .bool r[i].en]] w' fun e w'' => e = .returned (.bool true) ∧ Below w'.heap.size w' w'') :
    Calls Try.prog 52 #[.slice p n c, .slice q n c2, .func (.func 53) #[] #[]] w fun e w' => e = .returned (.bool true) ∧ Below w.heap.size w w' := by
  have HN := Lib.hid hn
  have HM := Lib.hid hm
  have HA := Lib.hid hA
  have HB := Lib.hid hB
  have HG := Lib.hid HG
  have q0 : ((n : Int) != (n : Int)) = false := by simp
  clear hn hm hA hB
  go_enter Try.func52, Try.ntmps52
  go_wp2_with fail
  go_loopw [17] (fun i wr => ∃ k : Nat, k ≤ n ∧ i = .int .i64 (k : Int) ∧ Hid (Below w.heap.size w wr)) (fun i _ => n - (intOf i).toNat)
  case atStart => exact ⟨0, Nat.zero_le _, rfl, Below.refl _ _⟩
  case round =>
    obtain ⟨wj, rfl⟩ : ∃ wo : World, wo = wr := ⟨_, rfl⟩
    obtain ⟨k, hk, rfl, HB0⟩ := hrel
    by_cases hlt : k < n
    · have hkl : k < l.length := by rw [HN.out]; exact hlt
      have hkr : k < r.length := by rw [HM.out]; exact hlt
      obtain ⟨b, o, rfl, hc⟩ := HA.out.cells (by omega)
      obtain ⟨b2, o2, rfl, hc2⟩ := HB.out.cells (by omega)
      obtain ⟨d0, d1, d2, d3, d4⟩ := hc k hkl
      obtain ⟨e0, e1, e2, e3, e4⟩ := hc2 k hkr
      have hb : b < w.heap.size := World.block_lt_of_cell? _ _ d0
      have hb2 : b2 < w.heap.size := World.block_lt_of_cell? _ _ e0
      replace d0 := (HB0.out.cell (p := ⟨b, o + k * 5, none⟩) hb).trans d0
      replace d1 := (HB0.out.cell (p := ⟨b, o + k * 5 + 1, none⟩) hb).trans d1
      replace d2 := (HB0.out.cell (p := ⟨b, o + k * 5 + 2, none⟩) hb).trans d2
      replace d3 := (HB0.out.cell (p := ⟨b, o + k * 5 + 3, none⟩) hb).trans d3
      replace d4 := (HB0.out.cell (p := ⟨b, o + k * 5 + 4, none⟩) hb).trans d4
      replace e0 := (HB0.out.cell (p := ⟨b2, o2 + k * 5, none⟩) hb2).trans e0
      replace e1 := (HB0.out.cell (p := ⟨b2, o2 + k * 5 + 1, none⟩) hb2).trans e1
      replace e2 := (HB0.out.cell (p := ⟨b2, o2 + k * 5 + 2, none⟩) hb2).trans e2
      replace e3 := (HB0.out.cell (p := ⟨b2, o2 + k * 5 + 3, none⟩) hb2).trans e3
      replace e4 := (HB0.out.cell (p := ⟨b2, o2 + k * 5 + 4, none⟩) hb2).trans e4
      have HX := Lib.hid (HG.out k hkl hkr)
      obtain ⟨x, hx⟩ : ∃ x, l[k] = x := ⟨_, rfl⟩
      obtain ⟨y, hy⟩ : ∃ y, r[k] = y := ⟨_, rfl⟩
      rw [hx] at d0 d1 d2 d3 d4
      rw [hy] at e0 e1 e2 e3 e4
      rw [hx, hy] at HX
      have hsz := HB0.out.size
      have hbj : b < wj.heap.size := by omega
      have hbj2 : b2 < wj.heap.size := by omega
      have HB1 : Hid (Below w.heap.size w ((wj.alloc (.cells #[.string x.t.job, .slice x.t.p x.t.n x.t.c, .int .i64 x.ev, .int .i64 x.ti, .bool x.en] 33)).alloc (.cells #[.string y.t.job, .slice y.t.p y.t.n y.t.c, .int .i64 y.ev, .int .i64 y.ti, .bool y.en] 33))) := (HB0.out.alloc hsz _).alloc (by simp; omega) _
      have k1 : ((wj.alloc (.cells #[.string x.t.job, .slice x.t.p x.t.n x.t.c, .int .i64 x.ev, .int .i64 x.ti, .bool x.en] 33)).alloc (.cells #[.string y.t.job, .slice y.t.p y.t.n y.t.c, .int .i64 y.ev, .int .i64 y.ti, .bool y.en] 33)).heap[wj.heap.size]? = some (.cells #[.string x.t.job, .slice x.t.p x.t.n x.t.c, .int .i64 x.ev, .int .i64 x.ti, .bool x.en] 33) := alloc_kept (alloc_new _ _)
      have k2 : ((wj.alloc (.cells #[.string x.t.job, .slice x.t.p x.t.n x.t.c, .int .i64 x.ev, .int .i64 x.ti, .bool x.en] 33)).alloc (.cells #[.string y.t.job, .slice y.t.p y.t.n y.t.c, .int .i64 y.ev, .int .i64 y.ti, .bool y.en] 33)).heap[wj.heap.size + 1]? = some (.cells #[.string y.t.job, .slice y.t.p y.t.n y.t.c, .int .i64 y.ev, .int .i64 y.ti, .bool y.en] 33) := by simpa using alloc_new (wj.alloc (.cells #[.string x.t.job, .slice x.t.p x.t.n x.t.c, .int .i64 x.ev, .int .i64 x.ti, .bool x.en] 33)) (.cells #[.string y.t.job, .slice y.t.p y.t.n y.t.c, .int .i64 y.ev, .int .i64 y.ti, .bool y.en] 33)
      have n1 : (0 : Int) ≤ (k : Int) := by omega
      have n2 : (k : Int) < (n : Int) := by omega
      clear hx hy hc hc2 k1 k2
      go_wp2_with (go_at_call 53; refine (HX.out _ HB1.out).mono ?_)
      first | rintro e w3 rfl hb3 | rintro e w3 ⟨rfl, hb3⟩
      have hb4 : Below w.heap.size w w3 := HB1.out.trans (hb3.mono (by first | omega | (simp; omega)))
      clear hb3
      go_wp2_with fail
      go_roundw
      case rel => exact ⟨k + 1, by omega, by go_num, hb4⟩
      case measure => simp [intOf]; omega
    · have n2 : (n : Int) ≤ (k : Int) := by omega
      go_wp2_with fail
      go_ret
      exact ⟨rfl, HB0.out⟩

set_option maxHeartbeats 1600000 in
theorem moved1_is (x y : Mv) (h : Mv.view x = Mv.view y) (w : World) (hx : x.t.ls.length = x.t.n) (hy : y.t.ls.length = y.t.n) (hA : Lab.At x.t.p x.t.ls w) (hB : Lab.At y.t.p y.t.ls w) (hl : x.t.n ≤ maxLen) :
    Calls Try.prog 69 #[.agg #[.int .u8 x.kind, .string x.t.job, .slice x.t.p x.t.n x.t.c], .agg #[.int .u8 y.kind, .string y.t.job, .slice y.t.p y.t.n y.t.c]] w fun e w' => e = .returned (.bool true) ∧ Below w.heap.size w w' := by
  obtain ⟨k, j, p, n, c, ls⟩ := x
  obtain ⟨k2, j2, p2, n2, c2, ls2⟩ := y
  dsimp only at hx hy hA hB hl ⊢
  simp only [Mv.view, Prod.mk.injEq] at h
  obtain ⟨rfl, rfl, rfl⟩ := h
  obtain rfl : n = n2 := hx.symm.trans hy
  have q1 : (k == k) = true := by simp
  have HS := Lib.hid (fun w hA hB => sametarget_true j p p2 ls n c c2 w hx hA hB hl)
  have HA := Lib.hid ((hA.alloc (.cells #[.int .u8 k, .string j, .slice p n c] 62)).alloc (.cells #[.int .u8 k, .string j, .slice p2 n c2] 62))
  have HB := Lib.hid ((hB.alloc (.cells #[.int .u8 k, .string j, .slice p n c] 62)).alloc (.cells #[.int .u8 k, .string j, .slice p2 n c2] 62))
  clear hx hy hA hB hl
  go_enter Try.func69, Try.ntmps69
  go_wp2_with (go_at_call 19; refine (HS.out _ HA.out HB.out).mono ?_)
  first | rintro e w1 rfl hb1 | rintro e w1 ⟨rfl, hb1⟩
  go_wp2_with fail
  go_ret
  exact ⟨rfl, (((Below.refl _ _).alloc (Nat.le_refl _) _).alloc (by simp) _).trans (hb1.mono (by simp; omega))⟩
set_option maxHeartbeats 1600000 in
theorem same1_is (x y : Sl) (h : Sl.view x = Sl.view y) (w : World) (hx : x.t.ls.length = x.t.n) (hy : y.t.ls.length = y.t.n) (hA : Lab.At x.t.p x.t.ls w) (hB : Lab.At y.t.p y.t.ls w) (hl : x.t.n ≤ maxLen) :
    Calls Try.prog 53 #[.agg #[.string x.t.job, .slice x.t.p x.t.n x.t.c, .int .i64 x.ev, .int .i64 x.ti, .bool x.en], .agg #[.string y.t.job, .slice y.t.p y.t.n y.t.c, .int .i64 y.ev, .int .i64 y.ti, .bool y.en]] w fun e w' => e = .returned (.bool true) ∧ Below w.heap.size w w' := by
  obtain ⟨⟨j, p, n, c, ls⟩, ev, ti, en⟩ := x
  obtain ⟨⟨j2, p2, n2, c2, ls2⟩, ev2, ti2, en2⟩ := y
  dsimp only at hx hy hA hB hl ⊢
  simp only [Sl.view, Prod.mk.injEq] at h
  obtain ⟨rfl, rfl, rfl, rfl, rfl⟩ := h
  obtain rfl : n = n2 := hx.symm.trans hy
  have q1 : (ev == ev) = true := by simp
  have q2 : (ti == ti) = true := by simp
  have q3 : (en == en) = true := by simp
  have HS := Lib.hid (fun w hA hB => sametarget_true j p p2 ls n c c2 w hx hA hB hl)
  have HA := Lib.hid ((hA.alloc (.cells #[.string j, .slice p n c, .int .i64 ev, .int .i64 ti, .bool en] 33)).alloc (.cells #[.string j, .slice p2 n c2, .int .i64 ev, .int .i64 ti, .bool en] 33))
  have HB := Lib.hid ((hB.alloc (.cells #[.string j, .slice p n c, .int .i64 ev, .int .i64 ti, .bool en] 33)).alloc (.cells #[.string j, .slice p2 n c2, .int .i64 ev, .int .i64 ti, .bool en] 33))
  clear hx hy hA hB hl
  go_enter Try.func53, Try.ntmps53
  go_wp2_with (go_at_call 19; refine (HS.out _ HA.out HB.out).mono ?_)
  first | rintro e w1 rfl hb1 | rintro e w1 ⟨rfl, hb1⟩
  go_wp2_with fail
  go_ret
  exact ⟨rfl, (((Below.refl _ _).alloc (Nat.le_refl _) _).alloc (by simp) _).trans (hb1.mono (by simp; omega))⟩

theorem view_get {α β : Type} {f : α → β} {a b : List α} (h : a.map f = b.map f) (i : Nat) (h1 : i < a.length) (h2 : i < b.length) : f a[i] = f b[i] := by
  have := congrArg (fun l => l[i]?) h
  simp only [List.getElem?_map, List.getElem?_eq_getElem h1, List.getElem?_eq_getElem h2, Option.map_some, Option.some.injEq] at this
  exact this
set_option maxHeartbeats 1600000 in
theorem moved_is (p q : Option Addr) (a b : List Mv) (n m c c2 : Nat) (h : a.map Mv.view = b.map Mv.view) (w : World) (hn : a.length = n) (hm : b.length = m) (hA : Po.MAt p a w) (hB : Po.MAt q b w) (hF : ∀ x ∈ a, x.t.ls.length = x.t.n ∧ x.t.n ≤ maxLen) (hG : ∀ x ∈ b, x.t.ls.length = x.t.n) (hl : n ≤ 1000000) :
    Calls Try.prog 33 #[.slice p n c, .slice q m c2] w fun e w' => e = .returned (.bool true) ∧ Below w.heap.size w w' := by
  obtain rfl : n = m := by
    have := congrArg List.length h
    rw [List.length_map, List.length_map] at this
    omega
  have HE := Lib.hid (eqfM_is p q a b n c c2 w hn hm hA hB hl (fun i h1 h2 w' hb => moved1_is a[i] b[i] (view_get h i h1 h2) w' (hF _ (List.getElem_mem _)).1 (hG _ (List.getElem_mem _)) ((hA.2 _ (List.getElem_mem _)).below hb (Nat.le_refl _)) ((hB.2 _ (List.getElem_mem _)).below hb (Nat.le_refl _)) (hF _ (List.getElem_mem _)).2))
  clear h hn hm hA hB hF hG
  go_enter Try.func33, Try.ntmps33
  go_wp2_with (go_at_call 68; refine HE.out.mono ?_)
  first | rintro e w1 rfl hb1 | rintro e w1 ⟨rfl, hb1⟩
  go_wp2_with fail
  go_ret
  exact ⟨rfl, hb1⟩
set_option maxHeartbeats 1600000 in
theorem same35_is (p q : Option Addr) (a b : List Sl) (n m c c2 : Nat) (h : a.map Sl.view = b.map Sl.view) (w : World) (hn : a.length = n) (hm : b.length = m) (hA : Po.At p a w) (hB : Po.At q b w) (hF : ∀ x ∈ a, x.t.ls.length = x.t.n ∧ x.t.n ≤ maxLen) (hG : ∀ x ∈ b, x.t.ls.length = x.t.n) (hl : n ≤ 1000000) :
    Calls Try.prog 22 #[.slice p n c, .slice q m c2] w fun e w' => e = .returned (.bool true) ∧ Below w.heap.size w w' := by
  obtain rfl : n = m := by
    have := congrArg List.length h
    rw [List.length_map, List.length_map] at this
    omega
  have HE := Lib.hid (eqfS_is p q a b n c c2 w hn hm hA hB hl (fun i h1 h2 w' hb => same1_is a[i] b[i] (view_get h i h1 h2) w' (hF _ (List.getElem_mem _)).1 (hG _ (List.getElem_mem _)) ((hA.2 _ (List.getElem_mem _)).below hb (Nat.le_refl _)) ((hB.2 _ (List.getElem_mem _)).below hb (Nat.le_refl _)) (hF _ (List.getElem_mem _)).2))
  clear h hn hm hA hB hF hG
  go_enter Try.func22, Try.ntmps22
  go_wp2_with (go_at_call 52; refine HE.out.mono ?_)
  first | rintro e w1 rfl hb1 | rintro e w1 ⟨rfl, hb1⟩
  go_wp2_with fail
  go_ret
  exact ⟨rfl, hb1⟩
end Go.Proofs.Ytpnpgjjbincigaa
namespace Go.Proofs.Ytpnpgjjbincigaa
open Go.RowKit
set_option linter.unusedVariables false

def Awk.v (n : Nat) (ev ti : Int) (en : Bool) : Po.V := ((Po.tgt n).1, (Po.tgt n).2, ev, ti, en)
theorem Awk.s1 : Po.sync [Awk.v 0 10 5 false, Awk.v 1 10 5 false, Awk.v 2 10 5 true] [Po.tgt 3, Po.tgt 0, Po.tgt 2, Po.tgt 0] 10 5 =
    (0, [Awk.v 0 10 5 false, Awk.v 1 10 5 true, Awk.v 2 10 5 true, Awk.v 3 10 5 false], [(2, Po.tgt 1), (3, Po.tgt 2), (1, Po.tgt 3)]) := by kernel_rfl
theorem Awk.s2 : Po.endS [Awk.v 0 10 5 false, Awk.v 1 10 5 true, Awk.v 2 10 5 true, Awk.v 3 10 5 false] (Po.tgt 2) = (0, [Awk.v 0 10 5 false, Awk.v 1 10 5 true, Awk.v 3 10 5 false]) := by kernel_rfl
theorem Awk.s3 : Po.sync [Awk.v 0 10 5 false, Awk.v 1 10 5 true, Awk.v 3 10 5 false] [Po.tgt 0, Po.tgt 2, Po.tgt 3] 10 5 =
    (0, [Awk.v 0 10 5 false, Awk.v 1 10 5 true, Awk.v 2 10 5 false, Awk.v 3 10 5 false], [(1, Po.tgt 2)]) := by kernel_rfl
theorem Awk.s4 : Po.sync [Awk.v 0 10 5 false] [Po.tgt 0] 10 4 = (0, [Awk.v 0 10 5 true], [(2, Po.tgt 0), (3, Po.tgt 0)]) := by kernel_rfl
theorem Awk.s5 : Po.runs [Awk.v 0 10 5 false, Awk.v 1 10 5 true, Awk.v 2 10 5 false, Awk.v 3 10 5 false] = [Po.tgt 0, Po.tgt 2, Po.tgt 3] := by kernel_rfl

theorem OwnR.made {α : Type} {R : Rec α} (ok : R.Ok) {B g : Nat} {l : List α} {n : Nat} {C : Array Value} {w : World} (hg : B ≤ g) (hC : C = (R.cells l).toArray) (hn : l.length = n) (hl : n ≤ 1000000) (h : w.heap[g]? = some (.cells C R.T)) : OwnR R B (.slice (some ⟨g, 0, none⟩) n n) l w := by
  subst hn
  subst hC
  refine ⟨ok.length l, .inr ⟨g, l.length, _, rfl, hg, h, Nat.le_refl _, by unfold maxLen; omega, ?_, ?_⟩⟩
  · rw [List.size_toArray]; exact ok.length l
  · rw [List.toList_toArray]; exact List.take_of_length_le (by rw [ok.length l]; exact Nat.le_refl _)
theorem OwnT.at {B : Nat} {t : Can.T} {w : World} (h : OwnT B t w) : Lab.At t.p t.ls w := by
  obtain ⟨p', c', e, hA, _⟩ := OwnLabels.open h.2
  simp only [Value.slice.injEq] at e
  rw [e.1]
  exact hA
theorem OwnT.any {B : Nat} {t : Can.T} {w : World} (h : OwnT B t w) : t.p = none → t.c = 0 := fun e => by
  obtain ⟨_, _, h2⟩ := h
  rcases h2 with ⟨h2, _⟩ | ⟨g, cap, cur, hv, _⟩
  · simp only [Value.slice.injEq] at h2; exact h2.2.2
  · simp only [Value.slice.injEq] at hv; rw [e] at hv; cases hv.1
/-- targets whose labels are the call's own are fit to be handed on -/
theorem OwnT.tany {B : Nat} {t : Can.T} {w : World} (h : OwnT B t w) (h1 : t.job.size ≤ maxLen) (h2 : Lab.Fit maxLen t.ls) (h3 : t.n ≤ maxLen) : Can.TAny t := ⟨h1, h.1, h2, h.any, h3⟩
theorem Po.Rows.at {B : Nat} {p : Option Addr} {n c : Nat} {vm : Value} {ss : List Sl} {ms : List Mv} {w : World} (h : Po.Rows B (.slice p n c) vm ss ms w) : Po.At p ss w ∧ ss.length = n := by
  refine ⟨⟨h.rs.lies slOk, fun s hs => (h.ts s hs).at⟩, ?_⟩
  obtain ⟨p', c', e, _⟩ := h.rs.shape
  simp only [Value.slice.injEq] at e
  exact e.2.1.symm
theorem Po.Rows.mat {B : Nat} {p : Option Addr} {n c : Nat} {vs : Value} {ss : List Sl} {ms : List Mv} {w : World} (h : Po.Rows B vs (.slice p n c) ss ms w) : Po.MAt p ms w ∧ ms.length = n := by
  refine ⟨⟨h.rm.lies mvOk, fun s hs => (h.tm s hs).at⟩, ?_⟩
  obtain ⟨p', c', e, _⟩ := h.rm.shape
  simp only [Value.slice.injEq] at e
  exact e.2.1.symm
theorem Po.Rows.form {B : Nat} {vs vm : Value} {ss : List Sl} {ms : List Mv} {w : World} (h : Po.Rows B vs vm ss ms w) : (∃ p c, vs = .slice p ss.length c ∧ ss.length ≤ c ∧ c ≤ maxLen) ∧ ∃ p c, vm = .slice p ms.length c ∧ ms.length ≤ c ∧ c ≤ maxLen := by
  obtain ⟨p, c, e, h1, h2, _⟩ := h.rs.shape
  obtain ⟨p', c', e', h1', h2', _⟩ := h.rm.shape
  exact ⟨⟨p, c, e, h1, h2⟩, ⟨p', c', e', h1', h2'⟩⟩
/-- small targets are fit -/
def Po.okU (u : Po.U) : Prop := u.1.size ≤ 1000 ∧ Lab.Fit 2000 u.2 ∧ u.2.length ≤ 1000
theorem Po.tgt_ok (n : Nat) : Po.okU (Po.tgt n) := by
  refine ⟨(by show 1 ≤ 1000; decide), ?_, (by show 1 ≤ 1000; decide)⟩
  intro x hx
  unfold Po.tgt at hx
  simp only [List.mem_singleton] at hx
  subst hx
  exact ⟨(by show 11 ≤ 2000; decide), (by show 4 ≤ 2000; decide)⟩
theorem Po.okU.any {B : Nat} {t : Can.T} {w : World} (h : OwnT B t w) (hu : Po.okU (Po.tv t)) : Can.TAny t :=
  h.tany (Nat.le_trans hu.1 (by decide)) (fun x hx => ⟨Nat.le_trans (hu.2.1 x hx).1 (by decide), Nat.le_trans (hu.2.1 x hx).2 (by decide)⟩) (by have := h.1; have h3 : t.ls.length ≤ 1000 := hu.2.2; unfold maxLen; omega)
theorem Awk.v_ok (n : Nat) (ev ti : Int) (en : Bool) : Po.okU (Po.vu (Awk.v n ev ti en)) := Po.tgt_ok n
theorem Awk.ok1 {ss : List Sl} (h : ss.map Sl.view = [Awk.v 0 10 5 false, Awk.v 1 10 5 true, Awk.v 2 10 5 true, Awk.v 3 10 5 false]) : ∀ s ∈ ss, Po.okU (Po.tv s.t) := fun s hs => by
  have h1 : Sl.view s ∈ ss.map Sl.view := List.mem_map_of_mem hs
  rw [h] at h1
  simp only [List.mem_cons, List.not_mem_nil, or_false] at h1
  show Po.okU (Po.vu (Sl.view s))
  rcases h1 with e | e | e | e <;> (rw [e]; exact Awk.v_ok _ _ _ _)
theorem Awk.ok2 {ss : List Sl} (h : ss.map Sl.view = [Awk.v 0 10 5 false, Awk.v 1 10 5 true, Awk.v 3 10 5 false]) : ∀ s ∈ ss, Po.okU (Po.tv s.t) := fun s hs => by
  have h1 : Sl.view s ∈ ss.map Sl.view := List.mem_map_of_mem hs
  rw [h] at h1
  simp only [List.mem_cons, List.not_mem_nil, or_false] at h1
  show Po.okU (Po.vu (Sl.view s))
  rcases h1 with e | e | e <;> (rw [e]; exact Awk.v_ok _ _ _ _)
theorem Po.slots_first {g : Nat} {s : Sl} {C : Array Value} {w : World} (hC : C.toList.take 5 = Sl.enc s) (h : w.heap[g]? = some (.cells C 33)) (hL : ∀ x ∈ [s], Lab.At x.t.p x.t.ls w) : Po.At (some ⟨g, 0, none⟩) [s] w := by
  refine ⟨.inr ⟨g, 0, rfl, fun i hi j hj => ?_⟩, hL⟩
  obtain rfl : i = 0 := by simpa using hi
  have hj5 : j < 5 := hj
  rw [Lib.cell_of_heap h]
  show C[0 + 0 * slR.k + j]? = (Sl.enc s)[j]?
  have e : 0 + 0 * slR.k + j = j := by rw [Nat.zero_mul]; omega
  rw [e, ← hC, List.getElem?_take_of_lt hj5, Array.getElem?_toList]
theorem view_at {α β : Type} {f : α → β} {l : List α} {r : List β} (h : l.map f = r) (i : Nat) (h1 : i < l.length) (h2 : i < r.length) : f l[i] = r[i] := by
  subst h
  simp
theorem Awk.okM {ms : List Mv} {r : List (Int × Po.U)} (h : ms.map Mv.view = r) (hr : ∀ v ∈ r, Po.okU v.2) : ∀ m ∈ ms, Po.okU (Po.tv m.t) := fun m hm => hr (Mv.view m) (by rw [← h]; exact List.mem_map_of_mem hm)
theorem Po.okU.n {B : Nat} {t : Can.T} {w : World} (h : OwnT B t w) (hu : Po.okU (Po.tv t)) : t.ls.length = t.n ∧ t.n ≤ maxLen := ⟨h.1, by have h3 : t.ls.length ≤ 1000 := hu.2.2; have := h.1; unfold maxLen; omega⟩
theorem OwnTs.pos {B n c : Nat} {p : Option Addr} {ts : List Can.T} {w : World} (h : OwnTs B (.slice p n c) ts w) : Can.TPos p ts w ∧ ts.length = n ∧ n ≤ c := by
  rcases h.open with ⟨e, rfl⟩ | ⟨g, c', e, _, h1, h2, _, h3⟩
  · simp only [Value.slice.injEq] at e
    obtain ⟨rfl, rfl, rfl⟩ := e
    exact ⟨.inl rfl, rfl, Nat.le_refl _⟩
  · simp only [Value.slice.injEq] at e
    obtain ⟨rfl, rfl, rfl⟩ := e
    exact ⟨.inr ⟨g, 0, rfl, h1, h3⟩, rfl, h2⟩
theorem OwnTs.form {B : Nat} {v : Value} {ts : List Can.T} {w : World} (h : OwnTs B v ts w) : ∃ p c, v = .slice p ts.length c := by
  rcases h.open with ⟨e, rfl⟩ | ⟨g, c', e, _⟩
  · exact ⟨none, 0, e⟩
  · exact ⟨_, c', e⟩
theorem Po.TgAt.pos {q : Option Addr} {ts : List Can.T} {w : World} (h : Po.TgAt q ts w) : Can.TPos q ts w := h
theorem Po.okU.n2 {B : Nat} {t : Can.T} {w : World} (h : OwnT B t w) (hu : Po.okU (Po.tv t)) : t.ls.length = t.n ∧ t.n ≤ 4398046511104 := ⟨h.1, by have h3 : t.ls.length ≤ 1000 := hu.2.2; have := h.1; omega⟩
theorem Awk.okS {ss : List Sl} {r : List Po.V} (h : ss.map Sl.view = r) (hr : ∀ v ∈ r, Po.okU (Po.vu v)) : ∀ s ∈ ss, Po.okU (Po.tv s.t) := fun s hs => hr (Sl.view s) (by rw [← h]; exact List.mem_map_of_mem hs)
theorem Awk.okT {ts : List Can.T} {r : List Po.U} (h : ts.map Po.tv = r) (hr : ∀ v ∈ r, Po.okU v) : ∀ t ∈ ts, Po.okU (Po.tv t) := fun t ht => hr (Po.tv t) (by rw [← h]; exact List.mem_map_of_mem ht)
theorem OwnTs.fa {B : Nat} {v : Value} {ts : List Can.T} {r : List Po.U} {w : World} (h : OwnTs B v ts w) (he : ts.map Po.tv = r) (hr : ∀ v ∈ r, Po.okU v) : ∀ t ∈ ts, t.ls.length = t.n ∧ t.ls.length ≤ maxLen := fun t ht => ⟨(h.2 t ht).1, Nat.le_trans (Awk.okT he hr t ht).2.2 (by decide)⟩
end Go.Proofs.Ytpnpgjjbincigaa
namespace Go.Proofs.Ytpnpgjjbincigaa
open Go.RowKit
set_option linter.unusedVariables false

theorem target_z (n : Nat) (z : Int) (hz : z = (n : Int)) (hn : n ≤ 1000) (w : World) : Calls Try.prog 15 #[.int .i64 z] w fun e w' => (∃ t : Can.T, e = .returned (.agg #[.string t.job, .slice t.p t.n t.c]) ∧ OwnT w.heap.size t w' ∧ Po.tv t = Po.tgt n) ∧ Below w.heap.size w w' := by
  subst hz
  exact target_is n hn w
theorem Po.slots_at {g n : Nat} {ss : List Sl} {C : Array Value} {w : World} (hC : C = (slR.cells ss).toArray) (hn : ss.length = n) (hl : n ≤ 1000000) (h : w.heap[g]? = some (.cells C 33)) (hL : ∀ s ∈ ss, Lab.At s.t.p s.t.ls w) : Po.At (some ⟨g, 0, none⟩) ss w :=
  ⟨(OwnR.made slOk (B := 0) (Nat.zero_le _) hC hn hl h).lies slOk, hL⟩
theorem Po.tgts_at {g : Nat} {ts : List Can.T} {C : Array Value} {w : World} (hC : C = (Can.tcells ts).toArray) (h : w.heap[g]? = some (.cells C 29)) (hL : ∀ t ∈ ts, Lab.At t.p t.ls w) : Po.TgAt (some ⟨g, 0, none⟩) ts w := by
  refine .inr ⟨g, 0, rfl, lt_of_heap h, fun i hi => ?_⟩
  obtain ⟨h1, h2⟩ := Can.tcells_get ts i hi
  refine ⟨?_, ?_, hL _ (List.getElem_mem _)⟩
  · rw [Lib.cell_of_heap h, hC, List.getElem?_toArray, Nat.zero_add]; exact h1
  · rw [Lib.cell_of_heap h, hC, List.getElem?_toArray, Nat.zero_add]; exact h2
theorem Po.moves_at {g n : Nat} {ms : List Mv} {C : Array Value} {w : World} (hC : C = (mvR.cells ms).toArray) (hn : ms.length = n) (hl : n ≤ 1000000) (h : w.heap[g]? = some (.cells C 62)) (hL : ∀ s ∈ ms, Lab.At s.t.p s.t.ls w) : Po.MAt (some ⟨g, 0, none⟩) ms w :=
  ⟨(OwnR.made mvOk (B := 0) (Nat.zero_le _) hC hn hl h).lies mvOk, hL⟩
theorem Po.rows_get {B : Nat} {p : Option Addr} {n c i : Nat} {vm : Value} {ss : List Sl} {ms : List Mv} {w : World} (h : Po.Rows B (.slice p n c) vm ss ms w) (hi : i < ss.length) : ∃ g, p = some ⟨g, 0, none⟩ ∧ ∀ i (hi : i < ss.length), w.cell? ⟨g, i * 5 + 2, none⟩ = some (.int .i64 (Sl.view ss[i]).2.2.1) ∧ w.cell? ⟨g, i * 5 + 3, none⟩ = some (.int .i64 (Sl.view ss[i]).2.2.2.1) ∧ w.cell? ⟨g, i * 5 + 4, none⟩ = some (.bool (Sl.view ss[i]).2.2.2.2) := by
  rcases h.rs.open slOk with ⟨h1, h2⟩ | ⟨g, c', e, _, _, _, _, hA⟩
  · rw [h2] at hi; cases hi
  · simp only [Value.slice.injEq] at e
    refine ⟨g, e.1, fun i hi => ?_⟩
    have := hA i hi
    exact ⟨this 2 (by decide), this 3 (by decide), this 4 (by decide)⟩

set_option maxHeartbeats 6400000 in
set_option maxRecDepth 100000 in
theorem awake_is (w : World) : Calls Try.prog 13 #[] w fun e w' => e = .returned (.bool true) ∧ Below w.heap.size w w' := by
  go_enter Try.func13, Try.ntmps13
  go_wp2_with (go_at_call 15; refine (target_z 0 0 rfl (by decide) _).mono ?_)
  first | rintro e w1 ta rfl hO1 hv1 hb1 | rintro e w1 ⟨⟨ta, rfl, hO1, hv1⟩, hb1⟩
  obtain ⟨ja, pa, na, ca, la⟩ := ta
  go_wp2_with (go_at_call 15; refine (target_z 1 1 rfl (by decide) _).mono ?_)
  first | rintro e w2 tb rfl hO2 hv2 hb2 | rintro e w2 ⟨⟨tb, rfl, hO2, hv2⟩, hb2⟩
  obtain ⟨jb, pb, nb, cb, lb⟩ := tb
  go_wp2_with (go_at_call 15; refine (target_z 2 2 rfl (by decide) _).mono ?_)
  first | rintro e w3 tc rfl hO3 hv3 hb3 | rintro e w3 ⟨⟨tc, rfl, hO3, hv3⟩, hb3⟩
  obtain ⟨jc, pc, nc, cc, lc⟩ := tc
  go_wp2_with (go_at_call 15; refine (target_z 3 3 rfl (by decide) _).mono ?_)
  first | rintro e w4 td rfl hO4 hv4 hb4 | rintro e w4 ⟨⟨td, rfl, hO4, hv4⟩, hb4⟩
  obtain ⟨jd, pd, nd, cd, ld⟩ := td
  have hB4 : Below w.heap.size w w4 := below_next (below_next (below_next hb1 hb2) hb3) hb4
  have HO1 : Hid (OwnT w.heap.size ⟨ja, pa, na, ca, la⟩ w4) := hO1.below (below_next (below_next hb2 hb3) hb4) (Nat.le_refl _)
  have HO2 : Hid (OwnT w.heap.size ⟨jb, pb, nb, cb, lb⟩ w4) := (hO2.below (below_next hb3 hb4) (Nat.le_refl _)).lift hb1.size
  have HO3 : Hid (OwnT w.heap.size ⟨jc, pc, nc, cc, lc⟩ w4) := (hO3.below hb4 (Nat.le_refl _)).lift (below_next hb1 hb2).size
  have HO4 : Hid (OwnT w.heap.size ⟨jd, pd, nd, cd, ld⟩ w4) := hO4.lift (below_next (below_next hb1 hb2) hb3).size
  have HV1 := Lib.hid hv1
  have HG1 : Hid (Can.TAny ⟨ja, pa, na, ca, la⟩) := Po.okU.any HO1.out (by rw [hv1]; exact Po.tgt_ok 0)
  have HJ1 : Hid (ja = (Po.tgt 0).1 ∧ la = (Po.tgt 0).2) := ⟨congrArg Prod.fst hv1, congrArg Prod.snd hv1⟩
  have HV2 := Lib.hid hv2
  have HG2 : Hid (Can.TAny ⟨jb, pb, nb, cb, lb⟩) := Po.okU.any HO2.out (by rw [hv2]; exact Po.tgt_ok 1)
  have HJ2 : Hid (jb = (Po.tgt 1).1 ∧ lb = (Po.tgt 1).2) := ⟨congrArg Prod.fst hv2, congrArg Prod.snd hv2⟩
  have HV3 := Lib.hid hv3
  have HG3 : Hid (Can.TAny ⟨jc, pc, nc, cc, lc⟩) := Po.okU.any HO3.out (by rw [hv3]; exact Po.tgt_ok 2)
  have HJ3 : Hid (jc = (Po.tgt 2).1 ∧ lc = (Po.tgt 2).2) := ⟨congrArg Prod.fst hv3, congrArg Prod.snd hv3⟩
  have HV4 := Lib.hid hv4
  have HG4 : Hid (Can.TAny ⟨jd, pd, nd, cd, ld⟩) := Po.okU.any HO4.out (by rw [hv4]; exact Po.tgt_ok 3)
  have HJ4 : Hid (jd = (Po.tgt 3).1 ∧ ld = (Po.tgt 3).2) := ⟨congrArg Prod.fst hv4, congrArg Prod.snd hv4⟩
  have HB4 := Lib.hid hB4
  clear hO1 hO2 hO3 hO4 hv1 hv2 hv3 hv4 hb1 hb2 hb3 hb4 hB4
  go_wp2_with fail
  obtain ⟨V, hV⟩ : ∃ V, V = (((((w4.alloc (.cells #[.string ja, .slice pa na ca] 29)).alloc (.cells #[.string jb, .slice pb nb cb] 29)).alloc (.cells #[.string jc, .slice pc nc cc] 29)).alloc (.cells #[.string jd, .slice pd nd cd] 29)).alloc (.cells #[.string ja, .slice pa na ca, .int .i64 10, .int .i64 5, .bool false, .string jb, .slice pb nb cb, .int .i64 10, .int .i64 5, .bool false, .string jc, .slice pc nc cc, .int .i64 10, .int .i64 5, .bool true] 33)) := ⟨_, rfl⟩
  have z0 : V.heap.size = w4.heap.size + 1 + 1 + 1 + 1 + 1 := by rw [hV]; simp
  have hs4 := HB4.out.size
  have k1 : V.heap[w4.heap.size]? = some (.cells #[.string ja, .slice pa na ca] 29) := by rw [hV]; exact alloc_kept (alloc_kept (alloc_kept (alloc_kept (by simpa using alloc_new w4 (.cells #[.string ja, .slice pa na ca] 29)))))
  have k2 : V.heap[w4.heap.size + 1]? = some (.cells #[.string jb, .slice pb nb cb] 29) := by rw [hV]; exact alloc_kept (alloc_kept (alloc_kept (by simpa using alloc_new (w4.alloc (.cells #[.string ja, .slice pa na ca] 29)) (.cells #[.string jb, .slice pb nb cb] 29))))
  have k3 : V.heap[w4.heap.size + 1 + 1]? = some (.cells #[.string jc, .slice pc nc cc] 29) := by rw [hV]; exact alloc_kept (alloc_kept (by simpa using alloc_new ((w4.alloc (.cells #[.string ja, .slice pa na ca] 29)).alloc (.cells #[.string jb, .slice pb nb cb] 29)) (.cells #[.string jc, .slice pc nc cc] 29)))
  have k4 : V.heap[w4.heap.size + 1 + 1 + 1]? = some (.cells #[.string jd, .slice pd nd cd] 29) := by rw [hV]; exact alloc_kept (by simpa using alloc_new (((w4.alloc (.cells #[.string ja, .slice pa na ca] 29)).alloc (.cells #[.string jb, .slice pb nb cb] 29)).alloc (.cells #[.string jc, .slice pc nc cc] 29)) (.cells #[.string jd, .slice pd nd cd] 29))
  have k5 : V.heap[w4.heap.size + 1 + 1 + 1 + 1]? = some (.cells #[.string ja, .slice pa na ca, .int .i64 10, .int .i64 5, .bool false, .string jb, .slice pb nb cb, .int .i64 10, .int .i64 5, .bool false, .string jc, .slice pc nc cc, .int .i64 10, .int .i64 5, .bool true] 33) := by rw [hV]; simpa using alloc_new ((((w4.alloc (.cells #[.string ja, .slice pa na ca] 29)).alloc (.cells #[.string jb, .slice pb nb cb] 29)).alloc (.cells #[.string jc, .slice pc nc cc] 29)).alloc (.cells #[.string jd, .slice pd nd cd] 29)) (.cells #[.string ja, .slice pa na ca, .int .i64 10, .int .i64 5, .bool false, .string jb, .slice pb nb cb, .int .i64 10, .int .i64 5, .bool false, .string jc, .slice pc nc cc, .int .i64 10, .int .i64 5, .bool true] 33)
  have hBV : Below w4.heap.size w4 V := by rw [hV]; exact (((((Below.refl _ _).alloc (by simp; try omega) _).alloc (by simp; try omega) _).alloc (by simp; try omega) _).alloc (by simp; try omega) _).alloc (by simp; try omega) _
  have K1 := Lib.hid k1
  have K2 := Lib.hid k2
  have K3 := Lib.hid k3
  have K4 := Lib.hid k4
  have K5 := Lib.hid k5
  have HL1 : Hid (Lab.At pa la V) := HO1.out.at.below hBV (Nat.le_refl _)
  have HL2 : Hid (Lab.At pb lb V) := HO2.out.at.below hBV (Nat.le_refl _)
  have HL3 : Hid (Lab.At pc lc V) := HO3.out.at.below hBV (Nat.le_refl _)
  have HL4 : Hid (Lab.At pd ld V) := HO4.out.at.below hBV (Nat.le_refl _)
  have HBV := Lib.hid (below_next HB4.out hBV)
  rw [← hV]
  clear k1 k2 k3 k4 k5 hBV hV HO1 HO2 HO3 HO4 HB4
  have HZ0 := Lib.hid z0
  obtain ⟨U, hU⟩ : ∃ U, U = V.alloc (.cells #[.string jd, .slice pd nd cd, .string ja, .slice pa na ca, .string jc, .slice pc nc cc, .string ja, .slice pa na ca] 29) := ⟨_, rfl⟩
  have hVU : Below V.heap.size V U := by rw [hU]; exact (Below.refl _ _).alloc (Nat.le_refl _) _
  have ku : U.heap[V.heap.size]? = some (.cells #[.string jd, .slice pd nd cd, .string ja, .slice pa na ca, .string jc, .slice pc nc cc, .string ja, .slice pa na ca] 29) := by rw [hU]; exact alloc_new _ _
  have KU := Lib.hid ku
  have HVU := Lib.hid hVU
  clear ku hVU
  rw [← hU, ← z0]
  clear hU
  have HS1 := Lib.hid (sync_is (some ⟨w4.heap.size + 1 + 1 + 1 + 1, 0, none⟩) (some ⟨V.heap.size, 0, none⟩) [⟨⟨ja, pa, na, ca, la⟩, 10, 5, false⟩, ⟨⟨jb, pb, nb, cb, lb⟩, 10, 5, false⟩, ⟨⟨jc, pc, nc, cc, lc⟩, 10, 5, true⟩] [⟨jd, pd, nd, cd, ld⟩, ⟨ja, pa, na, ca, la⟩, ⟨jc, pc, nc, cc, lc⟩, ⟨ja, pa, na, ca, la⟩] 3 3 4 4 10 5 0 _ _ (by show Po.sync [(ja, la, 10, 5, false), (jb, lb, 10, 5, false), (jc, lc, 10, 5, true)] [(jd, ld), (ja, la), (jc, lc), (ja, la)] 10 5 = _; rw [HJ1.out.1, HJ1.out.2, HJ2.out.1, HJ2.out.2, HJ3.out.1, HJ3.out.2, HJ4.out.1, HJ4.out.2]; exact Awk.s1) U rfl rfl (Po.slots_at (n := 3) (by rfl) rfl (by decide) (below_kept HVU.out K5.out (by omega)) (fun s hs => by simp only [List.mem_cons, List.not_mem_nil, or_false] at hs; rcases hs with rfl | rfl | rfl <;> first | exact HL1.out.below HVU.out (Nat.le_refl _) | exact HL2.out.below HVU.out (Nat.le_refl _) | exact HL3.out.below HVU.out (Nat.le_refl _))) (Po.tgts_at (by rfl) KU.out (fun s hs => by simp only [List.mem_cons, List.not_mem_nil, or_false] at hs; rcases hs with rfl | rfl | rfl | rfl <;> first | exact HL4.out.below HVU.out (Nat.le_refl _) | exact HL1.out.below HVU.out (Nat.le_refl _) | exact HL3.out.below HVU.out (Nat.le_refl _))) (fun s hs => by simp only [List.mem_cons, List.not_mem_nil, or_false] at hs; rcases hs with rfl | rfl | rfl <;> first | exact HG1.out | exact HG2.out | exact HG3.out) (fun s hs => by simp only [List.mem_cons, List.not_mem_nil, or_false] at hs; rcases hs with rfl | rfl | rfl | rfl <;> first | exact HG4.out | exact HG1.out | exact HG3.out) (by decide) (by decide))
  go_wp2_with (go_at_call 25; refine HS1.out.mono ?_)
  first | rintro e w5 v1 v2 s2 m2 rfl hR hs hm hb5 | rintro e w5 v1 v2 rfl s2 m2 hR hs hm hb5 | rintro e w5 ⟨⟨v1, v2, s2, m2, rfl, hR, hs, hm⟩, hb5⟩
  have hls : s2.length = 4 := by have := congrArg List.length hs; simpa using this
  have hlm : m2.length = 3 := by have := congrArg List.length hm; simpa using this
  obtain ⟨⟨pS, cS, rfl, hcS, hcS2⟩, pM, cM, rfl, hcM, hcM2⟩ := hR.form
  rw [hls, hlm] at hR
  rw [hls, hlm]
  have HV5 := Lib.hid (below_next HVU.out hb5)
  have HR1 := Lib.hid hR
  have HSV := Lib.hid hs
  have HMV := Lib.hid hm
  have HLS := Lib.hid hls
  have HLM := Lib.hid hlm
  clear hR hs hm hb5 hls hlm HS1 KU HVU
  have aa50 : w5.cell? ⟨w4.heap.size, 0, none⟩ = some (.string ja) := by rw [Lib.cell_of_heap (below_kept HV5.out K1.out (by omega))]; rfl
  have aa51 : w5.cell? ⟨w4.heap.size, 1, none⟩ = some (.slice pa na ca) := by rw [Lib.cell_of_heap (below_kept HV5.out K1.out (by omega))]; rfl
  have ab50 : w5.cell? ⟨w4.heap.size + 1, 0, none⟩ = some (.string jb) := by rw [Lib.cell_of_heap (below_kept HV5.out K2.out (by omega))]; rfl
  have ab51 : w5.cell? ⟨w4.heap.size + 1, 1, none⟩ = some (.slice pb nb cb) := by rw [Lib.cell_of_heap (below_kept HV5.out K2.out (by omega))]; rfl
  have ac50 : w5.cell? ⟨w4.heap.size + 1 + 1, 0, none⟩ = some (.string jc) := by rw [Lib.cell_of_heap (below_kept HV5.out K3.out (by omega))]; rfl
  have ac51 : w5.cell? ⟨w4.heap.size + 1 + 1, 1, none⟩ = some (.slice pc nc cc) := by rw [Lib.cell_of_heap (below_kept HV5.out K3.out (by omega))]; rfl
  have ad50 : w5.cell? ⟨w4.heap.size + 1 + 1 + 1, 0, none⟩ = some (.string jd) := by rw [Lib.cell_of_heap (below_kept HV5.out K4.out (by omega))]; rfl
  have ad51 : w5.cell? ⟨w4.heap.size + 1 + 1 + 1, 1, none⟩ = some (.slice pd nd cd) := by rw [Lib.cell_of_heap (below_kept HV5.out K4.out (by omega))]; rfl
  have HE2 := Lib.hid (pend_is pS s2 ⟨jc, pc, nc, cc, lc⟩ 4 cS 0 _ (by rw [HSV.out]; show Po.endS _ (jc, lc) = _; rw [HJ3.out.1, HJ3.out.2]; exact Awk.s2) w5 HLS.out HR1.out.at.1 (HL3.out.below HV5.out (Nat.le_refl _)) (fun s hs => Po.okU.any (HR1.out.ts s hs) (Awk.ok1 HSV.out s hs)) HG3.out (by decide))
  go_wp2_with (go_at_call 18; refine HE2.out.mono ?_)
  first | rintro e w6 v3 v4 s3 rfl hR hs hb6 | rintro e w6 v3 rfl v4 s3 hR hs hb6 | rintro e w6 ⟨⟨v3, v4, s3, rfl, hR, hs⟩, hb6⟩
  have hls : s3.length = 3 := by have := congrArg List.length hs; simpa using this
  obtain ⟨⟨pE, cE, rfl, hcE, hcE2⟩, _⟩ := hR.form
  rw [hls] at hR
  rw [hls]
  have HV6 := Lib.hid (below_next HV5.out hb6)
  have HB6 := Lib.hid hb6
  have HR2 := Lib.hid hR
  have HSE := Lib.hid hs
  have HLE := Lib.hid hls
  clear hR hs hb6 hls HE2
  clear aa50 aa51 ab50 ab51 ac50 ac51 ad50 ad51
  have aa60 : w6.cell? ⟨w4.heap.size, 0, none⟩ = some (.string ja) := by rw [Lib.cell_of_heap (below_kept HV6.out K1.out (by omega))]; rfl
  have aa61 : w6.cell? ⟨w4.heap.size, 1, none⟩ = some (.slice pa na ca) := by rw [Lib.cell_of_heap (below_kept HV6.out K1.out (by omega))]; rfl
  have ab60 : w6.cell? ⟨w4.heap.size + 1, 0, none⟩ = some (.string jb) := by rw [Lib.cell_of_heap (below_kept HV6.out K2.out (by omega))]; rfl
  have ab61 : w6.cell? ⟨w4.heap.size + 1, 1, none⟩ = some (.slice pb nb cb) := by rw [Lib.cell_of_heap (below_kept HV6.out K2.out (by omega))]; rfl
  have ac60 : w6.cell? ⟨w4.heap.size + 1 + 1, 0, none⟩ = some (.string jc) := by rw [Lib.cell_of_heap (below_kept HV6.out K3.out (by omega))]; rfl
  have ac61 : w6.cell? ⟨w4.heap.size + 1 + 1, 1, none⟩ = some (.slice pc nc cc) := by rw [Lib.cell_of_heap (below_kept HV6.out K3.out (by omega))]; rfl
  have ad60 : w6.cell? ⟨w4.heap.size + 1 + 1 + 1, 0, none⟩ = some (.string jd) := by rw [Lib.cell_of_heap (below_kept HV6.out K4.out (by omega))]; rfl
  have ad61 : w6.cell? ⟨w4.heap.size + 1 + 1 + 1, 1, none⟩ = some (.slice pd nd cd) := by rw [Lib.cell_of_heap (below_kept HV6.out K4.out (by omega))]; rfl
  have hU6 : Below w6.heap.size w6 (w6.alloc (.cells #[.string ja, .slice pa na ca, .string jc, .slice pc nc cc, .string jd, .slice pd nd cd] 29)) := (Below.refl _ _).alloc (Nat.le_refl _) _
  have k6 := alloc_new w6 (.cells #[.string ja, .slice pa na ca, .string jc, .slice pc nc cc, .string jd, .slice pd nd cd] 29)
  have HU6 := Lib.hid hU6
  have K6 := Lib.hid k6
  clear hU6 k6
  have HS3 := Lib.hid (sync_is pE (some ⟨w6.heap.size, 0, none⟩) s3 [⟨ja, pa, na, ca, la⟩, ⟨jc, pc, nc, cc, lc⟩, ⟨jd, pd, nd, cd, ld⟩] 3 cE 3 3 10 5 0 _ _ (by rw [HSE.out]; show Po.sync _ [(ja, la), (jc, lc), (jd, ld)] 10 5 = _; rw [HJ1.out.1, HJ1.out.2, HJ3.out.1, HJ3.out.2, HJ4.out.1, HJ4.out.2]; exact Awk.s3) _ HLE.out rfl (HR2.out.at.1.below HU6.out (Nat.le_refl _)) (Po.tgts_at (by rfl) K6.out (fun s hs => by simp only [List.mem_cons, List.not_mem_nil, or_false] at hs; rcases hs with rfl | rfl | rfl <;> first | exact HL1.out.below (below_next HV6.out HU6.out) (Nat.le_refl _) | exact HL3.out.below (below_next HV6.out HU6.out) (Nat.le_refl _) | exact HL4.out.below (below_next HV6.out HU6.out) (Nat.le_refl _))) (fun s hs => Po.okU.any (HR2.out.ts s hs) (Awk.ok2 HSE.out s hs)) (fun s hs => by simp only [List.mem_cons, List.not_mem_nil, or_false] at hs; rcases hs with rfl | rfl | rfl <;> first | exact HG1.out | exact HG3.out | exact HG4.out) (by decide) (by decide))
  go_wp2_with (go_at_call 25; refine HS3.out.mono ?_)
  first | rintro e w7 v1 v2 s4 m4 rfl hR hs hm hb7 | rintro e w7 v1 v2 rfl s4 m4 hR hs hm hb7 | rintro e w7 ⟨⟨v1, v2, s4, m4, rfl, hR, hs, hm⟩, hb7⟩
  have hls : s4.length = 4 := by have := congrArg List.length hs; simpa using this
  have hlm : m4.length = 1 := by have := congrArg List.length hm; simpa using this
  obtain ⟨⟨pT, cT, rfl, hcT, hcT2⟩, pN, cN, rfl, hcN, hcN2⟩ := hR.form
  rw [hls, hlm] at hR
  rw [hls, hlm]
  have HB7 := Lib.hid (below_next HU6.out hb7)
  have HV7 := Lib.hid (below_next HV6.out HB7.out)
  have hz7 : w4.heap.size + 1 + 1 + 1 + 1 + 1 ≤ w7.heap.size := by have := HV7.out.size; omega
  have HR3 := Lib.hid hR
  have HST := Lib.hid hs
  have HMN := Lib.hid hm
  have HLT := Lib.hid hls
  have HLN := Lib.hid hlm
  clear hR hs hm hb7 hls hlm HS3 HU6 K6
  clear aa60 aa61 ab60 ab61 ac60 ac61 ad60 ad61
  have aa70 : w7.cell? ⟨w4.heap.size, 0, none⟩ = some (.string ja) := by rw [Lib.cell_of_heap (below_kept HV7.out K1.out (by omega))]; rfl
  have aa71 : w7.cell? ⟨w4.heap.size, 1, none⟩ = some (.slice pa na ca) := by rw [Lib.cell_of_heap (below_kept HV7.out K1.out (by omega))]; rfl
  have ab70 : w7.cell? ⟨w4.heap.size + 1, 0, none⟩ = some (.string jb) := by rw [Lib.cell_of_heap (below_kept HV7.out K2.out (by omega))]; rfl
  have ab71 : w7.cell? ⟨w4.heap.size + 1, 1, none⟩ = some (.slice pb nb cb) := by rw [Lib.cell_of_heap (below_kept HV7.out K2.out (by omega))]; rfl
  have ac70 : w7.cell? ⟨w4.heap.size + 1 + 1, 0, none⟩ = some (.string jc) := by rw [Lib.cell_of_heap (below_kept HV7.out K3.out (by omega))]; rfl
  have ac71 : w7.cell? ⟨w4.heap.size + 1 + 1, 1, none⟩ = some (.slice pc nc cc) := by rw [Lib.cell_of_heap (below_kept HV7.out K3.out (by omega))]; rfl
  have ad70 : w7.cell? ⟨w4.heap.size + 1 + 1 + 1, 0, none⟩ = some (.string jd) := by rw [Lib.cell_of_heap (below_kept HV7.out K4.out (by omega))]; rfl
  have ad71 : w7.cell? ⟨w4.heap.size + 1 + 1 + 1, 1, none⟩ = some (.slice pd nd cd) := by rw [Lib.cell_of_heap (below_kept HV7.out K4.out (by omega))]; rfl
  have k7 := alloc_new w7.drew (.cells #[.string ja, .slice pa na ca] 29)
  have K7 := Lib.hid k7
  have hU7 : Below w7.heap.size w7 (w7.drew.alloc (.cells #[.string ja, .slice pa na ca] 29)) := (Below.refl _ _).drew.alloc (Nat.le_refl _) _
  have HU7 := Lib.hid hU7
  clear hU7 k7
  have HS4 := Lib.hid (sync_is (some ⟨w4.heap.size + 1 + 1 + 1 + 1, 0, none⟩) (some ⟨w7.heap.size, 0, none⟩) [⟨⟨ja, pa, na, ca, la⟩, 10, 5, false⟩] [⟨ja, pa, na, ca, la⟩] 1 3 1 1 10 4 0 _ _ (by show Po.sync [(ja, la, 10, 5, false)] [(ja, la)] 10 4 = _; rw [HJ1.out.1, HJ1.out.2]; exact Awk.s4) _ rfl rfl (Po.slots_first rfl (below_kept (below_next HV7.out HU7.out) K5.out (by omega)) (fun s hs => by simp only [List.mem_cons, List.not_mem_nil, or_false] at hs; rcases hs with rfl <;> first | exact HL1.out.below (below_next HV7.out HU7.out) (Nat.le_refl _))) (Po.tgts_at (by rfl) K7.out (fun s hs => by simp only [List.mem_cons, List.not_mem_nil, or_false] at hs; rcases hs with rfl <;> first | exact HL1.out.below (below_next HV7.out HU7.out) (Nat.le_refl _))) (fun s hs => by simp only [List.mem_cons, List.not_mem_nil, or_false] at hs; rcases hs with rfl <;> first | exact HG1.out) (fun s hs => by simp only [List.mem_cons, List.not_mem_nil, or_false] at hs; rcases hs with rfl <;> first | exact HG1.out) (by decide) (by decide))
  go_wp2_with fail
  go_region_held3 (fun w' => w'.cell? ⟨w4.heap.size, 0, none⟩ = some (.string ja) ∧ w'.cell? ⟨w4.heap.size, 1, none⟩ = some (.slice pa na ca))
    (first | exact ⟨aa70, aa71⟩ | exact ⟨(HU7.out.cell (p := ⟨w4.heap.size, 0, none⟩) (by simp; omega)).trans aa70, (HU7.out.cell (p := ⟨w4.heap.size, 1, none⟩) (by simp; omega)).trans aa71⟩ | exact ⟨(((HU7.out.trans (hb8.mono (by simp)))).cell (p := ⟨w4.heap.size, 0, none⟩) (by first | omega | (simp; omega))).trans aa70, ((HU7.out.trans (hb8.mono (by simp))).cell (p := ⟨w4.heap.size, 1, none⟩) (by first | omega | (simp; omega))).trans aa71⟩ | go_keep)
    ((go_at_call 25; refine HS4.out.mono ?_; rintro e w8 ⟨⟨v1, v2, s5, m5, rfl, hR, hs, hm⟩, hb8⟩; obtain ⟨⟨pU, cU, rfl, hcU, hcU2⟩, pK, cK, rfl, hcK, hcK2⟩ := hR.form))
  have hls : s5.length = 1 := by have := congrArg List.length hs; simpa using this
  have hlm : m5.length = 2 := by have := congrArg List.length hm; simpa using this
  rw [hls, hlm] at hR
  rw [hls, hlm]
  have HB8 := Lib.hid (HU7.out.trans (hb8.mono (by simp)))
  have HV8 := Lib.hid (below_next HV7.out HB8.out)
  have HB58 := Lib.hid (below_next (below_next HB6.out HB7.out) HB8.out)
  have HR4 := Lib.hid hR
  have HSU := Lib.hid hs
  have HMK := Lib.hid hm
  have HLU := Lib.hid hls
  have HLK := Lib.hid hlm
  clear hR hs hm hb8 hls hlm HS4 HU7 K7
  clear aa70 aa71 ab70 ab71 ac70 ac71 ad70 ad71
  obtain ⟨gS, rfl, hcS3⟩ := Po.rows_get (i := 0) (HR1.out.below HB58.out (Nat.le_refl _)) (by rw [HLS.out]; decide)
  obtain ⟨gU, rfl, hcU3⟩ := Po.rows_get (i := 0) HR4.out (by rw [HLU.out]; decide)
  have y1 : w8.cell? ⟨gS, 9, none⟩ = some (.bool true) := by have h1 : 1 < s2.length := (by rw [HLS.out]; decide); have := (hcS3 1 h1).2.2; rw [view_at HSV.out 1 h1 (by decide)] at this; exact this
  have y2 : w8.cell? ⟨gS, 14, none⟩ = some (.bool true) := by have h1 : 2 < s2.length := (by rw [HLS.out]; decide); have := (hcS3 2 h1).2.2; rw [view_at HSV.out 2 h1 (by decide)] at this; exact this
  have y3 : w8.cell? ⟨gS, 19, none⟩ = some (.bool false) := by have h1 : 3 < s2.length := (by rw [HLS.out]; decide); have := (hcS3 3 h1).2.2; rw [view_at HSV.out 3 h1 (by decide)] at this; exact this
  have y4 : w8.cell? ⟨gU, 4, none⟩ = some (.bool true) := by have h1 : 0 < s5.length := (by rw [HLU.out]; decide); have := (hcU3 0 h1).2.2; rw [view_at HSU.out 0 h1 (by decide)] at this; exact this
  have y5 : w8.cell? ⟨gU, 3, none⟩ = some (.int .i64 5) := by have h1 : 0 < s5.length := (by rw [HLU.out]; decide); have := (hcU3 0 h1).2.1; rw [view_at HSU.out 0 h1 (by decide)] at this; exact this
  clear hcS3 hcU3
  go_wp2_with fail
  have HC8 : Hid (∀ w', Below w8.heap.size w8 w' → w'.cell? ⟨w4.heap.size, 0, none⟩ = some (.string ja) ∧ w'.cell? ⟨w4.heap.size, 1, none⟩ = some (.slice pa na ca) ∧ w'.cell? ⟨w4.heap.size + 1, 0, none⟩ = some (.string jb) ∧ w'.cell? ⟨w4.heap.size + 1, 1, none⟩ = some (.slice pb nb cb) ∧ w'.cell? ⟨w4.heap.size + 1 + 1, 0, none⟩ = some (.string jc) ∧ w'.cell? ⟨w4.heap.size + 1 + 1, 1, none⟩ = some (.slice pc nc cc) ∧ w'.cell? ⟨w4.heap.size + 1 + 1 + 1, 0, none⟩ = some (.string jd) ∧ w'.cell? ⟨w4.heap.size + 1 + 1 + 1, 1, none⟩ = some (.slice pd nd cd) ∧ Below w8.heap.size w8 w') := fun w' hb => ⟨(by rw [Lib.cell_of_heap (below_kept (below_next HV8.out hb) K1.out (by omega))]; rfl), (by rw [Lib.cell_of_heap (below_kept (below_next HV8.out hb) K1.out (by omega))]; rfl), (by rw [Lib.cell_of_heap (below_kept (below_next HV8.out hb) K2.out (by omega))]; rfl), (by rw [Lib.cell_of_heap (below_kept (below_next HV8.out hb) K2.out (by omega))]; rfl), (by rw [Lib.cell_of_heap (below_kept (below_next HV8.out hb) K3.out (by omega))]; rfl), (by rw [Lib.cell_of_heap (below_kept (below_next HV8.out hb) K3.out (by omega))]; rfl), (by rw [Lib.cell_of_heap (below_kept (below_next HV8.out hb) K4.out (by omega))]; rfl), (by rw [Lib.cell_of_heap (below_kept (below_next HV8.out hb) K4.out (by omega))]; rfl), hb⟩
  obtain ⟨w8d, hw8d⟩ : ∃ x, x = w8.drew := ⟨_, rfl⟩
  refine wp_region_held_drew (S := (fun w' => w'.cell? ⟨w4.heap.size, 0, none⟩ = some (.string ja) ∧ w'.cell? ⟨w4.heap.size, 1, none⟩ = some (.slice pa na ca) ∧ w'.cell? ⟨w4.heap.size + 1, 0, none⟩ = some (.string jb) ∧ w'.cell? ⟨w4.heap.size + 1, 1, none⟩ = some (.slice pb nb cb) ∧ w'.cell? ⟨w4.heap.size + 1 + 1, 0, none⟩ = some (.string jc) ∧ w'.cell? ⟨w4.heap.size + 1 + 1, 1, none⟩ = some (.slice pc nc cc) ∧ w'.cell? ⟨w4.heap.size + 1 + 1 + 1, 0, none⟩ = some (.string jd) ∧ w'.cell? ⟨w4.heap.size + 1 + 1 + 1, 1, none⟩ = some (.slice pd nd cd) ∧ Below w8.heap.size w8 w')) (by kernel_rfl) (HC8.out _ ((Below.refl _ w8).drew)) (fun hHeld => ?_)
  refine Rnd.take (i := 0) (v := ?_) rfl (by kernel_rfl) (by kernel_rfl) (by kernel_rfl) (fun _ _ _ h => h) (.inl ⟨by rfl, ?_⟩) (by assumption) ?_
  rotate_left
  · (intro w9 hS9; (try dsimp only at hS9); go_simp; try with_reducible rfl)
  try simp only [Act.put, List.setIfInBounds_toArray, List.set_cons_zero, List.set_cons_succ]
  refine Rnd.take (i := 1) (v := ?_) rfl (by kernel_rfl) (by kernel_rfl) (by kernel_rfl) (fun _ _ _ h => h) (.inl ⟨by rfl, ?_⟩) (by assumption) ?_
  rotate_left
  · (intro w9 hS9; (try dsimp only at hS9); go_simp; try with_reducible rfl)
  try simp only [Act.put, List.setIfInBounds_toArray, List.set_cons_zero, List.set_cons_succ]
  refine Rnd.take (i := 2) (v := ?_) rfl (by kernel_rfl) (by kernel_rfl) (by kernel_rfl) (fun _ _ _ h => h) (.inl ⟨by rfl, ?_⟩) (by assumption) ?_
  rotate_left
  · (intro w9 hS9; (try dsimp only at hS9); go_simp; try with_reducible rfl)
  try simp only [Act.put, List.setIfInBounds_toArray, List.set_cons_zero, List.set_cons_succ]
  refine Rnd.take (i := 3) (v := ?_) rfl (by kernel_rfl) (by kernel_rfl) (by kernel_rfl) (fun _ _ _ h => h) (.inl ⟨by rfl, ?_⟩) (by assumption) ?_
  rotate_left
  · (intro w9 hS9; (try dsimp only at hS9); go_simp; try with_reducible rfl)
  try simp only [Act.put, List.setIfInBounds_toArray, List.set_cons_zero, List.set_cons_succ]
  refine Rnd.take (i := 4) (v := ?_) rfl (by kernel_rfl) (by kernel_rfl) (by kernel_rfl) (fun _ _ _ h => h) (.inl ⟨by rfl, ?_⟩) (by assumption) ?_
  rotate_left
  · (intro w9 hS9; (try dsimp only at hS9); go_simp; try with_reducible rfl)
  try simp only [Act.put, List.setIfInBounds_toArray, List.set_cons_zero, List.set_cons_succ]
  refine Rnd.take (i := 5) (v := ?_) rfl (by kernel_rfl) (by kernel_rfl) (by kernel_rfl) (fun _ _ _ h => h) (.inl ⟨by rfl, ?_⟩) (by assumption) ?_
  rotate_left
  · (intro w9 hS9; (try dsimp only at hS9); go_simp; try with_reducible rfl)
  try simp only [Act.put, List.setIfInBounds_toArray, List.set_cons_zero, List.set_cons_succ]
  refine Rnd.take (i := 6) (v := ?_) rfl (by kernel_rfl) (by kernel_rfl) (by kernel_rfl) (fun _ _ _ h => h) (.inl ⟨by rfl, ?_⟩) (by assumption) ?_
  rotate_left
  · (intro w9 hS9; (try dsimp only at hS9); go_simp; try with_reducible rfl)
  try simp only [Act.put, List.setIfInBounds_toArray, List.set_cons_zero, List.set_cons_succ]
  refine wpAnyH_ready (rs := [7]) (by kernel_rfl) (by simp) ?_
  refine AllReadyH.cons rfl (fun K hK => ?_) AllReadyH.nil
  go_simp
  refine hK.out _ _ (HC8.out _ (((Below.refl _ w8).alloc (Nat.le_refl _) (.cells #[.int .u8 2, .string jb, .slice pb nb cb, .int .u8 3, .string jc, .slice pc nc cc, .int .u8 1, .string jd, .slice pd nd cd] 62)).drew)) (fun hHeld => ?_)
  clear hK K
  try simp only [Act.put, List.setIfInBounds_toArray, List.set_cons_zero, List.set_cons_succ]
  refine wpAnyH_ready (rs := [8]) (by kernel_rfl) (by simp) ?_
  refine AllReadyH.cons rfl (fun K hK => ?_) AllReadyH.nil
  go_simp
  refine (moved_is pM (some ⟨w8.heap.size, 0, none⟩) m2 [⟨2, ⟨jb, pb, nb, cb, lb⟩⟩, ⟨3, ⟨jc, pc, nc, cc, lc⟩⟩, ⟨1, ⟨jd, pd, nd, cd, ld⟩⟩] 3 3 cM 3 (by rw [HMV.out]; show _ = [(2, jb, lb), (3, jc, lc), (1, jd, ld)]; rw [HJ2.out.1, HJ2.out.2, HJ3.out.1, HJ3.out.2, HJ4.out.1, HJ4.out.2]; first | done | rfl) _ HLM.out rfl (HR1.out.mat.1.below (below_next HB58.out (((Below.refl _ w8).alloc (Nat.le_refl _) (.cells #[.int .u8 2, .string jb, .slice pb nb cb, .int .u8 3, .string jc, .slice pc nc cc, .int .u8 1, .string jd, .slice pd nd cd] 62)).drew)) (Nat.le_refl _)) (Po.moves_at (n := 3) (by rfl) rfl (by decide) (show _ from alloc_new w8 (.cells #[.int .u8 2, .string jb, .slice pb nb cb, .int .u8 3, .string jc, .slice pc nc cc, .int .u8 1, .string jd, .slice pd nd cd] 62)) (fun s hs => by simp only [List.mem_cons, List.not_mem_nil, or_false] at hs; rcases hs with rfl | rfl | rfl <;> first | exact HL2.out.below (below_next HV8.out (((Below.refl _ w8).alloc (Nat.le_refl _) (.cells #[.int .u8 2, .string jb, .slice pb nb cb, .int .u8 3, .string jc, .slice pc nc cc, .int .u8 1, .string jd, .slice pd nd cd] 62)).drew)) (Nat.le_refl _) | exact HL3.out.below (below_next HV8.out (((Below.refl _ w8).alloc (Nat.le_refl _) (.cells #[.int .u8 2, .string jb, .slice pb nb cb, .int .u8 3, .string jc, .slice pc nc cc, .int .u8 1, .string jd, .slice pd nd cd] 62)).drew)) (Nat.le_refl _) | exact HL4.out.below (below_next HV8.out (((Below.refl _ w8).alloc (Nat.le_refl _) (.cells #[.int .u8 2, .string jb, .slice pb nb cb, .int .u8 3, .string jc, .slice pc nc cc, .int .u8 1, .string jd, .slice pd nd cd] 62)).drew)) (Nat.le_refl _))) (fun m hm => Po.okU.n (HR1.out.tm m hm) (Awk.okM HMV.out (by intro v hv; simp only [List.mem_cons, List.not_mem_nil, or_false] at hv; rcases hv with rfl | rfl | rfl <;> exact Po.tgt_ok _) m hm)) (fun s hs => by simp only [List.mem_cons, List.not_mem_nil, or_false] at hs; rcases hs with rfl | rfl | rfl <;> first | exact HG2.out.2.1 | exact HG3.out.2.1 | exact HG4.out.2.1) (by decide)).mono ?_
  first | rintro e w9 rfl hb9 | rintro e w9 ⟨rfl, hb9⟩
  have hB9 : Below w8.heap.size w8 w9 := below_next (((Below.refl _ w8).alloc (Nat.le_refl _) (.cells #[.int .u8 2, .string jb, .slice pb nb cb, .int .u8 3, .string jc, .slice pc nc cc, .int .u8 1, .string jd, .slice pd nd cd] 62)).drew) hb9
  refine hK.out _ _ (HC8.out _ hB9) (fun hHeld => ?_)
  clear hK K
  try simp only [Act.put, List.setIfInBounds_toArray, List.set_cons_zero, List.set_cons_succ]
  refine Rnd.take (i := 9) (v := ?_) rfl (by kernel_rfl) (by kernel_rfl) (by kernel_rfl) (fun _ _ _ h => h) (.inl ⟨by rfl, ?_⟩) (by assumption) ?_
  rotate_left
  · (intro w9 hS9; (try dsimp only at hS9); go_simp; try with_reducible rfl)
  try simp only [Act.put, List.setIfInBounds_toArray, List.set_cons_zero, List.set_cons_succ]
  refine Rnd.take (i := 10) (v := ?_) rfl (by kernel_rfl) (by kernel_rfl) (by kernel_rfl) (fun _ _ _ h => h) (.inl ⟨by rfl, ?_⟩) (by assumption) ?_
  rotate_left
  · (intro w9 hS9; (try dsimp only at hS9); go_simp; try with_reducible rfl)
  try simp only [Act.put, List.setIfInBounds_toArray, List.set_cons_zero, List.set_cons_succ]
  refine Rnd.take (i := 11) (v := ?_) rfl (by kernel_rfl) (by kernel_rfl) (by kernel_rfl) (fun _ _ _ h => h) (.inl ⟨by rfl, ?_⟩) (by assumption) ?_
  rotate_left
  · (intro w9 hS9; (try dsimp only at hS9); go_simp; try with_reducible rfl)
  try simp only [Act.put, List.setIfInBounds_toArray, List.set_cons_zero, List.set_cons_succ]
  refine Rnd.take (i := 12) (v := ?_) rfl (by kernel_rfl) (by kernel_rfl) (by kernel_rfl) (fun _ _ _ h => h) (.inl ⟨by rfl, ?_⟩) (by assumption) ?_
  rotate_left
  · (intro w9 hS9; (try dsimp only at hS9); go_simp; try with_reducible rfl)
  try simp only [Act.put, List.setIfInBounds_toArray, List.set_cons_zero, List.set_cons_succ]
  refine wpAnyH_ready (rs := [13]) (by kernel_rfl) (by simp) ?_
  refine AllReadyH.cons rfl (fun K hK => ?_) AllReadyH.nil
  go_simp
  refine hK.out _ _ (HC8.out _ (hB9.alloc hB9.size (.cells #[.int .u8 1, .string jc, .slice pc nc cc] 62))) (fun hHeld => ?_)
  clear hK K
  try simp only [Act.put, List.setIfInBounds_toArray, List.set_cons_zero, List.set_cons_succ]
  refine wpAnyH_ready (rs := [14]) (by kernel_rfl) (by simp) ?_
  refine AllReadyH.cons rfl (fun K hK => ?_) AllReadyH.nil
  go_simp
  refine (moved_is pN (some ⟨w9.heap.size, 0, none⟩) m4 [⟨1, ⟨jc, pc, nc, cc, lc⟩⟩] 1 1 cN 1 (by rw [HMN.out]; show _ = [(1, jc, lc)]; rw [HJ3.out.1, HJ3.out.2]; first | done | rfl) _ HLN.out rfl (HR3.out.mat.1.below (below_next HB8.out (hB9.alloc hB9.size (.cells #[.int .u8 1, .string jc, .slice pc nc cc] 62))) (Nat.le_refl _)) (Po.moves_at (n := 1) (by rfl) rfl (by decide) (show _ from alloc_new w9 (.cells #[.int .u8 1, .string jc, .slice pc nc cc] 62)) (fun s hs => by simp only [List.mem_cons, List.not_mem_nil, or_false] at hs; rcases hs with rfl <;> first | exact HL3.out.below (below_next HV8.out (hB9.alloc hB9.size (.cells #[.int .u8 1, .string jc, .slice pc nc cc] 62))) (Nat.le_refl _))) (fun m hm => Po.okU.n (HR3.out.tm m hm) (Awk.okM HMN.out (by intro v hv; simp only [List.mem_cons, List.not_mem_nil, or_false] at hv; rcases hv with rfl <;> exact Po.tgt_ok _) m hm)) (fun s hs => by simp only [List.mem_cons, List.not_mem_nil, or_false] at hs; rcases hs with rfl <;> first | exact HG3.out.2.1) (by decide)).mono ?_
  first | rintro e w10 rfl hb10 | rintro e w10 ⟨rfl, hb10⟩
  have hB10 : Below w8.heap.size w8 w10 := below_next (hB9.alloc hB9.size (.cells #[.int .u8 1, .string jc, .slice pc nc cc] 62)) hb10
  refine hK.out _ _ (HC8.out _ hB10) (fun hHeld => ?_)
  clear hK K
  try simp only [Act.put, List.setIfInBounds_toArray, List.set_cons_zero, List.set_cons_succ]
  refine Rnd.take (i := 15) (v := ?_) rfl (by kernel_rfl) (by kernel_rfl) (by kernel_rfl) (fun _ _ _ h => h) (.inl ⟨by rfl, ?_⟩) (by assumption) ?_
  rotate_left
  · (intro w9 hS9; (try dsimp only at hS9); go_simp; try with_reducible rfl)
  try simp only [Act.put, List.setIfInBounds_toArray, List.set_cons_zero, List.set_cons_succ]
  refine Rnd.take (i := 16) (v := ?_) rfl (by kernel_rfl) (by kernel_rfl) (by kernel_rfl) (fun _ _ _ h => h) (.inl ⟨by rfl, ?_⟩) (by assumption) ?_
  rotate_left
  · (intro w9 hS9; (try dsimp only at hS9); go_simp; try with_reducible rfl)
  try simp only [Act.put, List.setIfInBounds_toArray, List.set_cons_zero, List.set_cons_succ]
  refine Rnd.take (i := 17) (v := ?_) rfl (by kernel_rfl) (by kernel_rfl) (by kernel_rfl) (fun _ _ _ h => h) (.inl ⟨by rfl, ?_⟩) (by assumption) ?_
  rotate_left
  · (intro w9 hS9; (try dsimp only at hS9); go_simp; try with_reducible rfl)
  try simp only [Act.put, List.setIfInBounds_toArray, List.set_cons_zero, List.set_cons_succ]
  refine Rnd.take (i := 18) (v := ?_) rfl (by kernel_rfl) (by kernel_rfl) (by kernel_rfl) (fun _ _ _ h => h) (.inl ⟨by rfl, ?_⟩) (by assumption) ?_
  rotate_left
  · (intro w9 hS9; (try dsimp only at hS9); go_simp; try with_reducible rfl)
  try simp only [Act.put, List.setIfInBounds_toArray, List.set_cons_zero, List.set_cons_succ]
  refine Rnd.take (i := 19) (v := ?_) rfl (by kernel_rfl) (by kernel_rfl) (by kernel_rfl) (fun _ _ _ h => h) (.inl ⟨by rfl, ?_⟩) (by assumption) ?_
  rotate_left
  · (intro w9 hS9; (try dsimp only at hS9); go_simp; try with_reducible rfl)
  try simp only [Act.put, List.setIfInBounds_toArray, List.set_cons_zero, List.set_cons_succ]
  refine Rnd.take (i := 20) (v := ?_) rfl (by kernel_rfl) (by kernel_rfl) (by kernel_rfl) (fun _ _ _ h => h) (.inl ⟨by rfl, ?_⟩) (by assumption) ?_
  rotate_left
  · (intro w9 hS9; (try dsimp only at hS9); go_simp; try with_reducible rfl)
  try simp only [Act.put, List.setIfInBounds_toArray, List.set_cons_zero, List.set_cons_succ]
  refine Rnd.take (i := 21) (v := ?_) rfl (by kernel_rfl) (by kernel_rfl) (by kernel_rfl) (fun _ _ _ h => h) (.inl ⟨by rfl, ?_⟩) (by assumption) ?_
  rotate_left
  · (intro w9 hS9; (try dsimp only at hS9); go_simp; try with_reducible rfl)
  try simp only [Act.put, List.setIfInBounds_toArray, List.set_cons_zero, List.set_cons_succ]
  refine wpAnyH_ready (rs := [22]) (by kernel_rfl) (by simp) ?_
  refine AllReadyH.cons rfl (fun K hK => ?_) AllReadyH.nil
  go_simp
  refine hK.out _ _ (HC8.out _ (hB10.alloc hB10.size (.cells #[.int .u8 2, .string ja, .slice pa na ca, .int .u8 3, .string ja, .slice pa na ca] 62))) (fun hHeld => ?_)
  clear hK K
  try simp only [Act.put, List.setIfInBounds_toArray, List.set_cons_zero, List.set_cons_succ]
  refine wpAnyH_ready (rs := [23]) (by kernel_rfl) (by simp) ?_
  refine AllReadyH.cons rfl (fun K hK => ?_) AllReadyH.nil
  go_simp
  refine (moved_is pK (some ⟨w10.heap.size, 0, none⟩) m5 [⟨2, ⟨ja, pa, na, ca, la⟩⟩, ⟨3, ⟨ja, pa, na, ca, la⟩⟩] 2 2 cK 2 (by rw [HMK.out]; show _ = [(2, ja, la), (3, ja, la)]; rw [HJ1.out.1, HJ1.out.2]; first | done | rfl) _ HLK.out rfl (HR4.out.mat.1.below (hB10.alloc hB10.size (.cells #[.int .u8 2, .string ja, .slice pa na ca, .int .u8 3, .string ja, .slice pa na ca] 62)) (Nat.le_refl _)) (Po.moves_at (n := 2) (by rfl) rfl (by decide) (show _ from alloc_new w10 (.cells #[.int .u8 2, .string ja, .slice pa na ca, .int .u8 3, .string ja, .slice pa na ca] 62)) (fun s hs => by simp only [List.mem_cons, List.not_mem_nil, or_false] at hs; rcases hs with rfl | rfl <;> first | exact HL1.out.below (below_next HV8.out (hB10.alloc hB10.size (.cells #[.int .u8 2, .string ja, .slice pa na ca, .int .u8 3, .string ja, .slice pa na ca] 62))) (Nat.le_refl _))) (fun m hm => Po.okU.n (HR4.out.tm m hm) (Awk.okM HMK.out (by intro v hv; simp only [List.mem_cons, List.not_mem_nil, or_false] at hv; rcases hv with rfl | rfl <;> exact Po.tgt_ok _) m hm)) (fun s hs => by simp only [List.mem_cons, List.not_mem_nil, or_false] at hs; rcases hs with rfl | rfl <;> first | exact HG1.out.2.1) (by decide)).mono ?_
  first | rintro e w11 rfl hb11 | rintro e w11 ⟨rfl, hb11⟩
  have hB11 : Below w8.heap.size w8 w11 := below_next (hB10.alloc hB10.size (.cells #[.int .u8 2, .string ja, .slice pa na ca, .int .u8 3, .string ja, .slice pa na ca] 62)) hb11
  refine hK.out _ _ (HC8.out _ hB11) (fun hHeld => ?_)
  clear hK K
  try simp only [Act.put, List.setIfInBounds_toArray, List.set_cons_zero, List.set_cons_succ]
  refine Rnd.take (i := 24) (v := ?_) rfl (by kernel_rfl) (by kernel_rfl) (by kernel_rfl) (fun _ _ _ h => h) (.inl ⟨by rfl, ?_⟩) (by assumption) ?_
  rotate_left
  · (intro w9 hS9; (try dsimp only at hS9); go_simp; try with_reducible rfl)
  try simp only [Act.put, List.setIfInBounds_toArray, List.set_cons_zero, List.set_cons_succ]
  refine Rnd.take (i := 25) (v := ?_) rfl (by kernel_rfl) (by kernel_rfl) (by kernel_rfl) (fun _ _ _ h => h) (.inl ⟨by rfl, ?_⟩) (by assumption) ?_
  rotate_left
  · (intro w9 hS9; (try dsimp only at hS9); go_simp; try with_reducible rfl)
  try simp only [Act.put, List.setIfInBounds_toArray, List.set_cons_zero, List.set_cons_succ]
  refine Rnd.take (i := 26) (v := ?_) rfl (by kernel_rfl) (by kernel_rfl) (by kernel_rfl) (fun _ _ _ h => h) (.inl ⟨by rfl, ?_⟩) (by assumption) ?_
  rotate_left
  · (intro w9 hS9; (try dsimp only at hS9); go_simp; try with_reducible rfl)
  try simp only [Act.put, List.setIfInBounds_toArray, List.set_cons_zero, List.set_cons_succ]
  refine Rnd.take (i := 28) (v := ?_) rfl (by kernel_rfl) (by kernel_rfl) (by kernel_rfl) (fun _ _ _ h => h) (.inl ⟨by rfl, ?_⟩) (by assumption) ?_
  rotate_left
  · (intro w9 hS9; (try dsimp only at hS9); go_simp; try with_reducible rfl)
  try simp only [Act.put, List.setIfInBounds_toArray, List.set_cons_zero, List.set_cons_succ]
  refine Rnd.take (i := 29) (v := ?_) rfl (by kernel_rfl) (by kernel_rfl) (by kernel_rfl) (fun _ _ _ h => h) (.inl ⟨by rfl, ?_⟩) (by assumption) ?_
  rotate_left
  · (intro w9 hS9; (try dsimp only at hS9); go_simp; try with_reducible rfl)
  try simp only [Act.put, List.setIfInBounds_toArray, List.set_cons_zero, List.set_cons_succ]
  refine Rnd.take (i := 30) (v := ?_) rfl (by kernel_rfl) (by kernel_rfl) (by kernel_rfl) (fun _ _ _ h => h) (.inl ⟨by rfl, ?_⟩) (by assumption) ?_
  rotate_left
  · (intro w9 hS9; (try dsimp only at hS9); go_simp; try with_reducible rfl)
  try simp only [Act.put, List.setIfInBounds_toArray, List.set_cons_zero, List.set_cons_succ]
  refine wpAnyH_ready (rs := [27, 31]) (by kernel_rfl) (by simp) ?_
  refine AllReadyH.cons rfl (fun K hK => ?_) (AllReadyH.cons rfl (fun K hK => ?_) AllReadyH.nil)
  · go_simp
    refine (running_is pT s4 4 cT w11 HLT.out (HR3.out.at.1.below (below_next HB8.out hB11) (Nat.le_refl _)) (fun s hs => Po.okU.n2 (HR3.out.ts s hs) (Awk.okS HST.out (by intro v hv; simp only [List.mem_cons, List.not_mem_nil, or_false] at hv; rcases hv with rfl | rfl | rfl | rfl <;> exact Awk.v_ok _ _ _ _) s hs)) (by decide)).mono ?_
    rintro e w12 ⟨⟨vR, tsR, rfl, hO, ht⟩, hb12⟩
    have hB12 : Below w8.heap.size w8 w12 := below_next hB11 hb12
    rw [HST.out] at ht
    replace ht := ht.trans Awk.s5
    have hlr : tsR.length = 3 := by have := congrArg List.length ht; simpa using this
    obtain ⟨pR, cR, rfl⟩ := hO.form
    rw [hlr] at hO ⊢
    refine hK.out _ _ (HC8.out _ hB12) (fun hHeld => ?_)
    clear hK K
    try simp only [Act.put, List.setIfInBounds_toArray, List.set_cons_zero, List.set_cons_succ]
    refine wpAnyH_ready (rs := [31]) (by kernel_rfl) (by simp) ?_
    refine AllReadyH.cons rfl (fun K hK => ?_) AllReadyH.nil
    go_simp
    refine hK.out _ _ (HC8.out _ (hB12.alloc hB12.size (.cells #[.string ja, .slice pa na ca, .string jc, .slice pc nc cc, .string jd, .slice pd nd cd] 29))) (fun hHeld => ?_)
    clear hK K
    try simp only [Act.put, List.setIfInBounds_toArray, List.set_cons_zero, List.set_cons_succ]
    refine wpAnyH_ready (rs := [32]) (by kernel_rfl) (by simp) ?_
    refine AllReadyH.cons rfl (fun K hK => ?_) AllReadyH.nil
    go_simp
    refine (sametargets_gen pR _ tsR [⟨ja, pa, na, ca, la⟩, ⟨jc, pc, nc, cc, lc⟩, ⟨jd, pd, nd, cd, ld⟩] 3 cR 3 (w12.alloc (.cells #[.string ja, .slice pa na ca, .string jc, .slice pc nc cc, .string jd, .slice pd nd cd] 29)) hlr rfl (hO.pos.1.below ((Below.refl _ w12).alloc (Nat.le_refl _) _) (Nat.le_refl _)) (Po.tgts_at (by rfl) (alloc_new w12 (.cells #[.string ja, .slice pa na ca, .string jc, .slice pc nc cc, .string jd, .slice pd nd cd] 29)) (fun s hs => by simp only [List.mem_cons, List.not_mem_nil, or_false] at hs; rcases hs with rfl | rfl | rfl <;> first | exact HL1.out.below (below_next HV8.out (hB12.alloc hB12.size (.cells #[.string ja, .slice pa na ca, .string jc, .slice pc nc cc, .string jd, .slice pd nd cd] 29))) (Nat.le_refl _) | exact HL3.out.below (below_next HV8.out (hB12.alloc hB12.size (.cells #[.string ja, .slice pa na ca, .string jc, .slice pc nc cc, .string jd, .slice pd nd cd] 29))) (Nat.le_refl _) | exact HL4.out.below (below_next HV8.out (hB12.alloc hB12.size (.cells #[.string ja, .slice pa na ca, .string jc, .slice pc nc cc, .string jd, .slice pd nd cd] 29))) (Nat.le_refl _))).pos (ht.trans (by show _ = [(ja, la), (jc, lc), (jd, ld)]; rw [HJ1.out.1, HJ1.out.2, HJ3.out.1, HJ3.out.2, HJ4.out.1, HJ4.out.2]; first | done | rfl)) (hO.fa ht (by intro v hv; simp only [List.mem_cons, List.not_mem_nil, or_false] at hv; rcases hv with rfl | rfl | rfl <;> exact Po.tgt_ok _)) (fun s hs => by simp only [List.mem_cons, List.not_mem_nil, or_false] at hs; rcases hs with rfl | rfl | rfl <;> first | exact HG1.out.2.1 | exact HG3.out.2.1 | exact HG4.out.2.1) (by decide)).mono ?_
    first | rintro e w13 rfl hb13 | rintro e w13 ⟨rfl, hb13⟩
    have hB13 : Below w8.heap.size w8 w13 := below_next (hB12.alloc hB12.size (.cells #[.string ja, .slice pa na ca, .string jc, .slice pc nc cc, .string jd, .slice pd nd cd] 29)) hb13
    refine hK.out _ _ (HC8.out _ hB13) (fun hHeld => ?_)
    clear hK K
    try simp only [Act.put, List.setIfInBounds_toArray, List.set_cons_zero, List.set_cons_succ]
    refine Rnd.take (i := 33) (v := ?_) rfl (by kernel_rfl) (by kernel_rfl) (by kernel_rfl) (fun _ _ _ h => h) (.inl ⟨by rfl, ?_⟩) (by assumption) ?_
    rotate_left
    · (intro w9 hS9; (try dsimp only at hS9); go_simp; try with_reducible rfl)
    try simp only [Act.put, List.setIfInBounds_toArray, List.set_cons_zero, List.set_cons_succ]
    refine Rnd.take (i := 34) (v := ?_) rfl (by kernel_rfl) (by kernel_rfl) (by kernel_rfl) (fun _ _ _ h => h) (.inl ⟨by rfl, ?_⟩) (by assumption) ?_
    rotate_left
    · (intro w9 hS9; (try dsimp only at hS9); go_simp; try with_reducible rfl)
    try simp only [Act.put, List.setIfInBounds_toArray, List.set_cons_zero]
    refine wpAnyH_done (by kernel_rfl) ?_ _
    go_wp2_with fail
    go_ret
    exact ⟨rfl, below_next (below_next HBV.out HV8.out) hB13⟩
  · go_simp
    refine hK.out _ _ (HC8.out _ (hB11.alloc hB11.size (.cells #[.string ja, .slice pa na ca, .string jc, .slice pc nc cc, .string jd, .slice pd nd cd] 29))) (fun hHeld => ?_)
    clear hK K
    try simp only [Act.put, List.setIfInBounds_toArray, List.set_cons_zero, List.set_cons_succ]
    refine wpAnyH_ready (rs := [27]) (by kernel_rfl) (by simp) ?_
    refine AllReadyH.cons rfl (fun K hK => ?_) AllReadyH.nil
    go_simp
    refine (running_is pT s4 4 cT (w11.alloc (.cells #[.string ja, .slice pa na ca, .string jc, .slice pc nc cc, .string jd, .slice pd nd cd] 29)) HLT.out (HR3.out.at.1.below (below_next HB8.out (hB11.alloc hB11.size (.cells #[.string ja, .slice pa na ca, .string jc, .slice pc nc cc, .string jd, .slice pd nd cd] 29))) (Nat.le_refl _)) (fun s hs => Po.okU.n2 (HR3.out.ts s hs) (Awk.okS HST.out (by intro v hv; simp only [List.mem_cons, List.not_mem_nil, or_false] at hv; rcases hv with rfl | rfl | rfl | rfl <;> exact Awk.v_ok _ _ _ _) s hs)) (by decide)).mono ?_
    rintro e w12 ⟨⟨vR, tsR, rfl, hO, ht⟩, hb12⟩
    have hB12 : Below w8.heap.size w8 w12 := below_next (hB11.alloc hB11.size (.cells #[.string ja, .slice pa na ca, .string jc, .slice pc nc cc, .string jd, .slice pd nd cd] 29)) hb12
    rw [HST.out] at ht
    replace ht := ht.trans Awk.s5
    have hlr : tsR.length = 3 := by have := congrArg List.length ht; simpa using this
    obtain ⟨pR, cR, rfl⟩ := hO.form
    rw [hlr] at hO ⊢
    refine hK.out _ _ (HC8.out _ hB12) (fun hHeld => ?_)
    clear hK K
    try simp only [Act.put, List.setIfInBounds_toArray, List.set_cons_zero, List.set_cons_succ]
    refine wpAnyH_ready (rs := [32]) (by kernel_rfl) (by simp) ?_
    refine AllReadyH.cons rfl (fun K hK => ?_) AllReadyH.nil
    go_simp
    refine (sametargets_gen pR _ tsR [⟨ja, pa, na, ca, la⟩, ⟨jc, pc, nc, cc, lc⟩, ⟨jd, pd, nd, cd, ld⟩] 3 cR 3 w12 hlr rfl hO.pos.1 ((Po.tgts_at (by rfl) (alloc_new w11 (.cells #[.string ja, .slice pa na ca, .string jc, .slice pc nc cc, .string jd, .slice pd nd cd] 29)) (fun s hs => by simp only [List.mem_cons, List.not_mem_nil, or_false] at hs; rcases hs with rfl | rfl | rfl <;> first | exact HL1.out.below (below_next HV8.out (hB11.alloc hB11.size (.cells #[.string ja, .slice pa na ca, .string jc, .slice pc nc cc, .string jd, .slice pd nd cd] 29))) (Nat.le_refl _) | exact HL3.out.below (below_next HV8.out (hB11.alloc hB11.size (.cells #[.string ja, .slice pa na ca, .string jc, .slice pc nc cc, .string jd, .slice pd nd cd] 29))) (Nat.le_refl _) | exact HL4.out.below (below_next HV8.out (hB11.alloc hB11.size (.cells #[.string ja, .slice pa na ca, .string jc, .slice pc nc cc, .string jd, .slice pd nd cd] 29))) (Nat.le_refl _))).pos.below hb12 (Nat.le_refl _)) (ht.trans (by show _ = [(ja, la), (jc, lc), (jd, ld)]; rw [HJ1.out.1, HJ1.out.2, HJ3.out.1, HJ3.out.2, HJ4.out.1, HJ4.out.2]; first | done | rfl)) (hO.fa ht (by intro v hv; simp only [List.mem_cons, List.not_mem_nil, or_false] at hv; rcases hv with rfl | rfl | rfl <;> exact Po.tgt_ok _)) (fun s hs => by simp only [List.mem_cons, List.not_mem_nil, or_false] at hs; rcases hs with rfl | rfl | rfl <;> first | exact HG1.out.2.1 | exact HG3.out.2.1 | exact HG4.out.2.1) (by decide)).mono ?_
    first | rintro e w13 rfl hb13 | rintro e w13 ⟨rfl, hb13⟩
    have hB13 : Below w8.heap.size w8 w13 := below_next hB12 hb13
    refine hK.out _ _ (HC8.out _ hB13) (fun hHeld => ?_)
    clear hK K
    try simp only [Act.put, List.setIfInBounds_toArray, List.set_cons_zero, List.set_cons_succ]
    refine Rnd.take (i := 33) (v := ?_) rfl (by kernel_rfl) (by kernel_rfl) (by kernel_rfl) (fun _ _ _ h => h) (.inl ⟨by rfl, ?_⟩) (by assumption) ?_
    rotate_left
    · (intro w9 hS9; (try dsimp only at hS9); go_simp; try with_reducible rfl)
    try simp only [Act.put, List.setIfInBounds_toArray, List.set_cons_zero, List.set_cons_succ]
    refine Rnd.take (i := 34) (v := ?_) rfl (by kernel_rfl) (by kernel_rfl) (by kernel_rfl) (fun _ _ _ h => h) (.inl ⟨by rfl, ?_⟩) (by assumption) ?_
    rotate_left
    · (intro w9 hS9; (try dsimp only at hS9); go_simp; try with_reducible rfl)
    try simp only [Act.put, List.setIfInBounds_toArray, List.set_cons_zero]
    refine wpAnyH_done (by kernel_rfl) ?_ _
    go_wp2_with fail
    go_ret
    exact ⟨rfl, below_next (below_next HBV.out HV8.out) hB13⟩
end Go.Proofs.Ytpnpgjjbincigaa
