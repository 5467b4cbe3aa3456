/- The walk of CanonOne: the law returns true for every input. -/
import Derived.Test.YthnaninhbofeoaaDoorMadeT
import Derived.Test.YthnaninhbofeoaaDoorSame
import Derived.Test.YthnaninhbofeoaaDoorAwk
import Derived.BigQuiet
import Derived.Deep.RegionHeld3
namespace Go.Proofs.YthnaninhbofeoaaDoor
open Go.RowKit

theorem belowChain {B : Nat} {W w1 w2 : World} (h : Below B W w1) (hB : B ≤ W.heap.size) (k : Below w1.heap.size w1 w2) : Below B W w2 := h.trans (k.mono (Nat.le_trans hB h.size))
theorem twoBoxes (w : World) (A B : Obj) : ((w.alloc A).alloc B).heap[w.heap.size]? = some A ∧ ((w.alloc A).alloc B).heap[w.heap.size + 1]? = some B := by
  refine ⟨(Below.heap_alloc (w.alloc A) B w.heap.size (by simp)).trans (alloc_new w A), ?_⟩
  have := alloc_new (w.alloc A) B
  rw [World.size_alloc] at this
  exact this
theorem OwnLabels.at {B n c : Nat} {p : Option Addr} {ls : List Lab.L} {w : World} (h : OwnLabels B (.slice p n c) ls w) : Lab.At p ls w := by
  obtain ⟨p', c', e, hA, _⟩ := OwnLabels.open h
  simp only [Value.slice.injEq] at e
  rw [e.1]
  exact hA
/-- a string is bytes of labels, or a key, or none of them -/
theorem Can.two_ways (s : ByteArray) :
    (∃ ls, Can.read s.data.toList = (ls, 0) ∧ Can.readKey s = (⟨#[]⟩, [], 50) ∧ Lab.right ls = true ∧ ByteArray.mk (Can.raw ls).toArray = s) ∨
    (∃ j ls, Can.read s.data.toList = ([], 50) ∧ Can.readKey s = (j, ls, 0) ∧ Can.job (Lab.bs j) = true ∧ Lab.right ls = true ∧ ByteArray.mk (Lab.bs j ++ [254] ++ Can.raw ls).toArray = s) ∨
    (Can.read s.data.toList = ([], 50) ∧ Can.readKey s = (⟨#[]⟩, [], 50)) := by
  rcases hk : Can.readKey s with ⟨j, ls, e⟩
  have h0 := Can.readKey_or s
  rw [hk] at h0
  by_cases he : e = 0
  · subst he
    have h1 := Can.not_both s (by rw [hk])
    have h2 := Can.readKey_back s j ls hk
    refine .inr (.inl ⟨j, ls, h1, rfl, h2.1, h2.2.1, ?_⟩)
    rw [← h2.2.2]
    rfl
  · have h1 : (j, ls, e) = Can.badKey := h0.resolve_left he
    unfold Can.badKey at h1
    rw [h1]
    rcases hq : Can.read s.data.toList with ⟨l, f⟩
    have h2 := Can.read_err s.data.toList
    rw [hq] at h2
    have h3 : f = 0 ∨ f = 50 := h2
    rcases h3 with rfl | rfl
    · have h4 := Can.read_back _ l hq
      refine .inl ⟨l, rfl, rfl, h4.1, ?_⟩
      rw [h4.2]
    · have h4 := Can.read_nil s.data.toList
      rw [hq] at h4
      have h5 : l = [] := h4 rfl
      subst h5
      exact .inr (.inr ⟨rfl, rfl⟩)
theorem box_cell (w : World) (u0 u1 : Value) (T : TypeId) (w' : World) (B : Nat) (h : Below B w w') (g : Nat) (hg : w.heap[g]? = some (.cells #[u0, u1] T)) (hB : g < B) :
    w'.cell? ⟨g, 0, none⟩ = some u0 ∧ w'.cell? ⟨g, 1, none⟩ = some u1 := by
  have := below_kept h hg hB
  refine ⟨?_, ?_⟩
  · rw [Lib.cell_of_heap this]; rfl
  · rw [Lib.cell_of_heap this]; rfl

set_option maxHeartbeats 6400000 in
set_option maxRecDepth 100000 in
theorem walk_CanonOne (j0 : Nat) (a0 : Option Addr) (xs0 : List Lab.Sm) (n0 c0 : Nat) (j1 : Nat) (a1 : Option Addr) (xs1 : List Lab.Sm) (n1 c1 : Nat) (s : ByteArray) (m : Int) (w : World)
    (hj0 : j0 < 256) (hn0 : xs0.length = n0) (hA0 : Lab.SmAt a0 xs0 w) (hF0 : Lab.SmFit xs0) (hl0 : n0 ≤ c0) (hm0 : c0 ≤ maxLen)
    (hj1 : j1 < 256) (hn1 : xs1.length = n1) (hA1 : Lab.SmAt a1 xs1 w) (hF1 : Lab.SmFit xs1) (hl1 : n1 ≤ c1) (hm1 : c1 ≤ maxLen) (_hs : s.size ≤ maxLen) (hm : w.cell? ⟨0, 0, none⟩ = some (.int .i64 m)) :
    Calls Tryd.prog 6 #[.agg #[.int .u8 (j0 : Int), .slice a0 n0 c0], .agg #[.int .u8 (j1 : Int), .slice a1 n1 c1], .string s] w fun e w' => e = .returned (.bool true) ∧ Below w.heap.size w w' := by
  have HM0 := Lib.hid (fun w hA => omade_is j0 a0 xs0 n0 c0 w hj0 hn0 hA hF0 hl0 hm0)
  have HM1 := Lib.hid (fun w hA => omade_is j1 a1 xs1 n1 c1 w hj1 hn1 hA hF1 hl1 hm1)
  have hrA := Lab.tl_right xs0
  have hrB := Lab.tl_right xs1
  have hjA := Lab.job_ok (j0 % 8) (Nat.mod_lt _ (by omega))
  have hjB := Lab.job_ok (j1 % 8) (Nat.mod_lt _ (by omega))
  obtain ⟨A, hA⟩ : ∃ A, Lab.tl xs0 = A := ⟨_, rfl⟩
  obtain ⟨B, hB⟩ : ∃ B, Lab.tl xs1 = B := ⟨_, rfl⟩
  obtain ⟨JA, hJA⟩ : ∃ J, Lab.jobL.getD (j0 % 8) ⟨#[]⟩ = J := ⟨_, rfl⟩
  obtain ⟨JB, hJB⟩ : ∃ J, Lab.jobL.getD (j1 % 8) ⟨#[]⟩ = J := ⟨_, rfl⟩
  rw [hA] at HM0 hrA
  rw [hB] at HM1 hrB
  rw [hJA] at HM0 hjA
  rw [hJB] at HM1 hjB
  obtain ⟨hfA, hlA⟩ := Lab.right_fit A hrA
  obtain ⟨hfB, hlB⟩ := Lab.right_fit B hrB
  have hzA : JA.size ≤ 128 := Can.job_size JA hjA
  have hzB : JB.size ≤ 128 := Can.job_size JB hjB
  have hrl := Can.raw_bound A hrA
  have hrlB := Can.raw_bound B hrB
  clear hA hB hJA hJB hn0 hF0 hl0 hm0 hn1 hF1 hl1 hm1
  have HW := Lib.hid (fun w hm => awake_true m w hm)
  have BA := Lib.hid (fun p n c w hn hA => cbytes_is p A n c _ 0 (Can.bytes_right A hrA) w hn hA (Can.fit_more hfA))
  have BB := Lib.hid (fun p n c w hn hA => cbytes_is p B n c _ 0 (Can.bytes_right B hrB) w hn hA (Can.fit_more hfB))
  have KA := Lib.hid (fun p n c w hn hA => ckey_is JA p A n c _ 0 (Can.key_right _ A hjA hrA) w hn hA hfA)
  have KB := Lib.hid (fun p n c w hn hA => ckey_is JB p B n c _ 0 (Can.key_right _ B hjB hrB) w hn hA hfB)
  obtain ⟨PA, hPA⟩ : ∃ P, ByteArray.mk (Can.raw A).toArray = P := ⟨_, rfl⟩
  obtain ⟨PB, hPB⟩ : ∃ P, ByteArray.mk (Can.raw B).toArray = P := ⟨_, rfl⟩
  obtain ⟨QA, hQA⟩ : ∃ P, ByteArray.mk (Lab.bs JA ++ [254] ++ Can.raw A).toArray = P := ⟨_, rfl⟩
  obtain ⟨QB, hQB⟩ : ∃ P, ByteArray.mk (Lab.bs JB ++ [254] ++ Can.raw B).toArray = P := ⟨_, rfl⟩
  rw [hPA] at BA
  rw [hPB] at BB
  rw [hQA] at KA
  rw [hQB] at KB
  have bPA : Lab.bs PA = Can.raw A := by rw [← hPA]; rfl
  have bPB : Lab.bs PB = Can.raw B := by rw [← hPB]; rfl
  have bQA : Lab.bs QA = Lab.bs JA ++ [254] ++ Can.raw A := by rw [← hQA]; rfl
  have bQB : Lab.bs QB = Lab.bs JB ++ [254] ++ Can.raw B := by rw [← hQB]; rfl
  have zPA : PA.size ≤ 1000000 := by
    have : PA.size = (Can.raw A).length := by rw [← bPA]; exact Array.length_toList.symm
    omega
  have zQA : QA.size ≤ 1000000 := by
    have : QA.size = (Lab.bs JA ++ [254] ++ Can.raw A).length := by rw [← bQA]; exact Array.length_toList.symm
    have e : (Lab.bs JA).length = JA.size := Array.length_toList
    rw [this, List.length_append, List.length_append, e]
    simp only [List.length_cons, List.length_nil]
    omega
  have RA := Lib.hid (fun w hm => cread_is PA A 0 (by show Can.read (Lab.bs PA) = _; rw [bPA]; exact Can.read_raw A hrA) m w hm zPA)
  have RK := Lib.hid (fun w hm => creadkey_is QA JA A 0 (Can.readKey_key JA A hjA hrA QA bQA) m w hm zQA)
  have RQ := Lib.hid (fun w hm => cread_is QA [] 50 (by show Can.read (Lab.bs QA) = _; rw [bQA]; exact Can.read_254 _ (by simp)) m w hm zQA)
  obtain ⟨r1, hr1⟩ : ∃ r : Bool, r = true ↔ A = B := ⟨decide (Can.raw A = Can.raw B), by
    rw [decide_eq_true_eq]
    exact ⟨fun h => Can.raw_inj A B hrA hrB h, fun h => by rw [h]⟩⟩
  obtain ⟨r2, hr2⟩ : ∃ r : Bool, r = true ↔ (JA = JB ∧ A = B) := ⟨decide (Lab.bs JA ++ [254] ++ Can.raw A = Lab.bs JB ++ [254] ++ Can.raw B), by
    rw [decide_eq_true_eq]
    exact ⟨fun h => Can.key_inj JA JB A B hjA hjB hrA hrB h, fun h => by rw [h.1, h.2]⟩⟩
  have S1 := Lib.hid (fun p1 p2 n m c1 c2 w hn hm hA hB hl hl2 => same_is p1 p2 A B n m c1 c2 r1 hr1 w hn hm hA hB hl hl2)
  have T1 := Lib.hid (fun p1 p2 n m c1 c2 w hn hm hA hB hl hl2 => sametarget_is JA JB p1 p2 A B n m c1 c2 r2 hr2 w hn hm hA hB hl hl2)
  have S2 := Lib.hid (fun p1 p2 n c1 c2 w hn hA hB hl => same_true p1 p2 A n c1 c2 w hn hA hB hl)
  have T2 := Lib.hid (fun p1 p2 n c1 c2 w hn hA hB hl => sametarget_true JA p1 p2 A n c1 c2 w hn hA hB hl)
  have e1 : (PA.toList == PB.toList) = r1 := by
    rw [Lab.bytes_beq, bPA, bPB, Bool.eq_iff_iff, decide_eq_true_eq, hr1]
    exact ⟨fun h => Can.raw_inj A B hrA hrB h, fun h => by rw [h]⟩
  have e2 : (QA.toList == QB.toList) = r2 := by
    rw [Lab.bytes_beq, bQA, bQB, Bool.eq_iff_iff, decide_eq_true_eq, hr2]
    exact ⟨fun h => Can.key_inj JA JB A B hjA hjB hrA hrB h, fun h => by rw [h.1, h.2]⟩
  have hwx := twoBoxes w (.cells #[.int .u8 (j0 : Int), .slice a0 n0 c0] 43) (.cells #[.int .u8 (j1 : Int), .slice a1 n1 c1] 43)
  have hW0 : Below w.heap.size w ((w.alloc (.cells #[.int .u8 (j0 : Int), .slice a0 n0 c0] 43)).alloc (.cells #[.int .u8 (j1 : Int), .slice a1 n1 c1] 43)) := ((Below.refl _ _).alloc (Nat.le_refl _) _).alloc (by simp) _
  have hz0 : ((w.alloc (.cells #[.int .u8 (j0 : Int), .slice a0 n0 c0] 43)).alloc (.cells #[.int .u8 (j1 : Int), .slice a1 n1 c1] 43)).heap.size = w.heap.size + 2 := by simp
  have hm00 := cell_later hW0 hm (Nat.le_refl _)
  have hA00 := (hA0.alloc (.cells #[.int .u8 (j0 : Int), .slice a0 n0 c0] 43)).alloc (.cells #[.int .u8 (j1 : Int), .slice a1 n1 c1] 43)
  have hA10 := (hA1.alloc (.cells #[.int .u8 (j0 : Int), .slice a0 n0 c0] 43)).alloc (.cells #[.int .u8 (j1 : Int), .slice a1 n1 c1] 43)
  have zc : ¬ 9223372036854775807 < JA.size + 1 + PA.size := by omega
  have zq : (QA.toList == (JA ++ ⟨#[254]⟩ ++ PA).toList) = true := by
    rw [Lab.bytes_beq, decide_eq_true_eq, bQA, ← bPA]
    simp [Lab.bs]
  clear hm hA0 hA1 hPA hPB hQA hQB zPA zQA bPA bQA bQB bPB hrl hrlB hrA hrB hjA hjB hr1 hr2 hj0 hj1 hfA hfB
  go_enter Tryd.func6, Tryd.ntmps6
  go_wp2_with (go_at_call 9; refine (HW.out _ hm00).mono ?_)
  first | rintro e w1 rfl hb1 | rintro e w1 ⟨rfl, hb1⟩
  have b1 : Below ((w.alloc (.cells #[.int .u8 (j0 : Int), .slice a0 n0 c0] 43)).alloc (.cells #[.int .u8 (j1 : Int), .slice a1 n1 c1] 43)).heap.size ((w.alloc (.cells #[.int .u8 (j0 : Int), .slice a0 n0 c0] 43)).alloc (.cells #[.int .u8 (j1 : Int), .slice a1 n1 c1] 43)) w1 := hb1
  have hs1 := b1.size
  rw [hz0] at hs1 b1
  have hm1 := cell_later b1 hm00 (by omega)
  have hA01 := hA00.below b1 (by omega)
  have hA11 := hA10.below b1 (by omega)
  obtain ⟨x0, x1⟩ := box_cell _ _ _ _ w1 _ b1 _ hwx.1 (by omega)
  obtain ⟨y0, y1⟩ := box_cell _ _ _ _ w1 _ b1 _ hwx.2 (by omega)
  have hB1 : Below w.heap.size w w1 := hW0.trans (b1.mono (by omega))
  clear hb1 hm00 hA00 hA10 hwx
  go_wp2_with (go_at_call 15; refine (HM0.out _ hA01).mono ?_)
  first | rintro e w2 v1 rfl hv1 hb2 | rintro e w2 ⟨⟨v1, rfl, hv1⟩, hb2⟩
  obtain ⟨p1, k1, rfl, hP1, _, _⟩ := OwnLabels.open hv1
  have hs2 := hb2.size
  have y02 := cell_later hb2 y0 (Nat.le_refl _)
  have y12 := cell_later hb2 y1 (Nat.le_refl _)
  have hm2 := cell_later hb2 hm1 (Nat.le_refl _)
  have hA12 := (hA11.below hb2 (Nat.le_refl _)).alloc (.cells #[.string JA, .slice p1 A.length k1] 27)
  have hP12 := hP1.alloc (.cells #[.string JA, .slice p1 A.length k1] 27)
  have hB2 := below_next hB1 hb2
  have l12 : w.heap.size + 1 < w2.heap.size := by omega
  clear hb2 hv1 hm1 hA01 hA11 x0 x1 y0 y1 hP1
  go_wp2_with (go_at_call 15; refine (HM1.out _ hA12).mono ?_)
  first | rintro e w3 v2 rfl hv2 hb3 | rintro e w3 ⟨⟨v2, rfl, hv2⟩, hb3⟩
  obtain ⟨p2, k2, rfl, hP2, _, _⟩ := OwnLabels.open hv2
  have hs3 := hb3.size
  have hs3' : w2.heap.size + 1 ≤ w3.heap.size := by simpa using hs3
  obtain ⟨t0, t1⟩ := box_cell _ _ _ _ w3 _ hb3 w2.heap.size (alloc_new w2 (.cells #[.string JA, .slice p1 A.length k1] 27)) (by simp)
  have hm3 := cell_later hb3 (cell_later ((Below.refl _ w2).alloc (Nat.le_refl _) (.cells #[.string JA, .slice p1 A.length k1] 27)) hm2 (Nat.le_refl _)) (Nat.le_refl _)
  have hP13 := hP12.below hb3 (Nat.le_refl _)
  have hB3 : Below w.heap.size w w3 := (hB2.alloc hB2.size _).trans (hb3.mono (by have := hB2.size; simp; omega))
  have l23 : w2.heap.size < w3.heap.size := by omega
  have HK : Hid (∀ w', Below (w3.heap.size + 1) (w3.alloc (.cells #[.string JB, .slice p2 B.length k2] 27)) w' → (w'.cell? ⟨w2.heap.size, 0, none⟩ = some (.string JA) ∧ w'.cell? ⟨w2.heap.size, 1, none⟩ = some (.slice p1 A.length k1)) ∧ (w'.cell? ⟨w3.heap.size, 0, none⟩ = some (.string JB) ∧ w'.cell? ⟨w3.heap.size, 1, none⟩ = some (.slice p2 B.length k2)) ∧ Lab.At p1 A w' ∧ Lab.At p2 B w' ∧ w'.cell? ⟨0, 0, none⟩ = some (.int .i64 m)) := by
    show ∀ w', _
    intro w' h
    have z : (w3.alloc (.cells #[.string JB, .slice p2 B.length k2] 27)).heap.size = w3.heap.size + 1 := by simp
    have q : Below w3.heap.size w3 (w3.alloc (.cells #[.string JB, .slice p2 B.length k2] 27)) := (Below.refl _ _).alloc (Nat.le_refl _) _
    have q2 := q.trans (h.mono (Nat.le_succ _))
    exact ⟨⟨cell_later q2 t0 (Nat.le_refl _), cell_later q2 t1 (Nat.le_refl _)⟩, box_cell _ _ _ _ w' _ h w3.heap.size (alloc_new w3 (.cells #[.string JB, .slice p2 B.length k2] 27)) (by omega), hP13.below q2 (Nat.le_refl _), hP2.below q2 (Nat.le_refl _), cell_later q2 hm3 (Nat.le_refl _)⟩
  have r0 : Below (w3.heap.size + 1) (w3.alloc (.cells #[.string JB, .slice p2 B.length k2] 27)) (w3.alloc (.cells #[.string JB, .slice p2 B.length k2] 27)) := Below.refl _ _
  have hB3' : Below w.heap.size w (w3.alloc (.cells #[.string JB, .slice p2 B.length k2] 27)) := hB3.alloc hB3.size _
  have hPP1 := hP13.alloc (.cells #[.string JB, .slice p2 B.length k2] 27)
  clear hb3 hv2 hm2 hm3 hA12 y02 y12 hP12 hP13 hP2 HM0 HM1 hs1 hs2 hs3 hB1 hB2 hz0 hW0 b1
  go_wp2_with (go_at_call 16; refine (BA.out _ _ _ _ rfl hPP1 (by unfold maxLen; omega)).mono ?_)
  first | rintro e w4 rfl hb4 | rintro e w4 ⟨rfl, hb4⟩
  have q4 : Below (w3.heap.size + 1) (w3.alloc (.cells #[.string JB, .slice p2 B.length k2] 27)) w4 := by first | exact hb4 | (simpa using hb4)
  clear t0 t1 hPP1
  obtain ⟨⟨t0, t1⟩, ⟨u0, u1⟩, lA, lB, mm⟩ := HK.out _ q4
  clear hb4
  go_wp2_with (go_at_call 16; refine (BB.out _ _ _ _ rfl lB (by unfold maxLen; omega)).mono ?_)
  first | rintro e w5 rfl hb5 | rintro e w5 ⟨rfl, hb5⟩
  have q5 := belowChain q4 (by simp) hb5
  clear t0 t1 u0 u1 lA lB mm
  obtain ⟨⟨t0, t1⟩, ⟨u0, u1⟩, lA, lB, mm⟩ := HK.out _ q5
  clear hb5 q4
  go_wp2_with (go_at_call 17; refine (KA.out _ _ _ _ rfl lA (by omega) (by omega)).mono ?_)
  first | rintro e w6 rfl hb6 | rintro e w6 ⟨rfl, hb6⟩
  have q6 := belowChain q5 (by simp) hb6
  clear t0 t1 u0 u1 lA lB mm
  obtain ⟨⟨t0, t1⟩, ⟨u0, u1⟩, lA, lB, mm⟩ := HK.out _ q6
  clear hb6 q5
  go_wp2_with (go_at_call 17; refine (KB.out _ _ _ _ rfl lB (by omega) (by omega)).mono ?_)
  first | rintro e w7 rfl hb7 | rintro e w7 ⟨rfl, hb7⟩
  have q7 := belowChain q6 (by simp) hb7
  clear t0 t1 u0 u1 lA lB mm
  obtain ⟨⟨t0, t1⟩, ⟨u0, u1⟩, lA, lB, mm⟩ := HK.out _ q7
  clear hb7 q6
  go_wp2_with (go_at_call 18; refine (RA.out _ mm).mono ?_)
  first | rintro e w8 v3 rfl hv3 hb8 | rintro e w8 ⟨⟨v3, rfl, hv3⟩, hb8⟩
  obtain ⟨p3, k3, rfl, hP3, _, _⟩ := OwnLabels.open hv3
  have q8 := belowChain q7 (by simp) hb8
  clear t0 t1 u0 u1 lA lB mm
  obtain ⟨⟨t0, t1⟩, ⟨u0, u1⟩, lA, lB, mm⟩ := HK.out _ q8
  clear hb8 q7
  go_wp2_with (go_at_call 19; refine (RK.out _ mm).mono ?_)
  first | rintro e w9 v4 rfl hv4 hb9 | rintro e w9 ⟨⟨v4, rfl, hv4⟩, hb9⟩
  obtain ⟨p4, k4, rfl, hP4, _, _⟩ := OwnLabels.open hv4
  have hP39 := hP3.below hb9 (Nat.le_refl _)
  have q9 := belowChain q8 (by simp) hb9
  clear t0 t1 u0 u1 lA lB mm
  obtain ⟨⟨t0, t1⟩, ⟨u0, u1⟩, lA, lB, mm⟩ := HK.out _ q9
  clear hb9 q8
  have hs9 := q9.size
  simp only [World.size_alloc] at hs9
  have HL : Hid (∀ w', Below (w9.heap.size + 1) (w9.alloc (.cells #[.string JA, .slice p4 A.length k4] 27)) w' → (w'.cell? ⟨w2.heap.size, 0, none⟩ = some (.string JA) ∧ w'.cell? ⟨w2.heap.size, 1, none⟩ = some (.slice p1 A.length k1)) ∧ (w'.cell? ⟨w3.heap.size, 0, none⟩ = some (.string JB) ∧ w'.cell? ⟨w3.heap.size, 1, none⟩ = some (.slice p2 B.length k2)) ∧ (w'.cell? ⟨w9.heap.size, 0, none⟩ = some (.string JA) ∧ w'.cell? ⟨w9.heap.size, 1, none⟩ = some (.slice p4 A.length k4)) ∧ Below (w9.heap.size + 1) (w9.alloc (.cells #[.string JA, .slice p4 A.length k4] 27)) w') := by
    show ∀ w', _
    intro w' h
    have q : Below w9.heap.size w9 (w9.alloc (.cells #[.string JA, .slice p4 A.length k4] 27)) := (Below.refl _ _).alloc (Nat.le_refl _) _
    have q2 := q.trans (h.mono (Nat.le_succ _))
    exact ⟨⟨cell_later q2 t0 (Nat.le_refl _), cell_later q2 t1 (Nat.le_refl _)⟩, ⟨cell_later q2 u0 (Nat.le_refl _), cell_later q2 u1 (Nat.le_refl _)⟩, box_cell _ _ _ _ w' _ h w9.heap.size (alloc_new w9 (.cells #[.string JA, .slice p4 A.length k4] 27)) (by omega), h⟩
  have HL2 : Hid (∀ w', Below (w9.heap.size + 1) (w9.alloc (.cells #[.string JA, .slice p4 A.length k4] 27)) w' → Lab.At p1 A w' ∧ Lab.At p2 B w' ∧ Lab.At p3 A w' ∧ Lab.At p4 A w' ∧ w'.cell? ⟨0, 0, none⟩ = some (.int .i64 m)) := by
    show ∀ w', _
    intro w' h
    have q : Below w9.heap.size w9 (w9.alloc (.cells #[.string JA, .slice p4 A.length k4] 27)) := (Below.refl _ _).alloc (Nat.le_refl _) _
    have q2 := q.trans (h.mono (Nat.le_succ _))
    exact ⟨lA.below q2 (Nat.le_refl _), lB.below q2 (Nat.le_refl _), hP39.below q2 (Nat.le_refl _), hP4.below q2 (Nat.le_refl _), cell_later q2 mm (Nat.le_refl _)⟩
  have rL : Below (w9.heap.size + 1) (w9.alloc (.cells #[.string JA, .slice p4 A.length k4] 27)) (w9.alloc (.cells #[.string JA, .slice p4 A.length k4] 27)) := Below.refl _ _
  have hBL : Below w.heap.size w (w9.alloc (.cells #[.string JA, .slice p4 A.length k4] 27)) := (hB3'.trans (q9.mono (by have := hB3.size; omega))).alloc (by have := hB3.size; omega) _
  have l29 : w2.heap.size < w9.heap.size := by omega
  have l39 : w3.heap.size < w9.heap.size := by omega
  have HF : Hid (∀ w', Below (w9.heap.size + 1) (w9.alloc (.cells #[.string JA, .slice p4 A.length k4] 27)) w' → w'.frozen? ⟨w9.heap.size, 0, none⟩ = false ∧ w'.frozen? ⟨w9.heap.size, 1, none⟩ = false) := fun w' h => ⟨Lib.frozen_of_heap (below_kept h (alloc_new w9 _) (by omega)) 0, Lib.frozen_of_heap (below_kept h (alloc_new w9 _) (by omega)) 1⟩
  clear hP3 hP39 hP4 hv3 hv4 lA lB HK BA KA KB RA RK
  clear t0 t1 u0 u1 mm
  obtain ⟨⟨t0, t1⟩, ⟨u0, u1⟩, ⟨g0, g1⟩, _⟩ := HL.out _ rL
  obtain ⟨lA, lB, l3, l4, mm⟩ := HL2.out _ rL
  go_wp2_with (go_at_call 20; refine (S1.out _ _ _ _ _ _ _ rfl rfl lA lB (by unfold maxLen; omega) (by unfold maxLen; omega)).mono ?_)
  first | rintro e w10 rfl d10 rfl | rintro e w10 ⟨rfl, d10, rfl⟩
  have q10 := below_drewN rL d10
  clear t0 t1 u0 u1 g0 g1 lA lB l3 l4 mm
  obtain ⟨⟨t0, t1⟩, ⟨u0, u1⟩, ⟨g0, g1⟩, _⟩ := HL.out _ q10
  obtain ⟨lA, lB, l3, l4, mm⟩ := HL2.out _ q10
  go_wp2_with (go_at_call 14; refine (T1.out _ _ _ _ _ _ _ rfl rfl lA lB (by unfold maxLen; omega) (by unfold maxLen; omega)).mono ?_)
  first | rintro e w11 rfl hb11 | rintro e w11 ⟨rfl, hb11⟩
  have q11 := belowChain q10 (by simp) hb11
  clear t0 t1 u0 u1 g0 g1 lA lB l3 l4 mm hb11 q10
  obtain ⟨⟨t0, t1⟩, ⟨u0, u1⟩, ⟨g0, g1⟩, _⟩ := HL.out _ q11
  obtain ⟨lA, lB, l3, l4, mm⟩ := HL2.out _ q11
  go_wp2_with (go_at_call 20; refine (S2.out _ _ _ _ _ _ rfl l3 lA (by unfold maxLen; omega)).mono ?_)
  first | rintro e w12 rfl d12 rfl | rintro e w12 ⟨rfl, d12, rfl⟩
  have q12 := below_drewN q11 d12
  clear t0 t1 u0 u1 g0 g1 lA lB l3 l4 mm q11
  obtain ⟨⟨t0, t1⟩, ⟨u0, u1⟩, ⟨g0, g1⟩, _⟩ := HL.out _ q12
  obtain ⟨lA, lB, l3, l4, mm⟩ := HL2.out _ q12
  go_wp2_with (go_at_call 14; refine (T2.out _ _ _ _ _ _ rfl l4 lA (by unfold maxLen; omega)).mono ?_)
  first | rintro e w13 rfl hb13 | rintro e w13 ⟨rfl, hb13⟩
  have q13 := belowChain q12 (by simp) hb13
  clear t0 t1 u0 u1 g0 g1 lA lB l3 l4 mm hb13 q12
  obtain ⟨⟨t0, t1⟩, ⟨u0, u1⟩, ⟨g0, g1⟩, _⟩ := HL.out _ q13
  obtain ⟨lA, lB, l3, l4, mm⟩ := HL2.out _ q13
  go_wp2_with (go_at_call 18; refine (RQ.out _ mm).mono ?_)
  first | rintro e w14 v5 rfl hv5 hb14 | rintro e w14 ⟨⟨v5, rfl, hv5⟩, hb14⟩
  have q14 := belowChain q13 (by simp) hb14
  clear t0 t1 u0 u1 g0 g1 lA lB l3 l4 mm hb14 q13
  obtain ⟨⟨t0, t1⟩, ⟨u0, u1⟩, ⟨g0, g1⟩, _⟩ := HL.out _ q14
  obtain ⟨lA, lB, l3, l4, mm⟩ := HL2.out _ q14
  clear hv5 lA lB l3 l4 t0 t1 u0 u1 S1 S2 T1 T2 RQ zq zc e1 e2
  by_cases hss : 1000 < s.size
  · go_wp2_with fail
    go_ret
    exact ⟨rfl, hBL.trans (q14.mono (by have := hBL.size; simp at this; omega))⟩
  have hz14 : w9.heap.size < w14.heap.size := by have := q14.size; simp at this; omega
  have hzw : w.heap.size ≤ w9.heap.size := by have := hBL.size; simp at this; omega
  have q1 : (s.toList == s.toList) = true := by simp
  rcases Can.two_ways s with ⟨ls, hrd, hrk, hrt, hbk⟩ | ⟨jb, lt, hrd, hrk, hjb, hrt, hbk⟩ | ⟨hrd, hrk⟩
  · go_wp2_with (go_at_call 18; refine (cread_is s _ _ hrd m _ mm (by omega)).mono ?_)
    first | rintro e w15 v6 rfl hv6 hb15 | rintro e w15 ⟨⟨v6, rfl, hv6⟩, hb15⟩
    obtain ⟨p6, k6, rfl, _, _, _⟩ := OwnLabels.open hv6
    have q15 := belowChain q14 (by simp) hb15
    clear mm
    obtain ⟨_, _, _, _, mm⟩ := HL2.out _ q15
    have hs15 := hb15.size
    go_wp2_with (go_at_call 19; refine (creadkey_is s _ _ _ hrk m _ mm (by omega)).mono ?_)
    first | rintro e w16 v7 rfl hv7 hb16 | rintro e w16 ⟨⟨v7, rfl, hv7⟩, hb16⟩
    obtain ⟨p7, k7, rfl, _, _, _⟩ := OwnLabels.open hv7
    have q16 := belowChain q15 (by simp) hb16
    have hv66 := hv6.below hb16 (Nat.le_refl _)
    clear mm g0 g1
    obtain ⟨_, _, ⟨g0, g1⟩, _⟩ := HL.out _ q16
    obtain ⟨f0, f1⟩ := HF.out _ q16
    have hs16 := hb16.size
    have hB17 : ∀ x y, Below w.heap.size w ((w16.setCell ⟨w9.heap.size, 0, none⟩ x).setCell ⟨w9.heap.size, 1, none⟩ y) := fun x y => ((hBL.trans (q16.mono (by omega))).setCell (p := ⟨w9.heap.size, 0, none⟩) hzw _).setCell (p := ⟨w9.heap.size, 1, none⟩) hzw _
    have hA17 := fun x y => OwnLabels.at (row_aside (row_aside hv66 (a := ⟨w9.heap.size, 0, none⟩) hz14 x) (a := ⟨w9.heap.size, 1, none⟩) hz14 y)
    obtain ⟨hft, hlt⟩ := Lab.right_fit ls hrt
    have HB := fun w hA => cbytes_is p6 ls ls.length k6 _ 0 (Can.bytes_right ls hrt) w rfl hA (Can.fit_more hft) (by unfold maxLen; omega)
    rw [hbk] at HB
    have HB := Lib.hid HB
    have HR := Lib.hid (fun w hA => right_is p6 ls ls.length k6 true hrt w rfl hA (fun x hx => by have := hft x hx; unfold maxLen; omega) (by unfold maxLen; omega))
    clear hv6 hv66 hv7 hb15 hb16
    go_wp2_with (go_at_call 16; refine (HB.out _ (hA17 _ _)).mono ?_)
    first | rintro e w18 rfl hb18 | rintro e w18 ⟨rfl, hb18⟩
    have hA18 := (hA17 _ _).below hb18 (Nat.le_refl _)
    go_wp2_with (go_at_call 21; refine (HR.out _ hA18).mono ?_)
    first | rintro e w19 rfl hb19 | rintro e w19 ⟨rfl, hb19⟩
    go_wp2_with fail
    go_ret
    exact ⟨rfl, below_next (below_next (hB17 _ _) hb18) hb19⟩
  · go_wp2_with (go_at_call 18; refine (cread_is s _ _ hrd m _ mm (by omega)).mono ?_)
    first | rintro e w15 v6 rfl hv6 hb15 | rintro e w15 ⟨⟨v6, rfl, hv6⟩, hb15⟩
    obtain ⟨p6, k6, rfl, _, _, _⟩ := OwnLabels.open hv6
    have q15 := belowChain q14 (by simp) hb15
    clear mm
    obtain ⟨_, _, _, _, mm⟩ := HL2.out _ q15
    have hs15 := hb15.size
    go_wp2_with (go_at_call 19; refine (creadkey_is s _ _ _ hrk m _ mm (by omega)).mono ?_)
    first | rintro e w16 v7 rfl hv7 hb16 | rintro e w16 ⟨⟨v7, rfl, hv7⟩, hb16⟩
    obtain ⟨p7, k7, rfl, _, _, _⟩ := OwnLabels.open hv7
    have q16 := belowChain q15 (by simp) hb16
    have hv66 := hv6.below hb16 (Nat.le_refl _)
    clear mm g0 g1
    obtain ⟨_, _, ⟨g0, g1⟩, _⟩ := HL.out _ q16
    obtain ⟨f0, f1⟩ := HF.out _ q16
    have hs16 := hb16.size
    have hB17 : ∀ x y, Below w.heap.size w ((w16.setCell ⟨w9.heap.size, 0, none⟩ x).setCell ⟨w9.heap.size, 1, none⟩ y) := fun x y => ((hBL.trans (q16.mono (by omega))).setCell (p := ⟨w9.heap.size, 0, none⟩) hzw _).setCell (p := ⟨w9.heap.size, 1, none⟩) hzw _
    have hA17 := fun x y => OwnLabels.at (row_aside (row_aside hv7 (a := ⟨w9.heap.size, 0, none⟩) (by show w9.heap.size < w15.heap.size; omega) x) (a := ⟨w9.heap.size, 1, none⟩) (by show w9.heap.size < w15.heap.size; omega) y)
    obtain ⟨hft, hlt⟩ := Lab.right_fit lt hrt
    have hjz := Can.job_size jb hjb
    have HB := fun w hA => ckey_is jb p7 lt lt.length k7 _ 0 (Can.key_right _ lt hjb hrt) w rfl hA hft (by omega) (by omega)
    rw [hbk] at HB
    have HB := Lib.hid HB
    clear hv6 hv66 hv7 hb15 hb16
    go_wp2_with (go_at_call 17; refine (HB.out _ (hA17 _ _)).mono ?_)
    first | rintro e w18 rfl hb18 | rintro e w18 ⟨rfl, hb18⟩
    go_wp2_with fail
    go_ret
    exact ⟨rfl, below_next (hB17 _ _) hb18⟩
  · go_wp2_with (go_at_call 18; refine (cread_is s _ _ hrd m _ mm (by omega)).mono ?_)
    first | rintro e w15 v6 rfl hv6 hb15 | rintro e w15 ⟨⟨v6, rfl, hv6⟩, hb15⟩
    obtain ⟨p6, k6, rfl, _, _, _⟩ := OwnLabels.open hv6
    have q15 := belowChain q14 (by simp) hb15
    clear mm
    obtain ⟨_, _, _, _, mm⟩ := HL2.out _ q15
    have hs15 := hb15.size
    go_wp2_with (go_at_call 19; refine (creadkey_is s _ _ _ hrk m _ mm (by omega)).mono ?_)
    first | rintro e w16 v7 rfl hv7 hb16 | rintro e w16 ⟨⟨v7, rfl, hv7⟩, hb16⟩
    obtain ⟨p7, k7, rfl, _, _, _⟩ := OwnLabels.open hv7
    have q16 := belowChain q15 (by simp) hb16
    have hv66 := hv6.below hb16 (Nat.le_refl _)
    clear mm g0 g1
    obtain ⟨_, _, ⟨g0, g1⟩, _⟩ := HL.out _ q16
    obtain ⟨f0, f1⟩ := HF.out _ q16
    have hs16 := hb16.size
    have hB17 : ∀ x y, Below w.heap.size w ((w16.setCell ⟨w9.heap.size, 0, none⟩ x).setCell ⟨w9.heap.size, 1, none⟩ y) := fun x y => ((hBL.trans (q16.mono (by omega))).setCell (p := ⟨w9.heap.size, 0, none⟩) hzw _).setCell (p := ⟨w9.heap.size, 1, none⟩) hzw _
    clear hv6 hv66 hv7 hb15 hb16
    go_wp2_with fail
    go_ret
    exact ⟨rfl, hB17 _ _⟩
end Go.Proofs.YthnaninhbofeoaaDoor
