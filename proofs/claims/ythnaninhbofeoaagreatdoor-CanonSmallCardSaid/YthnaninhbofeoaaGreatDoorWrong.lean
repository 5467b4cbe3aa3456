/- The walk of CanonWrong: the law returns true for every input. -/
import Derived.Test.YthnaninhbofeoaaGreatDoorFst
import Derived.Test.YthnaninhbofeoaaGreatDoorWrongI
import Derived.Test.YthnaninhbofeoaaGreatDoorWrongP
import Derived.Test.YthnaninhbofeoaaGreatDoorKeyR
import Derived.Test.YthnaninhbofeoaaGreatDoorKeyC
import Derived.BigQuiet
import Derived.Deep.RegionHeld3
import Derived.Deep.DeepCutAuto
namespace Go.Proofs.YthnaninhbofeoaaGreatDoor
open Go.RowKit

/-- 'append(v, some..)' at a step of a region that draws its order; what comes out may be nil -/
theorem step_catv {ops : Array Oper} {o : Oper} {a : Act} {K : Act → World → Prop} {Q : Exit → Act → World → Prop} {E : Prop} {w : World} (T : TypeId) (hT : Tryz.prog.underlying T = some (.slice 37)) (hgd : o.guard = none) (s x : Operand)
    (ho : o.op = .call { callee := .builtin .append, args := #[s, x], argTypes := #[T, T] })
    (B : Nat) (v : Value) (l : List Can.T) (hs : a.eval s = v) (hown : RowTs B v l w) (r : List Can.T) (g off n c : Nat) (hx : a.eval x = .slice (some ⟨g, off, none⟩) n c) (hn : r.length = n)
    (hr : Can.TAt g off r w) (hlen : l.length + n ≤ 1000) (hB : B ≤ w.heap.size)
    (h : ∀ v' w', RowTs B v' (l ++ r) w' → w.grownBy w' v.ownBlock → K (a.put o.dst v') w') :
    if Region.wanted o (yielded ops a.tmps) = true then Oper.wp Tryz.prog o a w K Q else E := by
  have hw : Region.wanted o (yielded ops a.tmps) = true := by simp [Region.wanted, hgd]
  rw [if_pos hw]
  obtain ⟨i0, hi, hz0, hz1, hz2⟩ := infoTgt2
  subst hn
  refine wp_append_own w s x T ho B 37 i0 _ 2 40 hT hi hz0 hz1 hz2 rfl (by decide) v l.length (Can.tcells l) hs hown ⟨g, off, none⟩ r.length c (Can.tcells r) hx (Can.tcells_length r) ?_ (Can.tcells_one _) (by unfold maxLen; omega) (by omega) hB ?_
  · intro j u hj
    have := hr.cells j u hj
    have e : (⟨g, off, none⟩ : Addr).add j = ⟨g, off + j, none⟩ := by unfold Addr.add; split <;> simp_all
    rw [e]
    exact this
  · intro v' w' h1 h2 _
    refine h v' w' ?_ h2
    unfold RowTs
    rw [Can.tcells_append, List.length_append]
    exact h1
theorem RowTs.madeG (w : World) (B G : Nat) (hG : G = w.heap.size) (hB : B ≤ w.heap.size) : RowTs B (.slice (some ⟨G, 0, none⟩) 0 0) [] (w.alloc (.cells #[] 37)) := by
  subst hG
  exact RowTs.made w B hB
theorem RowTs.form {B : Nat} {v : Value} {ts : List Can.T} {w : World} (h : RowTs B v ts w) (h0 : 0 < ts.length) : ∃ g c, v = .slice (some ⟨g, 0, none⟩) ts.length c ∧ B ≤ g := by
  rcases h.2 with ⟨_, h2⟩ | ⟨g, cap, cur, hv, hg, _⟩
  · omega
  · exact ⟨g, cap, hv, hg⟩
/-- a target written out, in its box -/
theorem Can.box_at (t : Can.T) (W : World) (G : Nat) (hG : W.heap[G]? = some (.cells #[.string t.job, .slice t.p t.n t.c] 37)) (hA : Lab.At t.p t.ls W) : Can.TAt G 0 [t] W := by
  intro i hi
  match i, hi with
  | 0, _ => exact ⟨by rw [Lib.cell_of_heap hG]; rfl, by rw [Lib.cell_of_heap hG]; rfl, hA⟩
theorem Can.of_lit (xs : List ByteArray) (C : Array Value) (hC : C = (xs.map Value.string).toArray) (k : Nat) (hk : xs.length = k) (he : k % 2 = 0) (h0 : 0 < k) (h1 : k ≤ 1000) (ls : List Lab.L) (hls : Can.pairs (xs.map (·.data.toList)) = ls) (G : Nat) (W : World) (hG : G = W.heap.size) :
    Calls Tryz.prog 15 #[.slice (some ⟨G, 0, none⟩) k k] (W.alloc (.cells C 9)) fun e w' =>
      (∃ u, e = .returned u ∧ OwnLabels (W.heap.size + 1) u ls w') ∧ Below W.heap.size (W.alloc (.cells C 9)) w' := by
  subst hG
  exact (of_is W.heap.size _ xs k ls _ (lit_texts _ _ hC W k hk h1) hk he h0 h1 hls).mono fun e w' ⟨⟨u, h, hu⟩, hb⟩ =>
    ⟨⟨u, h, by rw [World.size_alloc] at hu; exact hu⟩, hb.mono (by simp)⟩
theorem OwnLabels.at {B n c : Nat} {p : Option Addr} {ls : List Lab.L} {w : World} (h : OwnLabels B (.slice p n c) ls w) : Lab.At p ls w := by
  obtain ⟨p', c', e, hA, _⟩ := OwnLabels.open h
  simp only [Value.slice.injEq] at e
  rw [e.1]
  exact hA
theorem Can.cmp_err (a b : Can.T) (e : Int) (h : Can.err [a, b] = e) (h0 : e ≠ 0) : Can.cmp a b = (0, e) := by
  unfold Can.cmp
  rw [h, if_neg h0]
theorem Can.key_err (t : Can.T) (e : Int) (h : Can.keyE t = e) : Can.key (Lab.bs t.job) t.ls = ((Can.key (Lab.bs t.job) t.ls).1, e) := by
  rw [← h]
  rfl
def Can.odd1 (P : ByteArray) : List ByteArray := [P ++ ⟨#[255]⟩, P ++ ⟨#[122, 122, 255]⟩, P ++ ⟨#[122, 122, 255, 255]⟩, ⟨#[255]⟩ ++ P, P ++ ⟨#[122, 122]⟩, P ++ ⟨#[122, 122, 255, 49]⟩, P ++ ⟨#[97, 45, 98, 255, 49, 255]⟩]
theorem Can.odd1_is (P : ByteArray) : (Can.odd1 P).map Lab.bs = Can.odd (Lab.bs P) := by
  simp [Can.odd1, Can.odd, Lab.bs]
theorem Can.odd1_read (P : ByteArray) (ls : List Lab.L) (hP : Lab.bs P = Can.raw ls) (hr : Lab.right ls = true) (s : ByteArray) (hs : s ∈ Can.odd1 P) : Can.read s.data.toList = ([], 50) ∧ Can.readKey (⟨#[97, 254]⟩ ++ s) = (⟨#[]⟩, [], 50) ∧ s.size ≤ P.size + 6 := by
  have h1 : Lab.bs s ∈ Can.odd (Can.raw ls) := by
    rw [← hP, ← Can.odd1_is]
    exact List.mem_map.2 ⟨s, hs, rfl⟩
  have h2 := Can.odd_read ls hr _ h1
  refine ⟨h2, Can.odd_key s _ (by simp [Lab.bs]) h2, ?_⟩
  simp only [Can.odd1, List.mem_cons, List.not_mem_nil, or_false] at hs
  rcases hs with rfl | rfl | rfl | rfl | rfl | rfl | rfl
  all_goals
    rw [ByteArray.size_append]
    first
      | (show P.size + 1 ≤ _; omega)
      | (show P.size + 2 ≤ _; omega)
      | (show P.size + 3 ≤ _; omega)
      | (show P.size + 4 ≤ _; omega)
      | (show P.size + 6 ≤ _; omega)
      | (show 1 + P.size ≤ _; omega)

theorem Wr.box {B : Nat} (w4 w5 : World) (job : ByteArray) (p : Option Addr) (n c : Nat) (ls : List Lab.L) (hu : OwnLabels B (.slice p n c) ls w5) (hBX : w4.heap.size < B) (c0 : (w5.cell? ⟨w4.heap.size, 0, none⟩).isSome = true) (c1 : (w5.cell? ⟨w4.heap.size, 1, none⟩).isSome = true) (hB : Below w4.heap.size w4 w5) (hs : w4.heap.size < w5.heap.size) (W : World) (hW : W = (w5.setCell ⟨w4.heap.size, 0, none⟩ (.string job)).setCell ⟨w4.heap.size, 1, none⟩ (.slice p n c)) :
    Lab.At p ls W ∧ W.cell? ⟨w4.heap.size, 0, none⟩ = some (.string job) ∧ W.cell? ⟨w4.heap.size, 1, none⟩ = some (.slice p n c) ∧ w4.heap.size < W.heap.size ∧ Below w4.heap.size w4 W := by
  subst hW
  have dd := two_cells w5 w4.heap.size (.string job) (.slice p n c) c0 c1
  have hb := (hB.setCell (p := ⟨w4.heap.size, 0, none⟩) (Nat.le_refl _) (.string job)).setCell (p := ⟨w4.heap.size, 1, none⟩) (Nat.le_refl _) (.slice p n c)
  refine ⟨OwnLabels.at (row_aside (row_aside hu (a := ⟨w4.heap.size, 0, none⟩) hBX _) (a := ⟨w4.heap.size, 1, none⟩) hBX _), dd.1, dd.2, ?_, hb⟩
  rw [World.size_setCell, World.size_setCell]
  exact hs
theorem Wr.box1 (w4 w5 : World) (job : ByteArray) (p : Option Addr) (n c : Nat) (ls : List Lab.L) (hA : Lab.At p ls w4) (c0 : (w5.cell? ⟨w4.heap.size, 0, none⟩).isSome = true) (c1 : w5.cell? ⟨w4.heap.size, 1, none⟩ = some (.slice p n c)) (hB : Below w4.heap.size w4 w5) (hs : w4.heap.size < w5.heap.size) (W : World) (hW : W = w5.setCell ⟨w4.heap.size, 0, none⟩ (.string job)) :
    Lab.At p ls W ∧ W.cell? ⟨w4.heap.size, 0, none⟩ = some (.string job) ∧ W.cell? ⟨w4.heap.size, 1, none⟩ = some (.slice p n c) ∧ w4.heap.size < W.heap.size ∧ Below w4.heap.size w4 W := by
  subst hW
  have hb := hB.setCell (p := ⟨w4.heap.size, 0, none⟩) (Nat.le_refl _) (.string job)
  refine ⟨hA.below hb (Nat.le_refl _), World.cell?_setCell_same' _ _ _ c0, (World.cell?_setCell_other _ _ _ _ (by intro e; cases e)).trans c1, ?_, hb⟩
  rw [World.size_setCell]
  exact hs
theorem Wr.box2 (w4 w5 : World) (job : ByteArray) (p : Option Addr) (n c : Nat) (ls : List Lab.L) (hA : Lab.At p ls w4) (c0 : (w5.cell? ⟨w4.heap.size, 0, none⟩).isSome = true) (c1 : w5.cell? ⟨w4.heap.size, 1, none⟩ = some (.slice p n c)) (hB : Below w4.heap.size w4 w5) (hs : w4.heap.size < w5.heap.size) (W : World) (o : Obj) (hW : W = (w5.setCell ⟨w4.heap.size, 0, none⟩ (.string job)).alloc o) :
    Lab.At p ls W ∧ W.cell? ⟨w4.heap.size, 0, none⟩ = some (.string job) ∧ W.cell? ⟨w4.heap.size, 1, none⟩ = some (.slice p n c) ∧ w4.heap.size < W.heap.size ∧ Below w4.heap.size w4 W := by
  subst hW
  obtain ⟨h1, h2, h3, h4, h5⟩ := Wr.box1 w4 w5 job p n c ls hA c0 c1 hB hs _ rfl
  have hb := (Below.refl (w5.setCell ⟨w4.heap.size, 0, none⟩ (.string job)).heap.size (w5.setCell ⟨w4.heap.size, 0, none⟩ (.string job))).alloc (Nat.le_refl _) o
  exact ⟨h1.alloc o, cell_later hb h2 (Nat.le_refl _), cell_later hb h3 (Nat.le_refl _), Nat.lt_of_lt_of_le h4 hb.size, h5.alloc (Nat.le_of_lt h4) o⟩
theorem some_later {B : Nat} {w w' : World} (h : Below B w w') {a : Addr} {v : Value} (hc : w.cell? a = some v) (hB : w.heap.size ≤ B) : (w'.cell? a).isSome = true := by rw [cell_later h hc hB]; rfl
theorem Can.fit_lits (ls : List Lab.L) (h : (ls.all fun x => decide (x.n.size ≤ 1100) && decide (x.v.size ≤ 1100)) = true) : Lab.Fit 1100 ls := fun x hx => by
  have := List.all_eq_true.1 h x hx
  rw [Bool.and_eq_true] at this
  exact ⟨of_decide_eq_true this.1, of_decide_eq_true this.2⟩

set_option maxHeartbeats 12800000 in
set_option maxRecDepth 100000 in
theorem wrong_nat (a0 : Option Addr) (zs : List Lab.St) (n c : Nat) (zj : Nat) (za : Option Addr) (zx : List Lab.Sm) (zn zc : Nat) (wy tu : Nat) (m : Int) (w : World)
    (hn : zs.length = n) (hA : Lab.StAt a0 zs w) (hF : ∀ z ∈ zs, Lab.StFit z) (hlc : n ≤ c)
    (hzj : zj < 256) (hzn : zx.length = zn) (hZA : Lab.SmAt za zx w) (hZF : Lab.SmFit zx) (hzl : zn ≤ zc) (hzm : zc ≤ maxLen) (hwy : wy < 256) (htu : tu < 256) (hm : w.cell? ⟨0, 0, none⟩ = some (.int .i64 m)) :
    Calls Tryz.prog 6 #[.slice a0 n c, .agg #[.int .u8 (zj : Int), .slice za zn zc], .int .u8 (wy : Int), .int .u8 (tu : Int)] w fun e w' => e = .returned (.bool true) ∧ Below w.heap.size w w' := by
  have HW := Lib.hid (fun w hm => awake_true m w hm)
  have HALL := Lib.hid (fun w hA => all2_is a0 zs n c w hn hA hF hlc)
  have HM := Lib.hid (fun w hA => omade_is zj za zx zn zc w hzj hzn hA hZF hzl hzm)
  have hrA := Lab.tl_right zx
  have hjA := Lab.job_ok (zj % 8) (Nat.mod_lt _ (by omega))
  obtain ⟨A, hAe⟩ : ∃ A, Lab.tl zx = A := ⟨_, rfl⟩
  obtain ⟨J, hJ⟩ : ∃ J, Lab.jobL.getD (zj % 8) ⟨#[]⟩ = J := ⟨_, rfl⟩
  rw [hAe] at HM hrA
  rw [hJ] at HM hjA
  obtain ⟨hfA, hlA⟩ := Lab.right_fit A hrA
  have hzA : J.size ≤ 128 := Can.job_size J hjA
  have hrl := Can.raw_bound A hrA
  clear hAe hJ hn hF hlc hzj hzn hZF hzl hzm
  have BA := Lib.hid (fun p n c w hn hA hl => cbytes_is p A n c _ 0 (Can.bytes_right A hrA) w hn hA (Can.fit_more hfA) hl)
  obtain ⟨PA, hPA⟩ : ∃ P, ByteArray.mk (Can.raw A).toArray = P := ⟨_, rfl⟩
  rw [hPA] at BA
  have bPA : Lab.bs PA = Can.raw A := by rw [← hPA]; rfl
  have zPA : PA.size ≤ 900000 := by
    have : PA.size = (Can.raw A).length := by rw [← bPA]; exact Array.length_toList.symm
    omega
  have HODD := Lib.hid (Can.odd1_read PA A bPA hrA)
  have HFA : Hid (∀ p n c, A.length = n → Can.Fine ⟨J, p, n, c, A⟩) := fun p n c h => ⟨h, hjA, hrA⟩
  have HRA := Lib.hid hrA
  have HFITA := Lib.hid hfA
  obtain ⟨L, hL⟩ : ∃ L, A.length = L := ⟨_, rfl⟩
  have HL := Lib.hid hL
  rw [hL] at hlA
  obtain ⟨k5, hk5⟩ : ∃ k, wy % 5 = k := ⟨_, rfl⟩
  have hk5l : k5 < 5 := by omega
  have r5 : Int.tmod (wy : Int) 5 = (k5 : Int) := by rw [Int.tmod_eq_emod_of_nonneg (by omega), ← hk5]; omega
  obtain ⟨k3, hk3⟩ : ∃ k, tu % 3 = k := ⟨_, rfl⟩
  have hk3l : k3 < 3 := by omega
  have r3 : Int.tmod (tu : Int) 3 = (k3 : Int) := by rw [Int.tmod_eq_emod_of_nonneg (by omega), ← hk3]; omega
  clear hPA bPA hrA hfA hjA hrl hk5 hk3 hL hwy
  have hW0 : Below w.heap.size w (w.alloc (.cells #[.int .u8 (zj : Int), .slice za zn zc] 52)) := (Below.refl _ _).alloc (Nat.le_refl _) _
  have hm0 := cell_later hW0 hm (Nat.le_refl _)
  go_enter Tryz.func6, Tryz.ntmps6
  go_wp2_with (go_at_call 8; refine (HW.out _ hm0).mono ?_)
  first | rintro e w1 rfl hb1 | rintro e w1 ⟨rfl, hb1⟩
  have kx1 := below_kept hb1 (alloc_new w _) (by simp)
  have hB1 : Below w.heap.size w w1 := hW0.trans (hb1.mono hW0.size)
  have hxw1 : w.heap.size < w1.heap.size := by have := hb1.size; simp at this; omega
  go_wp2_with (go_at_call 9; refine (HALL.out _ (hA.below hB1 (Nat.le_refl _))).mono ?_)
  first | rintro e w2 v ts rfl hv hts hnil hb2 | rintro e w2 ⟨⟨v, ts, rfl, hv, hts, hnil⟩, hb2⟩
  have hB2 := below_next hB1 hb2
  have kx2 := below_kept hb2 kx1 hxw1
  have z0 : w2.cell? ⟨w.heap.size, 0, none⟩ = some (.int .u8 (zj : Int)) := by rw [Lib.cell_of_heap kx2]; rfl
  have z1 : w2.cell? ⟨w.heap.size, 1, none⟩ = some (.slice za zn zc) := by rw [Lib.cell_of_heap kx2]; rfl
  have hfine := Can.fine_of ts _ hts (fun t ht => (hv.2 t ht).1)
  have hlen : ts.length ≤ 12 := by
    have := congrArg List.length hts
    rw [List.length_map, List.length_map, List.length_take] at this
    omega
  obtain ⟨pv, cv, rfl, hNc, hTP⟩ := hv.openP
  have hxw2 : w.heap.size < w2.heap.size := Nat.lt_of_lt_of_le hxw1 hb2.size
  clear hts kx1 kx2 HALL HW hb1 hb2 hW0 hm0 hv hA
  go_wp2_with (go_at_call 18; refine (HM.out _ (hZA.below hB2 (Nat.le_refl _))).mono ?_)
  first | rintro e w3 v3 rfl hv3 hb3 | rintro e w3 ⟨⟨v3, rfl, hv3⟩, hb3⟩
  have hB3 := below_next hB2 hb3
  have hTP3 := hTP.below hb3 (Nat.le_refl _)
  obtain ⟨p3, c3, rfl, hA3, _, _⟩ := OwnLabels.open hv3
  rw [HL.out]
  have hB3a : Below w.heap.size w (w3.alloc (.cells #[.string J, .slice p3 L c3] 37)) := hB3.alloc hB3.size _
  clear z0 z1 hv3 HM hTP hZA hb3
  go_wp2_with (go_at_call 19; refine (BA.out _ _ _ _ HL.out (hA3.alloc _) (by unfold maxLen; omega)).mono ?_)
  first | rintro e w4 rfl hb4 | rintro e w4 ⟨rfl, hb4⟩
  have k11 := below_kept hb4 (alloc_new w3 _) (by simp)
  have hx11 : w3.heap.size < w4.heap.size := by have := hb4.size; simp at this; omega
  have hB4 : Below w.heap.size w w4 := hB3a.trans (hb4.mono hB3a.size)
  have hTP4 := (hTP3.below ((Below.refl _ _).alloc (Nat.le_refl _) (.cells #[.string J, .slice p3 L c3] 37)) (Nat.le_refl _)).below hb4 (Nat.le_refl _)
  have hA4 := (hA3.alloc (.cells #[.string J, .slice p3 L c3] 37)).below hb4 (Nat.le_refl _)
  have y0 : w4.cell? ⟨w3.heap.size, 0, none⟩ = some (.string J) := by rw [Lib.cell_of_heap k11]; rfl
  have y1 : w4.cell? ⟨w3.heap.size, 1, none⟩ = some (.slice p3 L c3) := by rw [Lib.cell_of_heap k11]; rfl
  have hm4 := cell_later hB4 hm (Nat.le_refl _)
  obtain ⟨X1, hX1⟩ : ∃ X, w3.heap.size = X := ⟨_, rfl⟩
  rw [hX1] at hx11 y0 y1 ⊢
  clear k11 hX1 hTP3 hA3 hB3a hB3 hB2 hB1 hb4 BA hm hxw1 hxw2
  go_upto_block 0 with fail
  go_cut [16] (fun s16 wx => ∃ (bad : Can.T) (want : Int), s16 = .int .i64 want ∧ (want = 51 ∨ want = 44) ∧ Hid (Can.keyE bad = want) ∧ Hid (Can.TFit bad) ∧ Lab.At bad.p bad.ls wx ∧ wx.cell? ⟨w4.heap.size, 0, none⟩ = some (.string bad.job) ∧ wx.cell? ⟨w4.heap.size, 1, none⟩ = some (.slice bad.p bad.n bad.c) ∧ w4.heap.size < wx.heap.size ∧ Below w4.heap.size w4 wx)
  case first =>
    have HRP := Lib.hid (fun w => Tryz.strings_Repeat ⟨#[120]⟩ 129 w (by omega) (by decide))
    obtain rfl | rfl | rfl | rfl | rfl : k5 = 0 ∨ k5 = 1 ∨ k5 = 2 ∨ k5 = 3 ∨ k5 = 4 := by omega
    · clear HRP
      go_wp2_with fail
      go_meet
      refine ⟨⟨⟨#[]⟩, p3, L, c3, A⟩, 51, rfl, .inl rfl, Can.keyE_job _ rfl, ⟨HL.out, by show L ≤ 70; omega, HFITA.out, (by decide : (0 : Nat) ≤ 1000000)⟩, ?_, ?_, ?_, ?_, ?_⟩
      · exact hA4.alloc _
      · simp
      · simp
      · simp
      · exact (Below.refl _ _).alloc (Nat.le_refl _) _
    · go_wp2_with (go_at_call 20; refine (HRP.out _).mono ?_)
      first | rintro e w5 rfl hb5 | rintro e w5 ⟨rfl, hb5⟩
      have kb := below_kept hb5 (alloc_new w4 _) (by simp)
      have c0 : w5.cell? ⟨w4.heap.size, 0, none⟩ = some (.string J) := by rw [Lib.cell_of_heap kb]; rfl
      have c1 : w5.cell? ⟨w4.heap.size, 1, none⟩ = some (.slice p3 L c3) := by rw [Lib.cell_of_heap kb]; rfl
      have f0 : w5.frozen? ⟨w4.heap.size, 0, none⟩ = false := Lib.frozen_of_heap kb 0
      have hsz5 : w4.heap.size < w5.heap.size := by have := hb5.size; simp at this; omega
      have hB5 : Below w4.heap.size w4 w5 := ((Below.refl _ _).alloc (Nat.le_refl _) _).trans (hb5.mono (by simp))
      have hA5 := hA4.below hB5 (Nat.le_refl _)
      have HK5 := Lib.hid kb
      obtain ⟨R, hR⟩ : ∃ R, ByteArray.mk (Lib.repeatL (ByteArray.mk #[120]).data.toList 129).toArray = R := ⟨_, rfl⟩
      have hRl : (Lab.bs R).length = 129 := by rw [← hR]; decide +kernel
      have hRs : R.size = 129 := by
        have e : (Lab.bs R).length = R.size := Array.length_toList
        omega
      rw [hR]
      clear hb5 hR kb HRP
      obtain rfl | rfl | rfl : k3 = 0 ∨ k3 = 1 ∨ k3 = 2 := by omega
      · go_wp2_with fail
        go_meet
        refine ⟨⟨⟨#[255]⟩, p3, L, c3, A⟩, 51, rfl, .inl rfl, Can.keyE_job _ (by show Can.job [255] = false; decide +kernel), ⟨HL.out, by show L ≤ 70; omega, HFITA.out, (by decide : (1 : Nat) ≤ 1000000)⟩, ?_⟩
        exact Wr.box2 w4 w5 ⟨#[255]⟩ p3 L c3 A hA4 (by rw [c0]; rfl) c1 hB5 hsz5 _ _ rfl
      · go_wp2_with fail
        go_meet
        refine ⟨⟨⟨#[97, 254]⟩, p3, L, c3, A⟩, 51, rfl, .inl rfl, Can.keyE_job _ (by show Can.job [97, 254] = false; decide +kernel), ⟨HL.out, by show L ≤ 70; omega, HFITA.out, (by decide : (2 : Nat) ≤ 1000000)⟩, ?_⟩
        exact Wr.box2 w4 w5 ⟨#[97, 254]⟩ p3 L c3 A hA4 (by rw [c0]; rfl) c1 hB5 hsz5 _ _ rfl
      · go_wp2_with fail
        go_meet
        refine ⟨⟨R, p3, L, c3, A⟩, 51, rfl, .inl rfl, Can.keyE_job _ (by unfold Can.job; rw [hRl]; rfl), ⟨HL.out, by show L ≤ 70; omega, HFITA.out, by show R.size ≤ 1000000; omega⟩, ?_⟩
        exact Wr.box2 w4 w5 R p3 L c3 A hA4 (by rw [c0]; rfl) c1 hB5 hsz5 _ _ rfl
    · have OL := Lib.hid (fun G W hG => Can.of_lit [⟨#[97]⟩, ⟨#[]⟩] _ rfl 2 rfl (by omega) (by omega) (by omega) [⟨⟨#[97]⟩, ⟨#[]⟩⟩] rfl G W hG)
      go_wp2_with (go_at_call 15; refine (OL.out _ _ (by simp)).mono ?_)
      first | rintro e w5 u rfl hu hb5 | rintro e w5 ⟨⟨u, rfl, hu⟩, hb5⟩
      have kb : w5.heap[w4.heap.size]? = some (.cells #[.string J, .slice p3 L c3] 37) := below_kept hb5 ((Below.heap_alloc _ _ _ (by simp)).trans (alloc_new w4 _)) (by simp)
      have c0 : w5.cell? ⟨w4.heap.size, 0, none⟩ = some (.string J) := by rw [Lib.cell_of_heap kb]; rfl
      have c1 : w5.cell? ⟨w4.heap.size, 1, none⟩ = some (.slice p3 L c3) := by rw [Lib.cell_of_heap kb]; rfl
      have f0 : w5.frozen? ⟨w4.heap.size, 0, none⟩ = false := Lib.frozen_of_heap kb 0
      have f1 : w5.frozen? ⟨w4.heap.size, 1, none⟩ = false := Lib.frozen_of_heap kb 1
      have hsz5 : w4.heap.size < w5.heap.size := by have := hb5.size; simp at this; omega
      have hB5 : Below w4.heap.size w4 w5 := (((Below.refl _ _).alloc (Nat.le_refl _) _).alloc (by simp) _).trans (hb5.mono (by simp))
      obtain ⟨pu, cu, eu, _⟩ := OwnLabels.open hu
      replace eu : u = .slice pu 1 cu := eu
      subst eu
      have HU := Lib.hid hu
      clear hb5 kb OL HRP hu
      go_wp2_with fail
      go_meet
      refine ⟨⟨⟨#[97]⟩, pu, 1, cu, [⟨⟨#[97]⟩, ⟨#[]⟩⟩]⟩, 44, rfl, .inr rfl, Can.keyE_labels _ (by show Can.job [97] = true; decide +kernel) (by show Lab.right [⟨⟨#[97]⟩, ⟨#[]⟩⟩] = false; decide +kernel), ⟨rfl, (by decide : (1 : Nat) ≤ 70), Can.fit_lits [⟨⟨#[97]⟩, ⟨#[]⟩⟩] (by decide), (by decide : (⟨#[97]⟩ : ByteArray).size ≤ 1000000)⟩, ?_⟩
      exact Wr.box w4 w5 ⟨#[97]⟩ pu 1 cu _ HU.out (by omega) (by rw [c0]; rfl) (by rw [c1]; rfl) hB5 hsz5 _ rfl
    · have OL := Lib.hid (fun G W hG => Can.of_lit [⟨#[98]⟩, ⟨#[49]⟩, ⟨#[97]⟩, ⟨#[49]⟩] _ rfl 4 rfl (by omega) (by omega) (by omega) [⟨⟨#[98]⟩, ⟨#[49]⟩⟩, ⟨⟨#[97]⟩, ⟨#[49]⟩⟩] rfl G W hG)
      go_wp2_with (go_at_call 15; refine (OL.out _ _ (by simp)).mono ?_)
      first | rintro e w5 u rfl hu hb5 | rintro e w5 ⟨⟨u, rfl, hu⟩, hb5⟩
      have kb : w5.heap[w4.heap.size]? = some (.cells #[.string J, .slice p3 L c3] 37) := below_kept hb5 ((Below.heap_alloc _ _ _ (by simp)).trans (alloc_new w4 _)) (by simp)
      have c0 : w5.cell? ⟨w4.heap.size, 0, none⟩ = some (.string J) := by rw [Lib.cell_of_heap kb]; rfl
      have c1 : w5.cell? ⟨w4.heap.size, 1, none⟩ = some (.slice p3 L c3) := by rw [Lib.cell_of_heap kb]; rfl
      have f0 : w5.frozen? ⟨w4.heap.size, 0, none⟩ = false := Lib.frozen_of_heap kb 0
      have f1 : w5.frozen? ⟨w4.heap.size, 1, none⟩ = false := Lib.frozen_of_heap kb 1
      have hsz5 : w4.heap.size < w5.heap.size := by have := hb5.size; simp at this; omega
      have hB5 : Below w4.heap.size w4 w5 := (((Below.refl _ _).alloc (Nat.le_refl _) _).alloc (by simp) _).trans (hb5.mono (by simp))
      obtain ⟨pu, cu, eu, _⟩ := OwnLabels.open hu
      replace eu : u = .slice pu 2 cu := eu
      subst eu
      have HU := Lib.hid hu
      clear hb5 kb OL HRP hu
      go_wp2_with fail
      go_meet
      refine ⟨⟨⟨#[97]⟩, pu, 2, cu, [⟨⟨#[98]⟩, ⟨#[49]⟩⟩, ⟨⟨#[97]⟩, ⟨#[49]⟩⟩]⟩, 44, rfl, .inr rfl, Can.keyE_labels _ (by show Can.job [97] = true; decide +kernel) (by show Lab.right [⟨⟨#[98]⟩, ⟨#[49]⟩⟩, ⟨⟨#[97]⟩, ⟨#[49]⟩⟩] = false; decide +kernel), ⟨rfl, (by decide : (2 : Nat) ≤ 70), Can.fit_lits [⟨⟨#[98]⟩, ⟨#[49]⟩⟩, ⟨⟨#[97]⟩, ⟨#[49]⟩⟩] (by decide), (by decide : (⟨#[97]⟩ : ByteArray).size ≤ 1000000)⟩, ?_⟩
      exact Wr.box w4 w5 ⟨#[97]⟩ pu 2 cu _ HU.out (by omega) (by rw [c0]; rfl) (by rw [c1]; rfl) hB5 hsz5 _ rfl
    · have OL := Lib.hid (fun G W hG => Can.of_lit [⟨#[45]⟩, ⟨#[49]⟩] _ rfl 2 rfl (by omega) (by omega) (by omega) [⟨⟨#[45]⟩, ⟨#[49]⟩⟩] rfl G W hG)
      go_wp2_with (go_at_call 15; refine (OL.out _ _ (by simp)).mono ?_)
      first | rintro e w5 u rfl hu hb5 | rintro e w5 ⟨⟨u, rfl, hu⟩, hb5⟩
      have kb : w5.heap[w4.heap.size]? = some (.cells #[.string J, .slice p3 L c3] 37) := below_kept hb5 ((Below.heap_alloc _ _ _ (by simp)).trans (alloc_new w4 _)) (by simp)
      have c0 : w5.cell? ⟨w4.heap.size, 0, none⟩ = some (.string J) := by rw [Lib.cell_of_heap kb]; rfl
      have c1 : w5.cell? ⟨w4.heap.size, 1, none⟩ = some (.slice p3 L c3) := by rw [Lib.cell_of_heap kb]; rfl
      have f0 : w5.frozen? ⟨w4.heap.size, 0, none⟩ = false := Lib.frozen_of_heap kb 0
      have f1 : w5.frozen? ⟨w4.heap.size, 1, none⟩ = false := Lib.frozen_of_heap kb 1
      have hsz5 : w4.heap.size < w5.heap.size := by have := hb5.size; simp at this; omega
      have hB5 : Below w4.heap.size w4 w5 := (((Below.refl _ _).alloc (Nat.le_refl _) _).alloc (by simp) _).trans (hb5.mono (by simp))
      obtain ⟨pu, cu, eu, _⟩ := OwnLabels.open hu
      replace eu : u = .slice pu 1 cu := eu
      subst eu
      have HU := Lib.hid hu
      clear hb5 kb OL HRP hu
      go_wp2_with fail
      go_meet
      refine ⟨⟨⟨#[]⟩, pu, 1, cu, [⟨⟨#[45]⟩, ⟨#[49]⟩⟩]⟩, 51, rfl, .inl rfl, Can.keyE_job _ rfl, ⟨rfl, (by decide : (1 : Nat) ≤ 70), Can.fit_lits [⟨⟨#[45]⟩, ⟨#[49]⟩⟩] (by decide), (by decide : (⟨#[]⟩ : ByteArray).size ≤ 1000000)⟩, ?_⟩
      exact Wr.box w4 w5 ⟨#[]⟩ pu 1 cu _ HU.out (by omega) (by rw [c0]; rfl) (by rw [c1]; rfl) hB5 hsz5 _ rfl
  case rest =>
    obtain ⟨bad, want, rfl, hw51, HKE, HTF, hAb, hx0, hx1, hxl, hbx⟩ := hcut
    obtain ⟨W5, hW5⟩ : ∃ W, W = wc := ⟨_, rfl⟩
    subst hW5
    have hwz : want ≠ 0 := by rcases hw51 with rfl | rfl <;> decide
    have hwn : want ≠ 0 := hwz
    obtain ⟨N, hN⟩ : ∃ N, ts.length = N := ⟨_, rfl⟩
    rw [hN] at hlen hNc ⊢
    have HN := Lib.hid hN
    obtain ⟨k, hk⟩ : ∃ k, tu % (N + 1) = k := ⟨_, rfl⟩
    have hkN : k ≤ N := by have := Nat.mod_lt tu (show 0 < N + 1 by omega); omega
    have r1 : IntKind.i64.wrap (tu : Int) = (tu : Int) := by rw [IntKind.wrap_i64]; omega
    have r2 : IntKind.i64.wrap ((N : Int) + 1) = (N : Int) + 1 := by rw [IntKind.wrap_i64]; omega
    have r4 : Int.tmod (tu : Int) ((N : Int) + 1) = (k : Int) := by rw [Int.tmod_eq_emod_of_nonneg (by omega), ← hk]; push_cast; rfl
    have r6 : ¬ ((N : Int) + 1 = 0) := by omega
    have hTP5 := hTP4.below hbx (Nat.le_refl _)
    have hA5 := hA4.below hbx (Nat.le_refl _)
    have hm5 := cell_later hbx hm4 (Nat.le_refl _)
    have y05 := cell_later hbx y0 (Nat.le_refl _)
    have y15 := cell_later hbx y1 (Nat.le_refl _)
    have hB5 : Below w.heap.size w W5 := hB4.trans (hbx.mono hB4.size)
    obtain ⟨X5, hX5⟩ : ∃ X, w4.heap.size = X := ⟨_, rfl⟩
    rw [hX5] at hx0 hx1 hxl ⊢
    have hFITQ : ∀ t ∈ [] ++ ts.take k ++ [bad] ++ ts.drop k, Can.TFit t := fun t ht => by
      simp only [List.nil_append, List.append_assoc, List.mem_append, List.mem_singleton] at ht
      rcases ht with ht | rfl | ht
      · exact Can.fine_fit t (hfine t (List.mem_of_mem_take ht))
      · exact HTF.out
      · exact Can.fine_fit t (hfine t (List.mem_of_mem_drop ht))
    have HQF := Lib.hid hFITQ
    have HQE : Hid (Can.err ([] ++ ts.take k ++ [bad] ++ ts.drop k) = want) := by
      show Can.err _ = _
      rw [List.append_assoc]
      exact Can.err_mid bad (ts.drop k) want HKE.out hwz _ (fun x hx => by
        have h1 : x ∈ ts.take k := by simpa using hx
        have := hfine x (List.mem_of_mem_take h1)
        exact Can.keyE_right x this.2.1 this.2.2)
    have HQL : Hid (([] ++ ts.take k ++ [bad] ++ ts.drop k).length = N + 1) := by
      show _ = _
      simp only [List.length_append, List.length_take, List.length_drop, List.length_cons, List.length_nil]
      omega
    have HX : Hid (∀ w', Below W5.heap.size W5 w' → w'.cell? ⟨X5, 0, none⟩ = some (.string bad.job) ∧ w'.cell? ⟨X5, 1, none⟩ = some (.slice bad.p bad.n bad.c) ∧ w'.cell? ⟨X1, 0, none⟩ = some (.string J) ∧ w'.cell? ⟨X1, 1, none⟩ = some (.slice p3 L c3) ∧ Lab.At bad.p bad.ls w' ∧ Lab.At p3 A w' ∧ w'.cell? ⟨0, 0, none⟩ = some (.int .i64 m)) := fun w' hw =>
      ⟨cell_later hw hx0 (Nat.le_refl _), cell_later hw hx1 (Nat.le_refl _), cell_later hw y05 (Nat.le_refl _), cell_later hw y15 (Nat.le_refl _), hAb.below hw (Nat.le_refl _), hA5.below hw (Nat.le_refl _), cell_later hw hm5 (Nat.le_refl _)⟩
    clear hFITQ hk hX5 hw51 y0 y1 y05 y15 hm4 hm5 hA4 hA5 hTP4 hB4 hbx hx11 hAb
    go_upto_region 22 with fail
    go_cut [18] (fun s18 wx => ∃ (g cg : Nat) (Q : List Can.T), s18 = .slice (some ⟨g, 0, none⟩) Q.length cg ∧ g < wx.heap.size ∧ Can.TAt g 0 Q wx ∧ Hid (∀ t ∈ Q, Can.TFit t) ∧ Hid (Can.err Q = want) ∧ Q.length ≤ 13 ∧ Below W5.heap.size W5 wx)
    case first =>
      have HAB : Hid (∀ w', Below W5.heap.size W5 w' → Lab.At bad.p bad.ls w') := fun w' hw => (HX.out w' hw).2.2.2.2.1
      have HC : Hid (∀ w', Below W5.heap.size W5 w' → w'.cell? ⟨X5, 0, none⟩ = some (.string bad.job) ∧ w'.cell? ⟨X5, 1, none⟩ = some (.slice bad.p bad.n bad.c)) := fun w' hw => ⟨(HX.out w' hw).1, (HX.out w' hw).2.1⟩
      rcases hTP5 with hnil2 | ⟨b, rfl, hb0, hT⟩
      · have e1 := hnil hnil2
        subst hnil2
        simp only [Value.slice.injEq] at e1
        obtain ⟨rfl, _, rfl⟩ := e1
        obtain rfl : N = 0 := hN.symm
        obtain rfl : k = 0 := by omega
        rw [show ((0 : Nat) : Int) = 0 from rfl, show (0 : Int) + 1 = 1 from rfl]
        have HLL := Lib.hid HQL.out
        simp only [List.take_nil, List.drop_nil] at HQF HQE HLL
        have HLA : Hid (∀ w', Below W5.heap.size W5 w' → ∀ t ∈ [] ++ [] ++ [bad] ++ [], Lab.At t.p t.ls w') := by
          show ∀ w', _
          intro w' hw t ht
          obtain rfl : t = bad := by simpa using ht
          exact HAB.out _ hw
        clear hnil hfine HX hN HQL
        obtain ⟨bj, bp, bn, bc, bl⟩ := bad
        dsimp only at hx0 hx1 HC HAB
        refine wp_region_inv (by kernel_rfl) (by kernel_rfl) (fun a0 d a w' => ∃ t99 t100 t101 t102 t103 t104 t105 t106 t107 t108 t109 t110 t18 : Value, a = (((((((((((((a0.put (some 99) t99).put (some 100) t100).put (some 101) t101).put (some 102) t102).put (some 103) t103).put (some 104) t104).put (some 105) t105).put (some 106) t106).put (some 107) t107).put (some 108) t108).put (some 109) t109).put (some 110) t110).put (some 18) t18) ∧ Wr.I W5.heap.size W5 (.slice none 0 0) (.slice none 0 0) (.slice none 0 0) 0 ⟨bj, bp, bn, bc, bl⟩ ([]) ([]) d t99 t100 t101 t102 t103 t104 t105 t106 t107 t108 t109 t110 t18 w') ?h0 ?hs ?he
        case h0 => exact ⟨u99, u100, u101, u102, u103, u104, u105, u106, u107, u108, u109, u110, undef, (by go_frame), Wr.start _ _ _ _ _ _ _ _ _ _ _ _ _ _ _ _ _ _ _ _ _⟩
        case hs =>
          refine ⟨?_, ?_, ?_, ?_, ?_, ?_, ?_, ?_, ?_, ?_, ?_, ?_, ?_, trivial⟩
          · rintro d a w' hd hdep ⟨t99, t100, t101, t102, t103, t104, t105, t106, t107, t108, t109, t110, t18, rfl, h⟩ K hK
            rw [if_pos (by rfl)]
            go_frame
            go_simp
            exact hK _ _ ⟨.slice (some ⟨w'.heap.size, 0, none⟩) 0 0, _, _, _, _, _, _, _, _, _, _, _, _, (by go_frame), Wr.s0 h ((Below.refl _ w').alloc h.b.size _) (fun q => q.alloc _) hd ⟨w'.heap.size, rfl, h.b.size, alloc_new _ _⟩⟩
          · rintro d a w' hd hdep ⟨t99, t100, t101, t102, t103, t104, t105, t106, t107, t108, t109, t110, t18, rfl, h⟩ K hK
            rw [if_pos (by rfl)]
            go_frame
            go_simp
            exact hK _ _ ⟨_, .slice none 0 0, _, _, _, _, _, _, _, _, _, _, _, (by go_frame), Wr.s1 h hd rfl⟩
          · rintro d a w' hd hdep ⟨t99, t100, t101, t102, t103, t104, t105, t106, t107, t108, t109, t110, t18, rfl, h⟩ K hK
            rw [if_pos (by rfl)]
            go_frame
            go_simp
            exact hK _ _ ⟨_, _, .int .i64 0, _, _, _, _, _, _, _, _, _, _, (by go_frame), Wr.s2 h hd rfl⟩
          · rintro d a w' hd hdep ⟨t99, t100, t101, t102, t103, t104, t105, t106, t107, t108, t109, t110, t18, rfl, h⟩ K hK
            rw [if_pos (by rfl)]
            go_frame
            obtain rfl := h.f1 (hdep 1 (by decide))
            obtain rfl : t101 = .int .i64 0 := h.f2 (hdep 2 (by decide))
            go_simp
            exact hK _ _ ⟨_, _, _, .slice none 0 0, _, _, _, _, _, _, _, _, _, (by go_frame), Wr.s3 h hd rfl⟩
          · rintro d a w' hd hdep ⟨t99, t100, t101, t102, t103, t104, t105, t106, t107, t108, t109, t110, t18, rfl, h⟩ K hK
            have h0 := h.f0 (hdep 0 (by decide)) hd
            have h3 := h.f3 (hdep 3 (by decide))
            refine step_cat_none 22 Tryz.underlying22 (by rfl) _ _ (by rfl) W5.heap.size _ _ (by go_frame; rfl) h0.row (by go_frame; exact h3) ?_
            go_frame
            exact hK _ _ ⟨_, _, _, _, _, _, _, _, _, _, _, _, _, (by go_frame), Wr.s4 h (Below.refl _ w') (fun q => q) hd (hdep 0 (by decide)) h0.row⟩
          · rintro d a w' hd hdep ⟨t99, t100, t101, t102, t103, t104, t105, t106, t107, t108, t109, t110, t18, rfl, h⟩ K hK
            rw [if_pos (by rfl)]
            go_frame
            obtain ⟨e0, e1⟩ := HC.out w' h.b
            go_simp
            exact hK _ _ ⟨_, _, _, _, _, .agg #[.string bj, .slice bp bn bc], _, _, _, _, _, _, _, (by go_frame), Wr.s5 h hd rfl⟩
          · rintro d a w' hd hdep ⟨t99, t100, t101, t102, t103, t104, t105, t106, t107, t108, t109, t110, t18, rfl, h⟩ K hK
            rw [if_pos (by rfl)]
            go_frame
            obtain rfl := h.f5 (hdep 5 (by decide))
            go_simp
            exact hK _ _ ⟨_, _, _, _, _, _, .slice (some ⟨w'.heap.size, 0, none⟩) 1 1, _, _, _, _, _, _, (by go_frame), Wr.s6 h ((Below.refl _ w').alloc h.b.size _) (fun q => q.alloc _) (fun q => World.ownsRow.alloc q _) hd ⟨w'.heap.size, rfl, alloc_new _ _⟩⟩
          · rintro d a w' hd hdep ⟨t99, t100, t101, t102, t103, t104, t105, t106, t107, t108, t109, t110, t18, rfl, h⟩ K hK
            have h4 := h.f4 (hdep 4 (by decide)) hd
            obtain ⟨gx, hx, hxh⟩ := h.f6 (hdep 6 (by decide)) hd
            refine step_catv 22 Tryz.underlying22 (by rfl) _ _ (by rfl) W5.heap.size _ _ (by go_frame; rfl) h4 [⟨bj, bp, bn, bc, bl⟩] gx 0 1 1 (by go_frame; exact hx) rfl (Can.box_at ⟨bj, bp, bn, bc, bl⟩ _ gx hxh (HAB.out _ h.b)) (by have := HLL.out; simp only [List.length_nil, List.length_append] at this ⊢; omega) h.b.size ?_
            intro v6 w6 hr6 hg6
            go_frame
            exact hK _ _ ⟨_, _, _, _, _, _, _, v6, _, _, _, _, _, (by go_frame), Wr.s7 h (Below.grown (Below.refl _ w') hg6 h.b.size (fun j hj => (World.ownsRow.lt h4 j hj).1)) hd (h.c4_0 (hdep 4 (by decide))) (hdep 4 (by decide)) (hdep 6 (by decide)) hr6⟩
          · rintro d a w' hd hdep ⟨t99, t100, t101, t102, t103, t104, t105, t106, t107, t108, t109, t110, t18, rfl, h⟩ K hK
            rw [if_pos (by rfl)]
            go_frame
            go_simp
            exact hK _ _ ⟨_, _, _, _, _, _, _, _, .slice none 0 0, _, _, _, _, (by go_frame), Wr.s8 h hd rfl⟩
          · rintro d a w' hd hdep ⟨t99, t100, t101, t102, t103, t104, t105, t106, t107, t108, t109, t110, t18, rfl, h⟩ K hK
            rw [if_pos (by rfl)]
            go_frame
            go_simp
            exact hK _ _ ⟨_, _, _, _, _, _, _, _, _, .int .i64 0, _, _, _, (by go_frame), Wr.s9 h hd rfl⟩
          · rintro d a w' hd hdep ⟨t99, t100, t101, t102, t103, t104, t105, t106, t107, t108, t109, t110, t18, rfl, h⟩ K hK
            rw [if_pos (by rfl)]
            go_frame
            obtain rfl := h.f8 (hdep 8 (by decide))
            obtain rfl : t108 = .int .i64 0 := h.f9 (hdep 9 (by decide))
            go_simp
            exact hK _ _ ⟨_, _, _, _, _, _, _, _, _, _, .slice none 0 0, _, _, (by go_frame), Wr.s10 h hd rfl⟩
          · rintro d a w' hd hdep ⟨t99, t100, t101, t102, t103, t104, t105, t106, t107, t108, t109, t110, t18, rfl, h⟩ K hK
            have h7 := h.f7 (hdep 7 (by decide)) hd
            have h10 := h.f10 (hdep 10 (by decide))
            refine step_cat_none 22 Tryz.underlying22 (by rfl) _ _ (by rfl) W5.heap.size _ _ (by go_frame; rfl) h7 (by go_frame; exact h10) ?_
            go_frame
            exact hK _ _ ⟨_, _, _, _, _, _, _, _, _, _, _, t106, _, (by go_frame), Wr.s11 h (Below.refl _ w') hd (h.c7_0 (hdep 7 (by decide))) (h.c7_4 (hdep 7 (by decide))) (h.c7_6 (hdep 7 (by decide))) (hdep 7 (by decide)) (by rw [List.append_nil]; exact h7)⟩
          · rintro d a w' hd hdep ⟨t99, t100, t101, t102, t103, t104, t105, t106, t107, t108, t109, t110, t18, rfl, h⟩ K hK
            rw [if_pos (by rfl)]
            go_frame
            go_simp
            exact hK _ _ ⟨_, _, _, _, _, _, _, _, _, _, _, _, t110, (by go_frame), Wr.s12 h hd (h.c11_0 (hdep 11 (by decide))) (h.c11_4 (hdep 11 (by decide))) (h.c11_6 (hdep 11 (by decide))) (h.c11_7 (hdep 11 (by decide))) (hdep 11 (by decide)) rfl⟩
        case he =>
          rintro a w7 ⟨t99, t100, t101, t102, t103, t104, t105, t106, t107, t108, t109, t110, t18, rfl, h⟩
          have hr7 := h.f11 (by decide)
          obtain rfl := h.f12 (by decide)
          have hb7 := h.b
          clear h
          obtain ⟨g7, c7, rfl, _⟩ := hr7.form (by rw [HLL.out]; omega)
          obtain ⟨q1, q2⟩ := hr7.at (fun t ht => HLA.out w7 hb7 t ht)
          go_frame
          go_wp2_with fail
          go_meet
          exact ⟨g7, c7, _, rfl, q1, q2, HQF, HQE, by rw [HLL.out]; omega, hb7⟩
      · have HTD : Hid (∀ w', Below W5.heap.size W5 w' → Can.TAt b (0 + k * 2) (ts.drop k) w' ∧ Can.TAt b 0 (ts.take k) w') := by
          show ∀ w', _
          intro w' hw
          have h1 := hT.belowT hw (Nat.le_refl _)
          exact ⟨h1.drop k, h1.take k⟩
        have HLL := Lib.hid HQL.out
        have HLA : Hid (∀ w', Below W5.heap.size W5 w' → ∀ t ∈ [] ++ ts.take k ++ [bad] ++ ts.drop k, Lab.At t.p t.ls w') := by
          show ∀ w', _
          intro w' hw t ht
          have h1 := hT.belowT hw (Nat.le_refl _)
          have h2 : ∀ t ∈ ts, Lab.At t.p t.ls w' := fun t ht => by
            obtain ⟨i, hi, rfl⟩ := List.getElem_of_mem ht
            exact (h1 i hi).2.2
          simp only [List.nil_append, List.append_assoc, List.mem_append, List.mem_singleton] at ht
          rcases ht with ht | rfl | ht
          · exact h2 t (List.mem_of_mem_take ht)
          · exact HAB.out _ hw
          · exact h2 t (List.mem_of_mem_drop ht)
        have hlt : (ts.take k).length = k := by rw [List.length_take]; omega
        have hld : (ts.drop k).length = N - k := by rw [List.length_drop]; omega
        obtain ⟨off, hoff, hTd⟩ : ∃ off, (if cv = k then some (⟨b, 0, none⟩ : Addr) else some ⟨b, k * 2, none⟩) = some ⟨b, off, none⟩ ∧ ∀ w', Below W5.heap.size W5 w' → Can.TAt b off (ts.drop k) w' := by
          by_cases hck : cv = k
          · have h0 : ts.drop k = [] := List.length_eq_zero_iff.1 (by omega)
            exact ⟨0, if_pos hck, fun w' _ => by rw [h0]; exact fun i hi => absurd hi (by simp)⟩
          · exact ⟨k * 2, if_neg hck, fun w' hw => by have := (HTD.out w' hw).1; rwa [Nat.zero_add] at this⟩
        have HOFF := Lib.hid hoff
        have HTDR := Lib.hid hTd
        clear hoff hTd
        have n1 : (0 : Int) ≤ (k : Int) := by omega
        have n2 : (k : Int) ≤ (N : Int) := by omega
        have n3 : (N : Int) ≤ (cv : Int) := by omega
        have n4 : (k : Int) ≤ (cv : Int) := by omega
        clear hT hnil hfine HX hN HQL
        obtain ⟨bj, bp, bn, bc, bl⟩ := bad
        dsimp only at hx0 hx1 HC HAB
        refine wp_region_inv (by kernel_rfl) (by kernel_rfl) (fun a0 d a w' => ∃ t99 t100 t101 t102 t103 t104 t105 t106 t107 t108 t109 t110 t18 : Value, a = (((((((((((((a0.put (some 99) t99).put (some 100) t100).put (some 101) t101).put (some 102) t102).put (some 103) t103).put (some 104) t104).put (some 105) t105).put (some 106) t106).put (some 107) t107).put (some 108) t108).put (some 109) t109).put (some 110) t110).put (some 18) t18) ∧ Wr.I W5.heap.size W5 (.slice (some ⟨b, 0, none⟩) N cv) (.slice (some ⟨b, 0, none⟩) k cv) (.slice (some ⟨b, off, none⟩) (N - k) (cv - k)) k ⟨bj, bp, bn, bc, bl⟩ (ts.take k) (ts.drop k) d t99 t100 t101 t102 t103 t104 t105 t106 t107 t108 t109 t110 t18 w') ?h0 ?hs ?he
        case h0 => exact ⟨u99, u100, u101, u102, u103, u104, u105, u106, u107, u108, u109, u110, undef, (by go_frame), Wr.start _ _ _ _ _ _ _ _ _ _ _ _ _ _ _ _ _ _ _ _ _⟩
        case hs =>
          refine ⟨?_, ?_, ?_, ?_, ?_, ?_, ?_, ?_, ?_, ?_, ?_, ?_, ?_, trivial⟩
          · rintro d a w' hd hdep ⟨t99, t100, t101, t102, t103, t104, t105, t106, t107, t108, t109, t110, t18, rfl, h⟩ K hK
            rw [if_pos (by rfl)]
            go_frame
            go_simp
            exact hK _ _ ⟨.slice (some ⟨w'.heap.size, 0, none⟩) 0 0, _, _, _, _, _, _, _, _, _, _, _, _, (by go_frame), Wr.s0 h ((Below.refl _ w').alloc h.b.size _) (fun q => q.alloc _) hd ⟨w'.heap.size, rfl, h.b.size, alloc_new _ _⟩⟩
          · rintro d a w' hd hdep ⟨t99, t100, t101, t102, t103, t104, t105, t106, t107, t108, t109, t110, t18, rfl, h⟩ K hK
            rw [if_pos (by rfl)]
            go_frame
            go_simp
            exact hK _ _ ⟨_, .slice (some ⟨b, 0, none⟩) N cv, _, _, _, _, _, _, _, _, _, _, _, (by go_frame), Wr.s1 h hd rfl⟩
          · rintro d a w' hd hdep ⟨t99, t100, t101, t102, t103, t104, t105, t106, t107, t108, t109, t110, t18, rfl, h⟩ K hK
            rw [if_pos (by rfl)]
            go_frame
            go_simp
            exact hK _ _ ⟨_, _, .int .i64 (k : Int), _, _, _, _, _, _, _, _, _, _, (by go_frame), Wr.s2 h hd rfl⟩
          · rintro d a w' hd hdep ⟨t99, t100, t101, t102, t103, t104, t105, t106, t107, t108, t109, t110, t18, rfl, h⟩ K hK
            rw [if_pos (by rfl)]
            go_frame
            obtain rfl := h.f1 (hdep 1 (by decide))
            obtain rfl := h.f2 (hdep 2 (by decide))
            go_simp
            exact hK _ _ ⟨_, _, _, .slice (some ⟨b, 0, none⟩) k cv, _, _, _, _, _, _, _, _, _, (by go_frame), Wr.s3 h hd rfl⟩
          · rintro d a w' hd hdep ⟨t99, t100, t101, t102, t103, t104, t105, t106, t107, t108, t109, t110, t18, rfl, h⟩ K hK
            have h0 := h.f0 (hdep 0 (by decide)) hd
            have h3 := h.f3 (hdep 3 (by decide))
            refine step_catv 22 Tryz.underlying22 (by rfl) _ _ (by rfl) W5.heap.size _ _ (by go_frame; rfl) h0.row (ts.take k) b 0 k cv (by go_frame; exact h3) hlt (HTD.out _ h.b).2 (by simp only [List.length_nil]; omega) h.b.size ?_
            intro v5 w5 hr5 hg5
            go_frame
            exact hK _ _ ⟨_, _, _, _, v5, _, _, _, _, _, _, _, _, (by go_frame), Wr.s4 h (Below.grown (Below.refl _ w') hg5 h.b.size (fun j hj => (World.ownsRow.lt h0.row j hj).1)) (fun q => q.grown h0 hg5) hd (hdep 0 (by decide)) hr5⟩
          · rintro d a w' hd hdep ⟨t99, t100, t101, t102, t103, t104, t105, t106, t107, t108, t109, t110, t18, rfl, h⟩ K hK
            rw [if_pos (by rfl)]
            go_frame
            obtain ⟨e0, e1⟩ := HC.out w' h.b
            go_simp
            exact hK _ _ ⟨_, _, _, _, _, .agg #[.string bj, .slice bp bn bc], _, _, _, _, _, _, _, (by go_frame), Wr.s5 h hd rfl⟩
          · rintro d a w' hd hdep ⟨t99, t100, t101, t102, t103, t104, t105, t106, t107, t108, t109, t110, t18, rfl, h⟩ K hK
            rw [if_pos (by rfl)]
            go_frame
            obtain rfl := h.f5 (hdep 5 (by decide))
            go_simp
            exact hK _ _ ⟨_, _, _, _, _, _, .slice (some ⟨w'.heap.size, 0, none⟩) 1 1, _, _, _, _, _, _, (by go_frame), Wr.s6 h ((Below.refl _ w').alloc h.b.size _) (fun q => q.alloc _) (fun q => World.ownsRow.alloc q _) hd ⟨w'.heap.size, rfl, alloc_new _ _⟩⟩
          · rintro d a w' hd hdep ⟨t99, t100, t101, t102, t103, t104, t105, t106, t107, t108, t109, t110, t18, rfl, h⟩ K hK
            have h4 := h.f4 (hdep 4 (by decide)) hd
            obtain ⟨gx, hx, hxh⟩ := h.f6 (hdep 6 (by decide)) hd
            refine step_catv 22 Tryz.underlying22 (by rfl) _ _ (by rfl) W5.heap.size _ _ (by go_frame; rfl) h4 [⟨bj, bp, bn, bc, bl⟩] gx 0 1 1 (by go_frame; exact hx) rfl (Can.box_at ⟨bj, bp, bn, bc, bl⟩ _ gx hxh (HAB.out _ h.b)) (by have := HLL.out; simp only [List.length_nil, List.length_append] at this ⊢; omega) h.b.size ?_
            intro v6 w6 hr6 hg6
            go_frame
            exact hK _ _ ⟨_, _, _, _, _, _, _, v6, _, _, _, _, _, (by go_frame), Wr.s7 h (Below.grown (Below.refl _ w') hg6 h.b.size (fun j hj => (World.ownsRow.lt h4 j hj).1)) hd (h.c4_0 (hdep 4 (by decide))) (hdep 4 (by decide)) (hdep 6 (by decide)) hr6⟩
          · rintro d a w' hd hdep ⟨t99, t100, t101, t102, t103, t104, t105, t106, t107, t108, t109, t110, t18, rfl, h⟩ K hK
            rw [if_pos (by rfl)]
            go_frame
            go_simp
            exact hK _ _ ⟨_, _, _, _, _, _, _, _, .slice (some ⟨b, 0, none⟩) N cv, _, _, _, _, (by go_frame), Wr.s8 h hd rfl⟩
          · rintro d a w' hd hdep ⟨t99, t100, t101, t102, t103, t104, t105, t106, t107, t108, t109, t110, t18, rfl, h⟩ K hK
            rw [if_pos (by rfl)]
            go_frame
            go_simp
            exact hK _ _ ⟨_, _, _, _, _, _, _, _, _, .int .i64 (k : Int), _, _, _, (by go_frame), Wr.s9 h hd rfl⟩
          · rintro d a w' hd hdep ⟨t99, t100, t101, t102, t103, t104, t105, t106, t107, t108, t109, t110, t18, rfl, h⟩ K hK
            rw [if_pos (by rfl)]
            go_frame
            obtain rfl := h.f8 (hdep 8 (by decide))
            obtain rfl := h.f9 (hdep 9 (by decide))
            go_simp
            rw [HOFF.out]
            exact hK _ _ ⟨_, _, _, _, _, _, _, _, _, _, .slice (some ⟨b, off, none⟩) (N - k) (cv - k), _, _, (by go_frame), Wr.s10 h hd rfl⟩
          · rintro d a w' hd hdep ⟨t99, t100, t101, t102, t103, t104, t105, t106, t107, t108, t109, t110, t18, rfl, h⟩ K hK
            have h7 := h.f7 (hdep 7 (by decide)) hd
            have h10 := h.f10 (hdep 10 (by decide))
            refine step_catv 22 Tryz.underlying22 (by rfl) _ _ (by rfl) W5.heap.size _ _ (by go_frame; rfl) h7 (ts.drop k) b off (N - k) (cv - k) (by go_frame; exact h10) hld (HTDR.out _ h.b) (by have := HLL.out; simp only [List.length_nil, List.length_append] at this ⊢; omega) h.b.size ?_
            intro v7 w7 hr7 hg7
            go_frame
            exact hK _ _ ⟨_, _, _, _, _, _, _, _, _, _, _, v7, _, (by go_frame), Wr.s11 h (Below.grown (Below.refl _ w') hg7 h.b.size (fun j hj => (World.ownsRow.lt h7 j hj).1)) hd (h.c7_0 (hdep 7 (by decide))) (h.c7_4 (hdep 7 (by decide))) (h.c7_6 (hdep 7 (by decide))) (hdep 7 (by decide)) hr7⟩
          · rintro d a w' hd hdep ⟨t99, t100, t101, t102, t103, t104, t105, t106, t107, t108, t109, t110, t18, rfl, h⟩ K hK
            rw [if_pos (by rfl)]
            go_frame
            go_simp
            exact hK _ _ ⟨_, _, _, _, _, _, _, _, _, _, _, _, t110, (by go_frame), Wr.s12 h hd (h.c11_0 (hdep 11 (by decide))) (h.c11_4 (hdep 11 (by decide))) (h.c11_6 (hdep 11 (by decide))) (h.c11_7 (hdep 11 (by decide))) (hdep 11 (by decide)) rfl⟩
        case he =>
          rintro a w7 ⟨t99, t100, t101, t102, t103, t104, t105, t106, t107, t108, t109, t110, t18, rfl, h⟩
          have hr7 := h.f11 (by decide)
          obtain rfl := h.f12 (by decide)
          have hb7 := h.b
          clear h
          obtain ⟨g7, c7, rfl, _⟩ := hr7.form (by rw [HLL.out]; omega)
          obtain ⟨q1, q2⟩ := hr7.at (fun t ht => HLA.out w7 hb7 t ht)
          go_frame
          go_wp2_with fail
          go_meet
          exact ⟨g7, c7, _, rfl, q1, q2, HQF, HQE, by rw [HLL.out]; omega, hb7⟩
    case rest =>
      obtain ⟨g, cg, Q, rfl, hg, hTQ, HFQ, HEQ, hQ13, hbw⟩ := hcut
      obtain ⟨W6, hW6⟩ : ∃ W, W = wc := ⟨_, rfl⟩
      subst hW6
      obtain ⟨bj, bp, bn, bc, bl⟩ := bad
      obtain ⟨hx06, hx16, hy06, hy16, hb6, hA6, hm6⟩ := HX.out W6 hbw
      dsimp only at hx06 hx16 hb6
      obtain ⟨F1, F2, F3, F4⟩ := HTF.out
      dsimp only at F1 F2 F3 F4
      have FT : Can.TFit ⟨J, p3, L, c3, A⟩ := Can.fine_fit _ (HFA.out p3 L c3 HL.out)
      have KT : Can.keyE ⟨J, p3, L, c3, A⟩ = 0 := Can.keyE_right _ (HFA.out p3 L c3 HL.out).2.1 HRA.out
      obtain ⟨kr, hkr⟩ : ∃ k, (Can.key (Lab.bs bj) bl).1 = k := ⟨_, rfl⟩
      have hky := Can.key_err ⟨bj, bp, bn, bc, bl⟩ want HKE.out
      dsimp only at hky
      have hkl := Can.key_len bj bl (by omega) F3 F4
      rw [hkr] at hky hkl
      have KK := Lib.hid (fun w hA => ckey_is bj bp bl bn bc kr want hky w F1 hA F3 F2 F4)
      have KP := Lib.hid (fun w hA => ckeyprint_is bj bp bl bn bc kr want hky 0 (if_neg hwz) w F1 hA F3 F2 F4 (by omega))
      have KC1 := Lib.hid (fun w hA hB => ccompare_is ⟨J, p3, L, c3, A⟩ ⟨bj, bp, bn, bc, bl⟩ 0 want (Can.cmp_err _ _ want (Can.err_mid ⟨bj, bp, bn, bc, bl⟩ [] want HKE.out hwz [⟨J, p3, L, c3, A⟩] (fun x hx => by rw [List.mem_singleton] at hx; rw [hx]; exact KT)) hwz) w hA hB FT HTF.out)
      have KC2 := Lib.hid (fun w hA hB => ccompare_is ⟨bj, bp, bn, bc, bl⟩ ⟨ByteArray.empty, none, 0, 0, []⟩ 0 want (Can.cmp_err _ _ want (Can.err_mid ⟨bj, bp, bn, bc, bl⟩ [⟨ByteArray.empty, none, 0, 0, []⟩] want HKE.out hwz [] (fun x hx => absurd hx (by simp))) hwz) w hA hB HTF.out ⟨rfl, by decide, fun x hx => absurd hx (by simp), by decide⟩)
      have KS := Lib.hid (fun w hb hT => sort_err g 0 cg Q want Q.length w hb rfl hT HFQ.out HEQ.out hwz (by omega))
      have KF := Lib.hid (fun w hb hT => first_err g 0 cg Q want Q.length w hb rfl hT HFQ.out HEQ.out hwz (by omega))
      have hB6 : Below w.heap.size w W6 := hB5.trans (hbw.mono hB5.size)
      have HTQ := Lib.hid hTQ
      have HXX : Hid (∀ w', Below W6.heap.size W6 w' → w'.cell? ⟨X5, 0, none⟩ = some (.string bj) ∧ w'.cell? ⟨X5, 1, none⟩ = some (.slice bp bn bc) ∧ w'.cell? ⟨X1, 0, none⟩ = some (.string J) ∧ w'.cell? ⟨X1, 1, none⟩ = some (.slice p3 L c3) ∧ Lab.At bp bl w' ∧ Lab.At p3 A w' ∧ w'.cell? ⟨0, 0, none⟩ = some (.int .i64 m) ∧ g < w'.heap.size ∧ Can.TAt g 0 Q w') := fun w' hw =>
        ⟨cell_later hw hx06 (Nat.le_refl _), cell_later hw hx16 (Nat.le_refl _), cell_later hw hy06 (Nat.le_refl _), cell_later hw hy16 (Nat.le_refl _), hb6.below hw (Nat.le_refl _), hA6.below hw (Nat.le_refl _), cell_later hw hm6 (Nat.le_refl _), Nat.lt_of_lt_of_le hg hw.size, HTQ.out.belowT hw (Nat.le_refl _)⟩
      have q0 : (want != want) = false := by simp
      have q1 : (want == want) = true := by simp
      clear hTQ hTP5 hfine hnil hx0 hx1 hxl HX HQF HQE HQL hkr hky hkl FT KT F1 F2 F3 F4 HFQ HEQ hB5 hbw HN hN hNc hlen hkN r1 r2 r4 r6
      go_wp2_with (go_at_call 21; refine (KK.out _ hb6).mono ?_)
      first | rintro e u1 rfl hu1 | rintro e u1 ⟨rfl, hu1⟩
      have hV1 : Below W6.heap.size W6 u1 := hu1
      obtain ⟨x0, x1, y0, y1, xb, xA, xm, xg, xT⟩ := HXX.out u1 hV1
      clear hu1 hx06 hx16 hy06 hy16 hb6 hA6 hm6
      go_wp2_with (go_at_call 22; refine (KP.out _ xb).mono ?_)
      first | rintro e u2 rfl hu2 | rintro e u2 ⟨rfl, hu2⟩
      have hV2 := below_next hV1 hu2
      clear hu2 x0 x1 y0 y1 xb xA xm xg xT
      obtain ⟨x0, x1, y0, y1, xb, xA, xm, xg, xT⟩ := HXX.out u2 hV2
      go_wp2_with (go_at_call 12; refine (KC1.out _ xA xb).mono ?_)
      first | rintro e u3 rfl hu3 | rintro e u3 ⟨rfl, hu3⟩
      have hV3 := below_next hV2 hu3
      clear hu3 x0 x1 y0 y1 xb xA xm xg xT
      obtain ⟨x0, x1, y0, y1, xb, xA, xm, xg, xT⟩ := HXX.out u3 hV3
      go_wp2_with (go_at_call 12; refine (KC2.out _ xb (.inl rfl)).mono ?_)
      first | rintro e u4 rfl hu4 | rintro e u4 ⟨rfl, hu4⟩
      have hV4 := below_next hV3 hu4
      clear hu4 x0 x1 y0 y1 xb xA xm xg xT
      obtain ⟨x0, x1, y0, y1, xb, xA, xm, xg, xT⟩ := HXX.out u4 hV4
      go_wp2_with (go_at_call 10; refine (KS.out _ xg xT).mono ?_)
      first | rintro e u5 rfl hu5 | rintro e u5 ⟨rfl, hu5⟩
      have hV5 := below_next hV4 hu5
      clear hu5 x0 x1 y0 y1 xb xA xm xg xT
      obtain ⟨x0, x1, y0, y1, xb, xA, xm, xg, xT⟩ := HXX.out u5 hV5
      go_wp2_with (go_at_call 23; refine (KF.out _ xg xT).mono ?_)
      first | rintro e u6 rfl hu6 | rintro e u6 ⟨rfl, hu6⟩
      have hV6 := below_next hV5 hu6
      clear hu6 x0 x1 y0 y1 xb xA xm xg xT
      clear KK KP KC1 KC2 KS KF
      have HC6 : Hid (∀ k : Nat, k < 6 → (u6.alloc (.cells #[.int .i64 want, .int .i64 want, .int .i64 want, .int .i64 want, .int .i64 want, .int .i64 want] 28)).cell? ⟨u6.heap.size, k, none⟩ = some (.int .i64 want)) := by
        show ∀ k : Nat, _
        intro k hk
        obtain rfl | rfl | rfl | rfl | rfl | rfl : k = 0 ∨ k = 1 ∨ k = 2 ∨ k = 3 ∨ k = 4 ∨ k = 5 := by omega
        all_goals
          rw [Lib.cell_of_heap (alloc_new u6 _)]
          rfl
      go_wp2_with fail
      go_loop [151] (fun i => ∃ j : Nat, j ≤ 6 ∧ i = .int .i64 (j : Int)) (fun i => 6 - (intOf i).toNat)
      case atStart => exact ⟨0, by omega, rfl⟩
      case round =>
        obtain ⟨j, hj, rfl⟩ := hrel
        by_cases hj6 : j < 6
        · have hc := HC6.out j hj6
          have n1 : (0 : Int) ≤ (j : Int) := by omega
          have n2 : (j : Int) < 6 := by omega
          go_wp2_with fail
          go_round
          case rel => exact ⟨j + 1, by omega, by go_num⟩
          case measure => simp [intOf]; omega
        · have n2 : (6 : Int) ≤ (j : Int) := by omega
          have hB7 := (hV6.alloc hV6.size (.cells #[.int .i64 want, .int .i64 want, .int .i64 want, .int .i64 want, .int .i64 want, .int .i64 want] 28))
          obtain ⟨V, hVe⟩ : ∃ V, V = u6.alloc (.cells #[.int .i64 want, .int .i64 want, .int .i64 want, .int .i64 want, .int .i64 want, .int .i64 want] 28) := ⟨_, rfl⟩
          rw [← hVe] at hB7 ⊢
          have HMV := Lib.hid (HXX.out V hB7).2.2.2.2.2.2.1
          have hBV : Below w.heap.size w V := hB6.trans (hB7.mono hB6.size)
          clear HC6 hVe HXX hB7
          have c1 : PA.size + 1 ≤ maxLen := by unfold maxLen; omega
          have c2 : PA.size + 2 ≤ maxLen := by unfold maxLen; omega
          have c3' : PA.size + 3 ≤ maxLen := by unfold maxLen; omega
          have c4 : PA.size + 4 ≤ maxLen := by unfold maxLen; omega
          have c6 : PA.size + 6 ≤ maxLen := by unfold maxLen; omega
          have c7 : 1 + PA.size ≤ maxLen := by unfold maxLen; omega
          have HC7 : Hid (∀ k : Nat, k < 7 → ∃ s ∈ Can.odd1 PA, (V.alloc (.cells #[.string (PA ++ ⟨#[255]⟩), .string (PA ++ ⟨#[122, 122, 255]⟩), .string (PA ++ ⟨#[122, 122, 255, 255]⟩), .string (⟨#[255]⟩ ++ PA), .string (PA ++ ⟨#[122, 122]⟩), .string (PA ++ ⟨#[122, 122, 255, 49]⟩), .string (PA ++ ⟨#[97, 45, 98, 255, 49, 255]⟩)] 9)).cell? ⟨V.heap.size, k, none⟩ = some (.string s)) := by
            show ∀ k : Nat, _
            intro k hk
            obtain rfl | rfl | rfl | rfl | rfl | rfl | rfl : k = 0 ∨ k = 1 ∨ k = 2 ∨ k = 3 ∨ k = 4 ∨ k = 5 ∨ k = 6 := by omega
            all_goals
              refine ⟨_, ?_, by rw [Lib.cell_of_heap (alloc_new V _)]; rfl⟩
              unfold Can.odd1
              simp
          go_wp2_with fail
          obtain ⟨VA, hVA⟩ : ∃ VA, VA = V.alloc (.cells #[.string (PA ++ ⟨#[255]⟩), .string (PA ++ ⟨#[122, 122, 255]⟩), .string (PA ++ ⟨#[122, 122, 255, 255]⟩), .string (⟨#[255]⟩ ++ PA), .string (PA ++ ⟨#[122, 122]⟩), .string (PA ++ ⟨#[122, 122, 255, 49]⟩), .string (PA ++ ⟨#[97, 45, 98, 255, 49, 255]⟩)] 9) := ⟨_, rfl⟩
          have hVb : Below V.heap.size V VA := by rw [hVA]; exact (Below.refl _ V).alloc (Nat.le_refl _) _
          rw [← hVA] at HC7
          rw [← hVA]
          have hBA : Below w.heap.size w VA := hBV.trans (hVb.mono hBV.size)
          have HMA := Lib.hid (cell_later hVb HMV.out (Nat.le_refl _))
          clear hVA hVb HMV hBV c1 c2 c3' c4 c6 c7
          go_loopw [175] (fun i wr => ∃ j : Nat, j ≤ 7 ∧ i = .int .i64 (j : Int) ∧ Below VA.heap.size VA wr) (fun i _ => 7 - (intOf i).toNat)
          case atStart => exact ⟨0, by omega, rfl, Below.refl _ _⟩
          case round =>
            obtain ⟨j, hj, rfl, hb⟩ := hrel
            have hbw : Below w.heap.size w wr := hBA.trans (hb.mono hBA.size)
            by_cases hj7 : j < 7
            · obtain ⟨s, hs, hc0⟩ := HC7.out j hj7
              have hc := cell_later hb hc0 (Nat.le_refl _)
              obtain ⟨hr1, hr2, hz⟩ := HODD.out s hs
              have hmr := cell_later hb HMA.out (Nat.le_refl _)
              have n1 : (0 : Int) ≤ (j : Int) := by omega
              have n2 : (j : Int) < 7 := by omega
              have RD := Lib.hid (fun w hm => cread_is s [] 50 hr1 m w hm (by omega))
              have hz2 : (⟨#[97, 254]⟩ ++ s : ByteArray).size ≤ 1000000 := by rw [ByteArray.size_append]; show 2 + s.size ≤ _; omega
              have hz3 : 2 + s.size ≤ maxLen := by unfold maxLen; omega
              have RK := Lib.hid (fun w hm => creadkey_is (⟨#[97, 254]⟩ ++ s) ⟨#[]⟩ [] 50 hr2 m w hm hz2)
              have hz4 : s.size ≤ 900010 := by omega
              clear hs hc0 hr1 hr2 hz hz2
              go_wp2_with (go_at_call 24; refine (RD.out _ hmr).mono ?_)
              first | rintro e r1 v rfl hv hb1 | rintro e r1 ⟨⟨v, rfl, hv⟩, hb1⟩
              obtain ⟨pv, cv, ev, _⟩ := OwnLabels.open hv
              replace ev : v = .slice pv 0 cv := ev
              subst ev
              have hm1 := cell_later hb1 hmr (Nat.le_refl _)
              clear hv RD hmr
              go_wp2_with (go_at_call 25; refine (RK.out _ hm1).mono ?_)
              first | rintro e r2 v2 rfl hv2 hb2 | rintro e r2 ⟨⟨v2, rfl, hv2⟩, hb2⟩
              obtain ⟨pv2, cv2, ev2, _⟩ := OwnLabels.open hv2
              replace ev2 : v2 = .slice pv2 0 cv2 := ev2
              subst ev2
              have HB2 := Lib.hid (hb.trans ((hb1.trans (hb2.mono hb1.size)).mono hb.size))
              clear hv2 hm1 RK hb1 hb2 hb hbw
              go_wp2_with fail
              go_roundw
              case rel => exact ⟨j + 1, by omega, by go_num, HB2.out.alloc HB2.out.size _⟩
              case measure => simp [intOf]; omega
            · have n2 : (7 : Int) ≤ (j : Int) := by omega
              go_wp2_with fail
              go_ret
              exact ⟨rfl, hbw⟩
theorem walk_CanonWrong (a0 : Option Addr) (zs : List Lab.St) (n c : Nat) (zj : Nat) (za : Option Addr) (zx : List Lab.Sm) (zn zc : Nat) (wy tu : Int) (m : Int) (w : World)
    (hn : zs.length = n) (hA : Lab.StAt a0 zs w) (hF : ∀ z ∈ zs, Lab.StFit z) (hlc : n ≤ c) (_hmax : c ≤ maxLen)
    (hzj : zj < 256) (hzn : zx.length = zn) (hZA : Lab.SmAt za zx w) (hZF : Lab.SmFit zx) (hzl : zn ≤ zc) (hzm : zc ≤ maxLen) (hwy : (Lit.int .u8 wy).wf = true) (htu : (Lit.int .u8 tu).wf = true) (hm : w.cell? ⟨0, 0, none⟩ = some (.int .i64 m)) :
    Calls Tryz.prog 6 #[.slice a0 n c, .agg #[.int .u8 (zj : Int), .slice za zn zc], .int .u8 wy, .int .u8 tu] w fun e w' => e = .returned (.bool true) ∧ Below w.heap.size w w' := by
  obtain ⟨e1, h1⟩ := row.wf_u8 hwy
  obtain ⟨e2, h2⟩ := row.wf_u8 htu
  rw [e1, e2]
  exact wrong_nat a0 zs n c zj za zx zn zc _ _ m w hn hA hF hlc hzj hzn hZA hZF hzl hzm h1 h2 hm
end Go.Proofs.YthnaninhbofeoaaGreatDoor
