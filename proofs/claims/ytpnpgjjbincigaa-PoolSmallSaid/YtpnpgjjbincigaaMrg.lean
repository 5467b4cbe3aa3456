/- Contracts of pool.merged and of the iterator that it gives. -/
import Derived.Test.YtpnpgjjbincigaaPoD
import Derived.Test.YtpnpgjjbincigaaPoA
import Derived.Deep.DeepCutAuto
import Derived.BigQuiet
import Derived.BigRegion
namespace Go.Proofs.Ytpnpgjjbincigaa
open Go.RowKit Go.Shelf
set_option linter.unusedVariables false
attribute [local go_sem] Oper.semAt_some

/-- pairs of two rows, by their keys -/
def Po.mrg : List Pr → List Pr → List Pr
  | [], y => y
  | a :: x, [] => a :: x
  | a :: x, b :: y =>
    if Lab.bs a.k < Lab.bs b.k then a :: Po.mrg x (b :: y)
    else if Lab.bs b.k < Lab.bs a.k then b :: Po.mrg (a :: x) y
    else ⟨a.k, a.s, b.t⟩ :: Po.mrg x y
termination_by x y => x.length + y.length
theorem Po.mrg_nil_left (y : List Pr) : Po.mrg [] y = y := by rw [Po.mrg]
theorem Po.mrg_nil_right (x : List Pr) : Po.mrg x [] = x := by cases x <;> rw [Po.mrg]
/-- pairs in the block g -/
def Po.RowIn (g : Nat) (p : Option Addr) (l : List Pr) (W : World) : Prop := l = [] ∨ ∃ (o : Nat) (cur : Array Value), p = some ⟨g, o, none⟩ ∧ W.heap[g]? = some (.cells cur 104) ∧ ∀ i (h : i < l.length), cur[o + i * 3]? = some (.string l[i].k) ∧ cur[o + i * 3 + 1]? = some (.pointer l[i].s) ∧ cur[o + i * 3 + 2]? = some (.pointer l[i].t)
theorem Po.RowIn.cells {g : Nat} {p : Option Addr} {a : Pr} {l : List Pr} {W : World} (h : Po.RowIn g p (a :: l) W) : ∃ o, p = some ⟨g, o, none⟩ ∧ W.cell? ⟨g, o, none⟩ = some (.string a.k) ∧ W.cell? ⟨g, o + 1, none⟩ = some (.pointer a.s) ∧ W.cell? ⟨g, o + 2, none⟩ = some (.pointer a.t) := by
  rcases h with h | ⟨o, cur, hp, hh, hc⟩
  · cases h
  · obtain ⟨h0, h1, h2⟩ := hc 0 (by simp)
    simp only [Nat.zero_mul, Nat.add_zero, List.getElem_cons_zero] at h0 h1 h2
    exact ⟨o, hp, by rw [Lib.cell_of_heap hh]; exact h0, by rw [Lib.cell_of_heap hh]; exact h1, by rw [Lib.cell_of_heap hh]; exact h2⟩
theorem Po.RowIn.tail {g o : Nat} {a : Pr} {l : List Pr} {W : World} (h : Po.RowIn g (some ⟨g, o, none⟩) (a :: l) W) : Po.RowIn g (some ⟨g, o + 3, none⟩) l W := by
  rcases h with h | ⟨o', cur, hp, hh, hc⟩
  · cases h
  · simp only [Option.some.injEq, Addr.mk.injEq, and_true, true_and] at hp
    subst hp
    refine .inr ⟨o + 3, cur, rfl, hh, fun i hi => ?_⟩
    have := hc (i + 1) (by simpa using hi)
    simp only [List.getElem_cons_succ] at this
    rw [show o + 3 + i * 3 = o + (i + 1) * 3 by omega]
    exact this
theorem Po.RowIn.kept {g : Nat} {p : Option Addr} {l : List Pr} {W W' : World} (h : Po.RowIn g p l W) (hk : ∀ cur T, W.heap[g]? = some (.cells cur T) → W'.heap[g]? = some (.cells cur T)) : Po.RowIn g p l W' := by
  rcases h with h | ⟨o, cur, hp, hh, hc⟩
  · exact .inl h
  · exact .inr ⟨o, cur, hp, hk _ _ hh, hc⟩
/-- what a round keeps -/
def Po.Kp (Bs Bt gs gt : Nat) (W W' : World) : Prop := ∀ b, b = Bs ∨ b = Bt ∨ b = gs ∨ b = gt → ∀ (cur : Array Value) (T : TypeId), W.heap[b]? = some (.cells cur T) → W'.heap[b]? = some (.cells cur T)
theorem Po.Kp.trans {Bs Bt gs gt : Nat} {A B C : World} (h : Po.Kp Bs Bt gs gt A B) (k : Po.Kp Bs Bt gs gt B C) : Po.Kp Bs Bt gs gt A C := fun b hb cur T e => k b hb cur T (h b hb cur T e)
theorem Po.Kp.put {Bs Bt gs gt : Nat} (W : World) (l : Nat) (o o' : Obj) (h : W.heap[l]? = some o) (hc : o.isCells = false) : Po.Kp Bs Bt gs gt W (W.putObj l o') := fun b _ cur T e => by
  rw [World.putObj_heap_other (fun h2 => ?_)]
  · exact e
  · subst h2
    rw [h] at e
    simp only [Option.some.injEq] at e
    subst e
    cases hc
def Po.enc1 (x : Pr) : Array Value := #[.agg #[.string x.k, .pointer x.s, .pointer x.t]]
def Po.lenAt (B : Nat) (W : World) : Nat := match W.cell? ⟨B, 0, none⟩ with
  | some (.slice _ n _) => n
  | _ => 0

theorem Po.RowIn.next {g o c : Nat} {a : Pr} {l : List Pr} {W : World} (h : Po.RowIn g (some ⟨g, o, none⟩) (a :: l) W) (hc : l.length + 1 ≤ c) : Po.RowIn g (if c = 1 then some ⟨g, o, none⟩ else some ⟨g, o + 3, none⟩) l W := by
  by_cases h1 : c = 1
  · exact .inl (List.eq_nil_of_length_eq_zero (by omega))
  · rw [if_neg h1]; exact h.tail
theorem Po.lenAt_is {B n c : Nat} {p : Option Addr} {T : TypeId} {W : World} (h : W.heap[B]? = some (.cells #[.slice p n c] T)) : Po.lenAt B W = n := by
  unfold Po.lenAt
  rw [Lib.cell_of_heap h]
  rfl
/-- all but three blocks, one of them new, are as they were -/
theorem Po.RowIn.over {g B1 B2 n1 n2 c1 c2 : Nat} {p p1 p2 : Option Addr} {l : List Pr} {A W : World} (h : Po.RowIn g p l A) (h1 : A.heap[B1]? = some (.cells #[.slice p1 n1 c1] 100)) (h2 : A.heap[B2]? = some (.cells #[.slice p2 n2 c2] 100)) (oth : ∀ k, k ≠ A.heap.size → k ≠ B1 → k ≠ B2 → W.heap[k]? = A.heap[k]?) : Po.RowIn g p l W := by
  rcases h with h | ⟨o, cur, hp, hh, hc⟩
  · exact .inl h
  · have hlt := lt_of_heap hh
    refine .inr ⟨o, cur, hp, (oth g (by omega) (fun e => ?_) (fun e => ?_)).trans hh, hc⟩
    · subst e
      rw [h1] at hh
      simp at hh
    · subst e
      rw [h2] at hh
      simp at hh

set_option maxHeartbeats 6400000 in
set_option maxRecDepth 100000 in
theorem merged_gives (n : Nat) (hn : 1 ≤ n) (Bs Bt gs gt : Nat) (hst : Bs ≠ Bt) (X Y : List Pr) (pX pY : Option Addr) (cX cY : Nat) (w : World)
    (h1 : w.heap[Bs]? = some (.cells #[.slice pX X.length cX] 100)) (h2 : w.heap[Bt]? = some (.cells #[.slice pY Y.length cY] 100)) (hcx : X.length ≤ cX) (hcy : Y.length ≤ cY) (hX : Po.RowIn gs pX X w) (hY : Po.RowIn gt pY Y w) (hlx : X.length ≤ 1000000) (hly : Y.length ≤ 1000000) :
    Rng.Gives Fence.wide n Try.prog 88 #[.pointer (some ⟨Bs, 0, none⟩), .pointer (some ⟨Bt, 0, none⟩)] Po.enc1 (fun r => r = Bs ∨ r = Bt) 100 (Po.Kp Bs Bt gs gt) (fun pre x => ∃ r, Po.mrg X Y = pre ++ x :: r) (fun ys => ys = Po.mrg X Y) w := by
  intro l J W hW hJ hYd h0
  have q1 : W.heap[Bs]? = some (.cells #[.slice pX X.length cX] 100) := (hW.block _ (lt_of_heap h1)).trans h1
  have q2 : W.heap[Bt]? = some (.cells #[.slice pY Y.length cY] 100) := (hW.block _ (lt_of_heap h2)).trans h2
  have q3 : Po.RowIn gs pX X W := hX.kept fun cur T e => (hW.block _ (lt_of_heap e)).trans e
  have q4 : Po.RowIn gt pY Y W := hY.kept fun cur T e => (hW.block _ (lt_of_heap e)).trans e
  have HJ := Lib.hid hJ
  have HYD := Lib.hid hYd
  have H0 := Lib.hid h0
  have Q1 := Lib.hid q1
  have Q2 := Lib.hid q2
  have Q3 := Lib.hid q3
  have Q4 := Lib.hid q4
  clear hJ hYd h0 q1 q2 q3 q4 h1 h2 hX hY hW
  refine callsIn_wide.2 ?_
  go_enter Try.func88, Try.ntmps88
  go_wp2_with fail
  go_loopw [4] (fun _ wr => ∃ (pre x y : List Pr) (p q : Option Addr) (c d : Nat), x.length ≤ c ∧ y.length ≤ d ∧ x.length ≤ 1000000 ∧ y.length ≤ 1000000 ∧ Hid (Po.mrg X Y = pre ++ Po.mrg x y) ∧ Hid (J pre wr) ∧ Hid (wr.heap[Bs]? = some (.cells #[.slice p x.length c] 100)) ∧ Hid (wr.heap[Bt]? = some (.cells #[.slice q y.length d] 100)) ∧ Hid (Po.RowIn gs p x wr) ∧ Hid (Po.RowIn gt q y wr)) (fun _ wr => Po.lenAt Bs wr + Po.lenAt Bt wr)
  case atStart => exact ⟨[], X, Y, pX, pY, cX, cY, hcx, hcy, hlx, hly, rfl, H0, Q1, Q2, Q3, Q4⟩
  case round =>
    clear H0 Q1 Q2 Q3 Q4 hcx hcy hlx hly
    obtain ⟨wj, rfl⟩ : ∃ wo : World, wo = wr := ⟨_, rfl⟩
    obtain ⟨pre, x, y, p, q, c, d, hxc, hyd, hx0, hy0, HM, HJP, HBS, HBT, HX, HY⟩ := hrel
    have c1 : wj.cell? ⟨Bs, 0, none⟩ = some (.slice p x.length c) := by rw [Lib.cell_of_heap HBS.out]; rfl
    have c2 : wj.cell? ⟨Bt, 0, none⟩ = some (.slice q y.length d) := by rw [Lib.cell_of_heap HBT.out]; rfl
    have HL : Hid (Po.lenAt Bs wj + Po.lenAt Bt wj = x.length + y.length) := by show _ = _; unfold Po.lenAt; rw [c1, c2]
    cases x with
    | nil =>
      cases y with
      | nil =>
        have HE : Hid (pre = Po.mrg X Y) := by show _ = _; rw [HM.out, Po.mrg_nil_left, List.append_nil]
        simp only [List.length_nil] at c1 c2
        go_wp2_with fail
        go_end0
        exact ⟨⟨_, rfl⟩, _, rfl, by rw [← HE.out]; exact HJP.out⟩
      | cons b y =>
        obtain ⟨o', rfl, y0, y1, y2⟩ := HY.out.cells
        simp only [List.length_nil, List.length_cons] at c1 c2 HBS HBT HL hxc hyd hx0 hy0
        have m0 : (0 : Int) < (y.length : Int) + 1 := by omega
        have m1 : (0 : Int) ≤ (y.length : Int) + 1 := by omega
        have m2 : (1 : Int) ≤ (y.length : Int) + 1 := by omega
        have m3 : (y.length : Int) + 1 ≤ (d : Int) := by omega
        have m4 : ((y.length : Int) + 1 == 0) = false := by simp; omega
        have mixed : Try.prog.follows .mixedOrders = true := by kernel_rfl
        have hlt1 := lt_of_heap HBS.out
        have hlt2 := lt_of_heap HBT.out
        have hne1 : Bs ≠ wj.heap.size := by omega
        have hne2 : Bt ≠ wj.heap.size := by omega
        go_upto_region 4 with fail
        obtain ⟨Wa, hWa⟩ : ∃ W, W = wj.alloc (.cells #[.string ⟨#[]⟩, .pointer none, .pointer none] 104) := ⟨_, rfl⟩
        have e1 : Wa.heap[Bs]? = some (.cells #[.slice (p) 0 c] 100) := by rw [hWa]; exact alloc_kept HBS.out
        have e2 : Wa.heap[Bt]? = some (.cells #[.slice (some ⟨gt, o', none⟩) (y.length + 1) d] 100) := by rw [hWa]; exact alloc_kept HBT.out
        have e3 : Wa.heap[wj.heap.size]? = some (.cells #[.string ⟨#[]⟩, .pointer none, .pointer none] 104) := by rw [hWa]; exact alloc_new _ _
        have e4 : ∀ k, k ≠ wj.heap.size → Wa.heap[k]? = wj.heap[k]? := by rw [hWa]; exact fun k hk => by show (wj.heap.push _)[k]? = _; rw [Array.getElem?_push, if_neg hk]
        rw [← hWa]
        have a1 : Wa.cell? ⟨Bs, 0, none⟩ = some (.slice (p) 0 c) := by rw [Lib.cell_of_heap e1]; rfl
        have a2 : Wa.cell? ⟨Bt, 0, none⟩ = some (.slice (some ⟨gt, o', none⟩) (y.length + 1) d) := by rw [Lib.cell_of_heap e2]; rfl
        have b0 : Wa.cell? ⟨wj.heap.size, 0, none⟩ = some (.string ⟨#[]⟩) := by rw [Lib.cell_of_heap e3]; rfl
        have b1 : Wa.cell? ⟨wj.heap.size, 1, none⟩ = some (.pointer none) := by rw [Lib.cell_of_heap e3]; rfl
        have b2 : Wa.cell? ⟨wj.heap.size, 2, none⟩ = some (.pointer none) := by rw [Lib.cell_of_heap e3]; rfl
        have v0 : Wa.cell? ⟨gt, o', none⟩ = some (.string b.k) := by rw [hWa]; exact Lib.cell?_alloc_some _ y0
        have v1 : Wa.cell? ⟨gt, o' + 1, none⟩ = some (.pointer b.s) := by rw [hWa]; exact Lib.cell?_alloc_some _ y1
        have v2 : Wa.cell? ⟨gt, o' + 2, none⟩ = some (.pointer b.t) := by rw [hWa]; exact Lib.cell?_alloc_some _ y2
        have f0 := Lib.frozen_of_heap e1 0
        have f1 := Lib.frozen_of_heap e2 0
        have g0 := Lib.frozen_of_heap e3 0
        have g1 := Lib.frozen_of_heap e3 1
        have g2 := Lib.frozen_of_heap e3 2
        have HWA := Lib.hid hWa
        have E1 := Lib.hid e1
        have E2 := Lib.hid e2
        have E3 := Lib.hid e3
        have E4 := Lib.hid e4
        clear hWa e1 e2 e3 e4 c1 c2 y0 y1 y2
        go_quiet (fail)
        obtain ⟨n1, rfl⟩ : ∃ n1, n1 = nq := ⟨_, rfl⟩
        go_upto_region 6 with fail
        go_quiet (fail)
        go_wp2_with fail
        go_region
        obtain ⟨p', hp'⟩ : ∃ p', p' = (if d = 1 then some (⟨gt, o', none⟩ : Addr) else some ⟨gt, o' + 3, none⟩) := ⟨_, rfl⟩
        rw [← hp']
        go_upto_region 8 with fail
        obtain ⟨V, hV⟩ : ∃ V, V = ((((Wa.drewN (n1 + nq + 1)).setCell ⟨wj.heap.size, 0, none⟩ (.string b.k)).setCell ⟨wj.heap.size, 1, none⟩ (.pointer b.s)).setCell ⟨wj.heap.size, 2, none⟩ (.pointer b.t)) := ⟨_, rfl⟩
        rw [← hV]
        have s0 := heap_setCell_same (Wa.drewN (n1 + nq + 1)) wj.heap.size 0 _ _ (.string b.k) E3.out
        have s1 := heap_setCell_same _ wj.heap.size 1 _ _ (.pointer b.s) s0
        have s2 := heap_setCell_same _ wj.heap.size 2 _ _ (.pointer b.t) s1
        rw [← hV] at s2
        have oV : ∀ k, k ≠ wj.heap.size → V.heap[k]? = wj.heap[k]? := fun k h1 => by
          rw [hV, heap_setCell_other _ ⟨wj.heap.size, 2, none⟩ k _ h1, heap_setCell_other _ ⟨wj.heap.size, 1, none⟩ k _ h1, heap_setCell_other _ ⟨wj.heap.size, 0, none⟩ k _ h1]
          exact E4.out k h1
        have gV : wj.grownBy V none := ⟨by rw [hV, HWA.out]; rfl, by rw [hV, HWA.out]; rfl, by rw [hV, HWA.out]; rfl, by rw [hV, HWA.out]; simp, fun k hk _ => oV k (by omega)⟩
        obtain ⟨W4, hW4⟩ : ∃ W, W = V.setCell ⟨Bt, 0, none⟩ (.slice p' y.length (d - 1)) := ⟨_, rfl⟩
        rw [← hW4]
        have gW : V.grownBy W4 (some Bt) := by rw [hW4]; exact grownBy_setCell' _ _ _
        have k4 : W4.heap[wj.heap.size]? = some (.cells #[.string b.k, .pointer b.s, .pointer b.t] 104) := by
          rw [hW4, heap_setCell_other _ ⟨Bt, 0, none⟩ wj.heap.size _ (Ne.symm hne2)]
          exact s2
        have bt4 : W4.heap[Bt]? = some (.cells #[.slice p' y.length (d - 1)] 100) := by
          rw [hW4]
          exact heap_setCell_same _ Bt 0 #[.slice (some ⟨gt, o', none⟩) (y.length + 1) d] _ _ ((oV Bt hne2).trans HBT.out)
        have bs4 : W4.heap[Bs]? = some (.cells #[.slice (p) 0 c] 100) := by
          rw [hW4, heap_setCell_other _ ⟨Bt, 0, none⟩ Bs _ hst]
          exact (oV Bs hne1).trans HBS.out
        have oth : ∀ k, k ≠ wj.heap.size → k ≠ Bs → k ≠ Bt → W4.heap[k]? = wj.heap[k]? := fun k h1 h2 h3 => by rw [hW4, heap_setCell_other _ ⟨Bt, 0, none⟩ k _ h3]; exact oV k h1
        have J4 : J pre W4 := HJ.out pre V W4 (some Bt) (HJ.out pre wj V none HJP.out gV (fun r e => by cases e)) gW (fun r e => by cases e; exact ⟨.inr rfl, _, bt4⟩)
        have M4 : Hid (Po.mrg X Y = (pre ++ [b]) ++ Po.mrg [] y) := by show _ = _; rw [HM.out, Po.mrg_nil_left, Po.mrg_nil_left, List.append_assoc]; rfl
        have rX : Po.RowIn gs (p) [] W4 := by exact HX.out.over HBS.out HBT.out oth
        have rY : Po.RowIn gt (p') y W4 := by rw [hp']; exact (HY.out.next hyd).over HBS.out HBT.out oth
        have w0 : W4.cell? ⟨wj.heap.size, 0, none⟩ = some (.string b.k) := by rw [Lib.cell_of_heap k4]; rfl
        have w1 : W4.cell? ⟨wj.heap.size, 1, none⟩ = some (.pointer b.s) := by rw [Lib.cell_of_heap k4]; rfl
        have w2 : W4.cell? ⟨wj.heap.size, 2, none⟩ = some (.pointer b.t) := by rw [Lib.cell_of_heap k4]; rfl
        have BS4 := Lib.hid bs4
        have BT4 := Lib.hid bt4
        have RX := Lib.hid rX
        have RY := Lib.hid rY
        have JJ := Lib.hid J4
        clear hV hW4 s0 s1 s2 oV gV gW oth k4 bs4 bt4 rX rY J4 a1 a2 b0 b1 b2 f0 f1 g0 g1 g2 v0 v1 v2
        obtain ⟨fn, tmps, assign, body, hy, hR⟩ := HYD.out pre b W4 JJ.out ⟨_, by rw [M4.out, List.append_assoc]; rfl⟩
        unfold Po.enc1 at hy
        clear hp'
        refine (wpIn_wide (n := n)).1 ?_
        gi_wp2
        refine hR.mono ?_
        rintro e W5 ⟨rfl, hJ5, hK5⟩
        dsimp only
        have BS5 := Lib.hid (hK5 Bs (.inl rfl) _ _ BS4.out)
        have BT5 := Lib.hid (hK5 Bt (.inr (.inl rfl)) _ _ BT4.out)
        have RX5 := Lib.hid (RX.out.kept fun cur T e => hK5 gs (.inr (.inr (.inl rfl))) _ _ e)
        have RY5 := Lib.hid (RY.out.kept fun cur T e => hK5 gt (.inr (.inr (.inr rfl))) _ _ e)
        have JJ5 := Lib.hid hJ5
        have HL5 : Hid (Po.lenAt Bs W5 + Po.lenAt Bt W5 < Po.lenAt Bs wj + Po.lenAt Bt wj) := by show _ < _; rw [HL.out, Po.lenAt_is BS5.out, Po.lenAt_is BT5.out]; first | omega | (simp only [List.length_cons]; omega) | (simp only [List.length_nil]; omega) | (simp only [List.length_cons, List.length_nil]; omega)
        clear hJ5 hK5 HL HY HX HBS HBT HM
        rename_i hKK
        refine hKK _ _ ?_
        repeat gi_step
        go_wp2_with fail
        go_roundw
        case rel => exact ⟨_, [], y, _, _, _, _, by first | omega | (simp only [List.length_cons]; omega) | (simp only [List.length_nil]; omega) | (simp only [List.length_cons, List.length_nil]; omega), by first | omega | (simp only [List.length_cons]; omega) | (simp only [List.length_nil]; omega) | (simp only [List.length_cons, List.length_nil]; omega), by first | omega | (simp only [List.length_cons]; omega) | (simp only [List.length_nil]; omega) | (simp only [List.length_cons, List.length_nil]; omega), by first | omega | (simp only [List.length_cons]; omega) | (simp only [List.length_nil]; omega) | (simp only [List.length_cons, List.length_nil]; omega), M4, JJ5, BS5, BT5, RX5, RY5⟩
        case measure => exact HL5.out
    | cons a x =>
      cases y with
      | nil =>
        obtain ⟨o, rfl, x0, x1, x2⟩ := HX.out.cells
        simp only [List.length_nil, List.length_cons] at c1 c2 HBS HBT HL hxc hyd hx0 hy0
        have l0 : (0 : Int) < (x.length : Int) + 1 := by omega
        have l1 : (0 : Int) ≤ (x.length : Int) + 1 := by omega
        have l2 : (1 : Int) ≤ (x.length : Int) + 1 := by omega
        have l3 : (x.length : Int) + 1 ≤ (c : Int) := by omega
        have l4 : ((x.length : Int) + 1 == 0) = false := by simp; omega
        have mixed : Try.prog.follows .mixedOrders = true := by kernel_rfl
        have hlt1 := lt_of_heap HBS.out
        have hlt2 := lt_of_heap HBT.out
        have hne1 : Bs ≠ wj.heap.size := by omega
        have hne2 : Bt ≠ wj.heap.size := by omega
        go_upto_region 4 with fail
        obtain ⟨Wa, hWa⟩ : ∃ W, W = wj.alloc (.cells #[.string ⟨#[]⟩, .pointer none, .pointer none] 104) := ⟨_, rfl⟩
        have e1 : Wa.heap[Bs]? = some (.cells #[.slice (some ⟨gs, o, none⟩) (x.length + 1) c] 100) := by rw [hWa]; exact alloc_kept HBS.out
        have e2 : Wa.heap[Bt]? = some (.cells #[.slice (q) 0 d] 100) := by rw [hWa]; exact alloc_kept HBT.out
        have e3 : Wa.heap[wj.heap.size]? = some (.cells #[.string ⟨#[]⟩, .pointer none, .pointer none] 104) := by rw [hWa]; exact alloc_new _ _
        have e4 : ∀ k, k ≠ wj.heap.size → Wa.heap[k]? = wj.heap[k]? := by rw [hWa]; exact fun k hk => by show (wj.heap.push _)[k]? = _; rw [Array.getElem?_push, if_neg hk]
        rw [← hWa]
        have a1 : Wa.cell? ⟨Bs, 0, none⟩ = some (.slice (some ⟨gs, o, none⟩) (x.length + 1) c) := by rw [Lib.cell_of_heap e1]; rfl
        have a2 : Wa.cell? ⟨Bt, 0, none⟩ = some (.slice (q) 0 d) := by rw [Lib.cell_of_heap e2]; rfl
        have b0 : Wa.cell? ⟨wj.heap.size, 0, none⟩ = some (.string ⟨#[]⟩) := by rw [Lib.cell_of_heap e3]; rfl
        have b1 : Wa.cell? ⟨wj.heap.size, 1, none⟩ = some (.pointer none) := by rw [Lib.cell_of_heap e3]; rfl
        have b2 : Wa.cell? ⟨wj.heap.size, 2, none⟩ = some (.pointer none) := by rw [Lib.cell_of_heap e3]; rfl
        have z0 : Wa.cell? ⟨gs, o, none⟩ = some (.string a.k) := by rw [hWa]; exact Lib.cell?_alloc_some _ x0
        have z1 : Wa.cell? ⟨gs, o + 1, none⟩ = some (.pointer a.s) := by rw [hWa]; exact Lib.cell?_alloc_some _ x1
        have z2 : Wa.cell? ⟨gs, o + 2, none⟩ = some (.pointer a.t) := by rw [hWa]; exact Lib.cell?_alloc_some _ x2
        have f0 := Lib.frozen_of_heap e1 0
        have f1 := Lib.frozen_of_heap e2 0
        have g0 := Lib.frozen_of_heap e3 0
        have g1 := Lib.frozen_of_heap e3 1
        have g2 := Lib.frozen_of_heap e3 2
        have HWA := Lib.hid hWa
        have E1 := Lib.hid e1
        have E2 := Lib.hid e2
        have E3 := Lib.hid e3
        have E4 := Lib.hid e4
        clear hWa e1 e2 e3 e4 c1 c2 x0 x1 x2
        go_quiet (fail)
        go_wp2_with fail
        go_region
        obtain ⟨p', hp'⟩ : ∃ p', p' = (if c = 1 then some (⟨gs, o, none⟩ : Addr) else some ⟨gs, o + 3, none⟩) := ⟨_, rfl⟩
        rw [← hp']
        go_upto_region 8 with fail
        obtain ⟨V, hV⟩ : ∃ V, V = ((((Wa.drewN (nq + 1)).setCell ⟨wj.heap.size, 0, none⟩ (.string a.k)).setCell ⟨wj.heap.size, 1, none⟩ (.pointer a.s)).setCell ⟨wj.heap.size, 2, none⟩ (.pointer a.t)) := ⟨_, rfl⟩
        rw [← hV]
        have s0 := heap_setCell_same (Wa.drewN (nq + 1)) wj.heap.size 0 _ _ (.string a.k) E3.out
        have s1 := heap_setCell_same _ wj.heap.size 1 _ _ (.pointer a.s) s0
        have s2 := heap_setCell_same _ wj.heap.size 2 _ _ (.pointer a.t) s1
        rw [← hV] at s2
        have oV : ∀ k, k ≠ wj.heap.size → V.heap[k]? = wj.heap[k]? := fun k h1 => by
          rw [hV, heap_setCell_other _ ⟨wj.heap.size, 2, none⟩ k _ h1, heap_setCell_other _ ⟨wj.heap.size, 1, none⟩ k _ h1, heap_setCell_other _ ⟨wj.heap.size, 0, none⟩ k _ h1]
          exact E4.out k h1
        have gV : wj.grownBy V none := ⟨by rw [hV, HWA.out]; rfl, by rw [hV, HWA.out]; rfl, by rw [hV, HWA.out]; rfl, by rw [hV, HWA.out]; simp, fun k hk _ => oV k (by omega)⟩
        obtain ⟨W4, hW4⟩ : ∃ W, W = V.setCell ⟨Bs, 0, none⟩ (.slice p' x.length (c - 1)) := ⟨_, rfl⟩
        rw [← hW4]
        have gW : V.grownBy W4 (some Bs) := by rw [hW4]; exact grownBy_setCell' _ _ _
        have k4 : W4.heap[wj.heap.size]? = some (.cells #[.string a.k, .pointer a.s, .pointer a.t] 104) := by
          rw [hW4, heap_setCell_other _ ⟨Bs, 0, none⟩ wj.heap.size _ (Ne.symm hne1)]
          exact s2
        have bs4 : W4.heap[Bs]? = some (.cells #[.slice p' x.length (c - 1)] 100) := by
          rw [hW4]
          exact heap_setCell_same _ Bs 0 #[.slice (some ⟨gs, o, none⟩) (x.length + 1) c] _ _ ((oV Bs hne1).trans HBS.out)
        have bt4 : W4.heap[Bt]? = some (.cells #[.slice (q) 0 d] 100) := by
          rw [hW4, heap_setCell_other _ ⟨Bs, 0, none⟩ Bt _ (Ne.symm hst)]
          exact (oV Bt hne2).trans HBT.out
        have oth : ∀ k, k ≠ wj.heap.size → k ≠ Bs → k ≠ Bt → W4.heap[k]? = wj.heap[k]? := fun k h1 h2 h3 => by rw [hW4, heap_setCell_other _ ⟨Bs, 0, none⟩ k _ h2]; exact oV k h1
        have J4 : J pre W4 := HJ.out pre V W4 (some Bs) (HJ.out pre wj V none HJP.out gV (fun r e => by cases e)) gW (fun r e => by cases e; exact ⟨.inl rfl, _, bs4⟩)
        have M4 : Hid (Po.mrg X Y = (pre ++ [a]) ++ Po.mrg x []) := by show _ = _; rw [HM.out, Po.mrg_nil_right, Po.mrg_nil_right, List.append_assoc]; rfl
        have rX : Po.RowIn gs (p') x W4 := by rw [hp']; exact (HX.out.next hxc).over HBS.out HBT.out oth
        have rY : Po.RowIn gt (q) [] W4 := by exact HY.out.over HBS.out HBT.out oth
        have w0 : W4.cell? ⟨wj.heap.size, 0, none⟩ = some (.string a.k) := by rw [Lib.cell_of_heap k4]; rfl
        have w1 : W4.cell? ⟨wj.heap.size, 1, none⟩ = some (.pointer a.s) := by rw [Lib.cell_of_heap k4]; rfl
        have w2 : W4.cell? ⟨wj.heap.size, 2, none⟩ = some (.pointer a.t) := by rw [Lib.cell_of_heap k4]; rfl
        have BS4 := Lib.hid bs4
        have BT4 := Lib.hid bt4
        have RX := Lib.hid rX
        have RY := Lib.hid rY
        have JJ := Lib.hid J4
        clear hV hW4 s0 s1 s2 oV gV gW oth k4 bs4 bt4 rX rY J4 a1 a2 b0 b1 b2 f0 f1 g0 g1 g2 z0 z1 z2
        obtain ⟨fn, tmps, assign, body, hy, hR⟩ := HYD.out pre a W4 JJ.out ⟨_, by rw [M4.out, List.append_assoc]; rfl⟩
        unfold Po.enc1 at hy
        clear hp'
        refine (wpIn_wide (n := n)).1 ?_
        gi_wp2
        refine hR.mono ?_
        rintro e W5 ⟨rfl, hJ5, hK5⟩
        dsimp only
        have BS5 := Lib.hid (hK5 Bs (.inl rfl) _ _ BS4.out)
        have BT5 := Lib.hid (hK5 Bt (.inr (.inl rfl)) _ _ BT4.out)
        have RX5 := Lib.hid (RX.out.kept fun cur T e => hK5 gs (.inr (.inr (.inl rfl))) _ _ e)
        have RY5 := Lib.hid (RY.out.kept fun cur T e => hK5 gt (.inr (.inr (.inr rfl))) _ _ e)
        have JJ5 := Lib.hid hJ5
        have HL5 : Hid (Po.lenAt Bs W5 + Po.lenAt Bt W5 < Po.lenAt Bs wj + Po.lenAt Bt wj) := by show _ < _; rw [HL.out, Po.lenAt_is BS5.out, Po.lenAt_is BT5.out]; first | omega | (simp only [List.length_cons]; omega) | (simp only [List.length_nil]; omega) | (simp only [List.length_cons, List.length_nil]; omega)
        clear hJ5 hK5 HL HY HX HBS HBT HM
        rename_i hKK
        refine hKK _ _ ?_
        repeat gi_step
        go_wp2_with fail
        go_roundw
        case rel => exact ⟨_, x, [], _, _, _, _, by first | omega | (simp only [List.length_cons]; omega) | (simp only [List.length_nil]; omega) | (simp only [List.length_cons, List.length_nil]; omega), by first | omega | (simp only [List.length_cons]; omega) | (simp only [List.length_nil]; omega) | (simp only [List.length_cons, List.length_nil]; omega), by first | omega | (simp only [List.length_cons]; omega) | (simp only [List.length_nil]; omega) | (simp only [List.length_cons, List.length_nil]; omega), by first | omega | (simp only [List.length_cons]; omega) | (simp only [List.length_nil]; omega) | (simp only [List.length_cons, List.length_nil]; omega), M4, JJ5, BS5, BT5, RX5, RY5⟩
        case measure => exact HL5.out
      | cons b y =>
        by_cases hab : Lab.bs a.k < Lab.bs b.k
        · skip
          obtain ⟨o, rfl, x0, x1, x2⟩ := HX.out.cells
          obtain ⟨o', rfl, y0, y1, y2⟩ := HY.out.cells
          simp only [List.length_cons] at c1 c2 HBS HBT HL hxc hyd hx0 hy0
          have l0 : (0 : Int) < (x.length : Int) + 1 := by omega
          have l1 : (0 : Int) ≤ (x.length : Int) + 1 := by omega
          have l2 : (1 : Int) ≤ (x.length : Int) + 1 := by omega
          have l3 : (x.length : Int) + 1 ≤ (c : Int) := by omega
          have l4 : ((x.length : Int) + 1 == 0) = false := by simp; omega
          have m0 : (0 : Int) < (y.length : Int) + 1 := by omega
          have m1 : (0 : Int) ≤ (y.length : Int) + 1 := by omega
          have m2 : (1 : Int) ≤ (y.length : Int) + 1 := by omega
          have m3 : (y.length : Int) + 1 ≤ (d : Int) := by omega
          have m4 : ((y.length : Int) + 1 == 0) = false := by simp; omega
          have k1 : Op.bytesLess a.k.toList b.k.toList = true := by rw [strLt_is]; exact decide_eq_true hab
          have mixed : Try.prog.follows .mixedOrders = true := by kernel_rfl
          have hlt1 := lt_of_heap HBS.out
          have hlt2 := lt_of_heap HBT.out
          have hne1 : Bs ≠ wj.heap.size := by omega
          have hne2 : Bt ≠ wj.heap.size := by omega
          go_upto_region 4 with fail
          obtain ⟨Wa, hWa⟩ : ∃ W, W = wj.alloc (.cells #[.string ⟨#[]⟩, .pointer none, .pointer none] 104) := ⟨_, rfl⟩
          have e1 : Wa.heap[Bs]? = some (.cells #[.slice (some ⟨gs, o, none⟩) (x.length + 1) c] 100) := by rw [hWa]; exact alloc_kept HBS.out
          have e2 : Wa.heap[Bt]? = some (.cells #[.slice (some ⟨gt, o', none⟩) (y.length + 1) d] 100) := by rw [hWa]; exact alloc_kept HBT.out
          have e3 : Wa.heap[wj.heap.size]? = some (.cells #[.string ⟨#[]⟩, .pointer none, .pointer none] 104) := by rw [hWa]; exact alloc_new _ _
          have e4 : ∀ k, k ≠ wj.heap.size → Wa.heap[k]? = wj.heap[k]? := by rw [hWa]; exact fun k hk => by show (wj.heap.push _)[k]? = _; rw [Array.getElem?_push, if_neg hk]
          rw [← hWa]
          have a1 : Wa.cell? ⟨Bs, 0, none⟩ = some (.slice (some ⟨gs, o, none⟩) (x.length + 1) c) := by rw [Lib.cell_of_heap e1]; rfl
          have a2 : Wa.cell? ⟨Bt, 0, none⟩ = some (.slice (some ⟨gt, o', none⟩) (y.length + 1) d) := by rw [Lib.cell_of_heap e2]; rfl
          have b0 : Wa.cell? ⟨wj.heap.size, 0, none⟩ = some (.string ⟨#[]⟩) := by rw [Lib.cell_of_heap e3]; rfl
          have b1 : Wa.cell? ⟨wj.heap.size, 1, none⟩ = some (.pointer none) := by rw [Lib.cell_of_heap e3]; rfl
          have b2 : Wa.cell? ⟨wj.heap.size, 2, none⟩ = some (.pointer none) := by rw [Lib.cell_of_heap e3]; rfl
          have z0 : Wa.cell? ⟨gs, o, none⟩ = some (.string a.k) := by rw [hWa]; exact Lib.cell?_alloc_some _ x0
          have z1 : Wa.cell? ⟨gs, o + 1, none⟩ = some (.pointer a.s) := by rw [hWa]; exact Lib.cell?_alloc_some _ x1
          have z2 : Wa.cell? ⟨gs, o + 2, none⟩ = some (.pointer a.t) := by rw [hWa]; exact Lib.cell?_alloc_some _ x2
          have v0 : Wa.cell? ⟨gt, o', none⟩ = some (.string b.k) := by rw [hWa]; exact Lib.cell?_alloc_some _ y0
          have v1 : Wa.cell? ⟨gt, o' + 1, none⟩ = some (.pointer b.s) := by rw [hWa]; exact Lib.cell?_alloc_some _ y1
          have v2 : Wa.cell? ⟨gt, o' + 2, none⟩ = some (.pointer b.t) := by rw [hWa]; exact Lib.cell?_alloc_some _ y2
          have f0 := Lib.frozen_of_heap e1 0
          have f1 := Lib.frozen_of_heap e2 0
          have g0 := Lib.frozen_of_heap e3 0
          have g1 := Lib.frozen_of_heap e3 1
          have g2 := Lib.frozen_of_heap e3 2
          have HWA := Lib.hid hWa
          have E1 := Lib.hid e1
          have E2 := Lib.hid e2
          have E3 := Lib.hid e3
          have E4 := Lib.hid e4
          clear hWa e1 e2 e3 e4 c1 c2 x0 x1 x2 y0 y1 y2
          go_quiet (fail)
          go_wp2_with fail
          go_region
          obtain ⟨p', hp'⟩ : ∃ p', p' = (if c = 1 then some (⟨gs, o, none⟩ : Addr) else some ⟨gs, o + 3, none⟩) := ⟨_, rfl⟩
          rw [← hp']
          go_upto_region 8 with fail
          obtain ⟨V, hV⟩ : ∃ V, V = ((((Wa.drewN (nq + 1)).setCell ⟨wj.heap.size, 0, none⟩ (.string a.k)).setCell ⟨wj.heap.size, 1, none⟩ (.pointer a.s)).setCell ⟨wj.heap.size, 2, none⟩ (.pointer a.t)) := ⟨_, rfl⟩
          rw [← hV]
          have s0 := heap_setCell_same (Wa.drewN (nq + 1)) wj.heap.size 0 _ _ (.string a.k) E3.out
          have s1 := heap_setCell_same _ wj.heap.size 1 _ _ (.pointer a.s) s0
          have s2 := heap_setCell_same _ wj.heap.size 2 _ _ (.pointer a.t) s1
          rw [← hV] at s2
          have oV : ∀ k, k ≠ wj.heap.size → V.heap[k]? = wj.heap[k]? := fun k h1 => by
            rw [hV, heap_setCell_other _ ⟨wj.heap.size, 2, none⟩ k _ h1, heap_setCell_other _ ⟨wj.heap.size, 1, none⟩ k _ h1, heap_setCell_other _ ⟨wj.heap.size, 0, none⟩ k _ h1]
            exact E4.out k h1
          have gV : wj.grownBy V none := ⟨by rw [hV, HWA.out]; rfl, by rw [hV, HWA.out]; rfl, by rw [hV, HWA.out]; rfl, by rw [hV, HWA.out]; simp, fun k hk _ => oV k (by omega)⟩
          obtain ⟨W4, hW4⟩ : ∃ W, W = V.setCell ⟨Bs, 0, none⟩ (.slice p' x.length (c - 1)) := ⟨_, rfl⟩
          rw [← hW4]
          have gW : V.grownBy W4 (some Bs) := by rw [hW4]; exact grownBy_setCell' _ _ _
          have k4 : W4.heap[wj.heap.size]? = some (.cells #[.string a.k, .pointer a.s, .pointer a.t] 104) := by
            rw [hW4, heap_setCell_other _ ⟨Bs, 0, none⟩ wj.heap.size _ (Ne.symm hne1)]
            exact s2
          have bs4 : W4.heap[Bs]? = some (.cells #[.slice p' x.length (c - 1)] 100) := by
            rw [hW4]
            exact heap_setCell_same _ Bs 0 #[.slice (some ⟨gs, o, none⟩) (x.length + 1) c] _ _ ((oV Bs hne1).trans HBS.out)
          have bt4 : W4.heap[Bt]? = some (.cells #[.slice (some ⟨gt, o', none⟩) (y.length + 1) d] 100) := by
            rw [hW4, heap_setCell_other _ ⟨Bs, 0, none⟩ Bt _ (Ne.symm hst)]
            exact (oV Bt hne2).trans HBT.out
          have oth : ∀ k, k ≠ wj.heap.size → k ≠ Bs → k ≠ Bt → W4.heap[k]? = wj.heap[k]? := fun k h1 h2 h3 => by rw [hW4, heap_setCell_other _ ⟨Bs, 0, none⟩ k _ h2]; exact oV k h1
          have J4 : J pre W4 := HJ.out pre V W4 (some Bs) (HJ.out pre wj V none HJP.out gV (fun r e => by cases e)) gW (fun r e => by cases e; exact ⟨.inl rfl, _, bs4⟩)
          have M4 : Hid (Po.mrg X Y = (pre ++ [a]) ++ Po.mrg x (b :: y)) := by show _ = _; rw [HM.out, Po.mrg, if_pos hab, List.append_assoc]; rfl
          have rX : Po.RowIn gs (p') x W4 := by rw [hp']; exact (HX.out.next hxc).over HBS.out HBT.out oth
          have rY : Po.RowIn gt (some ⟨gt, o', none⟩) (b :: y) W4 := by exact HY.out.over HBS.out HBT.out oth
          have w0 : W4.cell? ⟨wj.heap.size, 0, none⟩ = some (.string a.k) := by rw [Lib.cell_of_heap k4]; rfl
          have w1 : W4.cell? ⟨wj.heap.size, 1, none⟩ = some (.pointer a.s) := by rw [Lib.cell_of_heap k4]; rfl
          have w2 : W4.cell? ⟨wj.heap.size, 2, none⟩ = some (.pointer a.t) := by rw [Lib.cell_of_heap k4]; rfl
          have BS4 := Lib.hid bs4
          have BT4 := Lib.hid bt4
          have RX := Lib.hid rX
          have RY := Lib.hid rY
          have JJ := Lib.hid J4
          clear hV hW4 s0 s1 s2 oV gV gW oth k4 bs4 bt4 rX rY J4 a1 a2 b0 b1 b2 f0 f1 g0 g1 g2 z0 z1 z2 v0 v1 v2
          obtain ⟨fn, tmps, assign, body, hy, hR⟩ := HYD.out pre a W4 JJ.out ⟨_, by rw [M4.out, List.append_assoc]; rfl⟩
          unfold Po.enc1 at hy
          clear hp'
          refine (wpIn_wide (n := n)).1 ?_
          gi_wp2
          refine hR.mono ?_
          rintro e W5 ⟨rfl, hJ5, hK5⟩
          dsimp only
          have BS5 := Lib.hid (hK5 Bs (.inl rfl) _ _ BS4.out)
          have BT5 := Lib.hid (hK5 Bt (.inr (.inl rfl)) _ _ BT4.out)
          have RX5 := Lib.hid (RX.out.kept fun cur T e => hK5 gs (.inr (.inr (.inl rfl))) _ _ e)
          have RY5 := Lib.hid (RY.out.kept fun cur T e => hK5 gt (.inr (.inr (.inr rfl))) _ _ e)
          have JJ5 := Lib.hid hJ5
          have HL5 : Hid (Po.lenAt Bs W5 + Po.lenAt Bt W5 < Po.lenAt Bs wj + Po.lenAt Bt wj) := by show _ < _; rw [HL.out, Po.lenAt_is BS5.out, Po.lenAt_is BT5.out]; first | omega | (simp only [List.length_cons]; omega) | (simp only [List.length_nil]; omega) | (simp only [List.length_cons, List.length_nil]; omega)
          clear hJ5 hK5 HL HY HX HBS HBT HM
          rename_i hKK
          refine hKK _ _ ?_
          repeat gi_step
          go_wp2_with fail
          go_roundw
          case rel => exact ⟨_, x, (b :: y), _, _, _, _, by first | omega | (simp only [List.length_cons]; omega) | (simp only [List.length_nil]; omega) | (simp only [List.length_cons, List.length_nil]; omega), by first | omega | (simp only [List.length_cons]; omega) | (simp only [List.length_nil]; omega) | (simp only [List.length_cons, List.length_nil]; omega), by first | omega | (simp only [List.length_cons]; omega) | (simp only [List.length_nil]; omega) | (simp only [List.length_cons, List.length_nil]; omega), by first | omega | (simp only [List.length_cons]; omega) | (simp only [List.length_nil]; omega) | (simp only [List.length_cons, List.length_nil]; omega), M4, JJ5, BS5, BT5, RX5, RY5⟩
          case measure => exact HL5.out
        · by_cases hba : Lab.bs b.k < Lab.bs a.k
          · skip
            obtain ⟨o, rfl, x0, x1, x2⟩ := HX.out.cells
            obtain ⟨o', rfl, y0, y1, y2⟩ := HY.out.cells
            simp only [List.length_cons] at c1 c2 HBS HBT HL hxc hyd hx0 hy0
            have l0 : (0 : Int) < (x.length : Int) + 1 := by omega
            have l1 : (0 : Int) ≤ (x.length : Int) + 1 := by omega
            have l2 : (1 : Int) ≤ (x.length : Int) + 1 := by omega
            have l3 : (x.length : Int) + 1 ≤ (c : Int) := by omega
            have l4 : ((x.length : Int) + 1 == 0) = false := by simp; omega
            have m0 : (0 : Int) < (y.length : Int) + 1 := by omega
            have m1 : (0 : Int) ≤ (y.length : Int) + 1 := by omega
            have m2 : (1 : Int) ≤ (y.length : Int) + 1 := by omega
            have m3 : (y.length : Int) + 1 ≤ (d : Int) := by omega
            have m4 : ((y.length : Int) + 1 == 0) = false := by simp; omega
            have k1 : Op.bytesLess a.k.toList b.k.toList = false := by rw [strLt_is]; exact decide_eq_false hab
            have k2 : Op.bytesLess b.k.toList a.k.toList = true := by rw [strLt_is]; exact decide_eq_true hba
            have mixed : Try.prog.follows .mixedOrders = true := by kernel_rfl
            have hlt1 := lt_of_heap HBS.out
            have hlt2 := lt_of_heap HBT.out
            have hne1 : Bs ≠ wj.heap.size := by omega
            have hne2 : Bt ≠ wj.heap.size := by omega
            go_upto_region 4 with fail
            obtain ⟨Wa, hWa⟩ : ∃ W, W = wj.alloc (.cells #[.string ⟨#[]⟩, .pointer none, .pointer none] 104) := ⟨_, rfl⟩
            have e1 : Wa.heap[Bs]? = some (.cells #[.slice (some ⟨gs, o, none⟩) (x.length + 1) c] 100) := by rw [hWa]; exact alloc_kept HBS.out
            have e2 : Wa.heap[Bt]? = some (.cells #[.slice (some ⟨gt, o', none⟩) (y.length + 1) d] 100) := by rw [hWa]; exact alloc_kept HBT.out
            have e3 : Wa.heap[wj.heap.size]? = some (.cells #[.string ⟨#[]⟩, .pointer none, .pointer none] 104) := by rw [hWa]; exact alloc_new _ _
            have e4 : ∀ k, k ≠ wj.heap.size → Wa.heap[k]? = wj.heap[k]? := by rw [hWa]; exact fun k hk => by show (wj.heap.push _)[k]? = _; rw [Array.getElem?_push, if_neg hk]
            rw [← hWa]
            have a1 : Wa.cell? ⟨Bs, 0, none⟩ = some (.slice (some ⟨gs, o, none⟩) (x.length + 1) c) := by rw [Lib.cell_of_heap e1]; rfl
            have a2 : Wa.cell? ⟨Bt, 0, none⟩ = some (.slice (some ⟨gt, o', none⟩) (y.length + 1) d) := by rw [Lib.cell_of_heap e2]; rfl
            have b0 : Wa.cell? ⟨wj.heap.size, 0, none⟩ = some (.string ⟨#[]⟩) := by rw [Lib.cell_of_heap e3]; rfl
            have b1 : Wa.cell? ⟨wj.heap.size, 1, none⟩ = some (.pointer none) := by rw [Lib.cell_of_heap e3]; rfl
            have b2 : Wa.cell? ⟨wj.heap.size, 2, none⟩ = some (.pointer none) := by rw [Lib.cell_of_heap e3]; rfl
            have z0 : Wa.cell? ⟨gs, o, none⟩ = some (.string a.k) := by rw [hWa]; exact Lib.cell?_alloc_some _ x0
            have z1 : Wa.cell? ⟨gs, o + 1, none⟩ = some (.pointer a.s) := by rw [hWa]; exact Lib.cell?_alloc_some _ x1
            have z2 : Wa.cell? ⟨gs, o + 2, none⟩ = some (.pointer a.t) := by rw [hWa]; exact Lib.cell?_alloc_some _ x2
            have v0 : Wa.cell? ⟨gt, o', none⟩ = some (.string b.k) := by rw [hWa]; exact Lib.cell?_alloc_some _ y0
            have v1 : Wa.cell? ⟨gt, o' + 1, none⟩ = some (.pointer b.s) := by rw [hWa]; exact Lib.cell?_alloc_some _ y1
            have v2 : Wa.cell? ⟨gt, o' + 2, none⟩ = some (.pointer b.t) := by rw [hWa]; exact Lib.cell?_alloc_some _ y2
            have f0 := Lib.frozen_of_heap e1 0
            have f1 := Lib.frozen_of_heap e2 0
            have g0 := Lib.frozen_of_heap e3 0
            have g1 := Lib.frozen_of_heap e3 1
            have g2 := Lib.frozen_of_heap e3 2
            have HWA := Lib.hid hWa
            have E1 := Lib.hid e1
            have E2 := Lib.hid e2
            have E3 := Lib.hid e3
            have E4 := Lib.hid e4
            clear hWa e1 e2 e3 e4 c1 c2 x0 x1 x2 y0 y1 y2
            go_quiet (fail)
            obtain ⟨n1, rfl⟩ : ∃ n1, n1 = nq := ⟨_, rfl⟩
            go_upto_region 6 with fail
            go_quiet (fail)
            go_wp2_with fail
            go_region
            obtain ⟨p', hp'⟩ : ∃ p', p' = (if d = 1 then some (⟨gt, o', none⟩ : Addr) else some ⟨gt, o' + 3, none⟩) := ⟨_, rfl⟩
            rw [← hp']
            go_upto_region 8 with fail
            obtain ⟨V, hV⟩ : ∃ V, V = ((((Wa.drewN (n1 + nq + 1)).setCell ⟨wj.heap.size, 0, none⟩ (.string b.k)).setCell ⟨wj.heap.size, 1, none⟩ (.pointer b.s)).setCell ⟨wj.heap.size, 2, none⟩ (.pointer b.t)) := ⟨_, rfl⟩
            rw [← hV]
            have s0 := heap_setCell_same (Wa.drewN (n1 + nq + 1)) wj.heap.size 0 _ _ (.string b.k) E3.out
            have s1 := heap_setCell_same _ wj.heap.size 1 _ _ (.pointer b.s) s0
            have s2 := heap_setCell_same _ wj.heap.size 2 _ _ (.pointer b.t) s1
            rw [← hV] at s2
            have oV : ∀ k, k ≠ wj.heap.size → V.heap[k]? = wj.heap[k]? := fun k h1 => by
              rw [hV, heap_setCell_other _ ⟨wj.heap.size, 2, none⟩ k _ h1, heap_setCell_other _ ⟨wj.heap.size, 1, none⟩ k _ h1, heap_setCell_other _ ⟨wj.heap.size, 0, none⟩ k _ h1]
              exact E4.out k h1
            have gV : wj.grownBy V none := ⟨by rw [hV, HWA.out]; rfl, by rw [hV, HWA.out]; rfl, by rw [hV, HWA.out]; rfl, by rw [hV, HWA.out]; simp, fun k hk _ => oV k (by omega)⟩
            obtain ⟨W4, hW4⟩ : ∃ W, W = V.setCell ⟨Bt, 0, none⟩ (.slice p' y.length (d - 1)) := ⟨_, rfl⟩
            rw [← hW4]
            have gW : V.grownBy W4 (some Bt) := by rw [hW4]; exact grownBy_setCell' _ _ _
            have k4 : W4.heap[wj.heap.size]? = some (.cells #[.string b.k, .pointer b.s, .pointer b.t] 104) := by
              rw [hW4, heap_setCell_other _ ⟨Bt, 0, none⟩ wj.heap.size _ (Ne.symm hne2)]
              exact s2
            have bt4 : W4.heap[Bt]? = some (.cells #[.slice p' y.length (d - 1)] 100) := by
              rw [hW4]
              exact heap_setCell_same _ Bt 0 #[.slice (some ⟨gt, o', none⟩) (y.length + 1) d] _ _ ((oV Bt hne2).trans HBT.out)
            have bs4 : W4.heap[Bs]? = some (.cells #[.slice (some ⟨gs, o, none⟩) (x.length + 1) c] 100) := by
              rw [hW4, heap_setCell_other _ ⟨Bt, 0, none⟩ Bs _ hst]
              exact (oV Bs hne1).trans HBS.out
            have oth : ∀ k, k ≠ wj.heap.size → k ≠ Bs → k ≠ Bt → W4.heap[k]? = wj.heap[k]? := fun k h1 h2 h3 => by rw [hW4, heap_setCell_other _ ⟨Bt, 0, none⟩ k _ h3]; exact oV k h1
            have J4 : J pre W4 := HJ.out pre V W4 (some Bt) (HJ.out pre wj V none HJP.out gV (fun r e => by cases e)) gW (fun r e => by cases e; exact ⟨.inr rfl, _, bt4⟩)
            have M4 : Hid (Po.mrg X Y = (pre ++ [b]) ++ Po.mrg (a :: x) y) := by show _ = _; rw [HM.out, Po.mrg, if_neg hab, if_pos hba, List.append_assoc]; rfl
            have rX : Po.RowIn gs (some ⟨gs, o, none⟩) (a :: x) W4 := by exact HX.out.over HBS.out HBT.out oth
            have rY : Po.RowIn gt (p') y W4 := by rw [hp']; exact (HY.out.next hyd).over HBS.out HBT.out oth
            have w0 : W4.cell? ⟨wj.heap.size, 0, none⟩ = some (.string b.k) := by rw [Lib.cell_of_heap k4]; rfl
            have w1 : W4.cell? ⟨wj.heap.size, 1, none⟩ = some (.pointer b.s) := by rw [Lib.cell_of_heap k4]; rfl
            have w2 : W4.cell? ⟨wj.heap.size, 2, none⟩ = some (.pointer b.t) := by rw [Lib.cell_of_heap k4]; rfl
            have BS4 := Lib.hid bs4
            have BT4 := Lib.hid bt4
            have RX := Lib.hid rX
            have RY := Lib.hid rY
            have JJ := Lib.hid J4
            clear hV hW4 s0 s1 s2 oV gV gW oth k4 bs4 bt4 rX rY J4 a1 a2 b0 b1 b2 f0 f1 g0 g1 g2 z0 z1 z2 v0 v1 v2
            obtain ⟨fn, tmps, assign, body, hy, hR⟩ := HYD.out pre b W4 JJ.out ⟨_, by rw [M4.out, List.append_assoc]; rfl⟩
            unfold Po.enc1 at hy
            clear hp'
            refine (wpIn_wide (n := n)).1 ?_
            gi_wp2
            refine hR.mono ?_
            rintro e W5 ⟨rfl, hJ5, hK5⟩
            dsimp only
            have BS5 := Lib.hid (hK5 Bs (.inl rfl) _ _ BS4.out)
            have BT5 := Lib.hid (hK5 Bt (.inr (.inl rfl)) _ _ BT4.out)
            have RX5 := Lib.hid (RX.out.kept fun cur T e => hK5 gs (.inr (.inr (.inl rfl))) _ _ e)
            have RY5 := Lib.hid (RY.out.kept fun cur T e => hK5 gt (.inr (.inr (.inr rfl))) _ _ e)
            have JJ5 := Lib.hid hJ5
            have HL5 : Hid (Po.lenAt Bs W5 + Po.lenAt Bt W5 < Po.lenAt Bs wj + Po.lenAt Bt wj) := by show _ < _; rw [HL.out, Po.lenAt_is BS5.out, Po.lenAt_is BT5.out]; first | omega | (simp only [List.length_cons]; omega) | (simp only [List.length_nil]; omega) | (simp only [List.length_cons, List.length_nil]; omega)
            clear hJ5 hK5 HL HY HX HBS HBT HM
            rename_i hKK
            refine hKK _ _ ?_
            repeat gi_step
            go_wp2_with fail
            go_roundw
            case rel => exact ⟨_, (a :: x), y, _, _, _, _, by first | omega | (simp only [List.length_cons]; omega) | (simp only [List.length_nil]; omega) | (simp only [List.length_cons, List.length_nil]; omega), by first | omega | (simp only [List.length_cons]; omega) | (simp only [List.length_nil]; omega) | (simp only [List.length_cons, List.length_nil]; omega), by first | omega | (simp only [List.length_cons]; omega) | (simp only [List.length_nil]; omega) | (simp only [List.length_cons, List.length_nil]; omega), by first | omega | (simp only [List.length_cons]; omega) | (simp only [List.length_nil]; omega) | (simp only [List.length_cons, List.length_nil]; omega), M4, JJ5, BS5, BT5, RX5, RY5⟩
            case measure => exact HL5.out
          · skip
            obtain ⟨o, rfl, x0, x1, x2⟩ := HX.out.cells
            obtain ⟨o', rfl, y0, y1, y2⟩ := HY.out.cells
            simp only [List.length_cons] at c1 c2 HBS HBT HL hxc hyd hx0 hy0
            have l0 : (0 : Int) < (x.length : Int) + 1 := by omega
            have l1 : (0 : Int) ≤ (x.length : Int) + 1 := by omega
            have l2 : (1 : Int) ≤ (x.length : Int) + 1 := by omega
            have l3 : (x.length : Int) + 1 ≤ (c : Int) := by omega
            have l4 : ((x.length : Int) + 1 == 0) = false := by simp; omega
            have m0 : (0 : Int) < (y.length : Int) + 1 := by omega
            have m1 : (0 : Int) ≤ (y.length : Int) + 1 := by omega
            have m2 : (1 : Int) ≤ (y.length : Int) + 1 := by omega
            have m3 : (y.length : Int) + 1 ≤ (d : Int) := by omega
            have m4 : ((y.length : Int) + 1 == 0) = false := by simp; omega
            have k1 : Op.bytesLess a.k.toList b.k.toList = false := by rw [strLt_is]; exact decide_eq_false hab
            have k2 : Op.bytesLess b.k.toList a.k.toList = false := by rw [strLt_is]; exact decide_eq_false hba
            have mixed : Try.prog.follows .mixedOrders = true := by kernel_rfl
            have hlt1 := lt_of_heap HBS.out
            have hlt2 := lt_of_heap HBT.out
            have hne1 : Bs ≠ wj.heap.size := by omega
            have hne2 : Bt ≠ wj.heap.size := by omega
            go_upto_region 4 with fail
            obtain ⟨Wa, hWa⟩ : ∃ W, W = wj.alloc (.cells #[.string ⟨#[]⟩, .pointer none, .pointer none] 104) := ⟨_, rfl⟩
            have e1 : Wa.heap[Bs]? = some (.cells #[.slice (some ⟨gs, o, none⟩) (x.length + 1) c] 100) := by rw [hWa]; exact alloc_kept HBS.out
            have e2 : Wa.heap[Bt]? = some (.cells #[.slice (some ⟨gt, o', none⟩) (y.length + 1) d] 100) := by rw [hWa]; exact alloc_kept HBT.out
            have e3 : Wa.heap[wj.heap.size]? = some (.cells #[.string ⟨#[]⟩, .pointer none, .pointer none] 104) := by rw [hWa]; exact alloc_new _ _
            have e4 : ∀ k, k ≠ wj.heap.size → Wa.heap[k]? = wj.heap[k]? := by rw [hWa]; exact fun k hk => by show (wj.heap.push _)[k]? = _; rw [Array.getElem?_push, if_neg hk]
            rw [← hWa]
            have a1 : Wa.cell? ⟨Bs, 0, none⟩ = some (.slice (some ⟨gs, o, none⟩) (x.length + 1) c) := by rw [Lib.cell_of_heap e1]; rfl
            have a2 : Wa.cell? ⟨Bt, 0, none⟩ = some (.slice (some ⟨gt, o', none⟩) (y.length + 1) d) := by rw [Lib.cell_of_heap e2]; rfl
            have b0 : Wa.cell? ⟨wj.heap.size, 0, none⟩ = some (.string ⟨#[]⟩) := by rw [Lib.cell_of_heap e3]; rfl
            have b1 : Wa.cell? ⟨wj.heap.size, 1, none⟩ = some (.pointer none) := by rw [Lib.cell_of_heap e3]; rfl
            have b2 : Wa.cell? ⟨wj.heap.size, 2, none⟩ = some (.pointer none) := by rw [Lib.cell_of_heap e3]; rfl
            have z0 : Wa.cell? ⟨gs, o, none⟩ = some (.string a.k) := by rw [hWa]; exact Lib.cell?_alloc_some _ x0
            have z1 : Wa.cell? ⟨gs, o + 1, none⟩ = some (.pointer a.s) := by rw [hWa]; exact Lib.cell?_alloc_some _ x1
            have z2 : Wa.cell? ⟨gs, o + 2, none⟩ = some (.pointer a.t) := by rw [hWa]; exact Lib.cell?_alloc_some _ x2
            have v0 : Wa.cell? ⟨gt, o', none⟩ = some (.string b.k) := by rw [hWa]; exact Lib.cell?_alloc_some _ y0
            have v1 : Wa.cell? ⟨gt, o' + 1, none⟩ = some (.pointer b.s) := by rw [hWa]; exact Lib.cell?_alloc_some _ y1
            have v2 : Wa.cell? ⟨gt, o' + 2, none⟩ = some (.pointer b.t) := by rw [hWa]; exact Lib.cell?_alloc_some _ y2
            have f0 := Lib.frozen_of_heap e1 0
            have f1 := Lib.frozen_of_heap e2 0
            have g0 := Lib.frozen_of_heap e3 0
            have g1 := Lib.frozen_of_heap e3 1
            have g2 := Lib.frozen_of_heap e3 2
            have HWA := Lib.hid hWa
            have E1 := Lib.hid e1
            have E2 := Lib.hid e2
            have E3 := Lib.hid e3
            have E4 := Lib.hid e4
            clear hWa e1 e2 e3 e4 c1 c2 x0 x1 x2 y0 y1 y2
            go_quiet (fail)
            obtain ⟨n1, rfl⟩ : ∃ n1, n1 = nq := ⟨_, rfl⟩
            go_upto_region 6 with fail
            go_quiet (fail)
            go_wp2_with fail
            go_upto_region 2 with fail
            go_region
            go_upto_region 3 with fail
            go_region
            obtain ⟨p1, hp1⟩ : ∃ p', p' = (if c = 1 then some (⟨gs, o, none⟩ : Addr) else some ⟨gs, o + 3, none⟩) := ⟨_, rfl⟩
            rw [← hp1]
            obtain ⟨p2, hp2⟩ : ∃ p', p' = (if d = 1 then some (⟨gt, o', none⟩ : Addr) else some ⟨gt, o' + 3, none⟩) := ⟨_, rfl⟩
            rw [← hp2]
            go_upto_region 8 with fail
            obtain ⟨V, hV⟩ : ∃ V, V = ((((Wa.drewN (n1 + nq + 1)).setCell ⟨wj.heap.size, 0, none⟩ (.string a.k)).setCell ⟨wj.heap.size, 1, none⟩ (.pointer a.s)).setCell ⟨wj.heap.size, 2, none⟩ (.pointer b.t)) := ⟨_, rfl⟩
            rw [← hV]
            have s0 := heap_setCell_same (Wa.drewN (n1 + nq + 1)) wj.heap.size 0 _ _ (.string a.k) E3.out
            have s1 := heap_setCell_same _ wj.heap.size 1 _ _ (.pointer a.s) s0
            have s2 := heap_setCell_same _ wj.heap.size 2 _ _ (.pointer b.t) s1
            rw [← hV] at s2
            have oV : ∀ k, k ≠ wj.heap.size → V.heap[k]? = wj.heap[k]? := fun k h1 => by
              rw [hV, heap_setCell_other _ ⟨wj.heap.size, 2, none⟩ k _ h1, heap_setCell_other _ ⟨wj.heap.size, 1, none⟩ k _ h1, heap_setCell_other _ ⟨wj.heap.size, 0, none⟩ k _ h1]
              exact E4.out k h1
            have gV : wj.grownBy V none := ⟨by rw [hV, HWA.out]; rfl, by rw [hV, HWA.out]; rfl, by rw [hV, HWA.out]; rfl, by rw [hV, HWA.out]; simp, fun k hk _ => oV k (by omega)⟩
            obtain ⟨W4, hW4⟩ : ∃ W, W = ((V.setCell ⟨Bs, 0, none⟩ (.slice p1 x.length (c - 1))).setCell ⟨Bt, 0, none⟩ (.slice p2 y.length (d - 1))).drew := ⟨_, rfl⟩
            rw [← hW4]
            obtain ⟨U, hU⟩ : ∃ U, U = V.setCell ⟨Bs, 0, none⟩ (.slice p1 x.length (c - 1)) := ⟨_, rfl⟩
            rw [← hU] at hW4
            have gU : V.grownBy U (some Bs) := by rw [hU]; exact grownBy_setCell' _ _ _
            have gW : U.grownBy W4 (some Bt) := by rw [hW4]; have g := grownBy_setCell' U Bt (.slice p2 y.length (d - 1)); exact ⟨g.os, g.tape, g.output, g.size, g.block⟩
            have hU4 : ∀ k, k ≠ Bt → W4.heap[k]? = U.heap[k]? := fun k hk => by rw [hW4]; exact heap_setCell_other _ ⟨Bt, 0, none⟩ k _ hk
            have hVU : ∀ k, k ≠ Bs → U.heap[k]? = V.heap[k]? := fun k hk => by rw [hU]; exact heap_setCell_other _ ⟨Bs, 0, none⟩ k _ hk
            have k4 : W4.heap[wj.heap.size]? = some (.cells #[.string a.k, .pointer a.s, .pointer b.t] 104) := (hU4 _ (Ne.symm hne2)).trans ((hVU _ (Ne.symm hne1)).trans s2)
            have bs4 : W4.heap[Bs]? = some (.cells #[.slice p1 x.length (c - 1)] 100) := by
              rw [hU4 _ hst, hU]
              exact heap_setCell_same _ Bs 0 #[.slice (some ⟨gs, o, none⟩) (x.length + 1) c] _ _ ((oV Bs hne1).trans HBS.out)
            have bt4 : W4.heap[Bt]? = some (.cells #[.slice p2 y.length (d - 1)] 100) := by
              rw [hW4]
              exact heap_setCell_same _ Bt 0 #[.slice (some ⟨gt, o', none⟩) (y.length + 1) d] _ _ ((hVU _ (Ne.symm hst)).trans ((oV Bt hne2).trans HBT.out))
            have oth : ∀ k, k ≠ wj.heap.size → k ≠ Bs → k ≠ Bt → W4.heap[k]? = wj.heap[k]? := fun k h1 h2 h3 => (hU4 k h3).trans ((hVU k h2).trans (oV k h1))
            have J4 : J pre W4 := HJ.out pre U W4 (some Bt) (HJ.out pre V U (some Bs) (HJ.out pre wj V none HJP.out gV (fun r e => by cases e)) gU (fun r e => by cases e; exact ⟨.inl rfl, _, (hU4 Bs hst).symm.trans bs4⟩)) gW (fun r e => by cases e; exact ⟨.inr rfl, _, bt4⟩)
            clear hU gU hU4 hVU
            have M4 : Hid (Po.mrg X Y = (pre ++ [(⟨a.k, a.s, b.t⟩ : Pr)]) ++ Po.mrg x y) := by show _ = _; rw [HM.out, Po.mrg, if_neg hab, if_neg hba, List.append_assoc]; rfl
            have rX : Po.RowIn gs (p1) x W4 := by rw [hp1]; exact (HX.out.next hxc).over HBS.out HBT.out oth
            have rY : Po.RowIn gt (p2) y W4 := by rw [hp2]; exact (HY.out.next hyd).over HBS.out HBT.out oth
            have w0 : W4.cell? ⟨wj.heap.size, 0, none⟩ = some (.string a.k) := by rw [Lib.cell_of_heap k4]; rfl
            have w1 : W4.cell? ⟨wj.heap.size, 1, none⟩ = some (.pointer a.s) := by rw [Lib.cell_of_heap k4]; rfl
            have w2 : W4.cell? ⟨wj.heap.size, 2, none⟩ = some (.pointer b.t) := by rw [Lib.cell_of_heap k4]; rfl
            have BS4 := Lib.hid bs4
            have BT4 := Lib.hid bt4
            have RX := Lib.hid rX
            have RY := Lib.hid rY
            have JJ := Lib.hid J4
            clear hV hW4 s0 s1 s2 oV gV gW oth k4 bs4 bt4 rX rY J4 a1 a2 b0 b1 b2 f0 f1 g0 g1 g2 z0 z1 z2 v0 v1 v2
            obtain ⟨fn, tmps, assign, body, hy, hR⟩ := HYD.out pre ⟨a.k, a.s, b.t⟩ W4 JJ.out ⟨_, by rw [M4.out, List.append_assoc]; rfl⟩
            unfold Po.enc1 at hy
            clear hp1 hp2
            refine (wpIn_wide (n := n)).1 ?_
            gi_wp2
            refine hR.mono ?_
            rintro e W5 ⟨rfl, hJ5, hK5⟩
            dsimp only
            have BS5 := Lib.hid (hK5 Bs (.inl rfl) _ _ BS4.out)
            have BT5 := Lib.hid (hK5 Bt (.inr (.inl rfl)) _ _ BT4.out)
            have RX5 := Lib.hid (RX.out.kept fun cur T e => hK5 gs (.inr (.inr (.inl rfl))) _ _ e)
            have RY5 := Lib.hid (RY.out.kept fun cur T e => hK5 gt (.inr (.inr (.inr rfl))) _ _ e)
            have JJ5 := Lib.hid hJ5
            have HL5 : Hid (Po.lenAt Bs W5 + Po.lenAt Bt W5 < Po.lenAt Bs wj + Po.lenAt Bt wj) := by show _ < _; rw [HL.out, Po.lenAt_is BS5.out, Po.lenAt_is BT5.out]; first | omega | (simp only [List.length_cons]; omega) | (simp only [List.length_nil]; omega) | (simp only [List.length_cons, List.length_nil]; omega)
            clear hJ5 hK5 HL HY HX HBS HBT HM
            rename_i hKK
            refine hKK _ _ ?_
            repeat gi_step
            go_wp2_with fail
            go_roundw
            case rel => exact ⟨_, x, y, _, _, _, _, by first | omega | (simp only [List.length_cons]; omega) | (simp only [List.length_nil]; omega) | (simp only [List.length_cons, List.length_nil]; omega), by first | omega | (simp only [List.length_cons]; omega) | (simp only [List.length_nil]; omega) | (simp only [List.length_cons, List.length_nil]; omega), by first | omega | (simp only [List.length_cons]; omega) | (simp only [List.length_nil]; omega) | (simp only [List.length_cons, List.length_nil]; omega), by first | omega | (simp only [List.length_cons]; omega) | (simp only [List.length_nil]; omega) | (simp only [List.length_cons, List.length_nil]; omega), M4, JJ5, BS5, BT5, RX5, RY5⟩
            case measure => exact HL5.out
end Go.Proofs.Ytpnpgjjbincigaa
