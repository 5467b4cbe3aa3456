/- Contract of json.Get. -/
import Derived.Test.YtmmijebekipdeaaDoorJtA
namespace Go.Proofs.YtmmijebekipdeaaDoor
open Go.RowKit
set_option maxRecDepth 100000
set_option linter.unusedVariables false

/-- where a name is -/
def Js.find (x : ByteArray) : List ByteArray → Option Nat
  | [] => none
  | y :: r => if y = x then some 0 else (Js.find x r).map (· + 1)
theorem Js.find_some (x : ByteArray) : ∀ (ns : List ByteArray) (k : Nat), Js.find x ns = some k → ∃ h : k < ns.length, ns[k] = x ∧ ∀ j (hj : j < k), ns[j] ≠ x
  | [], k, h => by cases h
  | y :: r, k, h => by
    rw [Js.find] at h
    by_cases hy : y = x
    · rw [if_pos hy] at h
      cases h
      exact ⟨by simp, hy, fun j hj => by omega⟩
    · rw [if_neg hy] at h
      cases hf : Js.find x r with
      | none => rw [hf] at h; cases h
      | some m =>
        rw [hf] at h
        cases h
        obtain ⟨h1, h2, h3⟩ := Js.find_some x r m hf
        refine ⟨by simpa using h1, by simpa using h2, fun j hj => ?_⟩
        cases j with
        | zero => simpa using hy
        | succ j =>
          have hj' : j + 1 < m + 1 := hj
          simpa using h3 j (by omega)
theorem Js.find_none (x : ByteArray) : ∀ (ns : List ByteArray), Js.find x ns = none → ∀ y ∈ ns, y ≠ x
  | [], _, y, h => by cases h
  | z :: r, h, y, hy => by
    rw [Js.find] at h
    by_cases hz : z = x
    · rw [if_pos hz] at h; cases h
    · rw [if_neg hz] at h
      have h2 : Js.find x r = none := by
        cases hf : Js.find x r with
        | none => rfl
        | some m => rw [hf] at h; cases h
      rcases List.mem_cons.1 hy with rfl | hy
      · exact hz
      · exact Js.find_none x r h2 y hy
def Js.findI : Option Nat → Int
  | none => -1
  | some k => k
theorem Js.index_is {S : Nat → Prop} {w : World} {ns : List ByteArray} {v : Value} (h : Js.NsAt S w ns v) (x : ByteArray) :
    Calls Tryd.prog 68 #[v, .string x] w fun e w' => e = .returned (.int .i64 (Js.findI (Js.find x ns))) ∧ w' = w := by
  obtain ⟨p, c, rfl, h1, h2, h3⟩ := h
  have key : Lib.idxOfS (ns.take ns.length) x = Js.findI (Js.find x ns) := by
    cases hf : Js.find x ns with
    | none =>
      refine Lib.idxOfS_miss ns ns.length x fun j hj => ?_
      rw [List.getD_eq_getElem?_getD, List.getElem?_eq_getElem hj]
      exact Js.find_none x ns hf _ (List.getElem_mem hj)
    | some k =>
      obtain ⟨hk, hx, hne⟩ := Js.find_some x ns k hf
      refine Lib.idxOfS_hit ns ns.length k x hk (Nat.le_refl _) ?_ fun j hj => ?_
      · rw [List.getD_eq_getElem?_getD, List.getElem?_eq_getElem hk]; exact hx
      · rw [List.getD_eq_getElem?_getD, List.getElem?_eq_getElem (by omega)]; exact hne j hj
  rcases h3 with rfl | ⟨b, o, rfl, hS, hA⟩
  · exact Tryd.slices_Index_string_empty p c x w
  · have h9 := Tryd.slices_Index_string b o ns.length c ns x w (Nat.le_refl _) (by unfold maxLen at h2; omega) (fun j hj => by rw [hA j hj]; simp [List.getD_eq_getElem?_getD, hj])
    rw [key] at h9
    exact h9

abbrev Js.zeroV : Js.V := .mk 0 ⟨#[]⟩ [] []
/-- the item with a name -/
def Js.getV (v : Js.V) (x : ByteArray) : Option Js.V := if v.kind = 7 then (Js.find x v.names).bind fun k => v.items[k]? else none
/-- what Get hands back -/
def Js.Got (r : Option Js.V) (w : World) (e : Ending) (w' : World) : Prop :=
  ∃ t : Js.It, t.x = r.getD Js.zeroV ∧ e = .returned (.tuple #[.agg #[.int .u8 t.x.kind, .string t.x.text, t.nv, t.iv], .bool r.isSome]) ∧ Below w.heap.size w w' ∧ Js.VAt (fun k => w.heap.size ≤ k) w' t.x t.nv t.iv
theorem Js.zero_at (S : Nat → Prop) (w : World) : Js.VAt S w Js.zeroV (.slice none 0 0) (.slice none 0 0) := by
  unfold Js.VAt
  exact ⟨⟨none, 0, rfl, Nat.le_refl _, Nat.zero_le _, .inl rfl⟩, none, 0, rfl, Nat.le_refl _, Nat.zero_le _, .inl rfl⟩
theorem Js.ret_vb {fn : Func} {Q : Ending → World → Prop} {a : Act} {w : World} {V n m : Nat} {b x0 x1 x2 x3 : Value} (hres : fn.results = #[.cell n 27, .tmp m]) (hm : a.tmps[m]? = some b) (ht : a.tmps[n]? = some (.pointer (some ⟨V, 0, none⟩)))
    (hh : w.heap[V]? = some (.cells #[x0, x1, x2, x3] 27)) (hd : a.defers = []) (h : Q (.returned (.tuple #[.agg #[x0, x1, x2, x3], b])) w) : bodyPost Tryd.prog fn Q .ret a w := by
  have c0 : w.cell? ⟨V, 0, none⟩ = some x0 := by rw [Lib.cell_of_heap hh]; rfl
  have c1 : w.cell? ⟨V, 1, none⟩ = some x1 := by rw [Lib.cell_of_heap hh]; rfl
  have c2 : w.cell? ⟨V, 2, none⟩ = some x2 := by rw [Lib.cell_of_heap hh]; rfl
  have c3 : w.cell? ⟨V, 3, none⟩ = some x3 := by rw [Lib.cell_of_heap hh]; rfl
  refine bodyPost_ret (v := .tuple #[.agg #[x0, x1, x2, x3], b]) ?_ hd h
  simp [results, hres, ht, hm, go_sem, c0, c1, c2, c3]

set_option maxHeartbeats 4000000 in
theorem Js.get_is (v : Js.V) (x : ByteArray) (hN : Js.cnt v ≤ 500000000) (hz : Js.sz v) (S : Nat → Prop) (w : World) (nv iv : Value) (hA : Js.VAt S w v nv iv) :
    Calls Tryd.prog 37 #[.agg #[.int .u8 v.kind, .string v.text, nv, iv], .string x] w (Js.Got (Js.getV v x) w) := by
  obtain ⟨k, t, ns, xs⟩ := v
  obtain ⟨R, hR⟩ : ∃ R, Js.getV (.mk k t ns xs) x = R := ⟨_, rfl⟩
  rw [hR]
  have hR2 : (if k = 7 then (Js.find x ns).bind fun k => xs[k]? else none) = R := hR
  rw [Js.cnt] at hN
  rw [Js.sz] at hz
  obtain ⟨-, -, hsl⟩ := hz
  unfold Js.VAt at hA
  obtain ⟨hNs, ip, ic, rfl, hl1, hl2, hit⟩ := hA
  have HNs := Lib.hid hNs
  obtain ⟨np, nc, rfl, hn1, hn2, -⟩ := hNs
  dsimp only [Js.V.kind, Js.V.text, Js.V.names, Js.V.items]
  have hxl : xs.length ≤ Js.cntL xs := Js.len_cntL xs
  obtain ⟨n, hn⟩ : ∃ n, ns.length = n := ⟨_, rfl⟩
  obtain ⟨m, hm⟩ : ∃ m, xs.length = m := ⟨_, rfl⟩
  rw [hn, hm]
  rw [hm] at hxl
  rw [hn] at HNs
  have hm9 : m ≤ 500000000 := by omega
  have HM := Lib.hid hm
  have HI := Lib.hid hit
  have HV : Hid (1 + Js.cntL xs ≤ 500000000) := hN
  have HZ := Lib.hid hsl
  have HR := Lib.hid hR2
  obtain ⟨wB, hwB⟩ : ∃ wB, (w.alloc (.cells #[.int .u8 k, .string t, .slice np n nc, .slice ip m ic] 27)).alloc (.cells #[.int .u8 0, .string ⟨#[]⟩, .slice none 0 0, .slice none 0 0] 27) = wB := ⟨_, rfl⟩
  have HBw : Hid (Below w.heap.size w wB) := by subst hwB; exact Rj.bel2 w _ _
  have HVc : Hid (wB.heap[w.heap.size]? = some (.cells #[.int .u8 k, .string t, .slice np n nc, .slice ip m ic] 27)) := by subst hwB; exact alloc_kept (alloc_new _ _)
  have HRc : Hid (wB.heap[w.heap.size + 1]? = some (.cells #[.int .u8 0, .string ⟨#[]⟩, .slice none 0 0, .slice none 0 0] 27)) := by subst hwB; exact Rj.new2 w _ _
  have hzB : wB.heap.size = w.heap.size + 2 := by subst hwB; simp
  have HWB := Lib.hid hwB
  have hNB := HNs.out.move (S' := S) ⟨fun k _ hk => HBw.out.block k hk, fun _ hk _ => hk⟩
  rw [← hn] at hNB
  have hIX := Js.index_is hNB x
  rw [hn] at hIX
  have HIX := Lib.hid hIX
  clear hwB hn hm hit hN hsl HNs hxl hl1 hl2 hn1 hn2 hR hR2 hNB hIX
  have c0 : wB.cell? ⟨w.heap.size, 0, none⟩ = some (.int .u8 k) := by rw [Lib.cell_of_heap HVc.out]; rfl
  have c2 : wB.cell? ⟨w.heap.size, 2, none⟩ = some (.slice np n nc) := by rw [Lib.cell_of_heap HVc.out]; rfl
  have c3 : wB.cell? ⟨w.heap.size, 3, none⟩ = some (.slice ip m ic) := by rw [Lib.cell_of_heap HVc.out]; rfl
  have m0 : wB.cell? ⟨w.heap.size + 1, 0, none⟩ = some (.int .u8 0) := by rw [Lib.cell_of_heap HRc.out]; rfl
  have m1 : wB.cell? ⟨w.heap.size + 1, 1, none⟩ = some (.string ⟨#[]⟩) := by rw [Lib.cell_of_heap HRc.out]; rfl
  have m2 : wB.cell? ⟨w.heap.size + 1, 2, none⟩ = some (.slice none 0 0) := by rw [Lib.cell_of_heap HRc.out]; rfl
  have m3 : wB.cell? ⟨w.heap.size + 1, 3, none⟩ = some (.slice none 0 0) := by rw [Lib.cell_of_heap HRc.out]; rfl
  have g2 := Lib.frozen_of_heap HRc.out 0
  have g3 := Lib.frozen_of_heap HRc.out 1
  have g4 := Lib.frozen_of_heap HRc.out 2
  have g5 := Lib.frozen_of_heap HRc.out 3
  obtain ⟨F, hF⟩ : ∃ F, Js.find x ns = F := ⟨_, rfl⟩
  rw [hF] at HIX HR
  clear hF
  go_enter Tryd.func37, Tryd.ntmps37
  go_upto_region 1 with fail
  rw [show (w.alloc (.cells #[.int .u8 k, .string t, .slice np n nc, .slice ip m ic] 27)).alloc (.cells #[.int .u8 0, .string ⟨#[]⟩, .slice none 0 0, .slice none 0 0] 27) = wB from HWB.out]
  clear HWB
  have done : ∀ a : Act, Hid (R = none) → a.defers = [] → a.tmps[4]? = some (.pointer (some ⟨w.heap.size + 1, 0, none⟩)) → a.tmps[5]? = some (.bool false) →
      bodyPost Tryd.prog Tryd.f37 (Js.Got R w) .ret a ((((wB.setCell ⟨w.heap.size + 1, 0, none⟩ (.int .u8 0)).setCell ⟨w.heap.size + 1, 1, none⟩ (.string ⟨#[]⟩)).setCell ⟨w.heap.size + 1, 2, none⟩ (.slice none 0 0)).setCell ⟨w.heap.size + 1, 3, none⟩ (.slice none 0 0)) := by
    intro a hRn hd h4 h5
    obtain rfl : R = none := hRn.out
    refine Js.ret_vb rfl h5 h4 (Rj.set4 HRc.out _ _ _ _) hd ⟨⟨Js.zeroV, (none, 0, 0), (none, 0, 0)⟩, rfl, rfl, Rj.bel4 HBw.out (Nat.le_succ _) _ _ _ _, Js.zero_at _ _⟩
  have HD := Lib.hid done
  clear done
  by_cases h7 : k = 7
  case neg =>
    have b7 : ((k : Int) != 7) = true := by rw [bne, Js.beq_f (by omega)]; rfl
    have HE : Hid (R = none) := by have h9 : _ = R := HR.out; rw [if_neg h7] at h9; exact h9.symm
    clear h7 HR
    go_wp2_with (go_at_call 68; refine HIX.out.mono ?_)
    try rintro _ _ ⟨rfl, rfl⟩
    go_wp2_with fail
    exact HD.out _ HE rfl rfl rfl
  have b7 : ((k : Int) != 7) = false := by rw [bne, Js.beq_t (by omega)]; rfl
  have HR1 : Hid ((F.bind fun k => xs[k]?) = R) := by have h9 : _ = R := HR.out; rw [if_pos h7] at h9; exact h9
  clear h7 HR
  cases F with
  | none =>
    have HE : Hid (R = none) := HR1.out.symm
    have HIX2 : Hid (Calls Tryd.prog 68 #[.slice np n nc, .string x] wB fun e w' => e = .returned (.int .i64 (-1)) ∧ w' = wB) := HIX.out
    clear HIX HR1
    go_wp2_with (go_at_call 68; refine HIX2.out.mono ?_)
    try rintro _ _ ⟨rfl, rfl⟩
    go_wp2_with fail
    exact HD.out _ HE rfl rfl rfl
  | some j =>
    have HIX2 : Hid (Calls Tryd.prog 68 #[.slice np n nc, .string x] wB fun e w' => e = .returned (.int .i64 (j : Int)) ∧ w' = wB) := HIX.out
    have HR2 : Hid (xs[j]? = R) := HR1.out
    have j0 : decide ((j : Int) < 0) = false := decide_eq_false (by omega)
    have j1 : (0 : Int) ≤ j := by omega
    clear HIX HR1
    by_cases hj : j < m
    · have j2 : (j : Int) < m := by omega
      have j3 : ¬ (m : Int) ≤ j := by omega
      have j4 : decide ((m : Int) ≤ j) = false := decide_eq_false j3
      have hx : j < xs.length := by have h9 : xs.length = m := HM.out; omega
      rcases HI.out with rfl | ⟨b, o, rfl, _, hL⟩
      · simp at hx
      obtain ⟨yn, yi, d0, d1, d2, d3, hX⟩ := Js.LAt.get xs b o j hx hL
      obtain ⟨yp, yc, yq, yd, rfl, rfl, -, -⟩ := hX.shape
      replace d0 := cell_later HBw.out d0 (Nat.le_refl _)
      replace d1 := cell_later HBw.out d1 (Nat.le_refl _)
      replace d2 := cell_later HBw.out d2 (Nat.le_refl _)
      replace d3 := cell_later HBw.out d3 (Nat.le_refl _)
      have HC := Lib.hid (Js.copied_is (Js.cnt xs[j]) xs[j] (Nat.le_refl _) (by have h8 : 1 + Js.cntL xs ≤ 500000000 := HV.out; have h9 := Js.cntL_part xs j hx; omega) (Js.szL_get xs j hx HZ.out) S wB _ _ (hX.later HBw.out))
      have HE : Hid (R = some xs[j]) := by have h9 : _ = R := HR2.out; rw [List.getElem?_eq_getElem hx] at h9; exact h9.symm
      obtain ⟨y, hy⟩ : ∃ y, xs[j] = y := ⟨_, rfl⟩
      rw [hy] at d0 d1 d2 d3 HC HE
      clear hy hX hL hx HR2
      go_wp2_with (first | (go_at_call 68; refine HIX2.out.mono ?_) | (go_at_call 69; refine HC.out.mono ?_))
      try rintro _ _ ⟨rfl, rfl⟩
      go_wp2_with (go_at_call 69; refine HC.out.mono ?_)
      rintro e w2 ⟨i, hi0, rfl, b2, hv2⟩
      obtain ⟨ix, jn, ji⟩ := i
      obtain rfl : ix = y := hi0
      have HV2 := Lib.hid hv2
      have HR3 := Lib.hid ((b2.block _ (lt_of_heap HRc.out)).trans HRc.out)
      have HB2 := Lib.hid (HBw.out.trans (b2.mono HBw.out.size))
      have hz2 := b2.size
      have n0 : w2.cell? ⟨w.heap.size + 1, 0, none⟩ = some (.int .u8 0) := by rw [Lib.cell_of_heap HR3.out]; rfl
      have n1 : w2.cell? ⟨w.heap.size + 1, 1, none⟩ = some (.string ⟨#[]⟩) := by rw [Lib.cell_of_heap HR3.out]; rfl
      have n2 : w2.cell? ⟨w.heap.size + 1, 2, none⟩ = some (.slice none 0 0) := by rw [Lib.cell_of_heap HR3.out]; rfl
      have n3 : w2.cell? ⟨w.heap.size + 1, 3, none⟩ = some (.slice none 0 0) := by rw [Lib.cell_of_heap HR3.out]; rfl
      have l2 := Lib.frozen_of_heap HR3.out 0
      have l3 := Lib.frozen_of_heap HR3.out 1
      have l4 := Lib.frozen_of_heap HR3.out 2
      have l5 := Lib.frozen_of_heap HR3.out 3
      dsimp only [Js.It.nv, Js.It.iv]
      clear hv2 b2
      go_wp2_with fail
      obtain rfl : R = some ix := HE.out
      refine Js.ret_vb rfl rfl rfl (Rj.set4 HR3.out _ _ _ _) rfl ⟨⟨ix, jn, ji⟩, rfl, rfl, Rj.bel4 HB2.out (Nat.le_succ _) _ _ _ _, ?_⟩
      exact Js.VAt.move ⟨fun q hq hl => ((((Kp.refl (w.heap.size + 1) w2).set 0 _).set 1 _).set 2 _ |>.set 3 _).block q hl (by have := hq; omega), fun q hq _ => by have := hq; omega⟩ _ _ _ HV2.out
    · have j3 : (m : Int) ≤ j := by omega
      have j4 : decide ((m : Int) ≤ j) = true := decide_eq_true j3
      have HE : Hid (R = none) := by have h9 : _ = R := HR2.out; rw [List.getElem?_eq_none (by have h8 : xs.length = m := HM.out; omega)] at h9; exact h9.symm
      clear HR2
      go_wp2_with (go_at_call 68; refine HIX2.out.mono ?_)
      try rintro _ _ ⟨rfl, rfl⟩
      go_wp2_with fail
      exact HD.out _ HE rfl rfl rfl
end Go.Proofs.YtmmijebekipdeaaDoor
