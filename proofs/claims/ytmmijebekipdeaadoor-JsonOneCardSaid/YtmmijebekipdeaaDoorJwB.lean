/- The law JsonOne: what Read takes is a value whose plain text is read as this value again. -/
import Derived.Test.YtmmijebekipdeaaDoorJpG
import Derived.Test.YtmmijebekipdeaaDoorJtC
import Derived.BigQuiet
namespace Go.Proofs.YtmmijebekipdeaaDoor
open Go.RowKit
set_option maxRecDepth 100000
set_option linter.unusedVariables false

/-- a value's cells that lie in a block made just before -/
theorem Js.four {w w' : World} {x0 x1 x2 x3 : Value} (b : Below (w.alloc (.cells #[x0, x1, x2, x3] 27)).heap.size (w.alloc (.cells #[x0, x1, x2, x3] 27)) w') :
    w'.cell? ⟨w.heap.size, 0, none⟩ = some x0 ∧ w'.cell? ⟨w.heap.size, 1, none⟩ = some x1 ∧ w'.cell? ⟨w.heap.size, 2, none⟩ = some x2 ∧ w'.cell? ⟨w.heap.size, 3, none⟩ = some x3 := by
  have h := (b.block w.heap.size (by simp)).trans (alloc_new w (.cells #[x0, x1, x2, x3] 27))
  refine ⟨?_, ?_, ?_, ?_⟩ <;> (rw [Lib.cell_of_heap h]; rfl)

set_option maxHeartbeats 2000000 in
theorem walk_JsonOne (a0 : ByteArray) (h0 : a0.size ≤ maxLen) (w : World) (hT : Lib.Utf8Tabs 0 1 w) :
    Calls Tryd.prog 6 #[.string a0] w fun e w' => e = .returned (.bool true) ∧ Below w.heap.size w w' := by
  have HT := Lib.hid (fun w' (hw : Below w.heap.size w w') => Utf8Tabs_below hT hw)
  have HA := Lib.hid (fun w' (hw : Below w.heap.size w w') => Js.awake_is w' (Utf8Tabs_below hT hw))
  have HM := Lib.hid h0
  unfold maxLen at h0
  clear hT
  by_cases h1 : 3000 < a0.size
  · have g1 : decide ((3000 : Int) < a0.size) = true := decide_eq_true (by omega)
    go_enter Tryd.func6, Tryd.ntmps6
    go_wp2_with (go_at_call 14; refine (HA.out w (Below.refl _ _)).mono ?_)
    first | rintro e w1 rfl b1 | rintro e w1 ⟨rfl, b1⟩
    go_wp2_with fail
    go_ret
    exact ⟨rfl, b1⟩
  have g1 : decide ((3000 : Int) < a0.size) = false := decide_eq_false (by omega)
  have HR := Lib.hid (fun w' (hw : Below w.heap.size w w') => Js.read_is a0 w' (HT.out w' hw) HM.out)
  cases hX : Js.read a0 with
  | error p =>
    obtain ⟨k, n⟩ := p
    have he := Js.read_er a0 _ hX
    rw [hX] at HR
    have g2 : ((n : Int) == 0) = false := Js.beq_f (by have := he.2; dsimp only at this; omega)
    have g3 : (0 : Int) ≤ k := by omega
    have g4 : (k : Int) ≤ a0.size := by have := he.1; dsimp only at this; omega
    clear he hX
    go_enter Tryd.func6, Tryd.ntmps6
    go_wp2_with (go_at_call 14; refine (HA.out w (Below.refl _ _)).mono ?_)
    first | rintro e w1 rfl b1 | rintro e w1 ⟨rfl, b1⟩
    have HB := Lib.hid b1
    clear b1
    go_wp2_with (go_at_call 18; refine (HR.out w1 HB.out).mono ?_)
    rintro e w2 ⟨b2, rfl⟩
    replace HB := Lib.hid (HB.out.trans (b2.mono HB.out.size))
    clear b2
    have HS := Lib.hid (Js.same_is 1 (.mk 0 ⟨#[]⟩ [] []) (.mk 0 ⟨#[]⟩ [] []) (Nat.le_refl _) (by decide) (by decide) (fun _ => True) (fun _ => True) (w2.alloc (Obj.cells #[.int .u8 0, .string ⟨#[]⟩, .slice none 0 0, .slice none 0 0] 27)) _ _ _ _ (Js.zero_at _ _) (Js.zero_at _ _))
    go_wp2_with (go_at_call 19; refine HS.out.mono ?_)
    first | rintro e w3 rfl b3 | rintro e w3 ⟨rfl, b3⟩
    rw [Js.eqv_self]
    go_wp2_with fail
    go_ret
    exact ⟨rfl, (HB.out.trans ((Rj.bel1 w2 _).mono HB.out.size)).trans (b3.mono (HB.out.trans ((Rj.bel1 w2 _).mono HB.out.size)).size)⟩
  | ok v =>
    obtain ⟨hf, hd, hc, hl, hs, hz⟩ := Js.read_right a0 v hX
    have hrd := Js.read_wr v hf hd hc (by omega)
    have hE : Js.wErr v = 0 := by unfold Js.wErr; rw [if_neg (by rw [hf]; decide), if_neg (by omega), if_neg (by omega), if_neg (by omega)]
    have hWt : Js.wText v = Js.wr v := by unfold Js.wText; rw [if_pos hE]
    have hN : Js.cnt v ≤ 4611686018427387904 := by omega
    rw [hX] at HR
    have HD := Lib.hid hd
    have HC := Lib.hid hc
    have hlz : (⟨(Js.wr v).toArray⟩ : ByteArray).size = (Js.wr v).length := by show (Js.wr v).toArray.size = _; simp
    have HW := Lib.hid (fun S w' nv iv (hw : Below w.heap.size w w') (hA : Js.VAt S w' v nv iv) => Js.jwrite_is v S w' nv iv (HT.out w' hw) hA hz hN)
    have HK := Lib.hid (fun S w' nv iv (hw : Below w.heap.size w w') (hA : Js.VAt S w' v nv iv) => Js.check_is v S w' nv iv (HT.out w' hw) hA hz hN)
    have HQ := Lib.hid (fun S1 S2 w' nv iv nv' iv' (hA : Js.VAt S1 w' v nv iv) (hB : Js.VAt S2 w' v nv' iv') => Js.same_is _ v v (Nat.le_refl _) hN hN S1 S2 w' nv iv nv' iv' hA hB)
    have HDp := Lib.hid (fun S w' nv iv (hA : Js.VAt S w' v nv iv) => Js.depth_is _ v (Nat.le_refl _) hN S w' nv iv hA)
    have HCt := Lib.hid (fun S w' nv iv (hA : Js.VAt S w' v nv iv) => Js.count_is _ v (Nat.le_refl _) hN S w' nv iv hA)
    obtain ⟨T, hTT⟩ : ∃ T : ByteArray, (⟨(Js.wr v).toArray⟩ : ByteArray) = T := ⟨_, rfl⟩
    rw [hWt, hE, hTT] at HW
    rw [hE] at HK
    rw [Js.eqv_self] at HQ
    rw [hTT] at hrd hlz
    have HR2 := Lib.hid (fun w' (hw : Below w.heap.size w w') => Js.read_is T w' (HT.out w' hw) (by unfold maxLen; omega))
    rw [hrd] at HR2
    have g5 : (T.size : Int) ≤ a0.size := by omega
    clear hX hf hd hc hl hs hz hrd hE hWt hN hlz hTT
    go_enter Tryd.func6, Tryd.ntmps6
    go_wp2_with (go_at_call 14; refine (HA.out w (Below.refl _ _)).mono ?_)
    first | rintro e w1 rfl b1 | rintro e w1 ⟨rfl, b1⟩
    have HB := Lib.hid b1
    clear b1
    go_wp2_with (go_at_call 18; refine (HR.out w1 HB.out).mono ?_)
    rintro e w2 ⟨b2, ⟨x1, ⟨np, nn, nc⟩, ⟨ip, im, ic⟩⟩, rfl, rfl, hv2⟩
    dsimp only [Js.It.nv, Js.It.iv] at hv2 ⊢
    replace HB := Lib.hid (HB.out.trans (b2.mono HB.out.size))
    clear b2
    have bA : Below w.heap.size w (w2.alloc (.cells #[.int .u8 x1.kind, .string x1.text, .slice np nn nc, .slice ip im ic] 27)) := HB.out.trans ((Rj.bel1 w2 _).mono HB.out.size)
    replace HB := Lib.hid bA
    clear bA
    have HV := Lib.hid (hv2.low (Below.refl _ _) |>.low (Rj.bel1 w2 (.cells #[.int .u8 x1.kind, .string x1.text, .slice np nn nc, .slice ip im ic] 27)))
    clear hv2
    go_wp2_with (go_at_call 20; refine (HW.out _ _ _ _ HB.out HV.out).mono ?_)
    first | rintro e w3 rfl b3 | rintro e w3 ⟨rfl, b3⟩
    replace b3 : Below (w2.alloc (.cells #[.int .u8 x1.kind, .string x1.text, .slice np nn nc, .slice ip im ic] 27)).heap.size (w2.alloc (.cells #[.int .u8 x1.kind, .string x1.text, .slice np nn nc, .slice ip im ic] 27)) w3 := b3.mono (by rw [World.size_alloc]; exact Nat.le_refl _)
    replace HV := Lib.hid (HV.out.low b3)
    replace HB := Lib.hid (HB.out.trans (b3.mono HB.out.size))
    have HF := Lib.hid b3
    clear b3
    go_wp2_with (go_at_call 18; refine (HR2.out w3 HB.out).mono ?_)
    rintro e w4 ⟨b4, ⟨y1, ⟨mp, mn, mc⟩, ⟨jp, jm, jc⟩⟩, hy, rfl, hv4⟩
    dsimp only at hy
    obtain rfl : x1 = y1 := hy.symm
    dsimp only [Js.It.nv, Js.It.iv] at hv4 ⊢
    replace HV := Lib.hid (HV.out.low b4)
    replace HB := Lib.hid (HB.out.trans (b4.mono HB.out.size))
    replace HF := Lib.hid (HF.out.trans (b4.mono HF.out.size))
    have bC := Rj.bel1 w4 (.cells #[.int .u8 x1.kind, .string x1.text, .slice mp mn mc, .slice jp jm jc] 27)
    have HU := Lib.hid (hv4.low (Below.refl _ _) |>.low bC)
    replace HV := Lib.hid (HV.out.low bC)
    replace HB := Lib.hid (HB.out.trans (bC.mono HB.out.size))
    replace HF := Lib.hid (HF.out.trans (bC.mono HF.out.size))
    clear bC hv4 b4 hy
    go_wp2_with (go_at_call 20; refine (HW.out _ _ _ _ HB.out HU.out).mono ?_)
    first | rintro e w5 rfl b5 | rintro e w5 ⟨rfl, b5⟩
    replace b5 : Below (w4.alloc (.cells #[.int .u8 x1.kind, .string x1.text, .slice mp mn mc, .slice jp jm jc] 27)).heap.size (w4.alloc (.cells #[.int .u8 x1.kind, .string x1.text, .slice mp mn mc, .slice jp jm jc] 27)) w5 := b5.mono (by rw [World.size_alloc]; exact Nat.le_refl _)
    replace HV := Lib.hid (HV.out.low b5)
    replace HU := Lib.hid (HU.out.low b5)
    replace HB := Lib.hid (HB.out.trans (b5.mono HB.out.size))
    replace HF := Lib.hid (HF.out.trans (b5.mono HF.out.size))
    have HG := Lib.hid b5
    clear b5
    obtain ⟨c0, c1, c2, c3⟩ := Js.four HF.out
    go_wp2_with (go_at_call 21; refine (HK.out _ _ _ _ HB.out HV.out).mono ?_)
    first | rintro e w6 rfl b6 | rintro e w6 ⟨rfl, b6⟩
    clear c0 c1 c2 c3
    replace HV := Lib.hid (HV.out.low b6)
    replace HU := Lib.hid (HU.out.low b6)
    replace HB := Lib.hid (HB.out.trans (b6.mono HB.out.size))
    replace HF := Lib.hid (HF.out.trans (b6.mono HF.out.size))
    replace HG := Lib.hid (HG.out.trans (b6.mono HG.out.size))
    clear b6
    obtain ⟨c0, c1, c2, c3⟩ := Js.four HF.out
    obtain ⟨d0, d1, d2, d3⟩ := Js.four HG.out
    go_wp2_with (go_at_call 19; refine (HQ.out _ _ _ _ _ _ _ HV.out HU.out).mono ?_)
    first | rintro e w7 rfl b7 | rintro e w7 ⟨rfl, b7⟩
    clear c0 c1 c2 c3 d0 d1 d2 d3
    replace HV := Lib.hid (HV.out.low b7)
    replace HB := Lib.hid (HB.out.trans (b7.mono HB.out.size))
    replace HF := Lib.hid (HF.out.trans (b7.mono HF.out.size))
    clear b7
    obtain ⟨c0, c1, c2, c3⟩ := Js.four HF.out
    go_wp2_with (go_at_call 22; refine (HDp.out _ _ _ _ HV.out).mono ?_)
    first | rintro e w8 rfl b8 | rintro e w8 ⟨rfl, b8⟩
    clear c0 c1 c2 c3
    replace HV := Lib.hid (HV.out.low b8)
    replace HB := Lib.hid (HB.out.trans (b8.mono HB.out.size))
    replace HF := Lib.hid (HF.out.trans (b8.mono HF.out.size))
    clear b8
    obtain ⟨c0, c1, c2, c3⟩ := Js.four HF.out
    have g6 : ((Js.dep x1 : Nat) : Int) ≤ 16 := by have := HD.out; omega
    have g7 : ((Js.cnt x1 : Nat) : Int) ≤ 4096 := by have := HC.out; omega
    go_wp2_with (go_at_call 23; refine (HCt.out _ _ _ _ HV.out).mono ?_)
    first | rintro e w9 rfl b9 | rintro e w9 ⟨rfl, b9⟩
    replace HB := Lib.hid (HB.out.trans (b9.mono HB.out.size))
    clear b9
    go_wp2_with fail
    go_ret
    exact ⟨rfl, HB.out⟩
end Go.Proofs.YtmmijebekipdeaaDoor
