/- Contract of json.write: the text of a value that is as its kinds say. -/
import Derived.Test.YtmmijebekipdeaaDoorJsO
import Derived.Test.YtmmijebekipdeaaDoorJsQ
import Derived.Test.YtmmijebekipdeaaDoorJsR
namespace Go.Proofs.YtmmijebekipdeaaDoor
open Go.RowKit
set_option maxRecDepth 100000

mutual
/-- the text of a value -/
def Js.wr : Js.V → List UInt8
  | .mk k t ns xs =>
    if k = 1 then [110, 117, 108, 108] else if k = 2 then [102, 97, 108, 115, 101] else if k = 3 then [116, 114, 117, 101]
    else if k = 4 then t.data.toList else if k = 5 then Js.quo t.data.toList
    else if k = 7 then 123 :: (Js.wrL true ns 0 xs ++ [125]) else 91 :: (Js.wrL false ns 0 xs ++ [93])
def Js.wrL (obj : Bool) (ns : List ByteArray) : Nat → List Js.V → List UInt8
  | _, [] => []
  | i, x :: r => (if i = 0 then [] else [44]) ++ ((if obj then Js.quo (ns.getD i ⟨#[]⟩).data.toList ++ [58] else []) ++ (Js.wr x ++ Js.wrL obj ns (i + 1) r))
end
/-- names that are right: of valid UTF-8, each once -/
def Js.okNs : List ByteArray → List ByteArray → Bool
  | _, [] => true
  | before, x :: r => (Js.bad8 x).isNone && !before.contains x && Js.okNs (before ++ [x]) r
mutual
/-- a value that is as its kinds say -/
def Js.fit : Js.V → Bool
  | .mk k t ns xs =>
    if k = 1 ∨ k = 2 ∨ k = 3 then t.size == 0 && ns.length == 0 && xs.length == 0
    else if k = 4 then Js.isNum t && ns.length == 0 && xs.length == 0
    else if k = 5 then (Js.bad8 t).isNone && ns.length == 0 && xs.length == 0
    else if k = 6 then t.size == 0 && ns.length == 0 && Js.fitL xs
    else if k = 7 then t.size == 0 && ns.length == xs.length && Js.okNs [] ns && Js.fitL xs
    else false
def Js.fitL : List Js.V → Bool
  | [] => true
  | x :: r => Js.fit x && Js.fitL r
end
theorem Js.fitL_get : ∀ (xs : List Js.V) (i : Nat) (h : i < xs.length), Js.fitL xs = true → Js.fit xs[i] = true
  | x :: r, 0, _, hf => by rw [Js.fitL, Bool.and_eq_true] at hf; exact hf.1
  | x :: r, i + 1, h, hf => by rw [Js.fitL, Bool.and_eq_true] at hf; exact Js.fitL_get r i (by simpa using h) hf.2
theorem Js.okNs_get : ∀ (ns before : List ByteArray) (i : Nat) (h : i < ns.length), Js.okNs before ns = true → Js.bad8 ns[i] = none
  | x :: r, b, 0, _, hf => by
    rw [Js.okNs, Bool.and_eq_true, Bool.and_eq_true] at hf
    exact Option.isNone_iff_eq_none.1 hf.1.1
  | x :: r, b, i + 1, h, hf => by
    rw [Js.okNs, Bool.and_eq_true] at hf
    exact Js.okNs_get r (b ++ [x]) i (by simpa using h) hf.2
theorem Js.wrL_drop (obj : Bool) (ns : List ByteArray) (xs : List Js.V) (i : Nat) (h : i < xs.length) :
    Js.wrL obj ns i (xs.drop i) = (if i = 0 then [] else [44]) ++ ((if obj then Js.quo (ns.getD i ⟨#[]⟩).data.toList ++ [58] else []) ++ (Js.wr xs[i] ++ Js.wrL obj ns (i + 1) (xs.drop (i + 1)))) := by
  rw [List.drop_eq_getElem_cons h, Js.wrL]
/-- what stands of a value while what lies from B on is written -/
theorem Js.VAt.under {B : Nat} {w w' : World} {v : Js.V} {nv iv : Value} (h : Js.VAt (fun k => k < B) w v nv iv) (b : Below B w w') : Js.VAt (fun k => k < B) w' v nv iv :=
  Js.VAt.move ⟨fun k hk _ => b.block k hk, fun _ hk _ => hk⟩ _ _ _ h
theorem cell_under {B : Nat} {w w' : World} (h : Below B w w') {a : Addr} {v : Value} (hc : w.cell? a = some v) (hB : a.block < B) : w'.cell? a = some v := by
  rw [h.cell hB]
  exact hc
theorem Js.str_cells (l : List UInt8) : Lib.strCells ⟨l.toArray⟩ = Lib.byteCells l := rfl
theorem Js.str_cells' (s : ByteArray) : Lib.strCells s = Lib.byteCells s.data.toList := rfl
theorem Js.names_get {S : Nat → Prop} {w : World} {ns : List ByteArray} {v : Value} (h : Js.NsAt S w ns v) : ∃ p c, v = .slice p ns.length c ∧ ns.length ≤ maxLen ∧ (ns = [] ∨ ∃ b o, p = some ⟨b, o, none⟩ ∧ S b ∧ ∀ i (h : i < ns.length), w.cell? ⟨b, o + i, none⟩ = some (.string ns[i])) := by
  obtain ⟨p, c, h1, h2, h3, h4⟩ := h
  exact ⟨p, c, h1, by omega, h4⟩

section
set_option maxHeartbeats 8000000
theorem Js.write_is : ∀ (N : Nat) (v : Js.V), Js.cnt v ≤ N → Js.fit v = true → ∀ (B b : Nat) (X : List UInt8) (w : World) (nv iv : Value), Lib.IsBuilderF 47 5 B b (Lib.byteCells X) w → Js.VAt (fun k => k < B) w v nv iv →
    X.length + (Js.wr v).length + 16 ≤ 140737488355328 → B ≤ w.heap.size →
    Calls Tryd.prog 58 #[.pointer (some ⟨b, 0, none⟩), .agg #[.int .u8 v.kind, .string v.text, nv, iv]] w fun e w' => e = .returned (.tuple #[]) ∧ Lib.IsBuilderF 47 5 B b (Lib.byteCells (X ++ Js.wr v)) w' ∧ Below B w w' ∧ Lib.OthersKept 5 (some b) w w' := by
  intro N
  induction N with
  | zero => intro v hv; obtain ⟨k, t, ns, xs⟩ := v; unfold Js.cnt at hv; omega
  | succ N ih =>
    intro v hv hf B b X w nv iv hI hA hlen hBw
    have hb : b < w.heap.size := by
      rcases hI with ⟨_, _, h, _⟩ | ⟨_, _, h, _⟩ <;> exact lt_of_heap h
    obtain ⟨k, t, ns, xs⟩ := v
    obtain ⟨T, hT⟩ : ∃ T, X ++ Js.wr (.mk k t ns xs) = T := ⟨_, rfl⟩
    have hTl : T.length + 16 ≤ 140737488355328 := by rw [← hT, List.length_append]; exact hlen
    have hX : X.length + 16 ≤ 140737488355328 := by omega
    rw [hT]
    have hCb : Js.cntL xs + 1 ≤ N + 1 := by rw [Js.cnt] at hv; omega
    clear hlen hv
    rw [Js.fit] at hf
    rw [Js.wr] at hT
    unfold Js.VAt at hA
    obtain ⟨hNs, ip, ic, rfl, hl1, hl2, hit⟩ := hA
    obtain ⟨np, nc, rfl, hnl, hns⟩ := Js.names_get hNs
    clear hNs
    dsimp only [Js.V.kind, Js.V.text, Js.V.names, Js.V.items]
    have HI := Lib.hid hI
    clear hI
    obtain ⟨W1, hW1⟩ : ∃ W1, w.alloc (.cells #[.int .u8 k, .string t, .slice np ns.length nc, .slice ip xs.length ic] 27) = W1 := ⟨_, rfl⟩
    have HI1 : Hid (Lib.IsBuilderF 47 5 B b (Lib.byteCells X) W1) := by subst hW1; exact HI.out.alloc _
    have HB1 : Hid (Below B w W1) := by subst hW1; exact (Below.refl B w).alloc hBw _
    have HK1 : Hid (Lib.OthersKept 5 (some b) w W1) := by subst hW1; exact (Lib.OthersKept.refl _ _ w).alloc _
    have HX1 : Hid (W1.heap[w.heap.size]? = some (.cells #[.int .u8 k, .string t, .slice np ns.length nc, .slice ip xs.length ic] 27)) := by subst hW1; exact alloc_new _ _
    have hs1 : w.heap.size ≤ W1.heap.size := HB1.out.size
    have c0 : W1.cell? ⟨w.heap.size, 0, none⟩ = some (.int .u8 k) := by rw [Lib.cell_of_heap HX1.out]; rfl
    have c1 : W1.cell? ⟨w.heap.size, 1, none⟩ = some (.string t) := by rw [Lib.cell_of_heap HX1.out]; rfl
    have c3 : W1.cell? ⟨w.heap.size, 3, none⟩ = some (.slice ip xs.length ic) := by rw [Lib.cell_of_heap HX1.out]; rfl
    have hx9 : xs.length ≤ 9223372036854775807 := by unfold maxLen at hl2; omega
    clear HI
    by_cases h1 : k = 1
    · rw [if_pos h1] at hT
      have b1 : ((k : Int) == 1) = true := Js.beq_t (by omega)
      clear h1
      have HT : Hid (X ++ [110, 117, 108, 108] = T) := hT
      clear hT hf hns hit
      go_enter Tryd.func58, Tryd.ntmps58
      go_wp2_with (go_at_call 31; refine (writeString_k B b _ ⟨#[110, 117, 108, 108]⟩ _ HI1.out (by rw [Lib.byteCells_length]; show X.length + 4 ≤ _; omega) (by omega)).mono ?_)
      first | rintro e w2 rfl hI2 hb2 hk2 | rintro e w2 ⟨rfl, hI2, hb2, hk2⟩
      go_wp2
      go_end0
      obtain rfl : _ = T := HT.out
      exact ⟨rfl, by rw [← Js.cells_add]; exact .inr hI2, HB1.out.trans hb2, HK1.out.trans hk2⟩
    rw [if_neg h1] at hT
    by_cases h2 : k = 2
    · rw [if_pos h2] at hT
      have b2 : ((k : Int) == 2) = true := Js.beq_t (by omega)
      have b1 : ((k : Int) == 1) = false := Js.beq_f (by omega)
      clear h1 h2
      have HT : Hid (X ++ [102, 97, 108, 115, 101] = T) := hT
      clear hT hf hns hit
      go_enter Tryd.func58, Tryd.ntmps58
      go_wp2_with (go_at_call 31; refine (writeString_k B b _ ⟨#[102, 97, 108, 115, 101]⟩ _ HI1.out (by rw [Lib.byteCells_length]; show X.length + 5 ≤ _; omega) (by omega)).mono ?_)
      first | rintro e w2 rfl hI2 hb2 hk2 | rintro e w2 ⟨rfl, hI2, hb2, hk2⟩
      go_wp2
      go_end0
      obtain rfl : _ = T := HT.out
      exact ⟨rfl, by rw [← Js.cells_add]; exact .inr hI2, HB1.out.trans hb2, HK1.out.trans hk2⟩
    rw [if_neg h2] at hT
    by_cases h3 : k = 3
    · rw [if_pos h3] at hT
      have b3 : ((k : Int) == 3) = true := Js.beq_t (by omega)
      have b1 : ((k : Int) == 1) = false := Js.beq_f (by omega)
      have b2 : ((k : Int) == 2) = false := Js.beq_f (by omega)
      clear h1 h2 h3
      have HT : Hid (X ++ [116, 114, 117, 101] = T) := hT
      clear hT hf hns hit
      go_enter Tryd.func58, Tryd.ntmps58
      go_wp2_with (go_at_call 31; refine (writeString_k B b _ ⟨#[116, 114, 117, 101]⟩ _ HI1.out (by rw [Lib.byteCells_length]; show X.length + 4 ≤ _; omega) (by omega)).mono ?_)
      first | rintro e w2 rfl hI2 hb2 hk2 | rintro e w2 ⟨rfl, hI2, hb2, hk2⟩
      go_wp2
      go_end0
      obtain rfl : _ = T := HT.out
      exact ⟨rfl, by rw [← Js.cells_add]; exact .inr hI2, HB1.out.trans hb2, HK1.out.trans hk2⟩
    rw [if_neg h3] at hT
    rw [if_neg (by omega)] at hf
    have b1 : ((k : Int) == 1) = false := Js.beq_f (by omega)
    have b2 : ((k : Int) == 2) = false := Js.beq_f (by omega)
    have b3 : ((k : Int) == 3) = false := Js.beq_f (by omega)
    clear h1 h2 h3
    by_cases h4 : k = 4
    · rw [if_pos h4] at hT
      have b4 : ((k : Int) == 4) = true := Js.beq_t (by omega)
      clear h4
      have HT : Hid (X ++ t.data.toList = T) := hT
      have hl : X.length + t.size + 16 ≤ 140737488355328 := by
        have h9 : _ = T := HT.out
        have h7 := congrArg List.length h9
        rw [List.length_append] at h7
        have h8 : t.data.toList.length = t.size := by simp
        omega
      clear hT hf hns hit
      go_enter Tryd.func58, Tryd.ntmps58
      go_wp2_with (go_at_call 31; refine (writeString_k B b _ t _ HI1.out (by rw [Lib.byteCells_length]; omega) (by omega)).mono ?_)
      first | rintro e w2 rfl hI2 hb2 hk2 | rintro e w2 ⟨rfl, hI2, hb2, hk2⟩
      go_wp2
      go_end0
      obtain rfl : _ = T := HT.out
      exact ⟨rfl, by rw [← Js.cells_add]; exact .inr hI2, HB1.out.trans hb2, HK1.out.trans hk2⟩
    rw [if_neg h4] at hT hf
    have b4 : ((k : Int) == 4) = false := Js.beq_f (by omega)
    clear h4
    by_cases h5 : k = 5
    · rw [if_pos h5] at hT hf
      have b5 : ((k : Int) == 5) = true := Js.beq_t (by omega)
      clear h5
      have HT : Hid (X ++ Js.quo t.data.toList = T) := hT
      have hl : X.length + (Js.quo t.data.toList).length + 16 ≤ 140737488355328 := by
        have h9 : _ = T := HT.out
        have h7 := congrArg List.length h9
        rw [List.length_append] at h7
        omega
      have h8 : Js.bad8 t = none := by
        rw [Bool.and_eq_true, Bool.and_eq_true] at hf
        exact Option.isNone_iff_eq_none.1 hf.1.1
      have HQ := Lib.hid (Js.quote_is B b t X W1 HI1.out hl h8 (by omega))
      clear hT hf hns hit h8
      go_enter Tryd.func58, Tryd.ntmps58
      go_wp2_with (go_at_call 64; refine HQ.out.mono ?_)
      first | rintro e w2 rfl hI2 hb2 hk2 | rintro e w2 ⟨rfl, hI2, hb2, hk2⟩
      go_wp2
      go_end0
      obtain rfl : _ = T := HT.out
      exact ⟨rfl, hI2, HB1.out.trans hb2, HK1.out.trans hk2⟩
    rw [if_neg h5] at hT hf
    have b5 : ((k : Int) == 5) = false := Js.beq_f (by omega)
    clear h5
    by_cases h7 : k = 7
    · rw [if_pos h7] at hT
      rw [if_neg (by omega), if_pos h7] at hf
      have b7 : ((k : Int) == 7) = true := Js.beq_t (by omega)
      clear h7
      obtain ⟨n, hn⟩ : ∃ n, xs.length = n := ⟨_, rfl⟩
      obtain ⟨m, hm⟩ : ∃ m, ns.length = m := ⟨_, rfl⟩
      rw [Bool.and_eq_true, Bool.and_eq_true, Bool.and_eq_true] at hf
      have HF := Lib.hid hf.2
      have HG := Lib.hid hf.1.2
      have hmn : n = m := by have h9 := hf.1.1.2; rw [beq_iff_eq] at h9; omega
      have HT : Hid (X ++ [123] ++ (Js.wrL true ns 0 (xs.drop 0) ++ [125]) = T) := by show _ = T; rw [← hT, List.drop_zero, List.append_assoc]; rfl
      rw [hn] at c3 hx9
      rw [hm] at hnl
      rw [hn, hm] at HX1 hW1
      rw [hn, hm]
      have HN := Lib.hid hn
      have HM := Lib.hid hm
      have HY := Lib.hid hit
      have HZ := Lib.hid hns
      clear hT hf hit hns hn hm
      obtain rfl := hmn
      clear hl1 hl2
      go_enter Tryd.func58, Tryd.ntmps58
      go_wp2_with (go_at_call 35; refine (writeByte_k B b _ 123 _ HI1.out (by rw [Lib.byteCells_length]; omega) (by omega)).mono ?_)
      first | rintro e w2 rfl hI2 hb2 hk2 | rintro e w2 ⟨rfl, hI2, hb2, hk2⟩
      have HI2 : Hid (Lib.IsBuilderF 47 5 B b (Lib.byteCells (X ++ [123])) w2) := by rw [← Js.cells_add]; exact .inr hI2
      have HX2 := Lib.hid (kept_cells hk2 HX1.out (by omega) (by decide))
      have HB2 := Lib.hid (HB1.out.trans hb2)
      have HK2 := Lib.hid (HK1.out.trans hk2)
      have hs2 := hb2.size
      have d3 : w2.cell? ⟨w.heap.size, 3, none⟩ = some (.slice ip n ic) := by rw [Lib.cell_of_heap HX2.out]; rfl
      clear hI2 hb2 hk2 HI1 HX1 HB1 HK1 c0 c1 c3 hW1
      go_wp2_with fail
      go_loopw [5, 19] (fun _ iv wr => ∃ (i : Nat) (Y : List UInt8), i ≤ n ∧ iv = .int .i64 i ∧ Hid (Y ++ (Js.wrL true ns i (xs.drop i) ++ [125]) = T) ∧ Hid (Lib.IsBuilderF 47 5 B b (Lib.byteCells Y) wr) ∧ Hid (wr.heap[w.heap.size]? = some (.cells #[.int .u8 k, .string t, .slice np n nc, .slice ip n ic] 27)) ∧ Hid (Below B w wr) ∧ Hid (Lib.OthersKept 5 (some b) w wr)) (fun _ iv _ => n - (intOf iv).toNat)
      case atStart => exact ⟨0, X ++ [123], Nat.zero_le _, rfl, HT.out, HI2.out, HX2.out, HB2.out, HK2.out⟩
      case round =>
        clear HT HI2 HX2 HB2 HK2 d3 hs2
        obtain ⟨i, Y, hi, rfl, HT, HI, HX, HB, HK⟩ := hrel
        have hlK := lt_of_heap HX.out
        have hs0 := HB.out.size
        have k0 : wr.cell? ⟨w.heap.size, 0, none⟩ = some (.int .u8 k) := by rw [Lib.cell_of_heap HX.out]; rfl
        have k2 : wr.cell? ⟨w.heap.size, 2, none⟩ = some (.slice np n nc) := by rw [Lib.cell_of_heap HX.out]; rfl
        have hYl : Y.length + 16 ≤ 140737488355328 := by
          have h9 : _ = T := HT.out
          have h7 := congrArg List.length h9
          rw [List.length_append] at h7
          omega
        by_cases h : i < n
        · have h1 : (i : Int) < n := by omega
          have h0 : (0 : Int) ≤ i := by omega
          have hnl2 : xs.length = n := HN.out
          have hix : i < xs.length := by omega
          rcases HY.out with rfl | ⟨bx, ox, rfl, hS, hL⟩
          · simp at hix
          obtain ⟨nv2, iv2, d0, d1, d2, d3, hV⟩ := Js.LAt.get xs bx ox i hix hL
          obtain ⟨np2, nc2, ip2, ic2, rfl, rfl, -, -⟩ := hV.shape
          have hpart := Js.cntL_part xs i hix
          have hfit := Js.fitL_get xs i hix HF.out
          have hwd := Js.wrL_drop true ns xs i hix
          obtain ⟨y, hy⟩ : ∃ y, xs[i] = y := ⟨_, rfl⟩
          rw [hy] at d0 d1 d2 d3 hV hpart hfit hwd
          have e0 := cell_under HB.out d0 hS
          have e1 := cell_under HB.out d1 hS
          have e2 := cell_under HB.out d2 hS
          have e3 := cell_under HB.out d3 hS
          have HV := Lib.hid hV
          have HW := Lib.hid (ih y (by omega) hfit B b)
          have HT1 : Hid (Y ++ ((if i = 0 then [] else [44]) ++ (Js.quo (ns.getD i ⟨#[]⟩).data.toList ++ [58] ++ (Js.wr y ++ Js.wrL true ns (i + 1) (xs.drop (i + 1)))) ++ [125]) = T) := by
            have h9 : _ = T := HT.out
            rw [hwd] at h9
            exact h9
          have hml : ns.length = n := HM.out
          have hnx9 : i < ns.length := by omega
          rcases HZ.out with rfl | ⟨bn, on, rfl, hS2, hN2⟩
          · simp at hnx9
          have n0 := hN2 i hnx9
          have hgd : ns.getD i ⟨#[]⟩ = ns[i] := by rw [List.getD_eq_getElem?_getD, List.getElem?_eq_getElem hnx9]; rfl
          have hok := Js.okNs_get ns [] i hnx9 HG.out
          rw [hgd] at HT1
          obtain ⟨nm, hnm⟩ : ∃ nm, ns[i] = nm := ⟨_, rfl⟩
          rw [hnm] at n0 hok HT1
          have g0 := cell_under HB.out n0 hS2
          have HO := Lib.hid hok
          clear hnm hgd hok n0 hN2 hml hnx9
          have hib : i + 1 ≤ n := by omega
          clear hV hpart hfit hwd hy d0 d1 d2 d3 hL hnl2 HT hix
          by_cases hi0 : 0 < i
          · have b0 : decide (0 < i) = true := decide_eq_true (by omega)
            have HT2 : Hid (Y ++ ([44] ++ (Js.quo nm.data.toList ++ [58] ++ (Js.wr y ++ Js.wrL true ns (i + 1) (xs.drop (i + 1)))) ++ [125]) = T) := by
              have h9 : _ = T := HT1.out
              rw [if_neg (by omega)] at h9
              exact h9
            clear HT1
            have HIa := Lib.hid (HI.out.alloc (.cells #[.int .u8 y.kind, .string y.text, .slice np2 y.names.length nc2, .slice ip2 y.items.length ic2] 27))
            have HBa := Lib.hid (HB.out.alloc (by omega) (.cells #[.int .u8 y.kind, .string y.text, .slice np2 y.names.length nc2, .slice ip2 y.items.length ic2] 27))
            have HKa := Lib.hid (HK.out.alloc (.cells #[.int .u8 y.kind, .string y.text, .slice np2 y.names.length nc2, .slice ip2 y.items.length ic2] 27))
            have HXa := Lib.hid (alloc_kept (o' := (.cells #[.int .u8 y.kind, .string y.text, .slice np2 y.names.length nc2, .slice ip2 y.items.length ic2] 27)) HX.out)
            have HSa := Lib.hid (alloc_new wr (.cells #[.int .u8 y.kind, .string y.text, .slice np2 y.names.length nc2, .slice ip2 y.items.length ic2] 27))
            have hza := HBa.out.size
            have hT9 : T.length + 16 ≤ 140737488355328 := hTl
            have g0a := cell_under ((Below.refl B wr).alloc (by omega) (.cells #[.int .u8 y.kind, .string y.text, .slice np2 y.names.length nc2, .slice ip2 y.items.length ic2] 27)) g0 hS2
            go_wp2_with (go_at_call 35; refine (writeByte_k B b _ 44 _ HIa.out (by rw [Lib.byteCells_length]; omega) (by omega)).mono ?_)
            first | rintro e w3 rfl hI3 hb3 hk3 | rintro e w3 ⟨rfl, hI3, hb3, hk3⟩
            have HI3 : Hid (Lib.IsBuilderF 47 5 B b (Lib.byteCells (Y ++ [44])) w3) := by rw [← Js.cells_add]; exact .inr hI3
            have HB3 := Lib.hid (HBa.out.trans hb3)
            have HK3 := Lib.hid (HKa.out.trans hk3)
            have HX3 := Lib.hid (kept_cells hk3 HXa.out (by omega) (by decide))
            have HS3 := Lib.hid (kept_cells hk3 HSa.out (by omega) (by decide))
            have hz3 := HB3.out.size
            have k03 : w3.cell? ⟨w.heap.size, 0, none⟩ = some (.int .u8 k) := by rw [Lib.cell_of_heap HX3.out]; rfl
            have k23 : w3.cell? ⟨w.heap.size, 2, none⟩ = some (.slice (some ⟨bn, on, none⟩) n nc) := by rw [Lib.cell_of_heap HX3.out]; rfl
            have f03 : w3.cell? ⟨wr.heap.size, 0, none⟩ = some (.int .u8 y.kind) := by rw [Lib.cell_of_heap HS3.out]; rfl
            have f13 : w3.cell? ⟨wr.heap.size, 1, none⟩ = some (.string y.text) := by rw [Lib.cell_of_heap HS3.out]; rfl
            have f23 : w3.cell? ⟨wr.heap.size, 2, none⟩ = some (.slice np2 y.names.length nc2) := by rw [Lib.cell_of_heap HS3.out]; rfl
            have f33 : w3.cell? ⟨wr.heap.size, 3, none⟩ = some (.slice ip2 y.items.length ic2) := by rw [Lib.cell_of_heap HS3.out]; rfl
            have g03 := cell_under hb3 g0a hS2
            clear hb3 hk3 hI3
            have hq1 : (Y ++ [44] ++ Js.quo nm.data.toList).length + 16 ≤ 140737488355328 := by
              have h9 : _ = T := HT2.out
              have h7 := congrArg List.length h9
              simp only [List.length_append] at h7 ⊢
              omega
            have hq2 : (Y ++ [44]).length + (Js.quo nm.data.toList).length + 16 ≤ 140737488355328 := by rw [← List.length_append]; exact hq1
            go_wp2_with (go_at_call 64; refine (Js.quote_is B b nm (Y ++ [44]) _ HI3.out hq2 HO.out (by omega)).mono ?_)
            first | rintro e w4 rfl hI4 hb4 hk4 | rintro e w4 ⟨rfl, hI4, hb4, hk4⟩
            have HI4 : Hid (Lib.IsBuilderF 47 5 B b (Lib.byteCells (Y ++ [44] ++ Js.quo nm.data.toList)) w4) := hI4
            have HB4 := Lib.hid (HB3.out.trans hb4)
            have HK4 := Lib.hid (HK3.out.trans hk4)
            have HX4 := Lib.hid (kept_cells hk4 HX3.out (by omega) (by decide))
            have HS4 := Lib.hid (kept_cells hk4 HS3.out (by omega) (by decide))
            have hz4 := HB4.out.size
            have k04 : w4.cell? ⟨w.heap.size, 0, none⟩ = some (.int .u8 k) := by rw [Lib.cell_of_heap HX4.out]; rfl
            have k24 : w4.cell? ⟨w.heap.size, 2, none⟩ = some (.slice (some ⟨bn, on, none⟩) n nc) := by rw [Lib.cell_of_heap HX4.out]; rfl
            have f04 : w4.cell? ⟨wr.heap.size, 0, none⟩ = some (.int .u8 y.kind) := by rw [Lib.cell_of_heap HS4.out]; rfl
            have f14 : w4.cell? ⟨wr.heap.size, 1, none⟩ = some (.string y.text) := by rw [Lib.cell_of_heap HS4.out]; rfl
            have f24 : w4.cell? ⟨wr.heap.size, 2, none⟩ = some (.slice np2 y.names.length nc2) := by rw [Lib.cell_of_heap HS4.out]; rfl
            have f34 : w4.cell? ⟨wr.heap.size, 3, none⟩ = some (.slice ip2 y.items.length ic2) := by rw [Lib.cell_of_heap HS4.out]; rfl
            have g04 := cell_under hb4 g03 hS2
            clear hb4 hk4 hI4
            go_wp2_with (go_at_call 35; refine (writeByte_k B b _ 58 _ HI4.out (by rw [Lib.byteCells_length]; omega) (by omega)).mono ?_)
            first | rintro e w5 rfl hI5 hb5 hk5 | rintro e w5 ⟨rfl, hI5, hb5, hk5⟩
            have HI5 : Hid (Lib.IsBuilderF 47 5 B b (Lib.byteCells (Y ++ [44] ++ Js.quo nm.data.toList ++ [58])) w5) := by rw [← Js.cells_add]; exact .inr hI5
            have HB5 := Lib.hid (HB4.out.trans hb5)
            have HK5 := Lib.hid (HK4.out.trans hk5)
            have HX5 := Lib.hid (kept_cells hk5 HX4.out (by omega) (by decide))
            have HS5 := Lib.hid (kept_cells hk5 HS4.out (by omega) (by decide))
            have hz5 := HB5.out.size
            have k05 : w5.cell? ⟨w.heap.size, 0, none⟩ = some (.int .u8 k) := by rw [Lib.cell_of_heap HX5.out]; rfl
            have k25 : w5.cell? ⟨w.heap.size, 2, none⟩ = some (.slice (some ⟨bn, on, none⟩) n nc) := by rw [Lib.cell_of_heap HX5.out]; rfl
            have f05 : w5.cell? ⟨wr.heap.size, 0, none⟩ = some (.int .u8 y.kind) := by rw [Lib.cell_of_heap HS5.out]; rfl
            have f15 : w5.cell? ⟨wr.heap.size, 1, none⟩ = some (.string y.text) := by rw [Lib.cell_of_heap HS5.out]; rfl
            have f25 : w5.cell? ⟨wr.heap.size, 2, none⟩ = some (.slice np2 y.names.length nc2) := by rw [Lib.cell_of_heap HS5.out]; rfl
            have f35 : w5.cell? ⟨wr.heap.size, 3, none⟩ = some (.slice ip2 y.items.length ic2) := by rw [Lib.cell_of_heap HS5.out]; rfl
            have g05 := cell_under hb5 g04 hS2
            clear hb5 hk5 hI5
            have hq3 : (Y ++ [44] ++ Js.quo nm.data.toList ++ [58] ++ Js.wr y).length + 16 ≤ 140737488355328 := by
              have h9 : _ = T := HT2.out
              have h7 := congrArg List.length h9
              simp only [List.length_append] at h7 ⊢
              omega
            have hq4 : (Y ++ [44] ++ Js.quo nm.data.toList ++ [58]).length + (Js.wr y).length + 16 ≤ 140737488355328 := by rw [← List.length_append]; exact hq3
            go_wp2_with (go_at_call 58; refine (HW.out (Y ++ [44] ++ Js.quo nm.data.toList ++ [58]) _ _ _ HI5.out (HV.out.under HB5.out) hq4 (by omega)).mono ?_)
            first | rintro e w6 rfl hI6 hb6 hk6 | rintro e w6 ⟨rfl, hI6, hb6, hk6⟩
            go_wp2
            go_roundw
            case rel => exact ⟨i + 1, Y ++ [44] ++ Js.quo nm.data.toList ++ [58] ++ Js.wr y, hib, by go_num, by have h9 : _ = T := HT2.out; show _ = T; rw [← h9]; simp only [List.append_assoc], hI6, kept_cells hk6 HX5.out (by omega) (by decide), HB5.out.trans hb6, HK5.out.trans hk6⟩
            case measure => simp [intOf]; omega
          · have b0 : decide (0 < i) = false := decide_eq_false (by omega)
            have HT2 : Hid (Y ++ ([] ++ (Js.quo nm.data.toList ++ [58] ++ (Js.wr y ++ Js.wrL true ns (i + 1) (xs.drop (i + 1)))) ++ [125]) = T) := by
              have h9 : _ = T := HT1.out
              rw [if_pos (by omega)] at h9
              exact h9
            clear HT1
            have HIa := Lib.hid (HI.out.alloc (.cells #[.int .u8 y.kind, .string y.text, .slice np2 y.names.length nc2, .slice ip2 y.items.length ic2] 27))
            have HBa := Lib.hid (HB.out.alloc (by omega) (.cells #[.int .u8 y.kind, .string y.text, .slice np2 y.names.length nc2, .slice ip2 y.items.length ic2] 27))
            have HKa := Lib.hid (HK.out.alloc (.cells #[.int .u8 y.kind, .string y.text, .slice np2 y.names.length nc2, .slice ip2 y.items.length ic2] 27))
            have HXa := Lib.hid (alloc_kept (o' := (.cells #[.int .u8 y.kind, .string y.text, .slice np2 y.names.length nc2, .slice ip2 y.items.length ic2] 27)) HX.out)
            have HSa := Lib.hid (alloc_new wr (.cells #[.int .u8 y.kind, .string y.text, .slice np2 y.names.length nc2, .slice ip2 y.items.length ic2] 27))
            have hza := HBa.out.size
            have hT9 : T.length + 16 ≤ 140737488355328 := hTl
            have g0a := cell_under ((Below.refl B wr).alloc (by omega) (.cells #[.int .u8 y.kind, .string y.text, .slice np2 y.names.length nc2, .slice ip2 y.items.length ic2] 27)) g0 hS2
            have hq1 : (Y ++ Js.quo nm.data.toList).length + 16 ≤ 140737488355328 := by
              have h9 : _ = T := HT2.out
              have h7 := congrArg List.length h9
              simp only [List.length_append] at h7 ⊢
              omega
            have hq2 : (Y).length + (Js.quo nm.data.toList).length + 16 ≤ 140737488355328 := by rw [← List.length_append]; exact hq1
            go_wp2_with (go_at_call 64; refine (Js.quote_is B b nm (Y) _ HIa.out hq2 HO.out (by omega)).mono ?_)
            first | rintro e w4 rfl hI4 hb4 hk4 | rintro e w4 ⟨rfl, hI4, hb4, hk4⟩
            have HI4 : Hid (Lib.IsBuilderF 47 5 B b (Lib.byteCells (Y ++ Js.quo nm.data.toList)) w4) := hI4
            have HB4 := Lib.hid (HBa.out.trans hb4)
            have HK4 := Lib.hid (HKa.out.trans hk4)
            have HX4 := Lib.hid (kept_cells hk4 HXa.out (by omega) (by decide))
            have HS4 := Lib.hid (kept_cells hk4 HSa.out (by omega) (by decide))
            have hz4 := HB4.out.size
            have k04 : w4.cell? ⟨w.heap.size, 0, none⟩ = some (.int .u8 k) := by rw [Lib.cell_of_heap HX4.out]; rfl
            have k24 : w4.cell? ⟨w.heap.size, 2, none⟩ = some (.slice (some ⟨bn, on, none⟩) n nc) := by rw [Lib.cell_of_heap HX4.out]; rfl
            have f04 : w4.cell? ⟨wr.heap.size, 0, none⟩ = some (.int .u8 y.kind) := by rw [Lib.cell_of_heap HS4.out]; rfl
            have f14 : w4.cell? ⟨wr.heap.size, 1, none⟩ = some (.string y.text) := by rw [Lib.cell_of_heap HS4.out]; rfl
            have f24 : w4.cell? ⟨wr.heap.size, 2, none⟩ = some (.slice np2 y.names.length nc2) := by rw [Lib.cell_of_heap HS4.out]; rfl
            have f34 : w4.cell? ⟨wr.heap.size, 3, none⟩ = some (.slice ip2 y.items.length ic2) := by rw [Lib.cell_of_heap HS4.out]; rfl
            have g04 := cell_under hb4 g0a hS2
            clear hb4 hk4 hI4
            go_wp2_with (go_at_call 35; refine (writeByte_k B b _ 58 _ HI4.out (by rw [Lib.byteCells_length]; omega) (by omega)).mono ?_)
            first | rintro e w5 rfl hI5 hb5 hk5 | rintro e w5 ⟨rfl, hI5, hb5, hk5⟩
            have HI5 : Hid (Lib.IsBuilderF 47 5 B b (Lib.byteCells (Y ++ Js.quo nm.data.toList ++ [58])) w5) := by rw [← Js.cells_add]; exact .inr hI5
            have HB5 := Lib.hid (HB4.out.trans hb5)
            have HK5 := Lib.hid (HK4.out.trans hk5)
            have HX5 := Lib.hid (kept_cells hk5 HX4.out (by omega) (by decide))
            have HS5 := Lib.hid (kept_cells hk5 HS4.out (by omega) (by decide))
            have hz5 := HB5.out.size
            have k05 : w5.cell? ⟨w.heap.size, 0, none⟩ = some (.int .u8 k) := by rw [Lib.cell_of_heap HX5.out]; rfl
            have k25 : w5.cell? ⟨w.heap.size, 2, none⟩ = some (.slice (some ⟨bn, on, none⟩) n nc) := by rw [Lib.cell_of_heap HX5.out]; rfl
            have f05 : w5.cell? ⟨wr.heap.size, 0, none⟩ = some (.int .u8 y.kind) := by rw [Lib.cell_of_heap HS5.out]; rfl
            have f15 : w5.cell? ⟨wr.heap.size, 1, none⟩ = some (.string y.text) := by rw [Lib.cell_of_heap HS5.out]; rfl
            have f25 : w5.cell? ⟨wr.heap.size, 2, none⟩ = some (.slice np2 y.names.length nc2) := by rw [Lib.cell_of_heap HS5.out]; rfl
            have f35 : w5.cell? ⟨wr.heap.size, 3, none⟩ = some (.slice ip2 y.items.length ic2) := by rw [Lib.cell_of_heap HS5.out]; rfl
            have g05 := cell_under hb5 g04 hS2
            clear hb5 hk5 hI5
            have hq3 : (Y ++ Js.quo nm.data.toList ++ [58] ++ Js.wr y).length + 16 ≤ 140737488355328 := by
              have h9 : _ = T := HT2.out
              have h7 := congrArg List.length h9
              simp only [List.length_append] at h7 ⊢
              omega
            have hq4 : (Y ++ Js.quo nm.data.toList ++ [58]).length + (Js.wr y).length + 16 ≤ 140737488355328 := by rw [← List.length_append]; exact hq3
            go_wp2_with (go_at_call 58; refine (HW.out (Y ++ Js.quo nm.data.toList ++ [58]) _ _ _ HI5.out (HV.out.under HB5.out) hq4 (by omega)).mono ?_)
            first | rintro e w6 rfl hI6 hb6 hk6 | rintro e w6 ⟨rfl, hI6, hb6, hk6⟩
            go_wp2
            go_roundw
            case rel => exact ⟨i + 1, Y ++ Js.quo nm.data.toList ++ [58] ++ Js.wr y, hib, by go_num, by have h9 : _ = T := HT2.out; show _ = T; rw [← h9]; simp only [List.append_assoc, List.nil_append], hI6, kept_cells hk6 HX5.out (by omega) (by decide), HB5.out.trans hb6, HK5.out.trans hk6⟩
            case measure => simp [intOf]; omega
        · obtain rfl : i = n := by omega
          have h1 : ¬ (i : Int) < i := by omega
          have HE : Hid (Y ++ [125] = T) := by
            have h9 : _ = T := HT.out
            have hnl2 : xs.length = i := HN.out
            rw [List.drop_eq_nil_of_le (by omega), Js.wrL] at h9
            exact h9
          go_wp2_with (go_at_call 35; refine (writeByte_k B b _ 125 _ HI.out (by rw [Lib.byteCells_length]; omega) (by omega)).mono ?_)
          first | rintro e w3 rfl hI3 hb3 hk3 | rintro e w3 ⟨rfl, hI3, hb3, hk3⟩
          go_wp2
          go_end0
          obtain rfl : _ = T := HE.out
          exact ⟨rfl, by rw [← Js.cells_add]; exact .inr hI3, HB.out.trans hb3, HK.out.trans hk3⟩
    have h6 : k = 6 := Classical.byContradiction fun h => by rw [if_neg h, if_neg h7] at hf; cases hf
    rw [if_neg h7] at hT
    rw [if_pos h6] at hf
    clear h7
    have b7 : ((k : Int) == 7) = false := Js.beq_f (by omega)
    clear h6
    obtain ⟨n, hn⟩ : ∃ n, xs.length = n := ⟨_, rfl⟩
    obtain ⟨m, hm⟩ : ∃ m, ns.length = m := ⟨_, rfl⟩
    rw [Bool.and_eq_true, Bool.and_eq_true] at hf
    have HF := Lib.hid hf.2
    
    
    have HT : Hid (X ++ [91] ++ (Js.wrL false ns 0 (xs.drop 0) ++ [93]) = T) := by show _ = T; rw [← hT, List.drop_zero, List.append_assoc]; rfl
    rw [hn] at c3 hx9
    
    rw [hn, hm] at HX1 hW1
    rw [hn, hm]
    have HN := Lib.hid hn
    have HM := Lib.hid hm
    have HY := Lib.hid hit
    have HZ := Lib.hid hns
    clear hT hf hit hns hn hm
    
    clear hnl hl1 hl2
    go_enter Tryd.func58, Tryd.ntmps58
    go_wp2_with (go_at_call 35; refine (writeByte_k B b _ 91 _ HI1.out (by rw [Lib.byteCells_length]; omega) (by omega)).mono ?_)
    first | rintro e w2 rfl hI2 hb2 hk2 | rintro e w2 ⟨rfl, hI2, hb2, hk2⟩
    have HI2 : Hid (Lib.IsBuilderF 47 5 B b (Lib.byteCells (X ++ [91])) w2) := by rw [← Js.cells_add]; exact .inr hI2
    have HX2 := Lib.hid (kept_cells hk2 HX1.out (by omega) (by decide))
    have HB2 := Lib.hid (HB1.out.trans hb2)
    have HK2 := Lib.hid (HK1.out.trans hk2)
    have hs2 := hb2.size
    have d3 : w2.cell? ⟨w.heap.size, 3, none⟩ = some (.slice ip n ic) := by rw [Lib.cell_of_heap HX2.out]; rfl
    clear hI2 hb2 hk2 HI1 HX1 HB1 HK1 c0 c1 c3 hW1
    go_wp2_with fail
    go_loopw [5, 19] (fun _ iv wr => ∃ (i : Nat) (Y : List UInt8), i ≤ n ∧ iv = .int .i64 i ∧ Hid (Y ++ (Js.wrL false ns i (xs.drop i) ++ [93]) = T) ∧ Hid (Lib.IsBuilderF 47 5 B b (Lib.byteCells Y) wr) ∧ Hid (wr.heap[w.heap.size]? = some (.cells #[.int .u8 k, .string t, .slice np m nc, .slice ip n ic] 27)) ∧ Hid (Below B w wr) ∧ Hid (Lib.OthersKept 5 (some b) w wr)) (fun _ iv _ => n - (intOf iv).toNat)
    case atStart => exact ⟨0, X ++ [91], Nat.zero_le _, rfl, HT.out, HI2.out, HX2.out, HB2.out, HK2.out⟩
    case round =>
      clear HT HI2 HX2 HB2 HK2 d3 hs2
      obtain ⟨i, Y, hi, rfl, HT, HI, HX, HB, HK⟩ := hrel
      have hlK := lt_of_heap HX.out
      have hs0 := HB.out.size
      have k0 : wr.cell? ⟨w.heap.size, 0, none⟩ = some (.int .u8 k) := by rw [Lib.cell_of_heap HX.out]; rfl
      
      have hYl : Y.length + 16 ≤ 140737488355328 := by
        have h9 : _ = T := HT.out
        have h7 := congrArg List.length h9
        rw [List.length_append] at h7
        omega
      by_cases h : i < n
      · have h1 : (i : Int) < n := by omega
        have h0 : (0 : Int) ≤ i := by omega
        have hnl2 : xs.length = n := HN.out
        have hix : i < xs.length := by omega
        rcases HY.out with rfl | ⟨bx, ox, rfl, hS, hL⟩
        · simp at hix
        obtain ⟨nv2, iv2, d0, d1, d2, d3, hV⟩ := Js.LAt.get xs bx ox i hix hL
        obtain ⟨np2, nc2, ip2, ic2, rfl, rfl, -, -⟩ := hV.shape
        have hpart := Js.cntL_part xs i hix
        have hfit := Js.fitL_get xs i hix HF.out
        have hwd := Js.wrL_drop false ns xs i hix
        obtain ⟨y, hy⟩ : ∃ y, xs[i] = y := ⟨_, rfl⟩
        rw [hy] at d0 d1 d2 d3 hV hpart hfit hwd
        have e0 := cell_under HB.out d0 hS
        have e1 := cell_under HB.out d1 hS
        have e2 := cell_under HB.out d2 hS
        have e3 := cell_under HB.out d3 hS
        have HV := Lib.hid hV
        have HW := Lib.hid (ih y (by omega) hfit B b)
        have HT1 : Hid (Y ++ ((if i = 0 then [] else [44]) ++ ([] ++ (Js.wr y ++ Js.wrL false ns (i + 1) (xs.drop (i + 1)))) ++ [93]) = T) := by
          have h9 : _ = T := HT.out
          rw [hwd] at h9
          exact h9
        have hib : i + 1 ≤ n := by omega
        clear hV hpart hfit hwd hy d0 d1 d2 d3 hL hnl2 HT hix
        by_cases hi0 : 0 < i
        · have b0 : decide (0 < i) = true := decide_eq_true (by omega)
          have HT2 : Hid (Y ++ ([44] ++ ([] ++ (Js.wr y ++ Js.wrL false ns (i + 1) (xs.drop (i + 1)))) ++ [93]) = T) := by
            have h9 : _ = T := HT1.out
            rw [if_neg (by omega)] at h9
            exact h9
          clear HT1
          have HIa := Lib.hid (HI.out.alloc (.cells #[.int .u8 y.kind, .string y.text, .slice np2 y.names.length nc2, .slice ip2 y.items.length ic2] 27))
          have HBa := Lib.hid (HB.out.alloc (by omega) (.cells #[.int .u8 y.kind, .string y.text, .slice np2 y.names.length nc2, .slice ip2 y.items.length ic2] 27))
          have HKa := Lib.hid (HK.out.alloc (.cells #[.int .u8 y.kind, .string y.text, .slice np2 y.names.length nc2, .slice ip2 y.items.length ic2] 27))
          have HXa := Lib.hid (alloc_kept (o' := (.cells #[.int .u8 y.kind, .string y.text, .slice np2 y.names.length nc2, .slice ip2 y.items.length ic2] 27)) HX.out)
          have HSa := Lib.hid (alloc_new wr (.cells #[.int .u8 y.kind, .string y.text, .slice np2 y.names.length nc2, .slice ip2 y.items.length ic2] 27))
          have hza := HBa.out.size
          have hT9 : T.length + 16 ≤ 140737488355328 := hTl
          go_wp2_with (go_at_call 35; refine (writeByte_k B b _ 44 _ HIa.out (by rw [Lib.byteCells_length]; omega) (by omega)).mono ?_)
          first | rintro e w3 rfl hI3 hb3 hk3 | rintro e w3 ⟨rfl, hI3, hb3, hk3⟩
          have HI3 : Hid (Lib.IsBuilderF 47 5 B b (Lib.byteCells (Y ++ [44])) w3) := by rw [← Js.cells_add]; exact .inr hI3
          have HB3 := Lib.hid (HBa.out.trans hb3)
          have HK3 := Lib.hid (HKa.out.trans hk3)
          have HX3 := Lib.hid (kept_cells hk3 HXa.out (by omega) (by decide))
          have HS3 := Lib.hid (kept_cells hk3 HSa.out (by omega) (by decide))
          have hz3 := HB3.out.size
          have k03 : w3.cell? ⟨w.heap.size, 0, none⟩ = some (.int .u8 k) := by rw [Lib.cell_of_heap HX3.out]; rfl
          have f03 : w3.cell? ⟨wr.heap.size, 0, none⟩ = some (.int .u8 y.kind) := by rw [Lib.cell_of_heap HS3.out]; rfl
          have f13 : w3.cell? ⟨wr.heap.size, 1, none⟩ = some (.string y.text) := by rw [Lib.cell_of_heap HS3.out]; rfl
          have f23 : w3.cell? ⟨wr.heap.size, 2, none⟩ = some (.slice np2 y.names.length nc2) := by rw [Lib.cell_of_heap HS3.out]; rfl
          have f33 : w3.cell? ⟨wr.heap.size, 3, none⟩ = some (.slice ip2 y.items.length ic2) := by rw [Lib.cell_of_heap HS3.out]; rfl
          clear hb3 hk3 hI3
          have hq3 : (Y ++ [44] ++ Js.wr y).length + 16 ≤ 140737488355328 := by
            have h9 : _ = T := HT2.out
            have h7 := congrArg List.length h9
            simp only [List.length_append] at h7 ⊢
            omega
          have hq4 : (Y ++ [44]).length + (Js.wr y).length + 16 ≤ 140737488355328 := by rw [← List.length_append]; exact hq3
          go_wp2_with (go_at_call 58; refine (HW.out (Y ++ [44]) _ _ _ HI3.out (HV.out.under HB3.out) hq4 (by omega)).mono ?_)
          first | rintro e w6 rfl hI6 hb6 hk6 | rintro e w6 ⟨rfl, hI6, hb6, hk6⟩
          go_wp2
          go_roundw
          case rel => exact ⟨i + 1, Y ++ [44] ++ Js.wr y, hib, by go_num, by have h9 : _ = T := HT2.out; show _ = T; rw [← h9]; simp only [List.append_assoc, List.nil_append], hI6, kept_cells hk6 HX3.out (by omega) (by decide), HB3.out.trans hb6, HK3.out.trans hk6⟩
          case measure => simp [intOf]; omega
        · have b0 : decide (0 < i) = false := decide_eq_false (by omega)
          have HT2 : Hid (Y ++ ([] ++ ([] ++ (Js.wr y ++ Js.wrL false ns (i + 1) (xs.drop (i + 1)))) ++ [93]) = T) := by
            have h9 : _ = T := HT1.out
            rw [if_pos (by omega)] at h9
            exact h9
          clear HT1
          have HIa := Lib.hid (HI.out.alloc (.cells #[.int .u8 y.kind, .string y.text, .slice np2 y.names.length nc2, .slice ip2 y.items.length ic2] 27))
          have HBa := Lib.hid (HB.out.alloc (by omega) (.cells #[.int .u8 y.kind, .string y.text, .slice np2 y.names.length nc2, .slice ip2 y.items.length ic2] 27))
          have HKa := Lib.hid (HK.out.alloc (.cells #[.int .u8 y.kind, .string y.text, .slice np2 y.names.length nc2, .slice ip2 y.items.length ic2] 27))
          have HXa := Lib.hid (alloc_kept (o' := (.cells #[.int .u8 y.kind, .string y.text, .slice np2 y.names.length nc2, .slice ip2 y.items.length ic2] 27)) HX.out)
          have HSa := Lib.hid (alloc_new wr (.cells #[.int .u8 y.kind, .string y.text, .slice np2 y.names.length nc2, .slice ip2 y.items.length ic2] 27))
          have hza := HBa.out.size
          have hT9 : T.length + 16 ≤ 140737488355328 := hTl
          have hq3 : (Y ++ Js.wr y).length + 16 ≤ 140737488355328 := by
            have h9 : _ = T := HT2.out
            have h7 := congrArg List.length h9
            simp only [List.length_append] at h7 ⊢
            omega
          have hq4 : (Y).length + (Js.wr y).length + 16 ≤ 140737488355328 := by rw [← List.length_append]; exact hq3
          go_wp2_with (go_at_call 58; refine (HW.out (Y) _ _ _ HIa.out (HV.out.under HBa.out) hq4 (by omega)).mono ?_)
          first | rintro e w6 rfl hI6 hb6 hk6 | rintro e w6 ⟨rfl, hI6, hb6, hk6⟩
          go_wp2
          go_roundw
          case rel => exact ⟨i + 1, Y ++ Js.wr y, hib, by go_num, by have h9 : _ = T := HT2.out; show _ = T; rw [← h9]; simp only [List.append_assoc, List.nil_append], hI6, kept_cells hk6 HXa.out (by omega) (by decide), HBa.out.trans hb6, HKa.out.trans hk6⟩
          case measure => simp [intOf]; omega
      · obtain rfl : i = n := by omega
        have h1 : ¬ (i : Int) < i := by omega
        have HE : Hid (Y ++ [93] = T) := by
          have h9 : _ = T := HT.out
          have hnl2 : xs.length = i := HN.out
          rw [List.drop_eq_nil_of_le (by omega), Js.wrL] at h9
          exact h9
        go_wp2_with (go_at_call 35; refine (writeByte_k B b _ 93 _ HI.out (by rw [Lib.byteCells_length]; omega) (by omega)).mono ?_)
        first | rintro e w3 rfl hI3 hb3 hk3 | rintro e w3 ⟨rfl, hI3, hb3, hk3⟩
        go_wp2
        go_end0
        obtain rfl : _ = T := HE.out
        exact ⟨rfl, by rw [← Js.cells_add]; exact .inr hI3, HB.out.trans hb3, HK.out.trans hk3⟩
end
end Go.Proofs.YtmmijebekipdeaaDoor
