/- Contracts of json: Write, Check, Quote. -/
import Derived.Test.YtmmijebekipdeaaDoorJsX
import Derived.Test.YtmmijebekipdeaaDoorRjC
import Derived.Deep.DeepCutAuto
namespace Go.Proofs.YtmmijebekipdeaaDoor
open Go.RowKit
set_option maxRecDepth 100000

theorem Js.quo_len (l : List UInt8) : (Js.quo l).length ≤ 6 * l.length + 2 := by
  have h : (l.flatMap Js.qc).length ≤ 6 * l.length := by
    induction l with
    | nil => simp
    | cons c r ih => rw [List.flatMap_cons, List.length_append, List.length_cons]; have := Js.qc_le c; omega
  unfold Js.quo
  rw [List.length_cons, List.length_append]
  simp only [List.length_cons, List.length_nil]
  omega
theorem Js.getD_size (ns : List ByteArray) (i : Nat) (h : Js.szNs ns) : (ns.getD i ⟨#[]⟩).data.toList.length ≤ 1000000 := by
  rw [List.getD_eq_getElem?_getD]
  by_cases hi : i < ns.length
  · rw [List.getElem?_eq_getElem hi]
    have := h.2 _ (List.getElem_mem hi)
    simpa using this
  · rw [List.getElem?_eq_none (by omega)]
    simp
mutual
theorem Js.wr_len : ∀ v : Js.V, Js.sz v → (Js.wr v).length + 7000000 ≤ Js.cnt v * 16000000
  | .mk k t ns xs, h => by
    rw [Js.sz] at h
    obtain ⟨h1, h2, h3⟩ := h
    have ht : t.data.toList.length ≤ 1000000 := by simpa using h1
    have hq := Js.quo_len t.data.toList
    rw [Js.wr, Js.cnt]
    split
    · simp; omega
    split
    · simp; omega
    split
    · simp; omega
    split
    · omega
    split
    · omega
    split
    · have := Js.wrL_len true ns h2 xs 0 h3
      simp only [List.length_cons, List.length_append, List.length_nil]
      omega
    · have := Js.wrL_len false ns h2 xs 0 h3
      simp only [List.length_cons, List.length_append, List.length_nil]
      omega
theorem Js.wrL_len (obj : Bool) (ns : List ByteArray) (hn : Js.szNs ns) : ∀ (xs : List Js.V) (i : Nat), Js.szL xs → (Js.wrL obj ns i xs).length ≤ Js.cntL xs * 16000000
  | [], _, _ => by simp [Js.wrL]
  | x :: r, i, h => by
    rw [Js.szL] at h
    have h1 := Js.wr_len x h.1
    have h2 := Js.wrL_len obj ns hn r (i + 1) h.2
    have hg := Js.getD_size ns i hn
    have hq := Js.quo_len (ns.getD i ⟨#[]⟩).data.toList
    have e1 : (if i = 0 then ([] : List UInt8) else [44]).length ≤ 1 := by split <;> simp
    have e2 : (if obj = true then Js.quo (ns.getD i ⟨#[]⟩).data.toList ++ [58] else []).length ≤ 6000003 := by
      split
      · rw [List.length_append]; simp only [List.length_cons, List.length_nil]; omega
      · simp
    rw [Js.wrL, Js.cntL, List.length_append, List.length_append, List.length_append]
    omega
end

/-- what is wrong with a value, by number -/
def Js.wErr (v : Js.V) : Nat := if Js.fit v = false then 146 else if 16 < Js.dep v then 140 else if 4096 < Js.cnt v then 5 else if 65536 < (Js.wr v).length then 3 else 0
/-- its text, if nothing is -/
def Js.wText (v : Js.V) : List UInt8 := if Js.wErr v = 0 then Js.wr v else []
theorem Js.VAt.low {S : Nat → Prop} {w w' : World} {v : Js.V} {nv iv : Value} (h : Js.VAt S w v nv iv) (b : Below w.heap.size w w') : Js.VAt (fun k => k < w'.heap.size) w' v nv iv :=
  Js.VAt.move ⟨fun k _ hk => b.block k hk, fun _ _ hk => Nat.lt_of_lt_of_le hk b.size⟩ _ _ _ h
theorem Js.VAt.under2 {B : Nat} {w w' : World} {v : Js.V} {nv iv : Value} (h : Js.VAt (fun k => k < B) w v nv iv) (o : Obj) (e : w' = w.alloc o) (hB : B ≤ w.heap.size) : Js.VAt (fun k => k < B) w' v nv iv := by
  subst e
  exact h.under ((Below.refl _ w).alloc hB o)

set_option maxHeartbeats 4000000 in
theorem Js.jwrite_is (v : Js.V) (S : Nat → Prop) (w : World) (nv iv : Value) (hT : Lib.Utf8Tabs 0 1 w) (hA : Js.VAt S w v nv iv) (hz : Js.sz v) (hN : Js.cnt v ≤ 4611686018427387904) :
    Calls Tryd.prog 20 #[.agg #[.int .u8 v.kind, .string v.text, nv, iv]] w fun e w' => e = .returned (.tuple #[.string ⟨(Js.wText v).toArray⟩, .int .i64 (Js.wErr v)]) ∧ Below w.heap.size w w' := by
  obtain ⟨np, nc, ip, ic, rfl, rfl, -, -⟩ := hA.shape
  have hwl := Js.wr_len v hz
  obtain ⟨E, hE⟩ : ∃ E, Js.wErr v = E := ⟨_, rfl⟩
  obtain ⟨X, hX⟩ : ∃ X, Js.wText v = X := ⟨_, rfl⟩
  have hX2 : X = if E = 0 then Js.wr v else [] := by rw [← hX, ← hE]; rfl
  rw [hE, hX]
  unfold Js.wErr at hE
  obtain ⟨fb, hfb⟩ : ∃ fb, Js.fit v = fb := ⟨_, rfl⟩
  have HF := Lib.hid (fun w' (hw : Below w.heap.size w w') => Js.fits_is (Js.cnt v) v (Nat.le_refl _) hN hz S w' _ _ (Utf8Tabs_below hT hw) (hA.later hw))
  have HD := Lib.hid (fun w' (hw : Below w.heap.size w w') => Js.depth_is (Js.cnt v) v (Nat.le_refl _) hN S w' _ _ (hA.later hw))
  have HC := Lib.hid (fun w' (hw : Below w.heap.size w w') => Js.count_is (Js.cnt v) v (Nat.le_refl _) hN S w' _ _ (hA.later hw))
  have HW := Lib.hid (fun w' (hw : Below w.heap.size w w') (hf : Js.fit v = true) (B b : Nat) (w2 : World) (hI : Lib.IsBuilderF 47 5 B b (Lib.byteCells []) w2) (h2 : Js.VAt (fun k => k < B) w2 v (.slice np v.names.length nc) (.slice ip v.items.length ic)) (hl : 0 + (Js.wr v).length + 16 ≤ 140737488355328) (hB : B ≤ w2.heap.size) => Js.write_is (Js.cnt v) v (Nat.le_refl _) hf B b [] w2 _ _ hI h2 hl hB)
  have HA := Lib.hid (fun w' (hw : Below w.heap.size w w') => hA.low hw)
  rw [hfb] at HF hE
  have HFB := Lib.hid hfb
  have hdl := Js.dep_le v
  obtain ⟨d, hd⟩ : ∃ d, Js.dep v = d := ⟨_, rfl⟩
  obtain ⟨n, hn⟩ : ∃ n, Js.cnt v = n := ⟨_, rfl⟩
  rw [hd] at HD hE hdl
  rw [hn] at HC hE hdl hN hwl
  have hd9 : d ≤ 4611686018427387904 := by omega
  have HE := Lib.hid hE
  have HX := Lib.hid hX2
  have HB : Hid (Below w.heap.size w (w.alloc (.cells #[.int .u8 v.kind, .string v.text, .slice np v.names.length nc, .slice ip v.items.length ic] 27))) := Rj.bel1 w _
  have HV : Hid ((w.alloc (.cells #[.int .u8 v.kind, .string v.text, .slice np v.names.length nc, .slice ip v.items.length ic] 27)).heap[w.heap.size]? = some (.cells #[.int .u8 v.kind, .string v.text, .slice np v.names.length nc, .slice ip v.items.length ic] 27)) := alloc_new _ _
  clear hE hX hX2 hfb hd hn hA hT hz
  go_enter Tryd.func20, Tryd.ntmps20
  go_wp2_with (go_at_call 57; refine (HF.out _ HB.out).mono ?_)
  first | rintro e w2 rfl b2 | rintro e w2 ⟨rfl, b2⟩
  have hz1 := HB.out.size
  have HB2 := Lib.hid (HB.out.trans (b2.mono hz1))
  have HV2 := Lib.hid ((b2.block _ (lt_of_heap HV.out)).trans HV.out)
  clear b2 HF HB HV hz1
  cases fb
  case false =>
    have HE2 : Hid (E = 146) := by have h9 : _ = E := HE.out; rw [if_pos rfl] at h9; exact h9.symm
    clear HE
    go_wp2_with fail
    go_ret2
    obtain rfl : E = 146 := HE2.out
    obtain rfl : X = [] := by have h9 : X = _ := HX.out; rw [if_neg (by decide)] at h9; exact h9
    exact ⟨rfl, HB2.out⟩
  have c0 : w2.cell? ⟨w.heap.size, 0, none⟩ = some (.int .u8 v.kind) := by rw [Lib.cell_of_heap HV2.out]; rfl
  have c1 : w2.cell? ⟨w.heap.size, 1, none⟩ = some (.string v.text) := by rw [Lib.cell_of_heap HV2.out]; rfl
  have c2 : w2.cell? ⟨w.heap.size, 2, none⟩ = some (.slice np v.names.length nc) := by rw [Lib.cell_of_heap HV2.out]; rfl
  have c3 : w2.cell? ⟨w.heap.size, 3, none⟩ = some (.slice ip v.items.length ic) := by rw [Lib.cell_of_heap HV2.out]; rfl
  have HE1 : Hid ((if 16 < d then 140 else if 4096 < n then 5 else if 65536 < (Js.wr v).length then 3 else 0) = E) := by have h9 : _ = E := HE.out; rw [if_neg (by decide)] at h9; exact h9
  clear HE
  go_wp2_with (go_at_call 22; refine (HD.out _ HB2.out).mono ?_)
  first | rintro e w3 rfl b3 | rintro e w3 ⟨rfl, b3⟩
  have hz2 := HB2.out.size
  have HB3 := Lib.hid (HB2.out.trans (b3.mono hz2))
  have HV3 := Lib.hid ((b3.block _ (lt_of_heap HV2.out)).trans HV2.out)
  clear b3 HD HB2 HV2 hz2 c0 c1 c2 c3
  by_cases hd16 : 16 < d
  · have g1 : (16 : Int) < d := by omega
    have HE2 : Hid (E = 140) := by have h9 : _ = E := HE1.out; rw [if_pos hd16] at h9; exact h9.symm
    clear HE1 hd16
    go_wp2_with fail
    go_ret2
    obtain rfl : E = 140 := HE2.out
    obtain rfl : X = [] := by have h9 : X = _ := HX.out; rw [if_neg (by decide)] at h9; exact h9
    exact ⟨rfl, HB3.out⟩
  have g1 : ¬ (16 : Int) < d := by omega
  have HE2 : Hid ((if 4096 < n then 5 else if 65536 < (Js.wr v).length then 3 else 0) = E) := by have h9 : _ = E := HE1.out; rw [if_neg hd16] at h9; exact h9
  clear HE1 hd16
  have c0 : w3.cell? ⟨w.heap.size, 0, none⟩ = some (.int .u8 v.kind) := by rw [Lib.cell_of_heap HV3.out]; rfl
  have c1 : w3.cell? ⟨w.heap.size, 1, none⟩ = some (.string v.text) := by rw [Lib.cell_of_heap HV3.out]; rfl
  have c2 : w3.cell? ⟨w.heap.size, 2, none⟩ = some (.slice np v.names.length nc) := by rw [Lib.cell_of_heap HV3.out]; rfl
  have c3 : w3.cell? ⟨w.heap.size, 3, none⟩ = some (.slice ip v.items.length ic) := by rw [Lib.cell_of_heap HV3.out]; rfl
  go_wp2_with (go_at_call 23; refine (HC.out _ HB3.out).mono ?_)
  first | rintro e w4 rfl b4 | rintro e w4 ⟨rfl, b4⟩
  have hz3 := HB3.out.size
  have HB4 := Lib.hid (HB3.out.trans (b4.mono hz3))
  have HV4 := Lib.hid ((b4.block _ (lt_of_heap HV3.out)).trans HV3.out)
  clear b4 HC HB3 HV3 hz3 c0 c1 c2 c3
  by_cases hn4 : 4096 < n
  · have g2 : (4096 : Int) < n := by omega
    have HE3 : Hid (E = 5) := by have h9 : _ = E := HE2.out; rw [if_pos hn4] at h9; exact h9.symm
    clear HE2 hn4
    go_wp2_with fail
    go_ret2
    obtain rfl : E = 5 := HE3.out
    obtain rfl : X = [] := by have h9 : X = _ := HX.out; rw [if_neg (by decide)] at h9; exact h9
    exact ⟨rfl, HB4.out⟩
  have g2 : ¬ (4096 : Int) < n := by omega
  have HE3 : Hid ((if 65536 < (Js.wr v).length then 3 else 0) = E) := by have h9 : _ = E := HE2.out; rw [if_neg hn4] at h9; exact h9
  have hwl2 : (Js.wr v).length + 16 ≤ 140737488355328 := by omega
  clear HE2 hn4 hwl
  obtain ⟨W5, hW5⟩ : ∃ W5, w4.alloc (.cells #[.pointer none, .slice none 0 0] 47) = W5 := ⟨_, rfl⟩
  have HI5 : Hid (Lib.IsBuilderF 47 5 w4.heap.size w4.heap.size (Lib.byteCells []) W5) := by subst hW5; exact fresh_at (Nat.le_refl _) (alloc_new _ _)
  have HA5 : Hid (Js.VAt (fun k => k < w4.heap.size) W5 v (.slice np v.names.length nc) (.slice ip v.items.length ic)) := Js.VAt.under2 (HA.out w4 HB4.out) _ hW5.symm (Nat.le_refl _)
  have hz4 := HB4.out.size
  have HB5 : Hid (Below w4.heap.size w4 W5) := by subst hW5; exact Rj.bel1 _ _
  have hz5 : w4.heap.size ≤ W5.heap.size := HB5.out.size
  have HV5 : Hid (W5.heap[w.heap.size]? = some (.cells #[.int .u8 v.kind, .string v.text, .slice np v.names.length nc, .slice ip v.items.length ic] 27)) := (HB5.out.block _ (lt_of_heap HV4.out)).trans HV4.out
  have HWW := Lib.hid (HW.out w4 HB4.out HFB.out w4.heap.size w4.heap.size W5 HI5.out HA5.out (by omega) hz5)
  have c0 : W5.cell? ⟨w.heap.size, 0, none⟩ = some (.int .u8 v.kind) := by rw [Lib.cell_of_heap HV5.out]; rfl
  have c1 : W5.cell? ⟨w.heap.size, 1, none⟩ = some (.string v.text) := by rw [Lib.cell_of_heap HV5.out]; rfl
  have c2 : W5.cell? ⟨w.heap.size, 2, none⟩ = some (.slice np v.names.length nc) := by rw [Lib.cell_of_heap HV5.out]; rfl
  have c3 : W5.cell? ⟨w.heap.size, 3, none⟩ = some (.slice ip v.items.length ic) := by rw [Lib.cell_of_heap HV5.out]; rfl
  have HW5 := Lib.hid hW5
  clear hW5 HA HW HA5 HI5 HV4
  obtain ⟨T, hT⟩ : ∃ T, Js.wr v = T := ⟨_, rfl⟩
  rw [hT] at HE3 HX HWW hwl2
  clear hT HFB
  go_upto_region 8 with fail
  rw [show w4.alloc (.cells #[.pointer none, .slice none 0 0] 47) = W5 from HW5.out]
  clear HW5
  go_wp2_with (go_at_call 58; refine HWW.out.mono ?_)
  first | rintro e w6 rfl hI6 b6 hk6 | rintro e w6 ⟨rfl, hI6, b6, hk6⟩
  have HI6 : Hid (Lib.IsBuilderF 47 5 w4.heap.size w4.heap.size (Lib.byteCells T) w6) := hI6
  have hz6 := b6.size
  have HB6 := Lib.hid (HB4.out.trans ((HB5.out.trans b6).mono hz4))
  clear hI6 b6 hk6 HWW
  have HL : Hid (Calls Tryd.prog 59 #[.pointer (some ⟨w4.heap.size, 0, none⟩)] w6 fun e w' => e = .returned (.int .i64 T.length) ∧ w' = w6) := by
    have h9 := Tryd.Builder_Len_f w4.heap.size w4.heap.size _ _ HI6.out
    rw [Lib.byteCells_length] at h9
    exact h9
  by_cases hT6 : 65536 < T.length
  · have g3 : (65536 : Int) < T.length := by omega
    have d3 : decide ((65536 : Int) < T.length) = true := decide_eq_true g3
    have HE4 : Hid (E = 3) := by have h9 : _ = E := HE3.out; rw [if_pos hT6] at h9; exact h9.symm
    clear HE3 hT6
    go_wp2_with (go_at_call 59; refine HL.out.mono ?_)
    try rintro _ _ ⟨rfl, rfl⟩
    go_wp2_with fail
    go_ret2
    obtain rfl : E = 3 := HE4.out
    obtain rfl : X = [] := by have h9 : X = _ := HX.out; rw [if_neg (by decide)] at h9; exact h9
    exact ⟨rfl, HB6.out⟩
  · have g3 : ¬ (65536 : Int) < T.length := by omega
    have d3 : decide ((65536 : Int) < T.length) = false := decide_eq_false g3
    have HE4 : Hid (E = 0) := by have h9 : _ = E := HE3.out; rw [if_neg hT6] at h9; exact h9.symm
    clear HE3 hT6
    have HS := Lib.hid (Tryd.Builder_String_any_k w4.heap.size w4.heap.size T _ HI6.out (by omega))
    go_wp2_with (first | (go_at_call 59; refine HL.out.mono ?_) | (go_at_call 33; refine HS.out.mono ?_))
    try rintro _ _ ⟨rfl, rfl⟩
    go_wp2_with (go_at_call 33; refine HS.out.mono ?_)
    first | rintro e w7 rfl hI7 b7 hk7 | rintro e w7 ⟨rfl, hI7, b7, hk7⟩
    have HB7 := Lib.hid (HB6.out.trans (b7.mono hz4))
    clear b7 hI7 hk7
    go_wp2_with fail
    go_ret2
    obtain rfl : E = 0 := HE4.out
    obtain rfl : X = T := by have h9 : X = _ := HX.out; rw [if_pos rfl] at h9; exact h9
    exact ⟨rfl, HB7.out⟩

set_option maxHeartbeats 2000000 in
theorem Js.check_is (v : Js.V) (S : Nat → Prop) (w : World) (nv iv : Value) (hT : Lib.Utf8Tabs 0 1 w) (hA : Js.VAt S w v nv iv) (hz : Js.sz v) (hN : Js.cnt v ≤ 4611686018427387904) :
    Calls Tryd.prog 21 #[.agg #[.int .u8 v.kind, .string v.text, nv, iv]] w fun e w' => e = .returned (.int .i64 (Js.wErr v)) ∧ Below w.heap.size w w' := by
  obtain ⟨np, nc, ip, ic, rfl, rfl, -, -⟩ := hA.shape
  have HB : Hid (Below w.heap.size w (w.alloc (.cells #[.int .u8 v.kind, .string v.text, .slice np v.names.length nc, .slice ip v.items.length ic] 27))) := Rj.bel1 w _
  have HW := Lib.hid (Js.jwrite_is v S _ _ _ (Utf8Tabs_below hT HB.out) (hA.later HB.out) hz hN)
  clear hT hA hz
  obtain ⟨E, hE⟩ : ∃ E, Js.wErr v = E := ⟨_, rfl⟩
  obtain ⟨X, hX⟩ : ∃ X, Js.wText v = X := ⟨_, rfl⟩
  rw [hE, hX] at HW
  rw [hE]
  clear hE hX
  go_enter Tryd.func21, Tryd.ntmps21
  go_wp2_with (go_at_call 20; refine HW.out.mono ?_)
  first | rintro e w2 rfl b2 | rintro e w2 ⟨rfl, b2⟩
  have HB2 := Lib.hid (HB.out.trans (b2.mono HB.out.size))
  clear b2
  go_wp2_with fail
  go_ret
  exact ⟨rfl, HB2.out⟩

/-- what is wrong with a string that is to be quoted -/
def Js.qErr (s : ByteArray) : Nat := if (Js.bad8 s).isNone = false then 142 else if 65536 < (Js.quo s.data.toList).length then 3 else 0
def Js.qText (s : ByteArray) : List UInt8 := if Js.qErr s = 0 then Js.quo s.data.toList else []
set_option maxHeartbeats 2000000 in
theorem Js.jquote_is (s : ByteArray) (w : World) (hT : Lib.Utf8Tabs 0 1 w) (hs : s.size ≤ 1000000000000) :
    Calls Tryd.prog 30 #[.string s] w fun e w' => e = .returned (.tuple #[.string ⟨(Js.qText s).toArray⟩, .int .i64 (Js.qErr s)]) ∧ Below w.heap.size w w' := by
  have hql := Js.quo_len s.data.toList
  have hsl : s.data.toList.length = s.size := by simp
  obtain ⟨E, hE⟩ : ∃ E, Js.qErr s = E := ⟨_, rfl⟩
  obtain ⟨X, hX⟩ : ∃ X, Js.qText s = X := ⟨_, rfl⟩
  have hX2 : X = if E = 0 then Js.quo s.data.toList else [] := by rw [← hX, ← hE]; rfl
  rw [hE, hX]
  unfold Js.qErr at hE
  have HV := Lib.hid (Js.validString_is s w (by unfold maxLen; omega) hT)
  have HQ := Lib.hid (fun (B b : Nat) (w2 : World) (hI : Lib.IsBuilderF 47 5 B b (Lib.byteCells []) w2) (hv : Js.bad8 s = none) (hB : B ≤ w2.heap.size) => Js.quote_is B b s [] w2 hI (by simp only [List.length_nil]; omega) hv hB)
  obtain ⟨p, hp⟩ : ∃ p, (Js.bad8 s).isNone = p := ⟨_, rfl⟩
  rw [hp] at HV hE
  obtain ⟨T, hTT⟩ : ∃ T, Js.quo s.data.toList = T := ⟨_, rfl⟩
  simp only [List.nil_append] at HQ
  rw [hTT] at HQ hE hX2 hql
  have HP := Lib.hid hp
  have HE := Lib.hid hE
  have HX := Lib.hid hX2
  clear hE hX hX2 hp hT hTT
  go_enter Tryd.func30, Tryd.ntmps30
  go_wp2_with (go_at_call 26; refine HV.out.mono ?_)
  first | rintro e w4 rfl b4 | rintro e w4 ⟨rfl, b4⟩
  have HB4 := Lib.hid b4
  have hz4 := b4.size
  clear b4 HV
  cases p
  case false =>
    have HE2 : Hid (E = 142) := by have h9 : _ = E := HE.out; rw [if_pos rfl] at h9; exact h9.symm
    clear HE
    go_wp2_with fail
    go_ret2
    obtain rfl : E = 142 := HE2.out
    obtain rfl : X = [] := by have h9 : X = _ := HX.out; rw [if_neg (by decide)] at h9; exact h9
    exact ⟨rfl, HB4.out⟩
  have HE3 : Hid ((if 65536 < T.length then 3 else 0) = E) := by have h9 : _ = E := HE.out; rw [if_neg (by decide)] at h9; exact h9
  obtain ⟨W5, hW5⟩ : ∃ W5, w4.alloc (.cells #[.pointer none, .slice none 0 0] 47) = W5 := ⟨_, rfl⟩
  have HI5 : Hid (Lib.IsBuilderF 47 5 w4.heap.size w4.heap.size (Lib.byteCells []) W5) := by subst hW5; exact fresh_at (Nat.le_refl _) (alloc_new _ _)
  have HB5 : Hid (Below w4.heap.size w4 W5) := by subst hW5; exact Rj.bel1 _ _
  have hz5 : w4.heap.size ≤ W5.heap.size := HB5.out.size
  have HWW := Lib.hid (HQ.out w4.heap.size w4.heap.size W5 HI5.out (Option.isNone_iff_eq_none.1 HP.out) hz5)
  have HW5 := Lib.hid hW5
  clear hW5 HI5 HQ HP HE
  go_upto_region 4 with fail
  rw [show w4.alloc (.cells #[.pointer none, .slice none 0 0] 47) = W5 from HW5.out]
  clear HW5
  go_wp2_with (go_at_call 64; refine HWW.out.mono ?_)
  first | rintro e w6 rfl hI6 b6 hk6 | rintro e w6 ⟨rfl, hI6, b6, hk6⟩
  have HI6 : Hid (Lib.IsBuilderF 47 5 w4.heap.size w4.heap.size (Lib.byteCells T) w6) := hI6
  have hz6 := b6.size
  have HB6 := Lib.hid (HB4.out.trans ((HB5.out.trans b6).mono hz4))
  clear hI6 b6 hk6 HWW
  have HL : Hid (Calls Tryd.prog 59 #[.pointer (some ⟨w4.heap.size, 0, none⟩)] w6 fun e w' => e = .returned (.int .i64 T.length) ∧ w' = w6) := by
    have h9 := Tryd.Builder_Len_f w4.heap.size w4.heap.size _ _ HI6.out
    rw [Lib.byteCells_length] at h9
    exact h9
  by_cases hT6 : 65536 < T.length
  · have g3 : (65536 : Int) < T.length := by omega
    have d3 : decide ((65536 : Int) < T.length) = true := decide_eq_true g3
    have HE4 : Hid (E = 3) := by have h9 : _ = E := HE3.out; rw [if_pos hT6] at h9; exact h9.symm
    clear HE3 hT6
    go_wp2_with (go_at_call 59; refine HL.out.mono ?_)
    try rintro _ _ ⟨rfl, rfl⟩
    go_wp2_with fail
    go_ret2
    obtain rfl : E = 3 := HE4.out
    obtain rfl : X = [] := by have h9 : X = _ := HX.out; rw [if_neg (by decide)] at h9; exact h9
    exact ⟨rfl, HB6.out⟩
  · have g3 : ¬ (65536 : Int) < T.length := by omega
    have d3 : decide ((65536 : Int) < T.length) = false := decide_eq_false g3
    have HE4 : Hid (E = 0) := by have h9 : _ = E := HE3.out; rw [if_neg hT6] at h9; exact h9.symm
    clear HE3 hT6
    have HS := Lib.hid (Tryd.Builder_String_any_k w4.heap.size w4.heap.size T _ HI6.out (by omega))
    go_wp2_with (first | (go_at_call 59; refine HL.out.mono ?_) | (go_at_call 33; refine HS.out.mono ?_))
    try rintro _ _ ⟨rfl, rfl⟩
    go_wp2_with (go_at_call 33; refine HS.out.mono ?_)
    first | rintro e w7 rfl hI7 b7 hk7 | rintro e w7 ⟨rfl, hI7, b7, hk7⟩
    have HB7 := Lib.hid (HB6.out.trans (b7.mono hz4))
    clear b7 hI7 hk7
    go_wp2_with fail
    go_ret2
    obtain rfl : E = 0 := HE4.out
    obtain rfl : X = T := by have h9 : X = _ := HX.out; rw [if_pos rfl] at h9; exact h9
    exact ⟨rfl, HB7.out⟩
end Go.Proofs.YtmmijebekipdeaaDoor
