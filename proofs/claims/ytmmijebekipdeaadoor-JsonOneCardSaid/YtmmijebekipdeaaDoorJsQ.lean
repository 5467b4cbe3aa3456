/- Contracts of json: Count, Depth. -/
import Derived.Test.YtmmijebekipdeaaDoorJsL
namespace Go.Proofs.YtmmijebekipdeaaDoor
open Go.RowKit
set_option maxRecDepth 100000

mutual
/-- how many values there are -/
def Js.cnt : Js.V → Nat
  | .mk _ _ _ xs => 1 + Js.cntL xs
def Js.cntL : List Js.V → Nat
  | [] => 0
  | x :: r => Js.cnt x + Js.cntL r
end
mutual
/-- the depth -/
def Js.dep : Js.V → Nat
  | .mk k _ _ xs => Js.depL xs + (if k = 6 ∨ k = 7 then 1 else 0)
def Js.depL : List Js.V → Nat
  | [] => 0
  | x :: r => max (Js.dep x) (Js.depL r)
end
theorem Js.cntL_append : ∀ a b : List Js.V, Js.cntL (a ++ b) = Js.cntL a + Js.cntL b
  | [], b => by simp [Js.cntL]
  | x :: r, b => by rw [List.cons_append, Js.cntL, Js.cntL, Js.cntL_append r b]; omega
theorem Js.depL_append : ∀ a b : List Js.V, Js.depL (a ++ b) = max (Js.depL a) (Js.depL b)
  | [], b => by simp [Js.depL]
  | x :: r, b => by rw [List.cons_append, Js.depL, Js.depL, Js.depL_append r b]; omega
theorem Js.cntL_take (xs : List Js.V) (i : Nat) (h : i < xs.length) : Js.cntL (xs.take (i + 1)) = Js.cntL (xs.take i) + Js.cnt xs[i] := by
  rw [List.take_succ_eq_append_getElem h, Js.cntL_append]
  simp [Js.cntL]
theorem Js.depL_take (xs : List Js.V) (i : Nat) (h : i < xs.length) : Js.depL (xs.take (i + 1)) = max (Js.depL (xs.take i)) (Js.dep xs[i]) := by
  rw [List.take_succ_eq_append_getElem h, Js.depL_append]
  simp [Js.depL]
theorem Js.cntL_part (xs : List Js.V) (i : Nat) (h : i < xs.length) : Js.cntL (xs.take i) + Js.cnt xs[i] ≤ Js.cntL xs := by
  rw [← Js.cntL_take xs i h]
  have h9 := Js.cntL_append (xs.take (i + 1)) (xs.drop (i + 1))
  rw [List.take_append_drop] at h9
  omega
theorem Js.cntL_le (xs : List Js.V) (i : Nat) : Js.cntL (xs.take i) ≤ Js.cntL xs := by
  have h9 := Js.cntL_append (xs.take i) (xs.drop i)
  rw [List.take_append_drop] at h9
  omega
theorem Js.LAt.get {S : Nat → Prop} {w : World} : ∀ (l : List Js.V) (b o i : Nat) (h : i < l.length), Js.LAt S w l b o → ∃ nv iv, w.cell? ⟨b, o + i * 4, none⟩ = some (.int .u8 l[i].kind) ∧ w.cell? ⟨b, o + i * 4 + 1, none⟩ = some (.string l[i].text) ∧
    w.cell? ⟨b, o + i * 4 + 2, none⟩ = some nv ∧ w.cell? ⟨b, o + i * 4 + 3, none⟩ = some iv ∧ Js.VAt S w l[i] nv iv
  | [], b, o, i, h, _ => by simp at h
  | x :: r, b, o, 0, h, hl => by
    unfold Js.LAt at hl
    obtain ⟨⟨nv, iv, h0, h1, h2, h3, hx⟩, _⟩ := hl
    exact ⟨nv, iv, by simpa using h0, by simpa using h1, by simpa using h2, by simpa using h3, by simpa using hx⟩
  | x :: r, b, o, i + 1, h, hl => by
    unfold Js.LAt at hl
    obtain ⟨nv, iv, h0, h1, h2, h3, hx⟩ := Js.LAt.get r b (o + 4) i (by simpa using h) hl.2
    rw [show o + 4 + i * 4 = o + (i + 1) * 4 by omega] at h0 h1 h2 h3
    exact ⟨nv, iv, by simpa using h0, by simpa using h1, by simpa using h2, by simpa using h3, by simpa using hx⟩
/-- a value's slices are slices -/
theorem Js.VAt.shape {S : Nat → Prop} {w : World} {v : Js.V} {nv iv : Value} (h : Js.VAt S w v nv iv) : ∃ np nc ip ic, nv = .slice np v.names.length nc ∧ iv = .slice ip v.items.length ic ∧ v.items.length ≤ maxLen ∧ (v.items = [] ∨ ∃ b o, ip = some ⟨b, o, none⟩ ∧ S b ∧ Js.LAt S w v.items b o) := by
  obtain ⟨k, t, ns, xs⟩ := v
  unfold Js.VAt at h
  obtain ⟨⟨np, nc, hn, _⟩, ip, ic, hi, h1, h2, h3⟩ := h
  exact ⟨np, nc, ip, ic, hn, hi, by show xs.length ≤ maxLen; omega, h3⟩
/-- a value that is handed on -/
def Js.val4 (v : Js.V) (nv iv : Value) : Value := .agg #[.int .u8 v.kind, .string v.text, nv, iv]
theorem Js.VAt.later {S : Nat → Prop} {w w' : World} {v : Js.V} {nv iv : Value} (h : Js.VAt S w v nv iv) (b : Below w.heap.size w w') : Js.VAt S w' v nv iv :=
  Js.VAt.move ⟨fun k _ hk => b.block k hk, fun _ hk _ => hk⟩ _ _ _ h

set_option maxHeartbeats 4000000 in
theorem Js.count_is : ∀ (N : Nat) (v : Js.V), Js.cnt v ≤ N → N ≤ 4611686018427387904 → ∀ (S : Nat → Prop) (w : World) (nv iv : Value), Js.VAt S w v nv iv →
    Calls Tryd.prog 23 #[.agg #[.int .u8 v.kind, .string v.text, nv, iv]] w fun e w' => e = .returned (.int .i64 (Js.cnt v)) ∧ Below w.heap.size w w' := by
  intro N
  induction N with
  | zero => intro v hv; obtain ⟨k, t, ns, xs⟩ := v; unfold Js.cnt at hv; omega
  | succ N ih =>
    intro v hv hN S w nv iv hA
    obtain ⟨np, nc, ip, ic, rfl, rfl, hlen, hit⟩ := hA.shape
    obtain ⟨k, t, ns, xs⟩ := v
    obtain ⟨C, hC⟩ : ∃ C, Js.cnt (.mk k t ns xs) = C := ⟨_, rfl⟩
    have hC2 : C = 1 + Js.cntL xs := by rw [← hC, Js.cnt]
    rw [hC] at hv ⊢
    clear hC
    dsimp only [Js.V.kind, Js.V.text, Js.V.names, Js.V.items] at hlen hit ⊢
    obtain ⟨n, hn⟩ : ∃ n, xs.length = n := ⟨_, rfl⟩
    rw [hn] at hlen ⊢
    have HN := Lib.hid hn
    have HC := Lib.hid hC2
    have HI := Lib.hid hit
    have hCb : Js.cntL xs + 1 ≤ N + 1 := by omega
    unfold maxLen at hlen
    clear hn hC2 hit hA
    go_enter Tryd.func23, Tryd.ntmps23
    go_wp2
    go_loopw [3, 9] (fun cv iv wr => ∃ i : Nat, i ≤ n ∧ iv = .int .i64 i ∧ cv = .int .i64 ((1 + Js.cntL (xs.take i) : Nat) : Int) ∧ Hid (Below w.heap.size w wr)) (fun _ iv _ => n - (intOf iv).toNat)
    case atStart => exact ⟨0, Nat.zero_le _, rfl, by simp [Js.cntL], (Below.refl _ w).alloc (Nat.le_refl _) _⟩
    case round =>
      obtain ⟨i, hi, rfl, rfl, HB⟩ := hrel
      by_cases h : i < n
      · have h1 : (i : Int) < n := by omega
        have h0 : (0 : Int) ≤ i := by omega
        have hnl : xs.length = n := HN.out
        have hix : i < xs.length := by omega
        rcases HI.out with rfl | ⟨b, o, rfl, hS, hL⟩
        · simp at hix
        obtain ⟨nv2, iv2, d0, d1, d2, d3, hX⟩ := Js.LAt.get xs b o i hix hL
        obtain ⟨np2, nc2, ip2, ic2, rfl, rfl, -, -⟩ := hX.shape
        have hpart := Js.cntL_part xs i hix
        have htk := Js.cntL_take xs i hix
        obtain ⟨y, hy⟩ : ∃ y, xs[i] = y := ⟨_, rfl⟩
        rw [hy] at d0 d1 d2 d3 hX hpart htk
        have HY := Lib.hid (fun w' (hw : Below w.heap.size w w') => ih y (by omega) (by omega) S w' _ _ (hX.later hw))
        have e0 := cell_later HB.out d0 (Nat.le_refl _)
        have e1 := cell_later HB.out d1 (Nat.le_refl _)
        have e2 := cell_later HB.out d2 (Nat.le_refl _)
        have e3 := cell_later HB.out d3 (Nat.le_refl _)
        have hp1 : 1 + Js.cntL (xs.take i) + Js.cnt y ≤ 4611686018427387904 := by omega
        have HT := Lib.hid htk
        clear d0 d1 d2 d3 hX hpart htk hy hL hS hix hnl
        generalize Js.cntL (xs.take i) = ci at hp1 HT ⊢
        go_wp2_with (go_at_call 23; refine (HY.out _ (HB.out.alloc HB.out.size _)).mono ?_)
        first | rintro e w2 rfl b2 | rintro e w2 ⟨rfl, b2⟩
        go_wp2
        go_roundw
        case rel => exact ⟨i + 1, by omega, by go_num, by have h9 : Js.cntL (xs.take (i + 1)) = _ := HT.out; rw [h9]; congr 1; omega, (HB.out.alloc HB.out.size _).trans (b2.mono (by have h9 := HB.out.size; simp; omega))⟩
        case measure => simp [intOf]; omega
      · obtain rfl : i = n := by omega
        have h1 : ¬ (i : Int) < i := by omega
        have hfull : xs.take i = xs := List.take_of_length_le (by have h9 : xs.length = i := HN.out; omega)
        rw [hfull]
        have HF : Hid (C = 1 + Js.cntL xs) := HC.out
        clear hfull
        generalize Js.cntL xs = cx at HF hCb ⊢
        go_wp2
        go_ret
        obtain rfl : C = 1 + cx := HF.out
        exact ⟨rfl, HB.out⟩
mutual
theorem Js.dep_le : ∀ v : Js.V, Js.dep v ≤ Js.cnt v
  | .mk k t ns xs => by
    have := Js.depL_le xs
    rw [Js.dep, Js.cnt]
    split <;> omega
theorem Js.depL_le : ∀ xs : List Js.V, Js.depL xs ≤ Js.cntL xs
  | [] => by simp [Js.depL]
  | x :: r => by
    have := Js.dep_le x
    have := Js.depL_le r
    rw [Js.depL, Js.cntL]
    omega
end

set_option maxHeartbeats 4000000 in
theorem Js.depth_is : ∀ (N : Nat) (v : Js.V), Js.cnt v ≤ N → N ≤ 4611686018427387904 → ∀ (S : Nat → Prop) (w : World) (nv iv : Value), Js.VAt S w v nv iv →
    Calls Tryd.prog 22 #[.agg #[.int .u8 v.kind, .string v.text, nv, iv]] w fun e w' => e = .returned (.int .i64 (Js.dep v)) ∧ Below w.heap.size w w' := by
  intro N
  induction N with
  | zero => intro v hv; obtain ⟨k, t, ns, xs⟩ := v; unfold Js.cnt at hv; omega
  | succ N ih =>
    intro v hv hN S w nv iv hA
    obtain ⟨np, nc, ip, ic, rfl, rfl, hlen, hit⟩ := hA.shape
    obtain ⟨k, t, ns, xs⟩ := v
    obtain ⟨D, hD⟩ : ∃ D, Js.dep (.mk k t ns xs) = D := ⟨_, rfl⟩
    have hC2 : D = Js.depL xs + (if k = 6 ∨ k = 7 then 1 else 0) := by rw [← hD, Js.dep]
    rw [hD]
    have hCb : Js.cntL xs + 1 ≤ N + 1 := by rw [Js.cnt] at hv; omega
    clear hD hv
    dsimp only [Js.V.kind, Js.V.text, Js.V.names, Js.V.items] at hlen hit ⊢
    obtain ⟨n, hn⟩ : ∃ n, xs.length = n := ⟨_, rfl⟩
    rw [hn] at hlen ⊢
    have HN := Lib.hid hn
    have HC := Lib.hid hC2
    have HI := Lib.hid hit
    unfold maxLen at hlen
    clear hn hC2 hit hA
    go_enter Tryd.func22, Tryd.ntmps22
    go_wp2
    go_loopw [3, 9] (fun cv iv wr => ∃ i : Nat, i ≤ n ∧ iv = .int .i64 i ∧ cv = .int .i64 ((Js.depL (xs.take i) : Nat) : Int) ∧ Hid (Below w.heap.size w wr) ∧ Hid (wr.heap[w.heap.size]? = some (.cells #[.int .u8 k, .string t, .slice np ns.length nc, .slice ip n ic] 27))) (fun _ iv _ => n - (intOf iv).toNat)
    case atStart => exact ⟨0, Nat.zero_le _, rfl, by simp [Js.depL], (Below.refl _ w).alloc (Nat.le_refl _) _, alloc_new _ _⟩
    case round =>
      obtain ⟨i, hi, rfl, rfl, HB, HX9⟩ := hrel
      by_cases h : i < n
      · have h1 : (i : Int) < n := by omega
        have h0 : (0 : Int) ≤ i := by omega
        have hnl : xs.length = n := HN.out
        have hix : i < xs.length := by omega
        rcases HI.out with rfl | ⟨b, o, rfl, hS, hL⟩
        · simp at hix
        obtain ⟨nv2, iv2, d0, d1, d2, d3, hX⟩ := Js.LAt.get xs b o i hix hL
        obtain ⟨np2, nc2, ip2, ic2, rfl, rfl, -, -⟩ := hX.shape
        have hpart := Js.cntL_part xs i hix
        have htk := Js.depL_take xs i hix
        have hdl := Js.depL_le (xs.take i)
        obtain ⟨y, hy⟩ : ∃ y, xs[i] = y := ⟨_, rfl⟩
        rw [hy] at d0 d1 d2 d3 hX hpart htk
        have HY := Lib.hid (fun w' (hw : Below w.heap.size w w') => ih y (by omega) (by omega) S w' _ _ (hX.later hw))
        have e0 := cell_later HB.out d0 (Nat.le_refl _)
        have e1 := cell_later HB.out d1 (Nat.le_refl _)
        have e2 := cell_later HB.out d2 (Nat.le_refl _)
        have e3 := cell_later HB.out d3 (Nat.le_refl _)
        have hp1 : Js.depL (xs.take i) ≤ 4611686018427387904 := by omega
        have hp2 : Js.dep y ≤ 4611686018427387904 := by have h9 := Js.dep_le y; omega
        have HT := Lib.hid htk
        clear d0 d1 d2 d3 hX hpart htk hdl hy hL hS hix hnl
        generalize Js.depL (xs.take i) = ci at hp1 HT ⊢
        go_wp2_with (go_at_call 22; refine (HY.out _ (HB.out.alloc HB.out.size _)).mono ?_)
        first | rintro e w2 rfl b2 | rintro e w2 ⟨rfl, b2⟩
        go_wp2
        go_roundw
        case rel => exact ⟨i + 1, by omega, by go_num, by have h9 : Js.depL (xs.take (i + 1)) = _ := HT.out; rw [h9]; congr 1; omega, (HB.out.alloc HB.out.size _).trans (b2.mono (by have h9 := HB.out.size; simp; omega)), (b2.block _ (by have h9 := lt_of_heap HX9.out; simp; omega)).trans (alloc_kept HX9.out)⟩
        case measure => simp [intOf]; omega
      · obtain rfl : i = n := by omega
        have h1 : ¬ (i : Int) < i := by omega
        have hfull : xs.take i = xs := List.take_of_length_le (by have h9 : xs.length = i := HN.out; omega)
        rw [hfull]
        have HF : Hid (D = Js.depL xs + (if k = 6 ∨ k = 7 then 1 else 0)) := HC.out
        have hdl := Js.depL_le xs
        have hd9 : Js.depL xs ≤ 4611686018427387904 := by omega
        clear hfull hdl hCb
        generalize Js.depL xs = cx at HF hd9 ⊢
        have k0 : wr.cell? ⟨w.heap.size, 0, none⟩ = some (.int .u8 k) := by rw [Lib.cell_of_heap HX9.out]; rfl
        by_cases h6 : k = 6
        · have b6 : ((k : Int) == 6) = true := Js.beq_t (by omega)
          have HG : Hid (D = cx + 1) := by have h9 : D = _ := HF.out; rw [if_pos (.inl h6)] at h9; exact h9
          clear h6 HF
          go_wp2
          go_ret
          obtain rfl : D = cx + 1 := HG.out
          exact ⟨rfl, HB.out⟩
        · have b6 : ((k : Int) == 6) = false := Js.beq_f (by omega)
          by_cases h7 : k = 7
          · have b7 : ((k : Int) == 7) = true := Js.beq_t (by omega)
            have HG : Hid (D = cx + 1) := by have h9 : D = _ := HF.out; rw [if_pos (.inr h7)] at h9; exact h9
            clear h6 h7 HF
            go_wp2
            go_ret
            obtain rfl : D = cx + 1 := HG.out
            exact ⟨rfl, HB.out⟩
          · have b7 : ((k : Int) == 7) = false := Js.beq_f (by omega)
            have HG : Hid (D = cx) := by have h9 : D = _ := HF.out; rw [if_neg (by omega), Nat.add_zero] at h9; exact h9
            clear h6 h7 HF
            go_wp2
            go_ret
            obtain rfl : D = cx := HG.out
            exact ⟨rfl, HB.out⟩
end Go.Proofs.YtmmijebekipdeaaDoor
