/- Contract of json.Same: whether two values are the same. -/
import Derived.Test.YtmmijebekipdeaaDoorJsX
import Derived.Test.YtmmijebekipdeaaDoorRjC
namespace Go.Proofs.YtmmijebekipdeaaDoor
open Go.RowKit
set_option maxRecDepth 100000

mutual
/-- two values are the same -/
def Js.eqv : Js.V → Js.V → Bool
  | .mk k t ns xs, .mk k' t' ns' xs' => k == k' && (t == t' && (decide (ns = ns') && Js.eqvL xs xs'))
def Js.eqvL : List Js.V → List Js.V → Bool
  | [], [] => true
  | x :: r, y :: s => Js.eqv x y && Js.eqvL r s
  | [], _ :: _ => false
  | _ :: _, [] => false
end
mutual
theorem Js.eqv_iff : ∀ a b : Js.V, Js.eqv a b = true ↔ a = b
  | .mk k t ns xs, .mk k' t' ns' xs' => by
    rw [Js.eqv, Bool.and_eq_true, Bool.and_eq_true, Bool.and_eq_true, beq_iff_eq, Js.bytes_beq, decide_eq_true_eq, Js.eqvL_iff xs xs']
    constructor
    · rintro ⟨rfl, rfl, rfl, rfl⟩; rfl
    · intro h; cases h; exact ⟨rfl, rfl, rfl, rfl⟩
theorem Js.eqvL_iff : ∀ a b : List Js.V, Js.eqvL a b = true ↔ a = b
  | [], [] => by rw [Js.eqvL]; simp
  | x :: r, y :: s => by
    rw [Js.eqvL, Bool.and_eq_true, Js.eqv_iff x y, Js.eqvL_iff r s]
    simp
  | [], _ :: _ => by rw [Js.eqvL]; simp
  | _ :: _, [] => by rw [Js.eqvL]; simp
end
theorem Js.eqvL_len (a b : List Js.V) (h : a.length ≠ b.length) : Js.eqvL a b = false := by
  cases hb : Js.eqvL a b with
  | false => rfl
  | true => rw [Js.eqvL_iff] at hb; exact absurd (by rw [hb]) h
theorem Js.eqvL_drop (a b : List Js.V) (i : Nat) (h1 : i < a.length) (h2 : i < b.length) : Js.eqvL (a.drop i) (b.drop i) = (Js.eqv a[i] b[i] && Js.eqvL (a.drop (i + 1)) (b.drop (i + 1))) := by
  rw [List.drop_eq_getElem_cons h1, List.drop_eq_getElem_cons h2, Js.eqvL]
theorem Js.eqv_self (a : Js.V) : Js.eqv a a = true := (Js.eqv_iff a a).2 rfl

theorem Js.toList_beq (a b : ByteArray) : (a.toList == b.toList) = (a == b) := by
  rw [ByteArray.toList_eq, ByteArray.toList_eq, Bool.eq_iff_iff, Js.bytes_beq, beq_iff_eq]
  exact ⟨fun h => ByteArray.ext (Array.toList_inj.1 h), fun h => by rw [h]⟩
theorem Js.namesEq_is {S1 S2 : Nat → Prop} {w : World} {ns ns' : List ByteArray} {v v' : Value} (h1 : Js.NsAt S1 w ns v) (h2 : Js.NsAt S2 w ns' v') :
    Calls Tryd.prog 55 #[v, v'] w fun e w' => e = .returned (.bool (decide (ns = ns'))) ∧ Below w.heap.size w w' := by
  obtain ⟨p, c, rfl, a1, a2, a3⟩ := h1
  obtain ⟨p', c', rfl, b1, b2, b3⟩ := h2
  by_cases hl : ns.length = ns'.length
  · rcases a3 with rfl | ⟨b, o, rfl, _, hc⟩
    · have hn : ns' = [] := List.length_eq_zero_iff.1 hl.symm
      subst hn
      refine (Tryd.slices_Equal_string_empty p p' c 0 c' w (by omega)).mono ?_
      rintro e w' ⟨rfl, rfl⟩
      exact ⟨by simp, Below.refl _ _⟩
    · rcases b3 with rfl | ⟨b', o', rfl, _, hc'⟩
      · have hn : ns = [] := List.length_eq_zero_iff.1 hl
        subst hn
        refine (Tryd.slices_Equal_string_empty (some ⟨b, o, none⟩) p' c 0 c' w (by omega)).mono ?_
        rintro e w' ⟨rfl, rfl⟩
        exact ⟨by simp, Below.refl _ _⟩
      · refine (Tryd.slices_Equal_string b o ns.length c b' o' ns'.length c' ns ns' w (Nat.le_refl _) (Nat.le_refl _) (by unfold maxLen at a2; omega) (by unfold maxLen at b2; omega) ?_ ?_).mono ?_
        · intro j hj; rw [hc j hj]; simp [List.getD_eq_getElem?_getD, hj]
        · intro j hj; rw [hc' j hj]; simp [List.getD_eq_getElem?_getD, hj]
        · rintro e w' ⟨rfl, q, rfl⟩
          exact ⟨by rw [List.take_length, List.take_length], below_drewN (Below.refl _ _) q⟩
  · refine (Tryd.slices_Equal_string_lens p p' ns.length c ns'.length c' w hl).mono ?_
    rintro e w' ⟨rfl, rfl⟩
    exact ⟨by rw [decide_eq_false (fun h => hl (by rw [h]))], Below.refl _ _⟩

set_option maxHeartbeats 4000000 in
theorem Js.eqf_is (S1 S2 : Nat → Prop) (p1 p2 : Option Addr) (c1 c2 : Nat) (xs ys : List Js.V) (n m : Nat) (w : World) (hn : xs.length = n) (hm : ys.length = m) (h1 : Js.IsAt S1 w p1 xs) (h2 : Js.IsAt S2 w p2 ys) (hl : n ≤ 4611686018427387904)
    (HG : ∀ i (g1 : i < xs.length) (g2 : i < ys.length) (nv iv nv' iv' : Value) w', Below w.heap.size w w' → Js.VAt S1 w' xs[i] nv iv → Js.VAt S2 w' ys[i] nv' iv' →
      Calls Tryd.prog 19 #[.agg #[.int .u8 xs[i].kind, .string xs[i].text, nv, iv], .agg #[.int .u8 ys[i].kind, .string ys[i].text, nv', iv']] w' fun e w'' => e = .returned (.bool (Js.eqv xs[i] ys[i])) ∧ Below w'.heap.size w' w'') :
    Calls Tryd.prog 56 #[.slice p1 n c1, .slice p2 m c2, .func (.func 19) #[] #[]] w fun e w' => e = .returned (.bool (Js.eqvL xs ys)) ∧ Below w.heap.size w w' := by
  obtain ⟨Q, hQ⟩ : ∃ Q, Js.eqvL xs ys = Q := ⟨_, rfl⟩
  rw [hQ]
  have HQ := Lib.hid hQ
  have HN := Lib.hid hn
  have HM := Lib.hid hm
  have H1 := Lib.hid h1
  have H2 := Lib.hid h2
  have HG := Lib.hid HG
  clear hQ hn hm h1 h2
  by_cases hnm : n = m
  · have bne : ((n : Int) != (m : Int)) = false := by rw [bne, Js.beq_t (by omega)]; rfl
    have HNM := Lib.hid hnm
    have hmn : m ≤ n := by omega
    clear hnm
    go_enter Tryd.func56, Tryd.ntmps56
    go_wp2_with fail
    go_loopw [17] (fun iv wr => ∃ i : Nat, i ≤ n ∧ iv = .int .i64 i ∧ Hid (Js.eqvL (xs.drop i) (ys.drop i) = Q) ∧ Hid (Below w.heap.size w wr)) (fun iv _ => n - (intOf iv).toNat)
    case atStart => exact ⟨0, Nat.zero_le _, rfl, HQ.out, Below.refl _ _⟩
    case round =>
      clear HQ
      obtain ⟨i, hi, rfl, HQ, HB⟩ := hrel
      by_cases h : i < n
      · have g1 : (i : Int) < n := by omega
        have g0 : (0 : Int) ≤ i := by omega
        have g2 : (i : Int) < m := by have h9 : n = m := HNM.out; omega
        have hx : i < xs.length := by have h9 : xs.length = n := HN.out; omega
        have hy : i < ys.length := by have h9 : ys.length = m := HM.out; have h8 : n = m := HNM.out; omega
        rcases H1.out with rfl | ⟨b, o, rfl, _, hL⟩
        · simp at hx
        rcases H2.out with rfl | ⟨b', o', rfl, _, hL'⟩
        · simp at hy
        obtain ⟨nv, iv, d0, d1, d2, d3, hX⟩ := Js.LAt.get xs b o i hx hL
        obtain ⟨nv', iv', e0, e1, e2, e3, hY⟩ := Js.LAt.get ys b' o' i hy hL'
        obtain ⟨np, nc, ip, ic, rfl, rfl, -, -⟩ := hX.shape
        obtain ⟨np', nc', ip', ic', rfl, rfl, -, -⟩ := hY.shape
        have HC := Lib.hid (fun w' hw => HG.out i hx hy _ _ _ _ w' hw (hX.later hw) (hY.later hw))
        have hdr := Js.eqvL_drop xs ys i hx hy
        obtain ⟨x, hx2⟩ : ∃ x, xs[i] = x := ⟨_, rfl⟩
        obtain ⟨y, hy2⟩ : ∃ y, ys[i] = y := ⟨_, rfl⟩
        rw [hx2] at d0 d1 d2 d3 HC hdr
        rw [hy2] at e0 e1 e2 e3 HC hdr
        obtain ⟨q, hq⟩ : ∃ q, Js.eqv x y = q := ⟨_, rfl⟩
        rw [hq] at HC hdr
        have HQ2 : Hid ((q && Js.eqvL (xs.drop (i + 1)) (ys.drop (i + 1))) = Q) := by have h9 : _ = Q := HQ.out; rw [hdr] at h9; exact h9
        replace d0 := cell_later HB.out d0 (Nat.le_refl _)
        replace d1 := cell_later HB.out d1 (Nat.le_refl _)
        replace d2 := cell_later HB.out d2 (Nat.le_refl _)
        replace d3 := cell_later HB.out d3 (Nat.le_refl _)
        replace e0 := cell_later HB.out e0 (Nat.le_refl _)
        replace e1 := cell_later HB.out e1 (Nat.le_refl _)
        replace e2 := cell_later HB.out e2 (Nat.le_refl _)
        replace e3 := cell_later HB.out e3 (Nat.le_refl _)
        have hz := HB.out.size
        have l1 := World.block_lt_of_cell? _ _ e0
        have l2 := World.block_lt_of_cell? _ _ d0
        dsimp only at l1 l2
        have HBa : Hid (Below w.heap.size w ((wr.alloc (.cells #[.int .u8 x.kind, .string x.text, .slice np x.names.length nc, .slice ip x.items.length ic] 27)).alloc (.cells #[.int .u8 y.kind, .string y.text, .slice np' y.names.length nc', .slice ip' y.items.length ic'] 27))) := (HB.out.alloc hz _).alloc (by simp; omega) _
        clear hx2 hy2 hq hdr HQ hX hY hL hL' hx hy
        cases q
        case false =>
          have HE : Hid (Q = false) := HQ2.out.symm
          go_wp2_with (go_at_call 19; refine (HC.out _ HBa.out).mono ?_)
          first | rintro e w2 rfl b2 | rintro e w2 ⟨rfl, b2⟩
          have HB2 := Lib.hid (HBa.out.trans (b2.mono (by simp; omega)))
          clear b2
          go_wp2_with fail
          go_ret
          obtain rfl : Q = false := HE.out
          exact ⟨rfl, HB2.out⟩
        case true =>
          have HQ3 : Hid (Js.eqvL (xs.drop (i + 1)) (ys.drop (i + 1)) = Q) := HQ2.out
          go_wp2_with (go_at_call 19; refine (HC.out _ HBa.out).mono ?_)
          first | rintro e w2 rfl b2 | rintro e w2 ⟨rfl, b2⟩
          have HB2 := Lib.hid (HBa.out.trans (b2.mono (by simp; omega)))
          clear b2
          go_wp2_with fail
          go_roundw
          case rel => exact ⟨i + 1, by omega, by go_num, HQ3.out, HB2.out⟩
          case measure => simp [intOf]; omega
      · obtain rfl : i = n := by omega
        have g1 : ¬ (i : Int) < i := by omega
        have HE : Hid (Q = true) := by
          have h9 : _ = Q := HQ.out
          rw [List.drop_eq_nil_of_le (by have h8 : xs.length = i := HN.out; omega), List.drop_eq_nil_of_le (by have h8 : ys.length = m := HM.out; omega), Js.eqvL] at h9
          exact h9.symm
        go_wp2_with fail
        go_ret
        obtain rfl : Q = true := HE.out
        exact ⟨rfl, HB.out⟩
  · have bne : ((n : Int) != (m : Int)) = true := by rw [bne, Js.beq_f (by omega)]; rfl
    have HE : Hid (Q = false) := by
      have h9 : _ = Q := HQ.out
      rw [Js.eqvL_len xs ys (by have h8 : xs.length = n := HN.out; have h7 : ys.length = m := HM.out; omega)] at h9
      exact h9.symm
    clear hnm
    go_enter Tryd.func56, Tryd.ntmps56
    go_wp2_with fail
    go_ret
    obtain rfl : Q = false := HE.out
    exact ⟨rfl, Below.refl _ _⟩

set_option maxHeartbeats 8000000 in
theorem Js.same_is : ∀ (N : Nat) (v u : Js.V), Js.cnt v ≤ N → N ≤ 4611686018427387904 → Js.cnt u ≤ 4611686018427387904 → ∀ (S1 S2 : Nat → Prop) (w : World) (nv iv nv' iv' : Value), Js.VAt S1 w v nv iv → Js.VAt S2 w u nv' iv' →
    Calls Tryd.prog 19 #[.agg #[.int .u8 v.kind, .string v.text, nv, iv], .agg #[.int .u8 u.kind, .string u.text, nv', iv']] w fun e w' => e = .returned (.bool (Js.eqv v u)) ∧ Below w.heap.size w w' := by
  intro N
  induction N with
  | zero => intro v u hv; obtain ⟨k, t, ns, xs⟩ := v; unfold Js.cnt at hv; omega
  | succ N ih =>
    intro v u hv hN hu S1 S2 w nv iv nv' iv' hA hA'
    obtain ⟨k, t, ns, xs⟩ := v
    obtain ⟨k', t', ns', xs'⟩ := u
    obtain ⟨Q, hQ⟩ : ∃ Q, Js.eqv (.mk k t ns xs) (.mk k' t' ns' xs') = Q := ⟨_, rfl⟩
    rw [hQ]
    rw [Js.eqv] at hQ
    rw [Js.cnt] at hv hu
    unfold Js.VAt at hA hA'
    obtain ⟨hNs, ip, ic, rfl, hl1, hl2, hit⟩ := hA
    obtain ⟨hNs', ip', ic', rfl, hl1', hl2', hit'⟩ := hA'
    have HNE := Lib.hid (fun w' (hw : Below w.heap.size w w') => Js.namesEq_is (S1 := S1) (S2 := S2) (hNs.move ⟨fun k _ hk => hw.block k hk, fun _ hk _ => hk⟩) (hNs'.move ⟨fun k _ hk => hw.block k hk, fun _ hk _ => hk⟩))
    obtain ⟨np, nc, rfl, hn1, hn2, -⟩ := hNs
    obtain ⟨np', nc', rfl, hn1', hn2', -⟩ := hNs'
    have HEF := Lib.hid (fun w' (hw : Below w.heap.size w w') => Js.eqf_is S1 S2 ip ip' ic ic' xs xs' xs.length xs'.length w' rfl rfl (by
        rcases hit with h | ⟨b, o, h1, h2, h3⟩
        · exact .inl h
        · exact .inr ⟨b, o, h1, h2, (Js.LAt.move ⟨fun k _ hl => hw.block k hl, fun _ hk _ => hk⟩ xs b o h2 h3).1⟩) (by
        rcases hit' with h | ⟨b, o, h1, h2, h3⟩
        · exact .inl h
        · exact .inr ⟨b, o, h1, h2, (Js.LAt.move ⟨fun k _ hl => hw.block k hl, fun _ hk _ => hk⟩ xs' b o h2 h3).1⟩)
        (by have := Js.len_cntL xs; omega) (fun i g1 g2 nv iv nv' iv' w2 hw2 hx hy => ih xs[i] xs'[i] (by have := Js.cntL_part xs i g1; omega) (by omega) (by have := Js.cntL_part xs' i g2; omega) S1 S2 w2 nv iv nv' iv' hx hy))
    dsimp only [Js.V.kind, Js.V.text, Js.V.names, Js.V.items]
    obtain ⟨p1, hp1⟩ : ∃ p, (k == k') = p := ⟨_, rfl⟩
    obtain ⟨p2, hp2⟩ : ∃ p, (t == t') = p := ⟨_, rfl⟩
    obtain ⟨p3, hp3⟩ : ∃ p, decide (ns = ns') = p := ⟨_, rfl⟩
    obtain ⟨p4, hp4⟩ : ∃ p, Js.eqvL xs xs' = p := ⟨_, rfl⟩
    rw [hp1, hp2, hp3, hp4] at hQ
    rw [hp3] at HNE
    rw [hp4] at HEF
    have b1 : ((k : Int) == (k' : Int)) = p1 := by rw [← hp1, Bool.eq_iff_iff, beq_iff_eq, beq_iff_eq]; omega
    obtain ⟨n, hn⟩ : ∃ n, ns.length = n := ⟨_, rfl⟩
    obtain ⟨m, hm⟩ : ∃ m, xs.length = m := ⟨_, rfl⟩
    obtain ⟨n', hn'⟩ : ∃ n, ns'.length = n := ⟨_, rfl⟩
    obtain ⟨m', hm'⟩ : ∃ m, xs'.length = m := ⟨_, rfl⟩
    rw [hn, hn'] at HNE
    rw [hm, hm'] at HEF
    rw [hn, hm, hn', hm']
    have HQ := Lib.hid hQ
    have HB : Hid (Below w.heap.size w ((w.alloc (.cells #[.int .u8 k, .string t, .slice np n nc, .slice ip m ic] 27)).alloc (.cells #[.int .u8 k', .string t', .slice np' n' nc', .slice ip' m' ic'] 27))) := Rj.bel2 w _ _
    have b2 : (t.toList == t'.toList) = p2 := (Js.toList_beq t t').trans hp2
    clear hp1 hp2 hp3 hp4 hQ hn hm hn' hm' hit hit' hn1 hn2 hn1' hn2' hl1 hl2 hl1' hl2' hv hu ih
    go_enter Tryd.func19, Tryd.ntmps19
    cases p1
    case false =>
      have HE : Hid (Q = false) := HQ.out.symm
      go_wp2_with fail
      go_ret
      obtain rfl : Q = false := HE.out
      exact ⟨rfl, HB.out⟩
    cases p2
    case false =>
      have HE : Hid (Q = false) := HQ.out.symm
      go_wp2_with fail
      go_ret
      obtain rfl : Q = false := HE.out
      exact ⟨rfl, HB.out⟩
    cases p3
    case false =>
      have HE : Hid (Q = false) := HQ.out.symm
      go_wp2_with (go_at_call 55; refine (HNE.out _ HB.out).mono ?_)
      first | rintro e w2 rfl b2 | rintro e w2 ⟨rfl, b2⟩
      have HB2 := Lib.hid (HB.out.trans (b2.mono (by simp; omega)))
      clear b2
      go_wp2_with fail
      go_ret
      obtain rfl : Q = false := HE.out
      exact ⟨rfl, HB2.out⟩
    have HE : Hid (Q = p4) := HQ.out.symm
    have HX1 : Hid (((w.alloc (.cells #[.int .u8 k, .string t, .slice np n nc, .slice ip m ic] 27)).alloc (.cells #[.int .u8 k', .string t', .slice np' n' nc', .slice ip' m' ic'] 27)).heap[w.heap.size]? = some (.cells #[.int .u8 k, .string t, .slice np n nc, .slice ip m ic] 27)) := alloc_kept (alloc_new _ _)
    have HX2 : Hid (((w.alloc (.cells #[.int .u8 k, .string t, .slice np n nc, .slice ip m ic] 27)).alloc (.cells #[.int .u8 k', .string t', .slice np' n' nc', .slice ip' m' ic'] 27)).heap[w.heap.size + 1]? = some (.cells #[.int .u8 k', .string t', .slice np' n' nc', .slice ip' m' ic'] 27)) := Rj.new2 w _ _
    go_wp2_with (go_at_call 55; refine (HNE.out _ HB.out).mono ?_)
    first | rintro e w2 rfl b2 | rintro e w2 ⟨rfl, b2⟩
    have HB2 := Lib.hid (HB.out.trans (b2.mono (by simp; omega)))
    have c3 : w2.cell? ⟨w.heap.size, 3, none⟩ = some (.slice ip m ic) := by rw [Lib.cell_of_heap ((b2.block _ (lt_of_heap HX1.out)).trans HX1.out)]; rfl
    have c3' : w2.cell? ⟨w.heap.size + 1, 3, none⟩ = some (.slice ip' m' ic') := by rw [Lib.cell_of_heap ((b2.block _ (lt_of_heap HX2.out)).trans HX2.out)]; rfl
    have hz2 := HB2.out.size
    clear b2 HX1 HX2 HNE HB
    go_wp2_with (go_at_call 56; refine (HEF.out _ HB2.out).mono ?_)
    first | rintro e w3 rfl b3 | rintro e w3 ⟨rfl, b3⟩
    have HB3 := Lib.hid (HB2.out.trans (b3.mono hz2))
    clear b3
    go_wp2_with fail
    go_ret
    obtain rfl : Q = p4 := HE.out
    exact ⟨rfl, HB3.out⟩
end Go.Proofs.YtmmijebekipdeaaDoor
