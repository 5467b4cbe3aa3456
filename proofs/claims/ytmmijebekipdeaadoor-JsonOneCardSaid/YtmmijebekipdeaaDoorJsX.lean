/- slices.IndexFunc, ContainsFunc at values with fits' function; the contract of json.fits. -/
import Derived.Test.YtmmijebekipdeaaDoorJsT
import Derived.Test.YtmmijebekipdeaaDoorJsE
namespace Go.Proofs.YtmmijebekipdeaaDoor
open Go.RowKit
set_option maxRecDepth 100000

/-- items at a place -/
def Js.IsAt (S : Nat → Prop) (w : World) (p : Option Addr) (xs : List Js.V) : Prop := xs = [] ∨ ∃ b o, p = some ⟨b, o, none⟩ ∧ S b ∧ Js.LAt S w xs b o
theorem Js.first_ix (f : Nat → Bool) (n : Nat) (q : Bool) (h1 : ∀ k, k < n → f k = true → q = true) (h2 : (∀ j, j < n → f j = false) → q = false) :
    ∃ r : Int, (∀ k, k < n → (∀ j, j < k → f j = false) → f k = true → r = k) ∧ ((∀ j, j < n → f j = false) → r = -1) ∧ ((decide (0 ≤ r)) = q) := by
  by_cases hf : ∃ k, k < n ∧ f k = true
  · have key : ∀ m k, k ≤ m → k < n → f k = true → ∃ j, j < n ∧ (∀ i, i < j → f i = false) ∧ f j = true := by
      intro m
      induction m with
      | zero => intro k hk hn hfk; exact ⟨k, hn, fun i hi => by omega, hfk⟩
      | succ m ih =>
        intro k hk hn hfk
        by_cases h0 : ∃ i, i < k ∧ f i = true
        · obtain ⟨i, hi, hfi⟩ := h0
          exact ih i (by omega) (by omega) hfi
        · exact ⟨k, hn, fun i hi => by cases hb : f i with | false => rfl | true => exact absurd ⟨i, hi, hb⟩ h0, hfk⟩
    obtain ⟨k, hk, hfk⟩ := hf
    obtain ⟨j, hj, hall, hfj⟩ := key k k (Nat.le_refl _) hk hfk
    refine ⟨(j : Int), ?_, ?_, ?_⟩
    · intro m hm hm2 hm3
      have : m = j := Nat.le_antisymm (Nat.le_of_not_lt fun hh => by rw [hm2 j hh] at hfj; cases hfj) (Nat.le_of_not_lt fun hh => by rw [hall m hh] at hm3; cases hm3)
      rw [this]
    · intro h
      rw [h j hj] at hfj; cases hfj
    · rw [h1 j hj hfj, decide_eq_true_eq]; omega
  · have hall : ∀ j, j < n → f j = false := fun j hj => by cases hb : f j with | false => rfl | true => exact absurd ⟨j, hj, hb⟩ hf
    refine ⟨-1, ?_, ?_, ?_⟩
    · intro k hk _ hfk
      rw [hall k hk] at hfk; cases hfk
    · intro _; rfl
    · rw [h2 hall]; rfl

set_option maxHeartbeats 1600000 in
theorem Js.idx_is (S : Nat → Prop) (p : Option Addr) (xs : List Js.V) (n c : Nat) (f : Nat → Bool) (r : Int) (w : World) (hn : xs.length = n) (hA : Js.IsAt S w p xs) (hl : n ≤ 4611686018427387904)
    (HG : ∀ i (h : i < xs.length) (nv iv : Value) w', Below w.heap.size w w' → Js.VAt S w' xs[i] nv iv → Calls Tryd.prog 87 #[.agg #[.int .u8 xs[i].kind, .string xs[i].text, nv, iv]] w' fun e w'' => e = .returned (.bool (f i)) ∧ Below w'.heap.size w' w'')
    (h1 : ∀ k, k < n → (∀ j, j < k → f j = false) → f k = true → r = k) (h2 : (∀ j, j < n → f j = false) → r = -1) :
    Calls Tryd.prog 108 #[.slice p n c, .func (.func 87) #[] #[]] w fun e w' => e = .returned (.int .i64 r) ∧ Below w.heap.size w w' := by
  have HN := Lib.hid hn
  have HA := Lib.hid hA
  have HG := Lib.hid HG
  have H1 := Lib.hid h1
  have H2 := Lib.hid h2
  clear hn hA h1 h2
  go_enter Tryd.func108, Tryd.ntmps108
  go_wp2_with fail
  go_loopw [8] (fun i wr => ∃ k : Nat, k ≤ n ∧ i = .int .i64 (k : Int) ∧ Hid (∀ j, j < k → f j = false) ∧ Hid (Below w.heap.size w wr)) (fun i _ => n - (intOf i).toNat)
  case atStart => exact ⟨0, Nat.zero_le _, rfl, fun j hj => absurd hj (Nat.not_lt_zero _), Below.refl _ _⟩
  case round =>
    obtain ⟨k, hk, rfl, HF, HB⟩ := hrel
    by_cases hlt : k < n
    · have hnl : xs.length = n := HN.out
      have hkl : k < xs.length := by omega
      rcases HA.out with rfl | ⟨b, o, rfl, hS, hL⟩
      · simp at hkl
      obtain ⟨nv2, iv2, d0, d1, d2, d3, hX⟩ := Js.LAt.get xs b o k hkl hL
      have hG := HG.out k hkl nv2 iv2 wr HB.out (hX.later HB.out)
      obtain ⟨np2, nc2, ip2, ic2, rfl, rfl, -, -⟩ := hX.shape
      have HX := Lib.hid hG
      clear hG
      replace d0 := cell_later HB.out d0 (Nat.le_refl _)
      replace d1 := cell_later HB.out d1 (Nat.le_refl _)
      replace d2 := cell_later HB.out d2 (Nat.le_refl _)
      replace d3 := cell_later HB.out d3 (Nat.le_refl _)
      obtain ⟨x, hx⟩ : ∃ x, xs[k] = x := ⟨_, rfl⟩
      obtain ⟨bq, hbq⟩ : ∃ bq, f k = bq := ⟨_, rfl⟩
      have HBQ := Lib.hid hbq
      rw [hx] at d0 d1 d2 d3
      rw [hx, hbq] at HX
      have n1 : (0 : Int) ≤ (k : Int) := by omega
      have n2 : (k : Int) < (n : Int) := by omega
      clear hx hX hL hS hbq hnl hkl
      go_wp2_with (go_at_call 87; refine HX.out.mono ?_)
      first | rintro e w3 rfl hb3 | rintro e w3 ⟨rfl, hb3⟩
      have hb4 : Below w.heap.size w w3 := HB.out.trans (hb3.mono HB.out.size)
      clear hb3
      cases bq
      · go_wp2_with fail
        go_roundw
        case rel => exact ⟨k + 1, by omega, by go_num, (fun j hj => by by_cases e : j = k; (subst e; exact HBQ.out); exact HF.out j (by omega)), hb4⟩
        case measure => simp [intOf]; omega
      · obtain rfl := H1.out k hlt HF.out HBQ.out
        go_wp2_with fail
        go_ret
        exact ⟨rfl, hb4⟩
    · have n2 : (n : Int) ≤ (k : Int) := by omega
      obtain rfl := H2.out (fun j hj => HF.out j (by omega))
      go_wp2_with fail
      go_ret
      exact ⟨rfl, HB.out⟩

set_option maxHeartbeats 1600000 in
theorem Js.con_is (S : Nat → Prop) (p : Option Addr) (xs : List Js.V) (n c : Nat) (f : Nat → Bool) (q : Bool) (w : World) (hn : xs.length = n) (hA : Js.IsAt S w p xs) (hl : n ≤ 4611686018427387904)
    (HG : ∀ i (h : i < xs.length) (nv iv : Value) w', Below w.heap.size w w' → Js.VAt S w' xs[i] nv iv → Calls Tryd.prog 87 #[.agg #[.int .u8 xs[i].kind, .string xs[i].text, nv, iv]] w' fun e w'' => e = .returned (.bool (f i)) ∧ Below w'.heap.size w' w'')
    (h1 : ∀ k, k < n → f k = true → q = true) (h2 : (∀ j, j < n → f j = false) → q = false) :
    Calls Tryd.prog 86 #[.slice p n c, .func (.func 87) #[] #[]] w fun e w' => e = .returned (.bool q) ∧ Below w.heap.size w w' := by
  obtain ⟨r, hr1, hr2, hr3⟩ := Js.first_ix f n q h1 h2
  have HI := Lib.hid (Js.idx_is S p xs n c f r w hn hA hl HG hr1 hr2)
  have q1 : decide (r ≥ 0) = q := hr3
  clear hn hA HG h1 h2 hr1 hr2 hr3
  go_enter Tryd.func86, Tryd.ntmps86
  go_wp2_with (go_at_call 108; refine HI.out.mono ?_)
  first | rintro e w3 rfl hb3 | rintro e w3 ⟨rfl, hb3⟩
  go_wp2_with fail
  go_ret
  exact ⟨rfl, hb3⟩

/-- strings of a size that numbers are read of -/
def Js.szNs (ns : List ByteArray) : Prop := ns.length ≤ 1000000 ∧ ∀ x ∈ ns, x.size ≤ 1000000
mutual
def Js.sz : Js.V → Prop
  | .mk _ t ns xs => t.size ≤ 1000000 ∧ Js.szNs ns ∧ Js.szL xs
def Js.szL : List Js.V → Prop
  | [] => True
  | x :: r => Js.sz x ∧ Js.szL r
end
theorem Js.len_cntL : ∀ xs : List Js.V, xs.length ≤ Js.cntL xs
  | [] => Nat.zero_le _
  | .mk k t ns ys :: r => by
    have := Js.len_cntL r
    rw [Js.cntL, Js.cnt, List.length_cons]
    omega
theorem Js.szL_get : ∀ (xs : List Js.V) (i : Nat) (h : i < xs.length), Js.szL xs → Js.sz xs[i]
  | x :: r, 0, _, hf => by rw [Js.szL] at hf; exact hf.1
  | x :: r, i + 1, h, hf => by rw [Js.szL] at hf; exact Js.szL_get r i (by simpa using h) hf.2
theorem Js.fitL_all : ∀ (xs : List Js.V), (∀ i (h : i < xs.length), Js.fit xs[i] = true) → Js.fitL xs = true
  | [], _ => by rw [Js.fitL]
  | x :: r, h => by
    rw [Js.fitL, Bool.and_eq_true]
    exact ⟨h 0 (by simp), Js.fitL_all r fun i hi => h (i + 1) (by simpa using hi)⟩
theorem Js.okNs_drop (ns : List ByteArray) (i : Nat) (h : i < ns.length) : Js.okNs (ns.take i) (ns.drop i) = ((Js.bad8 ns[i]).isNone && !(ns.take i).contains ns[i] && Js.okNs (ns.take (i + 1)) (ns.drop (i + 1))) := by
  rw [List.drop_eq_getElem_cons h, Js.okNs, List.take_succ_eq_append_getElem h]
/-- slices.Contains at names, at any place -/
theorem Js.contains_at (p : Option Addr) (n c : Nat) (ns : List ByteArray) (x : ByteArray) (w : World) (hn : ns.length = n) (hc : n ≤ c) (hm : c ≤ maxLen) (hA : ns = [] ∨ ∃ b o, p = some ⟨b, o, none⟩ ∧ ∀ i (h : i < ns.length), w.cell? ⟨b, o + i, none⟩ = some (.string ns[i])) :
    Calls Tryd.prog 85 #[.slice p n c, .string x] w fun e w' => e = .returned (.bool (ns.contains x)) ∧ w' = w := by
  subst hn
  have hb : Lib.containsS (ns.take ns.length) x = ns.contains x := by
    rw [List.take_length]
    by_cases hx : x ∈ ns
    · rw [(Js.has_iff x ns).2 hx, Lib.containsS_iff]; exact hx
    · rw [Bool.eq_iff_iff, Lib.containsS_iff, Js.has_iff]
  rcases hA with rfl | ⟨b, o, rfl, hA⟩
  · exact Tryd.slices_Contains_string_empty p c x w
  · have h9 := Tryd.slices_Contains_string b o ns.length c ns x w (Nat.le_refl _) (by unfold maxLen at hm; omega) (fun j hj => by
      rw [hA j hj]
      simp [List.getD_eq_getElem?_getD, hj])
    rw [hb] at h9
    exact h9

set_option maxHeartbeats 1600000 in
theorem Js.notfit_is (v : Js.V) (nv iv : Value) (w : World) (q : Bool) (p ic : _) (n nc : _) (np : Option Addr) (hnv : nv = .slice np n nc) (m : Nat) (hiv : iv = .slice p m ic)
    (HF : ∀ w', Below w.heap.size w w' → Calls Tryd.prog 57 #[.agg #[.int .u8 v.kind, .string v.text, nv, iv]] w' fun e w'' => e = .returned (.bool q) ∧ Below w'.heap.size w' w'') :
    Calls Tryd.prog 87 #[.agg #[.int .u8 v.kind, .string v.text, nv, iv]] w fun e w' => e = .returned (.bool (!q)) ∧ Below w.heap.size w w' := by
  subst hnv hiv
  have HB : Hid (Below w.heap.size w (w.alloc (.cells #[.int .u8 v.kind, .string v.text, .slice np n nc, .slice p m ic] 27))) := (Below.refl _ w).alloc (Nat.le_refl _) _
  have HG := Lib.hid HF
  clear HF
  go_enter Tryd.func87, Tryd.ntmps87
  go_wp2_with (go_at_call 57; refine (HG.out _ HB.out).mono ?_)
  first | rintro e w2 rfl b2 | rintro e w2 ⟨rfl, b2⟩
  have HC := Lib.hid (HB.out.trans (b2.mono (by simp)))
  clear b2
  go_wp2_with fail
  go_ret
  exact ⟨rfl, HC.out⟩

set_option maxHeartbeats 8000000 in
theorem Js.fits_is : ∀ (N : Nat) (v : Js.V), Js.cnt v ≤ N → N ≤ 4611686018427387904 → Js.sz v → ∀ (S : Nat → Prop) (w : World) (nv iv : Value), Lib.Utf8Tabs 0 1 w → Js.VAt S w v nv iv →
    Calls Tryd.prog 57 #[.agg #[.int .u8 v.kind, .string v.text, nv, iv]] w fun e w' => e = .returned (.bool (Js.fit v)) ∧ Below w.heap.size w w' := by
  intro N
  induction N with
  | zero => intro v hv; obtain ⟨k, t, ns, xs⟩ := v; unfold Js.cnt at hv; omega
  | succ N ih =>
    intro v hv hN hz S w nv iv hT hA
    obtain ⟨k, t, ns, xs⟩ := v
    obtain ⟨Q, hQ⟩ : ∃ Q, Js.fit (.mk k t ns xs) = Q := ⟨_, rfl⟩
    rw [hQ]
    rw [Js.fit] at hQ
    rw [Js.sz] at hz
    rw [Js.cnt] at hv
    unfold Js.VAt at hA
    obtain ⟨hNs, ip, ic, rfl, hl1, hl2, hit⟩ := hA
    obtain ⟨np, nc, rfl, hn1, hn2, hns⟩ := hNs
    obtain ⟨hz1, hz2, hz3⟩ := hz
    dsimp only [Js.V.kind, Js.V.text, Js.V.names, Js.V.items]
    obtain ⟨n, hn⟩ : ∃ n, ns.length = n := ⟨_, rfl⟩
    obtain ⟨m, hm⟩ : ∃ m, xs.length = m := ⟨_, rfl⟩
    obtain ⟨tb, ht⟩ : ∃ tb, decide (0 < t.size) = tb := ⟨_, rfl⟩
    obtain ⟨nb, hb⟩ : ∃ nb, decide (0 < n) = nb := ⟨_, rfl⟩
    obtain ⟨ib, hi⟩ : ∃ ib, decide (0 < m) = ib := ⟨_, rfl⟩
    have et : (t.size == 0) = !tb := by rw [← ht]; rw [Bool.eq_iff_iff, beq_iff_eq, Bool.not_eq_true', decide_eq_false_iff_not]; omega
    have en : (ns.length == 0) = !nb := by rw [← hb, hn]; rw [Bool.eq_iff_iff, beq_iff_eq, Bool.not_eq_true', decide_eq_false_iff_not]; omega
    have ei : (xs.length == 0) = !ib := by rw [← hi, hm]; rw [Bool.eq_iff_iff, beq_iff_eq, Bool.not_eq_true', decide_eq_false_iff_not]; omega
    rw [et, en, ei] at hQ
    rw [hn, hm]
    rw [hn] at hn1 hQ
    rw [hm] at hl1 hQ
    have HN := Lib.hid hn
    have HM := Lib.hid hm
    have HI := Lib.hid hit
    have HS := Lib.hid hns
    have HT := Lib.hid hT
    have HQ := Lib.hid hQ
    have HZ2 := Lib.hid hz2
    have HZ3 := Lib.hid hz3
    have HV : Hid (1 + Js.cntL xs ≤ N + 1) := hv
    have HI2 := Lib.hid ih
    clear hn hm hit hns hT hQ et en ei hz2 hz3 hv ih
    have HX : Hid ((w.alloc (.cells #[.int .u8 k, .string t, .slice np n nc, .slice ip m ic] 27)).heap[w.heap.size]? = some (.cells #[.int .u8 k, .string t, .slice np n nc, .slice ip m ic] 27)) := alloc_new _ _
    have HB : Hid (Below w.heap.size w (w.alloc (.cells #[.int .u8 k, .string t, .slice np n nc, .slice ip m ic] 27))) := (Below.refl _ w).alloc (Nat.le_refl _) _
    have hs9 : t.size ≤ 9223372036854775807 := by omega
    have hn9 : n ≤ 9223372036854775807 := by unfold maxLen at hn2; omega
    have hm9 : m ≤ 9223372036854775807 := by unfold maxLen at hl2; omega
    go_enter Tryd.func57, Tryd.ntmps57
    go_wp2_with fail
    go_quiet (fail)
    have HX1 : Hid (((w.alloc (.cells #[.int .u8 k, .string t, .slice np n nc, .slice ip m ic] 27)).drewN nq).heap[w.heap.size]? = some (.cells #[.int .u8 k, .string t, .slice np n nc, .slice ip m ic] 27)) := by show _ = _; simpa using HX.out
    have HB1 : Hid (Below w.heap.size w ((w.alloc (.cells #[.int .u8 k, .string t, .slice np n nc, .slice ip m ic] 27)).drewN nq)) := below_drewN HB.out nq
    have HT1 : Hid (Lib.Utf8Tabs 0 1 ((w.alloc (.cells #[.int .u8 k, .string t, .slice np n nc, .slice ip m ic] 27)).drewN nq)) := Utf8Tabs_below HT.out HB1.out
    clear HX HB HT
    obtain ⟨W1, hW1⟩ : ∃ W1, (w.alloc (.cells #[.int .u8 k, .string t, .slice np n nc, .slice ip m ic] 27)).drewN nq = W1 := ⟨_, rfl⟩
    rw [hW1] at HX1 HB1 HT1
    rw [hW1]
    clear hW1
    have c0 : W1.cell? ⟨w.heap.size, 0, none⟩ = some (.int .u8 k) := by rw [Lib.cell_of_heap HX1.out]; rfl
    have c1 : W1.cell? ⟨w.heap.size, 1, none⟩ = some (.string t) := by rw [Lib.cell_of_heap HX1.out]; rfl
    have c2 : W1.cell? ⟨w.heap.size, 2, none⟩ = some (.slice np n nc) := by rw [Lib.cell_of_heap HX1.out]; rfl
    have c3 : W1.cell? ⟨w.heap.size, 3, none⟩ = some (.slice ip m ic) := by rw [Lib.cell_of_heap HX1.out]; rfl
    have hzW := HB1.out.size
    by_cases h1 : k = 1
    · have HE : Hid (Q = (!tb && !nb && !ib)) := by have h9 : _ = Q := HQ.out; rw [if_pos (by omega)] at h9; exact h9.symm
      have k1 : ((k : Int) == 1) = true := Js.beq_t (by omega)
      clear h1 HQ
      cases tb <;> cases nb <;> cases ib
      all_goals
        go_wp2_with fail
        go_ret
        obtain rfl : Q = _ := HE.out
        exact ⟨rfl, HB1.out⟩
    by_cases h2 : k = 2
    · have HE : Hid (Q = (!tb && !nb && !ib)) := by have h9 : _ = Q := HQ.out; rw [if_pos (by omega)] at h9; exact h9.symm
      have k1 : ((k : Int) == 1) = false := Js.beq_f (by omega)
      have k2 : ((k : Int) == 2) = true := Js.beq_t (by omega)
      clear h1 h2 HQ
      cases tb <;> cases nb <;> cases ib
      all_goals
        go_wp2_with fail
        go_ret
        obtain rfl : Q = _ := HE.out
        exact ⟨rfl, HB1.out⟩
    by_cases h3 : k = 3
    · have HE : Hid (Q = (!tb && !nb && !ib)) := by have h9 : _ = Q := HQ.out; rw [if_pos (by omega)] at h9; exact h9.symm
      have k1 : ((k : Int) == 1) = false := Js.beq_f (by omega)
      have k2 : ((k : Int) == 2) = false := Js.beq_f (by omega)
      have k3 : ((k : Int) == 3) = true := Js.beq_t (by omega)
      clear h1 h2 h3 HQ
      cases tb <;> cases nb <;> cases ib
      all_goals
        go_wp2_with fail
        go_ret
        obtain rfl : Q = _ := HE.out
        exact ⟨rfl, HB1.out⟩
    by_cases h4 : k = 4
    · have HE0 : Hid (Q = (Js.isNum t && !nb && !ib)) := by have h9 : _ = Q := HQ.out; rw [if_neg (by omega), if_pos h4] at h9; exact h9.symm
      have k1 : ((k : Int) == 1) = false := Js.beq_f (by omega)
      have k2 : ((k : Int) == 2) = false := Js.beq_f (by omega)
      have k3 : ((k : Int) == 3) = false := Js.beq_f (by omega)
      have k4 : ((k : Int) == 4) = true := Js.beq_t (by omega)
      clear h1 h2 h3 h4 HQ
      have HC := Lib.hid (Js.jnumber_is t W1 hz1)
      obtain ⟨q, hq⟩ : ∃ q, Js.isNum t = q := ⟨_, rfl⟩
      rw [hq] at HE0 HC
      clear hq
      cases q <;> cases nb <;> cases ib
      all_goals
        go_wp2_with (go_at_call 43; refine HC.out.mono ?_)
        first | rintro e w2 rfl b2 | rintro e w2 ⟨rfl, b2⟩
        have HB2 := Lib.hid (HB1.out.trans (b2.mono hzW))
        clear b2
        go_wp2_with fail
        go_ret
        obtain rfl : Q = _ := HE0.out
        exact ⟨rfl, HB2.out⟩
    by_cases h5 : k = 5
    · have HE0 : Hid (Q = ((Js.bad8 t).isNone && !nb && !ib)) := by have h9 : _ = Q := HQ.out; rw [if_neg (by omega), if_neg (by omega), if_pos h5] at h9; exact h9.symm
      have k1 : ((k : Int) == 1) = false := Js.beq_f (by omega)
      have k2 : ((k : Int) == 2) = false := Js.beq_f (by omega)
      have k3 : ((k : Int) == 3) = false := Js.beq_f (by omega)
      have k4 : ((k : Int) == 4) = false := Js.beq_f (by omega)
      have k5 : ((k : Int) == 5) = true := Js.beq_t (by omega)
      clear h1 h2 h3 h4 h5 HQ
      have HC := Lib.hid (Js.validString_is t W1 (by unfold maxLen; omega) HT1.out)
      obtain ⟨q, hq⟩ : ∃ q, (Js.bad8 t).isNone = q := ⟨_, rfl⟩
      rw [hq] at HE0 HC
      clear hq
      cases q <;> cases nb <;> cases ib
      all_goals
        go_wp2_with (go_at_call 26; refine HC.out.mono ?_)
        first | rintro e w2 rfl b2 | rintro e w2 ⟨rfl, b2⟩
        have HB2 := Lib.hid (HB1.out.trans (b2.mono hzW))
        clear b2
        go_wp2_with fail
        go_ret
        obtain rfl : Q = _ := HE0.out
        exact ⟨rfl, HB2.out⟩
    by_cases h6 : k = 6
    · have HE0 : Hid (Q = (!tb && !nb && Js.fitL xs)) := by have h9 : _ = Q := HQ.out; rw [if_neg (by omega), if_neg (by omega), if_neg (by omega), if_pos h6] at h9; exact h9.symm
      have k1 : ((k : Int) == 1) = false := Js.beq_f (by omega)
      have k2 : ((k : Int) == 2) = false := Js.beq_f (by omega)
      have k3 : ((k : Int) == 3) = false := Js.beq_f (by omega)
      have k4 : ((k : Int) == 4) = false := Js.beq_f (by omega)
      have k5 : ((k : Int) == 5) = false := Js.beq_f (by omega)
      have k6 : ((k : Int) == 6) = true := Js.beq_t (by omega)
      clear h1 h2 h3 h4 h5 h6 HQ
      cases tb
      case true =>
        have HE : Hid (Q = false) := HE0.out
        go_wp2_with fail
        go_ret
        obtain rfl : Q = false := HE.out
        exact ⟨rfl, HB1.out⟩
      cases nb
      case true =>
        have HE : Hid (Q = false) := HE0.out
        go_wp2_with fail
        go_ret
        obtain rfl : Q = false := HE.out
        exact ⟨rfl, HB1.out⟩
      have HE : Hid (Q = Js.fitL xs) := HE0.out
      clear HE0
      obtain ⟨q, hq⟩ : ∃ q, Js.fitL xs = q := ⟨_, rfl⟩
      have hql : ∀ j, j < m → (!((xs.map Js.fit).getD j true)) = true → (!q) = true := by
        intro j hj hf
        have hjx : j < xs.length := by have h9 : xs.length = m := HM.out; omega
        cases q with
        | false => rfl
        | true =>
          have h8 := Js.fitL_get xs j hjx hq
          rw [List.getD_eq_getElem?_getD, List.getElem?_map, List.getElem?_eq_getElem hjx] at hf
          simp [h8] at hf
      have hqn : (∀ j, j < m → (!((xs.map Js.fit).getD j true)) = false) → (!q) = false := by
        intro hall
        rw [← hq, Js.fitL_all xs (fun i hi => ?_)]
        · rfl
        · have h8 := hall i (by have h9 : xs.length = m := HM.out; omega)
          rw [List.getD_eq_getElem?_getD, List.getElem?_map, List.getElem?_eq_getElem hi] at h8
          simpa using h8
      have HF := Lib.hid (Js.con_is S ip xs m ic (fun j => !((xs.map Js.fit).getD j true)) (!q) W1 HM.out (by
          rcases HI.out with h | ⟨b, o, h1, h2, h3⟩
          · exact .inl h
          · exact .inr ⟨b, o, h1, h2, (Js.LAt.move ⟨fun k hk hl => HB1.out.block k hl, fun _ hk _ => hk⟩ xs b o h2 h3).1⟩) (by have h9 : 1 + Js.cntL xs ≤ N + 1 := HV.out; have h8 := Js.len_cntL xs; have h7 : xs.length = m := HM.out; omega)
        (fun i hi nv iv w' hw hv => by
          obtain ⟨np2, nc2, ip2, ic2, rfl, rfl, -, -⟩ := hv.shape
          have hp := Js.cntL_part xs i hi
          have hV : 1 + Js.cntL xs ≤ N + 1 := HV.out
          have h7 := Js.notfit_is xs[i] _ _ w' (Js.fit xs[i]) ip2 ic2 _ nc2 np2 rfl _ rfl (fun w2 hw2 => HI2.out xs[i] (by omega) (by omega) (Js.szL_get xs i hi HZ3.out) S w2 _ _ (Utf8Tabs_below HT1.out (hw.trans (hw2.mono hw.size))) (hv.later hw2))
          rw [show (!((xs.map Js.fit).getD i true)) = !(Js.fit xs[i]) by rw [List.getD_eq_getElem?_getD, List.getElem?_map, List.getElem?_eq_getElem hi]; rfl]
          exact h7) hql hqn)
      have HE2 : Hid (Q = q) := by have h9 : Q = _ := HE.out; rw [hq] at h9; exact h9
      clear hq hql hqn HE
      go_wp2_with (go_at_call 86; refine HF.out.mono ?_)
      first | rintro e w2 rfl b2 | rintro e w2 ⟨rfl, b2⟩
      have HB2 := Lib.hid (HB1.out.trans (b2.mono hzW))
      clear b2
      go_wp2_with fail
      go_ret
      obtain rfl : Q = q := HE2.out
      exact ⟨by first | rfl | rw [Bool.not_not], HB2.out⟩
    by_cases h7 : k = 7
    · have HE0 : Hid (Q = (!tb && n == m && Js.okNs [] ns && Js.fitL xs)) := by have h9 : _ = Q := HQ.out; rw [if_neg (by omega), if_neg (by omega), if_neg (by omega), if_neg (by omega), if_pos h7] at h9; exact h9.symm
      have k1 : ((k : Int) == 1) = false := Js.beq_f (by omega)
      have k2 : ((k : Int) == 2) = false := Js.beq_f (by omega)
      have k3 : ((k : Int) == 3) = false := Js.beq_f (by omega)
      have k4 : ((k : Int) == 4) = false := Js.beq_f (by omega)
      have k5 : ((k : Int) == 5) = false := Js.beq_f (by omega)
      have k6 : ((k : Int) == 6) = false := Js.beq_f (by omega)
      have k7 : ((k : Int) == 7) = true := Js.beq_t (by omega)
      clear h1 h2 h3 h4 h5 h6 h7 HQ
      cases tb
      case true =>
        have HE : Hid (Q = false) := by have h9 : Q = _ := HE0.out; rw [h9]; rfl
        go_wp2_with fail
        go_ret
        obtain rfl : Q = false := HE.out
        exact ⟨rfl, HB1.out⟩
      by_cases hnm : n = m
      case neg =>
        have HE : Hid (Q = false) := by have h9 : Q = _ := HE0.out; rw [h9, show (n == m) = false from by rw [beq_eq_false_iff_ne]; exact hnm]; rfl
        have bnm : ((n : Int) == (m : Int)) = false := Js.beq_f (by omega)
        go_wp2_with fail
        go_ret
        obtain rfl : Q = false := HE.out
        exact ⟨rfl, HB1.out⟩
      have HE1 : Hid (Q = (Js.okNs [] ns && Js.fitL xs)) := by have h9 : Q = _ := HE0.out; rw [h9, show (n == m) = true from by rw [beq_iff_eq]; exact hnm]; rfl
      have bnm : ((n : Int) == (m : Int)) = true := Js.beq_t (by omega)
      have bne : ((n : Int) != (m : Int)) = false := by rw [bne, bnm]; rfl
      have HNM := Lib.hid hnm
      clear hnm HE0
      obtain ⟨oN, hoN⟩ : ∃ oN, Js.okNs [] ns = oN := ⟨_, rfl⟩
      rw [hoN] at HE1
      have HO := Lib.hid hoN
      clear hoN
      go_wp2_with fail
      go_loopw [83] (fun iv wr => ∃ i : Nat, i ≤ n ∧ iv = .int .i64 i ∧ Hid (Js.okNs (ns.take i) (ns.drop i) = oN) ∧ Hid (Below W1.heap.size W1 wr)) (fun iv _ => n - (intOf iv).toNat)
      case atStart => exact ⟨0, Nat.zero_le _, rfl, by show Js.okNs (ns.take 0) (ns.drop 0) = oN; rw [List.take_zero, List.drop_zero]; exact HO.out, Below.refl _ _⟩
      case round =>
        clear HO
        obtain ⟨i, hi9, rfl, HO, HBw⟩ := hrel
        have hzr := HBw.out.size
        have HBr := Lib.hid (HB1.out.trans (HBw.out.mono hzW))
        have HXr := Lib.hid ((HBw.out.block _ (lt_of_heap HX1.out)).trans HX1.out)
        have d2 : wr.cell? ⟨w.heap.size, 2, none⟩ = some (.slice np n nc) := by rw [Lib.cell_of_heap HXr.out]; rfl
        have d3 : wr.cell? ⟨w.heap.size, 3, none⟩ = some (.slice ip m ic) := by rw [Lib.cell_of_heap HXr.out]; rfl
        have HTr := Lib.hid (Utf8Tabs_below HT1.out HBw.out)
        by_cases h : i < n
        · have g1 : (i : Int) < n := by omega
          have g0 : (0 : Int) ≤ i := by omega
          have hnl : ns.length = n := HN.out
          have hix : i < ns.length := by omega
          rcases HS.out with rfl | ⟨bn, on, rfl, hSn, hc⟩
          · simp at hix
          have n0 := cell_later HBr.out (hc i hix) (Nat.le_refl _)
          have hok := Js.okNs_drop ns i hix
          have hsz := HZ2.out.2 ns[i] (List.getElem_mem hix)
          have HCn := Lib.hid (fun (x : ByteArray) => Js.contains_at (some ⟨bn, on, none⟩) i nc (ns.take i) x)
          have hcon := fun (x : ByteArray) (w' : World) (hw : Below wr.heap.size wr w') => Js.contains_at (some ⟨bn, on, none⟩) i nc (ns.take i) x w' (by rw [List.length_take]; omega) (by omega) hn2 (.inr ⟨bn, on, rfl, fun j hj => by
            rw [List.length_take] at hj
            have h8 := cell_later HBr.out (hc j (by omega)) (Nat.le_refl _)
            rw [List.getElem_take]
            exact cell_later hw h8 (Nat.le_refl _)⟩)
          clear HCn
          obtain ⟨x, hx⟩ : ∃ x, ns[i] = x := ⟨_, rfl⟩
          rw [hx] at n0 hok hsz
          have HV2 := Lib.hid (Js.validString_is x wr (by unfold maxLen; omega) HTr.out)
          have HCo := Lib.hid (hcon x)
          obtain ⟨p, hp⟩ : ∃ p, (Js.bad8 x).isNone = p := ⟨_, rfl⟩
          obtain ⟨q, hq⟩ : ∃ q, (ns.take i).contains x = q := ⟨_, rfl⟩
          rw [hp] at HV2
          rw [hq] at HCo
          have HO2 : Hid ((p && !q && Js.okNs (ns.take (i + 1)) (ns.drop (i + 1))) = oN) := by have h9 : _ = oN := HO.out; rw [hok, hp, hq] at h9; exact h9
          have hb1 : (i : Int) ≤ n := by omega
          have hb2 : (i : Int) ≤ nc := by omega
          have hb3 : (n : Int) ≤ nc := by omega
          clear hx hok hcon hp hq HO hc hSn hnl hix hsz
          cases p
          case false =>
            have HE : Hid (Q = false) := by have h9 : Q = _ := HE1.out; rw [h9, show oN = false from HO2.out.symm]; rfl
            go_wp2_with (go_at_call 26; refine HV2.out.mono ?_)
            first | rintro e w2 rfl b2 | rintro e w2 ⟨rfl, b2⟩
            have HB2 := Lib.hid (HBr.out.trans (b2.mono (by omega)))
            clear b2
            go_wp2_with fail
            go_ret
            obtain rfl : Q = false := HE.out
            exact ⟨rfl, HB2.out⟩
          case true =>
            go_wp2_with (go_at_call 26; refine HV2.out.mono ?_)
            first | rintro e w2 rfl b2 | rintro e w2 ⟨rfl, b2⟩
            have HBx := Lib.hid (HBw.out.trans (b2.mono (by omega)))
            have HB2 := Lib.hid (HBr.out.trans (b2.mono (by omega)))
            have HXs := Lib.hid ((b2.block _ (lt_of_heap HXr.out)).trans HXr.out)
            have e2 : w2.cell? ⟨w.heap.size, 2, none⟩ = some (.slice (some ⟨bn, on, none⟩) n nc) := by rw [Lib.cell_of_heap HXs.out]; rfl
            have HC2 := Lib.hid (HCo.out w2 b2)
            clear b2 HCo HV2
            cases q
            case false =>
              have HO3 : Hid (Js.okNs (ns.take (i + 1)) (ns.drop (i + 1)) = oN) := HO2.out
              go_wp2_with (go_at_call 85; refine HC2.out.mono ?_)
              try rintro _ _ ⟨rfl, rfl⟩
              go_wp2_with fail
              go_roundw
              case rel => exact ⟨i + 1, by omega, by go_num, HO3.out, HBx.out⟩
              case measure => simp [intOf]; omega
            case true =>
              have HE : Hid (Q = false) := by have h9 : Q = _ := HE1.out; rw [h9, show oN = false from HO2.out.symm]; rfl
              go_wp2_with (go_at_call 85; refine HC2.out.mono ?_)
              try rintro _ _ ⟨rfl, rfl⟩
              go_wp2_with fail
              go_ret
              obtain rfl : Q = false := HE.out
              exact ⟨rfl, HB2.out⟩
        · obtain rfl : i = n := by omega
          have g1 : ¬ (i : Int) < i := by omega
          have HE : Hid (Q = Js.fitL xs) := by
            have h9 : Q = _ := HE1.out
            have h8 : _ = oN := HO.out
            rw [List.drop_eq_nil_of_le (by have h7 : ns.length = i := HN.out; omega), Js.okNs] at h8
            rw [h9, ← h8]
            rfl
          clear HE1 HO
          obtain ⟨q, hq⟩ : ∃ q, Js.fitL xs = q := ⟨_, rfl⟩
          have hql : ∀ j, j < m → (!((xs.map Js.fit).getD j true)) = true → (!q) = true := by
            intro j hj hf
            have hjx : j < xs.length := by have h9 : xs.length = m := HM.out; omega
            cases q with
            | false => rfl
            | true =>
              have h8 := Js.fitL_get xs j hjx hq
              rw [List.getD_eq_getElem?_getD, List.getElem?_map, List.getElem?_eq_getElem hjx] at hf
              simp [h8] at hf
          have hqn : (∀ j, j < m → (!((xs.map Js.fit).getD j true)) = false) → (!q) = false := by
            intro hall
            rw [← hq, Js.fitL_all xs (fun i hi => ?_)]
            · rfl
            · have h8 := hall i (by have h9 : xs.length = m := HM.out; omega)
              rw [List.getD_eq_getElem?_getD, List.getElem?_map, List.getElem?_eq_getElem hi] at h8
              simpa using h8
          have HF := Lib.hid (Js.con_is S ip xs m ic (fun j => !((xs.map Js.fit).getD j true)) (!q) wr HM.out (by
              rcases HI.out with h | ⟨b, o, h1, h2, h3⟩
              · exact .inl h
              · exact .inr ⟨b, o, h1, h2, (Js.LAt.move ⟨fun k hk hl => HBr.out.block k hl, fun _ hk _ => hk⟩ xs b o h2 h3).1⟩) (by have h9 : 1 + Js.cntL xs ≤ N + 1 := HV.out; have h8 := Js.len_cntL xs; have h7 : xs.length = m := HM.out; omega)
            (fun i hi nv iv w' hw hv => by
              obtain ⟨np2, nc2, ip2, ic2, rfl, rfl, -, -⟩ := hv.shape
              have hp := Js.cntL_part xs i hi
              have hV : 1 + Js.cntL xs ≤ N + 1 := HV.out
              have h7 := Js.notfit_is xs[i] _ _ w' (Js.fit xs[i]) ip2 ic2 _ nc2 np2 rfl _ rfl (fun w2 hw2 => HI2.out xs[i] (by omega) (by omega) (Js.szL_get xs i hi HZ3.out) S w2 _ _ (Utf8Tabs_below HTr.out (hw.trans (hw2.mono hw.size))) (hv.later hw2))
              rw [show (!((xs.map Js.fit).getD i true)) = !(Js.fit xs[i]) by rw [List.getD_eq_getElem?_getD, List.getElem?_map, List.getElem?_eq_getElem hi]; rfl]
              exact h7) hql hqn)
          have HE2 : Hid (Q = q) := by have h9 : Q = _ := HE.out; rw [hq] at h9; exact h9
          clear hq hql hqn HE
          go_wp2_with (go_at_call 86; refine HF.out.mono ?_)
          first | rintro e w2 rfl b2 | rintro e w2 ⟨rfl, b2⟩
          have HB2 := Lib.hid (HBr.out.trans (b2.mono (by omega)))
          clear b2
          go_wp2_with fail
          go_ret
          obtain rfl : Q = q := HE2.out
          exact ⟨by first | rfl | rw [Bool.not_not], HB2.out⟩
    · have HE : Hid (Q = false) := by have h9 : _ = Q := HQ.out; rw [if_neg (by omega), if_neg (by omega), if_neg (by omega), if_neg (by omega), if_neg h7] at h9; exact h9.symm
      have k1 : ((k : Int) == 1) = false := Js.beq_f (by omega)
      have k2 : ((k : Int) == 2) = false := Js.beq_f (by omega)
      have k3 : ((k : Int) == 3) = false := Js.beq_f (by omega)
      have k4 : ((k : Int) == 4) = false := Js.beq_f (by omega)
      have k5 : ((k : Int) == 5) = false := Js.beq_f (by omega)
      have k6 : ((k : Int) == 6) = false := Js.beq_f (by omega)
      have k7 : ((k : Int) == 7) = false := Js.beq_f (by omega)
      clear h1 h2 h3 h4 h5 h6 h7 HQ
      go_wp2_with fail
      go_ret
      obtain rfl : Q = false := HE.out
      exact ⟨rfl, HB1.out⟩
end Go.Proofs.YtmmijebekipdeaaDoor
