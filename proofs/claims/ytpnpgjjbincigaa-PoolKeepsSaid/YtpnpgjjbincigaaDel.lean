/- slices.IndexFunc, ContainsFunc, DeleteFunc at moves with the functions of PoolKeeps and PoolOne. (Printed by gen_del.py.) -/
import Derived.Test.YtpnpgjjbincigaaPMov
import Derived.Test.YtpnpgjjbincigaaHas
namespace Go.Proofs.Ytpnpgjjbincigaa
open Go.RowKit
set_option linter.unusedVariables false

theorem mvLies {p : Option Addr} {l : List Mv} {w : World} (h : mvR.Lies p l w) (h0 : 0 < l.length) : ∃ b o, p = some ⟨b, o, none⟩ ∧ ∀ i (hi : i < l.length),
    w.cell? ⟨b, o + i * 3, none⟩ = some (.int .u8 l[i].kind) ∧ w.cell? ⟨b, o + i * 3 + 1, none⟩ = some (.string l[i].t.job) ∧ w.cell? ⟨b, o + i * 3 + 2, none⟩ = some (.slice l[i].t.p l[i].t.n l[i].t.c) := by
  rcases h with h1 | ⟨b, o, hp, hc⟩
  · rw [h1] at h0; cases h0
  · exact ⟨b, o, hp, fun i hi => ⟨hc i hi 0 (by decide), hc i hi 1 (by decide), hc i hi 2 (by decide)⟩⟩

set_option maxHeartbeats 1600000 in
set_option maxRecDepth 100000 in
theorem idxK1_is (p : Option Addr) (l : List Mv) (n c : Nat) (bx : Nat) (f : Nat → Bool) (r : Int) (w : World) (hn : l.length = n) (hA : Po.MAt p l w) (hl : n ≤ 1000000)
    (HG : ∀ i (h : i < l.length) w', Below w.heap.size w w' → Calls Try.prog 34 #[.agg #[.int .u8 l[i].kind, .string l[i].t.job, .slice l[i].t.p l[i].t.n l[i].t.c], .pointer (some ⟨bx, 0, none⟩)] w' fun e w'' => e = .returned (.bool (f i)) ∧ Below w'.heap.size w' w'')
    (h1 : ∀ k, k < n → (∀ j, j < k → f j = false) → f k = true → r = k) (h2 : (∀ j, j < n → f j = false) → r = -1) :
    Calls Try.prog 65 #[.slice p n c, .func (.func 34) #[] #[.pointer (some ⟨bx, 0, none⟩)]] w fun e w' => e = .returned (.int .i64 r) ∧ Below w.heap.size w w' := by
  have HN := Lib.hid hn
  have HA := Lib.hid hA
  have HG := Lib.hid HG
  have H1 := Lib.hid h1
  have H2 := Lib.hid h2
  clear hn hA h1 h2
  go_enter Try.func65, Try.ntmps65
  go_wp2_with fail
  go_loopw [8] (fun i wr => ∃ k : Nat, k ≤ n ∧ i = .int .i64 (k : Int) ∧ Hid (∀ j, j < k → f j = false) ∧ Hid (Below w.heap.size w wr)) (fun i _ => n - (intOf i).toNat)
  case atStart => exact ⟨0, Nat.zero_le _, rfl, fun j hj => absurd hj (Nat.not_lt_zero _), Below.refl _ _⟩
  case round =>
    obtain ⟨k, hk, rfl, HF, HB⟩ := hrel
    by_cases hlt : k < n
    · have hkl : k < l.length := by rw [HN.out]; exact hlt
      obtain ⟨b, o, rfl, hc⟩ := HA.out.cells (by omega)
      obtain ⟨d0, d1, d2⟩ := hc k hkl
      have hb := World.block_lt_of_cell? _ _ d0
      replace d0 := (HB.out.cell (p := ⟨b, o + k * 3, none⟩) hb).trans d0
      replace d1 := (HB.out.cell (p := ⟨b, o + k * 3 + 1, none⟩) hb).trans d1
      replace d2 := (HB.out.cell (p := ⟨b, o + k * 3 + 2, none⟩) hb).trans d2
      have HX := Lib.hid (HG.out k hkl wr HB.out)
      obtain ⟨x, hx⟩ : ∃ x, l[k] = x := ⟨_, rfl⟩
      obtain ⟨bq, hbq⟩ : ∃ bq, f k = bq := ⟨_, rfl⟩
      have HBQ := Lib.hid hbq
      rw [hx] at d0 d1 d2
      rw [hx, hbq] at HX
      have n1 : (0 : Int) ≤ (k : Int) := by omega
      have n2 : (k : Int) < (n : Int) := by omega
      clear hx hc hbq
      go_wp2_with (go_at_call 34; refine HX.out.mono ?_)
      first | rintro e w3 rfl hb3 | rintro e w3 ⟨rfl, hb3⟩
      have hb4 : Below w.heap.size w w3 := HB.out.trans (hb3.mono HB.out.size)
      clear hb3
      cases bq
      · go_wp2_with fail
        go_roundw
        case rel => exact ⟨k + 1, by omega, by go_num, (fun j hj => by by_cases e : j = k; (subst e; exact HBQ.out); exact HF.out j (by omega)), hb4⟩
        case measure => simp [intOf]; omega
      · obtain rfl := H1.out k hlt HF.out HBQ.out
        go_wp2_with fail
        go_ret
        exact ⟨rfl, hb4⟩
    · have n2 : (n : Int) ≤ (k : Int) := by omega
      obtain rfl := H2.out (fun j hj => HF.out j (by omega))
      go_wp2_with fail
      go_ret
      exact ⟨rfl, HB.out⟩

set_option maxHeartbeats 1600000 in
theorem conK1_is (p : Option Addr) (l : List Mv) (n c : Nat) (bx : Nat) (f : Nat → Bool) (q : Bool) (w : World) (hn : l.length = n) (hA : Po.MAt p l w) (hl : n ≤ 1000000)
    (HG : ∀ i (h : i < l.length) w', Below w.heap.size w w' → Calls Try.prog 34 #[.agg #[.int .u8 l[i].kind, .string l[i].t.job, .slice l[i].t.p l[i].t.n l[i].t.c], .pointer (some ⟨bx, 0, none⟩)] w' fun e w'' => e = .returned (.bool (f i)) ∧ Below w'.heap.size w' w'')
    (h1 : ∀ k, k < n → f k = true → q = true) (h2 : (∀ j, j < n → f j = false) → q = false) :
    Calls Try.prog 29 #[.slice p n c, .func (.func 34) #[] #[.pointer (some ⟨bx, 0, none⟩)]] w fun e w' => e = .returned (.bool q) ∧ Below w.heap.size w w' := by
  obtain ⟨r, hr1, hr2, hr3⟩ : ∃ r : Int, (∀ k, k < n → (∀ j, j < k → f j = false) → f k = true → r = k) ∧ ((∀ j, j < n → f j = false) → r = -1) ∧ ((decide (0 ≤ r)) = q) := Po.first_ix f n q h1 h2
  have HI := Lib.hid (idxK1_is p l n c bx f r w hn hA hl HG hr1 hr2)
  have q1 : decide (r ≥ 0) = q := hr3
  clear hn hA HG h1 h2 hr1 hr2 hr3
  go_enter Try.func29, Try.ntmps29
  go_wp2_with (go_at_call 65; refine HI.out.mono ?_)
  first | rintro e w3 rfl hb3 | rintro e w3 ⟨rfl, hb3⟩
  go_wp2_with fail
  go_ret
  exact ⟨rfl, hb3⟩

set_option maxHeartbeats 1600000 in
set_option maxRecDepth 100000 in
theorem idxK2_at (p : Option Addr) (l : List Mv) (n c : Nat)  (f : Nat → Bool) (r : Int) (w : World) (hn : l.length = n) (hA : mvR.Lies p l w) (hl : n ≤ 1000000)
    (HG : ∀ i (h : i < l.length) w', Below w.heap.size w w' → Calls Try.prog 36 #[.agg #[.int .u8 l[i].kind, .string l[i].t.job, .slice l[i].t.p l[i].t.n l[i].t.c]] w' fun e w'' => e = .returned (.bool (f i)) ∧ Below w'.heap.size w' w'')
    (h1 : ∀ k, k < n → (∀ j, j < k → f j = false) → f k = true → r = k) (h2 : (∀ j, j < n → f j = false) → r = -1) :
    Calls Try.prog 65 #[.slice p n c, .func (.func 36) #[] #[]] w fun e w' => e = .returned (.int .i64 r) ∧ Below w.heap.size w w' := by
  have HN := Lib.hid hn
  have HA := Lib.hid hA
  have HG := Lib.hid HG
  have H1 := Lib.hid h1
  have H2 := Lib.hid h2
  clear hn hA h1 h2
  go_enter Try.func65, Try.ntmps65
  go_wp2_with fail
  go_loopw [8] (fun i wr => ∃ k : Nat, k ≤ n ∧ i = .int .i64 (k : Int) ∧ Hid (∀ j, j < k → f j = false) ∧ Hid (Below w.heap.size w wr)) (fun i _ => n - (intOf i).toNat)
  case atStart => exact ⟨0, Nat.zero_le _, rfl, fun j hj => absurd hj (Nat.not_lt_zero _), Below.refl _ _⟩
  case round =>
    obtain ⟨k, hk, rfl, HF, HB⟩ := hrel
    by_cases hlt : k < n
    · have hkl : k < l.length := by rw [HN.out]; exact hlt
      obtain ⟨b, o, rfl, hc⟩ := mvLies HA.out (by omega)
      obtain ⟨d0, d1, d2⟩ := hc k hkl
      have hb := World.block_lt_of_cell? _ _ d0
      replace d0 := (HB.out.cell (p := ⟨b, o + k * 3, none⟩) hb).trans d0
      replace d1 := (HB.out.cell (p := ⟨b, o + k * 3 + 1, none⟩) hb).trans d1
      replace d2 := (HB.out.cell (p := ⟨b, o + k * 3 + 2, none⟩) hb).trans d2
      have HX := Lib.hid (HG.out k hkl wr HB.out)
      obtain ⟨x, hx⟩ : ∃ x, l[k] = x := ⟨_, rfl⟩
      obtain ⟨bq, hbq⟩ : ∃ bq, f k = bq := ⟨_, rfl⟩
      have HBQ := Lib.hid hbq
      rw [hx] at d0 d1 d2
      rw [hx, hbq] at HX
      have n1 : (0 : Int) ≤ (k : Int) := by omega
      have n2 : (k : Int) < (n : Int) := by omega
      clear hx hc hbq
      go_wp2_with (go_at_call 36; refine HX.out.mono ?_)
      first | rintro e w3 rfl hb3 | rintro e w3 ⟨rfl, hb3⟩
      have hb4 : Below w.heap.size w w3 := HB.out.trans (hb3.mono HB.out.size)
      clear hb3
      cases bq
      · go_wp2_with fail
        go_roundw
        case rel => exact ⟨k + 1, by omega, by go_num, (fun j hj => by by_cases e : j = k; (subst e; exact HBQ.out); exact HF.out j (by omega)), hb4⟩
        case measure => simp [intOf]; omega
      · obtain rfl := H1.out k hlt HF.out HBQ.out
        go_wp2_with fail
        go_ret
        exact ⟨rfl, hb4⟩
    · have n2 : (n : Int) ≤ (k : Int) := by omega
      obtain rfl := H2.out (fun j hj => HF.out j (by omega))
      go_wp2_with fail
      go_ret
      exact ⟨rfl, HB.out⟩

set_option maxHeartbeats 1600000 in
set_option maxRecDepth 100000 in
theorem idxO1_is (p : Option Addr) (l : List Mv) (n c : Nat) (bx : Nat) (f : Nat → Bool) (r : Int) (w : World) (hn : l.length = n) (hA : Po.MAt p l w) (hl : n ≤ 1000000)
    (HG : ∀ i (h : i < l.length) w', Below w.heap.size w w' → Calls Try.prog 30 #[.agg #[.int .u8 l[i].kind, .string l[i].t.job, .slice l[i].t.p l[i].t.n l[i].t.c], .pointer (some ⟨bx, 0, none⟩)] w' fun e w'' => e = .returned (.bool (f i)) ∧ Below w'.heap.size w' w'')
    (h1 : ∀ k, k < n → (∀ j, j < k → f j = false) → f k = true → r = k) (h2 : (∀ j, j < n → f j = false) → r = -1) :
    Calls Try.prog 65 #[.slice p n c, .func (.func 30) #[] #[.pointer (some ⟨bx, 0, none⟩)]] w fun e w' => e = .returned (.int .i64 r) ∧ Below w.heap.size w w' := by
  have HN := Lib.hid hn
  have HA := Lib.hid hA
  have HG := Lib.hid HG
  have H1 := Lib.hid h1
  have H2 := Lib.hid h2
  clear hn hA h1 h2
  go_enter Try.func65, Try.ntmps65
  go_wp2_with fail
  go_loopw [8] (fun i wr => ∃ k : Nat, k ≤ n ∧ i = .int .i64 (k : Int) ∧ Hid (∀ j, j < k → f j = false) ∧ Hid (Below w.heap.size w wr)) (fun i _ => n - (intOf i).toNat)
  case atStart => exact ⟨0, Nat.zero_le _, rfl, fun j hj => absurd hj (Nat.not_lt_zero _), Below.refl _ _⟩
  case round =>
    obtain ⟨k, hk, rfl, HF, HB⟩ := hrel
    by_cases hlt : k < n
    · have hkl : k < l.length := by rw [HN.out]; exact hlt
      obtain ⟨b, o, rfl, hc⟩ := HA.out.cells (by omega)
      obtain ⟨d0, d1, d2⟩ := hc k hkl
      have hb := World.block_lt_of_cell? _ _ d0
      replace d0 := (HB.out.cell (p := ⟨b, o + k * 3, none⟩) hb).trans d0
      replace d1 := (HB.out.cell (p := ⟨b, o + k * 3 + 1, none⟩) hb).trans d1
      replace d2 := (HB.out.cell (p := ⟨b, o + k * 3 + 2, none⟩) hb).trans d2
      have HX := Lib.hid (HG.out k hkl wr HB.out)
      obtain ⟨x, hx⟩ : ∃ x, l[k] = x := ⟨_, rfl⟩
      obtain ⟨bq, hbq⟩ : ∃ bq, f k = bq := ⟨_, rfl⟩
      have HBQ := Lib.hid hbq
      rw [hx] at d0 d1 d2
      rw [hx, hbq] at HX
      have n1 : (0 : Int) ≤ (k : Int) := by omega
      have n2 : (k : Int) < (n : Int) := by omega
      clear hx hc hbq
      go_wp2_with (go_at_call 30; refine HX.out.mono ?_)
      first | rintro e w3 rfl hb3 | rintro e w3 ⟨rfl, hb3⟩
      have hb4 : Below w.heap.size w w3 := HB.out.trans (hb3.mono HB.out.size)
      clear hb3
      cases bq
      · go_wp2_with fail
        go_roundw
        case rel => exact ⟨k + 1, by omega, by go_num, (fun j hj => by by_cases e : j = k; (subst e; exact HBQ.out); exact HF.out j (by omega)), hb4⟩
        case measure => simp [intOf]; omega
      · obtain rfl := H1.out k hlt HF.out HBQ.out
        go_wp2_with fail
        go_ret
        exact ⟨rfl, hb4⟩
    · have n2 : (n : Int) ≤ (k : Int) := by omega
      obtain rfl := H2.out (fun j hj => HF.out j (by omega))
      go_wp2_with fail
      go_ret
      exact ⟨rfl, HB.out⟩

set_option maxHeartbeats 1600000 in
theorem conO1_is (p : Option Addr) (l : List Mv) (n c : Nat) (bx : Nat) (f : Nat → Bool) (q : Bool) (w : World) (hn : l.length = n) (hA : Po.MAt p l w) (hl : n ≤ 1000000)
    (HG : ∀ i (h : i < l.length) w', Below w.heap.size w w' → Calls Try.prog 30 #[.agg #[.int .u8 l[i].kind, .string l[i].t.job, .slice l[i].t.p l[i].t.n l[i].t.c], .pointer (some ⟨bx, 0, none⟩)] w' fun e w'' => e = .returned (.bool (f i)) ∧ Below w'.heap.size w' w'')
    (h1 : ∀ k, k < n → f k = true → q = true) (h2 : (∀ j, j < n → f j = false) → q = false) :
    Calls Try.prog 29 #[.slice p n c, .func (.func 30) #[] #[.pointer (some ⟨bx, 0, none⟩)]] w fun e w' => e = .returned (.bool q) ∧ Below w.heap.size w w' := by
  obtain ⟨r, hr1, hr2, hr3⟩ : ∃ r : Int, (∀ k, k < n → (∀ j, j < k → f j = false) → f k = true → r = k) ∧ ((∀ j, j < n → f j = false) → r = -1) ∧ ((decide (0 ≤ r)) = q) := Po.first_ix f n q h1 h2
  have HI := Lib.hid (idxO1_is p l n c bx f r w hn hA hl HG hr1 hr2)
  have q1 : decide (r ≥ 0) = q := hr3
  clear hn hA HG h1 h2 hr1 hr2 hr3
  go_enter Try.func29, Try.ntmps29
  go_wp2_with (go_at_call 65; refine HI.out.mono ?_)
  first | rintro e w3 rfl hb3 | rintro e w3 ⟨rfl, hb3⟩
  go_wp2_with fail
  go_ret
  exact ⟨rfl, hb3⟩

set_option maxHeartbeats 1600000 in
set_option maxRecDepth 100000 in
theorem idxO2_is (p : Option Addr) (l : List Mv) (n c : Nat)  (f : Nat → Bool) (r : Int) (w : World) (hn : l.length = n) (hA : Po.MAt p l w) (hl : n ≤ 1000000)
    (HG : ∀ i (h : i < l.length) w', Below w.heap.size w w' → Calls Try.prog 32 #[.agg #[.int .u8 l[i].kind, .string l[i].t.job, .slice l[i].t.p l[i].t.n l[i].t.c]] w' fun e w'' => e = .returned (.bool (f i)) ∧ Below w'.heap.size w' w'')
    (h1 : ∀ k, k < n → (∀ j, j < k → f j = false) → f k = true → r = k) (h2 : (∀ j, j < n → f j = false) → r = -1) :
    Calls Try.prog 65 #[.slice p n c, .func (.func 32) #[] #[]] w fun e w' => e = .returned (.int .i64 r) ∧ Below w.heap.size w w' := by
  have HN := Lib.hid hn
  have HA := Lib.hid hA
  have HG := Lib.hid HG
  have H1 := Lib.hid h1
  have H2 := Lib.hid h2
  clear hn hA h1 h2
  go_enter Try.func65, Try.ntmps65
  go_wp2_with fail
  go_loopw [8] (fun i wr => ∃ k : Nat, k ≤ n ∧ i = .int .i64 (k : Int) ∧ Hid (∀ j, j < k → f j = false) ∧ Hid (Below w.heap.size w wr)) (fun i _ => n - (intOf i).toNat)
  case atStart => exact ⟨0, Nat.zero_le _, rfl, fun j hj => absurd hj (Nat.not_lt_zero _), Below.refl _ _⟩
  case round =>
    obtain ⟨k, hk, rfl, HF, HB⟩ := hrel
    by_cases hlt : k < n
    · have hkl : k < l.length := by rw [HN.out]; exact hlt
      obtain ⟨b, o, rfl, hc⟩ := HA.out.cells (by omega)
      obtain ⟨d0, d1, d2⟩ := hc k hkl
      have hb := World.block_lt_of_cell? _ _ d0
      replace d0 := (HB.out.cell (p := ⟨b, o + k * 3, none⟩) hb).trans d0
      replace d1 := (HB.out.cell (p := ⟨b, o + k * 3 + 1, none⟩) hb).trans d1
      replace d2 := (HB.out.cell (p := ⟨b, o + k * 3 + 2, none⟩) hb).trans d2
      have HX := Lib.hid (HG.out k hkl wr HB.out)
      obtain ⟨x, hx⟩ : ∃ x, l[k] = x := ⟨_, rfl⟩
      obtain ⟨bq, hbq⟩ : ∃ bq, f k = bq := ⟨_, rfl⟩
      have HBQ := Lib.hid hbq
      rw [hx] at d0 d1 d2
      rw [hx, hbq] at HX
      have n1 : (0 : Int) ≤ (k : Int) := by omega
      have n2 : (k : Int) < (n : Int) := by omega
      clear hx hc hbq
      go_wp2_with (go_at_call 32; refine HX.out.mono ?_)
      first | rintro e w3 rfl hb3 | rintro e w3 ⟨rfl, hb3⟩
      have hb4 : Below w.heap.size w w3 := HB.out.trans (hb3.mono HB.out.size)
      clear hb3
      cases bq
      · go_wp2_with fail
        go_roundw
        case rel => exact ⟨k + 1, by omega, by go_num, (fun j hj => by by_cases e : j = k; (subst e; exact HBQ.out); exact HF.out j (by omega)), hb4⟩
        case measure => simp [intOf]; omega
      · obtain rfl := H1.out k hlt HF.out HBQ.out
        go_wp2_with fail
        go_ret
        exact ⟨rfl, hb4⟩
    · have n2 : (n : Int) ≤ (k : Int) := by omega
      obtain rfl := H2.out (fun j hj => HF.out j (by omega))
      go_wp2_with fail
      go_ret
      exact ⟨rfl, HB.out⟩

set_option maxHeartbeats 1600000 in
theorem conO2_is (p : Option Addr) (l : List Mv) (n c : Nat)  (f : Nat → Bool) (q : Bool) (w : World) (hn : l.length = n) (hA : Po.MAt p l w) (hl : n ≤ 1000000)
    (HG : ∀ i (h : i < l.length) w', Below w.heap.size w w' → Calls Try.prog 32 #[.agg #[.int .u8 l[i].kind, .string l[i].t.job, .slice l[i].t.p l[i].t.n l[i].t.c]] w' fun e w'' => e = .returned (.bool (f i)) ∧ Below w'.heap.size w' w'')
    (h1 : ∀ k, k < n → f k = true → q = true) (h2 : (∀ j, j < n → f j = false) → q = false) :
    Calls Try.prog 29 #[.slice p n c, .func (.func 32) #[] #[]] w fun e w' => e = .returned (.bool q) ∧ Below w.heap.size w w' := by
  obtain ⟨r, hr1, hr2, hr3⟩ : ∃ r : Int, (∀ k, k < n → (∀ j, j < k → f j = false) → f k = true → r = k) ∧ ((∀ j, j < n → f j = false) → r = -1) ∧ ((decide (0 ≤ r)) = q) := Po.first_ix f n q h1 h2
  have HI := Lib.hid (idxO2_is p l n c  f r w hn hA hl HG hr1 hr2)
  have q1 : decide (r ≥ 0) = q := hr3
  clear hn hA HG h1 h2 hr1 hr2 hr3
  go_enter Try.func29, Try.ntmps29
  go_wp2_with (go_at_call 65; refine HI.out.mono ?_)
  first | rintro e w3 rfl hb3 | rintro e w3 ⟨rfl, hb3⟩
  go_wp2_with fail
  go_ret
  exact ⟨rfl, hb3⟩

/-- a target at the head of a block -/
def Po.Hd (bx : Nat) (t : Can.T) (w : World) : Prop := bx < w.heap.size ∧ w.cell? ⟨bx, 0, none⟩ = some (.string t.job) ∧ w.cell? ⟨bx, 1, none⟩ = some (.slice t.p t.n t.c)
theorem Po.Hd.below {bx : Nat} {t : Can.T} {w w' : World} (h : Po.Hd bx t w) (hb : Below w.heap.size w w') : Po.Hd bx t w' :=
  ⟨Nat.lt_of_lt_of_le h.1 hb.size, (hb.cell (p := ⟨bx, 0, none⟩) h.1).trans h.2.1, (hb.cell (p := ⟨bx, 1, none⟩) h.1).trans h.2.2⟩
set_option maxHeartbeats 1600000 in
theorem keeps1_is (s : Mv) (t : Can.T) (bx : Nat) (r : Bool) (h : r = true ↔ Po.tv s.t = Po.tv t) (w : World) (hb : Po.Hd bx t w) (hs : s.t.ls.length = s.t.n) (ht : t.ls.length = t.n) (hA : Lab.At s.t.p s.t.ls w) (hB : Lab.At t.p t.ls w) (hl : s.t.n ≤ maxLen) (hl2 : t.n ≤ maxLen) :
    Calls Try.prog 34 #[.agg #[.int .u8 s.kind, .string s.t.job, .slice s.t.p s.t.n s.t.c], .pointer (some ⟨bx, 0, none⟩)] w fun e w' => e = .returned (.bool r) ∧ Below w.heap.size w w' := by
  obtain ⟨hlt, c0, c1⟩ := hb
  obtain ⟨kd, j, p, n, c, ls⟩ := s
  obtain ⟨i, p2, m, c2, ls2⟩ := t
  dsimp only at hs ht hA hB hl hl2 c0 c1 ⊢
  have h' : r = true ↔ (j = i ∧ ls = ls2) := by
    rw [h]
    simp [Po.tv]
  have HS := Lib.hid (fun w hA hB => sametarget_is j i p p2 ls ls2 n m c c2 r h' w hs ht hA hB hl hl2)
  have HA := Lib.hid hA
  have HB := Lib.hid hB
  clear h h' hs ht hl hl2 hA hB
  go_enter Try.func34, Try.ntmps34
  go_wp2_with (go_at_call 19; refine (HS.out _ (by first | exact HA.out | exact HA.out.alloc _) (by first | exact HB.out | exact HB.out.alloc _)).mono ?_)
  first | rintro e w1 rfl hb1 | rintro e w1 ⟨rfl, hb1⟩
  go_wp2_with fail
  go_ret
  exact ⟨rfl, by first | exact hb1 | exact ((Below.refl _ _).alloc (Nat.le_refl _) _).trans (hb1.mono (by simp))⟩
/-- is a target among the moves -/
theorem keepsC_is (p : Option Addr) (ms : List Mv) (t : Can.T) (bx n c : Nat) (q : Bool) (h : q = true ↔ ∃ m ∈ ms, Po.tv m.t = Po.tv t) (w : World) (hn : ms.length = n) (hA : Po.MAt p ms w) (hX : Po.Hd bx t w) (hB : Lab.At t.p t.ls w) (hF : ∀ m ∈ ms, m.t.ls.length = m.t.n ∧ m.t.n ≤ maxLen) (ht : t.ls.length = t.n) (ht2 : t.n ≤ maxLen) (hl : n ≤ 1000000) :
    Calls Try.prog 29 #[.slice p n c, .func (.func 34) #[] #[.pointer (some ⟨bx, 0, none⟩)]] w fun e w' => e = .returned (.bool q) ∧ Below w.heap.size w w' :=
  conK1_is p ms n c bx (fun j => decide ((ms[j]?).map (fun m => Po.tv m.t) = some (Po.tv t))) q w hn hA hl (fun i hi w' hb' => by
    refine keeps1_is ms[i] t bx _ ?_ w' (hX.below hb') (hF _ (List.getElem_mem _)).1 ht (hA.2 _ (List.getElem_mem _) |>.below hb' (Nat.le_refl _)) (hB.below hb' (Nat.le_refl _)) (hF _ (List.getElem_mem _)).2 ht2
    rw [decide_eq_true_eq, List.getElem?_eq_getElem hi]
    simp)
    (fun k hk hf => by
      have hk2 : k < ms.length := by omega
      have := of_decide_eq_true hf
      rw [List.getElem?_eq_getElem hk2, Option.map_some, Option.some.injEq] at this
      exact h.2 ⟨_, List.getElem_mem _, this⟩)
    (fun hall => by
      cases q with
      | false => rfl
      | true =>
        obtain ⟨s, hs, e⟩ := h.1 rfl
        obtain ⟨i, hi, rfl⟩ := List.getElem_of_mem hs
        have := hall i (by omega)
        rw [List.getElem?_eq_getElem hi, Option.map_some, e] at this
        simp at this)
set_option maxHeartbeats 800000 in
theorem keeps2_is (s : Mv) (r : Bool) (h : (s.kind != 3) = r) (w : World) :
    Calls Try.prog 36 #[.agg #[.int .u8 s.kind, .string s.t.job, .slice s.t.p s.t.n s.t.c]] w fun e w' => e = .returned (.bool r) ∧ Below w.heap.size w w' := by
  obtain ⟨kd, j, p, n, c, ls⟩ := s
  dsimp only at h ⊢
  go_enter Try.func36, Try.ntmps36
  go_wp2_with fail
  go_ret
  exact ⟨rfl, (Below.refl _ _).alloc (Nat.le_refl _) _⟩

theorem run_clear_moves (w : World) (b o n : Nat) (hn : 0 < n)
    (hc : ∀ j, j < n * 3 → (w.cell? ⟨b, o + j, none⟩).isSome = true) (hf : ∀ j, j < n * 3 → w.frozen? ⟨b, o + j, none⟩ = false) :
    ∃ vs : List Value, vs.length = n * 3 ∧ ∀ (ty : TypeId) (c : Nat), (Builtin.clear_ #[50] ty #[.slice (some ⟨b, o, none⟩) n c]).run Try.prog w = .ok (.tuple #[]) (w.setCells b o vs) := by
  refine ⟨(Builtin.zeroCells (#[.int .u8 0, .string ⟨#[]⟩, .slice none 0 0] : Array Value) n).toList, by simp [Builtin.zeroCells], fun ty c => ?_⟩
  have hst := Go.run_storeCells_cells (P := Try.prog) b o (Builtin.zeroCells (#[.int .u8 0, .string ⟨#[]⟩, .slice none 0 0] : Array Value) n).toList 0 w (by simpa [Builtin.zeroCells] using hc) (by simpa [Builtin.zeroCells] using hf) (by
    intro v hv
    simp only [Builtin.zeroCells, Array.toList_map, List.mem_map] at hv
    obtain ⟨i, _, rfl⟩ := hv
    have h3 : i % 3 = 0 ∨ i % 3 = 1 ∨ i % 3 = 2 := by omega
    rcases h3 with h | h | h <;> simp [h] <;> rfl)
  simp only [Nat.add_zero] at hst
  obtain ⟨m, rfl⟩ : ∃ m, n = m + 1 := ⟨n - 1, by omega⟩
  have hu := run_underlying Try.underlying50 (w := w)
  have hv := Try.zeroValue62 w
  simp [Builtin.clear_, hu, hv, Value.cells, hst]

/-- a row of moves that is written over -/
def MvRow (B g n c : Nat) (l : List Mv) (w : World) : Prop := OwnR mvR B (.slice (some ⟨g, 0, none⟩) n c) l w ∧ l.length = n
theorem MvRow.cells {B g n c : Nat} {d : List Mv} {w : World} (h : MvRow B g n c d w) (i : Nat) (hi : i < n) : ∃ hi2 : i < d.length,
    w.cell? ⟨g, i * 3, none⟩ = some (.int .u8 d[i].kind) ∧ w.cell? ⟨g, i * 3 + 1, none⟩ = some (.string d[i].t.job) ∧ w.cell? ⟨g, i * 3 + 2, none⟩ = some (.slice d[i].t.p d[i].t.n d[i].t.c) := by
  obtain ⟨h1, h2⟩ := h
  rcases h1.open mvOk with ⟨h3, _⟩ | ⟨g', c', e, _, _, _, _, hA⟩
  · cases h3
  · simp only [Value.slice.injEq, Option.some.injEq, Addr.mk.injEq, and_true] at e
    obtain ⟨rfl, _, _⟩ := e
    have hi2 : i < d.length := by omega
    exact ⟨hi2, hA i hi2 0 (by decide), hA i hi2 1 (by decide), hA i hi2 2 (by decide)⟩
theorem MvRow.free {B g n c : Nat} {d : List Mv} {w : World} (h : MvRow B g n c d w) (j : Nat) : w.frozen? ⟨g, j, none⟩ = false := by
  obtain ⟨h1, h2⟩ := h
  unfold OwnR at h1
  rw [h2] at h1
  exact World.ownsRow.frozenAt h1 _
theorem MvRow.lt {B g n c : Nat} {d : List Mv} {w : World} (h : MvRow B g n c d w) : B ≤ g ∧ g < w.heap.size := by
  rcases h.1.open mvOk with ⟨h3, _⟩ | ⟨g', c', e, h4, h5, _⟩
  · cases h3
  · simp only [Value.slice.injEq, Option.some.injEq, Addr.mk.injEq] at e
    obtain ⟨⟨rfl, _⟩, _, _⟩ := e
    exact ⟨h4, h5⟩
theorem MvRow.later {B g n c : Nat} {d : List Mv} {w w' : World} (h : MvRow B g n c d w) (hb : Below w.heap.size w w') : MvRow B g n c d w' :=
  ⟨h.1.below hb (Nat.le_refl _), h.2⟩
theorem gb_of {w w' : World} (h : Below w.heap.size w w') (row : Option Nat) : w.grownBy w' row := ⟨h.os, h.tape, h.output, h.size, fun k hk _ => h.block k hk⟩
theorem first_of (f : Nat → Bool) : ∀ n, ¬ (∀ j, j < n → f j = false) → ∃ k, k < n ∧ (∀ j, j < k → f j = false) ∧ f k = true
  | 0, h => absurd (fun j hj => absurd hj (Nat.not_lt_zero _)) h
  | n + 1, h => by
    by_cases h1 : ∀ j, j < n → f j = false
    · cases hf : f n with
      | true => exact ⟨n, Nat.lt_succ_self _, h1, hf⟩
      | false => exact absurd (fun j hj => by by_cases e : j = n; (subst e; exact hf); exact h1 j (by omega)) h
    · obtain ⟨k, a, b, c⟩ := first_of f n h1
      exact ⟨k, by omega, b, c⟩
/-- the moves that a deletion leaves -/
def Mv.kept (l : List Mv) (j : Nat) : List Mv := (l.take j).filter fun m => !(m.kind != 3)
theorem Mv.kept_succ (l : List Mv) (j : Nat) (h : j < l.length) (r : Bool) (hr : (l[j].kind != 3) = r) : Mv.kept l (j + 1) = if r = true then Mv.kept l j else Mv.kept l j ++ [l[j]] := by
  unfold Mv.kept
  rw [List.take_add_one, List.getElem?_eq_getElem h, List.filter_append]
  cases r
  · simp [hr]
  · simp [hr]

set_option maxHeartbeats 6400000 in
set_option maxRecDepth 100000 in
theorem delM_is (B g n c : Nat) (l : List Mv) (w : World) (h : MvRow B g n c l w) (hl : n ≤ 1000000) (hnc : n ≤ c) (hcm : c ≤ 9223372036854775807) :
    Calls Try.prog 35 #[.slice (some ⟨g, 0, none⟩) n c, .func (.func 36) #[] #[]] w fun e w' => (∃ m, e = .returned (.slice (some ⟨g, 0, none⟩) m c) ∧ MvRow B g m c (Mv.kept l n) w') ∧ w.grownBy w' (some g) := by
  have hln := h.2
  have hg := h.lt
  obtain ⟨f, hf⟩ : ∃ f : Nat → Bool, f = fun j => match l[j]? with | some m => m.kind != 3 | none => false := ⟨_, rfl⟩
  have hfl : ∀ i (hi : i < l.length), (l[i].kind != 3) = f i := fun i hi => by
    rw [hf]
    show _ = match l[i]? with | some m => m.kind != 3 | none => false
    rw [List.getElem?_eq_getElem hi]
  have HFL := Lib.hid hfl
  have HLN := Lib.hid hln
  have HG : ∀ i (h : i < l.length) w', Below w.heap.size w w' → Calls Try.prog 36 #[.agg #[.int .u8 l[i].kind, .string l[i].t.job, .slice l[i].t.p l[i].t.n l[i].t.c]] w' fun e w'' => e = .returned (.bool (f i)) ∧ Below w'.heap.size w' w'' := fun i hi w' _ => keeps2_is l[i] (f i) (hfl i hi) w'
  have hMA : ∀ k, k < l.length → (f k = false → True) := fun _ _ _ => trivial
  by_cases hall : ∀ j, j < n → f j = false
  · have HI := Lib.hid (idxK2_at (some ⟨g, 0, none⟩) l n c f (-1) w hln (h.1.lies mvOk) hl HG (fun k hk _ h2 => by rw [hall k hk] at h2; cases h2) (fun _ => rfl))
    have he : Mv.kept l n = l := by
      unfold Mv.kept
      rw [List.take_of_length_le (by omega), List.filter_eq_self]
      intro m hm
      obtain ⟨i, hi, rfl⟩ := List.getElem_of_mem hm
      rw [hfl i hi, hall i (by omega)]
      rfl
    have H := Lib.hid h
    have HE := Lib.hid he
    clear h hfl HG hMA hf hall he
    go_enter Try.func35, Try.ntmps35
    go_wp2_with (go_at_call 65; refine HI.out.mono ?_)
    first | rintro e w1 rfl hb1 | rintro e w1 ⟨rfl, hb1⟩
    go_wp2_with fail
    go_ret
    exact ⟨⟨n, rfl, by rw [HE.out]; exact H.out.later hb1⟩, gb_of hb1 _⟩
  · obtain ⟨k, hk, hk1, hk2⟩ := first_of f n hall
    have HI := Lib.hid (idxK2_at (some ⟨g, 0, none⟩) l n c f k w hln (h.1.lies mvOk) hl HG (fun k' hk' h1 h2 => by
      rcases Nat.lt_trichotomy k k' with h3 | h3 | h3
      · rw [h1 k h3] at hk2; cases hk2
      · rw [h3]
      · rw [hk1 k' h3] at h2; cases h2) (fun h3 => absurd h3 hall))
    have HC : Hid (∀ (x : Mv) (r : Bool), (x.kind != 3) = r → ∀ w, Calls Try.prog 36 #[.agg #[.int .u8 x.kind, .string x.t.job, .slice x.t.p x.t.n x.t.c]] w fun e w' => e = .returned (.bool r) ∧ Below w.heap.size w w') := fun x r hr w => keeps2_is x r hr w
    have H0 : Hid (Mv.kept l (k + 1) = l.take k) := by
      show _ = _
      rw [Mv.kept_succ l k (by omega) (f k) (hfl k (by omega)), hk2, if_pos rfl]
      unfold Mv.kept
      rw [List.filter_eq_self]
      intro m hm
      obtain ⟨i, hi, rfl⟩ := List.getElem_of_mem hm
      rw [List.length_take] at hi
      rw [List.getElem_take, hfl i (by omega), hk1 i (by omega)]
      rfl
    have H := Lib.hid h
    have k0 : ((k : Int) == -1) = false := by rw [beq_eq_false_iff_ne]; omega
    have k1 : IntKind.i64.wrap ((k : Int) + 1) = (k : Int) + 1 := by rw [IntKind.wrap_i64]; omega
    clear h hfl HG hMA hf hall hk1 hk2
    go_enter Try.func35, Try.ntmps35
    go_wp2_with (go_at_call 65; refine HI.out.mono ?_)
    first | rintro e w1 rfl hb1 | rintro e w1 ⟨rfl, hb1⟩
    have H1 := Lib.hid (H.out.later hb1)
    have HG1 := Lib.hid (gb_of hb1 (some g))
    clear hb1 H HI
    go_wp2_with fail
    go_loopw [5, 6] (fun iv jv wr => ∃ (i j : Nat) (M : List Mv), i < j ∧ j ≤ n ∧ iv = .int .i64 (i : Int) ∧ jv = .int .i64 (j : Int) ∧ Hid (M.take i = Mv.kept l j) ∧ Hid (∀ t, j ≤ t → M[t]? = l[t]?) ∧ Hid (MvRow B g n c M wr) ∧ Hid (w.grownBy wr (some g))) (fun _ jv _ => n - (intOf jv).toNat)
    case atStart => exact ⟨k, k + 1, l, Nat.lt_succ_self _, hk, rfl, by go_num, H0.out.symm, fun _ _ => rfl, H1.out, HG1.out⟩
    case round =>
      clear H1 HG1
      obtain ⟨wj, rfl⟩ : ∃ wo : World, wo = wr := ⟨_, rfl⟩
      obtain ⟨i, j, M, hij, hjn, rfl, rfl, HT, HD, HR, HGR⟩ := hrel
      by_cases hlt : j < n
      · have hjl : j < l.length := by rw [HLN.out]; exact hlt
        obtain ⟨hjM, c0, c1, c2⟩ := HR.out.cells j hlt
        have hx0 : M[j] = l[j] := by
          have := HD.out j (Nat.le_refl _)
          rw [List.getElem?_eq_getElem hjM, List.getElem?_eq_getElem hjl, Option.some.injEq] at this
          exact this
        obtain ⟨x, hx⟩ : ∃ x, l[j] = x := ⟨_, rfl⟩
        obtain ⟨p, hp⟩ : ∃ p, (x.kind != 3) = p := ⟨_, rfl⟩
        have HCC := Lib.hid (HC.out x p hp)
        have HKS := Lib.hid (Mv.kept_succ l j hjl p (by rw [hx]; exact hp))
        rw [hx] at HKS
        rw [hx0, hx] at c0 c1 c2
        have HXL : Hid (l[j]? = some x) := by show _ = _; rw [List.getElem?_eq_getElem hjl, hx]
        obtain ⟨xk, xj, xp, xn, xc, xl⟩ := x
        dsimp only at c0 c1 c2
        have hgj := HR.out.lt.2
        have n0 : (0 : Int) ≤ (j : Int) := by omega
        have n1 : (j : Int) < (n : Int) := by omega
        have n7 : IntKind.i64.wrap ((j : Int) + 1) = (j : Int) + 1 := by rw [IntKind.wrap_i64]; omega
        have KX := Lib.hid (alloc_new wj (.cells #[.int .u8 xk, .string xj, .slice xp xn xc] 62))
        have HBA : Hid (Below wj.heap.size wj (wj.alloc (.cells #[.int .u8 xk, .string xj, .slice xp xn xc] 62))) := (Below.refl _ _).alloc (Nat.le_refl _) _
        clear hx hp hx0
        go_wp2_with (go_at_call 36; refine (HCC.out _).mono ?_)
        first | rintro e w2 rfl hb2 | rintro e w2 ⟨rfl, hb2⟩
        have hB2 : Below wj.heap.size wj w2 := HBA.out.trans (hb2.mono (by simp))
        have hk2 := below_kept hb2 KX.out (by simp)
        have x0 : w2.cell? ⟨wj.heap.size, 0, none⟩ = some (.int .u8 xk) := by rw [Lib.cell_of_heap hk2]; rfl
        have x1 : w2.cell? ⟨wj.heap.size, 1, none⟩ = some (.string xj) := by rw [Lib.cell_of_heap hk2]; rfl
        have x2 : w2.cell? ⟨wj.heap.size, 2, none⟩ = some (.slice xp xn xc) := by rw [Lib.cell_of_heap hk2]; rfl
        have HR1 := Lib.hid (HR.out.later hB2)
        have HG1 := Lib.hid (HGR.out.trans (gb_of hB2 (some g)))
        clear hb2 hB2 hk2 c0 c1 c2 HBA KX HR HGR HCC
        cases p
        · obtain ⟨_, f0, f1, f2⟩ := HR1.out.cells i (by omega)
          have g0 := HR1.out.free (i * 3)
          have g1 := HR1.out.free (i * 3 + 1)
          have g2 := HR1.out.free (i * 3 + 2)
          have hst := HR1.out.1.stored mvOk HR1.out.2 i (by omega) ⟨xk, xj, xp, xn, xc, xl⟩
          have HPT : Hid (MvRow B g n c (M.set i ⟨xk, xj, xp, xn, xc, xl⟩) (w2.setCells g (i * 3) (Mv.enc ⟨xk, xj, xp, xn, xc, xl⟩))) := ⟨hst.1, by rw [List.length_set]; exact HR1.out.2⟩
          have HPG := Lib.hid (HG1.out.trans hst.2)
          have HT3 : Hid ((M.set i ⟨xk, xj, xp, xn, xc, xl⟩).take (i + 1) = Mv.kept l (j + 1)) := by
            show _ = _
            rw [HKS.out, if_neg (by simp), ← HT.out, List.take_add_one, List.getElem?_set_self (by rw [HR1.out.2]; omega), List.take_set_of_le (Nat.le_refl _)]
            rfl
          have HD3 : Hid (∀ t, j + 1 ≤ t → (M.set i ⟨xk, xj, xp, xn, xc, xl⟩)[t]? = l[t]?) := fun t ht => by
            rw [List.getElem?_set_ne (by omega)]
            exact HD.out t (by omega)
          have i0 : (0 : Int) ≤ (i : Int) := by omega
          have i1 : (i : Int) < (n : Int) := by omega
          have i7 : IntKind.i64.wrap ((i : Int) + 1) = (i : Int) + 1 := by rw [IntKind.wrap_i64]; omega
          clear hst HT HD HKS HXL
          go_wp2_with fail
          go_roundw
          case rel => exact ⟨i + 1, j + 1, _, by omega, by omega, by go_num, by go_num, HT3, HD3, HPT.out, HPG.out⟩
          case measure => simp [intOf]; omega
        · have HT3 : Hid (M.take i = Mv.kept l (j + 1)) := by
            show _ = _
            rw [HKS.out, if_pos rfl, HT.out]
          have HD3 : Hid (∀ t, j + 1 ≤ t → M[t]? = l[t]?) := fun t ht => HD.out t (by omega)
          clear HT HD HKS HXL
          go_wp2_with fail
          go_roundw
          case rel => exact ⟨i, j + 1, M, by omega, by omega, rfl, by go_num, HT3, HD3, HR1.out, HG1.out⟩
          case measure => simp [intOf]; omega
      · obtain rfl : j = n := by omega
        obtain ⟨vs, hvs, hcl0⟩ := run_clear_moves wj g (i * 3) (j - i) (by omega)
          (fun t ht => by
            have h3 : t % 3 = 0 ∨ t % 3 = 1 ∨ t % 3 = 2 := by omega
            obtain ⟨_, f0, f1, f2⟩ := HR.out.cells (i + t / 3) (by omega)
            rcases h3 with h | h | h
            · rw [show i * 3 + t = (i + t / 3) * 3 by omega]; exact Option.isSome_of_eq_some f0
            · rw [show i * 3 + t = (i + t / 3) * 3 + 1 by omega]; exact Option.isSome_of_eq_some f1
            · rw [show i * 3 + t = (i + t / 3) * 3 + 2 by omega]; exact Option.isSome_of_eq_some f2)
          (fun t _ => HR.out.free _)
        have hMs := HR.out.2
        have hrow : wj.ownsRow B mvR.T 3 (.slice (some ⟨g, 0, none⟩) j c) j (mvR.cells M) := by
          have := HR.out.1
          unfold OwnR at this
          rw [hMs] at this
          exact this
        have hle : i * 3 + vs.length ≤ (mvR.cells M).length := by
          rw [mvOk.length, hMs, hvs]
          show i * 3 + (j - i) * 3 ≤ j * 3
          omega
        obtain ⟨r1, r3⟩ := owns_setCells vs (i * 3) wj (mvR.cells M) hrow
        have hcl2 : ∀ ty cc, (Builtin.clear_ #[50] ty #[.slice (some ⟨g, i * 3, none⟩) (j - i) cc]).run Try.prog wj = .ok (.tuple #[]) (wj.setCells g (i * 3) vs) := hcl0
        obtain ⟨W, hW⟩ : ∃ W, wj.setCells g (i * 3) vs = W := ⟨_, rfl⟩
        rw [hW] at r1 r3 hcl2
        have HGW := Lib.hid (HGR.out.trans r3)
        have hTl := HT.out
        have hlen : (Mv.kept l j).length = i := by rw [← hTl, List.length_take, hMs]; omega
        have hres : OwnR mvR B (.slice (some ⟨g, 0, none⟩) i c) (Mv.kept l j) W := by
          obtain ⟨r4, r5⟩ := r1
          rcases r5 with ⟨r5, _⟩ | ⟨g', cap', cur, hv5, hg5, hh5, h51, h52, h53, h54⟩
          · cases r5
          · cases hv5
            unfold OwnR
            rw [hlen]
            refine ⟨by rw [mvOk.length, hlen], .inr ⟨g, c, cur, rfl, hg5, hh5, by omega, h52, h53, ?_⟩⟩
            have e1 : cur.toList.take (i * 3) = (setL (mvR.cells M) (i * 3) vs).take (i * 3) := by
              rw [← h54, List.take_take, Nat.min_eq_left (by omega)]
            have e2 : (setL (mvR.cells M) (i * 3) vs).take (i * 3) = (mvR.cells M).take (i * 3) := by
              apply List.ext_getElem?
              intro t
              by_cases ht : t < i * 3
              · rw [List.getElem?_take_of_lt ht, List.getElem?_take_of_lt ht, setL_get _ _ _ hle, if_neg (by omega)]
              · rw [List.getElem?_take_eq_none (by omega), List.getElem?_take_eq_none (by omega)]
            have e3 : (mvR.cells M).take (i * 3) = mvR.cells (M.take i) := by
              conv => lhs; rw [← List.take_append_drop i M, Rec.cells_append]
              rw [List.take_left' (by rw [mvOk.length, List.length_take, hMs]; show min i j * 3 = i * 3; rw [Nat.min_eq_left (by omega)])]
            show cur.toList.take (i * 3) = _
            rw [e1, e2, e3, hTl]
        have HRS : Hid (MvRow B g i c (Mv.kept l j) W) := ⟨hres, hlen⟩
        have hcl3 := Lib.hid hcl2
        have i0 : (0 : Int) ≤ (i : Int) := by omega
        have i1 : (i : Int) < (j : Int) := by omega
        have i2 : (i : Int) ≤ (j : Int) := by omega
        have i3 : (i : Int) ≤ (c : Int) := by omega
        clear r1 r3 hrow hW hres hTl hlen HT HD hcl0 hcl2
        have hcl := hcl3.out
        go_wp2_with fail
        go_ret
        exact ⟨⟨i, rfl, HRS.out⟩, HGW.out⟩

set_option maxHeartbeats 1600000 in
theorem ones1_is (s : Mv) (t : Can.T) (bx : Nat) (r : Bool) (h : r = true ↔ (s.kind = 3 ∧ Po.tv s.t = Po.tv t)) (w : World) (hb : Po.Hd bx t w) (hs : s.t.ls.length = s.t.n) (ht : t.ls.length = t.n) (hA : Lab.At s.t.p s.t.ls w) (hB : Lab.At t.p t.ls w) (hl : s.t.n ≤ maxLen) (hl2 : t.n ≤ maxLen) :
    Calls Try.prog 30 #[.agg #[.int .u8 s.kind, .string s.t.job, .slice s.t.p s.t.n s.t.c], .pointer (some ⟨bx, 0, none⟩)] w fun e w' => e = .returned (.bool r) ∧ Below w.heap.size w w' := by
  obtain ⟨hlt, c0, c1⟩ := hb
  obtain ⟨kd, j, p, n, c, ls⟩ := s
  obtain ⟨i, p2, m, c2, ls2⟩ := t
  dsimp only at hs ht hA hB hl hl2 c0 c1 h ⊢
  by_cases hk : kd = 3
  · subst hk
    have h' : r = true ↔ (j = i ∧ ls = ls2) := by
      rw [h]
      simp [Po.tv]
    have HS := Lib.hid (fun w hA hB => sametarget_is j i p p2 ls ls2 n m c c2 r h' w hs ht hA hB hl hl2)
    have HA := Lib.hid hA
    have HB := Lib.hid hB
    clear h h' hs ht hl hl2 hA hB
    go_enter Try.func30, Try.ntmps30
    go_wp2_with (go_at_call 19; refine (HS.out _ (by first | exact HA.out | exact HA.out.alloc _) (by first | exact HB.out | exact HB.out.alloc _)).mono ?_)
    first | rintro e w1 rfl hb1 | rintro e w1 ⟨rfl, hb1⟩
    go_wp2_with fail
    go_ret
    exact ⟨rfl, by first | exact hb1 | exact ((Below.refl _ _).alloc (Nat.le_refl _) _).trans (hb1.mono (by simp))⟩
  · obtain rfl : r = false := by
      cases r
      · rfl
      · exact absurd (h.1 rfl).1 hk
    have hk2 : (kd == 3) = false := by simpa using hk
    clear h hs ht hl hl2 hA hB hk
    go_enter Try.func30, Try.ntmps30
    go_wp2_with fail
    go_ret
    exact ⟨rfl, (Below.refl _ _).alloc (Nat.le_refl _) _⟩
/-- does a target wait -/
theorem onesC_is (p : Option Addr) (ms : List Mv) (t : Can.T) (bx n c : Nat) (q : Bool) (h : q = true ↔ ∃ m ∈ ms, m.kind = 3 ∧ Po.tv m.t = Po.tv t) (w : World) (hn : ms.length = n) (hA : Po.MAt p ms w) (hX : Po.Hd bx t w) (hB : Lab.At t.p t.ls w) (hF : ∀ m ∈ ms, m.t.ls.length = m.t.n ∧ m.t.n ≤ maxLen) (ht : t.ls.length = t.n) (ht2 : t.n ≤ maxLen) (hl : n ≤ 1000000) :
    Calls Try.prog 29 #[.slice p n c, .func (.func 30) #[] #[.pointer (some ⟨bx, 0, none⟩)]] w fun e w' => e = .returned (.bool q) ∧ Below w.heap.size w w' :=
  conO1_is p ms n c bx (fun j => decide ((ms[j]?).map (fun m => (m.kind, Po.tv m.t)) = some ((3 : Int), Po.tv t))) q w hn hA hl (fun i hi w' hb' => by
    refine ones1_is ms[i] t bx _ ?_ w' (hX.below hb') (hF _ (List.getElem_mem _)).1 ht (hA.2 _ (List.getElem_mem _) |>.below hb' (Nat.le_refl _)) (hB.below hb' (Nat.le_refl _)) (hF _ (List.getElem_mem _)).2 ht2
    rw [decide_eq_true_eq, List.getElem?_eq_getElem hi]
    simp)
    (fun k hk hf => by
      have hk2 : k < ms.length := by omega
      have := of_decide_eq_true hf
      rw [List.getElem?_eq_getElem hk2, Option.map_some, Option.some.injEq, Prod.mk.injEq] at this
      exact h.2 ⟨_, List.getElem_mem _, this⟩)
    (fun hall => by
      cases q with
      | false => rfl
      | true =>
        obtain ⟨s, hs, e1, e2⟩ := h.1 rfl
        obtain ⟨i, hi, rfl⟩ := List.getElem_of_mem hs
        have := hall i (by omega)
        rw [List.getElem?_eq_getElem hi, Option.map_some, e1, e2] at this
        simp at this)
set_option maxHeartbeats 800000 in
theorem ones2_is (s : Mv) (r : Bool) (h : (s.kind != 1) = r) (w : World) :
    Calls Try.prog 32 #[.agg #[.int .u8 s.kind, .string s.t.job, .slice s.t.p s.t.n s.t.c]] w fun e w' => e = .returned (.bool r) ∧ Below w.heap.size w w' := by
  obtain ⟨kd, j, p, n, c, ls⟩ := s
  dsimp only at h ⊢
  go_enter Try.func32, Try.ntmps32
  go_wp2_with fail
  go_ret
  exact ⟨rfl, (Below.refl _ _).alloc (Nat.le_refl _) _⟩
/-- all moves are starts -/
theorem onesD_is (p : Option Addr) (ms : List Mv) (n c : Nat) (w : World) (hn : ms.length = n) (hA : Po.MAt p ms w) (h : ∀ m ∈ ms, m.kind = 1) (hl : n ≤ 1000000) :
    Calls Try.prog 29 #[.slice p n c, .func (.func 32) #[] #[]] w fun e w' => e = .returned (.bool false) ∧ Below w.heap.size w w' :=
  conO2_is p ms n c (fun _ => false) false w hn hA hl (fun i hi w' _ => ones2_is ms[i] false (by rw [h _ (List.getElem_mem _)]; rfl) w') (fun _ _ h => (nomatch h)) (fun _ => rfl)
end Go.Proofs.Ytpnpgjjbincigaa
