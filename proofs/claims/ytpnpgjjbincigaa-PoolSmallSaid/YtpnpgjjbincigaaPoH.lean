/- Contracts of gaugerlaw35: plans, wanted, Made. (Printed by gen_mad5.py.) Plain lemmas for the outright laws of pool: what Made makes is right; what the loops of PoolRuns collect. -/
import Derived.Test.YtpnpgjjbincigaaPoG
namespace Go.Proofs.Ytpnpgjjbincigaa
open Go.RowKit
set_option linter.unusedVariables false

/-- the plan of a number -/
def Po.pl (n : Nat) : Int × Int := match n % 4 with
  | 0 => (10, 5)
  | 1 => (10, 4)
  | 2 => (7, 7)
  | _ => (1099511627776, 1)
set_option maxHeartbeats 1600000 in
set_option maxRecDepth 100000 in
theorem plans_is (x : Nat) (z : Int) (hz : z = (x : Int)) (hx : x < 256) (a b : Int) (h : Po.pl x = (a, b)) (w : World) :
    Calls Try.prog 27 #[.int .u8 z] w fun e w' => e = .returned (.tuple #[.int .i64 a, .int .i64 b]) ∧ Below w.heap.size w w' := by
  have ht : Int.tmod z 4 = ((x % 4 : Nat) : Int) := by rw [hz, Int.tmod_eq_emod_of_nonneg (by omega)]; omega
  unfold Po.pl at h
  have h4 : x % 4 < 4 := Nat.mod_lt _ (by decide)
  obtain ⟨r, hr⟩ : ∃ r, x % 4 = r := ⟨_, rfl⟩
  rw [hr] at h ht h4
  clear hz hx hr
  rcases r with _ | _ | _ | _ | r
  · replace h : ((10, 5) : Int × Int) = (a, b) := h
    simp only [Prod.mk.injEq] at h
    obtain ⟨rfl, rfl⟩ := h
    have ht : Int.tmod z 4 = 0 := ht
    go_enter Try.func27, Try.ntmps27
    go_wp2_with fail
    go_quiet (fail)
    go_wp2_with fail
    go_ret2
    exact ⟨rfl, below_drewN (((Below.refl _ _).alloc (Nat.le_refl _) _).alloc (by simp) _) _⟩
  · replace h : ((10, 4) : Int × Int) = (a, b) := h
    simp only [Prod.mk.injEq] at h
    obtain ⟨rfl, rfl⟩ := h
    have ht : Int.tmod z 4 = 1 := ht
    go_enter Try.func27, Try.ntmps27
    go_wp2_with fail
    go_quiet (fail)
    go_wp2_with fail
    go_ret2
    exact ⟨rfl, below_drewN (((Below.refl _ _).alloc (Nat.le_refl _) _).alloc (by simp) _) _⟩
  · replace h : ((7, 7) : Int × Int) = (a, b) := h
    simp only [Prod.mk.injEq] at h
    obtain ⟨rfl, rfl⟩ := h
    have ht : Int.tmod z 4 = 2 := ht
    go_enter Try.func27, Try.ntmps27
    go_wp2_with fail
    go_quiet (fail)
    go_wp2_with fail
    go_ret2
    exact ⟨rfl, below_drewN (((Below.refl _ _).alloc (Nat.le_refl _) _).alloc (by simp) _) _⟩
  · replace h : ((1099511627776, 1) : Int × Int) = (a, b) := h
    simp only [Prod.mk.injEq] at h
    obtain ⟨rfl, rfl⟩ := h
    have ht : Int.tmod z 4 = 3 := ht
    go_enter Try.func27, Try.ntmps27
    go_wp2_with fail
    go_quiet (fail)
    go_wp2_with fail
    go_ret2
    exact ⟨rfl, below_drewN (((Below.refl _ _).alloc (Nat.le_refl _) _).alloc (by simp) _) _⟩
  · omega

/-- numbers at a place -/
def Po.U8At (p : Option Addr) (xs : List UInt8) (w : World) : Prop := xs = [] ∨ ∃ b o, p = some ⟨b, o, none⟩ ∧ ∀ i (h : i < xs.length), w.cell? ⟨b, o + i, none⟩ = some (.int .u8 (xs[i].toNat : Int))
theorem Po.U8At.below {p : Option Addr} {xs : List UInt8} {w w' : World} {C : Nat} (h : Po.U8At p xs w) (hb : Below C w w') (hC : w.heap.size ≤ C) : Po.U8At p xs w' := by
  rcases h with h | ⟨b, o, hp, hc⟩
  · exact .inl h
  · exact .inr ⟨b, o, hp, fun i hi => cell_later hb (hc i hi) hC⟩
def Po.want (xs : List UInt8) : List Po.U := (xs.take 30).map fun x => Po.tgt x.toNat
theorem Po.tgt_mod (n : Nat) : Po.tgt (n % 26) = Po.tgt n := by unfold Po.tgt; rw [Nat.mod_mod]
theorem okU_of {ts : List Can.T} {n : Nat} {l : List UInt8} (h : ts.map Po.tv = l.map fun x => Po.tgt x.toNat) : ∀ t ∈ ts, Po.okU (Po.tv t) := Awk.okT h (by intro v hv; obtain ⟨x, _, rfl⟩ := List.mem_map.1 hv; exact Po.tgt_ok _)

set_option maxHeartbeats 1600000 in
set_option maxRecDepth 100000 in
theorem wanted_is (p : Option Addr) (xs : List UInt8) (n c : Nat) (w : World) (hn : xs.length = n) (hc : n ≤ c) (hA : Po.U8At p xs w) (hl : n ≤ maxLen) :
    Calls Try.prog 26 #[.slice p n c] w fun e w' => (∃ v ts, e = .returned v ∧ OwnTs w.heap.size v ts w' ∧ ts.map Po.tv = Po.want xs) ∧ Below w.heap.size w w' := by
  unfold maxLen at hl
  obtain ⟨m, hm, hmn, hm30⟩ : ∃ m : Nat, min (n : Int) 30 = (m : Int) ∧ m ≤ n ∧ m = min n 30 := ⟨min n 30, by omega, by omega, rfl⟩
  have HN := Lib.hid hn
  have HA := Lib.hid hA
  have HM30 := Lib.hid hm30
  have hm3 : m ≤ 30 := by omega
  have m0 : (0 : Int) ≤ (m : Int) := by omega
  have m1 : (m : Int) ≤ (c : Int) := by omega
  clear hn hA hm30
  go_enter Try.func26, Try.ntmps26
  go_wp2_with fail
  go_loopw [3, 12] (fun v i wr => ∃ (k : Nat) (ts : List Can.T), k ≤ m ∧ i = .int .i64 (k : Int) ∧ OwnTs w.heap.size v ts wr ∧ Hid (ts.map Po.tv = (xs.take k).map fun x => Po.tgt x.toNat) ∧ Hid (ts.length = k) ∧ Hid (Below w.heap.size w wr)) (fun _ i _ => m - (intOf i).toNat)
  case atStart => exact ⟨0, [], Nat.zero_le _, rfl, OwnTs.nil _ _, rfl, rfl, Below.refl _ _⟩
  case round =>
    obtain ⟨wj, rfl⟩ : ∃ wo : World, wo = wr := ⟨_, rfl⟩
    obtain ⟨k, ts, hk, rfl, hown, HV, HL, HB⟩ := hrel
    have hsz := HB.out.size
    by_cases hlt : k < m
    · have hkl : k < xs.length := by rw [HN.out]; omega
      obtain ⟨d0, hp⟩ : ∃ b : Nat × Nat, p = some ⟨b.1, b.2, none⟩ ∧ wj.cell? ⟨b.1, b.2 + k, none⟩ = some (.int .u8 (xs[k].toNat : Int)) := by
        rcases (HA.out.below HB.out (Nat.le_refl _)) with h0 | ⟨b, o, hp, hc⟩
        · rw [h0] at hkl; simp at hkl
        · exact ⟨(b, o), hp, hc k hkl⟩
      obtain ⟨b, o⟩ := d0
      obtain ⟨rfl, d0⟩ := hp
      have hst : (xs.take (k + 1)).map (fun x => Po.tgt x.toNat) = ts.map Po.tv ++ [Po.tgt xs[k].toNat] := by
        rw [List.take_add_one, List.getElem?_eq_getElem hkl, List.map_append, HV.out]; rfl
      obtain ⟨x, hx⟩ : ∃ x, xs[k] = x := ⟨_, rfl⟩
      rw [hx] at d0 hst
      have hx8 : x.toNat < 256 := x.toNat_lt
      obtain ⟨y, hy⟩ : ∃ y, x.toNat = y := ⟨_, rfl⟩
      rw [hy] at d0 hst hx8
      have r1 : IntKind.i64.wrap (y : Int) = (y : Int) := by rw [IntKind.wrap_i64]; omega
      have r2 : Int.tmod (y : Int) 26 = ((y % 26 : Nat) : Int) := by rw [Int.tmod_eq_emod_of_nonneg (by omega)]; omega
      obtain ⟨u, hu⟩ : ∃ u, y % 26 = u := ⟨_, rfl⟩
      rw [hu] at r2
      have hu26 : u < 26 := by omega
      have r3 : IntKind.i64.wrap (u : Int) = (u : Int) := by rw [IntKind.wrap_i64]; omega
      have HT := Lib.hid (fun w => target_is u (by omega) w)
      have HST : Hid ((xs.take (k + 1)).map (fun x => Po.tgt x.toNat) = ts.map Po.tv ++ [Po.tgt u]) := by show _ = _; rw [hst, ← hu, Po.tgt_mod]
      have n1 : (0 : Int) ≤ (k : Int) := by omega
      have n2 : (k : Int) < (m : Int) := by omega
      clear hst hx hy hu HV
      go_wp2_with (go_at_call 15; refine (HT.out _).mono ?_)
      first | rintro e w1 t rfl hO hv hb1 | rintro e w1 ⟨⟨t, rfl, hO, hv⟩, hb1⟩
      obtain ⟨tj, tp, tn, tc, tl⟩ := t
      have hb2 : Below w.heap.size w w1 := HB.out.trans (hb1.mono hsz)
      have hown2 := hown.below hb1 (Nat.le_refl _)
      have hO2 : OwnT w.heap.size ⟨tj, tp, tn, tc, tl⟩ w1 := hO.lift hsz
      have hlk := HL.out
      clear hb1 hO hown
      go_wp2_with (at_builtin; refine wpList_pushTg 23 Try.underlying23 rfl _ _ rfl w.heap.size _ ts w1 rfl (by exact hown2) ⟨tj, tp, tn, tc, tl⟩ (by exact hO2.1) (by exact hO2.2) _ _ rfl _ rfl rfl ?c1 ?c2 ?_)
      case c1 => omega
      case c2 => exact hb2.size
      intro v' w4 hown' hg
      have hb5 : Below w.heap.size w w4 := (hb2.alloc hb2.size _).grown hg (by have := hb2.size; simp; omega) (fun j hj => (World.ownsRow.lt hown2.1 j hj).1)
      go_wp2_with fail
      go_roundw
      case rel => exact ⟨k + 1, ts ++ [⟨tj, tp, tn, tc, tl⟩], by omega, by go_num, hown', (by show _ = _; rw [HST.out, List.map_append, List.map_cons, List.map_nil, hv]), (by show _ = _; rw [List.length_append, hlk]; rfl), hb5⟩
      case measure => simp [intOf]; omega
    · have n2 : (m : Int) ≤ (k : Int) := by omega
      have hV : ts.map Po.tv = Po.want xs := by
        rw [HV.out]
        unfold Po.want
        have h1 := HM30.out
        have h2 := HN.out
        obtain rfl : k = m := by omega
        rw [h1, ← h2]
        congr 1
        rw [List.take_eq_take_iff]
        omega
      clear HV
      go_wp2_with fail
      go_ret
      exact ⟨⟨_, ts, rfl, hown, hV⟩, HB.out⟩

/-- a slot in small numbers -/
structure Sm5 where
  n : UInt8
  p : UInt8
  en : Bool
def Po.SmAt (p : Option Addr) (xs : List Sm5) (w : World) : Prop := xs = [] ∨ ∃ b o, p = some ⟨b, o, none⟩ ∧ ∀ i (h : i < xs.length), w.cell? ⟨b, o + i * 3, none⟩ = some (.int .u8 (xs[i].n.toNat : Int)) ∧ w.cell? ⟨b, o + i * 3 + 1, none⟩ = some (.int .u8 (xs[i].p.toNat : Int)) ∧ w.cell? ⟨b, o + i * 3 + 2, none⟩ = some (.bool xs[i].en)
theorem Po.SmAt.below {p : Option Addr} {xs : List Sm5} {w w' : World} {C : Nat} (h : Po.SmAt p xs w) (hb : Below C w w') (hC : w.heap.size ≤ C) : Po.SmAt p xs w' := by
  rcases h with h | ⟨b, o, hp, hc⟩
  · exact .inl h
  · exact .inr ⟨b, o, hp, fun i hi => ⟨cell_later hb (hc i hi).1 hC, cell_later hb (hc i hi).2.1 hC, cell_later hb (hc i hi).2.2 hC⟩⟩
def Po.sm (x : Sm5) (n : Nat) : Po.V := ((Po.tgt n).1, (Po.tgt n).2, (Po.pl x.p.toNat).1, (Po.pl x.p.toNat).2, x.en)
/-- the slot that Made makes of the n-th target, if any -/
def Po.pick (xs : List Sm5) (n : Nat) : Option Sm5 := (xs.take 40).find? fun x => decide (x.n.toNat % 26 = n)
def Po.row (xs : List Sm5) (n : Nat) : List Po.V := ((Po.pick xs n).map fun x => Po.sm x n).toList
def Po.made (xs : List Sm5) (k : Nat) : List Po.V := (List.range k).flatMap (Po.row xs)
theorem Po.made_succ (xs : List Sm5) (k : Nat) : Po.made xs (k + 1) = Po.made xs k ++ Po.row xs k := by
  unfold Po.made
  rw [List.range_succ, List.flatMap_append]
  simp
theorem Po.pick_some {xs : List Sm5} {n j : Nat} (hj : j < xs.length) (h40 : j < 40) (h : xs[j].n.toNat % 26 = n) (hb : ∀ i (hi : i < j), (xs[i]'(by omega)).n.toNat % 26 ≠ n) : Po.pick xs n = some xs[j] := by
  unfold Po.pick
  rw [List.find?_eq_some_iff_getElem]
  refine ⟨decide_eq_true h, j, by rw [List.length_take]; omega, by rw [List.getElem_take], fun i hi => ?_⟩
  rw [List.getElem_take]
  simpa using hb i hi
theorem Po.pick_none {xs : List Sm5} {n m : Nat} (hm : m = min xs.length 40) (hb : ∀ i (hi : i < m), (xs[i]'(by omega)).n.toNat % 26 ≠ n) : Po.pick xs n = none := by
  unfold Po.pick
  rw [List.find?_eq_none]
  intro x hx
  obtain ⟨i, hi, rfl⟩ := List.getElem_of_mem hx
  rw [List.length_take] at hi
  rw [List.getElem_take]
  simpa using hb i (by omega)
/-- slots of the call's own -/
def Po.Own (B : Nat) (v : Value) (ss : List Sl) (w : World) : Prop := OwnR slR B v ss w ∧ ∀ s ∈ ss, OwnT B s.t w
theorem Po.Own.nil (B : Nat) (w : World) : Po.Own B (.slice none 0 0) [] w := ⟨OwnR.nil _ _ _, fun _ h => nomatch h⟩
theorem Po.Own.below {B C : Nat} {v : Value} {ss : List Sl} {w w' : World} (h : Po.Own B v ss w) (hb : Below C w w') (hC : w.heap.size ≤ C) : Po.Own B v ss w' := ⟨h.1.below hb hC, fun s hs => (h.2 s hs).below hb hC⟩
theorem Po.Own.lift {B B' : Nat} {v : Value} {ss : List Sl} {w : World} (h : Po.Own B v ss w) (hB : B' ≤ B) : Po.Own B' v ss w := ⟨h.1.lift hB, fun s hs => (h.2 s hs).lift hB⟩
theorem Po.Own.at {B n c : Nat} {p : Option Addr} {ss : List Sl} {w : World} (h : Po.Own B (.slice p n c) ss w) : Po.At p ss w ∧ ss.length = n := by
  refine ⟨⟨h.1.lies slOk, fun s hs => (h.2 s hs).at⟩, ?_⟩
  obtain ⟨p', c', e, _⟩ := h.1.shape
  simp only [Value.slice.injEq] at e
  exact e.2.1.symm
theorem Po.Own.form {B : Nat} {v : Value} {ss : List Sl} {w : World} (h : Po.Own B v ss w) : ∃ p c, v = .slice p ss.length c ∧ ss.length ≤ c ∧ c ≤ maxLen := by
  obtain ⟨p, c, e, h1, h2, _⟩ := h.1.shape
  exact ⟨p, c, e, h1, h2⟩
theorem Po.Own.push {B : Nat} {v v' : Value} {ss : List Sl} {W W' w4 : World} (h : Po.Own B v ss W) (hW : Below W.heap.size W W') (s : Sl) (ht : OwnT B s.t W') (ho : OwnR slR B v' (ss ++ [s]) w4) (hg : W'.grownBy w4 v.ownBlock) : Po.Own B v' (ss ++ [s]) w4 := by
  refine ⟨ho, fun x hx => ?_⟩
  have h1 := h.below hW (Nat.le_refl _)
  rcases List.mem_append.1 hx with hx | hx
  · exact (h1.2 x hx).grown (by decide) h1.1 hg
  · rw [List.mem_singleton] at hx
    subst hx
    exact ht.grown (by decide) h1.1 hg

set_option maxHeartbeats 3200000 in
set_option maxRecDepth 100000 in
theorem made_is5 (p : Option Addr) (xs : List Sm5) (n c : Nat) (w : World) (hn : xs.length = n) (hc : n ≤ c) (hA : Po.SmAt p xs w) (hl : n ≤ maxLen) :
    Calls Try.prog 17 #[.slice p n c] w fun e w' => (∃ v ss, e = .returned v ∧ Po.Own w.heap.size v ss w' ∧ ss.map Sl.view = Po.made xs 26) ∧ Below w.heap.size w w' := by
  unfold maxLen at hl
  obtain ⟨m, hm, hmn, hm30⟩ : ∃ m : Nat, min (n : Int) 40 = (m : Int) ∧ m ≤ n ∧ m = min n 40 := ⟨min n 40, by omega, by omega, rfl⟩
  have HN := Lib.hid hn
  have HA := Lib.hid hA
  have HM40 := Lib.hid hm30
  have hm3 : m ≤ 40 := by omega
  have m0 : (0 : Int) ≤ (m : Int) := by omega
  have m1 : (m : Int) ≤ (c : Int) := by omega
  clear hn hA hm30
  go_enter Try.func17, Try.ntmps17
  go_wp2_with fail
  go_loopw [3, 9] (fun v i wr => ∃ (k : Nat) (ss : List Sl), k ≤ 26 ∧ i = .int .i64 (k : Int) ∧ Hid (Po.Own w.heap.size v ss wr) ∧ Hid (ss.map Sl.view = Po.made xs k) ∧ Hid (ss.length ≤ k) ∧ Hid (Below w.heap.size w wr)) (fun _ i _ => 26 - (intOf i).toNat)
  case atStart => exact ⟨0, [], Nat.zero_le _, rfl, Po.Own.nil _ _, rfl, Nat.zero_le _, Below.refl _ _⟩
  case round =>
    obtain ⟨wj, rfl⟩ : ∃ wo : World, wo = wr := ⟨_, rfl⟩
    obtain ⟨k, ss, hk, rfl, HO, HV, HL, HB⟩ := hrel
    have hsz := HB.out.size
    by_cases hlt : k < 26
    · have n1 : (0 : Int) ≤ (k : Int) := by omega
      have n2 : (k : Int) < 26 := by omega
      obtain ⟨pv, cv, rfl, hcv1, hcv2⟩ := HO.out.form
      go_wp2_with fail
      go_loopw [3, 18] (fun v2 i wr => ∃ j : Nat, j ≤ m ∧ i = .int .i64 (j : Int) ∧ v2 = .slice pv ss.length cv ∧ Hid (∀ a (h : a < xs.length), a < j → xs[a].n.toNat % 26 ≠ k) ∧ Hid (Below wj.heap.size wj wr)) (fun _ i _ => m - (intOf i).toNat)
      case atStart => exact ⟨0, Nat.zero_le _, rfl, rfl, fun a _ h => absurd h (Nat.not_lt_zero _), Below.refl _ _⟩
      case round =>
        obtain ⟨wl, rfl⟩ : ∃ wo : World, wo = wr := ⟨_, rfl⟩
        obtain ⟨j, hj, rfl, rfl, HF, HB2⟩ := hrel
        have hbl := HB.out.trans (HB2.out.mono hsz)
        have hsl := HB2.out.size
        by_cases hlt2 : j < m
        · have hjl : j < xs.length := by rw [HN.out]; omega
          obtain ⟨⟨b, o⟩, hp, d0, d1, d2⟩ : ∃ b : Nat × Nat, p = some ⟨b.1, b.2, none⟩ ∧ wl.cell? ⟨b.1, b.2 + j * 3, none⟩ = some (.int .u8 (xs[j].n.toNat : Int)) ∧ wl.cell? ⟨b.1, b.2 + j * 3 + 1, none⟩ = some (.int .u8 (xs[j].p.toNat : Int)) ∧ wl.cell? ⟨b.1, b.2 + j * 3 + 2, none⟩ = some (.bool xs[j].en) := by
            rcases (HA.out.below hbl (Nat.le_refl _)) with h0 | ⟨b, o, hp, hc⟩
            · rw [h0] at hjl; simp at hjl
            · exact ⟨(b, o), hp, hc j hjl⟩
          subst hp
          dsimp only at d0 d1 d2
          obtain ⟨x, hx⟩ : ∃ x, xs[j] = x := ⟨_, rfl⟩
          rw [hx] at d0 d1 d2
          have hx8 : x.n.toNat < 256 := x.n.toNat_lt
          have hp8 : x.p.toNat < 256 := x.p.toNat_lt
          obtain ⟨y, hy⟩ : ∃ y, x.n.toNat = y := ⟨_, rfl⟩
          obtain ⟨z, hz⟩ : ∃ z, x.p.toNat = z := ⟨_, rfl⟩
          obtain ⟨u, hu⟩ : ∃ u, y % 26 = u := ⟨_, rfl⟩
          have hu26 : u < 26 := by omega
          have r1 : Int.tmod (y : Int) 26 = (u : Int) := by rw [Int.tmod_eq_emod_of_nonneg (by omega)]; omega
          have r2 : IntKind.u8.wrap (u : Int) = (u : Int) := by unfold IntKind.wrap; simp [IntKind.bits, IntKind.signed]; omega
          have r3 : IntKind.i64.wrap (u : Int) = (u : Int) := by rw [IntKind.wrap_i64]; omega
          have HX : Hid (xs[j].n.toNat % 26 = u) := by show _ = _; rw [hx, hy]; exact hu
          have n3 : (0 : Int) ≤ (j : Int) := by omega
          have n4 : (j : Int) < (m : Int) := by omega
          obtain ⟨xn, xp, xe⟩ := x
          dsimp only at d0 d1 d2 hy hz hx8 hp8
          rw [hy] at d0 hx8
          rw [hz] at d1 hp8
          have HXX := Lib.hid hx
          by_cases huk : u = k
          · subst huk
            have q1 : ((u : Int) == (u : Int)) = true := by simp
            obtain ⟨⟨ev, ti⟩, hpl⟩ : ∃ y, Po.pl z = y := ⟨_, rfl⟩
            have HP := Lib.hid (fun w => plans_is z (z : Int) rfl hp8 ev ti hpl w)
            have hrow : Po.row xs u = [((Po.tgt u).1, (Po.tgt u).2, ev, ti, xe)] := by
              unfold Po.row
              rw [Po.pick_some hjl (by omega) HX.out (fun i hi => HF.out i (by omega) hi), HXX.out]
              show [Po.sm _ _] = _
              unfold Po.sm
              dsimp only
              rw [hz, hpl]
            have HROW := Lib.hid hrow
            have HT := Lib.hid (fun w => target_is u (by omega) w)
            have HW1 := Lib.hid (alloc_new wl (.cells #[.int .u8 (y : Int), .int .u8 (z : Int), .bool xe] 86))
            clear hrow hpl hx hy hz hu
            go_wp2_with (go_at_call 27; refine (HP.out _).mono ?_)
            first | rintro e w2 rfl hb2 | rintro e w2 ⟨rfl, hb2⟩
            have hb3 : Below wl.heap.size wl w2 := ((Below.refl _ wl).alloc (Nat.le_refl _) _).trans (hb2.mono (by simp))
            have k2 := below_kept hb2 HW1.out (by simp)
            have c2 : w2.cell? ⟨wl.heap.size, 2, none⟩ = some (.bool xe) := by rw [Lib.cell_of_heap k2]; rfl
            have hlt2' : wl.heap.size < w2.heap.size := lt_of_heap k2
            have HB3 := Lib.hid hb3
            have K2 := Lib.hid k2
            have HOL : Hid (∀ g, (Value.slice pv ss.length cv).ownBlock = some g → g < wl.heap.size) := fun g hg => Nat.lt_of_lt_of_le (HO.out.1.own_lt g hg).2 hsl
            have HO2 : Hid (Po.Own w.heap.size _ ss w2) := (HO.out.below HB2.out (Nat.le_refl _)).below hb3 (Nat.le_refl _)
            have hll := HL.out
            clear k2 hb2 hb3 HW1 d0 d1 d2
            go_wp2_with fail
            go_region_held3 (fun w' => w'.cell? ⟨wl.heap.size, 2, none⟩ = some (.bool xe))
              (first
                | exact c2
                | exact (hbT.cell (p := ⟨wl.heap.size, 2, none⟩) (by simp; omega)).trans c2
                | exact ((hbT.alloc hbT.size _).cell (p := ⟨wl.heap.size, 2, none⟩) (by simp; omega)).trans c2
                | exact c9
                | go_keep)
              ((first
                | (go_at_call 15; refine (HT.out _).mono ?_; rintro e wt ⟨⟨⟨tj, tp, tn, tc, tl⟩, rfl, hO, hv⟩, hbt⟩; have hbT : Below w2.heap.size w2 wt := (Below.refl _ w2).drew.trans (hbt.mono (Nat.le_refl _)))
                | (refine step_pushRec slOk 22 Try.underlying22 (by rfl) _ _ (by rfl) w.heap.size _ ss (by rfl) ((HO2.out.1.below hbT (Nat.le_refl _)).alloc _) ⟨⟨tj, tp, tn, tc, tl⟩, ev, ti, xe⟩ _ (by rfl) wt.heap.size 1 (by rfl) (alloc_new wt _) (by omega) (by have := hbl.size; have := HB3.out.size; have := hbT.size; simp; omega) ?_; intro g cap w9 hown9 hg9; have hbw := (((hbl.trans ((HB3.out.trans (hbT.mono HB3.out.size)).mono hbl.size)).alloc (by have := hbl.size; have := HB3.out.size; have := hbT.size; omega) _).grown hg9 (by have := hbl.size; have := HB3.out.size; have := hbT.size; simp; omega) (fun j hj => (World.ownsRow.lt (HO2.out.1.below hbT (Nat.le_refl _)) j hj).1)); have c9 : w9.cell? ⟨wl.heap.size, 2, none⟩ = some (.bool xe) := (by rw [Lib.cell_of_heap ((hg9.block wl.heap.size (by have := hbT.size; simp; omega) (fun e => by have := HOL.out _ e.symm; omega)).trans (alloc_kept (below_kept hbT K2.out hlt2')))]; rfl))))
            have hb10 : Below w.heap.size w w9 := hbw
            have hO9 : Po.Own w.heap.size (.slice (some ⟨g, 0, none⟩) (ss.length + 1) cap) (ss ++ [⟨⟨tj, tp, tn, tc, tl⟩, ev, ti, xe⟩]) w9 :=
              HO2.out.push (hbT.alloc hbT.size _) ⟨⟨tj, tp, tn, tc, tl⟩, ev, ti, xe⟩ ((OwnT.lift hO (by have := hbl.size; have := HB3.out.size; simp; omega)).below ((Below.refl _ _).alloc (Nat.le_refl _) _) (Nat.le_refl _)) hown9 hg9
            have HO9 := Lib.hid hO9
            have HB10 := Lib.hid hb10
            have HV9 : Hid ((ss ++ [(⟨⟨tj, tp, tn, tc, tl⟩, ev, ti, xe⟩ : Sl)]).map Sl.view = Po.made xs (u + 1)) := by
              show _ = _
              rw [Po.made_succ, HROW.out, List.map_append, HV.out]
              congr 1
              show [(tj, tl, ev, ti, xe)] = _
              rw [← hv]
              rfl
            clear hO9 hb10 hbw c9 hown9 hg9 hO hv hbt hbT HO2 HB3
            go_wp2_with fail
            go_roundw
            case rel => exact ⟨u + 1, ss ++ [(⟨⟨tj, tp, tn, tc, tl⟩, ev, ti, xe⟩ : Sl)], by omega, by go_num, HO9.out, HV9.out, (by show _ ≤ _; rw [List.length_append, List.length_singleton]; omega), HB10.out⟩
            case measure => simp [intOf]; omega
          · have q1 : ((u : Int) == (k : Int)) = false := by simp; omega
            have HF2 : Hid (∀ a (h : a < xs.length), a < j + 1 → xs[a].n.toNat % 26 ≠ k) := fun a h ha => by
              by_cases e : a = j
              · subst e; rw [HX.out]; exact huk
              · exact HF.out a h (by omega)
            have hb3 := HB2.out.alloc hsl (.cells #[.int .u8 (y : Int), .int .u8 (z : Int), .bool xe] 86)
            clear hx hy hz hu HXX
            go_wp2_with fail
            go_roundw
            case rel => exact ⟨j + 1, by omega, by go_num, rfl, HF2.out, hb3⟩
            case measure => simp [intOf]; omega
        · have n3 : (m : Int) ≤ (j : Int) := by omega
          have hrow : Po.row xs k = [] := by
            unfold Po.row
            have h1 := HM40.out
            have h2 := HN.out
            obtain rfl : j = m := by omega
            rw [Po.pick_none (m := j) (by omega) (fun i hi => HF.out i (by omega) hi)]
            rfl
          have HV9 : Hid (ss.map Sl.view = Po.made xs (k + 1)) := by
            show _ = _
            rw [Po.made_succ, hrow, List.append_nil, HV.out]
          have HO9 : Hid (Po.Own w.heap.size (.slice pv ss.length cv) ss wl) := HO.out.below HB2.out (Nat.le_refl _)
          have hll := HL.out
          have HBL := Lib.hid hbl
          clear hrow hbl
          go_wp2_with fail
          go_roundw
          case rel => exact ⟨k + 1, ss, by omega, by go_num, HO9.out, HV9.out, (by show _ ≤ _; omega), HBL.out⟩
          case measure => simp [intOf]; omega
    · have n2 : (26 : Int) ≤ (k : Int) := by omega
      obtain rfl : k = 26 := by omega
      go_wp2_with fail
      go_ret
      exact ⟨⟨_, ss, rfl, HO.out, HV.out⟩, HB.out⟩
end Go.Proofs.Ytpnpgjjbincigaa
namespace Go.Proofs.Ytpnpgjjbincigaa
open Go.RowKit
set_option linter.unusedVariables false

/-! ### what Made makes is right -/
theorem Po.ke_tgt (n : Nat) (h : n < 26) : Po.ke (Po.tgt n) = 0 := by
  have : ∀ m : Fin 26, Po.ke (Po.tgt m) = 0 := by decide +kernel
  exact this ⟨n, h⟩
theorem Po.tgt_lt (a b : Nat) (h : a < b) (hb : b < 26) : Po.ky (Po.tgt a) < Po.ky (Po.tgt b) := by
  have : ∀ m k : Fin 26, m < k → Po.ky (Po.tgt m) < Po.ky (Po.tgt k) := by decide +kernel
  exact this ⟨a, by omega⟩ ⟨b, hb⟩ h
theorem Po.tgt_inj (a b : Nat) (ha : a < 26) (hb : b < 26) (h : Po.tgt a = Po.tgt b) : a = b := by
  rcases Nat.lt_trichotomy a b with h1 | h1 | h1
  · have := Po.tgt_lt a b h1 hb
    rw [h] at this
    exact absurd this (List.lt_irrefl _)
  · exact h1
  · have := Po.tgt_lt b a h1 ha
    rw [h] at this
    exact absurd this (List.lt_irrefl _)
theorem Po.pl_num (n : Nat) : Po.num (Po.pl n).1 (Po.pl n).2 = true := by
  unfold Po.pl
  split <;> rfl
theorem Po.row_mem {xs : List Sm5} {n : Nat} {v : Po.V} (h : v ∈ Po.row xs n) : ∃ x, Po.pick xs n = some x ∧ v = Po.sm x n := by
  unfold Po.row at h
  cases hp : Po.pick xs n with
  | none => rw [hp] at h; cases h
  | some x =>
    rw [hp] at h
    simp at h
    exact ⟨x, rfl, h⟩
theorem Po.made_mem {xs : List Sm5} {k : Nat} {v : Po.V} (h : v ∈ Po.made xs k) : ∃ n, n < k ∧ ∃ x, Po.pick xs n = some x ∧ v = Po.sm x n := by
  unfold Po.made at h
  obtain ⟨n, hn, hv⟩ := List.mem_flatMap.1 h
  exact ⟨n, List.mem_range.1 hn, Po.row_mem hv⟩
theorem Po.made_ok (xs : List Sm5) : Po.okVs (Po.made xs 26) = true := by
  refine Po.okVs_of _ (fun s hs => ?_) ?_
  · obtain ⟨n, hn, x, _, rfl⟩ := Po.made_mem hs
    exact ⟨Po.ke_tgt n hn, Po.pl_num _⟩
  · have : ∀ k, k ≤ 26 → ((Po.made xs k).map Po.vk).Pairwise (· < ·) := fun k => by
      induction k with
      | zero => intro _; exact List.Pairwise.nil
      | succ k ih =>
        intro hk
        rw [Po.made_succ, List.map_append]
        refine List.pairwise_append.2 ⟨ih (by omega), ?_, ?_⟩
        · unfold Po.row
          cases Po.pick xs k <;> simp
        · intro a ha b hb
          obtain ⟨s, hs, rfl⟩ := List.mem_map.1 ha
          obtain ⟨t, ht, rfl⟩ := List.mem_map.1 hb
          obtain ⟨n, hn, x, _, rfl⟩ := Po.made_mem hs
          obtain ⟨y, _, rfl⟩ := Po.row_mem ht
          exact Po.tgt_lt n k hn (by omega)
    exact this 26 (Nat.le_refl _)
theorem Po.made_okU (xs : List Sm5) (k : Nat) : ∀ v ∈ Po.made xs k, Po.okU (Po.vu v) := fun v hv => by
  obtain ⟨n, hn, x, _, rfl⟩ := Po.made_mem hv
  exact Po.tgt_ok n
/-- slots of different keys are of different targets -/
theorem Po.ok_ne {S : List Po.V} (h : Po.okVs S = true) : S.Pairwise fun a b => Po.vu a ≠ Po.vu b := by
  have h2 := (Po.okVs_mem S h).2
  rw [List.pairwise_map] at h2
  refine h2.imp fun {a b} hab e => ?_
  unfold Po.vk at hab
  rw [e] at hab
  exact List.lt_irrefl _ hab

/-! ### what the law's loop collects -/
def Po.rest (S : List Po.V) (u : Po.U) : List Po.V := S.filter fun s => !decide (Po.vu s = u)
def Po.endg (u : Po.U) (b : Bool) : List Po.V → Bool
  | [] => b
  | s :: r => Po.endg u (if Po.vu s = u then s.2.2.2.2 else b) r
theorem Po.endg_is (u : Po.U) : ∀ (S : List Po.V) (b : Bool), S.Pairwise (fun a b => Po.vu a ≠ Po.vu b) → Po.endg u b S = match Po.fx S u with
    | some i => (S[i]?).any (fun s => s.2.2.2.2)
    | none => b
  | [], b, _ => rfl
  | s :: r, b, h => by
    obtain ⟨h1, h2⟩ := List.pairwise_cons.1 h
    unfold Po.endg
    rw [Po.endg_is u r _ h2]
    unfold Po.fx
    rw [List.findIdx?_cons]
    by_cases hs : Po.vu s = u
    · rw [if_pos hs, if_pos (decide_eq_true hs)]
      have : List.findIdx? (fun s => decide (Po.vu s = u)) r = none := by
        rw [List.findIdx?_eq_none_iff]
        intro x hx
        simpa using fun e => h1 x hx (hs.trans e.symm)
      rw [this]
      rfl
    · rw [if_neg hs, if_neg (by simpa using hs)]
      cases hf : List.findIdx? (fun s => decide (Po.vu s = u)) r with
      | none => rfl
      | some i => rfl
theorem Po.rest_none {S : List Po.V} {u : Po.U} (h : Po.fx S u = none) : Po.rest S u = S := by
  unfold Po.rest
  rw [List.filter_eq_self]
  intro s hs
  simpa using (Po.fx_facts S u).2 h s hs
theorem Po.rest_some (u : Po.U) : ∀ (S : List Po.V) (i : Nat), S.Pairwise (fun a b => Po.vu a ≠ Po.vu b) → Po.fx S u = some i → Po.rest S u = S.eraseIdx i
  | [], i, _, h => by cases h
  | s :: r, i, hp, h => by
    obtain ⟨h1, h2⟩ := List.pairwise_cons.1 hp
    unfold Po.fx at h
    rw [List.findIdx?_cons] at h
    unfold Po.rest
    rw [List.filter_cons]
    by_cases hs : Po.vu s = u
    · rw [if_pos (decide_eq_true hs)] at h
      cases h
      rw [if_neg (by simpa using hs), List.eraseIdx_cons_zero, List.filter_eq_self]
      intro x hx
      simpa using fun e => h1 x hx (hs.trans e.symm)
    · rw [if_neg (by simpa using hs)] at h
      rw [if_pos (by simpa using hs)]
      cases hf : List.findIdx? (fun s => decide (Po.vu s = u)) r with
      | none => rw [hf] at h; cases h
      | some j =>
        rw [hf] at h
        cases h
        rw [List.eraseIdx_cons_succ]
        congr 1
        exact Po.rest_some u r j h2 hf
theorem Po.ok_erase {S : List Po.V} (h : Po.okVs S = true) (i : Nat) : Po.okVs (S.eraseIdx i) = true := by
  obtain ⟨h1, h2⟩ := Po.okVs_mem S h
  have hs := List.eraseIdx_sublist S i
  exact Po.okVs_of _ (fun s hs' => h1 s (hs.subset hs')) (h2.sublist (hs.map _))
theorem Po.runs_erase (S : List Po.V) (i : Nat) (hi : i < S.length) (h : S[i].2.2.2.2 = true) : Po.runs (S.eraseIdx i) = Po.runs S := by
  induction S generalizing i with
  | nil => simp at hi
  | cons s r ih =>
    cases i with
    | zero =>
      have h' : s.2.2.2.2 = true := h
      rw [List.eraseIdx_cons_zero]
      unfold Po.runs
      rw [List.filter_cons, if_neg (by simp [h'])]
    | succ i =>
      rw [List.eraseIdx_cons_succ]
      have := ih i (by simpa using hi) (by simpa using h)
      unfold Po.runs at this ⊢
      rw [List.filter_cons, List.filter_cons]
      split
      · rw [List.map_cons, List.map_cons, this]
      · exact this
theorem Po.rest_take (S : List Po.V) (u : Po.U) (k : Nat) (h : k < S.length) : Po.rest (S.take (k + 1)) u = if Po.vu S[k] = u then Po.rest (S.take k) u else Po.rest (S.take k) u ++ [S[k]] := by
  unfold Po.rest
  rw [List.take_succ_eq_append_getElem h, List.filter_append]
  by_cases hs : Po.vu S[k] = u
  · rw [if_pos hs]; simp [hs]
  · rw [if_neg hs]; simp [hs]
theorem Po.endg_append (u : Po.U) (S : List Po.V) (s : Po.V) : ∀ b, Po.endg u b (S ++ [s]) = if Po.vu s = u then s.2.2.2.2 else Po.endg u b S := by
  induction S with
  | nil => intro b; rfl
  | cons x r ih => intro b; show Po.endg u _ (r ++ [s]) = _; rw [ih]; rfl
theorem Po.endg_take (S : List Po.V) (u : Po.U) (k : Nat) (h : k < S.length) : Po.endg u false (S.take (k + 1)) = if Po.vu S[k] = u then S[k].2.2.2.2 else Po.endg u false (S.take k) := by
  rw [List.take_succ_eq_append_getElem h, Po.endg_append]
theorem Po.end_cases {S S2 : List Po.V} {u : Po.U} {er : Int} {eg : Bool} (hok : Po.okVs S = true) (h : Po.endS S u = (er, S2)) (hg : Po.endg u false S = eg) :
    (eg = false ∧ er = 6 ∧ S2 = []) ∨ (eg = true ∧ er = 0 ∧ S2 = Po.rest S u ∧ Po.okVs S2 = true ∧ Po.runs S2 = Po.runs S) := by
  have hne := Po.ok_ne hok
  rw [Po.endg_is u S false hne] at hg
  unfold Po.endS at h
  rw [if_pos hok] at h
  cases hf : Po.fx S u with
  | none =>
    rw [hf] at h hg
    simp only [Prod.mk.injEq] at h
    exact .inl ⟨hg.symm, h.1.symm, h.2.symm⟩
  | some i =>
    rw [hf] at h hg
    dsimp only at h hg
    rw [hg] at h
    cases eg with
    | false =>
      rw [if_neg (by simp)] at h
      simp only [Prod.mk.injEq] at h
      exact .inl ⟨rfl, h.1.symm, h.2.symm⟩
    | true =>
      rw [if_pos rfl] at h
      simp only [Prod.mk.injEq] at h
      obtain ⟨h1, _, _⟩ := (Po.fx_facts S u).1 i hf
      rw [List.getElem?_eq_getElem h1] at hg
      refine .inr ⟨rfl, h.1.symm, ?_, ?_, ?_⟩
      · rw [← h.2, Po.rest_some u S i hne hf]
      · rw [← h.2]; exact Po.ok_erase hok i
      · rw [← h.2]; exact Po.runs_erase S i h1 hg
/-- rows of targets, whatever their labels -/
def tgR : Rec Can.T := ⟨29, 2, 40, .agg #[.string ByteArray.empty, .slice none 0 0], fun t => [.string t.job, .slice t.p t.n t.c]⟩
theorem tgOk : Rec.Ok tgR where
  len _ := rfl
  one x v hv := by
    simp [tgR] at hv
    rcases hv with rfl | rfl <;> rfl
  pos := by decide
  small := by decide
  info := by kernel_rfl
  zs := rfl
end Go.Proofs.Ytpnpgjjbincigaa
