/- Arguments of the laws of chapter 35, as they lie in memory: labels, targets, slots, with the form's own reach. -/
import Derived.Test.YtpnpgjjbincigaaRow5
import Derived.SizedLaws
import Derived.Deep.SlicePairs
namespace Go.Proofs.Ytpnpgjjbincigaa
open Go.ChangeShapes Go.WideShapes Go.ChangeAt Go.RowKit
set_option linter.unusedVariables false

theorem row.wAll {H : Type} {P : Program} {e : TypeId} : ∀ {ds : List (DataW H)} {d : DataW H}, d ∈ ds → ∀ n ∈ d.weights P e, n ∈ DataW.weightsAll P e ds
  | a :: r, d, hd, n, hn => by
    simp only [DataW.weightsAll, List.mem_append]
    rcases List.mem_cons.1 hd with rfl | h
    · exact .inl hn
    · exact .inr (row.wAll h n hn)
  | [], _, hd, _, _ => nomatch hd
/-- what is weighed of a slice -/
theorem row.wSlice {H : Type} {P : Program} {t e : TypeId} {elems spare : List (DataW H)} (ht : P.underlying t = some (.slice e)) (hz : ∀ k ∈ (DataW.slice elems spare).weights P t, k ≤ reachBytes) :
    (elems.length + spare.length) * P.bytesOf e ≤ reachBytes ∧ ∀ d ∈ elems, ∀ k ∈ d.weights P e, k ≤ reachBytes := by
  have hw : (DataW.slice elems spare).weights P t = (elems.length + spare.length) * P.bytesOf e :: (DataW.weightsAll P e elems ++ DataW.weightsAll P e spare) := by
    unfold DataW.weights
    rw [ht]
  rw [hw] at hz
  exact ⟨hz _ List.mem_cons_self, fun d hd k hk => hz k (List.mem_cons_of_mem _ (List.mem_append_left _ (row.wAll hd k hk)))⟩
theorem row.wAgg {H : Type} {P : Program} {t : TypeId} {fs : Array Field} {parts : List (DataW H)} (ht : P.underlying t = some (.struct fs)) (hz : ∀ k ∈ (DataW.agg parts).weights P t, k ≤ reachBytes) {j : Nat} {f : Field} {d : DataW H} (hf : fs[j]? = some f) (hd : parts[j]? = some d) : ∀ k ∈ d.weights P f.type, k ≤ reachBytes := by
  have hw : (DataW.agg parts).weights P t = DataW.weightsEach P (fs.toList.map (·.type)) parts := by
    unfold DataW.weights
    rw [ht]
  rw [hw] at hz
  intro k hk
  refine hz k (DataW.weights_mem_each (j := j) ?_ hd k hk)
  rw [List.getElem?_map, Array.getElem?_toList, hf]
  rfl
def row.strOf : Value → ByteArray
  | .string s => s
  | _ => ⟨#[]⟩
/-- labels that can be read -/
theorem row.open_labelsZ {H : Type} {enc : TypeId × Value → H} {W : World} {t : TypeId} (ht : Try.prog.underlying t = some (.slice 37)) {fuel : Nat} {cs : List Value} {x : DataW H × List MemPlace} (h : DataW.trod enc Try.prog W 0 (fun _ => true) true fuel t cs = some x) :
    ∃ (a0 : Option Addr) (len cap : Nat) (ls : List Lab.L), cs = [.slice a0 len cap] ∧ ls.length = len ∧ Lab.At a0 ls W ∧ Lab.Fit maxLen ls ∧ (a0 = none → cap = 0) ∧ len ≤ maxLen ∧ ((∀ k ∈ x.1.weights Try.prog t, k ≤ reachBytes) → len ≤ 4398046511104) := by
  rcases Go.Deep.open_slice_pairs ht Try.underlying37 (by kernel_rfl) rfl rfl (by kernel_rfl) (by kernel_rfl) h with ⟨rfl, _⟩ | ⟨a, len, cap, m, n, V0, V1, D0, D1, P0, P1, rfl, _, hl, hm, hmm, hxx, hall⟩
  · exact ⟨none, 0, 0, [], rfl, rfl, .inl rfl, fun x hx => by simp at hx, fun _ => rfl, by simp, fun _ => Nat.zero_le _⟩
  · simp only [if_true] at hmm
    subst hmm
    have h0 : ∀ i, i < len → V0 i = .string (row.strOf (V0 i)) ∧ (row.strOf (V0 i)).size ≤ maxLen := by
      intro i hi
      obtain ⟨s, hs, _, hz⟩ := DataW.trod_string Try.underlying9 (hall i (by omega)).2.2.1
      simp only [List.cons.injEq, and_true] at hs
      rw [hs]
      exact ⟨rfl, hz⟩
    have h1 : ∀ i, i < len → V1 i = .string (row.strOf (V1 i)) ∧ (row.strOf (V1 i)).size ≤ maxLen := by
      intro i hi
      obtain ⟨s, hs, _, hz⟩ := DataW.trod_string Try.underlying9 (hall i (by omega)).2.2.2
      simp only [List.cons.injEq, and_true] at hs
      rw [hs]
      exact ⟨rfl, hz⟩
    refine ⟨_, len, _, (List.range len).map fun i => ⟨row.strOf (V0 i), row.strOf (V1 i)⟩, rfl, by simp, ?_, ?_, (fun h => by cases h), by omega, fun hz => ?_⟩
    · rcases Nat.eq_zero_or_pos len with rfl | hpos
      · exact .inl rfl
      · obtain ⟨b, o, spot⟩ := a
        have hspot : spot = none := by simpa [Addr.add] using World.cell?_spot (hall 0 (by omega)).1
        subst hspot
        refine .inr ⟨b, o, rfl, fun i hi => ?_⟩
        have hi' : i < len := by simpa using hi
        have e1 : (⟨b, o, none⟩ : Addr).add (i * 2) = ⟨b, o + i * 2, none⟩ := by unfold Addr.add; split <;> simp_all
        have e2 : (⟨b, o, none⟩ : Addr).add (i * 2 + 1) = ⟨b, o + i * 2 + 1, none⟩ := by unfold Addr.add; split <;> simp_all [Nat.add_assoc]
        have c0 := (hall i (by omega)).1
        have c1 := (hall i (by omega)).2.1
        rw [e1, (h0 i hi').1] at c0
        rw [e2, (h1 i hi').1] at c1
        simp only [List.getElem_map, List.getElem_range]
        exact ⟨c0, c1⟩
    · intro x hx
      obtain ⟨i, hi, rfl⟩ := List.mem_map.1 hx
      rw [List.mem_range] at hi
      exact ⟨(h0 i hi).2, (h1 i hi).2⟩
    · rw [hxx] at hz
      have h9 := (row.wSlice ht hz).1
      rw [List.length_map, List.length_range] at h9
      have hb : Try.prog.bytesOf 37 = 32 := by kernel_rfl
      rw [hb] at h9
      have hr := reachBytes_lt
      have h8 := Nat.le_trans (Nat.mul_le_mul_right 32 (Nat.le_add_right len _)) h9
      omega
/-- the cells of a target that can be read -/
theorem row.open_target2 {H : Type} {enc : TypeId × Value → H} {W : World} {fuel : Nat} {v0 v1 : Value} {x : DataW H × List MemPlace} (h : DataW.trod enc Try.prog W 0 (fun _ => true) true fuel 29 [v0, v1] = some x) :
    ∃ t : Can.T, v0 = .string t.job ∧ v1 = .slice t.p t.n t.c ∧ Lab.At t.p t.ls W ∧ Can.TAny t ∧ ((∀ k ∈ x.1.weights Try.prog 29, k ≤ reachBytes) → t.n ≤ 4398046511104) := by
  obtain ⟨y0, y1, n, hx, _, g0, g1⟩ := Go.ChangeShapes.trod_struct2 Try.underlying29 h
  have c0 : Try.prog.cellsOf 9 = 1 := by kernel_rfl
  have c1 : Try.prog.cellsOf 27 = 1 := by kernel_rfl
  simp only [c0, c1, List.drop_zero, List.take_succ_cons, List.take_zero, List.drop_succ_cons] at g0 g1
  obtain ⟨s, hs, _, hz⟩ := DataW.trod_string Try.underlying9 g0
  simp only [List.cons.injEq, and_true] at hs
  obtain ⟨a0, l0, cc, ls, hc, h1, h2, h3, h4, h5, h6⟩ := row.open_labelsZ Try.underlying27 g1
  simp only [List.cons.injEq, and_true] at hc
  refine ⟨⟨s, a0, l0, cc, ls⟩, hs, hc, h2, ⟨hz, h1, h3, h4, h5⟩, fun hw => ?_⟩
  rw [hx] at hw
  exact h6 (row.wAgg (j := 1) Try.underlying29 hw rfl rfl)
set_option maxRecDepth 100000 in
/-- a target as an argument -/
theorem row.open_targetA {H : Type} {enc : TypeId × Value → H} {W : World} {base : Nat} {v : Value} {d : DataW H} {p : List MemPlace} (hv : Value.okWide Try.prog W .any base 29 v) (h : DataW.Trod enc Try.prog W 0 (fun _ => true) true 29 v d p) :
    ∃ t : Can.T, v = .agg #[.string t.job, .slice t.p t.n t.c] ∧ Lab.At t.p t.ls W ∧ Can.TAny t ∧ ((∀ k ∈ d.weights Try.prog 29, k ≤ reachBytes) → t.n ≤ 4398046511104) := by
  obtain ⟨cs, rfl, hsz⟩ := okWide_struct Try.underlying29 hv
  obtain ⟨fuel, h⟩ := h
  have e2 : Try.prog.cellsOf 29 = 2 := by kernel_rfl
  rw [e2] at hsz
  obtain ⟨c0, c1, rfl⟩ : ∃ c0 c1, cs = #[c0, c1] := by
    obtain ⟨l⟩ := cs
    match l, hsz with
    | [c0, c1], _ => exact ⟨c0, c1, rfl⟩
  obtain ⟨t, h0, h1, h2, h3, h4⟩ := row.open_target2 (v0 := c0) (v1 := c1) h
  exact ⟨t, by rw [h0, h1], h2, h3, h4⟩
/-- targets that can be read -/
theorem row.open_targetsZ {H : Type} {enc : TypeId × Value → H} {W : World} {t : TypeId} (ht : Try.prog.underlying t = some (.slice 29)) {fuel : Nat} {cs : List Value} {x : DataW H × List MemPlace} (h : DataW.trod enc Try.prog W 0 (fun _ => true) true fuel t cs = some x) :
    ∃ (a0 : Option Addr) (len cap : Nat) (ts : List Can.T), cs = [.slice a0 len cap] ∧ ts.length = len ∧ Can.TPos a0 ts W ∧ (∀ t ∈ ts, Can.TAny t) ∧ ((∀ k ∈ x.1.weights Try.prog t, k ≤ reachBytes) → ∀ t ∈ ts, t.n ≤ 4398046511104) := by
  rcases Go.Deep.open_slice ht h with ⟨rfl, _⟩ | ⟨a, len, cap, m, n, D, Pl, rfl, _, hl, hm, hmm, hxx, hx⟩
  · exact ⟨none, 0, 0, [], rfl, rfl, .inl rfl, fun x hx => (nomatch hx), fun _ x hx => (nomatch hx)⟩
  · have ce : Try.prog.cellsOf 29 = 2 := by kernel_rfl
    have each : ∀ i, i < len → ∃ s : Can.T, W.cell? (a.add (i * 2)) = some (.string s.job) ∧ W.cell? (a.add (i * 2 + 1)) = some (.slice s.p s.n s.c) ∧ Lab.At s.p s.ls W ∧ Can.TAny s ∧ ((∀ k ∈ (D i).weights Try.prog 29, k ≤ reachBytes) → s.n ≤ 4398046511104) := by
      intro i hi
      obtain ⟨cs', g1, g2⟩ := hx i (by rw [hmm]; split <;> omega)
      rw [ce] at g1
      obtain ⟨_, hlen, hcell⟩ := World.cells?_some g1
      match cs', hlen with
      | [v0, v1], _ =>
        obtain ⟨s, e0, e1, k1, k2, k3⟩ := row.open_target2 g2
        have q0 := hcell 0 (by omega)
        have q1 := hcell 1 (by omega)
        rw [Go.Deep.add_add] at q0 q1
        exact ⟨s, by rw [← e0]; simpa using q0, by rw [← e1]; simpa using q1, k1, k2, k3⟩
    obtain ⟨xs, hx1, hx2⟩ := row.list each
    refine ⟨_, len, cap, xs, rfl, hx1, ?_, fun t ht => ?_, fun hz t ht' => ?_⟩
    · rcases Nat.eq_zero_or_pos len with h0 | hpos
      · exact .inl (List.length_eq_zero_iff.1 (hx1.trans h0))
      · obtain ⟨b, o, spot⟩ := a
        have hspot : spot = none := by simpa [Addr.add] using World.cell?_spot (hx2 0 (by omega)).1
        subst hspot
        have hb : b < W.heap.size := by
          have h0 := (hx2 0 (by omega)).1
          rw [row.addr] at h0
          exact World.block_lt_of_cell? _ _ h0
        refine .inr ⟨b, o, rfl, hb, fun i hi => ?_⟩
        obtain ⟨k0, k1, k2, _⟩ := hx2 i hi
        rw [row.addr] at k0
        rw [row.addr, ← Nat.add_assoc] at k1
        exact ⟨k0, k1, k2⟩
    · obtain ⟨i, hi, rfl⟩ := List.getElem_of_mem ht
      exact (hx2 i hi).2.2.2.1
    · obtain ⟨i, hi, rfl⟩ := List.getElem_of_mem ht'
      rw [hxx] at hz
      exact (hx2 i hi).2.2.2.2 ((row.wSlice ht hz).2 (D i) (List.mem_map.2 ⟨i, List.mem_range.2 (by omega), rfl⟩))
set_option maxRecDepth 100000 in
/-- slots that can be read -/
theorem row.open_slotsZ {H : Type} {enc : TypeId × Value → H} {W : World} {t : TypeId} (ht : Try.prog.underlying t = some (.slice 33)) {fuel : Nat} {cs : List Value} {x : DataW H × List MemPlace} (h : DataW.trod enc Try.prog W 0 (fun _ => true) true fuel t cs = some x) :
    ∃ (a0 : Option Addr) (len cap : Nat) (ss : List Sl), cs = [.slice a0 len cap] ∧ ss.length = len ∧ Po.At a0 ss W ∧ (∀ s ∈ ss, Can.TAny s.t) ∧ len ≤ cap ∧ cap ≤ maxLen ∧ ((∀ k ∈ x.1.weights Try.prog t, k ≤ reachBytes) → ∀ s ∈ ss, s.t.n ≤ 4398046511104) := by
  rcases Go.Deep.open_slice ht h with ⟨rfl, _⟩ | ⟨a, len, cap, m, n, D, Pl, rfl, _, hl, hm, hmm, hxx, hx⟩
  · exact ⟨none, 0, 0, [], rfl, rfl, ⟨.inl rfl, fun x hx => (nomatch hx)⟩, fun x hx => (nomatch hx), Nat.le_refl _, Nat.zero_le _, fun _ x hx => (nomatch hx)⟩
  · have ce : Try.prog.cellsOf 33 = 5 := by kernel_rfl
    have each : ∀ i, i < len → ∃ s : Sl, W.cell? (a.add (i * 5)) = some (.string s.t.job) ∧ W.cell? (a.add (i * 5 + 1)) = some (.slice s.t.p s.t.n s.t.c) ∧ W.cell? (a.add (i * 5 + 2)) = some (.int .i64 s.ev) ∧ W.cell? (a.add (i * 5 + 3)) = some (.int .i64 s.ti) ∧ W.cell? (a.add (i * 5 + 4)) = some (.bool s.en) ∧ Lab.At s.t.p s.t.ls W ∧ Can.TAny s.t ∧ ((∀ k ∈ (D i).weights Try.prog 33, k ≤ reachBytes) → s.t.n ≤ 4398046511104) := by
      intro i hi
      obtain ⟨cs', g1, g2⟩ := hx i (by rw [hmm]; split <;> omega)
      rw [ce] at g1
      obtain ⟨_, hlen, hcell⟩ := World.cells?_some g1
      obtain ⟨xs, k, hk, hxy, _, hxl, hf⟩ := DataW.trod_struct Try.underlying33 g2
      match xs, hxl, cs', hlen with
      | [y0, y1, y2, y3], _, [v0, v1, v2, v3, v4], _ =>
        have q0 := hf 0 _ rfl
        have q1 := hf 1 _ rfl
        have q2 := hf 2 _ rfl
        have q3 := hf 3 _ rfl
        have c0 : Try.prog.cellsOf 29 = 2 := by kernel_rfl
        have c1 : Try.prog.cellsOf 3 = 1 := by kernel_rfl
        have c3 : Try.prog.cellsOf 4 = 1 := by kernel_rfl
        simp [c0, c1, c3] at q0 q1 q2 q3
        obtain ⟨tt, e0, e1, k1, k2, k3⟩ := row.open_target2 q0
        obtain ⟨n1, e2, _, w1⟩ := DataW.trod_int Try.underlying3 q1
        obtain ⟨n2, e3, _, w2⟩ := DataW.trod_int Try.underlying3 q2
        obtain ⟨b3, e4, _⟩ := DataW.trod_bool Try.underlying4 q3
        simp only [List.cons.injEq, and_true] at e2 e3 e4
        have z0 := hcell 0 (by omega)
        have z1 := hcell 1 (by omega)
        have z2 := hcell 2 (by omega)
        have z3 := hcell 3 (by omega)
        have z4 := hcell 4 (by omega)
        rw [Go.Deep.add_add] at z0 z1 z2 z3 z4
        refine ⟨⟨tt, n1, n2, b3⟩, by rw [← e0]; simpa using z0, by rw [← e1]; simpa using z1, by rw [← e2]; simpa using z2, by rw [← e3]; simpa using z3, by rw [← e4]; simpa using z4, k1, k2, fun hz => ?_⟩
        have hd := congrArg Prod.fst hxy
        dsimp only at hd
        rw [hd] at hz
        exact k3 (row.wAgg (j := 0) Try.underlying33 hz rfl rfl)
    obtain ⟨xs, hx1, hx2⟩ := row.list each
    refine ⟨_, len, cap, xs, rfl, hx1, ⟨?_, fun s hs => ?_⟩, fun t ht => ?_, hl, hm, fun hz t ht' => ?_⟩
    · rcases Nat.eq_zero_or_pos len with h0 | hpos
      · exact .inl (List.length_eq_zero_iff.1 (hx1.trans h0))
      · obtain ⟨b, o, spot⟩ := a
        have hspot : spot = none := by simpa [Addr.add] using World.cell?_spot (hx2 0 (by omega)).1
        subst hspot
        refine .inr ⟨b, o, rfl, fun i hi j hj => ?_⟩
        obtain ⟨k0, k1, k2, k3, k4, _⟩ := hx2 i hi
        rw [row.addr] at k0 k1 k2 k3 k4
        have hj5 : j < 5 := hj
        have hkk : slR.k = 5 := rfl
        rw [hkk]
        match j, hj5 with
        | 0, _ => exact k0
        | 1, _ => rw [show o + i * 5 + 1 = o + (i * 5 + 1) by omega]; exact k1
        | 2, _ => rw [show o + i * 5 + 2 = o + (i * 5 + 2) by omega]; exact k2
        | 3, _ => rw [show o + i * 5 + 3 = o + (i * 5 + 3) by omega]; exact k3
        | 4, _ => rw [show o + i * 5 + 4 = o + (i * 5 + 4) by omega]; exact k4
    · obtain ⟨i, hi, rfl⟩ := List.getElem_of_mem hs
      exact (hx2 i hi).2.2.2.2.2.1
    · obtain ⟨i, hi, rfl⟩ := List.getElem_of_mem ht
      exact (hx2 i hi).2.2.2.2.2.2.1
    · obtain ⟨i, hi, rfl⟩ := List.getElem_of_mem ht'
      rw [hxx] at hz
      exact (hx2 i hi).2.2.2.2.2.2.2 ((row.wSlice ht hz).2 (D i) (List.mem_map.2 ⟨i, List.mem_range.2 (by omega), rfl⟩))
end Go.Proofs.Ytpnpgjjbincigaa
