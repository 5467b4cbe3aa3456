/- Contract of gaugerlaw04.of: labels of strings, two by two. -/
import Derived.Test.YtbilaghljlobpaaGreatL4K
import Derived.BigQuiet
import Derived.Deep.AppendLies
namespace Go.Proofs.YtbilaghljlobpaaGreat
open Go.RowKit
/-- 'append(v, x)' of a label written out, at a step of a region that draws its order -/
theorem step_pushL {ops : Array Oper} {o : Oper} {a : Act} {K : Act → World → Prop} {Q : Exit → Act → World → Prop} {E : Prop} {w : World} (T : TypeId) (hT : Tryz.prog.underlying T = some (.slice 31)) (hgd : o.guard = none) (s x : Operand)
    (ho : o.op = .call { callee := .builtin .append, args := #[s, x], argTypes := #[T, T] })
    (B : Nat) (v : Value) (l : List Lab.L) (hs : a.eval s = v) (hown : OwnLabels B v l w) (y : Lab.L) (G c : Nat) (hx : a.eval x = .slice (some ⟨G, 0, none⟩) 1 c)
    (hG : w.heap[G]? = some (.cells #[.string y.n, .string y.v] 31)) (hlen : l.length + 1 ≤ 4294967296) (hB : B ≤ w.heap.size)
    (h : ∀ g cap w', OwnLabels B (.slice (some ⟨g, 0, none⟩) (l.length + 1) cap) (l ++ [y]) w' → w.grownBy w' v.ownBlock → K (a.put o.dst (.slice (some ⟨g, 0, none⟩) (l.length + 1) cap)) w') :
    if Region.wanted o (yielded ops a.tmps) = true then Oper.wp Tryz.prog o a w K Q else E := by
  obtain ⟨i0, hi, hz0, hz1, hz2⟩ := info_parts infoLab
  refine step_append_lies w hgd s x T ho B 31 i0 _ 2 32 hT hi hz0 hz1 hz2 rfl (by decide) v l.length (Lab.cells l) hs hown ⟨G, 0, none⟩ 1 c (Lab.cells [y]) hx rfl
    (World.news_of_block (cs := #[.string y.n, .string y.v]) hG) (Lab.cells_one _) (by omega) (by unfold maxLen; omega) (by omega) hB w.heap.size rfl ?_
  intro g cap w' h1 h2 _ _
  refine h g cap w' ?_ h2
  unfold OwnLabels
  rw [Lab.cells_append, List.length_append]
  exact h1
theorem Can.pairs_take (xs : List ByteArray) (k : Nat) (h : k * 2 + 1 < xs.length) :
    Can.pairs ((xs.map (·.data.toList)).take ((k + 1) * 2)) = Can.pairs ((xs.map (·.data.toList)).take (k * 2)) ++ [⟨xs[k * 2], xs[k * 2 + 1]⟩] := by
  induction k generalizing xs with
  | zero =>
    match xs, h with
    | a :: b :: r, _ => rfl
  | succ k ih =>
    match xs, h with
    | a :: b :: r, h =>
      have := ih r (by simp only [List.length_cons] at h; omega)
      have e1 : (k + 1 + 1) * 2 = (k + 1) * 2 + 1 + 1 := by omega
      have e2 : (k + 1) * 2 = k * 2 + 1 + 1 := by omega
      rw [e1]
      simp only [List.map_cons, List.take_succ_cons, Can.pairs]
      rw [this]
      simp only [e2, List.take_succ_cons, Can.pairs, List.cons_append, List.getElem_cons_succ]
theorem Can.pairs_all (xs : List ByteArray) (k : Nat) (h1 : xs.length ≤ k * 2 + 1) (h2 : k * 2 ≤ xs.length) : Can.pairs ((xs.map (·.data.toList)).take (k * 2)) = Can.pairs (xs.map (·.data.toList)) := by
  induction k generalizing xs with
  | zero =>
    match xs, h1 with
    | [], _ => rfl
    | [a], _ => rfl
  | succ k ih =>
    match xs, h1, h2 with
    | [], _, h2 => simp at h2
    | [a], _, h2 => simp at h2; omega
    | a :: b :: r, h1, h2 =>
      have := ih r (by simp only [List.length_cons] at h1; omega) (by simp only [List.length_cons] at h2; omega)
      have e2 : (k + 1) * 2 = k * 2 + 1 + 1 := by omega
      rw [e2]
      simp only [List.map_cons, List.take_succ_cons, Can.pairs]
      rw [this]
theorem lit_texts (xs : List ByteArray) (C : Array Value) (hC : C = (xs.map Value.string).toArray) (W : World) (k : Nat) (hk : xs.length = k) (h2 : k ≤ 1000) :
    OwnTexts W.heap.size (.slice (some ⟨W.heap.size, 0, none⟩) k k) xs (W.alloc (.cells C 9)) := by
  subst hk
  subst hC
  refine ⟨by simp, .inr ⟨W.heap.size, xs.length, _, rfl, Nat.le_refl _, alloc_new _ _, Nat.le_refl _, by unfold maxLen; omega, by simp, ?_⟩⟩
  simp only [Nat.mul_one]
  rw [List.take_of_length_le (by simp)]

set_option maxHeartbeats 3200000 in
set_option maxRecDepth 100000 in
theorem of_is (B : Nat) (v : Value) (xs : List ByteArray) (M : Nat) (ls : List Lab.L) (w : World) (hv : OwnTexts B v xs w) (hM : xs.length = M) (he : M % 2 = 0) (h0 : 0 < M) (h1 : M ≤ 1000) (hls : Can.pairs (xs.map (·.data.toList)) = ls) :
    Calls Tryz.prog 5 #[v] w fun e w' => (∃ u, e = .returned u ∧ OwnLabels w.heap.size u ls w') ∧ Below w.heap.size w w' := by
  rcases hv.open with ⟨rfl, h⟩ | ⟨g, c, rfl, hg1, hlc, hc, hcells⟩
  · rw [h] at hM; simp at hM; omega
  have hc0 : ∀ (j : Nat) (hj : j < xs.length), w.cell? ⟨g, j, none⟩ = some (.string xs[j]) := fun j hj => hcells j _ (List.getElem?_eq_getElem hj)
  have HC := Lib.hid hc0
  have HP := Lib.hid (fun k h => Can.pairs_take xs k h)
  have HQ := Lib.hid ((Can.pairs_all xs (M / 2) (by omega) (by omega)).trans hls)
  have HXL := Lib.hid hM
  rw [hM] at hlc ⊢
  clear hv hcells hc0 hM hls
  go_enter Tryz.func5, Tryz.ntmps5
  go_wp2_with fail
  go_loopw [3, 4] (fun v i wr => ∃ k : Nat, k * 2 ≤ M ∧ i = .int .i64 ((k * 2 : Nat) : Int) ∧ OwnLabels w.heap.size v (Can.pairs ((xs.map (·.data.toList)).take (k * 2))) wr ∧ Below w.heap.size w wr) (fun _ i _ => M - (intOf i).toNat)
  case atStart => exact ⟨0, Nat.zero_le _, rfl, OwnLabels.nil _ _, Below.refl _ _⟩
  case round =>
    obtain ⟨k, hk, rfl, hown, hb⟩ := hrel
    have hsz := hb.size
    by_cases hlt : k * 2 < M
    · have j1 : k * 2 < xs.length := by have := HXL.out; omega
      have j2 : k * 2 + 1 < xs.length := by have := HXL.out; omega
      have HT := Lib.hid (HP.out k j2)
      have d0 := (hb.cell (p := ⟨g, k * 2, none⟩) hg1).trans (HC.out _ j1)
      have d1 := (hb.cell (p := ⟨g, k * 2 + 1, none⟩) hg1).trans (HC.out _ j2)
      obtain ⟨a, ha⟩ : ∃ a, xs[k * 2] = a := ⟨_, rfl⟩
      obtain ⟨b, hb'⟩ : ∃ b, xs[k * 2 + 1] = b := ⟨_, rfl⟩
      rw [ha] at d0 HT
      rw [hb'] at d1 HT
      have hlk : (Can.pairs ((xs.map (·.data.toList)).take (k * 2))).length ≤ 1000 := by rw [Can.pairs_length, List.length_take]; omega
      obtain ⟨l0, hl0⟩ : ∃ l0, Can.pairs ((xs.map (·.data.toList)).take (k * 2)) = l0 := ⟨_, rfl⟩
      rw [hl0] at hlk HT hown
      have n1 : (0 : Int) ≤ ((k * 2 : Nat) : Int) := by omega
      have n2 : ((k * 2 : Nat) : Int) < (M : Int) := by omega
      have n3 : ((k * 2 : Nat) : Int) + 1 < (M : Int) := by omega
      obtain ⟨K, hK⟩ : ∃ K, k * 2 = K := ⟨_, rfl⟩
      have n4 : IntKind.i64.wrap ((K : Int) + 1) = (K : Int) + 1 := by rw [IntKind.wrap_i64]; omega
      have n5 : ((K : Int) + 1).toNat = K + 1 := by omega
      have n6 : (0 : Int) ≤ (K : Int) + 1 := by omega
      have hlg := World.block_lt_of_cell? _ _ d0
      rw [hK] at d0 d1 n1 n2 n3 hlt ⊢
      clear hl0 ha hb'
      go_wp2_with fail
      go_region_held3 (fun w' => w'.cell? ⟨g, K, none⟩ = some (.string a) ∧ w'.cell? ⟨g, K + 1, none⟩ = some (.string b))
        (first
          | go_keep
          | (go_split_ands
             refine ⟨?_, ?_⟩
             · (rw [hgrow.cell_far _ (by simp; omega) (fun e => by have : w.heap.size ≤ g := (World.ownsRow.lt hown _ e.symm).1; omega)]; assumption)
             · (rw [hgrow.cell_far _ (by simp; omega) (fun e => by have : w.heap.size ≤ g := (World.ownsRow.lt hown _ e.symm).1; omega)]; assumption)))
        ((refine step_pushL 25 Tryz.underlying25 (by rfl) _ _ (by rfl) w.heap.size _ l0 (by rfl) (hown.alloc _) ⟨a, b⟩ wr.heap.size 1 (by rfl) (heap_alloc_new wr _) (by omega) (by simp; omega) ?_; intro g2 cap2 w4 hown4 hgrow))
      have hb4 : Below w.heap.size w w4 := ((hb.alloc hsz _).drew).grown hgrow (by simp; omega) (fun j hj => (World.ownsRow.lt hown j hj).1)
      go_wp2_with fail
      go_roundw
      case rel => exact ⟨k + 1, by omega, by go_num, by rw [HT.out]; first | exact hown4 | (unfold OwnLabels; rw [List.length_append]; exact hown4), hb4⟩
      case measure => simp [intOf]; omega
    · have hkM : k = M / 2 := by omega
      rw [hkM, HQ.out] at hown
      obtain ⟨K, hK⟩ : ∃ K, k * 2 = K := ⟨_, rfl⟩
      rw [hK] at hlt hk ⊢
      have m1 : (M : Int) ≤ (K : Int) := by omega
      have m2 : (K : Int) ≤ (M : Int) := by omega
      clear hkM hK hlt hk
      go_wp2_with fail
      go_ret
      exact ⟨⟨_, rfl, hown⟩, hb⟩
end Go.Proofs.YtbilaghljlobpaaGreat
