/- The walk of CanonSmall: the closed law returns true. -/
import Derived.Test.YthnaninhbofeoaaGreatDoorLists
import Derived.Test.YthnaninhbofeoaaGreatDoorTargB
import Derived.Test.YthnaninhbofeoaaGreatDoorWrong
import Derived.BigQuiet
import Derived.Deep.RegionHeld3
import Derived.Deep.DeepCutAuto
namespace Go.Proofs.YthnaninhbofeoaaGreatDoor
open Go.RowKit

theorem ctargets_true (aj : ByteArray) (ap : Option Addr) (al : List Lab.L) (an ac : Nat) (bj : ByteArray) (bp : Option Addr) (bl : List Lab.L) (bn bc : Nat) (s : ByteArray) (m : Int) (w : World) (hna : al.length = an) (hA : Lab.At ap al w) (hp : ap = none → ac = 0) (hFa : Lab.Fit maxLen al) (hla : an ≤ maxLen) (hja : aj.size ≤ maxLen)
    (hnb : bl.length = bn) (hB : Lab.At bp bl w) (hFb : Lab.Fit maxLen bl) (hlb : bn ≤ maxLen) (hjb : bj.size ≤ maxLen) (hs : s.size ≤ maxLen) (hm : w.cell? ⟨0, 0, none⟩ = some (.int .i64 m)) :
    Calls Tryz.prog 16 #[.agg #[.string aj, .slice ap an ac], .agg #[.string bj, .slice bp bn bc], .string s] w fun e w' => e = .returned (.bool true) ∧ Below w.heap.size w w' := by
  by_cases h : Can.short al = true ∧ Can.short bl = true ∧ s.size ≤ 3000 ∧ aj.size ≤ 300 ∧ bj.size ≤ 300
  · exact ctargets_near aj ap al an ac bj bp bl bn bc s m w hna hnb hA hB hp h.2.2.1 h.2.2.2.1 h.2.2.2.2 hm h.1 h.2.1
  · refine ctargets_far aj ap al an ac bj bp bl bn bc s m w hna hnb hA hB hFa hFb hla hlb hja hjb hs hm ?_
    by_cases h1 : Can.short al = true
    · by_cases h2 : Can.short bl = true
      · refine .inr (.inr ⟨h1, h2, ?_⟩)
        by_cases h3 : s.size ≤ 3000
        · by_cases h4 : aj.size ≤ 300
          · exact .inr (.inr ⟨h3, h4, Nat.lt_of_not_le fun h5 => h ⟨h1, h2, h3, h4, h5⟩⟩)
          · exact .inr (.inl ⟨h3, Nat.lt_of_not_le h4⟩)
        · exact .inl (Nat.lt_of_not_le h3)
      · exact .inr (.inl ⟨h1, Bool.eq_false_iff.2 h2⟩)
    · exact .inl (Bool.eq_false_iff.2 h1)
theorem Sm.fit1 (a b : ByteArray) (ha : a.size ≤ 1000) (hb : b.size ≤ 1000) : Lab.Fit maxLen [⟨a, b⟩] := fun x hx => by
  rw [List.mem_singleton] at hx
  subst hx
  unfold maxLen
  dsimp only
  omega
theorem Sm.fit2 (a b c d : ByteArray) (ha : a.size ≤ 1000) (hb : b.size ≤ 1000) (hc : c.size ≤ 1000) (hd : d.size ≤ 1000) : Lab.Fit maxLen [⟨a, b⟩, ⟨c, d⟩] := fun x hx => by
  simp only [List.mem_cons, List.not_mem_nil, or_false] at hx
  rcases hx with rfl | rfl
  all_goals
    unfold maxLen
    dsimp only
    omega
def Sm.Short (ls : List Lab.L) : Prop := ∀ x ∈ ls, x.n.size ≤ 3 ∧ x.v.size ≤ 1
theorem Sm.short_snoc {ls : List Lab.L} {x : Lab.L} (h : Sm.Short ls) (h1 : x.n.size ≤ 3) (h2 : x.v.size ≤ 1) : Sm.Short (ls ++ [x]) := fun y hy => by
  rw [List.mem_append, List.mem_singleton] at hy
  rcases hy with hy | rfl
  · exact h y hy
  · exact ⟨h1, h2⟩
theorem Sm.two (d1 d2 : Nat) (h1 : d1 ≤ 2) (h2 : d2 < 26) : (#[.int .u8 (97 + (d1 : Int)), .int .u8 (97 + (d2 : Int))] : Array Value).toList = Lib.byteCells [UInt8.ofNat (97 + d1), UInt8.ofNat (97 + d2)] := by
  have e1 : (UInt8.ofNat (97 + d1)).toNat = 97 + d1 := by rw [UInt8.toNat_ofNat']; omega
  have e2 : (UInt8.ofNat (97 + d2)).toNat = 97 + d2 := by rw [UInt8.toNat_ofNat']; omega
  show _ = [Value.int .u8 ((UInt8.ofNat (97 + d1)).toNat : Int), Value.int .u8 ((UInt8.ofNat (97 + d2)).toNat : Int)]
  rw [e1, e2]
  push_cast
  rfl
theorem Sm.at_split {g : Nat} {ls : List Lab.L} {w : World} (h : Lab.At (some ⟨g, 0, none⟩) ls w) (k : Nat) : Lab.At (some ⟨g, 0, none⟩) (ls.take k) w ∧ Lab.At (some ⟨g, k * 2, none⟩) (ls.drop k) w := by
  refine ⟨.inr ⟨g, 0, rfl, fun i hi => ?_⟩, .inr ⟨g, k * 2, rfl, fun i hi => ?_⟩⟩
  · have h1 : i < ls.length := by rw [List.length_take] at hi; omega
    have := h.cellsAt i h1
    rw [List.getElem_take, Nat.zero_add]
    exact this
  · have h1 : k + i < ls.length := by rw [List.length_drop] at hi; omega
    have := h.cellsAt (k + i) h1
    rw [List.getElem_drop, show k * 2 + i * 2 = (k + i) * 2 by omega]
    exact this
theorem Sm.short_fit {ls : List Lab.L} (h : Sm.Short ls) : Lab.Fit 4294967296 ls := fun x hx => by have := h x hx; omega
theorem Sm.bytes_len (ls : List Lab.L) (r : List UInt8) (e : Int) (h : Can.bytes ls = (r, e)) (hs : Sm.Short ls) (hl : ls.length ≤ 100) : r.length ≤ 1000 := by
  unfold Can.bytes at h
  split at h
  · simp only [Prod.mk.injEq] at h
    rw [← h.1]
    have := Can.raw_length ls 3 (fun x hx => by have := hs x hx; omega)
    omega
  · simp only [Prod.mk.injEq] at h
    rw [← h.1]
    simp
theorem Sm.zeros (n : Nat) : (madeCells #[Value.int .u8 0] n).toList = Lib.byteCells (List.replicate n 0) := by
  rw [toList_madeCells_one, Lib.byteCells, List.map_replicate]
  rfl
theorem Sm.next {W v v' : World} (o : Obj) (h : Below W.heap.size W v) (hb : Below v.heap.size (v.alloc o) v') : Below W.heap.size W v' := h.trans ((((Below.refl _ v).alloc (Nat.le_refl _) o).trans hb).mono h.size)
theorem Sm.step {v v' : World} (o : Obj) (hb : Below v.heap.size (v.alloc o) v') : Below v.heap.size v v' := ((Below.refl _ v).alloc (Nat.le_refl _) o).trans hb
theorem Sm.to {p : Option Addr} {ls : List Lab.L} {v v' : World} (h : Lab.At p ls v) (hb : Below v.heap.size v v') : Lab.At p ls v' := h.below hb (Nat.le_refl _)
def Sm.Has (Z : World) (G k : Nat) (t : Can.T) : Prop := Can.TAny t ∧ ∀ w', Below Z.heap.size Z w' → w'.cell? ⟨G, k * 2, none⟩ = some (.string t.job) ∧ w'.cell? ⟨G, k * 2 + 1, none⟩ = some (.slice t.p t.n t.c) ∧ Lab.At t.p t.ls w'
theorem Sm.has (Z : World) (G k : Nat) (t : Can.T) (h : Can.TAny t) (c0 : Z.cell? ⟨G, k * 2, none⟩ = some (.string t.job)) (c1 : Z.cell? ⟨G, k * 2 + 1, none⟩ = some (.slice t.p t.n t.c)) (hA : Lab.At t.p t.ls Z) : ∃ t, Sm.Has Z G k t :=
  ⟨t, h, fun _ hw => ⟨cell_later hw c0 (Nat.le_refl _), cell_later hw c1 (Nat.le_refl _), hA.below hw (Nat.le_refl _)⟩⟩
theorem Sm.fitAll (ls : List Lab.L) (h : (ls.all fun x => decide (x.n.size ≤ 1100) && decide (x.v.size ≤ 1100)) = true) : Lab.Fit maxLen ls := fun x hx => by
  have := Can.fit_lits ls h x hx
  unfold maxLen
  omega
theorem Sm.some8 (G : Nat) (Z : World) (g1 g2 g3 g4 g5 c1 c2 c3 c4 c5 : Nat) (hZ : Z.heap[G]? = some (.cells #[.string ⟨#[97]⟩, .slice none 0 0, .string ⟨#[97]⟩, .slice (some ⟨g1, 0, none⟩) 1 c1, .string ⟨#[97, 98]⟩, .slice (some ⟨g2, 0, none⟩) 1 c2, .string ⟨#[97]⟩, .slice (some ⟨g3, 0, none⟩) 2 c3, .string ⟨#[97]⟩, .slice (some ⟨g4, 0, none⟩) 1 c4, .string ⟨#[195, 169]⟩, .slice none 0 0, .string ⟨#[]⟩, .slice none 0 0, .string ⟨#[97]⟩, .slice (some ⟨g5, 0, none⟩) 1 c5] 37))
    (h1 : Lab.At (some ⟨g1, 0, none⟩) [⟨⟨#[98]⟩, ⟨#[49]⟩⟩] Z) (h2 : Lab.At (some ⟨g2, 0, none⟩) [⟨⟨#[98]⟩, ⟨#[49]⟩⟩] Z) (h3 : Lab.At (some ⟨g3, 0, none⟩) [⟨⟨#[98]⟩, ⟨#[49]⟩⟩, ⟨⟨#[99]⟩, ⟨#[50]⟩⟩] Z) (h4 : Lab.At (some ⟨g4, 0, none⟩) [⟨⟨#[98]⟩, ⟨#[50]⟩⟩] Z) (h5 : Lab.At (some ⟨g5, 0, none⟩) [⟨⟨#[98]⟩, ⟨#[]⟩⟩] Z) (k : Nat) (hk : k < 8) : ∃ t, Sm.Has Z G k t := by
  obtain rfl | rfl | rfl | rfl | rfl | rfl | rfl | rfl : k = 0 ∨ k = 1 ∨ k = 2 ∨ k = 3 ∨ k = 4 ∨ k = 5 ∨ k = 6 ∨ k = 7 := by omega
  · exact Sm.has Z G 0 ⟨⟨#[97]⟩, none, 0, 0, []⟩ ⟨(by unfold maxLen; decide : (⟨#[97]⟩ : ByteArray).size ≤ maxLen), rfl, fun x hx => absurd hx (by simp), fun _ => rfl, (by unfold maxLen; decide : 0 ≤ maxLen)⟩ (by rw [Lib.cell_of_heap hZ]; rfl) (by rw [Lib.cell_of_heap hZ]; rfl) (.inl rfl)
  · exact Sm.has Z G 1 ⟨⟨#[97]⟩, some ⟨g1, 0, none⟩, 1, c1, [⟨⟨#[98]⟩, ⟨#[49]⟩⟩]⟩ ⟨(by unfold maxLen; decide : (⟨#[97]⟩ : ByteArray).size ≤ maxLen), rfl, Sm.fitAll [⟨⟨#[98]⟩, ⟨#[49]⟩⟩] (by decide), (fun h => by cases h), (by unfold maxLen; omega : 1 ≤ maxLen)⟩ (by rw [Lib.cell_of_heap hZ]; rfl) (by rw [Lib.cell_of_heap hZ]; rfl) h1
  · exact Sm.has Z G 2 ⟨⟨#[97, 98]⟩, some ⟨g2, 0, none⟩, 1, c2, [⟨⟨#[98]⟩, ⟨#[49]⟩⟩]⟩ ⟨(by unfold maxLen; decide : (⟨#[97, 98]⟩ : ByteArray).size ≤ maxLen), rfl, Sm.fitAll [⟨⟨#[98]⟩, ⟨#[49]⟩⟩] (by decide), (fun h => by cases h), (by unfold maxLen; omega : 1 ≤ maxLen)⟩ (by rw [Lib.cell_of_heap hZ]; rfl) (by rw [Lib.cell_of_heap hZ]; rfl) h2
  · exact Sm.has Z G 3 ⟨⟨#[97]⟩, some ⟨g3, 0, none⟩, 2, c3, [⟨⟨#[98]⟩, ⟨#[49]⟩⟩, ⟨⟨#[99]⟩, ⟨#[50]⟩⟩]⟩ ⟨(by unfold maxLen; decide : (⟨#[97]⟩ : ByteArray).size ≤ maxLen), rfl, Sm.fitAll [⟨⟨#[98]⟩, ⟨#[49]⟩⟩, ⟨⟨#[99]⟩, ⟨#[50]⟩⟩] (by decide), (fun h => by cases h), (by unfold maxLen; omega : 2 ≤ maxLen)⟩ (by rw [Lib.cell_of_heap hZ]; rfl) (by rw [Lib.cell_of_heap hZ]; rfl) h3
  · exact Sm.has Z G 4 ⟨⟨#[97]⟩, some ⟨g4, 0, none⟩, 1, c4, [⟨⟨#[98]⟩, ⟨#[50]⟩⟩]⟩ ⟨(by unfold maxLen; decide : (⟨#[97]⟩ : ByteArray).size ≤ maxLen), rfl, Sm.fitAll [⟨⟨#[98]⟩, ⟨#[50]⟩⟩] (by decide), (fun h => by cases h), (by unfold maxLen; omega : 1 ≤ maxLen)⟩ (by rw [Lib.cell_of_heap hZ]; rfl) (by rw [Lib.cell_of_heap hZ]; rfl) h4
  · exact Sm.has Z G 5 ⟨⟨#[195, 169]⟩, none, 0, 0, []⟩ ⟨(by unfold maxLen; decide : (⟨#[195, 169]⟩ : ByteArray).size ≤ maxLen), rfl, fun x hx => absurd hx (by simp), fun _ => rfl, (by unfold maxLen; decide : 0 ≤ maxLen)⟩ (by rw [Lib.cell_of_heap hZ]; rfl) (by rw [Lib.cell_of_heap hZ]; rfl) (.inl rfl)
  · exact Sm.has Z G 6 ⟨⟨#[]⟩, none, 0, 0, []⟩ ⟨(by unfold maxLen; decide : (⟨#[]⟩ : ByteArray).size ≤ maxLen), rfl, fun x hx => absurd hx (by simp), fun _ => rfl, (by unfold maxLen; decide : 0 ≤ maxLen)⟩ (by rw [Lib.cell_of_heap hZ]; rfl) (by rw [Lib.cell_of_heap hZ]; rfl) (.inl rfl)
  · exact Sm.has Z G 7 ⟨⟨#[97]⟩, some ⟨g5, 0, none⟩, 1, c5, [⟨⟨#[98]⟩, ⟨#[]⟩⟩]⟩ ⟨(by unfold maxLen; decide : (⟨#[97]⟩ : ByteArray).size ≤ maxLen), rfl, Sm.fitAll [⟨⟨#[98]⟩, ⟨#[]⟩⟩] (by decide), (fun h => by cases h), (by unfold maxLen; omega : 1 ≤ maxLen)⟩ (by rw [Lib.cell_of_heap hZ]; rfl) (by rw [Lib.cell_of_heap hZ]; rfl) h5
theorem Sm.three (a b c : Can.T) (W : World) (ha : Lab.At a.p a.ls W) (hb : Lab.At b.p b.ls W) (hc : Lab.At c.p c.ls W) :
    Can.TPos (some ⟨W.heap.size, 0, none⟩) [a, b, c] (W.alloc (.cells #[.string a.job, .slice a.p a.n a.c, .string b.job, .slice b.p b.n b.c, .string c.job, .slice c.p c.n c.c] 37)) := by
  refine .inr ⟨W.heap.size, 0, rfl, by simp, fun i hi => ?_⟩
  have h3 : i < 3 := hi
  obtain rfl | rfl | rfl : i = 0 ∨ i = 1 ∨ i = 2 := by omega
  · exact ⟨by rw [Lib.cell_of_heap (alloc_new W _)]; rfl, by rw [Lib.cell_of_heap (alloc_new W _)]; rfl, ha.alloc _⟩
  · exact ⟨by rw [Lib.cell_of_heap (alloc_new W _)]; rfl, by rw [Lib.cell_of_heap (alloc_new W _)]; rfl, hb.alloc _⟩
  · exact ⟨by rw [Lib.cell_of_heap (alloc_new W _)]; rfl, by rw [Lib.cell_of_heap (alloc_new W _)]; rfl, hc.alloc _⟩
theorem Sm.take {P : Program} {md : Region.Mode} {ops : Array Oper} {Q : Exit → Act → World → Prop} {S : World → Prop} {i : Nat} {oi : Oper} {v : Value} {fuel : Nat} {listed : Array Bool} {a : Act} {w : World} (hi : ops.toList[i]? = some oi)
    (hs : Region.noSelect ops = true) (hf : Region.free md ops listed i = true) (hr : (Region.ready md ops listed).contains i = true)
    (hQ : ∀ c a w, Q (.panic c) (a.put oi.dst v) w → Q (.panic c) a w) (hy : YieldsIf P ops S oi v a) (hS : S w)
    (h : wpAnyH P md ops Q S fuel (listed.setIfInBounds i true) (a.put oi.dst v) w) : wpAnyH P md ops Q S (fuel + 1) listed a w :=
  wpAnyH_take (by simpa using hi) hs hf hr hQ hy hS h
def Sm.signs : Array Value := #[.string ⟨#[]⟩, .string ⟨#[97]⟩, .string ⟨#[98]⟩, .string ⟨#[49]⟩, .string ⟨#[255]⟩, .string ⟨#[254]⟩, .string ⟨#[128]⟩]
theorem Sm.sign (k : Nat) (h : k < 7) : ∃ s, Sm.signs[k]? = some (.string s) ∧ s.size ≤ 1 := by
  obtain rfl | rfl | rfl | rfl | rfl | rfl | rfl : k = 0 ∨ k = 1 ∨ k = 2 ∨ k = 3 ∨ k = 4 ∨ k = 5 ∨ k = 6 := by omega
  all_goals exact ⟨_, rfl, by decide⟩

set_option maxHeartbeats 12800000 in
set_option maxRecDepth 100000 in
theorem walk_CanonSmall (m : Int) (w : World) (hm : w.cell? ⟨0, 0, none⟩ = some (.int .i64 m)) :
    Calls Tryz.prog 5 #[] w fun e w' => e = .returned (.bool true) ∧ Below w.heap.size w w' := by
  have TL := Lib.hid (fun p ls n c s w hn hA hp hF hl hs hm => ctells_true p ls n c s m w hn hA hp hF hl hs hm)
  have TG := Lib.hid (fun aj ap al an ac bj bp bl bn bc s w hna hA hp hFa hla hja hnb hB hFb hlb hjb hs hm => ctargets_true aj ap al an ac bj bp bl bn bc s m w hna hA hp hFa hla hja hnb hB hFb hlb hjb hs hm)
  have OF := Lib.hid (fun B v xs M ls w hv hM he h0 h1 hls => of_is B v xs M ls w hv hM he h0 h1 hls)
  have HM : Hid (∀ w', Below w.heap.size w w' → w'.cell? ⟨0, 0, none⟩ = some (.int .i64 m)) := fun w' h => cell_later h hm (Nat.le_refl _)
  have AW := Lib.hid (fun w hm => awake_true m w hm)
  obtain ⟨i0, hi, hz0', hz1', hz2'⟩ := info_parts infoByte
  have HI := Lib.hid hi
  clear hm hi
  go_enter Tryz.func5, Tryz.ntmps5
  go_wp2_with fail
  have hB0 : Below w.heap.size w (w.alloc (.cells Sm.signs 9)) := (Below.refl _ w).alloc (Nat.le_refl _) _
  have hS0 := alloc_new w (.cells Sm.signs 9)
  have hz0 : w.heap.size < (w.alloc (.cells Sm.signs 9)).heap.size := by simp
  obtain ⟨V, hV⟩ : ∃ V, V = w.alloc (.cells Sm.signs 9) := ⟨_, rfl⟩
  rw [← hV] at hB0 hS0 hz0
  unfold Sm.signs at hV
  rw [← hV]
  clear hV
  have HS : Hid (∀ w' k, Below V.heap.size V w' → k < 7 → ∃ s, w'.cell? ⟨w.heap.size, k, none⟩ = some (.string s) ∧ s.size ≤ 1) := by
    show ∀ w' k, _
    intro w' k hb hk
    obtain ⟨s, h1, h2⟩ := Sm.sign k hk
    exact ⟨s, by rw [Lib.cell_of_heap (below_kept hb hS0 hz0)]; exact h1, h2⟩
  clear hS0
  go_loopw [21] (fun i wr => ∃ n : Nat, n ≤ 16807 ∧ i = .int .i64 (n : Int) ∧ Below V.heap.size V wr) (fun i _ => 16807 - (intOf i).toNat)
  case atStart => exact ⟨0, by omega, rfl, Below.refl _ _⟩
  case round =>
    obtain ⟨n, hn, rfl, hb⟩ := hrel
    by_cases hlt : n < 16807
    · obtain ⟨s0, c0, z0⟩ := HS.out wr (n % 7) hb (Nat.mod_lt _ (by omega))
      obtain ⟨s1, c1, z1⟩ := HS.out wr (n / 7 % 7) hb (Nat.mod_lt _ (by omega))
      obtain ⟨s2, c2, z2⟩ := HS.out wr (n / 49 % 7) hb (Nat.mod_lt _ (by omega))
      obtain ⟨s3, c3, z3⟩ := HS.out wr (n / 343 % 7) hb (Nat.mod_lt _ (by omega))
      obtain ⟨s4, c4, z4⟩ := HS.out wr (n / 2401) hb (by omega)
      have a0 : Int.tmod (n : Int) 7 = ((n % 7 : Nat) : Int) := by rw [Int.tmod_eq_emod_of_nonneg (by omega)]; omega
      have a1 : Int.tdiv (n : Int) 7 = ((n / 7 : Nat) : Int) := by rw [Int.tdiv_eq_ediv_of_nonneg (by omega)]; omega
      have a2 : Int.tdiv (n : Int) 49 = ((n / 49 : Nat) : Int) := by rw [Int.tdiv_eq_ediv_of_nonneg (by omega)]; omega
      have a3 : Int.tdiv (n : Int) 343 = ((n / 343 : Nat) : Int) := by rw [Int.tdiv_eq_ediv_of_nonneg (by omega)]; omega
      have a4 : Int.tdiv (n : Int) 2401 = ((n / 2401 : Nat) : Int) := by rw [Int.tdiv_eq_ediv_of_nonneg (by omega)]; omega
      have b1 : Int.tmod ((n / 7 : Nat) : Int) 7 = ((n / 7 % 7 : Nat) : Int) := by rw [Int.tmod_eq_emod_of_nonneg (by omega)]; omega
      have b2 : Int.tmod ((n / 49 : Nat) : Int) 7 = ((n / 49 % 7 : Nat) : Int) := by rw [Int.tmod_eq_emod_of_nonneg (by omega)]; omega
      have b3 : Int.tmod ((n / 343 : Nat) : Int) 7 = ((n / 343 % 7 : Nat) : Int) := by rw [Int.tmod_eq_emod_of_nonneg (by omega)]; omega
      have l0 : n % 7 < 7 := Nat.mod_lt _ (by omega)
      have l1 : n / 7 % 7 < 7 := Nat.mod_lt _ (by omega)
      have l2 : n / 49 % 7 < 7 := Nat.mod_lt _ (by omega)
      have l3 : n / 343 % 7 < 7 := Nat.mod_lt _ (by omega)
      have l4 : n / 2401 < 7 := by omega
      obtain ⟨d1, hd1⟩ : ∃ d, n / 7 = d := ⟨_, rfl⟩
      obtain ⟨d2, hd2⟩ : ∃ d, n / 49 = d := ⟨_, rfl⟩
      obtain ⟨d3, hd3⟩ : ∃ d, n / 343 = d := ⟨_, rfl⟩
      rw [hd1] at a1 b1 l1 c1
      rw [hd2] at a2 b2 l2 c2
      rw [hd3] at a3 b3 l3 c3
      obtain ⟨k0, hk0⟩ : ∃ d, n % 7 = d := ⟨_, rfl⟩
      obtain ⟨k1, hk1⟩ : ∃ d, d1 % 7 = d := ⟨_, rfl⟩
      obtain ⟨k2, hk2⟩ : ∃ d, d2 % 7 = d := ⟨_, rfl⟩
      obtain ⟨k3, hk3⟩ : ∃ d, d3 % 7 = d := ⟨_, rfl⟩
      obtain ⟨k4, hk4⟩ : ∃ d, n / 2401 = d := ⟨_, rfl⟩
      rw [hk0] at a0 l0 c0
      rw [hk1] at b1 l1 c1
      rw [hk2] at b2 l2 c2
      rw [hk3] at b3 l3 c3
      rw [hk4] at a4 l4 c4
      have j0 : (0 : Int) ≤ (k0 : Int) ∧ (k0 : Int) < 7 := by omega
      have j1 : (0 : Int) ≤ (k1 : Int) ∧ (k1 : Int) < 7 := by omega
      have j2 : (0 : Int) ≤ (k2 : Int) ∧ (k2 : Int) < 7 := by omega
      have j3 : (0 : Int) ≤ (k3 : Int) ∧ (k3 : Int) < 7 := by omega
      have j4 : (0 : Int) ≤ (k4 : Int) ∧ (k4 : Int) < 7 := by omega
      have n1 : (0 : Int) ≤ (n : Int) := by omega
      have n2 : (n : Int) < 16807 := by omega
      have w1 : IntKind.i64.wrap (d1 : Int) = (d1 : Int) := by rw [IntKind.wrap_i64]; omega
      have w2 : IntKind.i64.wrap (d2 : Int) = (d2 : Int) := by rw [IntKind.wrap_i64]; omega
      have w3 : IntKind.i64.wrap (d3 : Int) = (d3 : Int) := by rw [IntKind.wrap_i64]; omega
      have w4 : IntKind.i64.wrap (k4 : Int) = (k4 : Int) := by rw [IntKind.wrap_i64]; omega
      clear hd1 hd2 hd3 hk0 hk1 hk2 hk3 hk4
      obtain ⟨j01, j02⟩ := j0
      obtain ⟨j11, j12⟩ := j1
      obtain ⟨j21, j22⟩ := j2
      obtain ⟨j31, j32⟩ := j3
      obtain ⟨j41, j42⟩ := j4
      go_wp2_with fail
      go_quiet (fail)
      go_wp2_with fail
      obtain ⟨S5, hS5⟩ : ∃ S5, s0 ++ s1 ++ s2 ++ s3 ++ s4 = S5 := ⟨_, rfl⟩
      have hz5 : S5.size ≤ 5 := by rw [← hS5]; simp only [ByteArray.size_append]; omega
      rw [hS5]
      have hbd : Below V.heap.size V (wr.drewN nq) := below_drewN hb _
      have hmd := HM.out (wr.drewN nq) (hB0.trans (hbd.mono hB0.size))
      obtain ⟨W1, hW1⟩ : ∃ W1, wr.drewN nq = W1 := ⟨_, rfl⟩
      rw [hW1] at hbd hmd ⊢
      have c0' : W1.cell? ⟨w.heap.size, k0, none⟩ = some (.string s0) := by rw [← hW1]; exact c0
      have c1' : W1.cell? ⟨w.heap.size, k1, none⟩ = some (.string s1) := by rw [← hW1]; exact c1
      have c2' : W1.cell? ⟨w.heap.size, k2, none⟩ = some (.string s2) := by rw [← hW1]; exact c2
      have c3' : W1.cell? ⟨w.heap.size, k3, none⟩ = some (.string s3) := by rw [← hW1]; exact c3
      have HLT := Lib.hid (lit_texts [s0, s1, s2, s3] #[.string s0, .string s1, .string s2, .string s3] rfl W1 4 rfl (by omega))
      have HMD : Hid ((W1.alloc (.cells #[.string s0, .string s1, .string s2, .string s3] 9)).drew.cell? ⟨0, 0, none⟩ = some (.int .i64 m)) := cell_later ((Below.refl _ W1).alloc (Nat.le_refl _) _) hmd (Nat.le_refl _)
      have OL := Lib.hid (fun W h => of_is W1.heap.size (.slice (some ⟨W1.heap.size, 0, none⟩) 4 4) [s0, s1, s2, s3] 4 [⟨s0, s1⟩, ⟨s2, s3⟩] W h rfl (by omega) (by omega) (by omega) (by simp [Can.pairs, Can.mk]))
      have TL2 := Lib.hid (fun g c w hA hm => TL.out (some g) [⟨s0, s1⟩, ⟨s2, s3⟩] 2 c S5 w rfl hA (fun h => by cases h) (Sm.fit2 s0 s1 s2 s3 (by omega) (by omega) (by omega) (by omega)) (by unfold maxLen; omega) (by unfold maxLen; omega) hm)
      have TG2 := Lib.hid (fun w hm => TG.out (s0 ++ s2) none [] 0 0 s1 none [] 0 0 S5 w rfl (.inl rfl) (fun _ => rfl) (fun x hx => absurd hx (by simp)) (by unfold maxLen; omega) (by rw [ByteArray.size_append]; unfold maxLen; omega) rfl (.inl rfl) (fun x hx => absurd hx (by simp)) (by unfold maxLen; omega) (by unfold maxLen; omega) (by unfold maxLen; omega) hm)
      clear hS5 hW1 c0 c1 c2 c3 c4 a4 w4 j41 j42 l4 z4 hb hz5
      obtain ⟨r, hr⟩ : ∃ r, n % 3 = r := ⟨_, rfl⟩
      have a5 : Int.tmod (n : Int) 3 = (r : Int) := by rw [Int.tmod_eq_emod_of_nonneg (by omega), ← hr]; omega
      have q0 : ((r : Int) == 0) = decide (r = 0) := by rw [Bool.eq_iff_iff]; simp
      obtain ⟨b0, hb0⟩ : ∃ b0, decide (r = 0) = b0 := ⟨_, rfl⟩
      rw [hb0] at q0
      clear hr hb0
      have hbd1 : Below V.heap.size V (W1.alloc (.cells #[.string s0, .string s1, .string s2, .string s3] 9)).drew := (hbd.alloc hbd.size _).drew
      cases b0
      · refine wp_region_held_drew (S := (fun w' => w'.cell? ⟨w.heap.size, k0, none⟩ = some (.string s0) ∧ w'.cell? ⟨w.heap.size, k1, none⟩ = some (.string s1) ∧ w'.cell? ⟨w.heap.size, k2, none⟩ = some (.string s2) ∧ w'.cell? ⟨w.heap.size, k3, none⟩ = some (.string s3) ∧ w'.cell? ⟨0, 0, none⟩ = some (.int .i64 m))) (by kernel_rfl) ⟨by assumption, by assumption, by assumption, by assumption, by assumption⟩ (fun hHeld => ?_)
        refine Sm.take (i := 0) (v := ?_) rfl (by kernel_rfl) (by kernel_rfl) (by kernel_rfl) (fun _ _ _ h => h) (.inl ⟨by rfl, ?_⟩) (by assumption) ?_
        rotate_left
        · (intro w9 hS9; (try dsimp only at hS9); go_simp; try with_reducible rfl)
        try simp only [Act.put, List.setIfInBounds_toArray, List.set_cons_zero, List.set_cons_succ]
        refine Sm.take (i := 1) (v := ?_) rfl (by kernel_rfl) (by kernel_rfl) (by kernel_rfl) (fun _ _ _ h => h) (.inl ⟨by rfl, ?_⟩) (by assumption) ?_
        rotate_left
        · (intro w9 hS9; (try dsimp only at hS9); go_simp; try with_reducible rfl)
        try simp only [Act.put, List.setIfInBounds_toArray, List.set_cons_zero, List.set_cons_succ]
        refine Sm.take (i := 2) (v := ?_) rfl (by kernel_rfl) (by kernel_rfl) (by kernel_rfl) (fun _ _ _ h => h) (.inl ⟨by rfl, ?_⟩) (by assumption) ?_
        rotate_left
        · (intro w9 hS9; (try dsimp only at hS9); go_simp; try with_reducible rfl)
        try simp only [Act.put, List.setIfInBounds_toArray, List.set_cons_zero, List.set_cons_succ]
        refine Sm.take (i := 3) (v := ?_) rfl (by kernel_rfl) (by kernel_rfl) (by kernel_rfl) (fun _ _ _ h => h) (.inl ⟨by rfl, ?_⟩) (by assumption) ?_
        rotate_left
        · (intro w9 hS9; (try dsimp only at hS9); go_simp; try with_reducible rfl)
        try simp only [Act.put, List.setIfInBounds_toArray, List.set_cons_zero, List.set_cons_succ]
        refine Sm.take (i := 4) (v := ?_) rfl (by kernel_rfl) (by kernel_rfl) (by kernel_rfl) (fun _ _ _ h => h) (.inl ⟨by rfl, ?_⟩) (by assumption) ?_
        rotate_left
        · (intro w9 hS9; (try dsimp only at hS9); go_simp; try with_reducible rfl)
        try simp only [Act.put, List.setIfInBounds_toArray, List.set_cons_zero, List.set_cons_succ]
        refine Sm.take (i := 5) (v := ?_) rfl (by kernel_rfl) (by kernel_rfl) (by kernel_rfl) (fun _ _ _ h => h) (.inl ⟨by rfl, ?_⟩) (by assumption) ?_
        rotate_left
        · (intro w9 hS9; (try dsimp only at hS9); go_simp; try with_reducible rfl)
        try simp only [Act.put, List.setIfInBounds_toArray, List.set_cons_zero, List.set_cons_succ]
        refine Sm.take (i := 6) (v := ?_) rfl (by kernel_rfl) (by kernel_rfl) (by kernel_rfl) (fun _ _ _ h => h) (.inl ⟨by rfl, ?_⟩) (by assumption) ?_
        rotate_left
        · (intro w9 hS9; (try dsimp only at hS9); go_simp; try with_reducible rfl)
        try simp only [Act.put, List.setIfInBounds_toArray, List.set_cons_zero, List.set_cons_succ]
        refine Sm.take (i := 7) (v := ?_) rfl (by kernel_rfl) (by kernel_rfl) (by kernel_rfl) (fun _ _ _ h => h) (.inl ⟨by rfl, ?_⟩) (by assumption) ?_
        rotate_left
        · (intro w9 hS9; (try dsimp only at hS9); go_simp; try with_reducible rfl)
        try simp only [Act.put, List.setIfInBounds_toArray, List.set_cons_zero, List.set_cons_succ]
        refine Sm.take (i := 8) (v := ?_) rfl (by kernel_rfl) (by kernel_rfl) (by kernel_rfl) (fun _ _ _ h => h) (.inl ⟨by rfl, ?_⟩) (by assumption) ?_
        rotate_left
        · (intro w9 hS9; (try dsimp only at hS9); go_simp; try with_reducible rfl)
        try simp only [Act.put, List.setIfInBounds_toArray, List.set_cons_zero, List.set_cons_succ]
        refine Sm.take (i := 9) (v := ?_) rfl (by kernel_rfl) (by kernel_rfl) (by kernel_rfl) (fun _ _ _ h => h) (.inl ⟨by rfl, ?_⟩) (by assumption) ?_
        rotate_left
        · (intro w9 hS9; (try dsimp only at hS9); go_simp; try with_reducible rfl)
        try simp only [Act.put, List.setIfInBounds_toArray, List.set_cons_zero, List.set_cons_succ]
        refine Sm.take (i := 10) (v := ?_) rfl (by kernel_rfl) (by kernel_rfl) (by kernel_rfl) (fun _ _ _ h => h) (.inl ⟨by rfl, ?_⟩) (by assumption) ?_
        rotate_left
        · (intro w9 hS9; (try dsimp only at hS9); go_simp; try with_reducible rfl)
        try simp only [Act.put, List.setIfInBounds_toArray, List.set_cons_zero, List.set_cons_succ]
        refine Sm.take (i := 11) (v := ?_) rfl (by kernel_rfl) (by kernel_rfl) (by kernel_rfl) (fun _ _ _ h => h) (.inl ⟨by rfl, ?_⟩) (by assumption) ?_
        rotate_left
        · (intro w9 hS9; (try dsimp only at hS9); go_simp; try with_reducible rfl)
        try simp only [Act.put, List.setIfInBounds_toArray, List.set_cons_zero, List.set_cons_succ]
        refine Sm.take (i := 12) (v := ?_) rfl (by kernel_rfl) (by kernel_rfl) (by kernel_rfl) (fun _ _ _ h => h) (.inl ⟨by rfl, ?_⟩) (by assumption) ?_
        rotate_left
        · (intro w9 hS9; (try dsimp only at hS9); go_simp; try with_reducible rfl)
        try simp only [Act.put, List.setIfInBounds_toArray, List.set_cons_zero, List.set_cons_succ]
        refine Sm.take (i := 13) (v := ?_) rfl (by kernel_rfl) (by kernel_rfl) (by kernel_rfl) (fun _ _ _ h => h) (.inl ⟨by rfl, ?_⟩) (by assumption) ?_
        rotate_left
        · (intro w9 hS9; (try dsimp only at hS9); go_simp; try with_reducible rfl)
        try simp only [Act.put, List.setIfInBounds_toArray, List.set_cons_zero, List.set_cons_succ]
        refine Sm.take (i := 14) (v := ?_) rfl (by kernel_rfl) (by kernel_rfl) (by kernel_rfl) (fun _ _ _ h => h) (.inl ⟨by rfl, ?_⟩) (by assumption) ?_
        rotate_left
        · (intro w9 hS9; (try dsimp only at hS9); go_simp; try with_reducible rfl)
        try simp only [Act.put, List.setIfInBounds_toArray, List.set_cons_zero, List.set_cons_succ]
        refine Sm.take (i := 15) (v := ?_) rfl (by kernel_rfl) (by kernel_rfl) (by kernel_rfl) (fun _ _ _ h => h) (.inl ⟨by rfl, ?_⟩) (by assumption) ?_
        rotate_left
        · (intro w9 hS9; (try dsimp only at hS9); go_simp; try with_reducible rfl)
        try simp only [Act.put, List.setIfInBounds_toArray, List.set_cons_zero, List.set_cons_succ]
        refine Sm.take (i := 16) (v := ?_) rfl (by kernel_rfl) (by kernel_rfl) (by kernel_rfl) (fun _ _ _ h => h) (.inl ⟨by rfl, ?_⟩) (by assumption) ?_
        rotate_left
        · (intro w9 hS9; (try dsimp only at hS9); go_simp; try with_reducible rfl)
        try simp only [Act.put, List.setIfInBounds_toArray, List.set_cons_zero, List.set_cons_succ]
        refine Sm.take (i := 17) (v := ?_) rfl (by kernel_rfl) (by kernel_rfl) (by kernel_rfl) (fun _ _ _ h => h) (.inl ⟨by rfl, ?_⟩) (by assumption) ?_
        rotate_left
        · (intro w9 hS9; (try dsimp only at hS9); go_simp; try with_reducible rfl)
        try simp only [Act.put, List.setIfInBounds_toArray, List.set_cons_zero, List.set_cons_succ]
        refine Sm.take (i := 18) (v := ?_) rfl (by kernel_rfl) (by kernel_rfl) (by kernel_rfl) (fun _ _ _ h => h) (.inl ⟨by rfl, ?_⟩) (by assumption) ?_
        rotate_left
        · (intro w9 hS9; (try dsimp only at hS9); go_simp; try with_reducible rfl)
        try simp only [Act.put, List.setIfInBounds_toArray, List.set_cons_zero, List.set_cons_succ]
        refine Sm.take (i := 19) (v := ?_) rfl (by kernel_rfl) (by kernel_rfl) (by kernel_rfl) (fun _ _ _ h => h) (.inl ⟨by rfl, ?_⟩) (by assumption) ?_
        rotate_left
        · (intro w9 hS9; (try dsimp only at hS9); go_simp; try with_reducible rfl)
        try simp only [Act.put, List.setIfInBounds_toArray, List.set_cons_zero, List.set_cons_succ]
        refine Sm.take (i := 20) (v := ?_) rfl (by kernel_rfl) (by kernel_rfl) (by kernel_rfl) (fun _ _ _ h => h) (.inl ⟨by rfl, ?_⟩) (by assumption) ?_
        rotate_left
        · (intro w9 hS9; (try dsimp only at hS9); go_simp; try with_reducible rfl)
        try simp only [Act.put, List.setIfInBounds_toArray, List.set_cons_zero, List.set_cons_succ]
        refine Sm.take (i := 21) (v := ?_) rfl (by kernel_rfl) (by kernel_rfl) (by kernel_rfl) (fun _ _ _ h => h) (.inl ⟨by rfl, ?_⟩) (by assumption) ?_
        rotate_left
        · (intro w9 hS9; (try dsimp only at hS9); go_simp; try with_reducible rfl)
        try simp only [Act.put, List.setIfInBounds_toArray, List.set_cons_zero, List.set_cons_succ]
        refine Sm.take (i := 22) (v := ?_) rfl (by kernel_rfl) (by kernel_rfl) (by kernel_rfl) (fun _ _ _ h => h) (.inl ⟨by rfl, ?_⟩) (by assumption) ?_
        rotate_left
        · (intro w9 hS9; (try dsimp only at hS9); go_simp; try with_reducible rfl)
        try simp only [Act.put, List.setIfInBounds_toArray, List.set_cons_zero, List.set_cons_succ]
        refine Sm.take (i := 25) (v := ?_) rfl (by kernel_rfl) (by kernel_rfl) (by kernel_rfl) (fun _ _ _ h => h) (.inl ⟨by rfl, ?_⟩) (by assumption) ?_
        rotate_left
        · (intro w9 hS9; (try dsimp only at hS9); go_simp; try with_reducible rfl)
        try simp only [Act.put, List.setIfInBounds_toArray, List.set_cons_zero, List.set_cons_succ]
        refine wpAnyH_ready (rs := [23]) (by kernel_rfl) (by simp) ?_
        refine AllReadyH.cons rfl (fun K hK => ?_) AllReadyH.nil
        go_simp
        refine hK.out _ _ (by (try dsimp only at hHeld ⊢); exact ⟨cell_later ((Below.refl _ _).alloc (Nat.le_refl _) _) hHeld.1 (Nat.le_refl _), cell_later ((Below.refl _ _).alloc (Nat.le_refl _) _) hHeld.2.1 (Nat.le_refl _), cell_later ((Below.refl _ _).alloc (Nat.le_refl _) _) hHeld.2.2.1 (Nat.le_refl _), cell_later ((Below.refl _ _).alloc (Nat.le_refl _) _) hHeld.2.2.2.1 (Nat.le_refl _), cell_later ((Below.refl _ _).alloc (Nat.le_refl _) _) hHeld.2.2.2.2 (Nat.le_refl _)⟩) (fun hHeld => ?_)
        clear hK K
        try simp only [Act.put, List.setIfInBounds_toArray, List.set_cons_zero, List.set_cons_succ]
        refine wpAnyH_ready (rs := [24]) (by kernel_rfl) (by simp) ?_
        refine AllReadyH.cons rfl (fun K hK => ?_) AllReadyH.nil
        go_simp
        (go_at_call 15; refine (OL.out (W1.alloc (.cells #[.string s0, .string s1, .string s2, .string s3] 9)).drew HLT.out).mono ?_; rintro e w2 ⟨⟨u, rfl, hu⟩, hb2⟩; obtain ⟨g2, cu, eu, _⟩ := OwnLabels.form hu (by simp); replace eu : u = .slice (some ⟨g2, 0, none⟩) 2 cu := eu; subst eu)
        refine hK.out _ _ (by (try dsimp only at hHeld ⊢); exact ⟨cell_later hb2 hHeld.1 (Nat.le_refl _), cell_later hb2 hHeld.2.1 (Nat.le_refl _), cell_later hb2 hHeld.2.2.1 (Nat.le_refl _), cell_later hb2 hHeld.2.2.2.1 (Nat.le_refl _), cell_later hb2 hHeld.2.2.2.2 (Nat.le_refl _)⟩) (fun hHeld => ?_)
        clear hK K
        try simp only [Act.put, List.setIfInBounds_toArray, List.set_cons_zero, List.set_cons_succ]
        refine wpAnyH_ready (rs := [26]) (by kernel_rfl) (by simp) ?_
        refine AllReadyH.cons rfl (fun K hK => ?_) AllReadyH.nil
        go_simp
        (go_at_call 14; refine (TL2.out _ _ _ hu.at (cell_later hb2 HMD.out (Nat.le_refl _))).mono ?_; rintro e w3 ⟨rfl, hb3⟩)
        refine hK.out _ _ (by (try dsimp only at hHeld ⊢); exact ⟨cell_later hb3 hHeld.1 (Nat.le_refl _), cell_later hb3 hHeld.2.1 (Nat.le_refl _), cell_later hb3 hHeld.2.2.1 (Nat.le_refl _), cell_later hb3 hHeld.2.2.2.1 (Nat.le_refl _), cell_later hb3 hHeld.2.2.2.2 (Nat.le_refl _)⟩) (fun hHeld => ?_)
        clear hK K
        try simp only [Act.put, List.setIfInBounds_toArray, List.set_cons_zero, List.set_cons_succ]
        refine Sm.take (i := 27) (v := ?_) rfl (by kernel_rfl) (by kernel_rfl) (by kernel_rfl) (fun _ _ _ h => h) (.inl ⟨by rfl, ?_⟩) (by assumption) ?_
        rotate_left
        · (intro w9 hS9; (try dsimp only at hS9); go_simp; try with_reducible rfl)
        try simp only [Act.put, List.setIfInBounds_toArray, List.set_cons_zero, List.set_cons_succ]
        refine Sm.take (i := 28) (v := ?_) rfl (by kernel_rfl) (by kernel_rfl) (by kernel_rfl) (fun _ _ _ h => h) (.inl ⟨by rfl, ?_⟩) (by assumption) ?_
        rotate_left
        · (intro w9 hS9; (try dsimp only at hS9); go_simp; try with_reducible rfl)
        try simp only [Act.put, List.setIfInBounds_toArray, List.set_cons_zero, List.set_cons_succ]
        refine Sm.take (i := 29) (v := ?_) rfl (by kernel_rfl) (by kernel_rfl) (by kernel_rfl) (fun _ _ _ h => h) (.inl ⟨by rfl, ?_⟩) (by assumption) ?_
        rotate_left
        · (intro w9 hS9; (try dsimp only at hS9); go_simp; try with_reducible rfl)
        try simp only [Act.put, List.setIfInBounds_toArray, List.set_cons_zero, List.set_cons_succ]
        refine Sm.take (i := 30) (v := ?_) rfl (by kernel_rfl) (by kernel_rfl) (by kernel_rfl) (fun _ _ _ h => h) (.inl ⟨by rfl, ?_⟩) (by assumption) ?_
        rotate_left
        · (intro w9 hS9; (try dsimp only at hS9); go_simp; try with_reducible rfl)
        try simp only [Act.put, List.setIfInBounds_toArray, List.set_cons_zero, List.set_cons_succ]
        refine Sm.take (i := 31) (v := ?_) rfl (by kernel_rfl) (by kernel_rfl) (by kernel_rfl) (fun _ _ _ h => h) (.inl ⟨by rfl, ?_⟩) (by assumption) ?_
        rotate_left
        · (intro w9 hS9; (try dsimp only at hS9); go_simp; try with_reducible rfl)
        try simp only [Act.put, List.setIfInBounds_toArray, List.set_cons_zero, List.set_cons_succ]
        refine Sm.take (i := 32) (v := ?_) rfl (by kernel_rfl) (by kernel_rfl) (by kernel_rfl) (fun _ _ _ h => h) (.inl ⟨by rfl, ?_⟩) (by assumption) ?_
        rotate_left
        · (intro w9 hS9; (try dsimp only at hS9); go_simp; try with_reducible rfl)
        try simp only [Act.put, List.setIfInBounds_toArray, List.set_cons_zero, List.set_cons_succ]
        refine Sm.take (i := 33) (v := undef) rfl (by kernel_rfl) (by kernel_rfl) (by kernel_rfl) (fun _ _ _ h => h) (.inr ⟨by rfl, rfl⟩) (by assumption) ?_
        try simp only [Act.put, List.setIfInBounds_toArray, List.set_cons_zero, List.set_cons_succ]
        refine Sm.take (i := 34) (v := undef) rfl (by kernel_rfl) (by kernel_rfl) (by kernel_rfl) (fun _ _ _ h => h) (.inr ⟨by rfl, rfl⟩) (by assumption) ?_
        try simp only [Act.put, List.setIfInBounds_toArray, List.set_cons_zero, List.set_cons_succ]
        refine Sm.take (i := 35) (v := undef) rfl (by kernel_rfl) (by kernel_rfl) (by kernel_rfl) (fun _ _ _ h => h) (.inr ⟨by rfl, rfl⟩) (by assumption) ?_
        try simp only [Act.put, List.setIfInBounds_toArray, List.set_cons_zero, List.set_cons_succ]
        refine Sm.take (i := 36) (v := undef) rfl (by kernel_rfl) (by kernel_rfl) (by kernel_rfl) (fun _ _ _ h => h) (.inr ⟨by rfl, rfl⟩) (by assumption) ?_
        try simp only [Act.put, List.setIfInBounds_toArray, List.set_cons_zero, List.set_cons_succ]
        refine Sm.take (i := 37) (v := undef) rfl (by kernel_rfl) (by kernel_rfl) (by kernel_rfl) (fun _ _ _ h => h) (.inr ⟨by rfl, rfl⟩) (by assumption) ?_
        try simp only [Act.put, List.setIfInBounds_toArray, List.set_cons_zero, List.set_cons_succ]
        refine Sm.take (i := 38) (v := undef) rfl (by kernel_rfl) (by kernel_rfl) (by kernel_rfl) (fun _ _ _ h => h) (.inr ⟨by rfl, rfl⟩) (by assumption) ?_
        try simp only [Act.put, List.setIfInBounds_toArray, List.set_cons_zero, List.set_cons_succ]
        refine Sm.take (i := 39) (v := undef) rfl (by kernel_rfl) (by kernel_rfl) (by kernel_rfl) (fun _ _ _ h => h) (.inr ⟨by rfl, rfl⟩) (by assumption) ?_
        try simp only [Act.put, List.setIfInBounds_toArray, List.set_cons_zero, List.set_cons_succ]
        refine Sm.take (i := 40) (v := undef) rfl (by kernel_rfl) (by kernel_rfl) (by kernel_rfl) (fun _ _ _ h => h) (.inr ⟨by rfl, rfl⟩) (by assumption) ?_
        try simp only [Act.put, List.setIfInBounds_toArray, List.set_cons_zero, List.set_cons_succ]
        refine Sm.take (i := 41) (v := undef) rfl (by kernel_rfl) (by kernel_rfl) (by kernel_rfl) (fun _ _ _ h => h) (.inr ⟨by rfl, rfl⟩) (by assumption) ?_
        try simp only [Act.put, List.setIfInBounds_toArray, List.set_cons_zero, List.set_cons_succ]
        refine Sm.take (i := 42) (v := undef) rfl (by kernel_rfl) (by kernel_rfl) (by kernel_rfl) (fun _ _ _ h => h) (.inr ⟨by rfl, rfl⟩) (by assumption) ?_
        try simp only [Act.put, List.setIfInBounds_toArray, List.set_cons_zero, List.set_cons_succ]
        refine Sm.take (i := 43) (v := undef) rfl (by kernel_rfl) (by kernel_rfl) (by kernel_rfl) (fun _ _ _ h => h) (.inr ⟨by rfl, rfl⟩) (by assumption) ?_
        try simp only [Act.put, List.setIfInBounds_toArray, List.set_cons_zero, List.set_cons_succ]
        refine Sm.take (i := 44) (v := undef) rfl (by kernel_rfl) (by kernel_rfl) (by kernel_rfl) (fun _ _ _ h => h) (.inr ⟨by rfl, rfl⟩) (by assumption) ?_
        try simp only [Act.put, List.setIfInBounds_toArray, List.set_cons_zero, List.set_cons_succ]
        refine Sm.take (i := 45) (v := undef) rfl (by kernel_rfl) (by kernel_rfl) (by kernel_rfl) (fun _ _ _ h => h) (.inr ⟨by rfl, rfl⟩) (by assumption) ?_
        try simp only [Act.put, List.setIfInBounds_toArray, List.set_cons_zero, List.set_cons_succ]
        refine Sm.take (i := 46) (v := undef) rfl (by kernel_rfl) (by kernel_rfl) (by kernel_rfl) (fun _ _ _ h => h) (.inr ⟨by rfl, rfl⟩) (by assumption) ?_
        try simp only [Act.put, List.setIfInBounds_toArray, List.set_cons_zero, List.set_cons_succ]
        refine Sm.take (i := 47) (v := undef) rfl (by kernel_rfl) (by kernel_rfl) (by kernel_rfl) (fun _ _ _ h => h) (.inr ⟨by rfl, rfl⟩) (by assumption) ?_
        try simp only [Act.put, List.setIfInBounds_toArray, List.set_cons_zero, List.set_cons_succ]
        refine Sm.take (i := 48) (v := undef) rfl (by kernel_rfl) (by kernel_rfl) (by kernel_rfl) (fun _ _ _ h => h) (.inr ⟨by rfl, rfl⟩) (by assumption) ?_
        try simp only [Act.put, List.setIfInBounds_toArray, List.set_cons_zero, List.set_cons_succ]
        refine Sm.take (i := 49) (v := undef) rfl (by kernel_rfl) (by kernel_rfl) (by kernel_rfl) (fun _ _ _ h => h) (.inr ⟨by rfl, rfl⟩) (by assumption) ?_
        try simp only [Act.put, List.setIfInBounds_toArray, List.set_cons_zero, List.set_cons_succ]
        refine Sm.take (i := 50) (v := undef) rfl (by kernel_rfl) (by kernel_rfl) (by kernel_rfl) (fun _ _ _ h => h) (.inr ⟨by rfl, rfl⟩) (by assumption) ?_
        try simp only [Act.put, List.setIfInBounds_toArray, List.set_cons_zero, List.set_cons_succ]
        refine Sm.take (i := 51) (v := undef) rfl (by kernel_rfl) (by kernel_rfl) (by kernel_rfl) (fun _ _ _ h => h) (.inr ⟨by rfl, rfl⟩) (by assumption) ?_
        try simp only [Act.put, List.setIfInBounds_toArray, List.set_cons_zero, List.set_cons_succ]
        refine Sm.take (i := 52) (v := undef) rfl (by kernel_rfl) (by kernel_rfl) (by kernel_rfl) (fun _ _ _ h => h) (.inr ⟨by rfl, rfl⟩) (by assumption) ?_
        try simp only [Act.put, List.setIfInBounds_toArray, List.set_cons_zero, List.set_cons_succ]
        refine Sm.take (i := 53) (v := undef) rfl (by kernel_rfl) (by kernel_rfl) (by kernel_rfl) (fun _ _ _ h => h) (.inr ⟨by rfl, rfl⟩) (by assumption) ?_
        try simp only [Act.put, List.setIfInBounds_toArray, List.set_cons_zero, List.set_cons_succ]
        refine Sm.take (i := 54) (v := undef) rfl (by kernel_rfl) (by kernel_rfl) (by kernel_rfl) (fun _ _ _ h => h) (.inr ⟨by rfl, rfl⟩) (by assumption) ?_
        try simp only [Act.put, List.setIfInBounds_toArray, List.set_cons_zero, List.set_cons_succ]
        refine Sm.take (i := 55) (v := undef) rfl (by kernel_rfl) (by kernel_rfl) (by kernel_rfl) (fun _ _ _ h => h) (.inr ⟨by rfl, rfl⟩) (by assumption) ?_
        try simp only [Act.put, List.setIfInBounds_toArray, List.set_cons_zero, List.set_cons_succ]
        refine Sm.take (i := 56) (v := ?_) rfl (by kernel_rfl) (by kernel_rfl) (by kernel_rfl) (fun _ _ _ h => h) (.inl ⟨by rfl, ?_⟩) (by assumption) ?_
        rotate_left
        · (intro w9 hS9; (try dsimp only at hS9); go_simp; try with_reducible rfl)
        try simp only [Act.put, List.setIfInBounds_toArray, List.set_cons_zero, List.set_cons_succ]
        refine Sm.take (i := 57) (v := ?_) rfl (by kernel_rfl) (by kernel_rfl) (by kernel_rfl) (fun _ _ _ h => h) (.inl ⟨by rfl, ?_⟩) (by assumption) ?_
        rotate_left
        · (intro w9 hS9; (try dsimp only at hS9); go_simp; try with_reducible rfl)
        try simp only [Act.put, List.setIfInBounds_toArray, List.set_cons_zero, List.set_cons_succ]
        refine wpAnyH_done (by kernel_rfl) ?_ _
        have hbe : Below V.heap.size V w3 := below_next (below_next hbd1 hb2) hb3
        clear hb2 hb3 hu hbd1 hbd
        go_wp2_with fail
        go_roundw
        case rel => exact ⟨n + 1, by omega, by go_num, hbe⟩
        case measure => simp [intOf]; omega
      · go_region_held (fun w' => w'.cell? ⟨w.heap.size, k0, none⟩ = some (.string s0) ∧ w'.cell? ⟨w.heap.size, k1, none⟩ = some (.string s1) ∧ w'.cell? ⟨w.heap.size, k2, none⟩ = some (.string s2) ∧ w'.cell? ⟨w.heap.size, k3, none⟩ = some (.string s3) ∧ w'.cell? ⟨0, 0, none⟩ = some (.int .i64 m))
          (first
            | (go_split_ands
               refine ⟨?_, ?_, ?_, ?_, ?_⟩ <;> (refine cell_later hb4 ?_ (Nat.le_refl _); assumption))
            | (go_split_ands
               refine ⟨?_, ?_, ?_, ?_, ?_⟩ <;> (refine cell_later hb3 ?_ (Nat.le_refl _); assumption))
            | (go_split_ands
               refine ⟨?_, ?_, ?_, ?_, ?_⟩ <;> (refine cell_later hb2 ?_ (by simp); assumption))
            | go_keep)
          ((first
            | (go_at_call 15; refine (OL.out (W1.alloc (.cells #[.string s0, .string s1, .string s2, .string s3] 9)).drew HLT.out).mono ?_; rintro e w2 ⟨⟨u, rfl, hu⟩, hb2⟩; obtain ⟨g2, cu, eu, _⟩ := OwnLabels.form hu (by simp); replace eu : u = .slice (some ⟨g2, 0, none⟩) 2 cu := eu; subst eu)
            | (go_at_call 14; refine (TL2.out _ _ _ hu.at (cell_later hb2 HMD.out (Nat.le_refl _))).mono ?_; rintro e w3 ⟨rfl, hb3⟩)
            | (go_at_call 16; refine (TG2.out _ (cell_later hb3 (cell_later hb2 HMD.out (Nat.le_refl _)) (Nat.le_refl _))).mono ?_; rintro e w4 ⟨rfl, hb4⟩)))
        have hbe : Below V.heap.size V w4 := below_next (below_next (below_next hbd1 hb2) hb3) hb4
        clear hb2 hb3 hb4 hu hbd1 hbd
        go_wp2_with fail
        go_roundw
        case rel => exact ⟨n + 1, by omega, by go_num, hbe⟩
        case measure => simp [intOf]; omega
    · have n2 : (16807 : Int) ≤ (n : Int) := by omega
      have hBw : Below w.heap.size w wr := hB0.trans (hb.mono hB0.size)
      clear HS hb hB0 hz0 hlt hn
      go_wp2_with fail
      obtain ⟨U, hU⟩ : ∃ U, U = wr := ⟨_, rfl⟩
      subst hU
      go_loopw [4, 115] (fun v i wx => ∃ (k : Nat) (ls : List Lab.L), k ≤ 65 ∧ i = .int .i64 (k : Int) ∧ ls.length = k ∧ Sm.Short ls ∧ OwnLabels U.heap.size v ls wx ∧ Below U.heap.size U wx) (fun _ i _ => 65 - (intOf i).toNat)
      case atStart => exact ⟨0, [], by omega, rfl, rfl, fun x hx => absurd hx (by simp), OwnLabels.nil _ _, Below.refl _ _⟩
      case round =>
        obtain ⟨k, ls, hk, rfl, hl, hsh, hown, hb⟩ := hrel
        have HL := Lib.hid hl
        by_cases hk65 : k < 65
        · have e1 : (k : Int) / 26 = ((k / 26 : Nat) : Int) := by omega
          have e2 : (k : Int) % 26 = ((k % 26 : Nat) : Int) := by omega
          obtain ⟨d1, hd1⟩ : ∃ d, k / 26 = d := ⟨_, rfl⟩
          obtain ⟨d2, hd2⟩ : ∃ d, k % 26 = d := ⟨_, rfl⟩
          have g1 : d1 ≤ 2 := by omega
          have g2 : d2 < 26 := by omega
          rw [hd1] at e1
          rw [hd2] at e2
          have n3 : (k : Int) < 65 := by omega
          have n4 : (0 : Int) ≤ (k : Int) := by omega
          obtain ⟨x1, hx1⟩ : ∃ x, UInt8.ofNat (97 + d1) = x := ⟨_, rfl⟩
          obtain ⟨x2, hx2⟩ : ∃ x, UInt8.ofNat (97 + d2) = x := ⟨_, rfl⟩
          have C0 := fun W => conv_bytes [x1, x2] #[.int .u8 (97 + (d1 : Int)), .int .u8 (97 + (d2 : Int))] (by rw [← hx1, ← hx2]; exact Sm.two d1 d2 g1 g2) W 2 rfl (by omega)
          have g3 : ((⟨#[110]⟩ : ByteArray) ++ ⟨[x1, x2].toArray⟩).size = 3 := by rw [ByteArray.size_append]; rfl
          have g4 : ls.length ≤ 64 := by omega
          have HG3 := Lib.hid g3
          clear hd1 hd2 hl g3 hx1 hx2
          go_wp2_with (at_builtin; refine wpList_pushL 35 Tryz.underlying35 rfl _ _ rfl _ _ _ _ rfl (hown.alloc _) ⟨⟨#[110]⟩ ++ ⟨[x1, x2].toArray⟩, ⟨#[118]⟩⟩ _ _ rfl _ rfl (by simp) ?d1 ?d2 ?_)
          case d1 => omega
          case d2 => simp; have := hb.size; omega
          intro v6 w6 hown6 hg6
          have hb6 := below_push _ (hb.alloc hb.size _) (hown.alloc _) hg6
          go_wp2_with fail
          go_roundw
          case rel => exact ⟨k + 1, ls ++ [⟨⟨#[110]⟩ ++ ⟨[x1, x2].toArray⟩, ⟨#[118]⟩⟩], by omega, by go_num, by rw [List.length_append, HL.out]; rfl, Sm.short_snoc hsh (by show ByteArray.size _ ≤ 3; rw [HG3.out]; omega) (by show (1 : Nat) ≤ 1; omega), hown6, hb6⟩
          case measure => simp [intOf]; omega
        · obtain rfl : k = 65 := by omega
          obtain ⟨g, cg, ev, _, hgl, hlc, hcm⟩ := OwnLabels.form hown (by omega)
          rw [hl] at ev hlc
          subst ev
          have hAt := OwnLabels.at hown
          obtain ⟨hAT, hAD⟩ := Sm.at_split hAt 64
          have hF := Sm.short_fit hsh
          have hFT : Lab.Fit 4294967296 (ls.take 64) := fun x hx => hF x (List.mem_of_mem_take hx)
          have hFD : Lab.Fit 4294967296 (ls.drop 64) := fun x hx => hF x (List.mem_of_mem_drop hx)
          have hTl : (ls.take 64).length = 64 := by rw [List.length_take]; omega
          have hDl : (ls.drop 64).length = 1 := by rw [List.length_drop]; omega
          obtain ⟨⟨r1, f1⟩, hr1⟩ : ∃ r, Can.bytes (ls.take 64) = r := ⟨_, rfl⟩
          obtain ⟨⟨r2, f2⟩, hr2⟩ : ∃ r, Can.bytes (ls.drop 64) = r := ⟨_, rfl⟩
          have RB1 := Lib.hid (fun w hA => rbytes_is (some ⟨g, 0, none⟩) (ls.take 64) 64 cg r1 f1 hr1 w hTl hA hFT (by unfold maxLen; omega))
          have RB2 := Lib.hid (fun w hA => rbytes_is (some ⟨g, 128, none⟩) (ls.drop 64) 1 (cg - 64) r2 f2 hr2 w hDl hA hFD (by unfold maxLen; omega))
          have hz1 := Sm.bytes_len (ls.take 64) r1 f1 hr1 (fun x hx => hsh x (List.mem_of_mem_take hx)) (by omega)
          have hz2 := Sm.bytes_len (ls.drop 64) r2 f2 hr2 (fun x hx => hsh x (List.mem_of_mem_drop hx)) (by omega)
          obtain ⟨B1, hB1⟩ : ∃ B, ByteArray.mk r1.toArray = B := ⟨_, rfl⟩
          obtain ⟨B2, hB2⟩ : ∃ B, ByteArray.mk r2.toArray = B := ⟨_, rfl⟩
          have zB1 : B1.size ≤ 1000 := by rw [← hB1]; simpa [ByteArray.size] using hz1
          have zB2 : B2.size ≤ 1000 := by rw [← hB2]; simpa [ByteArray.size] using hz2
          rw [hB1] at RB1
          rw [hB2] at RB2
          have hFm : Lab.Fit maxLen ls := fun x hx => by have := hsh x hx; unfold maxLen; omega
          have hFTm : Lab.Fit maxLen (ls.take 64) := fun x hx => hFm x (List.mem_of_mem_take hx)
          have T1 := Lib.hid (fun w hA hm => TL.out (some ⟨g, 0, none⟩) ls 65 cg (B1 ++ B2) w hl hA (fun h => by cases h) hFm (by unfold maxLen; omega) (by rw [ByteArray.size_append]; unfold maxLen; omega) hm)
          have T2 := Lib.hid (fun w hA hm => TL.out (some ⟨g, 0, none⟩) (ls.take 64) 64 cg B1 w hTl hA (fun h => by cases h) hFTm (by unfold maxLen; omega) (by unfold maxLen; omega) hm)
          have T3 := Lib.hid (fun w hA hB hm => TG.out ⟨#[106]⟩ (some ⟨g, 0, none⟩) ls 65 cg ByteArray.empty (some ⟨g, 0, none⟩) ls 65 cg (⟨#[106, 254]⟩ ++ B1 ++ B2) w hl hA (fun h => by cases h) hFm (by unfold maxLen; omega) (by unfold maxLen; decide) hl hB hFm (by unfold maxLen; omega) (by unfold maxLen; decide) (by rw [ByteArray.size_append, ByteArray.size_append]; show 2 + _ + _ ≤ _; unfold maxLen; omega) hm)
          have hBx : Below w.heap.size w wr := hBw.trans (hb.mono hBw.size)
          have HK : Hid (∀ w', Below wr.heap.size wr w' → Lab.At (some ⟨g, 0, none⟩) ls w' ∧ Lab.At (some ⟨g, 0, none⟩) (ls.take 64) w' ∧ Lab.At (some ⟨g, 128, none⟩) (ls.drop 64) w' ∧ w'.cell? ⟨0, 0, none⟩ = some (.int .i64 m)) := fun w' h => ⟨hAt.below h (Nat.le_refl _), hAT.below h (Nat.le_refl _), hAD.below h (Nat.le_refl _), HM.out w' (hBx.trans (h.mono hBx.size))⟩
          have n5 : (65 : Int) ≤ (cg : Int) := by omega
          have n6 : cg ≠ 64 := by omega
          have n7 : ¬ cg = 64 := n6
          unfold maxLen at hcm
          clear hsh hown hB1 hB2 hr1 hr2 hz1 hz2 hF hFT hFD hFm hFTm hTl hDl hl hb hBw
          go_wp2_with (go_at_call 17; refine (RB1.out _ hAT).mono ?_)
          first | rintro e y1 rfl hb1 | rintro e y1 ⟨rfl, hb1⟩
          have hY1 : Below wr.heap.size wr y1 := hb1
          clear hb1
          go_wp2_with (go_at_call 17; refine (RB2.out _ (HK.out _ hY1).2.2.1).mono ?_)
          first | rintro e y2 rfl hb2 | rintro e y2 ⟨rfl, hb2⟩
          have hY2 := below_next hY1 hb2
          clear hb2
          go_wp2_with (go_at_call 14; refine (T1.out _ (HK.out _ hY2).1 (HK.out _ hY2).2.2.2).mono ?_)
          first | rintro e y3 rfl hb3 | rintro e y3 ⟨rfl, hb3⟩
          have hY3 := below_next hY2 hb3
          clear hb3
          go_wp2_with (go_at_call 14; refine (T2.out _ (HK.out _ hY3).2.1 (HK.out _ hY3).2.2.2).mono ?_)
          first | rintro e y4 rfl hb4 | rintro e y4 ⟨rfl, hb4⟩
          have hY4 := below_next hY3 hb4
          clear hb4
          go_wp2_with (go_at_call 16; refine (T3.out _ (HK.out _ hY4).1 (HK.out _ hY4).1 (HK.out _ hY4).2.2.2).mono ?_)
          first | rintro e y5 rfl hb5 | rintro e y5 ⟨rfl, hb5⟩
          have hY5 := below_next hY4 hb5
          have hBy : Below w.heap.size w y5 := hBx.trans (hY5.mono hBx.size)
          clear hb5 hY1 hY2 hY3 hY4 hY5 HK T1 T2 T3 RB1 RB2 hAt hAT hAD hBx
          go_wp2_with fail
          obtain ⟨Y, hY⟩ : ∃ Y, Y = y5.alloc (.cells #[.int .i64 127, .int .i64 128, .int .i64 129] 3) := ⟨_, rfl⟩
          have hBY : Below w.heap.size w Y := by rw [hY]; exact hBy.alloc hBy.size _
          have HNN : Hid (∀ j : Nat, j < 3 → Y.cell? ⟨y5.heap.size, j, none⟩ = some (.int .i64 ((127 + j : Nat) : Int))) := by
            show ∀ j : Nat, _
            intro j hj
            rw [hY]
            obtain rfl | rfl | rfl : j = 0 ∨ j = 1 ∨ j = 2 := by omega
            all_goals
              rw [Lib.cell_of_heap (alloc_new y5 _)]
              rfl
          rw [← hY]
          clear hY hBy
          go_loopw [173] (fun i wz => ∃ j : Nat, j ≤ 3 ∧ i = .int .i64 (j : Int) ∧ Below Y.heap.size Y wz) (fun i _ => 3 - (intOf i).toNat)
          case atStart => exact ⟨0, by omega, rfl, Below.refl _ _⟩
          case round =>
            obtain ⟨j, hj, rfl, hb⟩ := hrel
            by_cases hj3 : j < 3
            · have hc := cell_later hb (HNN.out j hj3) (Nat.le_refl _)
              obtain ⟨nn, hnn⟩ : ∃ nn, 127 + j = nn := ⟨_, rfl⟩
              rw [hnn] at hc
              have k1 : (0 : Int) ≤ (j : Int) := by omega
              have k2 : (j : Int) < 3 := by omega
              have k3 : 127 ≤ (nn : Int) := by omega
              have k4 : (nn : Int) ≤ 129 := by omega
              clear hnn
              have hBz : Below w.heap.size w wr := hBY.trans (hb.mono hBY.size)
              go_wp2_with (at_make; refine wpList_make_full _ rfl _ _ 44 rfl w.heap.size 5 i0 _ 1 Tryz.underlying44 HI.out hz0' hz1' _ _ _ _ nn rfl rfl rfl rfl ?e0 ?e1 ?e2 ?_)
              case e0 => rw [hz2']; omega
              case e1 => unfold maxLen; omega
              case e2 => exact hBz.size
              intro w7 hmk hg7
              have hb7 : Below wr.heap.size wr w7 := (Below.refl _ _).grown hg7 (Nat.le_refl _) (fun k e => by cases e)
              have hob : OwnBytes w.heap.size (.slice (some ⟨wr.heap.size, 0, none⟩) nn nn) (List.replicate nn 0) w7 := by
                unfold OwnBytes
                rw [List.length_replicate, ← Sm.zeros]
                exact hmk
              have hcv := conv_own hob
              obtain ⟨jb, hjb⟩ : ∃ jb, ByteArray.mk (List.replicate nn 0).toArray = jb := ⟨_, rfl⟩
              have zjb : jb.size ≤ 129 := by
                have e : jb.size = nn := by rw [← hjb]; show (List.replicate nn (0 : UInt8)).toArray.size = nn; rw [List.size_toArray, List.length_replicate]
                omega
              rw [hjb] at hcv
              clear hmk hob hg7 hjb
              have hB7 : Below Y.heap.size Y w7 := hb.trans (hb7.mono hb.size)
              have OL3 := Lib.hid (fun G W hG => Can.of_lit [⟨#[98]⟩, ⟨#[]⟩, ⟨#[97]⟩, ⟨#[49]⟩] _ rfl 4 rfl (by omega) (by omega) (by omega) [⟨⟨#[98]⟩, ⟨#[]⟩⟩, ⟨⟨#[97]⟩, ⟨#[49]⟩⟩] rfl G W hG)
              go_wp2_with (go_at_call 15; refine (OL3.out _ _ (by simp)).mono ?_)
              first | rintro e y8 u rfl hu hb8 | rintro e y8 ⟨⟨u, rfl, hu⟩, hb8⟩
              obtain ⟨g2, cu, eu, _⟩ := OwnLabels.form hu (by decide)
              replace eu : u = .slice (some ⟨g2, 0, none⟩) 2 cu := eu
              subst eu
              have hB8 : Below Y.heap.size Y y8 := (hB7.alloc hB7.size _).trans (hb8.mono hB7.size)
              have T4 := Lib.hid (fun w hB hm => TG.out jb none [] 0 0 jb (some ⟨g2, 0, none⟩) [⟨⟨#[98]⟩, ⟨#[]⟩⟩, ⟨⟨#[97]⟩, ⟨#[49]⟩⟩] 2 cu (jb ++ ⟨#[254, 97, 255, 49, 255]⟩) w rfl (.inl rfl) (fun _ => rfl) (fun x hx => absurd hx (by simp)) (by unfold maxLen; omega) (by unfold maxLen; omega) rfl hB (Sm.fit2 _ _ _ _ (by decide) (by decide) (by decide) (by decide)) (by unfold maxLen; omega) (by unfold maxLen; omega) (by rw [ByteArray.size_append]; show _ + 5 ≤ _; unfold maxLen; omega) hm)
              have hu8 := OwnLabels.at hu
              have hm8 := HM.out y8 (hBY.trans (hB8.mono hBY.size))
              clear hb8 hu OL3 hcv hb7 hB7
              go_wp2_with (go_at_call 16; refine (T4.out _ hu8 hm8).mono ?_)
              first | rintro e y9 rfl hb9 | rintro e y9 ⟨rfl, hb9⟩
              have hB9 := below_next hB8 hb9
              clear hb9 hB8 hu8 hm8 T4 hb
              go_wp2_with fail
              go_roundw
              case rel => exact ⟨j + 1, by omega, by go_num, hB9⟩
              case measure => simp [intOf]; omega
            · have k2 : (3 : Int) ≤ (j : Int) := by omega
              have hB3 : Below w.heap.size w wr := hBY.trans (hb.mono hBY.size)
              clear HNN hb hBY TG
              have O1 := Lib.hid (fun G W hG => Can.of_lit [⟨#[98]⟩, ⟨#[49]⟩] _ rfl 2 rfl (by omega) (by omega) (by omega) [⟨⟨#[98]⟩, ⟨#[49]⟩⟩] rfl G W hG)
              have O3 := Lib.hid (fun G W hG => Can.of_lit [⟨#[98]⟩, ⟨#[49]⟩, ⟨#[99]⟩, ⟨#[50]⟩] _ rfl 4 rfl (by omega) (by omega) (by omega) [⟨⟨#[98]⟩, ⟨#[49]⟩⟩, ⟨⟨#[99]⟩, ⟨#[50]⟩⟩] rfl G W hG)
              have O4 := Lib.hid (fun G W hG => Can.of_lit [⟨#[98]⟩, ⟨#[50]⟩] _ rfl 2 rfl (by omega) (by omega) (by omega) [⟨⟨#[98]⟩, ⟨#[50]⟩⟩] rfl G W hG)
              have O5 := Lib.hid (fun G W hG => Can.of_lit [⟨#[98]⟩, ⟨#[]⟩] _ rfl 2 rfl (by omega) (by omega) (by omega) [⟨⟨#[98]⟩, ⟨#[]⟩⟩] rfl G W hG)
              go_wp2_with (go_at_call 15; refine (O1.out _ _ (by simp)).mono ?_)
              first | rintro e v1 u rfl hu1 hb1 | rintro e v1 ⟨⟨u, rfl, hu1⟩, hb1⟩
              obtain ⟨g1, c1, eu, _⟩ := OwnLabels.form hu1 (by decide)
              replace eu : u = .slice (some ⟨g1, 0, none⟩) 1 c1 := eu
              subst eu
              have hV1 : Below wr.heap.size wr v1 := ((Below.refl _ wr).alloc (Nat.le_refl _) _).trans hb1
              have A1 := Lib.hid (OwnLabels.at hu1)
              have D1 := Lib.hid (Sm.step _ hb1)
              clear hu1 hb1
              go_wp2_with (go_at_call 15; refine (O1.out _ _ (by simp)).mono ?_)
              first | rintro e v2 u rfl hu2 hb2 | rintro e v2 ⟨⟨u, rfl, hu2⟩, hb2⟩
              obtain ⟨g2, c2, eu, _⟩ := OwnLabels.form hu2 (by decide)
              replace eu : u = .slice (some ⟨g2, 0, none⟩) 1 c2 := eu
              subst eu
              have hV2 : Below wr.heap.size wr v2 := Sm.next _ hV1 hb2
              have A2 := Lib.hid (OwnLabels.at hu2)
              have D2 := Lib.hid (Sm.step _ hb2)
              clear hu2 hb2
              go_wp2_with (go_at_call 15; refine (O3.out _ _ (by simp)).mono ?_)
              first | rintro e v3 u rfl hu3 hb3 | rintro e v3 ⟨⟨u, rfl, hu3⟩, hb3⟩
              obtain ⟨g3, c3, eu, _⟩ := OwnLabels.form hu3 (by decide)
              replace eu : u = .slice (some ⟨g3, 0, none⟩) 2 c3 := eu
              subst eu
              have hV3 : Below wr.heap.size wr v3 := Sm.next _ hV2 hb3
              have A3 := Lib.hid (OwnLabels.at hu3)
              have D3 := Lib.hid (Sm.step _ hb3)
              clear hu3 hb3
              go_wp2_with (go_at_call 15; refine (O4.out _ _ (by simp)).mono ?_)
              first | rintro e v4 u rfl hu4 hb4 | rintro e v4 ⟨⟨u, rfl, hu4⟩, hb4⟩
              obtain ⟨g4, c4, eu, _⟩ := OwnLabels.form hu4 (by decide)
              replace eu : u = .slice (some ⟨g4, 0, none⟩) 1 c4 := eu
              subst eu
              have hV4 : Below wr.heap.size wr v4 := Sm.next _ hV3 hb4
              have A4 := Lib.hid (OwnLabels.at hu4)
              have D4 := Lib.hid (Sm.step _ hb4)
              clear hu4 hb4
              go_wp2_with (go_at_call 15; refine (O5.out _ _ (by simp)).mono ?_)
              first | rintro e v5 u rfl hu5 hb5 | rintro e v5 ⟨⟨u, rfl, hu5⟩, hb5⟩
              obtain ⟨g5, c5, eu, _⟩ := OwnLabels.form hu5 (by decide)
              replace eu : u = .slice (some ⟨g5, 0, none⟩) 1 c5 := eu
              subst eu
              have hV5 : Below wr.heap.size wr v5 := Sm.next _ hV4 hb5
              have A5 := Lib.hid (OwnLabels.at hu5)
              have D5 := Lib.hid (Sm.step _ hb5)
              clear hu5 hb5
              go_wp2_with fail
              obtain ⟨Z, hZ⟩ : ∃ Z, Z = v5.alloc (.cells #[.string ⟨#[97]⟩, .slice none 0 0, .string ⟨#[97]⟩, .slice (some ⟨g1, 0, none⟩) 1 c1, .string ⟨#[97, 98]⟩, .slice (some ⟨g2, 0, none⟩) 1 c2, .string ⟨#[97]⟩, .slice (some ⟨g3, 0, none⟩) 2 c3, .string ⟨#[97]⟩, .slice (some ⟨g4, 0, none⟩) 1 c4, .string ⟨#[195, 169]⟩, .slice none 0 0, .string ⟨#[]⟩, .slice none 0 0, .string ⟨#[97]⟩, .slice (some ⟨g5, 0, none⟩) 1 c5] 37) := ⟨_, rfl⟩
              have d5 : Below v5.heap.size v5 Z := by rw [hZ]; exact (Below.refl _ _).alloc (Nat.le_refl _) _
              have HT := Lib.hid (Sm.some8 v5.heap.size Z g1 g2 g3 g4 g5 c1 c2 c3 c4 c5 (by rw [hZ]; exact alloc_new v5 _) (Sm.to (Sm.to (Sm.to (Sm.to (Sm.to A1.out D2.out) D3.out) D4.out) D5.out) d5) (Sm.to (Sm.to (Sm.to (Sm.to A2.out D3.out) D4.out) D5.out) d5) (Sm.to (Sm.to (Sm.to A3.out D4.out) D5.out) d5) (Sm.to (Sm.to A4.out D5.out) d5) (Sm.to A5.out d5))
              have hBZ : Below w.heap.size w Z := (hB3.trans (hV5.mono hB3.size)).trans (d5.mono (hB3.trans (hV5.mono hB3.size)).size)
              rw [← hZ]
              clear hZ d5 A1 A2 A3 A4 A5 D1 D2 D3 D4 D5 hV1 hV2 hV3 hV4 hV5 hB3 O1 O3 O4 O5
              obtain ⟨G, hG⟩ : ∃ G, v5.heap.size = G := ⟨_, rfl⟩
              rw [hG] at HT ⊢
              clear hG
              have LT := Lib.hid (fun p ts n c w hn hT hF => lists_true p ts n c w hn hT hF)
              go_loopw [212] (fun i wx => ∃ k : Nat, k ≤ 8 ∧ i = .int .i64 (k : Int) ∧ Below Z.heap.size Z wx) (fun i _ => 8 - (intOf i).toNat)
              case atStart => exact ⟨0, by omega, rfl, Below.refl _ _⟩
              case round =>
                obtain ⟨k, hk, rfl, hb⟩ := hrel
                by_cases hk8 : k < 8
                · obtain ⟨t1, ht1⟩ := HT.out k hk8
                  have H1 := Lib.hid ht1
                  obtain ⟨a0, a1, _⟩ := ht1.2 _ hb
                  have n1 : (0 : Int) ≤ (k : Int) := by omega
                  have n2 : (k : Int) < 8 := by omega
                  clear ht1
                  go_wp2_with fail
                  obtain ⟨P1, hP1⟩ : ∃ P, P = wr.alloc (.cells #[.string t1.job, .slice t1.p t1.n t1.c] 37) := ⟨_, rfl⟩
                  have hZ1 : Below Z.heap.size Z P1 := by rw [hP1]; exact hb.alloc hb.size _
                  have b1 := alloc_new wr (.cells #[.string t1.job, .slice t1.p t1.n t1.c] 37)
                  have l1 : wr.heap.size < P1.heap.size := by rw [hP1, World.size_alloc]; omega
                  rw [← hP1] at b1 ⊢
                  obtain ⟨X1, hX1⟩ : ∃ X, wr.heap.size = X := ⟨_, rfl⟩
                  rw [hX1] at b1 l1 ⊢
                  clear hP1 hX1 hb a0 a1
                  have B1 := Lib.hid b1
                  have Q1 := Lib.hid hZ1
                  clear b1 hZ1
                  go_loopw [218] (fun i wx => ∃ k : Nat, k ≤ 8 ∧ i = .int .i64 (k : Int) ∧ Below P1.heap.size P1 wx) (fun i _ => 8 - (intOf i).toNat)
                  case atStart => exact ⟨0, by omega, rfl, Below.refl _ _⟩
                  case round =>
                    obtain ⟨k', hk', rfl, hb⟩ := hrel
                    have hZ2 : Below Z.heap.size Z wr := Q1.out.trans (hb.mono Q1.out.size)
                    by_cases hk8' : k' < 8
                    · obtain ⟨t2, ht2⟩ := HT.out k' hk8'
                      have H2 := Lib.hid ht2
                      obtain ⟨a0, a1, _⟩ := ht2.2 _ hZ2
                      have n1' : (0 : Int) ≤ (k' : Int) := by omega
                      have n2' : (k' : Int) < 8 := by omega
                      clear ht2
                      go_wp2_with fail
                      obtain ⟨P2, hP2⟩ : ∃ P, P = wr.alloc (.cells #[.string t2.job, .slice t2.p t2.n t2.c] 37) := ⟨_, rfl⟩
                      have hR2 : Below P1.heap.size P1 P2 := by rw [hP2]; exact hb.alloc hb.size _
                      have b2 := alloc_new wr (.cells #[.string t2.job, .slice t2.p t2.n t2.c] 37)
                      have l2 : wr.heap.size < P2.heap.size := by rw [hP2, World.size_alloc]; omega
                      rw [← hP2] at b2 ⊢
                      obtain ⟨X2, hX2⟩ : ∃ X, wr.heap.size = X := ⟨_, rfl⟩
                      rw [hX2] at b2 l2 ⊢
                      clear hP2 hX2 hb a0 a1 hZ2
                      have B2 := Lib.hid b2
                      have Q2 := Lib.hid hR2
                      clear b2 hR2
                      go_loopw [224] (fun i wx => ∃ k : Nat, k ≤ 8 ∧ i = .int .i64 (k : Int) ∧ Below P2.heap.size P2 wx) (fun i _ => 8 - (intOf i).toNat)
                      case atStart => exact ⟨0, by omega, rfl, Below.refl _ _⟩
                      case round =>
                        obtain ⟨k'', hk'', rfl, hb⟩ := hrel
                        have hR3 : Below P1.heap.size P1 wr := Q2.out.trans (hb.mono Q2.out.size)
                        have hZ3 : Below Z.heap.size Z wr := Q1.out.trans (hR3.mono Q1.out.size)
                        by_cases hk8'' : k'' < 8
                        · obtain ⟨t3, ht3⟩ := HT.out k'' hk8''
                          have H3 := Lib.hid ht3
                          obtain ⟨a0, a1, _⟩ := ht3.2 _ hZ3
                          have e1 := below_kept hR3 B1.out l1
                          have e2 := below_kept hb B2.out l2
                          have x10 : wr.cell? ⟨X1, 0, none⟩ = some (.string t1.job) := by rw [Lib.cell_of_heap e1]; rfl
                          have x11 : wr.cell? ⟨X1, 1, none⟩ = some (.slice t1.p t1.n t1.c) := by rw [Lib.cell_of_heap e1]; rfl
                          have x20 : wr.cell? ⟨X2, 0, none⟩ = some (.string t2.job) := by rw [Lib.cell_of_heap e2]; rfl
                          have x21 : wr.cell? ⟨X2, 1, none⟩ = some (.slice t2.p t2.n t2.c) := by rw [Lib.cell_of_heap e2]; rfl
                          have w1 : X1 < wr.heap.size := Nat.lt_of_lt_of_le l1 hR3.size
                          have w2 : X2 < wr.heap.size := Nat.lt_of_lt_of_le l2 hb.size
                          have n1'' : (0 : Int) ≤ (k'' : Int) := by omega
                          have n2'' : (k'' : Int) < 8 := by omega
                          go_upto_region 36 with fail
                          obtain ⟨P3, hP3⟩ : ∃ P, P = wr.alloc (.cells #[.string t3.job, .slice t3.p t3.n t3.c] 37) := ⟨_, rfl⟩
                          have hW3 : Below wr.heap.size wr P3 := by rw [hP3]; exact (Below.refl _ _).alloc (Nat.le_refl _) _
                          have b3 := alloc_new wr (.cells #[.string t3.job, .slice t3.p t3.n t3.c] 37)
                          rw [← hP3] at b3 ⊢
                          obtain ⟨X3, hX3⟩ : ∃ X, wr.heap.size = X := ⟨_, rfl⟩
                          have hA1 := Sm.to (H1.out.2 _ hZ3).2.2 hW3
                          have hA2 := Sm.to (H2.out.2 _ hZ3).2.2 hW3
                          have hA3 := Sm.to (H3.out.2 _ hZ3).2.2 hW3
                          have y10 := cell_later hW3 x10 (Nat.le_refl _)
                          have y11 := cell_later hW3 x11 (Nat.le_refl _)
                          have y20 := cell_later hW3 x20 (Nat.le_refl _)
                          have y21 := cell_later hW3 x21 (Nat.le_refl _)
                          have HB : Hid (Below P2.heap.size P2 P3) := hb.trans (hW3.mono hb.size)
                          rw [hX3] at b3 ⊢
                          have y30 : P3.cell? ⟨X3, 0, none⟩ = some (.string t3.job) := by rw [Lib.cell_of_heap b3]; rfl
                          have y31 : P3.cell? ⟨X3, 1, none⟩ = some (.slice t3.p t3.n t3.c) := by rw [Lib.cell_of_heap b3]; rfl
                          have TP := Lib.hid (Sm.three t1 t2 t3 P3 hA1 hA2 hA3)
                          have AY : Hid (∀ t ∈ [t1, t2, t3], Can.TAny t) := by
                            show ∀ t ∈ [t1, t2, t3], _
                            intro t ht
                            simp only [List.mem_cons, List.not_mem_nil, or_false] at ht
                            rcases ht with rfl | rfl | rfl
                            · exact H1.out.1
                            · exact H2.out.1
                            · exact H3.out.1
                          clear ht3 e1 e2 hR3 hZ3 hA1 hA2 hA3 hb hP3 hX3 b3 hW3 x10 x11 x20 x21 w1 w2 a0 a1
                          go_wp2_with (go_at_call 7; refine (LT.out _ [t1, t2, t3] 3 3 _ rfl TP.out AY.out).mono ?_)
                          first | rintro e y9 rfl hb9 | rintro e y9 ⟨rfl, hb9⟩
                          have hB9 : Below P2.heap.size P2 y9 := (HB.out.alloc HB.out.size _).trans (hb9.mono (HB.out.alloc HB.out.size _).size)
                          clear hb9 TP y10 y11 y20 y21 y30 y31
                          go_wp2_with fail
                          go_roundw
                          case rel => exact ⟨k'' + 1, by omega, by go_num, hB9⟩
                          case measure => simp [intOf]; omega
                        · have n2'' : (8 : Int) ≤ (k'' : Int) := by omega
                          clear hZ3
                          go_wp2_with fail
                          go_roundw
                          case rel => exact ⟨k' + 1, by omega, by go_num, hR3⟩
                          case measure => simp [intOf]; omega
                    · have n2' : (8 : Int) ≤ (k' : Int) := by omega
                      go_wp2_with fail
                      go_roundw
                      case rel => exact ⟨k + 1, by omega, by go_num, hZ2⟩
                      case measure => simp [intOf]; omega
                · have n2 : (8 : Int) ≤ (k : Int) := by omega
                  have hB1 : Below w.heap.size w wr := hBZ.trans (hb.mono hBZ.size)
                  have L0 := Lib.hid (fun w => LT.out none [] 0 0 w rfl (.inl rfl) (fun t ht => absurd ht (by simp)))
                  have T0 := Lib.hid (fun w hm => TL.out none [] 0 0 ⟨#[]⟩ w rfl (.inl rfl) (fun _ => rfl) (fun x hx => absurd hx (by simp)) (by unfold maxLen; omega) (by unfold maxLen; decide) hm)
                  clear HT hb
                  go_wp2_with (go_at_call 7; refine (L0.out _).mono ?_)
                  first | rintro e y1 rfl hb1 | rintro e y1 ⟨rfl, hb1⟩
                  have hB2 := below_next hB1 hb1
                  go_wp2_with (go_at_call 14; refine (T0.out _ (HM.out _ hB2)).mono ?_)
                  first | rintro e y2 rfl hb2 | rintro e y2 ⟨rfl, hb2⟩
                  have hB3 := below_next hB2 hb2
                  go_wp2_with (go_at_call 8; refine (AW.out _ (HM.out _ hB3)).mono ?_)
                  first | rintro e y3 rfl hb3 | rintro e y3 ⟨rfl, hb3⟩
                  have hB4 := below_next hB3 hb3
                  clear hb1 hb2 hb3
                  go_wp2_with fail
                  go_ret
                  exact ⟨rfl, hB4⟩
end Go.Proofs.YthnaninhbofeoaaGreatDoor
