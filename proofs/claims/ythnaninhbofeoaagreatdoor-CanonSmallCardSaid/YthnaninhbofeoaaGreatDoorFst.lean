/- Contracts of canon: keys, First, Sort, of no targets; plain facts of the targets that all makes (the first part of XFirst, for the seat .ZD). Plain laws: sorted targets are in strictly increasing order, all are there, and there is one such list alone. What CanonOrder asks of sorting, comparing and appending, of targets that are right. Contract of gaugerkit.SameTargets (of the same targets). -/
import Derived.Test.YthnaninhbofeoaaGreatDoorSortT
import Derived.Test.YthnaninhbofeoaaGreatDoorSame
import Derived.Test.YthnaninhbofeoaaGreatDoorAwk
import Derived.Test.YthnaninhbofeoaaGreatDoorCanRow
import Derived.BigQuiet
import Derived.Deep.RegionHeld3
import Derived.Deep.AppendLies
import Derived.Laws.AppendOwnNone
namespace Go.Proofs.YthnaninhbofeoaaGreatDoor
open Go.RowKit

set_option maxHeartbeats 800000 in
theorem keys_none (w : World) :
    Calls Tryz.prog 33 #[.slice none 0 0] w fun e w' => e = .returned (.tuple #[.slice none 0 0, .int .i64 0]) ∧ Below w.heap.size w w' := by
  go_enter Tryz.func33, Tryz.ntmps33
  go_wp2_with fail
  go_loopw [4, 11] (fun v i wr => v = .slice none 0 0 ∧ i = .int .i64 0 ∧ Below w.heap.size w wr) (fun _ i _ => 0)
  case atStart => exact ⟨rfl, rfl, Below.refl _ _⟩
  case round =>
    obtain ⟨rfl, rfl, hb⟩ := hrel
    go_wp2_with fail
    go_ret2
    exact ⟨rfl, hb⟩
set_option maxHeartbeats 800000 in
theorem first_none (w : World) :
    Calls Tryz.prog 23 #[.slice none 0 0] w fun e w' => e = .returned (.tuple #[.slice none 0 0, .int .i64 0]) ∧ Below w.heap.size w w' := by
  have HK := Lib.hid (keys_none w)
  go_enter Tryz.func23, Tryz.ntmps23
  go_wp2_with (go_at_call 33; refine HK.out.mono ?_)
  first | rintro e w1 rfl hb1 | rintro e w1 ⟨rfl, hb1⟩
  have hmm := @run_makeMap Tryz.prog
  have hs1 := hb1.size
  go_wp2_with fail
  go_loopw [7, 23] (fun u i wr => u = .slice none 0 0 ∧ i = .int .i64 0 ∧ Below w.heap.size w wr) (fun _ i _ => 0)
  case atStart => exact ⟨rfl, rfl, hb1.alloc hs1 _⟩
  case round =>
    obtain ⟨rfl, rfl, hb⟩ := hrel
    go_wp2_with fail
    go_ret2
    exact ⟨rfl, hb⟩
set_option maxHeartbeats 800000 in
theorem sort_none (w : World) :
    Calls Tryz.prog 10 #[.slice none 0 0] w fun e w' => e = .returned (.tuple #[.slice none 0 0, .int .i64 0]) ∧ Below w.heap.size w w' := by
  have HK := Lib.hid (keys_none w)
  have HF := Lib.hid (fun w => first_none w)
  have HS := Lib.hid (fun fv w => show Calls Tryz.prog 34 #[.slice none 0 0, fv] w (fun e w' => e = .returned (.tuple #[]) ∧ w' = w) from AnyF.slices_SortFunc_none { Tryz.sortI with } none 0 fv w)
  go_enter Tryz.func10, Tryz.ntmps10
  go_wp2_with (go_at_call 33; refine HK.out.mono ?_)
  first | rintro e w1 rfl hb1 | rintro e w1 ⟨rfl, hb1⟩
  have hs1 := hb1.size
  go_wp2_with (go_at_call 23; refine (HF.out _).mono ?_)
  first | rintro e w2 rfl hb2 | rintro e w2 ⟨rfl, hb2⟩
  have hB2 : Below w.heap.size w w2 := (hb1.alloc hs1 _).trans (hb2.mono (by simp; omega))
  go_wp2_with (go_at_call 34; refine (HS.out _ _).mono ?_)
  first | rintro e w3 rfl rfl | rintro e w3 ⟨rfl, rfl⟩
  go_wp2_with fail
  go_loopw [7, 31] (fun u i wr => u = .slice none 0 0 ∧ i = .int .i64 0 ∧ Below w.heap.size w wr) (fun _ i _ => 0)
  case atStart => exact ⟨rfl, rfl, hB2⟩
  case round =>
    obtain ⟨rfl, rfl, hb⟩ := hrel
    go_wp2_with fail
    go_ret2
    exact ⟨rfl, hb⟩

/-- a target's key -/
def Can.kb (t : Can.T) : ByteArray := ByteArray.mk (Lab.bs t.job ++ [254] ++ Can.raw t.ls).toArray
theorem Can.kb_bs (t : Can.T) : Lab.bs (Can.kb t) = Lab.bs t.job ++ [254] ++ Can.raw t.ls := rfl
/-- what all makes is right -/
def Can.Fine (t : Can.T) : Prop := t.ls.length = t.n ∧ Can.job (Lab.bs t.job) = true ∧ Lab.right t.ls = true
theorem Can.fine_of (ts : List Can.T) (zs : List Lab.St) (h : ts.map Can.jl = zs.map Lab.St.jl) (hl : ∀ t ∈ ts, t.ls.length = t.n) : ∀ t ∈ ts, Can.Fine t := by
  intro t ht
  have h1 : Can.jl t ∈ zs.map Lab.St.jl := by rw [← h]; exact List.mem_map.2 ⟨t, ht, rfl⟩
  obtain ⟨z, _, e⟩ := List.mem_map.1 h1
  unfold Can.jl Lab.St.jl at e
  simp only [Prod.mk.injEq] at e
  refine ⟨hl t ht, ?_, ?_⟩
  · rw [← e.1]
    exact Lab.job_ok _ (Nat.mod_lt _ (by omega))
  · rw [← e.2]
    exact Lab.tl_right _
theorem Can.fine_ok (t : Can.T) (h : Can.Fine t) : Can.TOk t (Can.kb t) := by
  obtain ⟨h1, h2, h3⟩ := h
  obtain ⟨f1, f2⟩ := Lab.right_fit t.ls h3
  have := Can.job_size t.job h2
  exact ⟨h1, by omega, f1, by omega, h2, _, Can.bytes_right t.ls h3, rfl⟩
theorem Can.kb_size (t : Can.T) (h : Can.Fine t) : (Can.kb t).size ≤ 1000000 := by
  obtain ⟨h1, h2, h3⟩ := h
  have e1 := Can.job_size t.job h2
  have e2 := Can.raw_bound t.ls h3
  have : (Can.kb t).size = (Lab.bs t.job ++ [254] ++ Can.raw t.ls).length := by rw [← Can.kb_bs]; exact Array.length_toList.symm
  have e : (Lab.bs t.job).length = t.job.size := Array.length_toList
  rw [this, List.length_append, List.length_append, e]
  simp only [List.length_cons, List.length_nil]
  omega
theorem Can.kb_inj (t u : Can.T) (ht : Can.Fine t) (hu : Can.Fine u) : Lab.bs (Can.kb t) = Lab.bs (Can.kb u) ↔ (t.job = u.job ∧ t.ls = u.ls) := by
  rw [Can.kb_bs, Can.kb_bs]
  exact ⟨fun h => Can.key_inj _ _ _ _ ht.2.1 hu.2.1 ht.2.2 hu.2.2 h, fun h => by rw [h.1, h.2]⟩
end Go.Proofs.YthnaninhbofeoaaGreatDoor
namespace Go.Proofs.YthnaninhbofeoaaGreatDoor
open Go.RowKit

/-- the key of a target as data -/
def Can.kd (x : ByteArray × List Lab.L) : List UInt8 := Lab.bs x.1 ++ [254] ++ Can.raw x.2
def Can.Up (a : List (ByteArray × List Lab.L)) : Prop := a.Pairwise fun x y => Can.kd x < Can.kd y
theorem Can.up_uniq : ∀ (a b : List (ByteArray × List Lab.L)), Can.Up a → Can.Up b → (∀ x, x ∈ a ↔ x ∈ b) → a = b
  | [], [], _, _, _ => rfl
  | [], y :: b, _, _, h => absurd ((h y).2 List.mem_cons_self) (by simp)
  | x :: a, [], _, _, h => absurd ((h x).1 List.mem_cons_self) (by simp)
  | x :: a, y :: b, ha, hb, h => by
    unfold Can.Up at ha hb
    rw [List.pairwise_cons] at ha hb
    have e : x = y := by
      have hx := (h x).1 List.mem_cons_self
      have hy := (h y).2 List.mem_cons_self
      rw [List.mem_cons] at hx hy
      rcases hx with rfl | hx
      · rfl
      · rcases hy with rfl | hy
        · rfl
        · exact absurd (List.lt_trans (ha.1 y hy) (hb.1 x hx)) (List.lt_irrefl _)
    subst e
    have ht : ∀ z, z ∈ a ↔ z ∈ b := fun z => by
      have hz := h z
      rw [List.mem_cons, List.mem_cons] at hz
      constructor
      · intro hza
        rcases hz.1 (.inr hza) with rfl | h2
        · exact absurd (ha.1 z hza) (List.lt_irrefl _)
        · exact h2
      · intro hzb
        rcases hz.2 (.inr hzb) with rfl | h2
        · exact absurd (hb.1 z hzb) (List.lt_irrefl _)
        · exact h2
    rw [Can.up_uniq a b ha.2 hb.2 ht]
/-- what canon.Sort's contract says, as data -/
theorem Can.sorted_up (ts r : List Can.T) (d : List Nat) (hf : ∀ t ∈ ts, Can.Fine t) (hp : d.Perm (Can.firsts ((ts.map Can.kb).map Lab.bs) ts.length)) (ha : d.Pairwise fun i j => Can.kat (ts.map Can.kb) i ≤ Can.kat (ts.map Can.kb) j)
    (hr : r.map (fun t => some (Can.jl t)) = d.map (fun i => (ts[i]?).map Can.jl)) : Can.Up (r.map Can.jl) ∧ ∀ x, x ∈ r.map Can.jl ↔ x ∈ ts.map Can.jl := by
  have hml : ((ts.map Can.kb).map Lab.bs).length = ts.length := by rw [List.length_map, List.length_map]
  have hlt : ∀ i ∈ d, i < ts.length := fun i hi => ((Can.firsts_mem _ _ i).1 (hp.mem_iff.1 hi)).1
  have hkat : ∀ i (h : i < ts.length), Can.kat (ts.map Can.kb) i = Lab.bs (Can.kb ts[i]) := fun i h => by
    unfold Can.kat
    simp [List.getD, h]
  have hrl : r.length = d.length := by
    have := congrArg List.length hr
    simpa using this
  have hget : ∀ k (h : k < r.length) (h2 : k < d.length), ∃ h3 : d[k] < ts.length, Can.jl r[k] = Can.jl ts[d[k]] := fun k h h2 => by
    have h3 := hlt d[k] (List.getElem_mem _)
    have e : (r.map (fun t => some (Can.jl t)))[k]? = (d.map (fun i => (ts[i]?).map Can.jl))[k]? := by rw [hr]
    rw [List.getElem?_map, List.getElem?_map, List.getElem?_eq_getElem h, List.getElem?_eq_getElem h2] at e
    simp only [Option.map_some, List.getElem?_eq_getElem h3, Option.some.injEq] at e
    exact ⟨h3, e⟩
  have hkd : ∀ i (h : i < ts.length), Can.kd (Can.jl ts[i]) = Lab.bs (Can.kb ts[i]) := fun i h => rfl
  have hnd : d.Pairwise fun i j => Can.kat (ts.map Can.kb) i ≠ Can.kat (ts.map Can.kb) j := by
    have h1 := Can.firsts_keys ((ts.map Can.kb).map Lab.bs) ts.length
    unfold List.Nodup at h1
    rw [List.pairwise_map] at h1
    have h2 : (Can.firsts ((ts.map Can.kb).map Lab.bs) ts.length).Pairwise fun i j => Can.kat (ts.map Can.kb) i ≠ Can.kat (ts.map Can.kb) j := by
      refine h1.imp_of_mem fun {a b} ha hb h e => h ?_
      have la := ((Can.firsts_mem _ _ a).1 ha).1
      have lb := ((Can.firsts_mem _ _ b).1 hb).1
      rw [hkat a la, hkat b lb] at e
      simpa [List.getD, la, lb] using e
    exact h2.perm hp.symm (fun h => Ne.symm h)
  refine ⟨?_, fun x => ⟨fun hx => ?_, fun hx => ?_⟩⟩
  · unfold Can.Up
    rw [List.pairwise_map, List.pairwise_iff_getElem]
    intro i j hi hj hij
    obtain ⟨l1, e1⟩ := hget i hi (by omega)
    obtain ⟨l2, e2⟩ := hget j hj (by omega)
    rw [e1, e2, hkd _ l1, hkd _ l2, ← hkat _ l1, ← hkat _ l2]
    have h1 := (List.pairwise_iff_getElem.1 ha) i j (by omega) (by omega) hij
    have h2 := (List.pairwise_iff_getElem.1 hnd) i j (by omega) (by omega) hij
    exact Lab.lt_of_le_ne h1 h2
  · obtain ⟨t, ht, rfl⟩ := List.mem_map.1 hx
    obtain ⟨k, hk, rfl⟩ := List.getElem_of_mem ht
    obtain ⟨l1, e1⟩ := hget k hk (by omega)
    rw [e1]
    exact List.mem_map.2 ⟨_, List.getElem_mem _, rfl⟩
  · obtain ⟨t, ht, rfl⟩ := List.mem_map.1 hx
    obtain ⟨j, hj, rfl⟩ := List.getElem_of_mem ht
    obtain ⟨i, hi, h1, _, h3⟩ := Can.firsts_some ((ts.map Can.kb).map Lab.bs) ts.length hml.symm j (by omega)
    have hi2 : i < ts.length := by omega
    have h4 : Lab.bs (Can.kb ts[i]) = Lab.bs (Can.kb ts[j]) := by simpa using h3
    have h5 := (Can.kb_inj ts[i] ts[j] (hf _ (List.getElem_mem _)) (hf _ (List.getElem_mem _))).1 h4
    obtain ⟨k, hk, e⟩ := List.getElem_of_mem (hp.mem_iff.2 h1)
    obtain ⟨l1, e1⟩ := hget k (by omega) hk
    refine List.mem_map.2 ⟨r[k], List.getElem_mem _, ?_⟩
    rw [e1]
    unfold Can.jl
    have e2 : ts[d[k]] = ts[i] := by congr 1
    rw [e2, h5.1, h5.2]
end Go.Proofs.YthnaninhbofeoaaGreatDoor
namespace Go.Proofs.YthnaninhbofeoaaGreatDoor
open Go.RowKit

theorem Can.fine_fit (t : Can.T) (h : Can.Fine t) : Can.TFit t := by
  obtain ⟨h1, h2, h3⟩ := h
  obtain ⟨f1, f2⟩ := Lab.right_fit t.ls h3
  have := Can.job_size t.job h2
  exact ⟨h1, by omega, f1, by omega⟩
theorem Can.kd_inj (t u : Can.T) (ht : Can.Fine t) (hu : Can.Fine u) : Can.kd (Can.jl t) = Can.kd (Can.jl u) ↔ Can.jl t = Can.jl u := by
  have := Can.kb_inj t u ht hu
  rw [Can.kb_bs, Can.kb_bs] at this
  unfold Can.jl Can.kd
  rw [this, Prod.mk.injEq]
theorem Can.cmp_fine (t u : Can.T) (ht : Can.Fine t) (hu : Can.Fine u) : Can.cmp t u = (if Can.kd (Can.jl t) < Can.kd (Can.jl u) then -1 else if Can.kd (Can.jl t) = Can.kd (Can.jl u) then 0 else 1, 0) := by
  have k1 := Can.key_right (Lab.bs t.job) t.ls ht.2.1 ht.2.2
  have k2 := Can.key_right (Lab.bs u.job) u.ls hu.2.1 hu.2.2
  have e : Can.err [t, u] = 0 := by
    show (if Can.keyE t = 0 then (if Can.keyE u = 0 then 0 else Can.keyE u) else Can.keyE t) = 0
    unfold Can.keyE
    rw [k1, k2]
    rfl
  unfold Can.cmp
  rw [if_pos e, Can.cmp_law]
  have b1 : Lab.bs (Can.keyB t) = Can.kd (Can.jl t) := by
    unfold Can.keyB
    rw [k1]
    rfl
  have b2 : Lab.bs (Can.keyB u) = Can.kd (Can.jl u) := by
    unfold Can.keyB
    rw [k2]
    rfl
  rw [b1, b2]
theorem Can.cmp_zero (t u : Can.T) (ht : Can.Fine t) (hu : Can.Fine u) : ∃ cv : Int, Can.cmp t u = (cv, 0) ∧ ((cv == 0) = (Can.kd (Can.jl u) == Can.kd (Can.jl t))) := by
  refine ⟨_, Can.cmp_fine t u ht hu, ?_⟩
  by_cases h1 : Can.kd (Can.jl t) < Can.kd (Can.jl u)
  · rw [if_pos h1]
    have hne : ¬ Can.kd (Can.jl u) = Can.kd (Can.jl t) := fun e => by rw [e] at h1; exact List.lt_irrefl _ h1
    have : (Can.kd (Can.jl u) == Can.kd (Can.jl t)) = false := by simpa using hne
    rw [this]
    rfl
  · rw [if_neg h1]
    by_cases h2 : Can.kd (Can.jl t) = Can.kd (Can.jl u)
    · rw [if_pos h2, h2]
      simp
    · rw [if_neg h2]
      have : (Can.kd (Can.jl u) == Can.kd (Can.jl t)) = false := by simpa using Ne.symm h2
      rw [this]
      rfl
theorem Can.kd_same (t u : Can.T) (ht : Can.Fine t) (hu : Can.Fine u) : (Can.kd (Can.jl u) == Can.kd (Can.jl t)) = true ↔ (t.job = u.job ∧ t.ls = u.ls) := by
  rw [beq_iff_eq, Can.kd_inj u t hu ht]
  unfold Can.jl
  rw [Prod.mk.injEq]
  exact ⟨fun h => ⟨h.1.symm, h.2.symm⟩, fun h => ⟨h.1.symm, h.2.symm⟩⟩
theorem Can.fine_map (ts r : List Can.T) (hf : ∀ t ∈ ts, Can.Fine t) (hl : ∀ t ∈ r, t.ls.length = t.n) (h : ∀ x, x ∈ r.map Can.jl ↔ x ∈ ts.map Can.jl) : ∀ t ∈ r, Can.Fine t := by
  intro t ht
  obtain ⟨u, hu, e⟩ := List.mem_map.1 ((h (Can.jl t)).1 (List.mem_map.2 ⟨t, ht, rfl⟩))
  obtain ⟨_, h2, h3⟩ := hf u hu
  unfold Can.jl at e
  simp only [Prod.mk.injEq] at e
  rw [e.1] at h2
  rw [e.2] at h3
  exact ⟨hl t ht, h2, h3⟩
theorem sort_fine (b o c : Nat) (ts : List Can.T) (n : Nat) (hn : ts.length = n) (hf : ∀ t ∈ ts, Can.Fine t) (hl : n ≤ 1000) (w : World) (hb0 : b < w.heap.size) (hT : Can.TAt b o ts w) :
    Calls Tryz.prog 10 #[.slice (some ⟨b, o, none⟩) n c] w fun e w' => (∃ (v : Value) (r : List Can.T), e = .returned (.tuple #[v, .int .i64 0]) ∧ OwnTs w.heap.size v r w' ∧ (∀ t ∈ r, Can.Fine t) ∧ Can.Up (r.map Can.jl) ∧ (∀ x, x ∈ r.map Can.jl ↔ x ∈ ts.map Can.jl) ∧ r.length ≤ n) ∧ Below w.heap.size w w' := by
  have h := csort_is b o c ts (ts.map Can.kb) n w hb0 hn (by rw [List.length_map, hn]) hT (fun i h1 h2 => by rw [List.getElem_map]; exact Can.fine_ok _ (hf _ (List.getElem_mem _))) hl (fun x hx => by
    obtain ⟨t, ht, rfl⟩ := List.mem_map.1 hx
    exact Can.kb_size t (hf t ht))
  refine h.mono ?_
  rintro e w' ⟨⟨v, r, d, rfl, hp, ha, hr, hv⟩, hb⟩
  rw [← hn] at hp
  have hs := Can.sorted_up ts r d hf hp ha hr
  refine ⟨⟨v, r, rfl, hv, Can.fine_map ts r hf (fun t ht => (hv.2 t ht).1) hs.2, hs.1, hs.2, ?_⟩, hb⟩
  have e1 := congrArg List.length hr
  rw [List.length_map, List.length_map] at e1
  have e2 := hp.length_eq
  have e3 := Can.firsts_length ((ts.map Can.kb).map Lab.bs) ts.length
  omega
/-- a row of targets of the call's own, whose labels need not be its own -/
def RowTs (B : Nat) (v : Value) (ts : List Can.T) (w : World) : Prop := w.ownsRow B 37 2 v ts.length (Can.tcells ts)
theorem RowTs.at {B : Nat} {g c : Nat} {n : Nat} {ts : List Can.T} {w : World} (h : RowTs B (.slice (some ⟨g, 0, none⟩) n c) ts w) (hA : ∀ t ∈ ts, Lab.At t.p t.ls w) : g < w.heap.size ∧ Can.TAt g 0 ts w := by
  obtain ⟨h1, h2⟩ := h
  rcases h2 with ⟨h2, _⟩ | ⟨g', cap, cur, hv, hg, hh, hn, hc, hcs, ht⟩
  · cases h2
  · simp only [Value.slice.injEq, Option.some.injEq, Addr.mk.injEq, and_true] at hv
    obtain ⟨rfl, _, _⟩ := hv
    refine ⟨lt_of_heap hh, fun i hi => ?_⟩
    have hcell : ∀ j u, (Can.tcells ts)[j]? = some u → w.cell? ⟨g, j, none⟩ = some u := by
      intro j u hj
      rw [Lib.cell_of_heap hh, ← Array.getElem?_toList]
      rw [← ht] at hj
      rw [List.getElem?_take] at hj
      split at hj
      · exact hj
      · simp at hj
    have := Can.tcells_get ts i hi
    exact ⟨by simpa using hcell _ _ this.1, by simpa using hcell _ _ this.2, hA _ (List.getElem_mem _)⟩
theorem Can.TAt.cells {b o : Nat} {ts : List Can.T} {w : World} (h : Can.TAt b o ts w) : ∀ j u, (Can.tcells ts)[j]? = some u → w.cell? ⟨b, o + j, none⟩ = some u := by
  intro j u hj
  have hlt : j < ts.length * 2 := by
    have := (List.getElem?_eq_some_iff.1 hj).1
    rw [Can.tcells_length] at this
    exact this
  have hi : j / 2 < ts.length := by omega
  have h1 := Can.tcells_get ts (j / 2) hi
  have h2 := h (j / 2) hi
  rcases Nat.mod_two_eq_zero_or_one j with e | e
  · have ej : j / 2 * 2 = j := by omega
    rw [ej] at h1 h2
    rw [h1.1] at hj
    rw [h2.1]
    exact hj
  · have ej : j / 2 * 2 + 1 = j := by omega
    rw [Nat.add_assoc, ej] at h2
    rw [ej] at h1
    rw [h1.2] at hj
    rw [h2.2.1]
    exact hj
theorem Can.TAt.drop {b o : Nat} {ts : List Can.T} {w : World} (h : Can.TAt b o ts w) (k : Nat) : Can.TAt b (o + k * 2) (ts.drop k) w := by
  intro i hi
  rw [List.length_drop] at hi
  have := h (k + i) (by omega)
  rw [List.getElem_drop]
  rw [show o + k * 2 + i * 2 = o + (k + i) * 2 by omega]
  exact this
theorem Can.TAt.take {b o : Nat} {ts : List Can.T} {w : World} (h : Can.TAt b o ts w) (k : Nat) : Can.TAt b o (ts.take k) w := by
  intro i hi
  rw [List.length_take] at hi
  have := h i (by omega)
  rw [List.getElem_take]
  exact this
theorem infoTgt2 : ∃ i, Tryz.prog.info? 37 = some i ∧ i.zero = some (.agg #[.string ByteArray.empty, .slice none 0 0]) ∧ i.size = 2 ∧ i.bytes = 40 := info_parts infoTgt
/-- 'append(v, some..)' at a step of a region that draws its order -/
theorem step_cat {ops : Array Oper} {o : Oper} {a : Act} {K : Act → World → Prop} {Q : Exit → Act → World → Prop} {E : Prop} {w : World} (T : TypeId) (hT : Tryz.prog.underlying T = some (.slice 37)) (hgd : o.guard = none) (s x : Operand)
    (ho : o.op = .call { callee := .builtin .append, args := #[s, x], argTypes := #[T, T] })
    (B : Nat) (v : Value) (l : List Can.T) (hs : a.eval s = v) (hown : RowTs B v l w) (r : List Can.T) (g off n c : Nat) (hx : a.eval x = .slice (some ⟨g, off, none⟩) n c) (hn : r.length = n)
    (hr : Can.TAt g off r w) (tot : Nat) (htot : l.length + n = tot) (hpos : 0 < tot) (hlen : tot ≤ 1000) (hB : B ≤ w.heap.size)
    (h : ∀ g2 cap w', RowTs B (.slice (some ⟨g2, 0, none⟩) tot cap) (l ++ r) w' → w.grownBy w' v.ownBlock → K (a.put o.dst (.slice (some ⟨g2, 0, none⟩) tot cap)) w') :
    if Region.wanted o (yielded ops a.tmps) = true then Oper.wp Tryz.prog o a w K Q else E := by
  have hw : Region.wanted o (yielded ops a.tmps) = true := by simp [Region.wanted, hgd]
  rw [if_pos hw]
  obtain ⟨i0, hi, hz0, hz1, hz2⟩ := infoTgt2
  subst hn
  subst htot
  refine wp_append_own w s x T ho B 37 i0 _ 2 40 hT hi hz0 hz1 hz2 rfl (by decide) v l.length (Can.tcells l) hs hown ⟨g, off, none⟩ r.length c (Can.tcells r) hx (Can.tcells_length r) ?_ (Can.tcells_one _) (by unfold maxLen; omega) (by omega) hB ?_
  · intro j u hj
    have := hr.cells j u hj
    have e : (⟨g, off, none⟩ : Addr).add j = ⟨g, off + j, none⟩ := by unfold Addr.add; split <;> simp_all
    rw [e]
    exact this
  · intro v' w' h1 h2 _
    have h3 := h1
    obtain ⟨h4, h5⟩ := h3
    rcases h5 with ⟨_, h5⟩ | ⟨g2, cap, cur, rfl, _⟩
    · omega
    · refine h g2 cap w' ?_ h2
      unfold RowTs
      rw [Can.tcells_append, List.length_append]
      exact h1
theorem step_cat_none {ops : Array Oper} {o : Oper} {a : Act} {K : Act → World → Prop} {Q : Exit → Act → World → Prop} {E : Prop} {w : World} (T : TypeId) (hT : Tryz.prog.underlying T = some (.slice 37)) (hgd : o.guard = none) (s x : Operand)
    (ho : o.op = .call { callee := .builtin .append, args := #[s, x], argTypes := #[T, T] })
    (B : Nat) (v : Value) (l : List Can.T) (hs : a.eval s = v) (hown : RowTs B v l w) (hx : a.eval x = .slice none 0 0)
    (h : K (a.put o.dst v) w) :
    if Region.wanted o (yielded ops a.tmps) = true then Oper.wp Tryz.prog o a w K Q else E := by
  have hw : Region.wanted o (yielded ops a.tmps) = true := by simp [Region.wanted, hgd]
  rw [if_pos hw]
  obtain ⟨i0, hi, _⟩ := infoTgt2
  have hrun := run_append_owned_none (P := Tryz.prog) (w := w) B T o.type 37 i0 2 hT hi v l.length (Can.tcells l) hown
  unfold Oper.wp
  simp [execOp, ho, resolve, invoke, builtin, hs, hx, hrun, Result.andThen]
  exact h
theorem RowTs.made (w : World) (B : Nat) (hB : B ≤ w.heap.size) : RowTs B (.slice (some ⟨w.heap.size, 0, none⟩) 0 0) [] (w.alloc (.cells #[] 37)) :=
  World.ownsRow_made w #[] 0 hB (Nat.zero_le _) rfl
/-- each of a list in order is there once -/
theorem Can.up_count : ∀ (l : List Can.T), Can.Up (l.map Can.jl) → ∀ t, Can.jl t ∈ l.map Can.jl → l.countP (fun u => Can.kd (Can.jl u) == Can.kd (Can.jl t)) = 1
  | [], _, _, h => by simp at h
  | x :: l, hu, t, h => by
    unfold Can.Up at hu
    rw [List.map_cons, List.pairwise_cons] at hu
    rw [List.countP_cons]
    by_cases e : Can.kd (Can.jl x) = Can.kd (Can.jl t)
    · have h0 : l.countP (fun u => Can.kd (Can.jl u) == Can.kd (Can.jl t)) = 0 := by
        rw [List.countP_eq_zero]
        intro u hul hd
        have hd : Can.kd (Can.jl u) = Can.kd (Can.jl t) := by simpa using hd
        have := hu.1 (Can.jl u) (List.mem_map.2 ⟨u, hul, rfl⟩)
        rw [hd, e] at this
        exact absurd this (List.lt_irrefl _)
      rw [h0, if_pos (by simpa using e)]
    · rw [if_neg (by simpa using e)]
      rw [List.map_cons, List.mem_cons] at h
      rcases h with h | h
      · exact absurd (by rw [h]) e
      · exact Can.up_count l hu.2 t h
theorem Can.up_step (l : List Can.T) (h : Can.Up (l.map Can.jl)) (i : Nat) (h1 : i + 1 < l.length) : Can.kd (Can.jl l[i]) < Can.kd (Can.jl l[i + 1]) := by
  unfold Can.Up at h
  have := (List.pairwise_iff_getElem.1 h) i (i + 1) (by rw [List.length_map]; omega) (by rw [List.length_map]; omega) (by omega)
  rw [List.getElem_map, List.getElem_map] at this
  exact this
theorem Can.not_before (x y : List UInt8) (h : x < y) : ¬ y < x ∧ y ≠ x := ⟨fun h2 => absurd (List.lt_trans h h2) (List.lt_irrefl _), fun e => by subst e; exact List.lt_irrefl _ h⟩
end Go.Proofs.YthnaninhbofeoaaGreatDoor
namespace Go.Proofs.YthnaninhbofeoaaGreatDoor
open Go.RowKit

/-- targets at an address; none: whatever address -/
def Can.TAtP (p : Option Addr) (ts : List Can.T) (w : World) : Prop := ts = [] ∨ ∃ g, p = some ⟨g, 0, none⟩ ∧ g < w.heap.size ∧ Can.TAt g 0 ts w
theorem Can.TAtP.below {p : Option Addr} {ts : List Can.T} {B : Nat} {w w' : World} (h : Can.TAtP p ts w) (hb : Below B w w') (hB : w.heap.size ≤ B) : Can.TAtP p ts w' := by
  rcases h with h | ⟨g, h1, h2, h3⟩
  · exact .inl h
  · exact .inr ⟨g, h1, Nat.lt_of_lt_of_le h2 hb.size, h3.belowT hb hB⟩
theorem OwnTs.openP {B : Nat} {v : Value} {ts : List Can.T} {w : World} (h : OwnTs B v ts w) : ∃ p c, v = .slice p ts.length c ∧ ts.length ≤ c ∧ Can.TAtP p ts w := by
  rcases h.open with ⟨rfl, hx⟩ | ⟨g, c, rfl, _, h2, h3, _, h4⟩
  · subst hx
    exact ⟨none, 0, rfl, Nat.le_refl _, .inl rfl⟩
  · exact ⟨_, c, rfl, h3, .inr ⟨g, rfl, h2, h4⟩⟩

theorem chainT {W w1 w2 : World} (h : Below W.heap.size W w1) (k : Below w1.heap.size w1 w2) : Below W.heap.size W w2 := h.trans (k.mono h.size)
/-- targets at an address; none: whatever address -/
def Can.TPos (p : Option Addr) (ts : List Can.T) (w : World) : Prop := ts = [] ∨ ∃ b o, p = some ⟨b, o, none⟩ ∧ b < w.heap.size ∧ Can.TAt b o ts w
theorem Can.TPos.below {p : Option Addr} {ts : List Can.T} {B : Nat} {w w' : World} (h : Can.TPos p ts w) (hb : Below B w w') (hB : w.heap.size ≤ B) : Can.TPos p ts w' := by
  rcases h with h | ⟨b, o, h1, h2, h3⟩
  · exact .inl h
  · exact .inr ⟨b, o, h1, Nat.lt_of_lt_of_le h2 hb.size, h3.belowT hb hB⟩
theorem Can.TAtP.pos {p : Option Addr} {ts : List Can.T} {w : World} (h : Can.TAtP p ts w) : Can.TPos p ts w := by
  rcases h with h | ⟨g, h1, h2, h3⟩
  · exact .inl h
  · exact .inr ⟨g, 0, h1, h2, h3⟩
set_option maxHeartbeats 1600000 in
set_option maxRecDepth 100000 in
theorem sametargets_gen (p1 p2 : Option Addr) (a b : List Can.T) (n c1 c2 : Nat) (w : World) (hn : a.length = n) (hm : b.length = n) (hA : Can.TPos p1 a w) (hB : Can.TPos p2 b w) (hj : a.map Can.jl = b.map Can.jl) (fa : ∀ t ∈ a, t.ls.length = t.n ∧ t.ls.length ≤ 1000) (fb : ∀ t ∈ b, t.ls.length = t.n) (hl : n ≤ 1000) :
    Calls Tryz.prog 11 #[.slice p1 n c1, .slice p2 n c2] w fun e w' => e = .returned (.bool true) ∧ Below w.heap.size w w' := by
  have HN := Lib.hid hn
  have HM := Lib.hid hm
  have HJ : Hid (∀ i (h1 : i < a.length) (h2 : i < b.length), a[i].job = b[i].job ∧ a[i].ls = b[i].ls) := by
    show ∀ i, _
    intro i h1 h2
    have e : (a.map Can.jl)[i]? = (b.map Can.jl)[i]? := by rw [hj]
    rw [List.getElem?_map, List.getElem?_map, List.getElem?_eq_getElem h1, List.getElem?_eq_getElem h2] at e
    simpa [Can.jl] using e
  have HFA : Hid (∀ i (h1 : i < a.length), a[i].ls.length = a[i].n ∧ a[i].ls.length ≤ 1000) := fun i h1 => fa _ (List.getElem_mem _)
  have HFB : Hid (∀ i (h1 : i < b.length), b[i].ls.length = b[i].n) := fun i h1 => fb _ (List.getElem_mem _)
  have q0 : ((n : Int) != (n : Int)) = false := by simp
  clear hn hm hj fa fb
  go_enter Tryz.func11, Tryz.ntmps11
  go_wp2_with fail
  go_loopw [5] (fun i wr => ∃ k : Nat, k ≤ n ∧ i = .int .i64 k ∧ Below w.heap.size w wr) (fun i _ => n - (intOf i).toNat)
  case atStart => exact ⟨0, Nat.zero_le _, rfl, Below.refl _ _⟩
  case round =>
    obtain ⟨k, hk, rfl, hb⟩ := hrel
    have hsz := hb.size
    by_cases hlt : k < n
    · have ka : k < a.length := by rw [HN.out]; exact hlt
      have kb : k < b.length := by rw [HM.out]; exact hlt
      rcases hA with hA | ⟨ga, oa, rfl, hga, hTa⟩
      · rw [hA] at ka; simp at ka
      rcases hB with hB | ⟨gb, ob, rfl, hgb, hTb⟩
      · rw [hB] at kb; simp at kb
      obtain ⟨x0, x1, x2⟩ := hTa k ka
      obtain ⟨y0, y1, y2⟩ := hTb k kb
      obtain ⟨q1, q5⟩ := HFA.out k ka
      have q6 := HFB.out k kb
      obtain ⟨e1, e2⟩ := HJ.out k ka kb
      obtain ⟨t, ht⟩ : ∃ t, a[k] = t := ⟨_, rfl⟩
      obtain ⟨u, hu⟩ : ∃ u, b[k] = u := ⟨_, rfl⟩
      rw [ht] at x0 x1 x2 q1 q5 e1 e2
      rw [hu] at y0 y1 y2 q6 e1 e2
      clear ht hu hTa hTb
      obtain ⟨tj, tp, tn, tc, tl⟩ := t
      obtain ⟨uj, up, un, uc, ul⟩ := u
      dsimp only at x0 x1 x2 q1 q5 e1 e2 y0 y1 y2 q6
      subst e1 e2
      have e3 : tn = un := by omega
      subst e3
      have T1 := Lib.hid (fun w hA hB => sametarget_true tj tp up tl tn tc uc w q1 hA hB (by unfold maxLen; omega))
      have HKS : Hid (∀ w', Below wr.heap.size wr w' → w'.cell? ⟨ga, oa + k * 2, none⟩ = some (.string tj) ∧ w'.cell? ⟨ga, oa + k * 2 + 1, none⟩ = some (.slice tp tn tc) ∧ w'.cell? ⟨gb, ob + k * 2, none⟩ = some (.string tj) ∧ w'.cell? ⟨gb, ob + k * 2 + 1, none⟩ = some (.slice up tn uc)) := by
        show ∀ w', _
        intro w' hw
        have hw2 := chainT hb hw
        exact ⟨cell_later hw2 x0 (Nat.le_refl _), cell_later hw2 x1 (Nat.le_refl _), cell_later hw2 y0 (Nat.le_refl _), cell_later hw2 y1 (Nat.le_refl _)⟩
      have l1 : Lab.At tp tl wr.drew := x2.below hb.drew (Nat.le_refl _)
      have l2 : Lab.At up tl wr.drew := y2.below hb.drew (Nat.le_refl _)
      obtain ⟨k0, k1, k2, k3⟩ := HKS.out _ (Below.refl _ wr)
      have n5 : (0 : Int) ≤ (k : Int) := by omega
      have n6 : (k : Int) < (n : Int) := by omega
      clear x0 x1 x2 y0 y1 y2 q1 q6
      go_wp2_with fail
      go_region_held3 (fun w' => w'.cell? ⟨ga, oa + k * 2, none⟩ = some (.string tj) ∧ w'.cell? ⟨ga, oa + k * 2 + 1, none⟩ = some (.slice tp tn tc) ∧ w'.cell? ⟨gb, ob + k * 2, none⟩ = some (.string tj) ∧ w'.cell? ⟨gb, ob + k * 2 + 1, none⟩ = some (.slice up tn uc))
        (first | exact HKS.out _ ((Below.refl _ wr).drew.trans hby) | exact HKS.out _ (Below.refl _ wr).drew | go_keep)
        ((go_at_call 13; refine (T1.out _ l1 l2).mono ?_; rintro e wy ⟨rfl, hby⟩))
      have hby' : Below w.heap.size w wy := hb.drew.trans (hby.mono hsz)
      go_wp2_with fail
      go_roundw
      case rel => exact ⟨k + 1, by omega, by go_num, hby'⟩
      case measure => simp [intOf]; omega
    · have : k = n := by omega
      subst this
      go_wp2_with fail
      go_ret
      exact ⟨rfl, hb⟩
theorem sametargets_true (p1 p2 : Option Addr) (a b : List Can.T) (n c1 c2 : Nat) (w : World) (hn : a.length = n) (hm : b.length = n) (hA : Can.TAtP p1 a w) (hB : Can.TAtP p2 b w) (hj : a.map Can.jl = b.map Can.jl) (fa : ∀ t ∈ a, Can.Fine t) (fb : ∀ t ∈ b, Can.Fine t) (hl : n ≤ 1000) :
    Calls Tryz.prog 11 #[.slice p1 n c1, .slice p2 n c2] w fun e w' => e = .returned (.bool true) ∧ Below w.heap.size w w' :=
  sametargets_gen p1 p2 a b n c1 c2 w hn hm hA.pos hB.pos hj (fun t ht => ⟨(fa t ht).1, by have := (Lab.right_fit _ (fa t ht).2.2).2; omega⟩) (fun t ht => (fb t ht).1) hl
end Go.Proofs.YthnaninhbofeoaaGreatDoor
