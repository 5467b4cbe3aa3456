/- Slices of targets that a call makes itself by append. Contract of canon: Compare. (Printed by gen_cmp.py.) -/
import Derived.Test.YthnaninhbofeoaaGreatDoorAwkB
import Derived.Test.YthnaninhbofeoaaGreatDoorKeyK
import Derived.Deep.AppendLies
import Derived.BigQuiet
namespace Go.Proofs.YthnaninhbofeoaaGreatDoor
open Go.RowKit

theorem infoTgt : (Tryz.prog.info? 37).map (fun i => (i.zero, i.size, i.bytes)) = some (some (.agg #[.string ByteArray.empty, .slice none 0 0]), 2, 40) := by kernel_rfl
def Can.tcells (ts : List Can.T) : List Value := ts.flatMap fun t => [.string t.job, .slice t.p t.n t.c]
theorem Can.tcells_length (ts : List Can.T) : (Can.tcells ts).length = ts.length * 2 := by
  unfold Can.tcells
  induction ts with
  | nil => rfl
  | cons x r ih => simp only [List.flatMap_cons, List.length_append, ih, List.length_cons, List.length_nil]; omega
theorem Can.tcells_append (a b : List Can.T) : Can.tcells (a ++ b) = Can.tcells a ++ Can.tcells b := by simp [Can.tcells]
theorem Can.tcells_one (ts : List Can.T) : ∀ u ∈ Can.tcells ts, u.oneCell' = true := by
  intro u hu
  simp only [Can.tcells, List.mem_flatMap] at hu
  obtain ⟨x, _, hx⟩ := hu
  simp at hx
  rcases hx with rfl | rfl <;> rfl
theorem Can.tcells_get (ts : List Can.T) (i : Nat) (h : i < ts.length) : (Can.tcells ts)[i * 2]? = some (.string ts[i].job) ∧ (Can.tcells ts)[i * 2 + 1]? = some (.slice ts[i].p ts[i].n ts[i].c) := by
  induction ts generalizing i with
  | nil => simp at h
  | cons x r ih =>
    cases i with
    | zero => simp [Can.tcells]
    | succ i =>
      have := ih i (by simpa using h)
      have e : Can.tcells (x :: r) = .string x.job :: .slice x.p x.n x.c :: Can.tcells r := by simp [Can.tcells]
      rw [e, show (i + 1) * 2 = i * 2 + 1 + 1 by omega]
      simpa using this
/-- v is a slice of targets of the call's own, whose labels are its own, too -/
def OwnTs (B : Nat) (v : Value) (ts : List Can.T) (w : World) : Prop :=
  w.ownsRow B 37 2 v ts.length (Can.tcells ts) ∧ ∀ t ∈ ts, t.ls.length = t.n ∧ OwnLabels B (.slice t.p t.n t.c) t.ls w
theorem OwnTs.nil (B : Nat) (w : World) : OwnTs B (.slice none 0 0) [] w := ⟨World.ownsRow_nil _ _ _ _, fun t ht => by simp at ht⟩
theorem OwnTs.alloc {B : Nat} {v : Value} {ts : List Can.T} {w : World} (h : OwnTs B v ts w) (o : Obj) : OwnTs B v ts (w.alloc o) :=
  ⟨World.ownsRow.alloc h.1 o, fun t ht => ⟨(h.2 t ht).1, (h.2 t ht).2.alloc o⟩⟩
theorem OwnTs.below {B C : Nat} {v : Value} {ts : List Can.T} {w w' : World} (h : OwnTs B v ts w) (hb : Below C w w') (hC : w.heap.size ≤ C) : OwnTs B v ts w' :=
  ⟨row_below h.1 hb hC, fun t ht => ⟨(h.2 t ht).1, (h.2 t ht).2.below hb hC⟩⟩
theorem OwnTs.lift {B B' : Nat} {v : Value} {ts : List Can.T} {w : World} (h : OwnTs B v ts w) (hB : B' ≤ B) : OwnTs B' v ts w :=
  ⟨row_lift h.1 hB, fun t ht => ⟨(h.2 t ht).1, row_lift (h.2 t ht).2 hB⟩⟩
theorem OwnTs.open {B : Nat} {v : Value} {ts : List Can.T} {w : World} (h : OwnTs B v ts w) :
    (v = .slice none 0 0 ∧ ts = []) ∨ ∃ g c, v = .slice (some ⟨g, 0, none⟩) ts.length c ∧ B ≤ g ∧ g < w.heap.size ∧ ts.length ≤ c ∧ c ≤ maxLen ∧ Can.TAt g 0 ts w := by
  obtain ⟨⟨h1, h2⟩, h3⟩ := h
  rcases h2 with ⟨rfl, h0⟩ | ⟨g, cap, cur, rfl, hg, hh, hn, hc, hcs, ht⟩
  · exact .inl ⟨rfl, List.length_eq_zero_iff.1 h0⟩
  · refine .inr ⟨g, cap, rfl, hg, lt_of_heap hh, hn, hc, fun i hi => ?_⟩
    have hcell : ∀ j u, (Can.tcells ts)[j]? = some u → w.cell? ⟨g, j, none⟩ = some u := by
      intro j u hj
      rw [Lib.cell_of_heap hh, ← Array.getElem?_toList]
      rw [← ht] at hj
      rw [List.getElem?_take] at hj
      split at hj
      · exact hj
      · simp at hj
    have := Can.tcells_get ts i hi
    have hl := (h3 ts[i] (List.getElem_mem _)).2
    obtain ⟨p', c', e, hA, _⟩ := OwnLabels.open hl
    simp only [Value.slice.injEq] at e
    refine ⟨by simpa using hcell _ _ this.1, by simpa using hcell _ _ this.2, ?_⟩
    rw [e.1]
    exact hA
/-- labels stay while a row of targets grows -/
theorem own_grown {B B' n : Nat} {v u : Value} {ls : List Lab.L} {xs : List Value} {w w' : World} (h : OwnLabels B v ls w) (hu : w.ownsRow B' 37 2 u n xs) (hg : w.grownBy w' u.ownBlock) : OwnLabels B v ls w' := by
  obtain ⟨h1, h2⟩ := h
  refine ⟨h1, ?_⟩
  rcases h2 with h2 | ⟨g, cap, cur, hv, hgB, hh, r⟩
  · exact .inl h2
  · refine .inr ⟨g, cap, cur, hv, hgB, ?_, r⟩
    rw [hg.block g (lt_of_heap hh) (fun e => ?_)]
    · exact hh
    · rcases hu.2 with ⟨rfl, _⟩ | ⟨g', cap', cur', rfl, _, hh', _⟩
      · simp [Value.ownBlock] at e
      · simp [Value.ownBlock] at e
        subst e
        rw [hh'] at hh
        simp at hh
/-- 'append(v, t)' of a target written out -/
theorem wpList_pushTg {ops : Array Oper} {rest : List Oper} {o : Oper} {a : Act} {Q : Exit → Act → World → Prop} (T : TypeId) (hT : Tryz.prog.underlying T = some (.slice 37)) (hgd : o.guard = none) (s x : Operand)
    (ho : o.op = .call { callee := .builtin .append, args := #[s, x], argTypes := #[T, T] })
    (B : Nat) (v : Value) (l : List Can.T) (wr : World) (hs : a.eval s = v) (hown : OwnTs B v l wr) (y : Can.T) (hyn : y.ls.length = y.n) (hy : OwnLabels B (.slice y.p y.n y.c) y.ls wr) (C : Array Value) (c : Nat) (hC : C = #[.string y.job, .slice y.p y.n y.c])
    (G : Nat) (hx : a.eval x = .slice (some ⟨G, 0, none⟩) 1 c) (hG : G = wr.heap.size) (hlen : l.length + 1 ≤ 1000000000) (hB : B ≤ wr.heap.size)
    (h : ∀ v' w', OwnTs B v' (l ++ [y]) w' → (wr.alloc (.cells C 37)).grownBy w' v.ownBlock → wpList Tryz.prog ops Q rest (a.put o.dst v') w') :
    wpList Tryz.prog ops Q (o :: rest) a (wr.alloc (.cells C 37)) := by
  obtain ⟨i0, hi, hz0, hz1, hz2⟩ := info_parts infoTgt
  subst hC
  subst hG
  have hownA := hown.alloc (.cells #[.string y.job, .slice y.p y.n y.c] 37)
  refine wpList_append_own _ hgd s x T ho B 37 i0 _ 2 40 hT hi hz0 hz1 hz2 rfl (by decide) v l.length (Can.tcells l) hs hownA.1 ⟨wr.heap.size, 0, none⟩ 1 c (Can.tcells [y]) hx rfl ?_ (Can.tcells_one _) ?_ ?_ ?_ ?_
  · intro j u hj
    have e : (wr.alloc (.cells #[.string y.job, .slice y.p y.n y.c] 37)).cell? ((⟨wr.heap.size, 0, none⟩ : Addr).add j) = (#[.string y.job, .slice y.p y.n y.c] : Array Value)[j]? := by
      rw [addr0]; simp
    rw [e]; simpa [Can.tcells] using hj
  · unfold maxLen; omega
  · omega
  · simp; omega
  · intro v' w' h1 h2 _
    refine h v' w' ⟨?_, fun t ht => ?_⟩ h2
    · rw [Can.tcells_append, List.length_append]
      exact h1
    · rw [List.mem_append, List.mem_singleton] at ht
      rcases ht with ht | rfl
      · exact ⟨(hownA.2 t ht).1, own_grown (hownA.2 t ht).2 hownA.1 h2⟩
      · exact ⟨hyn, own_grown (hy.alloc _) hownA.1 h2⟩
end Go.Proofs.YthnaninhbofeoaaGreatDoor
namespace Go.Proofs.YthnaninhbofeoaaGreatDoor
open Go.RowKit

theorem Can.key_len (job : ByteArray) (ls : List Lab.L) (h1 : ls.length ≤ 70) (hF : Lab.Fit 1100 ls) (h2 : job.size ≤ 1000000) : (Can.key (Lab.bs job) ls).1.length ≤ 3000000 := by
  have hb : (Can.bytes ls).1.length ≤ 1000000 := by
    unfold Can.bytes
    split
    · have := Can.raw_length ls 1100 hF
      exact Nat.le_trans this (Nat.le_trans (Nat.mul_le_mul_right _ h1) (by decide))
    · simp
  have hj : (Lab.bs job).length = job.size := by simp [Lab.bs]
  unfold Can.key
  split
  · split
    · simp only [List.length_append, List.length_cons, List.length_nil]; omega
    · simp
  · simp
theorem Can.keyB_len (t : Can.T) (h : Can.TFit t) : (Can.keyB t).size ≤ 3000000 := by
  obtain ⟨h1, h2, h3, h4⟩ := h
  have := Can.key_len t.job t.ls (by omega) h3 h4
  have e : (Can.keyB t).size = (Can.key (Lab.bs t.job) t.ls).1.length := List.size_toArray
  omega
def Can.cmp (a b : Can.T) : Int × Int := if Can.err [a, b] = 0 then (Lib.compareBytes (Lab.bs (Can.keyB a)) (Lab.bs (Can.keyB b)), 0) else (0, Can.err [a, b])
theorem Can.cmp_law (x y : List UInt8) : Lib.compareBytes x y = if x < y then -1 else if x = y then 0 else 1 := by
  induction x generalizing y with
  | nil =>
    cases y with
    | nil => simp [Lib.compareBytes]
    | cons c r => simp [Lib.compareBytes]
  | cons a x ih =>
    cases y with
    | nil => simp [Lib.compareBytes]
    | cons b y =>
      unfold Lib.compareBytes
      have hc : (a :: x < b :: y) ↔ (a < b ∨ a = b ∧ x < y) := List.cons_lt_cons_iff
      rw [ih y]
      by_cases h1 : a < b
      · rw [if_pos h1, if_pos (hc.2 (.inl h1))]
      · rw [if_neg h1]
        by_cases h2 : b < a
        · have hne : a ≠ b := fun e => by subst e; exact h1 h2
          rw [if_pos h2, if_neg (fun h => (hc.1 h).elim h1 (fun q => hne q.1)), if_neg (by intro e; exact hne (List.cons.inj e).1)]
        · have he : a = b := UInt8.toNat_inj.1 (by rw [UInt8.lt_iff_toNat_lt] at h1 h2; omega)
          subst he
          rw [if_neg h2]
          by_cases h3 : x < y
          · rw [if_pos h3, if_pos (hc.2 (.inr ⟨rfl, h3⟩))]
          · rw [if_neg h3, if_neg (fun h => (hc.1 h).elim h1 (fun q => h3 q.2))]
            simp

theorem ctwo_keys (a b : Can.T) (ks : List ByteArray) (er : Int) (fa : Can.TFit a) (fb : Can.TFit b) (he : Can.err [a, b] = er) (hk : Can.keysOf [a, b] = ks) (G : Nat) (W : World) (hG : G = W.heap.size) (hA : Lab.At a.p a.ls W) (hB : Lab.At b.p b.ls W) :
    Calls Tryz.prog 33 #[.slice (some ⟨G, 0, none⟩) 2 2] (W.alloc (.cells #[.string a.job, .slice a.p a.n a.c, .string b.job, .slice b.p b.n b.c] 37)) fun e w' =>
      (∃ v, e = .returned (.tuple #[v, .int .i64 er]) ∧ OwnTexts (G + 1) v ks w') ∧ Below (G + 1) (W.alloc (.cells #[.string a.job, .slice a.p a.n a.c, .string b.job, .slice b.p b.n b.c] 37)) w' := by
  subst hG
  have h := ckeys_is W.heap.size 0 2 [a, b] ks er 2 (W.alloc (.cells #[.string a.job, .slice a.p a.n a.c, .string b.job, .slice b.p b.n b.c] 37)) (by simp) rfl ?_ ?_ he hk (by omega)
  · rw [World.size_alloc] at h
    exact h
  · intro i hi
    match i, hi with
    | 0, _ => exact ⟨by simp, by simp, hA.alloc _⟩
    | 1, _ => exact ⟨by simp, by simp, hB.alloc _⟩
  · intro t ht
    simp only [List.mem_cons, List.not_mem_nil, or_false] at ht
    rcases ht with rfl | rfl
    · exact fa
    · exact fb

set_option maxHeartbeats 1600000 in
set_option maxRecDepth 100000 in
theorem ccompare_is (a b : Can.T) (r er : Int) (h : Can.cmp a b = (r, er)) (w : World) (hA : Lab.At a.p a.ls w) (hB : Lab.At b.p b.ls w) (fa : Can.TFit a) (fb : Can.TFit b) :
    Calls Tryz.prog 12 #[.agg #[.string a.job, .slice a.p a.n a.c], .agg #[.string b.job, .slice b.p b.n b.c]] w fun e w' => e = .returned (.tuple #[.int .i64 r, .int .i64 er]) ∧ Below w.heap.size w w' := by
  unfold Can.cmp at h
  obtain ⟨e0, he⟩ : ∃ e0, Can.err [a, b] = e0 := ⟨_, rfl⟩
  rw [he] at h
  have hlx := Can.keyB_len a fa
  obtain ⟨x, hx⟩ : ∃ x, Can.keyB a = x := ⟨_, rfl⟩
  obtain ⟨y, hy⟩ : ∃ y, Can.keyB b = y := ⟨_, rfl⟩
  have hks : Can.keysOf [a, b] = if e0 = 0 then [x, y] else [] := by
    unfold Can.keysOf
    rw [he, ← hx, ← hy]; rfl
  rw [hx] at hlx
  rw [hx, hy] at h
  by_cases h0 : e0 = 0
  · subst h0
    rw [if_pos rfl] at h hks
    have HK := Lib.hid (fun G W hG hA hB => ctwo_keys a b [x, y] 0 fa fb he hks G W hG hA hB)
    simp only [Prod.mk.injEq] at h
    obtain ⟨hr, rfl⟩ := h
    have HS := Lib.hid (fun w => Tryz.strings_Compare x y w)
    have HS2 : Hid (∀ w : World, Calls Tryz.prog 36 #[.string x, .string y] w fun e w' => e = .returned (.int .i64 r) ∧ ∃ n, w' = w.drewN n) := by
      show ∀ w : World, _
      intro w
      refine (HS.out w).mono fun e w' ⟨h1, h2⟩ => ⟨?_, 0, h2⟩
      rw [h1]
      have hr' : Lib.compareBytes x.data.toList y.data.toList = r := hr
      rw [hr']
    clear hr HS
    clear hx hy hks he hlx fa fb
    obtain ⟨aj, ap, an, ac, al⟩ := a
    obtain ⟨bj, bp, bn, bc, bl⟩ := b
    dsimp only at hA hB HK ⊢
    go_enter Tryz.func12, Tryz.ntmps12
    go_wp2_with (go_at_call 33; refine (HK.out _ _ (by simp) ((hA.alloc _).alloc _) ((hB.alloc _).alloc _)).mono ?_)
    first | rintro e w1 v rfl hv hb1 | rintro e w1 ⟨⟨v, rfl, hv⟩, hb1⟩
    rcases hv.open with ⟨_, hno⟩ | ⟨g, cc, rfl, hg, _, _, hcells⟩
    · cases hno
    have d0 := hcells 0 x rfl
    have d1 := hcells 1 y rfl
    rw [show [x, y].length = 2 from rfl]
    have hB1 : Below w.heap.size w w1 := ((((Below.refl _ _).alloc (Nat.le_refl _) _).alloc (by simp) _).alloc (by simp; omega) _).trans (hb1.mono (by omega))
    clear hcells hv hA hB HK
    go_wp2_with fail
    go_quiet ((go_at_call 36; exact Calls.quiet_of (HS2.out _)))
    go_wp2_with fail
    go_ret2
    exact ⟨rfl, below_drewN hB1 _⟩
  · rw [if_neg h0] at h hks
    have HK := Lib.hid (fun G W hG hA hB => ctwo_keys a b [] e0 fa fb he hks G W hG hA hB)
    simp only [Prod.mk.injEq] at h
    obtain ⟨rfl, rfl⟩ := h
    have q1 : (e0 != 0) = true := by simpa using h0
    clear hx hy hks he hlx fa fb h0
    obtain ⟨aj, ap, an, ac, al⟩ := a
    obtain ⟨bj, bp, bn, bc, bl⟩ := b
    dsimp only at hA hB HK ⊢
    go_enter Tryz.func12, Tryz.ntmps12
    go_wp2_with (go_at_call 33; refine (HK.out _ _ (by simp) ((hA.alloc _).alloc _) ((hB.alloc _).alloc _)).mono ?_)
    first | rintro e w1 v rfl hv hb1 | rintro e w1 ⟨⟨v, rfl, hv⟩, hb1⟩
    have hB1 : Below w.heap.size w w1 := ((((Below.refl _ _).alloc (Nat.le_refl _) _).alloc (by simp) _).alloc (by simp; omega) _).trans (hb1.mono (by omega))
    go_wp2_with fail
    go_ret2
    exact ⟨rfl, hB1⟩
end Go.Proofs.YthnaninhbofeoaaGreatDoor
