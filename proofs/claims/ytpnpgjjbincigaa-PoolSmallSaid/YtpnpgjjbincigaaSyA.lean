/- Contract of pool.Sync, first part: up to the range. -/
import Derived.Test.YtpnpgjjbincigaaMrg
import Derived.Test.YtpnpgjjbincigaaPoE
import Derived.Test.YtpnpgjjbincigaaPoB
import Derived.Test.YtpnpgjjbincigaaPoD
namespace Go.Proofs.Ytpnpgjjbincigaa
open Go.RowKit Go.Shelf
set_option linter.unusedVariables false
attribute [local go_sem] Oper.semAt_some

set_option maxHeartbeats 1000000 in
theorem merged_is (p q : Option Addr) (n c m d : Nat) (w : World) : Calls Try.prog 63 #[.slice p n c, .slice q m d] w fun e w' => e = .returned (.func (.func 88) #[] #[.pointer (some ⟨w.heap.size, 0, none⟩), .pointer (some ⟨w.heap.size + 1, 0, none⟩)]) ∧
    w' = (w.alloc (.cells #[.slice p n c] 100)).alloc (.cells #[.slice q m d] 100) := by
  go_enter Try.func63, Try.ntmps63
  go_wp2_with fail
  go_ret
  exact ⟨rfl, rfl⟩
/-- pairs of slots at a place -/
def Po.havAt (b o : Nat) (ss : List Sl) (i : Nat) : Pr := ⟨Sl.kb ss[i]!, some ⟨b, o + i * 5, none⟩, none⟩
def Po.hav (b o : Nat) (ss : List Sl) (k : Nat) : List Pr := (List.range k).map (Po.havAt b o ss)
theorem Po.hav_succ (b o : Nat) (ss : List Sl) (k : Nat) : Po.hav b o ss (k + 1) = Po.hav b o ss k ++ [Po.havAt b o ss k] := by
  unfold Po.hav
  rw [List.range_succ, List.map_append]
  rfl
theorem Po.hav_len (b o : Nat) (ss : List Sl) (k : Nat) : (Po.hav b o ss k).length = k := by simp [Po.hav]
/-- pairs of targets at a place -/
def Po.wanAt (b o : Nat) (ts : List Can.T) (i : Nat) : Pr := ⟨Can.keyB ts[i]!, none, some ⟨b, o + i * 2, none⟩⟩
def Po.wan (b o : Nat) (ts : List Can.T) (k : Nat) : List Pr := (List.range k).map (Po.wanAt b o ts)
theorem Po.wan_succ (b o : Nat) (ts : List Can.T) (k : Nat) : Po.wan b o ts (k + 1) = Po.wan b o ts k ++ [Po.wanAt b o ts k] := by
  unfold Po.wan
  rw [List.range_succ, List.map_append]
  rfl
theorem Po.wan_len (b o : Nat) (ts : List Can.T) (k : Nat) : (Po.wan b o ts k).length = k := by simp [Po.wan]
/-- targets at a place -/
def Po.TgAt (q : Option Addr) (ts : List Can.T) (w : World) : Prop := ts = [] ∨ ∃ b o, q = some ⟨b, o, none⟩ ∧ b < w.heap.size ∧ Can.TAt b o ts w
/-- what a pair shows: its slot, its target -/
def Po.Sees (ss : List Sl) (ts : List Can.T) (w : World) (x : Pr) (y : Option Sl × Option Can.T) : Prop :=
  (match y.1 with
    | none => x.s = none
    | some s => s ∈ ss ∧ Sl.kb s = x.k ∧ ∃ b o, x.s = some ⟨b, o, none⟩ ∧ w.cell? ⟨b, o, none⟩ = some (.string s.t.job) ∧ w.cell? ⟨b, o + 1, none⟩ = some (.slice s.t.p s.t.n s.t.c) ∧ w.cell? ⟨b, o + 2, none⟩ = some (.int .i64 s.ev) ∧ w.cell? ⟨b, o + 3, none⟩ = some (.int .i64 s.ti) ∧ w.cell? ⟨b, o + 4, none⟩ = some (.bool s.en)) ∧
  (match y.2 with
    | none => x.t = none
    | some t => t ∈ ts ∧ Can.keyB t = x.k ∧ ∃ b o, x.t = some ⟨b, o, none⟩ ∧ w.cell? ⟨b, o, none⟩ = some (.string t.job) ∧ w.cell? ⟨b, o + 1, none⟩ = some (.slice t.p t.n t.c))
def Po.outS (ev ti : Int) : Option Sl × Option Can.T → List (ByteArray × List Lab.L × Int × Int × Bool)
  | (none, none) => []
  | (none, some t) => [(t.job, t.ls, ev, ti, false)]
  | (some s, t) => [(s.t.job, s.t.ls, s.ev, s.ti, if s.ev = ev ∧ s.ti = ti ∧ s.en = false ∧ t.isSome then false else true)]
def Po.outM (ev ti : Int) : Option Sl × Option Can.T → List (Int × ByteArray × List Lab.L)
  | (none, none) => []
  | (none, some t) => [(1, t.job, t.ls)]
  | (some s, t) => if s.ev = ev ∧ s.ti = ti ∧ s.en = false ∧ t.isSome then [] else (if s.en then [] else [(2, s.t.job, s.t.ls)]) ++ if t.isSome then [(3, s.t.job, s.t.ls)] else []
/-- what a sync has made when the pairs xs are over -/
def Po.Made (B : Nat) (ss : List Sl) (ts : List Can.T) (w : World) (ev ti : Int) (xs : List Pr) (s2 : List Sl) (m2 : List Mv) : Prop :=
  ∃ ys : List (Option Sl × Option Can.T), xs.length = ys.length ∧ (∀ i (h : i < xs.length) (h' : i < ys.length), Po.Sees ss ts w xs[i] ys[i]) ∧ s2.map Sl.view = ys.flatMap (Po.outS ev ti) ∧ m2.map Mv.view = ys.flatMap (Po.outM ev ti)
/-- what Sync answers where slots and numbers are right -/
def Po.Answer (ss : List Sl) (ts : List Can.T) (ev ti : Int) (w : World) (v1 v2 : Value) (er : Int) (w' : World) : Prop :=
  (Can.err ts ≠ 0 ∧ er = 351 ∧ v1 = .slice none 0 0 ∧ v2 = .slice none 0 0) ∨
  (Can.err ts = 0 ∧ ∃ (b o b' o' : Nat) (Y : List Pr) (s2 : List Sl) (m2 : List Mv), Y.Perm (Po.wan b' o' ts ts.length) ∧ Pr.Up Y ∧ Po.Made w.heap.size ss ts w ev ti (Po.mrg (Po.hav b o ss ss.length) (Pr.comp Y Y.length)) s2 m2 ∧
    ((3000 < s2.length ∧ er = 5 ∧ v1 = .slice none 0 0 ∧ v2 = .slice none 0 0) ∨ (s2.length ≤ 3000 ∧ er = 0 ∧ Po.Rows w.heap.size v1 v2 s2 m2 w')))

theorem Po.TgAt.at {q : Option Addr} {ts : List Can.T} {w : World} (h : Po.TgAt q ts w) (t : Can.T) (ht : t ∈ ts) : Lab.At t.p t.ls w := by
  rcases h with rfl | ⟨b, o, _, _, h⟩
  · cases ht
  · obtain ⟨i, hi, rfl⟩ := List.getElem_of_mem ht
    exact (h i hi).2.2
theorem Po.mrg_mem (x y : List Pr) : ∀ a ∈ Po.mrg x y, (∃ b ∈ x, a = b) ∨ (∃ b ∈ y, a = b) ∨ ∃ b ∈ x, ∃ c ∈ y, b.k = c.k ∧ a = ⟨b.k, b.s, c.t⟩ := by
  fun_induction Po.mrg x y with
  | case1 y => intro a ha; exact .inr (.inl ⟨a, ha, rfl⟩)
  | case2 a x => intro b hb; exact .inl ⟨b, hb, rfl⟩
  | case3 a x b y h ih =>
    intro z hz
    rcases List.mem_cons.1 hz with hz | hz
    · exact .inl ⟨a, by simp, hz⟩
    · rcases ih z hz with ⟨c, hc, e⟩ | ⟨c, hc, e⟩ | ⟨c, hc, d, hd, e⟩
      · exact .inl ⟨c, by simp [hc], e⟩
      · exact .inr (.inl ⟨c, hc, e⟩)
      · exact .inr (.inr ⟨c, by simp [hc], d, hd, e⟩)
  | case4 a x b y h1 h2 ih =>
    intro z hz
    rcases List.mem_cons.1 hz with hz | hz
    · exact .inr (.inl ⟨b, by simp, hz⟩)
    · rcases ih z hz with ⟨c, hc, e⟩ | ⟨c, hc, e⟩ | ⟨c, hc, d, hd, e⟩
      · exact .inl ⟨c, hc, e⟩
      · exact .inr (.inl ⟨c, by simp [hc], e⟩)
      · exact .inr (.inr ⟨c, hc, d, by simp [hd], e⟩)
  | case5 a x b y h1 h2 ih =>
    intro z hz
    have hk : a.k = b.k := by
      have h3 : Lab.bs a.k = Lab.bs b.k := Std.le_antisymm (Std.not_lt.1 h2) (Std.not_lt.1 h1)
      exact ByteArray.ext (Array.toList_inj.1 h3)
    rcases List.mem_cons.1 hz with hz | hz
    · exact .inr (.inr ⟨a, by simp, b, by simp, hk, hz⟩)
    · rcases ih z hz with ⟨c, hc, e⟩ | ⟨c, hc, e⟩ | ⟨c, hc, d, hd, e⟩
      · exact .inl ⟨c, by simp [hc], e⟩
      · exact .inr (.inl ⟨c, by simp [hc], e⟩)
      · exact .inr (.inr ⟨c, by simp [hc], d, by simp [hd], e⟩)
theorem Po.mrg_len (x y : List Pr) : (Po.mrg x y).length ≤ x.length + y.length := by
  fun_induction Po.mrg x y with
  | case1 y => simp
  | case2 a x => simp
  | case3 a x b y h ih => simp only [List.length_cons] at ih ⊢; omega
  | case4 a x b y h1 h2 ih => simp only [List.length_cons] at ih ⊢; omega
  | case5 a x b y h1 h2 ih => simp only [List.length_cons] at ih ⊢; omega
theorem Pr.comp_mem (l : List Pr) : ∀ i, ∀ a ∈ Pr.comp l i, a ∈ l
  | 0, a, h => by cases h
  | i + 1, a, h => by
    unfold Pr.comp at h
    rcases List.mem_append.1 h with h | h
    · exact Pr.comp_mem l i a h
    · split at h
      · cases hx : l[i]? with
        | none => rw [hx] at h; cases h
        | some y =>
          rw [hx] at h
          simp at h
          subst h
          exact List.mem_of_getElem? hx
      · cases h
theorem Po.rowIn_of {B n c : Nat} {p : Option Addr} {l : List Pr} {w : World} (h : OwnR prR B (.slice p n c) l w) (h0 : 0 < w.heap.size) : ∃ g, g < w.heap.size ∧ Po.RowIn g p l w := by
  have hl := h.lies prOk
  rcases h.2 with ⟨e, h1⟩ | ⟨g, cap, cur, hv, hg, hh, _⟩
  · exact ⟨0, h0, .inl (List.length_eq_zero_iff.1 h1)⟩
  · simp only [Value.slice.injEq] at hv
    refine ⟨g, lt_of_heap hh, ?_⟩
    rcases hl with hl | ⟨b, o, hp, hc⟩
    · exact .inl hl
    · rw [hv.1] at hp
      simp only [Option.some.injEq, Addr.mk.injEq, and_true] at hp
      obtain ⟨rfl, rfl⟩ := hp
      refine .inr ⟨0, cur, hv.1, hh, fun i hi => ?_⟩
      have c0 := hc i hi 0 (by decide)
      have c1 := hc i hi 1 (by decide)
      have c2 := hc i hi 2 (by decide)
      rw [Lib.cell_of_heap hh] at c0 c1 c2
      exact ⟨c0, c1, c2⟩
theorem Po.RowIn.below {g N : Nat} {p : Option Addr} {l : List Pr} {w w' : World} (h : Po.RowIn g p l w) (hb : Below N w w') (hg : g < N) : Po.RowIn g p l w' := h.kept fun _ _ e => (hb.block g hg).trans e
/-- what stands while a sync goes over its pairs -/
def Po.I (N : Nat) (ss : List Sl) (ts : List Can.T) (w w5 : World) (ev ti : Int) (pre : List Pr) (W : World) : Prop :=
  (∃ s2 m2, Po.Made w.heap.size ss ts w ev ti pre s2 m2 ∧ Po.M N N s2 m2 W) ∧ (∃ cur, W.heap[N + 1]? = some (.cells cur 100)) ∧ (∃ cur, W.heap[N + 1 + 1]? = some (.cells cur 100)) ∧ Below N w5 W
theorem Po.I.own {N B : Nat} {ss : List Sl} {ts : List Can.T} {w w5 : World} {ev ti : Int} (hN : N = w5.heap.size) (hB : N ≤ B) : OwnFrom B (Po.I N ss ts w w5 ev ti) := by
  rintro pre A C row ⟨⟨s2, m2, h1, h2⟩, ⟨c1, h3⟩, ⟨c2, h4⟩, h5⟩ hg hr
  have kk : ∀ (k : Nat) (cur : Array Value) (T : TypeId) (fr : Nat × Nat), A.heap[k]? = some (.cells cur T fr) → C.heap[k]? = some (.cells cur T fr) := fun k cur T fr e =>
    (hg.block k (Array.getElem?_eq_some_iff.1 e).1 (fun e2 => by
      obtain ⟨_, o, ho, hc⟩ := hr k e2.symm
      rw [e] at ho
      simp only [Option.some.injEq] at ho
      subst ho
      cases hc)).trans e
  exact ⟨⟨s2, m2, h1, h2.kept fun k cur T fr e _ => kk k cur T fr e⟩, ⟨c1, kk _ _ _ _ h3⟩, ⟨c2, kk _ _ _ _ h4⟩, h5.grown hg (by rw [hN]; exact h5.size) (fun r e => Nat.le_trans hB (hr r e).1)⟩
theorem Po.I.box {N : Nat} {ss : List Sl} {ts : List Can.T} {w w5 : World} {ev ti : Int} (hN : N = w5.heap.size) (pre : List Pr) (A C : World) (row : Option Nat) (h : Po.I N ss ts w w5 ev ti pre A) (hg : A.grownBy C row)
    (hr : ∀ r, row = some r → (r = N + 1 ∨ r = N + 1 + 1) ∧ ∃ cur, C.heap[r]? = some (.cells cur 100)) : Po.I N ss ts w w5 ev ti pre C := by
  obtain ⟨⟨s2, m2, h1, h2⟩, ⟨c1, h3⟩, ⟨c2, h4⟩, h5⟩ := h
  have kb : ∀ (k : Nat) (cur : Array Value), (k = N + 1 ∨ k = N + 1 + 1) → A.heap[k]? = some (.cells cur 100) → ∃ cur, C.heap[k]? = some (.cells cur 100) := fun k cur _ e => by
    by_cases e2 : row = some k
    · exact (hr k e2).2
    · exact ⟨cur, (hg.block k (Array.getElem?_eq_some_iff.1 e).1 (fun e3 => e2 e3.symm)).trans e⟩
  refine ⟨⟨s2, m2, h1, h2.kept fun k cur T fr e hT => (hg.block k (Array.getElem?_eq_some_iff.1 e).1 (fun e2 => ?_)).trans e⟩, kb _ _ (.inl rfl) h3, kb _ _ (.inr rfl) h4, h5.grown hg (by rw [hN]; exact h5.size) (fun r e => by rcases (hr r e).1 with h | h <;> omega)⟩
  have hk := (hr k e2.symm).1
  have hT2 : T = 100 := by
    rcases hk with hk | hk
    · subst hk; rw [h3] at e; simp only [Option.some.injEq, Obj.cells.injEq] at e; exact e.2.1.symm
    · subst hk; rw [h4] at e; simp only [Option.some.injEq, Obj.cells.injEq] at e; exact e.2.1.symm
  subst hT2
  revert hT
  decide
/-- what a pair of slots and targets shows -/
theorem Po.sees {b o b' o' : Nat} {p q : Option Addr} {ss : List Sl} {ts : List Can.T} {w : World} (hA : Po.At p ss w) (hT : Po.TgAt q ts w) (hp : 0 < ss.length → p = some ⟨b, o, none⟩) (hq : 0 < ts.length → q = some ⟨b', o', none⟩)
    {Y : List Pr} (hY : Y.Perm (Po.wan b' o' ts ts.length)) : ∀ x ∈ Po.mrg (Po.hav b o ss ss.length) (Pr.comp Y Y.length), ∃ y, Po.Sees ss ts w x y ∧ ¬ (y.1 = none ∧ y.2 = none) := by
  have hs : ∀ x ∈ Po.hav b o ss ss.length, x.t = none ∧ ∃ s ∈ ss, Sl.kb s = x.k ∧ ∃ b o, x.s = some ⟨b, o, none⟩ ∧ w.cell? ⟨b, o, none⟩ = some (.string s.t.job) ∧ w.cell? ⟨b, o + 1, none⟩ = some (.slice s.t.p s.t.n s.t.c) ∧ w.cell? ⟨b, o + 2, none⟩ = some (.int .i64 s.ev) ∧ w.cell? ⟨b, o + 3, none⟩ = some (.int .i64 s.ti) ∧ w.cell? ⟨b, o + 4, none⟩ = some (.bool s.en) := by
    intro x hx
    unfold Po.hav at hx
    obtain ⟨i, hi, rfl⟩ := List.mem_map.1 hx
    have hi := List.mem_range.1 hi
    obtain ⟨b1, o1, e1, hc⟩ := hA.cells (by omega)
    have e2 := hp (by omega)
    rw [e2] at e1
    simp only [Option.some.injEq, Addr.mk.injEq, and_true] at e1
    obtain ⟨rfl, rfl⟩ := e1
    have hg : ss[i]! = ss[i] := getElem!_pos ss i hi
    refine ⟨rfl, ss[i], List.getElem_mem _, by unfold Po.havAt; rw [hg], b, o + i * 5, rfl, hc i hi⟩
  have ht : ∀ x ∈ Pr.comp Y Y.length, x.s = none ∧ ∃ t ∈ ts, Can.keyB t = x.k ∧ ∃ b o, x.t = some ⟨b, o, none⟩ ∧ w.cell? ⟨b, o, none⟩ = some (.string t.job) ∧ w.cell? ⟨b, o + 1, none⟩ = some (.slice t.p t.n t.c) := by
    intro x hx
    have hx := hY.mem_iff.1 (Pr.comp_mem Y _ x hx)
    unfold Po.wan at hx
    obtain ⟨i, hi, rfl⟩ := List.mem_map.1 hx
    have hi := List.mem_range.1 hi
    rcases hT with h0 | ⟨b1, o1, e1, _, hc⟩
    · rw [h0] at hi; cases hi
    have e2 := hq (by omega)
    rw [e2] at e1
    simp only [Option.some.injEq, Addr.mk.injEq, and_true] at e1
    obtain ⟨rfl, rfl⟩ := e1
    have hg : ts[i]! = ts[i] := getElem!_pos ts i hi
    refine ⟨rfl, ts[i], List.getElem_mem _, by unfold Po.wanAt; rw [hg], b', o' + i * 2, rfl, (hc i hi).1, (hc i hi).2.1⟩
  intro x hx
  rcases Po.mrg_mem _ _ x hx with ⟨z, hz, rfl⟩ | ⟨z, hz, rfl⟩ | ⟨z, hz, u, hu, hk, rfl⟩
  · obtain ⟨h1, s, h2, h3⟩ := hs x hz
    exact ⟨(some s, none), ⟨⟨h2, h3⟩, h1⟩, by simp⟩
  · obtain ⟨h1, t, h2, h3⟩ := ht x hz
    exact ⟨(none, some t), ⟨h1, ⟨h2, h3⟩⟩, by simp⟩
  · obtain ⟨_, s, h2, h3, h4⟩ := hs z hz
    obtain ⟨_, t, h5, h6, h7⟩ := ht u hu
    exact ⟨(some s, some t), ⟨⟨h2, h3, h4⟩, ⟨h5, h6.trans hk.symm, h7⟩⟩, by simp⟩

theorem Po.other_pairs (cur : Array Value) : Po.other (.cells cur 100) := fun c T e => by
  simp only [Obj.cells.injEq] at e
  rw [← e.2.1]
  decide
/-- a round more -/
theorem Po.step {N B gs gt : Nat} {ss : List Sl} {ts : List Can.T} {w w5 W w9 : World} {ev ti : Int} {pre : List Pr} {x : Pr} {y : Option Sl × Option Can.T} {s3 s5 : List Sl} {m3 m5 : List Mv} {cu1 cu2 : Array Value}
    (hMd : Po.Made w.heap.size ss ts w ev ti pre s3 m3) (hS : Po.Sees ss ts w x y) (hx1 : W.heap[N + 1]? = some (.cells cu1 100)) (hx2 : W.heap[N + 1 + 1]? = some (.cells cu2 100)) (hb5 : Below N w5 W) (hgs : gs < N) (hgt : gt < N)
    (hM : Po.M N N (s3 ++ s5) (m3 ++ m5) w9) (hs : s5.map Sl.view = Po.outS ev ti y) (hm : m5.map Mv.view = Po.outM ev ti y) (hb : Below N W w9) (hk : Po.Keeps W w9) :
    KeepsFrom B W w9 ∧ Po.Kp (N + 1) (N + 1 + 1) gs gt W w9 ∧ Po.I N ss ts w w5 ev ti (pre ++ [x]) w9 := by
  refine ⟨⟨hb.size, fun k o _ h hc => hk k o h (fun cur T e => by subst e; cases hc)⟩, ?_, ⟨s3 ++ s5, m3 ++ m5, ?_, hM⟩, ⟨_, hk _ _ hx1 (Po.other_pairs _)⟩, ⟨_, hk _ _ hx2 (Po.other_pairs _)⟩, hb5.trans hb⟩
  · rintro b (rfl | rfl | rfl | rfl) cur T e
    · rw [hx1] at e
      rw [← e]
      exact hk _ _ hx1 (Po.other_pairs _)
    · rw [hx2] at e
      rw [← e]
      exact hk _ _ hx2 (Po.other_pairs _)
    · exact (hb.block _ hgs).trans e
    · exact (hb.block _ hgt).trans e
  · obtain ⟨ys, h1, h2, h3, h4⟩ := hMd
    refine ⟨ys ++ [y], by simp [h1], fun i h h' => ?_, ?_, ?_⟩
    · by_cases hi : i < pre.length
      · rw [List.getElem_append_left hi, List.getElem_append_left (by omega)]
        exact h2 i hi (by omega)
      · have e1 : i = pre.length := by simp at h; omega
        subst e1
        rw [List.getElem_append_right (Nat.le_refl _), List.getElem_append_right (by omega)]
        simp only [h1, Nat.sub_self, List.getElem_cons_zero]
        exact hS
    · rw [List.map_append, h3, hs, List.flatMap_append]
      simp
    · rw [List.map_append, h4, hm, List.flatMap_append]
      simp
theorem Po.outS_other {ev ti : Int} {s : Sl} {t : Option Can.T} (h : ¬ (s.ev = ev ∧ s.ti = ti ∧ s.en = false ∧ t.isSome = true)) : Po.outS ev ti (some s, t) = [(s.t.job, s.t.ls, s.ev, s.ti, true)] := by
  show [(s.t.job, s.t.ls, s.ev, s.ti, if _ then false else true)] = _
  rw [if_neg h]
theorem Po.outM_other {ev ti : Int} {s : Sl} {t : Option Can.T} (h : ¬ (s.ev = ev ∧ s.ti = ti ∧ s.en = false ∧ t.isSome = true)) : Po.outM ev ti (some s, t) = (if s.en then [] else [(2, s.t.job, s.t.ls)]) ++ if t.isSome then [(3, s.t.job, s.t.ls)] else [] := if_neg h
theorem Po.outS_len (ev ti : Int) (y : Option Sl × Option Can.T) : (Po.outS ev ti y).length ≤ 1 := by
  rcases y with ⟨_ | s, _ | t⟩ <;> simp [Po.outS]
theorem Po.outM_len (ev ti : Int) (y : Option Sl × Option Can.T) : (Po.outM ev ti y).length ≤ 2 := by
  rcases y with ⟨_ | s, _ | t⟩ <;> simp [Po.outM] <;> (repeat' split) <;> simp
theorem Po.Made.len {B : Nat} {ss : List Sl} {ts : List Can.T} {w : World} {ev ti : Int} {pre : List Pr} {s3 : List Sl} {m3 : List Mv} (h : Po.Made B ss ts w ev ti pre s3 m3) : s3.length ≤ pre.length ∧ m3.length ≤ 2 * pre.length := by
  obtain ⟨ys, h1, _, h3, h4⟩ := h
  have e1 := congrArg List.length h3
  have e2 := congrArg List.length h4
  rw [List.length_map] at e1 e2
  have a1 : ∀ l : List (Option Sl × Option Can.T), (l.flatMap (Po.outS ev ti)).length ≤ l.length := fun l => by
    induction l with
    | nil => simp
    | cons y l ih => rw [List.flatMap_cons, List.length_append, List.length_cons]; have := Po.outS_len ev ti y; omega
  have a2 : ∀ l : List (Option Sl × Option Can.T), (l.flatMap (Po.outM ev ti)).length ≤ 2 * l.length := fun l => by
    induction l with
    | nil => simp
    | cons y l ih => rw [List.flatMap_cons, List.length_append, List.length_cons]; have := Po.outM_len ev ti y; omega
  have := a1 ys
  have := a2 ys
  omega

set_option maxHeartbeats 6400000 in
set_option maxRecDepth 100000 in
theorem sync_main (p q : Option Addr) (ss : List Sl) (ts : List Can.T) (n c m d : Nat) (ev ti : Int) (hr : Po.right ss = true) (hnum : Po.num ev ti = true) (w : World) (hn : ss.length = n) (hm : ts.length = m) (hA : Po.At p ss w) (hT : Po.TgAt q ts w)
    (hF : ∀ s ∈ ss, Can.TAny s.t) (hG : ∀ t ∈ ts, Can.TAny t) (hl : n ≤ 100000) (hml : m ≤ 100000) (hLs : ∀ s ∈ ss, s.t.n ≤ 100000) (hLt : Can.err ts = 0 → ∀ t ∈ ts, t.n ≤ 100000) :
    Calls Try.prog 25 #[.slice p n c, .slice q m d, .int .i64 ev, .int .i64 ti] w fun e w' =>
      (∃ v1 v2 er, e = .returned (.tuple #[v1, v2, .int .i64 er]) ∧ Po.Answer ss ts ev ti w v1 v2 er w') ∧ Below w.heap.size w w' := by
  have HK := Lib.hid (fun w hA => pkeys_is p ss n c true hr w hn hA hF (by omega))
  have HN := Lib.hid hn
  have HM := Lib.hid hm
  have HA := Lib.hid hA
  have HT := Lib.hid hT
  have HF := Lib.hid hF
  have HG := Lib.hid hG
  have HL1 := Lib.hid hLs
  have HL2 := Lib.hid hLt
  have HR := Lib.hid (fun w => planR_is ev ti false true hnum w)
  clear hn hm hA hT hF hG hr hnum hLs hLt
  refine (callsIn_wide (n := 6)).1 ?_
  refine callsIn_of_wp_marks Try.func25 rfl trivial ?_ rfl
  simp only [Try.ntmps25, List.size_toArray, List.length_cons, List.length_nil, Nat.reduceAdd, Nat.reduceSub, Array.replicate_succ, Array.replicate_zero, List.push_toArray, List.append_toArray, List.nil_append, List.cons_append]
  refine (wpIn_wide (n := 6)).2 ?_
  have hb0 : Below w.heap.size w ((w.alloc (.cells #[.int .i64 ev] 3)).alloc (.cells #[.int .i64 ti] 3)) := ((Below.refl _ w).alloc (Nat.le_refl _) _).alloc (by simp) _
  go_wp2_with (go_at_call 54; refine (HK.out _ (HA.out.below hb0 (Nat.le_refl _))).mono ?_)
  first | rintro e w1 v1 rfl hO hb1 | rintro e w1 ⟨⟨v1, rfl, hO⟩, hb1⟩
  have HW1 : Hid (∃ (pk : Option Addr) (ck : Nat), v1 = .slice pk n ck ∧ n ≤ ck ∧ ∀ (j : Nat) x, (ss.map Sl.kb)[j]? = some x → ∃ g, pk = some ⟨g, 0, none⟩ ∧ g < w1.heap.size ∧ w1.cell? ⟨g, j, none⟩ = some (.string x)) := by
    have hlen : (ss.map Sl.kb).length = n := by rw [List.length_map]; exact HN.out
    rcases (show OwnTexts _ v1 (ss.map Sl.kb) w1 by first | exact hO rfl | exact hO).open with ⟨h1, h2⟩ | ⟨g, c1, h1, h2, h3, h4, h5⟩
    · rw [h2] at hlen
      refine ⟨none, 0, by rw [h1, ← hlen]; rfl, by rw [← hlen]; exact Nat.le_refl _, fun j x hj => ?_⟩
      rw [h2] at hj
      cases hj
    · exact ⟨_, c1, by rw [h1, hlen], by omega, fun j x hj => ⟨g, rfl, h2, h5 j x hj⟩⟩
  clear hO
  have hB1 : Below w.heap.size w w1 := hb0.trans (hb1.mono (by omega))
  have k6 : w1.heap[w.heap.size]? = some (.cells #[.int .i64 ev] 3) := below_kept hb1 (alloc_kept (alloc_new _ _)) (by omega)
  have k7 : w1.heap[w.heap.size + 1]? = some (.cells #[.int .i64 ti] 3) := below_kept hb1 (by simpa using alloc_new (w.alloc (.cells #[.int .i64 ev] 3)) (.cells #[.int .i64 ti] 3)) (by omega)
  have c6 : w1.cell? ⟨w.heap.size, 0, none⟩ = some (.int .i64 ev) := by rw [Lib.cell_of_heap k6]; rfl
  have c7 : w1.cell? ⟨w.heap.size + 1, 0, none⟩ = some (.int .i64 ti) := by rw [Lib.cell_of_heap k7]; rfl
  have K6 := Lib.hid k6
  have K7 := Lib.hid k7
  have hs1 : w.heap.size + 2 ≤ w1.heap.size := by have := hb1.size; simp at this; omega
  clear k6 k7 hb0 hb1
  obtain ⟨pk, ck, rfl, hck, hkc⟩ := HW1.out
  have HKC := Lib.hid hkc
  clear hkc HW1
  go_wp2_with (go_at_call 56; refine (HR.out _).mono ?_)
  first | rintro e w2 rfl hb2 | rintro e w2 ⟨rfl, hb2⟩
  have hz1 : w.heap.size ≤ w1.heap.size := by omega
  have hb3 : Below w.heap.size w w2 := (hB1.alloc hz1 _).trans (hb2.mono (by first | omega | (simp; omega)))
  have K62 := Lib.hid (below_kept hb2 (alloc_kept K6.out) (by first | omega | (simp; omega)))
  have K72 := Lib.hid (below_kept hb2 (alloc_kept K7.out) (by first | omega | (simp; omega)))
  have K13 := Lib.hid (below_kept hb2 (alloc_new w1 _) (by first | omega | simp))
  have HKC2 : Hid (∀ (j : Nat) x, (ss.map Sl.kb)[j]? = some x → ∃ g, pk = some ⟨g, 0, none⟩ ∧ g < w2.heap.size ∧ w2.cell? ⟨g, j, none⟩ = some (.string x)) := by
    intro j x hj
    obtain ⟨g, h1, h2, h3⟩ := HKC.out j x hj
    have hsz := hb2.size
    exact ⟨g, h1, by simp at hsz; omega, (hb2.cell (p := ⟨g, j, none⟩) (by simp; omega)).trans (Lib.cell?_alloc_some _ h3)⟩
  have hs2 : w1.heap.size < w2.heap.size := by have := hb2.size; simp at this; omega
  obtain ⟨b, o, hbo⟩ : ∃ b o, 0 < ss.length → p = some ⟨b, o, none⟩ := by
    by_cases h0 : 0 < ss.length
    · obtain ⟨b, o, h1, _⟩ := HA.out.cells h0
      exact ⟨b, o, fun _ => h1⟩
    · exact ⟨0, 0, fun h => absurd h h0⟩
  have HBO := Lib.hid hbo
  have HB3 := Lib.hid hb3
  clear hbo hb3 hb2 hB1 K6 K7 HKC c6 c7
  go_wp2_with fail
  go_loopw [14, 43] (fun v i wr => ∃ k : Nat, k ≤ n ∧ i = .int .i64 k ∧ Hid (OwnR prR w2.heap.size v (Po.hav b o ss k) wr) ∧ Hid (Below w2.heap.size w2 wr)) (fun _ i _ => n - (intOf i).toNat)
  case atStart => exact ⟨0, Nat.zero_le _, rfl, OwnR.nil _ _ _, Below.refl _ _⟩
  case round =>
    obtain ⟨wj, rfl⟩ : ∃ wo : World, wo = wr := ⟨_, rfl⟩
    obtain ⟨k, hk, rfl, HO, HB⟩ := hrel
    obtain ⟨pv, cv, hv, hcv1, hcv2, _⟩ := HO.out.shape
    rw [Po.hav_len] at hcv1 hv
    subst hv
    by_cases hlt : k < n
    · have hk1 : k < ss.length := by rw [HN.out]; exact hlt
      have hp := HBO.out (by omega)
      subst hp
      have m1 : (0 : Int) ≤ (k : Int) := by omega
      have m2 : (k : Int) < (n : Int) := by omega
      obtain ⟨g, rfl, hg2, hgc⟩ := HKC2.out k (Sl.kb ss[k]) (by rw [List.getElem?_map, List.getElem?_eq_getElem hk1]; rfl)
      have d0 := (HB.out.cell (p := ⟨g, k, none⟩) hg2).trans hgc
      obtain ⟨y, hy⟩ : ∃ y, Sl.kb ss[k] = y := ⟨_, rfl⟩
      rw [hy] at d0
      have HY : Hid (Po.havAt b o ss k = ⟨y, some ⟨b, o + k * 5, none⟩, none⟩) := by
        show _ = _
        unfold Po.havAt
        rw [getElem!_pos ss k hk1, hy]
      clear hgc hy
      go_wp2_with (at_builtin; refine wpList_pushRec prOk 100 Try.underlying100 rfl _ _ rfl _ _ _ _ rfl HO.out ⟨y, some ⟨b, o + k * 5, none⟩, none⟩ _ _ rfl _ rfl rfl ?c1 ?c2 ?_)
      case c1 => rw [Po.hav_len]; omega
      case c2 => exact HB.out.size
      intro v' w4 hown' hg
      have hb4 := (HB.out.alloc HB.out.size _).grown hg (by simp; exact Nat.le_succ_of_le HB.out.size) (fun j hj => (World.ownsRow.lt HO.out j hj).1)
      go_wp2_with fail
      go_roundw
      case rel => exact ⟨k + 1, by omega, by go_num, (by show OwnR _ _ _ _ _; rw [Po.hav_succ, HY.out]; exact hown'), hb4⟩
      case measure => simp [intOf]; omega
    · obtain rfl : k = n := by omega
      go_wp2_with fail
      have HX := Lib.hid HO.out
      obtain ⟨X, hX⟩ : ∃ X, Po.hav b o ss k = X := ⟨_, rfl⟩
      have HXL : Hid (X.length = k) := by show _ = _; rw [← hX, Po.hav_len]
      rw [hX] at HX
      have HXE := Lib.hid hX
      clear hX HO HK
      obtain ⟨b', o', hbo'⟩ : ∃ b o, 0 < ts.length → q = some ⟨b, o, none⟩ := by
        rcases HT.out with h0 | ⟨b', o', h1, _⟩
        · exact ⟨0, 0, fun h => by rw [h0] at h; cases h⟩
        · exact ⟨b', o', fun _ => h1⟩
      have HBO' := Lib.hid hbo'
      clear hbo'
      go_loopw [15, 59] (fun v i wr => ∃ j : Nat, j ≤ m ∧ i = .int .i64 j ∧ Hid (Can.err (ts.drop j) = Can.err ts) ∧ Hid (OwnR prR wj.heap.size v (Po.wan b' o' ts j) wr) ∧ Hid (Below wj.heap.size wj wr)) (fun _ i _ => m - (intOf i).toNat)
      case atStart => exact ⟨0, Nat.zero_le _, rfl, rfl, OwnR.nil _ _ _, Below.refl _ _⟩
      case round =>
        obtain ⟨wl, rfl⟩ : ∃ wo : World, wo = wr := ⟨_, rfl⟩
        obtain ⟨j, hj, rfl, HE, HO, HB2⟩ := hrel
        obtain ⟨pw, cw, hw, hcw1, hcw2, _⟩ := HO.out.shape
        rw [Po.wan_len] at hcw1 hw
        subst hw
        by_cases hlt2 : j < m
        · have hj1 : j < ts.length := by rw [HM.out]; exact hlt2
          have hq := HBO'.out (by omega)
          subst hq
          have m3 : (0 : Int) ≤ (j : Int) := by omega
          have m4 : (j : Int) < (m : Int) := by omega
          obtain ⟨t, ht⟩ : ∃ t, ts[j] = t := ⟨_, rfl⟩
          have hbj : Below w.heap.size w wj := HB3.out.trans (HB.out.mono (by have := HB3.out.size; omega))
          have hbl : Below w.heap.size w wl := hbj.trans (HB2.out.mono hbj.size)
          obtain ⟨h0, h1, h2⟩ : w.cell? ⟨b', o' + j * 2, none⟩ = some (.string ts[j].job) ∧ w.cell? ⟨b', o' + j * 2 + 1, none⟩ = some (.slice ts[j].p ts[j].n ts[j].c) ∧ Lab.At ts[j].p ts[j].ls w := by
            rcases HT.out with h0 | ⟨x, y, h1, hlt, h2⟩
            · rw [h0] at hj1; cases hj1
            · simp only [Option.some.injEq, Addr.mk.injEq, and_true] at h1
              obtain ⟨rfl, rfl⟩ := h1
              exact h2 j hj1
          have hbw : b' < w.heap.size := World.block_lt_of_cell? _ _ h0
          rw [ht] at h0 h1 h2
          have d0 := (hbl.cell (p := ⟨b', o' + j * 2, none⟩) hbw).trans h0
          have d1 := (hbl.cell (p := ⟨b', o' + j * 2 + 1, none⟩) hbw).trans h1
          have hAl := h2.below hbl (Nat.le_refl _)
          obtain ⟨f1, f2, f3, f4, f5⟩ := HG.out ts[j] (List.getElem_mem _)
          rw [ht] at f1 f2 f3 f4 f5
          obtain ⟨⟨kk, e0⟩, hq⟩ : ∃ x, Can.key (Lab.bs t.job) t.ls = x := ⟨_, rfl⟩
          have HC := Lib.hid (fun w hA => ckeyG_is t.job t.p t.ls t.n t.c kk e0 hq w f2 hA f3 f5 f1)
          have hkb : Can.keyB t = ⟨kk.toArray⟩ := by unfold Can.keyB; rw [hq]
          have hke : Can.keyE t = e0 := by unfold Can.keyE; rw [hq]
          obtain ⟨y, hy⟩ : ∃ y, ByteArray.mk kk.toArray = y := ⟨_, rfl⟩
          rw [hy] at HC hkb
          have HY : Hid (Po.wanAt b' o' ts j = ⟨y, none, some ⟨b', o' + j * 2, none⟩⟩) := by
            show _ = _
            unfold Po.wanAt
            rw [getElem!_pos ts j hj1, ht, hkb]
          have hst : (if e0 = 0 then Can.err (ts.drop (j + 1)) else e0) = Can.err ts := by
            have h3 := HE.out
            rw [List.drop_eq_getElem_cons hj1, ht] at h3
            have : Can.err (t :: ts.drop (j + 1)) = if Can.keyE t = 0 then Can.err (ts.drop (j + 1)) else Can.keyE t := rfl
            rw [this, hke] at h3
            exact h3
          have HAL := Lib.hid hAl
          have hwl : w.heap.size ≤ wl.heap.size := hbl.size
          have hjl : wj.heap.size ≤ wl.heap.size := HB2.out.size
          obtain ⟨tj, tp, tn, tc, tl⟩ := t
          dsimp only at d0 d1 HC HAL
          clear ht h0 h1 h2 f1 f2 f3 f4 f5 hq hkb hke hy hAl hbj
          by_cases h00 : e0 = 0
          · subst h00
            rw [if_pos rfl] at hst
            have HS := Lib.hid hst
            clear hst
            go_wp2_with (go_at_call 57; refine (HC.out _ (HAL.out.alloc _)).mono ?_)
            first | rintro e w2 rfl hb2 | rintro e w2 ⟨rfl, hb2⟩
            have hb5 : Below wj.heap.size wj w2 := (HB2.out.alloc hjl _).trans (hb2.mono (by first | omega | (simp; omega)))
            have hown2 := (HO.out.alloc (.cells #[.string tj, .slice tp tn tc] 29)).below hb2 (by first | omega | (simp; done) | (simp; omega))
            go_wp2_with (at_builtin; refine wpList_pushRec prOk 100 Try.underlying100 rfl _ _ rfl _ _ _ _ rfl hown2 ⟨y, none, some ⟨b', o' + j * 2, none⟩⟩ _ _ rfl _ rfl rfl ?c3 ?c4 ?_)
            case c3 => rw [Po.wan_len]; omega
            case c4 => exact hb5.size
            intro v' w4 hown' hg
            have hb6 := (hb5.alloc hb5.size _).grown hg (by simp; exact Nat.le_succ_of_le hb5.size) (fun j hj => (World.ownsRow.lt hown2 j hj).1)
            go_wp2_with fail
            go_roundw
            case rel => exact ⟨j + 1, by omega, by go_num, HS.out, (by show OwnR _ _ _ _ _; rw [Po.wan_succ, HY.out]; exact hown'), hb6⟩
            case measure => simp [intOf]; omega
          · rw [if_neg h00] at hst
            have HS : Hid (Can.err ts ≠ 0) := by show _ ≠ _; rw [← hst]; exact h00
            have q1 : (e0 != 0) = true := by simpa using h00
            clear hst
            go_wp2_with (go_at_call 57; refine (HC.out _ (HAL.out.alloc _)).mono ?_)
            first | rintro e w2 rfl hb2 | rintro e w2 ⟨rfl, hb2⟩
            have hb5 : Below w.heap.size w w2 := (hbl.alloc hwl _).trans (hb2.mono (by first | omega | (simp; omega)))
            go_wp2_with fail
            refine ⟨_, results_tmp3 rfl _ _ _, ?_⟩
            exact ⟨⟨_, _, _, rfl, .inl ⟨HS.out, rfl, rfl, rfl⟩⟩, hb5⟩
        · obtain rfl : j = m := by omega
          have HE0 : Hid (Can.err ts = 0) := by
            show _ = _
            rw [← HE.out, List.drop_of_length_le (by rw [HM.out]; exact Nat.le_refl _)]
            rfl
          have hjl : wj.heap.size ≤ wl.heap.size := HB2.out.size
          have HSO := Lib.hid (sortPr_is wj.heap.size _ _ wl HO.out hjl (by rw [Po.wan_len]; omega))
          go_wp2_with (go_at_call 58; refine HSO.out.mono ?_)
          first | rintro e w3 rfl Y ⟨hP, hU⟩ hOY hb3 | rintro e w3 ⟨rfl, Y, ⟨hP, hU⟩, hOY, hb3⟩ | rintro e w3 rfl Y hP hU hOY hb3
          have hYL : Y.length = j := by rw [hP.length_eq, Po.wan_len]
          have HP := Lib.hid hP
          have HU := Lib.hid hU
          have h33 : wj.heap.size ≤ w3.heap.size := by have := hb3.size; omega
          have HCO := Lib.hid (compact_is wj.heap.size _ _ w3 hOY h33 (by omega))
          clear HSO hP hU
          go_wp2_with (go_at_call 61; refine HCO.out.mono ?_)
          first | rintro e w5 u rfl hOZ hb5 | rintro e w5 ⟨⟨u, rfl, hOZ⟩, hb5⟩
          obtain ⟨Z, hZ⟩ : ∃ Z, Pr.comp Y Y.length = Z := ⟨_, rfl⟩
          have hZL : Z.length ≤ 100000 := by rw [← hZ]; exact Nat.le_trans (Pr.comp_len Y _) (by omega)
          rw [hZ] at hOZ
          have HZ := Lib.hid hZ
          obtain ⟨pz, cz, rfl, hcz1, hcz2, _⟩ := hOZ.shape
          have HOZ := Lib.hid hOZ
          have h35 : wj.heap.size ≤ w5.heap.size := by have := hb5.size; omega
          have hbX : Below wj.heap.size wj w5 := HB2.out.trans ((hb3.mono (by omega)).trans (hb5.mono (by omega)))
          have HBX := Lib.hid hbX
          have HXO : Hid (OwnR prR w2.heap.size (.slice pv k cv) X w5) := HX.out.below hbX (Nat.le_refl _)
          clear hZ hOZ hb5 hb3 hOY hbX HCO
          go_wp2_with (go_at_call 63; refine (merged_is pv pz k cv Z.length cz _).mono ?_)
          first | rintro e w6 rfl rfl | rintro e w6 ⟨rfl, rfl⟩ | skip
          go_wp2_with fail
          skip
          obtain ⟨N, hN⟩ : ∃ N, N = w5.heap.size := ⟨_, rfl⟩
          obtain ⟨V, hV⟩ : ∃ V, V = (((w5.alloc (.cells #[.slice none 0 0, .slice none 0 0] 88)).alloc (.cells #[.slice pv k cv] 100)).alloc (.cells #[.slice pz Z.length cz] 100)) := ⟨_, rfl⟩
          have z6 : V.heap.size = N + 3 := by rw [hV, hN]; simp
          have hb5V : Below N w5 V := by rw [hV, hN]; exact (((Below.refl _ _).alloc (Nat.le_refl _) _).alloc (by simp) _).alloc (by simp; omega) _
          have v0 : Po.M N N [] [] V := by
            rw [hV, hN]
            refine (Po.M.new (Nat.le_refl _)).kept fun i cur T fr h _ => ?_
            exact alloc_kept (alloc_kept h)
          have v1 : V.heap[N + 1]? = some (.cells #[.slice pv k cv] 100) := by
            rw [hV, hN]
            refine alloc_kept ?_
            have := alloc_new (w5.alloc (.cells #[.slice none 0 0, .slice none 0 0] 88)) (.cells #[.slice pv k cv] 100)
            rwa [World.size_alloc] at this
          have v2 : V.heap[N + 2]? = some (.cells #[.slice pz Z.length cz] 100) := by
            rw [hV, hN]
            have := alloc_new ((w5.alloc (.cells #[.slice none 0 0, .slice none 0 0] 88)).alloc (.cells #[.slice pv k cv] 100)) (.cells #[.slice pz Z.length cz] 100)
            rwa [World.size_alloc, World.size_alloc] at this
          rw [← hV, ← hN]
          have hxl := HXL.out
          have h50 : 0 < w5.heap.size := by have := HB.out.size; omega
          obtain ⟨gs, hgs, hRX⟩ := Po.rowIn_of HXO.out h50
          obtain ⟨gt, hgt, hRZ⟩ := Po.rowIn_of HOZ.out h50
          have hRX2 := hRX.below hb5V (by omega)
          have hRZ2 := hRZ.below hb5V (by omega)
          have hI0 : Po.I N ss ts w w5 ev ti [] V := ⟨⟨[], [], ⟨[], rfl, fun i h => (nomatch h), rfl, rfl⟩, v0⟩, ⟨_, v1⟩, ⟨_, v2⟩, hb5V⟩
          have hv1 : V.heap[N + 1]? = some (.cells #[.slice pv X.length cv] 100) := by rw [hxl]; exact v1
          have HG5 := Lib.hid (merged_gives 5 (by omega) (N + 1) (N + 1 + 1) gs gt (by omega) X Z pv pz cv cz V hv1 v2 (by omega) hcz1 hRX2 hRZ2 (by omega) (by omega))
          have HI0 := Lib.hid hI0
          have HN5 := Lib.hid hN
          have HZ6 := Lib.hid z6
          clear hI0 hRX hRZ hRX2 hRZ2 hv1 v0 v1 v2 hb5V hxl z6 hN hV
          refine (wpIn_wide (n := 6)).1 ?_
          refine Rng.law2 (F := Fence.wide) (gf := 88) rfl (by omega) rfl trivial (enters_of Try.func88 (by kernel_rfl) rfl) HG5.out (fun r hr => by have := HZ6.out; rcases hr with hr | hr <;> omega)
            (fun h k => h.trans k) (fun W l o o' h hc => Po.Kp.put W l o o' h hc) (Below.refl _ _) (fun _ => rfl) (Po.I N ss ts w w5 ev ti) (Po.I.own HN5.out (by rw [HZ6.out]; omega)) (fun s A B row h hg hr => Po.I.box HN5.out s A B row h hg hr) HI0.out
            23 (fun x => #[.string x.k, .pointer x.s, .pointer x.t]) 104 ?assign ?body ?done
          case assign =>
            rintro l pre x W K hpx hI hK
            simp only [Po.enc1]
            gi_wp2
            obtain ⟨W9, hW9⟩ : ∃ W9, W9 = W.alloc (.cells #[.string x.k, .pointer x.s, .pointer x.t] 104) := ⟨_, rfl⟩
            rw [← hW9]
            have s2 : W9.heap[W.heap.size]? = some (.cells #[.string x.k, .pointer x.s, .pointer x.t] 104) := by rw [hW9]; exact alloc_new _ _
            have oth : ∀ (i : Nat) (ob : Obj), W.heap[i]? = some ob → W9.heap[i]? = some ob := fun i ob h => by
              rw [hW9]
              exact alloc_kept h
            obtain ⟨⟨s3, m3, h1, h2⟩, ⟨c1, h3⟩, ⟨c2, h4⟩, h5⟩ := hI
            have hNW : N ≤ W.heap.size := by have := h5.size; have := HN5.out; omega
            have h9 := hK W.heap.size W9 ⟨by rw [hW9]; simp, fun i ob _ h _ => oth i ob h⟩ (fun bb _ cur T e => oth bb _ e)
              ⟨⟨s3, m3, h1, h2.kept fun i cur T fr e _ => oth i _ e⟩, ⟨c1, oth _ _ h3⟩, ⟨c2, oth _ _ h4⟩, by rw [hW9]; exact h5.alloc hNW _⟩ s2
            simp [Rng.fr, Po.enc1, Act.put] at h9
            exact h9
          case body =>
            rintro l pre x bp W ⟨r0, hpx⟩ hI hbp
            obtain ⟨⟨s3, m3, hMd, hM⟩, ⟨cu1, hx1⟩, ⟨cu2, hx2⟩, hb5⟩ := hI
            have hSY : ∃ y, Po.Sees ss ts w x y ∧ ¬ (y.1 = none ∧ y.2 = none) := by
              have e3 := HN.out
              have e4 := HM.out
              refine Po.sees (b := b) (o := o) (b' := b') (o' := o') HA.out HT.out HBO.out HBO'.out (Y := Y) (by rw [e4]; exact HP.out) x ?_
              rw [e3, HXE.out, HZ.out, hpx]
              simp
            obtain ⟨⟨so, tt⟩, hS, hne⟩ := hSY
            have hwN : w.heap.size + 2 ≤ w1.heap.size ∧ w1.heap.size < w2.heap.size ∧ w2.heap.size ≤ N := by
              have h2 := HB.out.size
              have h3 := HBX.out.size
              have h4 := HN5.out
              omega
            have hw2 : Below w2.heap.size w2 W := (HB.out.trans (HBX.out.mono HB.out.size)).trans (hb5.mono (by omega))
            have hbw : Below w.heap.size w W := HB3.out.trans (hw2.mono (by omega))
            have c6 : W.cell? ⟨w.heap.size, 0, none⟩ = some (.int .i64 ev) := by rw [hw2.cell (p := ⟨w.heap.size, 0, none⟩) (by simp; omega), Lib.cell_of_heap K62.out]; rfl
            have c7 : W.cell? ⟨w.heap.size + 1, 0, none⟩ = some (.int .i64 ti) := by rw [hw2.cell (p := ⟨w.heap.size + 1, 0, none⟩) (by simp; omega), Lib.cell_of_heap K72.out]; rfl
            have g0 : W.cell? ⟨w1.heap.size, 0, none⟩ = some (.int .i64 ev) := by rw [hw2.cell (p := ⟨w1.heap.size, 0, none⟩) (by simp; omega), Lib.cell_of_heap K13.out]; rfl
            have g1 : W.cell? ⟨w1.heap.size, 1, none⟩ = some (.int .i64 ti) := by rw [hw2.cell (p := ⟨w1.heap.size, 1, none⟩) (by simp; omega), Lib.cell_of_heap K13.out]; rfl
            have g2 : W.cell? ⟨w1.heap.size, 2, none⟩ = some (.bool false) := by rw [hw2.cell (p := ⟨w1.heap.size, 2, none⟩) (by simp; omega), Lib.cell_of_heap K13.out]; rfl
            have b0 : W.cell? ⟨bp, 0, none⟩ = some (.string x.k) := by rw [Lib.cell_of_heap hbp]; rfl
            have b1 : W.cell? ⟨bp, 1, none⟩ = some (.pointer x.s) := by rw [Lib.cell_of_heap hbp]; rfl
            have b2 : W.cell? ⟨bp, 2, none⟩ = some (.pointer x.t) := by rw [Lib.cell_of_heap hbp]; rfl
            have HMd := Lib.hid hMd
            have HM3 := Lib.hid hM
            have HX1 := Lib.hid hx1
            have HX2 := Lib.hid hx2
            have HB5 := Lib.hid hb5
            have HBW := Lib.hid hbw
            have HPX := Lib.hid hpx
            have HNE := Lib.hid hne
            have HBP := Lib.hid hbp
            have HS := Lib.hid hS
            clear hMd hM hx1 hx2 hb5 hbw hpx hne hw2 hbp hS HG5 HI0
            simp [Rng.fr, Po.enc1, Act.put]
            obtain ⟨xk, xs, xt⟩ := x
            dsimp only at b0 b1 b2
            cases so with
            | none =>
              have hxs : xs = none := HS.out.1
              subst hxs
              cases tt with
              | none => exact absurd ⟨rfl, rfl⟩ HNE.out
              | some t =>
                obtain ⟨htm, hkt, bt, ot, hxt, e0, e1⟩ := HS.out.2
                dsimp only at hxt
                subst hxt
                have hbt := World.block_lt_of_cell? _ _ e0
                have d0 := (HBW.out.cell (p := ⟨bt, ot, none⟩) hbt).trans e0
                have d1 := (HBW.out.cell (p := ⟨bt, ot + 1, none⟩) hbt).trans e1
                have hAl := (Po.TgAt.at HT.out t htm).below HBW.out (Nat.le_refl _)
                have hL1 := HL2.out HE0.out t htm
                have hL2 := (HG.out t htm).2.1
                clear e0 e1 hkt
                have HTM := Lib.hid htm
                clear htm
                obtain ⟨tj, tp, tn, tc, tl⟩ := t
                dsimp only at d0 d1 hAl hL1 hL2
                have hbtN : bt < N := by have := HB3.out.size; simp at hbt; omega
                have hNW : N ≤ W.heap.size := by have := HB5.out.size; have := HN5.out; omega
                have hbd : s3.length ≤ 1000000 ∧ m3.length ≤ 10000000 := by
                  have h1 := HMd.out.len
                  have h2 := congrArg List.length HPX.out
                  have h3 := Po.mrg_len X Z
                  have h4 := HXL.out
                  rw [List.length_append, List.length_cons] at h2
                  omega
                obtain ⟨hbd1, hbd2⟩ := hbd
                have HMA : Hid (Po.M N N s3 m3 (W.drew.alloc (.cells #[.int .u8 1] 5))) := HM3.out.kept fun i cur T fr e _ => alloc_kept e
                have HLA : Hid (Lab.At tp tl (W.drew.alloc (.cells #[.int .u8 1] 5))) := hAl.below ((Below.refl _ W).drew.alloc (Nat.le_refl _) _) (Nat.le_refl _)
                have HKA : Hid (Po.KAt (some ⟨W.drew.heap.size, 0, none⟩) [1] (W.drew.alloc (.cells #[.int .u8 1] 5))) := .inr ⟨_, 0, _, rfl, alloc_new _ _, fun i hi => (by obtain rfl : i = 0 := (by simpa using hi); rfl)⟩
                clear hAl
                gi_wp2
                -- ARM1
                refine Rnd.held (S := (fun w' => w'.cell? ⟨bp, 2, none⟩ = some (.pointer (some ⟨bt, ot, none⟩)) ∧ w'.cell? ⟨bt, ot, none⟩ = some (.string tj) ∧ w'.cell? ⟨bt, ot + 1, none⟩ = some (.slice tp tn tc) ∧ w'.cell? ⟨w.heap.size, 0, none⟩ = some (.int .i64 ev) ∧ w'.cell? ⟨w.heap.size + 1, 0, none⟩ = some (.int .i64 ti))) (by kernel_rfl) (fun hh => by obtain ⟨_, _, hh⟩ := hh; exact hh) (by kernel_rfl) ⟨b2, d0, d1, c6, c7⟩ (fun hHeld => ?_)
                refine Rnd.take (i := 0) (v := ?_) rfl (by kernel_rfl) (by kernel_rfl) (by kernel_rfl) (fun _ _ _ h => h) (.inl ⟨by rfl, ?_⟩) (by assumption) ?_
                rotate_left
                · (intro w9 hS9; (try dsimp only at hS9); go_simp; try with_reducible rfl)
                try simp only [Act.put, List.setIfInBounds_toArray, List.set_cons_zero, List.set_cons_succ]
                refine Rnd.take (i := 1) (v := ?_) rfl (by kernel_rfl) (by kernel_rfl) (by kernel_rfl) (fun _ _ _ h => h) (.inl ⟨by rfl, ?_⟩) (by assumption) ?_
                rotate_left
                · (intro w9 hS9; (try dsimp only at hS9); go_simp; try with_reducible rfl)
                try simp only [Act.put, List.setIfInBounds_toArray, List.set_cons_zero, List.set_cons_succ]
                refine Rnd.take (i := 2) (v := ?_) rfl (by kernel_rfl) (by kernel_rfl) (by kernel_rfl) (fun _ _ _ h => h) (.inl ⟨by rfl, ?_⟩) (by assumption) ?_
                rotate_left
                · (intro w9 hS9; (try dsimp only at hS9); go_simp; try with_reducible rfl)
                try simp only [Act.put, List.setIfInBounds_toArray, List.set_cons_zero, List.set_cons_succ]
                refine Rnd.take (i := 3) (v := ?_) rfl (by kernel_rfl) (by kernel_rfl) (by kernel_rfl) (fun _ _ _ h => h) (.inl ⟨by rfl, ?_⟩) (by assumption) ?_
                rotate_left
                · (intro w9 hS9; (try dsimp only at hS9); go_simp; try with_reducible rfl)
                try simp only [Act.put, List.setIfInBounds_toArray, List.set_cons_zero, List.set_cons_succ]
                refine Rnd.take (i := 4) (v := ?_) rfl (by kernel_rfl) (by kernel_rfl) (by kernel_rfl) (fun _ _ _ h => h) (.inl ⟨by rfl, ?_⟩) (by assumption) ?_
                rotate_left
                · (intro w9 hS9; (try dsimp only at hS9); go_simp; try with_reducible rfl)
                try simp only [Act.put, List.setIfInBounds_toArray, List.set_cons_zero, List.set_cons_succ]
                refine Rnd.take (i := 5) (v := ?_) rfl (by kernel_rfl) (by kernel_rfl) (by kernel_rfl) (fun _ _ _ h => h) (.inl ⟨by rfl, ?_⟩) (by assumption) ?_
                rotate_left
                · (intro w9 hS9; (try dsimp only at hS9); go_simp; try with_reducible rfl)
                try simp only [Act.put, List.setIfInBounds_toArray, List.set_cons_zero, List.set_cons_succ]
                refine Rnd.take (i := 6) (v := ?_) rfl (by kernel_rfl) (by kernel_rfl) (by kernel_rfl) (fun _ _ _ h => h) (.inl ⟨by rfl, ?_⟩) (by assumption) ?_
                rotate_left
                · (intro w9 hS9; (try dsimp only at hS9); go_simp; try with_reducible rfl)
                try simp only [Act.put, List.setIfInBounds_toArray, List.set_cons_zero, List.set_cons_succ]
                refine wpAnyH_ready (rs := [7]) (by kernel_rfl) (by simp) ?_
                refine AllReadyH.cons rfl (fun K hK => ?_) AllReadyH.nil
                go_simp
                refine hK _ _ ⟨Lib.cell?_alloc_some _ hHeld.1, Lib.cell?_alloc_some _ hHeld.2.1, Lib.cell?_alloc_some _ hHeld.2.2.1, Lib.cell?_alloc_some _ hHeld.2.2.2.1, Lib.cell?_alloc_some _ hHeld.2.2.2.2⟩ (fun hHeld => ?_)
                clear hK K
                try simp only [Act.put, List.setIfInBounds_toArray, List.set_cons_zero, List.set_cons_succ]
                refine wpAnyH_ready (rs := [8]) (by kernel_rfl) (by simp) ?_
                refine AllReadyH.cons rfl (fun K hK => ?_) AllReadyH.nil
                go_simp
                refine (put_is N N s3 m3 ⟨⟨tj, tp, tn, tc, tl⟩, ev, ti, false⟩ (some ⟨W.drew.heap.size, 0, none⟩) [1] 1 1 _ HMA.out HLA.out hL2 hL1 HKA.out rfl (by omega) (by omega) (by omega)).mono ?_
                first | rintro e w9 rfl s5 m5 hM5 hv5 hm5 hb9 hk9 | rintro e w9 ⟨rfl, ⟨s5, m5, hM5, hv5, hm5⟩, hb9, hk9⟩
                have hWb : Below N W w9 := ((Below.refl N W).drew.alloc hNW _).trans hb9
                have hWk : Po.Keeps W w9 := (Po.Keeps.of_below (((Below.refl _ W).drew.alloc (Nat.le_refl _) _))).trans hk9
                refine hK _ _ ⟨(by rw [Lib.cell_of_heap (hWk _ _ HBP.out (fun c T e => by simp only [Obj.cells.injEq] at e; rw [← e.2.1]; decide))]; rfl), (hWb.cell (p := ⟨bt, ot, none⟩) hbtN).trans d0, (hWb.cell (p := ⟨bt, ot + 1, none⟩) hbtN).trans d1, (hWb.cell (p := ⟨w.heap.size, 0, none⟩) (show w.heap.size < N by omega)).trans c6, (hWb.cell (p := ⟨w.heap.size + 1, 0, none⟩) (show w.heap.size + 1 < N by omega)).trans c7⟩ (fun hHeld => ?_)
                clear hK K
                try simp only [Act.put, List.setIfInBounds_toArray, List.set_cons_zero, List.set_cons_succ]
                refine wpAnyH_done (by kernel_rfl) ?_ _
                exact Po.step HMd.out HS.out HX1.out HX2.out HB5.out (by rw [HN5.out]; exact hgs) (by rw [HN5.out]; exact hgt) hM5 (by rw [List.map_cons, List.map_nil, hv5]; rfl) (by rw [hm5]; rfl) hWb hWk
                -- END1
            | some s =>
              obtain ⟨⟨hsm, hks, bs, os, hxs, e0, e1, e2, e3, e4⟩, hS2⟩ := HS.out
              dsimp only at hxs
              subst hxs
              have hbs := World.block_lt_of_cell? _ _ e0
              replace e0 := (HBW.out.cell (p := ⟨bs, os, none⟩) hbs).trans e0
              replace e1 := (HBW.out.cell (p := ⟨bs, os + 1, none⟩) hbs).trans e1
              replace e2 := (HBW.out.cell (p := ⟨bs, os + 2, none⟩) hbs).trans e2
              replace e3 := (HBW.out.cell (p := ⟨bs, os + 3, none⟩) hbs).trans e3
              replace e4 := (HBW.out.cell (p := ⟨bs, os + 4, none⟩) hbs).trans e4
              have hAl := (HA.out.2 s hsm).below HBW.out (Nat.le_refl _)
              have hl1 := HL1.out s hsm
              have hl2 := (HF.out s hsm).2.1
              have HSM := Lib.hid hsm
              have HS2 := Lib.hid hS2
              clear hsm hks hS2
              obtain ⟨⟨sj, sp, sn, sc, sl⟩, sev, sti, sen⟩ := s
              dsimp only at e0 e1 e2 e3 e4 hAl hl1 hl2
              have hNW : N ≤ W.heap.size := by have := HB5.out.size; have := HN5.out; omega
              have hbsW : bs < W.heap.size := World.block_lt_of_cell? _ _ e0
              have hbpW : bp < W.heap.size := World.block_lt_of_cell? _ _ b1
              have hw1W : w1.heap.size < W.heap.size := World.block_lt_of_cell? _ _ g0
              have HAL := Lib.hid hAl
              have hbd : s3.length ≤ 1000000 ∧ m3.length ≤ 10000000 := by
                have h1 := HMd.out.len
                have h2 := congrArg List.length HPX.out
                have h3 := Po.mrg_len X Z
                have h4 := HXL.out
                rw [List.length_append, List.length_cons] at h2
                omega
              obtain ⟨hbd1, hbd2⟩ := hbd
              clear hAl
              gi_wp2
              -- ARM2
              by_cases hsame : sev = ev ∧ sti = ti ∧ sen = false
              · obtain ⟨rfl, rfl, rfl⟩ := hsame
                cases xt with
                | none =>
                  refine Rnd.held (S := (fun w' => w'.cell? ⟨bp, 1, none⟩ = some (.pointer (some ⟨bs, os, none⟩)) ∧ w'.cell? ⟨bp, 2, none⟩ = some (.pointer none) ∧ w'.cell? ⟨bs, os, none⟩ = some (.string sj) ∧ w'.cell? ⟨bs, os + 1, none⟩ = some (.slice sp sn sc) ∧ w'.cell? ⟨bs, os + 2, none⟩ = some (.int .i64 sev) ∧ w'.cell? ⟨bs, os + 3, none⟩ = some (.int .i64 sti) ∧ w'.cell? ⟨bs, os + 4, none⟩ = some (.bool false) ∧ w'.cell? ⟨w1.heap.size, 0, none⟩ = some (.int .i64 sev) ∧ w'.cell? ⟨w1.heap.size, 1, none⟩ = some (.int .i64 sti) ∧ w'.cell? ⟨w1.heap.size, 2, none⟩ = some (.bool false))) (by kernel_rfl) (fun hh => by obtain ⟨_, _, hh⟩ := hh; exact hh) (by kernel_rfl) ⟨b1, b2, e0, e1, e2, e3, e4, g0, g1, g2⟩ (fun hHeld => ?_)
                  refine Rnd.take (i := 0) (v := ?_) rfl (by kernel_rfl) (by kernel_rfl) (by kernel_rfl) (fun _ _ _ h => h) (.inl ⟨by rfl, ?_⟩) (by assumption) ?_
                  rotate_left
                  · (intro w9 hS9; (try dsimp only at hS9); go_simp; try with_reducible rfl)
                  try simp only [Act.put, List.setIfInBounds_toArray, List.set_cons_zero, List.set_cons_succ]
                  refine Rnd.take (i := 1) (v := ?_) rfl (by kernel_rfl) (by kernel_rfl) (by kernel_rfl) (fun _ _ _ h => h) (.inl ⟨by rfl, ?_⟩) (by assumption) ?_
                  rotate_left
                  · (intro w9 hS9; (try dsimp only at hS9); go_simp; try with_reducible rfl)
                  try simp only [Act.put, List.setIfInBounds_toArray, List.set_cons_zero, List.set_cons_succ]
                  refine Rnd.take (i := 2) (v := ?_) rfl (by kernel_rfl) (by kernel_rfl) (by kernel_rfl) (fun _ _ _ h => h) (.inl ⟨by rfl, ?_⟩) (by assumption) ?_
                  rotate_left
                  · (intro w9 hS9; (try dsimp only at hS9); go_simp; try with_reducible rfl)
                  try simp only [Act.put, List.setIfInBounds_toArray, List.set_cons_zero, List.set_cons_succ]
                  refine Rnd.take (i := 3) (v := ?_) rfl (by kernel_rfl) (by kernel_rfl) (by kernel_rfl) (fun _ _ _ h => h) (.inl ⟨by rfl, ?_⟩) (by assumption) ?_
                  rotate_left
                  · (intro w9 hS9; (try dsimp only at hS9); go_simp; try with_reducible rfl)
                  try simp only [Act.put, List.setIfInBounds_toArray, List.set_cons_zero, List.set_cons_succ]
                  refine Rnd.take (i := 5) (v := ?_) rfl (by kernel_rfl) (by kernel_rfl) (by kernel_rfl) (fun _ _ _ h => h) (.inl ⟨by rfl, ?_⟩) (by assumption) ?_
                  rotate_left
                  · (intro w9 hS9; (try dsimp only at hS9); go_simp; try with_reducible rfl)
                  try simp only [Act.put, List.setIfInBounds_toArray, List.set_cons_zero, List.set_cons_succ]
                  refine wpAnyH_ready (rs := [4]) (by kernel_rfl) (by simp) ?_
                  refine AllReadyH.cons rfl (fun K hK => ?_) AllReadyH.nil
                  go_simp
                  refine (plan_is sj sp sn sc sev sti false _).mono ?_
                  first | rintro e w9 rfl hb9 | rintro e w9 ⟨rfl, hb9⟩
                  refine hK _ _ ⟨(hb9.cell (p := ⟨bp, 1, none⟩) hbpW).trans b1, (hb9.cell (p := ⟨bp, 2, none⟩) hbpW).trans b2, (hb9.cell (p := ⟨bs, os, none⟩) hbsW).trans e0, (hb9.cell (p := ⟨bs, os + 1, none⟩) hbsW).trans e1, (hb9.cell (p := ⟨bs, os + 2, none⟩) hbsW).trans e2, (hb9.cell (p := ⟨bs, os + 3, none⟩) hbsW).trans e3, (hb9.cell (p := ⟨bs, os + 4, none⟩) hbsW).trans e4, (hb9.cell (p := ⟨w1.heap.size, 0, none⟩) hw1W).trans g0, (hb9.cell (p := ⟨w1.heap.size, 1, none⟩) hw1W).trans g1, (hb9.cell (p := ⟨w1.heap.size, 2, none⟩) hw1W).trans g2⟩ (fun hHeld => ?_)
                  clear hK K
                  try simp only [Act.put, List.setIfInBounds_toArray, List.set_cons_zero, List.set_cons_succ]
                  refine Rnd.take (i := 6) (v := ?_) rfl (by kernel_rfl) (by kernel_rfl) (by kernel_rfl) (fun _ _ _ h => h) (.inl ⟨by rfl, ?_⟩) (by assumption) ?_
                  rotate_left
                  · (intro w9 hS9; (try dsimp only at hS9); go_simp; try with_reducible rfl)
                  try simp only [Act.put, List.setIfInBounds_toArray, List.set_cons_zero, List.set_cons_succ]
                  refine Rnd.take (i := 7) (v := ?_) rfl (by kernel_rfl) (by kernel_rfl) (by kernel_rfl) (fun _ _ _ h => h) (.inl ⟨by rfl, ?_⟩) (by assumption) ?_
                  rotate_left
                  · (intro w9 hS9; (try dsimp only at hS9); go_simp; try with_reducible rfl)
                  try simp only [Act.put, List.setIfInBounds_toArray, List.set_cons_zero, List.set_cons_succ]
                  refine Rnd.take (i := 8) (v := ?_) rfl (by kernel_rfl) (by kernel_rfl) (by kernel_rfl) (fun _ _ _ h => h) (.inl ⟨by rfl, ?_⟩) (by assumption) ?_
                  rotate_left
                  · (intro w9 hS9; (try dsimp only at hS9); go_simp; try with_reducible rfl)
                  try simp only [Act.put, List.setIfInBounds_toArray, List.set_cons_zero, List.set_cons_succ]
                  refine Rnd.take (i := 9) (v := ?_) rfl (by kernel_rfl) (by kernel_rfl) (by kernel_rfl) (fun _ _ _ h => h) (.inl ⟨by rfl, ?_⟩) (by assumption) ?_
                  rotate_left
                  · (intro w9 hS9; (try dsimp only at hS9); go_simp; try with_reducible rfl)
                  try simp only [Act.put, List.setIfInBounds_toArray, List.set_cons_zero, List.set_cons_succ]
                  refine Rnd.take (i := 10) (v := ?_) rfl (by kernel_rfl) (by kernel_rfl) (by kernel_rfl) (fun _ _ _ h => h) (.inl ⟨by rfl, ?_⟩) (by assumption) ?_
                  rotate_left
                  · (intro w9 hS9; (try dsimp only at hS9); go_simp; try with_reducible rfl)
                  try simp only [Act.put, List.setIfInBounds_toArray, List.set_cons_zero, List.set_cons_succ]
                  refine Rnd.take (i := 11) (v := ?_) rfl (by kernel_rfl) (by kernel_rfl) (by kernel_rfl) (fun _ _ _ h => h) (.inl ⟨by rfl, ?_⟩) (by assumption) ?_
                  rotate_left
                  · (intro w9 hS9; (try dsimp only at hS9); go_simp; try with_reducible rfl)
                  try simp only [Act.put, List.setIfInBounds_toArray, List.set_cons_zero, List.set_cons_succ]
                  refine Rnd.take (i := 12) (v := ?_) rfl (by kernel_rfl) (by kernel_rfl) (by kernel_rfl) (fun _ _ _ h => h) (.inl ⟨by rfl, ?_⟩) (by assumption) ?_
                  rotate_left
                  · (intro w9 hS9; (try dsimp only at hS9); go_simp; try with_reducible rfl)
                  try simp only [Act.put, List.setIfInBounds_toArray, List.set_cons_zero, List.set_cons_succ]
                  refine wpAnyH_done (by kernel_rfl) ?_ _
                  have hWb : Below N W w9 := ((Below.refl N W).drew).trans (hb9.mono hNW)
                  have hWk : Po.Keeps W w9 := Po.Keeps.of_below (((Below.refl _ W).drew).trans hb9)
                  have HM9 : Hid (Po.M N N s3 m3 w9) := HM3.out.kept fun i cur T fr e _ => (hb9.block i (show i < W.heap.size from (Array.getElem?_eq_some_iff.1 e).1)).trans e
                  have HA9 : Hid (Lab.At sp sl w9) := HAL.out.below (((Below.refl _ W).drew).trans hb9) (Nat.le_refl _)
                  have HWB := Lib.hid hWb
                  have HWK := Lib.hid hWk
                  have hN9 : N ≤ w9.heap.size := Nat.le_trans hNW hWb.size
                  clear hWb hWk
                  have j1 := hHeld.1
                  have j2 := hHeld.2.1
                  have j3 := hHeld.2.2.1
                  have j4 := hHeld.2.2.2.1
                  have j5 := hHeld.2.2.2.2.1
                  have j6 := hHeld.2.2.2.2.2.1
                  have j7 := hHeld.2.2.2.2.2.2.1
                  obtain ⟨V, hV⟩ : ∃ V, V = (w9.alloc (.cells #[.string sj, .slice sp sn sc, .int .i64 sev, .int .i64 sti, .bool false] 33)) := ⟨_, rfl⟩
                  have HV := Lib.hid hV
                  have zh : V.heap[w9.heap.size]? = some (.cells #[.string sj, .slice sp sn sc, .int .i64 sev, .int .i64 sti, .bool false] 33) := by rw [hV]; exact alloc_new _ _
                  have y2 : V.cell? ⟨bp, 2, none⟩ = some (.pointer none) := by rw [hV]; exact Lib.cell?_alloc_some _ j2
                  have hbV : Below w9.heap.size w9 V := by rw [hV]; exact (Below.refl _ _).alloc (Nat.le_refl _) _
                  have hzV : V.heap.size = w9.heap.size + 1 := by rw [hV]; simp
                  have HBV := Lib.hid hbV
                  have HZH := Lib.hid zh
                  have HZV := Lib.hid hzV
                  have x0 : V.cell? ⟨w9.heap.size, 0, none⟩ = some (.string sj) := by rw [Lib.cell_of_heap zh]; rfl
                  have x1 : V.cell? ⟨w9.heap.size, 1, none⟩ = some (.slice sp sn sc) := by rw [Lib.cell_of_heap zh]; rfl
                  have x2 : V.cell? ⟨w9.heap.size, 2, none⟩ = some (.int .i64 sev) := by rw [Lib.cell_of_heap zh]; rfl
                  have x3 : V.cell? ⟨w9.heap.size, 3, none⟩ = some (.int .i64 sti) := by rw [Lib.cell_of_heap zh]; rfl
                  have x4 : V.cell? ⟨w9.heap.size, 4, none⟩ = some (.bool false) := by rw [Lib.cell_of_heap zh]; rfl
                  have xf := Lib.frozen_of_heap zh 4
                  have hbpV : bp < V.heap.size := World.block_lt_of_cell? _ _ y2
                  clear hbV zh hV hHeld hb9
                  have HBU : Hid (Below V.heap.size V V) := Below.refl _ _
                  have HKD : Hid (OwnR kdR V.heap.size (.slice none 0 0) [] V) := OwnR.nil _ _ _
                  have hV2 := HV.out
                  gi_wp2_with (first | (rw [← hV2]; clear hV2) | (gi_at_builtin; refine wpListIn_pushRec kdOk 54 Try.underlying54 rfl _ _ rfl V.heap.size _ [] V rfl (by exact HKD.out) 2 _ _ rfl (w9.heap.size + 1) rfl HZV.out.symm (by simp) (by exact HBU.out.size) ?_))
                  intro v1 u9001 hk1 hg1
                  have hbu1 : Below V.heap.size V u9001 := (HBU.out.alloc HBU.out.size _).grown hg1 (by first | (simp; done) | (simp; exact Nat.le_succ_of_le HBU.out.size)) (fun j hj => (World.ownsRow.lt HKD.out j hj).1)
                  obtain ⟨pk1, ck1, hv1, _, _, _⟩ := hk1.shape
                  replace hv1 : v1 = .slice pk1 1 ck1 := hv1
                  subst hv1
                  clear HBU HKD
                  have HBU := Lib.hid hbu1
                  have HKD : Hid (OwnR kdR V.heap.size (.slice pk1 1 ck1) [2] u9001) := by first | exact hk1 | (show OwnR _ _ _ _ _; rw [HZV.out]; exact hk1)
                  have y2_1 := (hbu1.cell (p := ⟨bp, 2, none⟩) hbpV).trans y2
                  have x0_1 := (hbu1.cell (p := ⟨w9.heap.size, 0, none⟩) (show w9.heap.size < V.heap.size by rw [HZV.out]; omega)).trans x0
                  have x1_1 := (hbu1.cell (p := ⟨w9.heap.size, 1, none⟩) (show w9.heap.size < V.heap.size by rw [HZV.out]; omega)).trans x1
                  have x2_1 := (hbu1.cell (p := ⟨w9.heap.size, 2, none⟩) (show w9.heap.size < V.heap.size by rw [HZV.out]; omega)).trans x2
                  have x3_1 := (hbu1.cell (p := ⟨w9.heap.size, 3, none⟩) (show w9.heap.size < V.heap.size by rw [HZV.out]; omega)).trans x3
                  have x4_1 := (hbu1.cell (p := ⟨w9.heap.size, 4, none⟩) (show w9.heap.size < V.heap.size by rw [HZV.out]; omega)).trans x4
                  have xf_1 := Lib.frozen_of_heap ((hbu1.block w9.heap.size (show w9.heap.size < V.heap.size by rw [HZV.out]; omega)).trans HZH.out) 4
                  clear hbu1 hk1 hg1
                  gi_wp2_with fail
                  have hb11 : Below w9.heap.size w9 (u9001.setCell ⟨w9.heap.size, 4, none⟩ (.bool true)) := (HBV.out.trans (HBU.out.mono HBV.out.size)).setCell (p := ⟨w9.heap.size, 4, none⟩) (Nat.le_refl _) _
                  have HM11 : Hid (Po.M N N s3 m3 (u9001.setCell ⟨w9.heap.size, 4, none⟩ (.bool true))) := HM9.out.kept fun i cur T fr e _ => (hb11.block i (Array.getElem?_eq_some_iff.1 e).1).trans e
                  have HA11 : Hid (Lab.At sp sl (u9001.setCell ⟨w9.heap.size, 4, none⟩ (.bool true))) := HA9.out.below hb11 (Nat.le_refl _)
                  have HK11 : Hid (Po.KAt pk1 [2] (u9001.setCell ⟨w9.heap.size, 4, none⟩ (.bool true))) := Po.KAt.setT (Po.kAt_of HKD.out) ((HBU.out.block w9.heap.size (show w9.heap.size < V.heap.size by rw [HZV.out]; omega)).trans HZH.out) (by decide)
                  have HB11 := Lib.hid hb11
                  clear hb11
                  refine ⟨trivial, ?_⟩
                  refine ((callsIn_wide.2 (put_is N N s3 m3 ⟨⟨sj, sp, sn, sc, sl⟩, sev, sti, true⟩ pk1 [2] 1 ck1 _ HM11.out HA11.out hl2 hl1 HK11.out rfl (by omega) hbd1 hbd2)).inRound _).mono ?_
                  first | rintro e w10 rfl s5 m5 hM5 hv5 hm5 hb10 hk10 | rintro e w10 ⟨rfl, ⟨s5, m5, hM5, hv5, hm5⟩, hb10, hk10⟩
                  gi_wp2
                  have ht : tt = none := by cases tt with | none => rfl | some t => obtain ⟨_, _, _, _, h, _⟩ := HS2.out; cases h
                  have hz : ¬ (sev = sev ∧ sti = sti ∧ false = false ∧ tt.isSome = true) := fun h => by rw [ht] at h; exact absurd h.2.2.2 (by simp)
                  exact Po.step HMd.out HS.out HX1.out HX2.out HB5.out (by rw [HN5.out]; exact hgs) (by rw [HN5.out]; exact hgt) hM5 (by rw [List.map_cons, List.map_nil, hv5, Po.outS_other (s := ⟨⟨sj, sp, sn, sc, sl⟩, sev, sti, false⟩) hz]; rfl) (by rw [hm5, Po.outM_other (s := ⟨⟨sj, sp, sn, sc, sl⟩, sev, sti, false⟩) hz]; simp [ht]) (HWB.out.trans ((HB11.out.mono hN9).trans hb10)) (HWK.out.trans ((Po.Keeps.of_below HB11.out).trans hk10))
                | some xa =>
                  refine Rnd.held (S := (fun w' => w'.cell? ⟨bp, 1, none⟩ = some (.pointer (some ⟨bs, os, none⟩)) ∧ w'.cell? ⟨bp, 2, none⟩ = some (.pointer (some xa)) ∧ w'.cell? ⟨bs, os, none⟩ = some (.string sj) ∧ w'.cell? ⟨bs, os + 1, none⟩ = some (.slice sp sn sc) ∧ w'.cell? ⟨bs, os + 2, none⟩ = some (.int .i64 sev) ∧ w'.cell? ⟨bs, os + 3, none⟩ = some (.int .i64 sti) ∧ w'.cell? ⟨bs, os + 4, none⟩ = some (.bool false) ∧ w'.cell? ⟨w1.heap.size, 0, none⟩ = some (.int .i64 sev) ∧ w'.cell? ⟨w1.heap.size, 1, none⟩ = some (.int .i64 sti) ∧ w'.cell? ⟨w1.heap.size, 2, none⟩ = some (.bool false))) (by kernel_rfl) (fun hh => by obtain ⟨_, _, hh⟩ := hh; exact hh) (by kernel_rfl) ⟨b1, b2, e0, e1, e2, e3, e4, g0, g1, g2⟩ (fun hHeld => ?_)
                  refine Rnd.take (i := 0) (v := ?_) rfl (by kernel_rfl) (by kernel_rfl) (by kernel_rfl) (fun _ _ _ h => h) (.inl ⟨by rfl, ?_⟩) (by assumption) ?_
                  rotate_left
                  · (intro w9 hS9; (try dsimp only at hS9); go_simp; try with_reducible rfl)
                  try simp only [Act.put, List.setIfInBounds_toArray, List.set_cons_zero, List.set_cons_succ]
                  refine Rnd.take (i := 1) (v := ?_) rfl (by kernel_rfl) (by kernel_rfl) (by kernel_rfl) (fun _ _ _ h => h) (.inl ⟨by rfl, ?_⟩) (by assumption) ?_
                  rotate_left
                  · (intro w9 hS9; (try dsimp only at hS9); go_simp; try with_reducible rfl)
                  try simp only [Act.put, List.setIfInBounds_toArray, List.set_cons_zero, List.set_cons_succ]
                  refine Rnd.take (i := 2) (v := ?_) rfl (by kernel_rfl) (by kernel_rfl) (by kernel_rfl) (fun _ _ _ h => h) (.inl ⟨by rfl, ?_⟩) (by assumption) ?_
                  rotate_left
                  · (intro w9 hS9; (try dsimp only at hS9); go_simp; try with_reducible rfl)
                  try simp only [Act.put, List.setIfInBounds_toArray, List.set_cons_zero, List.set_cons_succ]
                  refine Rnd.take (i := 3) (v := ?_) rfl (by kernel_rfl) (by kernel_rfl) (by kernel_rfl) (fun _ _ _ h => h) (.inl ⟨by rfl, ?_⟩) (by assumption) ?_
                  rotate_left
                  · (intro w9 hS9; (try dsimp only at hS9); go_simp; try with_reducible rfl)
                  try simp only [Act.put, List.setIfInBounds_toArray, List.set_cons_zero, List.set_cons_succ]
                  refine Rnd.take (i := 5) (v := ?_) rfl (by kernel_rfl) (by kernel_rfl) (by kernel_rfl) (fun _ _ _ h => h) (.inl ⟨by rfl, ?_⟩) (by assumption) ?_
                  rotate_left
                  · (intro w9 hS9; (try dsimp only at hS9); go_simp; try with_reducible rfl)
                  try simp only [Act.put, List.setIfInBounds_toArray, List.set_cons_zero, List.set_cons_succ]
                  refine wpAnyH_ready (rs := [4]) (by kernel_rfl) (by simp) ?_
                  refine AllReadyH.cons rfl (fun K hK => ?_) AllReadyH.nil
                  go_simp
                  refine (plan_is sj sp sn sc sev sti false _).mono ?_
                  first | rintro e w9 rfl hb9 | rintro e w9 ⟨rfl, hb9⟩
                  refine hK _ _ ⟨(hb9.cell (p := ⟨bp, 1, none⟩) hbpW).trans b1, (hb9.cell (p := ⟨bp, 2, none⟩) hbpW).trans b2, (hb9.cell (p := ⟨bs, os, none⟩) hbsW).trans e0, (hb9.cell (p := ⟨bs, os + 1, none⟩) hbsW).trans e1, (hb9.cell (p := ⟨bs, os + 2, none⟩) hbsW).trans e2, (hb9.cell (p := ⟨bs, os + 3, none⟩) hbsW).trans e3, (hb9.cell (p := ⟨bs, os + 4, none⟩) hbsW).trans e4, (hb9.cell (p := ⟨w1.heap.size, 0, none⟩) hw1W).trans g0, (hb9.cell (p := ⟨w1.heap.size, 1, none⟩) hw1W).trans g1, (hb9.cell (p := ⟨w1.heap.size, 2, none⟩) hw1W).trans g2⟩ (fun hHeld => ?_)
                  clear hK K
                  try simp only [Act.put, List.setIfInBounds_toArray, List.set_cons_zero, List.set_cons_succ]
                  refine Rnd.take (i := 6) (v := ?_) rfl (by kernel_rfl) (by kernel_rfl) (by kernel_rfl) (fun _ _ _ h => h) (.inl ⟨by rfl, ?_⟩) (by assumption) ?_
                  rotate_left
                  · (intro w9 hS9; (try dsimp only at hS9); go_simp; try with_reducible rfl)
                  try simp only [Act.put, List.setIfInBounds_toArray, List.set_cons_zero, List.set_cons_succ]
                  refine Rnd.take (i := 7) (v := ?_) rfl (by kernel_rfl) (by kernel_rfl) (by kernel_rfl) (fun _ _ _ h => h) (.inl ⟨by rfl, ?_⟩) (by assumption) ?_
                  rotate_left
                  · (intro w9 hS9; (try dsimp only at hS9); go_simp; try with_reducible rfl)
                  try simp only [Act.put, List.setIfInBounds_toArray, List.set_cons_zero, List.set_cons_succ]
                  refine Rnd.take (i := 8) (v := ?_) rfl (by kernel_rfl) (by kernel_rfl) (by kernel_rfl) (fun _ _ _ h => h) (.inl ⟨by rfl, ?_⟩) (by assumption) ?_
                  rotate_left
                  · (intro w9 hS9; (try dsimp only at hS9); go_simp; try with_reducible rfl)
                  try simp only [Act.put, List.setIfInBounds_toArray, List.set_cons_zero, List.set_cons_succ]
                  refine Rnd.take (i := 9) (v := ?_) rfl (by kernel_rfl) (by kernel_rfl) (by kernel_rfl) (fun _ _ _ h => h) (.inl ⟨by rfl, ?_⟩) (by assumption) ?_
                  rotate_left
                  · (intro w9 hS9; (try dsimp only at hS9); go_simp; try with_reducible rfl)
                  try simp only [Act.put, List.setIfInBounds_toArray, List.set_cons_zero, List.set_cons_succ]
                  refine Rnd.take (i := 10) (v := ?_) rfl (by kernel_rfl) (by kernel_rfl) (by kernel_rfl) (fun _ _ _ h => h) (.inl ⟨by rfl, ?_⟩) (by assumption) ?_
                  rotate_left
                  · (intro w9 hS9; (try dsimp only at hS9); go_simp; try with_reducible rfl)
                  try simp only [Act.put, List.setIfInBounds_toArray, List.set_cons_zero, List.set_cons_succ]
                  refine Rnd.take (i := 11) (v := ?_) rfl (by kernel_rfl) (by kernel_rfl) (by kernel_rfl) (fun _ _ _ h => h) (.inl ⟨by rfl, ?_⟩) (by assumption) ?_
                  rotate_left
                  · (intro w9 hS9; (try dsimp only at hS9); go_simp; try with_reducible rfl)
                  try simp only [Act.put, List.setIfInBounds_toArray, List.set_cons_zero, List.set_cons_succ]
                  refine Rnd.take (i := 12) (v := ?_) rfl (by kernel_rfl) (by kernel_rfl) (by kernel_rfl) (fun _ _ _ h => h) (.inl ⟨by rfl, ?_⟩) (by assumption) ?_
                  rotate_left
                  · (intro w9 hS9; (try dsimp only at hS9); go_simp; try with_reducible rfl)
                  try simp only [Act.put, List.setIfInBounds_toArray, List.set_cons_zero, List.set_cons_succ]
                  refine wpAnyH_done (by kernel_rfl) ?_ _
                  have hWb : Below N W w9 := ((Below.refl N W).drew).trans (hb9.mono hNW)
                  have hWk : Po.Keeps W w9 := Po.Keeps.of_below (((Below.refl _ W).drew).trans hb9)
                  have HM9 : Hid (Po.M N N s3 m3 w9) := HM3.out.kept fun i cur T fr e _ => (hb9.block i (show i < W.heap.size from (Array.getElem?_eq_some_iff.1 e).1)).trans e
                  have HA9 : Hid (Lab.At sp sl w9) := HAL.out.below (((Below.refl _ W).drew).trans hb9) (Nat.le_refl _)
                  have j1 := hHeld.1
                  have j3 := hHeld.2.2.1
                  have j4 := hHeld.2.2.2.1
                  have j5 := hHeld.2.2.2.2.1
                  have j6 := hHeld.2.2.2.2.2.1
                  have j7 := hHeld.2.2.2.2.2.2.1
                  gi_wp2_with fail
                  refine ⟨trivial, ?_⟩
                  refine ((callsIn_wide.2 (put_is N N s3 m3 ⟨⟨sj, sp, sn, sc, sl⟩, sev, sti, false⟩ none [] 0 0 _ HM9.out HA9.out hl2 hl1 (.inl rfl) rfl (by omega) hbd1 hbd2)).inRound _).mono ?_
                  first | rintro e w10 rfl s5 m5 hM5 hv5 hm5 hb10 hk10 | rintro e w10 ⟨rfl, ⟨s5, m5, hM5, hv5, hm5⟩, hb10, hk10⟩
                  gi_wp2
                  have ht : tt.isSome = true := by cases tt with | none => exact absurd HS2.out (by simp) | some t => rfl
                  have ht2 : ¬ tt = none := fun e => by rw [e] at ht; cases ht
                  exact Po.step HMd.out HS.out HX1.out HX2.out HB5.out (by rw [HN5.out]; exact hgs) (by rw [HN5.out]; exact hgt) hM5 (by rw [List.map_cons, List.map_nil, hv5]; simp [Po.outS, Sl.view, ht]) (by rw [hm5]; simp [Po.outM, ht]) (hWb.trans hb10) (hWk.trans hk10)
              · have hq : ∀ w9 : World, (if sev = ev then if sti = ti then if sen = true then Result.ok (Next.value (.bool false)) w9 else Result.ok (Next.value (.bool true)) w9 else Result.ok (Next.value (.bool false)) w9 else Result.ok (Next.value (.bool false)) w9) = Result.ok (Next.value (.bool false)) w9 := fun w9 => by
                  by_cases h1 : sev = ev
                  · by_cases h2 : sti = ti
                    · cases sen with
                      | true => simp
                      | false => exact absurd ⟨h1, h2, rfl⟩ hsame
                    · simp [h2]
                  · simp [h1]
                have HSAME := Lib.hid hsame
                clear hsame
                cases sen with
                | true =>
                  cases xt with
                  | none =>
                    refine Rnd.held (S := (fun w' => w'.cell? ⟨bp, 1, none⟩ = some (.pointer (some ⟨bs, os, none⟩)) ∧ w'.cell? ⟨bp, 2, none⟩ = some (.pointer none) ∧ w'.cell? ⟨bs, os, none⟩ = some (.string sj) ∧ w'.cell? ⟨bs, os + 1, none⟩ = some (.slice sp sn sc) ∧ w'.cell? ⟨bs, os + 2, none⟩ = some (.int .i64 sev) ∧ w'.cell? ⟨bs, os + 3, none⟩ = some (.int .i64 sti) ∧ w'.cell? ⟨bs, os + 4, none⟩ = some (.bool true) ∧ w'.cell? ⟨w1.heap.size, 0, none⟩ = some (.int .i64 ev) ∧ w'.cell? ⟨w1.heap.size, 1, none⟩ = some (.int .i64 ti) ∧ w'.cell? ⟨w1.heap.size, 2, none⟩ = some (.bool false))) (by kernel_rfl) (fun hh => by obtain ⟨_, _, hh⟩ := hh; exact hh) (by kernel_rfl) ⟨b1, b2, e0, e1, e2, e3, e4, g0, g1, g2⟩ (fun hHeld => ?_)
                    refine Rnd.take (i := 0) (v := ?_) rfl (by kernel_rfl) (by kernel_rfl) (by kernel_rfl) (fun _ _ _ h => h) (.inl ⟨by rfl, ?_⟩) (by assumption) ?_
                    rotate_left
                    · (intro w9 hS9; (try dsimp only at hS9); go_simp; try (first | exact hq _ | with_reducible rfl))
                    try simp only [Act.put, List.setIfInBounds_toArray, List.set_cons_zero, List.set_cons_succ]
                    refine Rnd.take (i := 1) (v := ?_) rfl (by kernel_rfl) (by kernel_rfl) (by kernel_rfl) (fun _ _ _ h => h) (.inl ⟨by rfl, ?_⟩) (by assumption) ?_
                    rotate_left
                    · (intro w9 hS9; (try dsimp only at hS9); go_simp; try (first | exact hq _ | with_reducible rfl))
                    try simp only [Act.put, List.setIfInBounds_toArray, List.set_cons_zero, List.set_cons_succ]
                    refine Rnd.take (i := 2) (v := ?_) rfl (by kernel_rfl) (by kernel_rfl) (by kernel_rfl) (fun _ _ _ h => h) (.inl ⟨by rfl, ?_⟩) (by assumption) ?_
                    rotate_left
                    · (intro w9 hS9; (try dsimp only at hS9); go_simp; try (first | exact hq _ | with_reducible rfl))
                    try simp only [Act.put, List.setIfInBounds_toArray, List.set_cons_zero, List.set_cons_succ]
                    refine Rnd.take (i := 3) (v := ?_) rfl (by kernel_rfl) (by kernel_rfl) (by kernel_rfl) (fun _ _ _ h => h) (.inl ⟨by rfl, ?_⟩) (by assumption) ?_
                    rotate_left
                    · (intro w9 hS9; (try dsimp only at hS9); go_simp; try (first | exact hq _ | with_reducible rfl))
                    try simp only [Act.put, List.setIfInBounds_toArray, List.set_cons_zero, List.set_cons_succ]
                    refine Rnd.take (i := 5) (v := ?_) rfl (by kernel_rfl) (by kernel_rfl) (by kernel_rfl) (fun _ _ _ h => h) (.inl ⟨by rfl, ?_⟩) (by assumption) ?_
                    rotate_left
                    · (intro w9 hS9; (try dsimp only at hS9); go_simp; try (first | exact hq _ | with_reducible rfl))
                    try simp only [Act.put, List.setIfInBounds_toArray, List.set_cons_zero, List.set_cons_succ]
                    refine wpAnyH_ready (rs := [4]) (by kernel_rfl) (by simp) ?_
                    refine AllReadyH.cons rfl (fun K hK => ?_) AllReadyH.nil
                    go_simp
                    refine (plan_is sj sp sn sc sev sti true _).mono ?_
                    first | rintro e w9 rfl hb9 | rintro e w9 ⟨rfl, hb9⟩
                    refine hK _ _ ⟨(hb9.cell (p := ⟨bp, 1, none⟩) hbpW).trans b1, (hb9.cell (p := ⟨bp, 2, none⟩) hbpW).trans b2, (hb9.cell (p := ⟨bs, os, none⟩) hbsW).trans e0, (hb9.cell (p := ⟨bs, os + 1, none⟩) hbsW).trans e1, (hb9.cell (p := ⟨bs, os + 2, none⟩) hbsW).trans e2, (hb9.cell (p := ⟨bs, os + 3, none⟩) hbsW).trans e3, (hb9.cell (p := ⟨bs, os + 4, none⟩) hbsW).trans e4, (hb9.cell (p := ⟨w1.heap.size, 0, none⟩) hw1W).trans g0, (hb9.cell (p := ⟨w1.heap.size, 1, none⟩) hw1W).trans g1, (hb9.cell (p := ⟨w1.heap.size, 2, none⟩) hw1W).trans g2⟩ (fun hHeld => ?_)
                    clear hK K
                    try simp only [Act.put, List.setIfInBounds_toArray, List.set_cons_zero, List.set_cons_succ]
                    refine Rnd.take (i := 6) (v := ?_) rfl (by kernel_rfl) (by kernel_rfl) (by kernel_rfl) (fun _ _ _ h => h) (.inl ⟨by rfl, ?_⟩) (by assumption) ?_
                    rotate_left
                    · (intro w9 hS9; (try dsimp only at hS9); go_simp; try (first | exact hq _ | with_reducible rfl))
                    try simp only [Act.put, List.setIfInBounds_toArray, List.set_cons_zero, List.set_cons_succ]
                    refine Rnd.take (i := 7) (v := ?_) rfl (by kernel_rfl) (by kernel_rfl) (by kernel_rfl) (fun _ _ _ h => h) (.inl ⟨by rfl, ?_⟩) (by assumption) ?_
                    rotate_left
                    · (intro w9 hS9; (try dsimp only at hS9); go_simp; try (first | exact hq _ | with_reducible rfl))
                    try simp only [Act.put, List.setIfInBounds_toArray, List.set_cons_zero, List.set_cons_succ]
                    refine Rnd.take (i := 8) (v := undef) rfl (by kernel_rfl) (by kernel_rfl) (by kernel_rfl) (fun _ _ _ h => h) (.inr ⟨by rfl, rfl⟩) (by assumption) ?_
                    try simp only [Act.put, List.setIfInBounds_toArray, List.set_cons_zero, List.set_cons_succ]
                    refine Rnd.take (i := 9) (v := undef) rfl (by kernel_rfl) (by kernel_rfl) (by kernel_rfl) (fun _ _ _ h => h) (.inr ⟨by rfl, rfl⟩) (by assumption) ?_
                    try simp only [Act.put, List.setIfInBounds_toArray, List.set_cons_zero, List.set_cons_succ]
                    refine Rnd.take (i := 10) (v := undef) rfl (by kernel_rfl) (by kernel_rfl) (by kernel_rfl) (fun _ _ _ h => h) (.inr ⟨by rfl, rfl⟩) (by assumption) ?_
                    try simp only [Act.put, List.setIfInBounds_toArray, List.set_cons_zero, List.set_cons_succ]
                    refine Rnd.take (i := 11) (v := ?_) rfl (by kernel_rfl) (by kernel_rfl) (by kernel_rfl) (fun _ _ _ h => h) (.inl ⟨by rfl, ?_⟩) (by assumption) ?_
                    rotate_left
                    · (intro w9 hS9; (try dsimp only at hS9); go_simp; try (first | exact hq _ | with_reducible rfl))
                    try simp only [Act.put, List.setIfInBounds_toArray, List.set_cons_zero, List.set_cons_succ]
                    refine Rnd.take (i := 12) (v := ?_) rfl (by kernel_rfl) (by kernel_rfl) (by kernel_rfl) (fun _ _ _ h => h) (.inl ⟨by rfl, ?_⟩) (by assumption) ?_
                    rotate_left
                    · (intro w9 hS9; (try dsimp only at hS9); go_simp; try (first | exact hq _ | with_reducible rfl))
                    try simp only [Act.put, List.setIfInBounds_toArray, List.set_cons_zero, List.set_cons_succ]
                    refine wpAnyH_done (by kernel_rfl) ?_ _
                    have hWb : Below N W w9 := ((Below.refl N W).drew).trans (hb9.mono hNW)
                    have hWk : Po.Keeps W w9 := Po.Keeps.of_below (((Below.refl _ W).drew).trans hb9)
                    have HM9 : Hid (Po.M N N s3 m3 w9) := HM3.out.kept fun i cur T fr e _ => (hb9.block i (show i < W.heap.size from (Array.getElem?_eq_some_iff.1 e).1)).trans e
                    have HA9 : Hid (Lab.At sp sl w9) := HAL.out.below (((Below.refl _ W).drew).trans hb9) (Nat.le_refl _)
                    have HWB := Lib.hid hWb
                    have HWK := Lib.hid hWk
                    have hN9 : N ≤ w9.heap.size := Nat.le_trans hNW hWb.size
                    clear hWb hWk
                    have j1 := hHeld.1
                    have j2 := hHeld.2.1
                    have j3 := hHeld.2.2.1
                    have j4 := hHeld.2.2.2.1
                    have j5 := hHeld.2.2.2.2.1
                    have j6 := hHeld.2.2.2.2.2.1
                    have j7 := hHeld.2.2.2.2.2.2.1
                    obtain ⟨V, hV⟩ : ∃ V, V = (w9.alloc (.cells #[.string sj, .slice sp sn sc, .int .i64 sev, .int .i64 sti, .bool true] 33)) := ⟨_, rfl⟩
                    have HV := Lib.hid hV
                    have zh : V.heap[w9.heap.size]? = some (.cells #[.string sj, .slice sp sn sc, .int .i64 sev, .int .i64 sti, .bool true] 33) := by rw [hV]; exact alloc_new _ _
                    have y2 : V.cell? ⟨bp, 2, none⟩ = some (.pointer none) := by rw [hV]; exact Lib.cell?_alloc_some _ j2
                    have hbV : Below w9.heap.size w9 V := by rw [hV]; exact (Below.refl _ _).alloc (Nat.le_refl _) _
                    have hzV : V.heap.size = w9.heap.size + 1 := by rw [hV]; simp
                    have HBV := Lib.hid hbV
                    have HZH := Lib.hid zh
                    have HZV := Lib.hid hzV
                    have x0 : V.cell? ⟨w9.heap.size, 0, none⟩ = some (.string sj) := by rw [Lib.cell_of_heap zh]; rfl
                    have x1 : V.cell? ⟨w9.heap.size, 1, none⟩ = some (.slice sp sn sc) := by rw [Lib.cell_of_heap zh]; rfl
                    have x2 : V.cell? ⟨w9.heap.size, 2, none⟩ = some (.int .i64 sev) := by rw [Lib.cell_of_heap zh]; rfl
                    have x3 : V.cell? ⟨w9.heap.size, 3, none⟩ = some (.int .i64 sti) := by rw [Lib.cell_of_heap zh]; rfl
                    have x4 : V.cell? ⟨w9.heap.size, 4, none⟩ = some (.bool true) := by rw [Lib.cell_of_heap zh]; rfl
                    have xf := Lib.frozen_of_heap zh 4
                    have hbpV : bp < V.heap.size := World.block_lt_of_cell? _ _ y2
                    clear hbV zh hV hHeld hb9
                    have HBU : Hid (Below V.heap.size V V) := Below.refl _ _
                    have HKD : Hid (OwnR kdR V.heap.size (.slice none 0 0) [] V) := OwnR.nil _ _ _
                    have hV2 := HV.out
                    gi_wp2_with (rw [← hV2]; clear hV2)
                    have hb11 : Below w9.heap.size w9 (V.setCell ⟨w9.heap.size, 4, none⟩ (.bool true)) := (HBV.out.trans (HBU.out.mono HBV.out.size)).setCell (p := ⟨w9.heap.size, 4, none⟩) (Nat.le_refl _) _
                    have HM11 : Hid (Po.M N N s3 m3 (V.setCell ⟨w9.heap.size, 4, none⟩ (.bool true))) := HM9.out.kept fun i cur T fr e _ => (hb11.block i (Array.getElem?_eq_some_iff.1 e).1).trans e
                    have HA11 : Hid (Lab.At sp sl (V.setCell ⟨w9.heap.size, 4, none⟩ (.bool true))) := HA9.out.below hb11 (Nat.le_refl _)
                    have HK11 : Hid (Po.KAt none [] (V.setCell ⟨w9.heap.size, 4, none⟩ (.bool true))) := .inl rfl
                    have HB11 := Lib.hid hb11
                    clear hb11
                    refine ⟨trivial, ?_⟩
                    refine ((callsIn_wide.2 (put_is N N s3 m3 ⟨⟨sj, sp, sn, sc, sl⟩, sev, sti, true⟩ none [] 0 0 _ HM11.out HA11.out hl2 hl1 HK11.out rfl (by omega) hbd1 hbd2)).inRound _).mono ?_
                    first | rintro e w10 rfl s5 m5 hM5 hv5 hm5 hb10 hk10 | rintro e w10 ⟨rfl, ⟨s5, m5, hM5, hv5, hm5⟩, hb10, hk10⟩
                    gi_wp2
                    have hz : ¬ (sev = ev ∧ sti = ti ∧ true = false ∧ tt.isSome = true) := fun h => HSAME.out ⟨h.1, h.2.1, (by first | exact h.2.2.1 | trivial)⟩
                    have ht : tt = none := by cases tt with | none => rfl | some t => obtain ⟨_, _, _, _, h, _⟩ := HS2.out; cases h
                    exact Po.step HMd.out HS.out HX1.out HX2.out HB5.out (by rw [HN5.out]; exact hgs) (by rw [HN5.out]; exact hgt) hM5 (by rw [List.map_cons, List.map_nil, hv5, Po.outS_other (s := ⟨⟨sj, sp, sn, sc, sl⟩, sev, sti, true⟩) hz]; rfl) (by rw [hm5, Po.outM_other (s := ⟨⟨sj, sp, sn, sc, sl⟩, sev, sti, true⟩) hz]; simp [ht]) (HWB.out.trans ((HB11.out.mono hN9).trans hb10)) (HWK.out.trans ((Po.Keeps.of_below HB11.out).trans hk10))
                  | some xa =>
                    refine Rnd.held (S := (fun w' => w'.cell? ⟨bp, 1, none⟩ = some (.pointer (some ⟨bs, os, none⟩)) ∧ w'.cell? ⟨bp, 2, none⟩ = some (.pointer (some xa)) ∧ w'.cell? ⟨bs, os, none⟩ = some (.string sj) ∧ w'.cell? ⟨bs, os + 1, none⟩ = some (.slice sp sn sc) ∧ w'.cell? ⟨bs, os + 2, none⟩ = some (.int .i64 sev) ∧ w'.cell? ⟨bs, os + 3, none⟩ = some (.int .i64 sti) ∧ w'.cell? ⟨bs, os + 4, none⟩ = some (.bool true) ∧ w'.cell? ⟨w1.heap.size, 0, none⟩ = some (.int .i64 ev) ∧ w'.cell? ⟨w1.heap.size, 1, none⟩ = some (.int .i64 ti) ∧ w'.cell? ⟨w1.heap.size, 2, none⟩ = some (.bool false))) (by kernel_rfl) (fun hh => by obtain ⟨_, _, hh⟩ := hh; exact hh) (by kernel_rfl) ⟨b1, b2, e0, e1, e2, e3, e4, g0, g1, g2⟩ (fun hHeld => ?_)
                    refine Rnd.take (i := 0) (v := ?_) rfl (by kernel_rfl) (by kernel_rfl) (by kernel_rfl) (fun _ _ _ h => h) (.inl ⟨by rfl, ?_⟩) (by assumption) ?_
                    rotate_left
                    · (intro w9 hS9; (try dsimp only at hS9); go_simp; try (first | exact hq _ | with_reducible rfl))
                    try simp only [Act.put, List.setIfInBounds_toArray, List.set_cons_zero, List.set_cons_succ]
                    refine Rnd.take (i := 1) (v := ?_) rfl (by kernel_rfl) (by kernel_rfl) (by kernel_rfl) (fun _ _ _ h => h) (.inl ⟨by rfl, ?_⟩) (by assumption) ?_
                    rotate_left
                    · (intro w9 hS9; (try dsimp only at hS9); go_simp; try (first | exact hq _ | with_reducible rfl))
                    try simp only [Act.put, List.setIfInBounds_toArray, List.set_cons_zero, List.set_cons_succ]
                    refine Rnd.take (i := 2) (v := ?_) rfl (by kernel_rfl) (by kernel_rfl) (by kernel_rfl) (fun _ _ _ h => h) (.inl ⟨by rfl, ?_⟩) (by assumption) ?_
                    rotate_left
                    · (intro w9 hS9; (try dsimp only at hS9); go_simp; try (first | exact hq _ | with_reducible rfl))
                    try simp only [Act.put, List.setIfInBounds_toArray, List.set_cons_zero, List.set_cons_succ]
                    refine Rnd.take (i := 3) (v := ?_) rfl (by kernel_rfl) (by kernel_rfl) (by kernel_rfl) (fun _ _ _ h => h) (.inl ⟨by rfl, ?_⟩) (by assumption) ?_
                    rotate_left
                    · (intro w9 hS9; (try dsimp only at hS9); go_simp; try (first | exact hq _ | with_reducible rfl))
                    try simp only [Act.put, List.setIfInBounds_toArray, List.set_cons_zero, List.set_cons_succ]
                    refine Rnd.take (i := 5) (v := ?_) rfl (by kernel_rfl) (by kernel_rfl) (by kernel_rfl) (fun _ _ _ h => h) (.inl ⟨by rfl, ?_⟩) (by assumption) ?_
                    rotate_left
                    · (intro w9 hS9; (try dsimp only at hS9); go_simp; try (first | exact hq _ | with_reducible rfl))
                    try simp only [Act.put, List.setIfInBounds_toArray, List.set_cons_zero, List.set_cons_succ]
                    refine wpAnyH_ready (rs := [4]) (by kernel_rfl) (by simp) ?_
                    refine AllReadyH.cons rfl (fun K hK => ?_) AllReadyH.nil
                    go_simp
                    refine (plan_is sj sp sn sc sev sti true _).mono ?_
                    first | rintro e w9 rfl hb9 | rintro e w9 ⟨rfl, hb9⟩
                    refine hK _ _ ⟨(hb9.cell (p := ⟨bp, 1, none⟩) hbpW).trans b1, (hb9.cell (p := ⟨bp, 2, none⟩) hbpW).trans b2, (hb9.cell (p := ⟨bs, os, none⟩) hbsW).trans e0, (hb9.cell (p := ⟨bs, os + 1, none⟩) hbsW).trans e1, (hb9.cell (p := ⟨bs, os + 2, none⟩) hbsW).trans e2, (hb9.cell (p := ⟨bs, os + 3, none⟩) hbsW).trans e3, (hb9.cell (p := ⟨bs, os + 4, none⟩) hbsW).trans e4, (hb9.cell (p := ⟨w1.heap.size, 0, none⟩) hw1W).trans g0, (hb9.cell (p := ⟨w1.heap.size, 1, none⟩) hw1W).trans g1, (hb9.cell (p := ⟨w1.heap.size, 2, none⟩) hw1W).trans g2⟩ (fun hHeld => ?_)
                    clear hK K
                    try simp only [Act.put, List.setIfInBounds_toArray, List.set_cons_zero, List.set_cons_succ]
                    refine Rnd.take (i := 6) (v := ?_) rfl (by kernel_rfl) (by kernel_rfl) (by kernel_rfl) (fun _ _ _ h => h) (.inl ⟨by rfl, ?_⟩) (by assumption) ?_
                    rotate_left
                    · (intro w9 hS9; (try dsimp only at hS9); go_simp; try (first | exact hq _ | with_reducible rfl))
                    try simp only [Act.put, List.setIfInBounds_toArray, List.set_cons_zero, List.set_cons_succ]
                    refine Rnd.take (i := 7) (v := ?_) rfl (by kernel_rfl) (by kernel_rfl) (by kernel_rfl) (fun _ _ _ h => h) (.inl ⟨by rfl, ?_⟩) (by assumption) ?_
                    rotate_left
                    · (intro w9 hS9; (try dsimp only at hS9); go_simp; try (first | exact hq _ | with_reducible rfl))
                    try simp only [Act.put, List.setIfInBounds_toArray, List.set_cons_zero, List.set_cons_succ]
                    refine Rnd.take (i := 8) (v := undef) rfl (by kernel_rfl) (by kernel_rfl) (by kernel_rfl) (fun _ _ _ h => h) (.inr ⟨by rfl, rfl⟩) (by assumption) ?_
                    try simp only [Act.put, List.setIfInBounds_toArray, List.set_cons_zero, List.set_cons_succ]
                    refine Rnd.take (i := 9) (v := undef) rfl (by kernel_rfl) (by kernel_rfl) (by kernel_rfl) (fun _ _ _ h => h) (.inr ⟨by rfl, rfl⟩) (by assumption) ?_
                    try simp only [Act.put, List.setIfInBounds_toArray, List.set_cons_zero, List.set_cons_succ]
                    refine Rnd.take (i := 10) (v := undef) rfl (by kernel_rfl) (by kernel_rfl) (by kernel_rfl) (fun _ _ _ h => h) (.inr ⟨by rfl, rfl⟩) (by assumption) ?_
                    try simp only [Act.put, List.setIfInBounds_toArray, List.set_cons_zero, List.set_cons_succ]
                    refine Rnd.take (i := 11) (v := ?_) rfl (by kernel_rfl) (by kernel_rfl) (by kernel_rfl) (fun _ _ _ h => h) (.inl ⟨by rfl, ?_⟩) (by assumption) ?_
                    rotate_left
                    · (intro w9 hS9; (try dsimp only at hS9); go_simp; try (first | exact hq _ | with_reducible rfl))
                    try simp only [Act.put, List.setIfInBounds_toArray, List.set_cons_zero, List.set_cons_succ]
                    refine Rnd.take (i := 12) (v := ?_) rfl (by kernel_rfl) (by kernel_rfl) (by kernel_rfl) (fun _ _ _ h => h) (.inl ⟨by rfl, ?_⟩) (by assumption) ?_
                    rotate_left
                    · (intro w9 hS9; (try dsimp only at hS9); go_simp; try (first | exact hq _ | with_reducible rfl))
                    try simp only [Act.put, List.setIfInBounds_toArray, List.set_cons_zero, List.set_cons_succ]
                    refine wpAnyH_done (by kernel_rfl) ?_ _
                    have hWb : Below N W w9 := ((Below.refl N W).drew).trans (hb9.mono hNW)
                    have hWk : Po.Keeps W w9 := Po.Keeps.of_below (((Below.refl _ W).drew).trans hb9)
                    have HM9 : Hid (Po.M N N s3 m3 w9) := HM3.out.kept fun i cur T fr e _ => (hb9.block i (show i < W.heap.size from (Array.getElem?_eq_some_iff.1 e).1)).trans e
                    have HA9 : Hid (Lab.At sp sl w9) := HAL.out.below (((Below.refl _ W).drew).trans hb9) (Nat.le_refl _)
                    have HWB := Lib.hid hWb
                    have HWK := Lib.hid hWk
                    have hN9 : N ≤ w9.heap.size := Nat.le_trans hNW hWb.size
                    clear hWb hWk
                    have j1 := hHeld.1
                    have j2 := hHeld.2.1
                    have j3 := hHeld.2.2.1
                    have j4 := hHeld.2.2.2.1
                    have j5 := hHeld.2.2.2.2.1
                    have j6 := hHeld.2.2.2.2.2.1
                    have j7 := hHeld.2.2.2.2.2.2.1
                    obtain ⟨V, hV⟩ : ∃ V, V = (w9.alloc (.cells #[.string sj, .slice sp sn sc, .int .i64 sev, .int .i64 sti, .bool true] 33)) := ⟨_, rfl⟩
                    have HV := Lib.hid hV
                    have zh : V.heap[w9.heap.size]? = some (.cells #[.string sj, .slice sp sn sc, .int .i64 sev, .int .i64 sti, .bool true] 33) := by rw [hV]; exact alloc_new _ _
                    have y2 : V.cell? ⟨bp, 2, none⟩ = some (.pointer (some xa)) := by rw [hV]; exact Lib.cell?_alloc_some _ j2
                    have hbV : Below w9.heap.size w9 V := by rw [hV]; exact (Below.refl _ _).alloc (Nat.le_refl _) _
                    have hzV : V.heap.size = w9.heap.size + 1 := by rw [hV]; simp
                    have HBV := Lib.hid hbV
                    have HZH := Lib.hid zh
                    have HZV := Lib.hid hzV
                    have x0 : V.cell? ⟨w9.heap.size, 0, none⟩ = some (.string sj) := by rw [Lib.cell_of_heap zh]; rfl
                    have x1 : V.cell? ⟨w9.heap.size, 1, none⟩ = some (.slice sp sn sc) := by rw [Lib.cell_of_heap zh]; rfl
                    have x2 : V.cell? ⟨w9.heap.size, 2, none⟩ = some (.int .i64 sev) := by rw [Lib.cell_of_heap zh]; rfl
                    have x3 : V.cell? ⟨w9.heap.size, 3, none⟩ = some (.int .i64 sti) := by rw [Lib.cell_of_heap zh]; rfl
                    have x4 : V.cell? ⟨w9.heap.size, 4, none⟩ = some (.bool true) := by rw [Lib.cell_of_heap zh]; rfl
                    have xf := Lib.frozen_of_heap zh 4
                    have hbpV : bp < V.heap.size := World.block_lt_of_cell? _ _ y2
                    clear hbV zh hV hHeld hb9
                    have HBU : Hid (Below V.heap.size V V) := Below.refl _ _
                    have HKD : Hid (OwnR kdR V.heap.size (.slice none 0 0) [] V) := OwnR.nil _ _ _
                    have hV2 := HV.out
                    gi_wp2_with (first | (rw [← hV2]; clear hV2) | (gi_at_builtin; refine wpListIn_pushRec kdOk 54 Try.underlying54 rfl _ _ rfl V.heap.size _ [] V rfl (by exact HKD.out) 3 _ _ rfl (w9.heap.size + 1) rfl HZV.out.symm (by simp) (by exact HBU.out.size) ?_))
                    intro v1 u9001 hk1 hg1
                    have hbu1 : Below V.heap.size V u9001 := (HBU.out.alloc HBU.out.size _).grown hg1 (by first | (simp; done) | (simp; exact Nat.le_succ_of_le HBU.out.size)) (fun j hj => (World.ownsRow.lt HKD.out j hj).1)
                    obtain ⟨pk1, ck1, hv1, _, _, _⟩ := hk1.shape
                    replace hv1 : v1 = .slice pk1 1 ck1 := hv1
                    subst hv1
                    clear HBU HKD
                    have HBU := Lib.hid hbu1
                    have HKD : Hid (OwnR kdR V.heap.size (.slice pk1 1 ck1) [3] u9001) := by first | exact hk1 | (show OwnR _ _ _ _ _; rw [HZV.out]; exact hk1)
                    have y2_1 := (hbu1.cell (p := ⟨bp, 2, none⟩) hbpV).trans y2
                    have x0_1 := (hbu1.cell (p := ⟨w9.heap.size, 0, none⟩) (show w9.heap.size < V.heap.size by rw [HZV.out]; omega)).trans x0
                    have x1_1 := (hbu1.cell (p := ⟨w9.heap.size, 1, none⟩) (show w9.heap.size < V.heap.size by rw [HZV.out]; omega)).trans x1
                    have x2_1 := (hbu1.cell (p := ⟨w9.heap.size, 2, none⟩) (show w9.heap.size < V.heap.size by rw [HZV.out]; omega)).trans x2
                    have x3_1 := (hbu1.cell (p := ⟨w9.heap.size, 3, none⟩) (show w9.heap.size < V.heap.size by rw [HZV.out]; omega)).trans x3
                    have x4_1 := (hbu1.cell (p := ⟨w9.heap.size, 4, none⟩) (show w9.heap.size < V.heap.size by rw [HZV.out]; omega)).trans x4
                    have xf_1 := Lib.frozen_of_heap ((hbu1.block w9.heap.size (show w9.heap.size < V.heap.size by rw [HZV.out]; omega)).trans HZH.out) 4
                    clear hbu1 hk1 hg1
                    gi_wp2_with fail
                    have hb11 : Below w9.heap.size w9 (u9001.setCell ⟨w9.heap.size, 4, none⟩ (.bool true)) := (HBV.out.trans (HBU.out.mono HBV.out.size)).setCell (p := ⟨w9.heap.size, 4, none⟩) (Nat.le_refl _) _
                    have HM11 : Hid (Po.M N N s3 m3 (u9001.setCell ⟨w9.heap.size, 4, none⟩ (.bool true))) := HM9.out.kept fun i cur T fr e _ => (hb11.block i (Array.getElem?_eq_some_iff.1 e).1).trans e
                    have HA11 : Hid (Lab.At sp sl (u9001.setCell ⟨w9.heap.size, 4, none⟩ (.bool true))) := HA9.out.below hb11 (Nat.le_refl _)
                    have HK11 : Hid (Po.KAt pk1 [3] (u9001.setCell ⟨w9.heap.size, 4, none⟩ (.bool true))) := Po.KAt.setT (Po.kAt_of HKD.out) ((HBU.out.block w9.heap.size (show w9.heap.size < V.heap.size by rw [HZV.out]; omega)).trans HZH.out) (by decide)
                    have HB11 := Lib.hid hb11
                    clear hb11
                    refine ⟨trivial, ?_⟩
                    refine ((callsIn_wide.2 (put_is N N s3 m3 ⟨⟨sj, sp, sn, sc, sl⟩, sev, sti, true⟩ pk1 [3] 1 ck1 _ HM11.out HA11.out hl2 hl1 HK11.out rfl (by omega) hbd1 hbd2)).inRound _).mono ?_
                    first | rintro e w10 rfl s5 m5 hM5 hv5 hm5 hb10 hk10 | rintro e w10 ⟨rfl, ⟨s5, m5, hM5, hv5, hm5⟩, hb10, hk10⟩
                    gi_wp2
                    have hz : ¬ (sev = ev ∧ sti = ti ∧ true = false ∧ tt.isSome = true) := fun h => HSAME.out ⟨h.1, h.2.1, (by first | exact h.2.2.1 | trivial)⟩
                    have ht : tt.isSome = true := by cases tt with | none => exact absurd HS2.out (by simp) | some t => rfl
                    exact Po.step HMd.out HS.out HX1.out HX2.out HB5.out (by rw [HN5.out]; exact hgs) (by rw [HN5.out]; exact hgt) hM5 (by rw [List.map_cons, List.map_nil, hv5, Po.outS_other (s := ⟨⟨sj, sp, sn, sc, sl⟩, sev, sti, true⟩) hz]; rfl) (by rw [hm5, Po.outM_other (s := ⟨⟨sj, sp, sn, sc, sl⟩, sev, sti, true⟩) hz]; simp [ht]) (HWB.out.trans ((HB11.out.mono hN9).trans hb10)) (HWK.out.trans ((Po.Keeps.of_below HB11.out).trans hk10))
                | false =>
                  cases xt with
                  | none =>
                    refine Rnd.held (S := (fun w' => w'.cell? ⟨bp, 1, none⟩ = some (.pointer (some ⟨bs, os, none⟩)) ∧ w'.cell? ⟨bp, 2, none⟩ = some (.pointer none) ∧ w'.cell? ⟨bs, os, none⟩ = some (.string sj) ∧ w'.cell? ⟨bs, os + 1, none⟩ = some (.slice sp sn sc) ∧ w'.cell? ⟨bs, os + 2, none⟩ = some (.int .i64 sev) ∧ w'.cell? ⟨bs, os + 3, none⟩ = some (.int .i64 sti) ∧ w'.cell? ⟨bs, os + 4, none⟩ = some (.bool false) ∧ w'.cell? ⟨w1.heap.size, 0, none⟩ = some (.int .i64 ev) ∧ w'.cell? ⟨w1.heap.size, 1, none⟩ = some (.int .i64 ti) ∧ w'.cell? ⟨w1.heap.size, 2, none⟩ = some (.bool false))) (by kernel_rfl) (fun hh => by obtain ⟨_, _, hh⟩ := hh; exact hh) (by kernel_rfl) ⟨b1, b2, e0, e1, e2, e3, e4, g0, g1, g2⟩ (fun hHeld => ?_)
                    refine Rnd.take (i := 0) (v := ?_) rfl (by kernel_rfl) (by kernel_rfl) (by kernel_rfl) (fun _ _ _ h => h) (.inl ⟨by rfl, ?_⟩) (by assumption) ?_
                    rotate_left
                    · (intro w9 hS9; (try dsimp only at hS9); go_simp; try (first | exact hq _ | with_reducible rfl))
                    try simp only [Act.put, List.setIfInBounds_toArray, List.set_cons_zero, List.set_cons_succ]
                    refine Rnd.take (i := 1) (v := ?_) rfl (by kernel_rfl) (by kernel_rfl) (by kernel_rfl) (fun _ _ _ h => h) (.inl ⟨by rfl, ?_⟩) (by assumption) ?_
                    rotate_left
                    · (intro w9 hS9; (try dsimp only at hS9); go_simp; try (first | exact hq _ | with_reducible rfl))
                    try simp only [Act.put, List.setIfInBounds_toArray, List.set_cons_zero, List.set_cons_succ]
                    refine Rnd.take (i := 2) (v := ?_) rfl (by kernel_rfl) (by kernel_rfl) (by kernel_rfl) (fun _ _ _ h => h) (.inl ⟨by rfl, ?_⟩) (by assumption) ?_
                    rotate_left
                    · (intro w9 hS9; (try dsimp only at hS9); go_simp; try (first | exact hq _ | with_reducible rfl))
                    try simp only [Act.put, List.setIfInBounds_toArray, List.set_cons_zero, List.set_cons_succ]
                    refine Rnd.take (i := 3) (v := ?_) rfl (by kernel_rfl) (by kernel_rfl) (by kernel_rfl) (fun _ _ _ h => h) (.inl ⟨by rfl, ?_⟩) (by assumption) ?_
                    rotate_left
                    · (intro w9 hS9; (try dsimp only at hS9); go_simp; try (first | exact hq _ | with_reducible rfl))
                    try simp only [Act.put, List.setIfInBounds_toArray, List.set_cons_zero, List.set_cons_succ]
                    refine Rnd.take (i := 5) (v := ?_) rfl (by kernel_rfl) (by kernel_rfl) (by kernel_rfl) (fun _ _ _ h => h) (.inl ⟨by rfl, ?_⟩) (by assumption) ?_
                    rotate_left
                    · (intro w9 hS9; (try dsimp only at hS9); go_simp; try (first | exact hq _ | with_reducible rfl))
                    try simp only [Act.put, List.setIfInBounds_toArray, List.set_cons_zero, List.set_cons_succ]
                    refine wpAnyH_ready (rs := [4]) (by kernel_rfl) (by simp) ?_
                    refine AllReadyH.cons rfl (fun K hK => ?_) AllReadyH.nil
                    go_simp
                    refine (plan_is sj sp sn sc sev sti false _).mono ?_
                    first | rintro e w9 rfl hb9 | rintro e w9 ⟨rfl, hb9⟩
                    refine hK _ _ ⟨(hb9.cell (p := ⟨bp, 1, none⟩) hbpW).trans b1, (hb9.cell (p := ⟨bp, 2, none⟩) hbpW).trans b2, (hb9.cell (p := ⟨bs, os, none⟩) hbsW).trans e0, (hb9.cell (p := ⟨bs, os + 1, none⟩) hbsW).trans e1, (hb9.cell (p := ⟨bs, os + 2, none⟩) hbsW).trans e2, (hb9.cell (p := ⟨bs, os + 3, none⟩) hbsW).trans e3, (hb9.cell (p := ⟨bs, os + 4, none⟩) hbsW).trans e4, (hb9.cell (p := ⟨w1.heap.size, 0, none⟩) hw1W).trans g0, (hb9.cell (p := ⟨w1.heap.size, 1, none⟩) hw1W).trans g1, (hb9.cell (p := ⟨w1.heap.size, 2, none⟩) hw1W).trans g2⟩ (fun hHeld => ?_)
                    clear hK K
                    try simp only [Act.put, List.setIfInBounds_toArray, List.set_cons_zero, List.set_cons_succ]
                    refine Rnd.take (i := 6) (v := ?_) rfl (by kernel_rfl) (by kernel_rfl) (by kernel_rfl) (fun _ _ _ h => h) (.inl ⟨by rfl, ?_⟩) (by assumption) ?_
                    rotate_left
                    · (intro w9 hS9; (try dsimp only at hS9); go_simp; try (first | exact hq _ | with_reducible rfl))
                    try simp only [Act.put, List.setIfInBounds_toArray, List.set_cons_zero, List.set_cons_succ]
                    refine Rnd.take (i := 7) (v := ?_) rfl (by kernel_rfl) (by kernel_rfl) (by kernel_rfl) (fun _ _ _ h => h) (.inl ⟨by rfl, ?_⟩) (by assumption) ?_
                    rotate_left
                    · (intro w9 hS9; (try dsimp only at hS9); go_simp; try (first | exact hq _ | with_reducible rfl))
                    try simp only [Act.put, List.setIfInBounds_toArray, List.set_cons_zero, List.set_cons_succ]
                    refine Rnd.take (i := 8) (v := undef) rfl (by kernel_rfl) (by kernel_rfl) (by kernel_rfl) (fun _ _ _ h => h) (.inr ⟨by rfl, rfl⟩) (by assumption) ?_
                    try simp only [Act.put, List.setIfInBounds_toArray, List.set_cons_zero, List.set_cons_succ]
                    refine Rnd.take (i := 9) (v := undef) rfl (by kernel_rfl) (by kernel_rfl) (by kernel_rfl) (fun _ _ _ h => h) (.inr ⟨by rfl, rfl⟩) (by assumption) ?_
                    try simp only [Act.put, List.setIfInBounds_toArray, List.set_cons_zero, List.set_cons_succ]
                    refine Rnd.take (i := 10) (v := undef) rfl (by kernel_rfl) (by kernel_rfl) (by kernel_rfl) (fun _ _ _ h => h) (.inr ⟨by rfl, rfl⟩) (by assumption) ?_
                    try simp only [Act.put, List.setIfInBounds_toArray, List.set_cons_zero, List.set_cons_succ]
                    refine Rnd.take (i := 11) (v := ?_) rfl (by kernel_rfl) (by kernel_rfl) (by kernel_rfl) (fun _ _ _ h => h) (.inl ⟨by rfl, ?_⟩) (by assumption) ?_
                    rotate_left
                    · (intro w9 hS9; (try dsimp only at hS9); go_simp; try (first | exact hq _ | with_reducible rfl))
                    try simp only [Act.put, List.setIfInBounds_toArray, List.set_cons_zero, List.set_cons_succ]
                    refine Rnd.take (i := 12) (v := ?_) rfl (by kernel_rfl) (by kernel_rfl) (by kernel_rfl) (fun _ _ _ h => h) (.inl ⟨by rfl, ?_⟩) (by assumption) ?_
                    rotate_left
                    · (intro w9 hS9; (try dsimp only at hS9); go_simp; try (first | exact hq _ | with_reducible rfl))
                    try simp only [Act.put, List.setIfInBounds_toArray, List.set_cons_zero, List.set_cons_succ]
                    refine wpAnyH_done (by kernel_rfl) ?_ _
                    have hWb : Below N W w9 := ((Below.refl N W).drew).trans (hb9.mono hNW)
                    have hWk : Po.Keeps W w9 := Po.Keeps.of_below (((Below.refl _ W).drew).trans hb9)
                    have HM9 : Hid (Po.M N N s3 m3 w9) := HM3.out.kept fun i cur T fr e _ => (hb9.block i (show i < W.heap.size from (Array.getElem?_eq_some_iff.1 e).1)).trans e
                    have HA9 : Hid (Lab.At sp sl w9) := HAL.out.below (((Below.refl _ W).drew).trans hb9) (Nat.le_refl _)
                    have HWB := Lib.hid hWb
                    have HWK := Lib.hid hWk
                    have hN9 : N ≤ w9.heap.size := Nat.le_trans hNW hWb.size
                    clear hWb hWk
                    have j1 := hHeld.1
                    have j2 := hHeld.2.1
                    have j3 := hHeld.2.2.1
                    have j4 := hHeld.2.2.2.1
                    have j5 := hHeld.2.2.2.2.1
                    have j6 := hHeld.2.2.2.2.2.1
                    have j7 := hHeld.2.2.2.2.2.2.1
                    obtain ⟨V, hV⟩ : ∃ V, V = (w9.alloc (.cells #[.string sj, .slice sp sn sc, .int .i64 sev, .int .i64 sti, .bool false] 33)) := ⟨_, rfl⟩
                    have HV := Lib.hid hV
                    have zh : V.heap[w9.heap.size]? = some (.cells #[.string sj, .slice sp sn sc, .int .i64 sev, .int .i64 sti, .bool false] 33) := by rw [hV]; exact alloc_new _ _
                    have y2 : V.cell? ⟨bp, 2, none⟩ = some (.pointer none) := by rw [hV]; exact Lib.cell?_alloc_some _ j2
                    have hbV : Below w9.heap.size w9 V := by rw [hV]; exact (Below.refl _ _).alloc (Nat.le_refl _) _
                    have hzV : V.heap.size = w9.heap.size + 1 := by rw [hV]; simp
                    have HBV := Lib.hid hbV
                    have HZH := Lib.hid zh
                    have HZV := Lib.hid hzV
                    have x0 : V.cell? ⟨w9.heap.size, 0, none⟩ = some (.string sj) := by rw [Lib.cell_of_heap zh]; rfl
                    have x1 : V.cell? ⟨w9.heap.size, 1, none⟩ = some (.slice sp sn sc) := by rw [Lib.cell_of_heap zh]; rfl
                    have x2 : V.cell? ⟨w9.heap.size, 2, none⟩ = some (.int .i64 sev) := by rw [Lib.cell_of_heap zh]; rfl
                    have x3 : V.cell? ⟨w9.heap.size, 3, none⟩ = some (.int .i64 sti) := by rw [Lib.cell_of_heap zh]; rfl
                    have x4 : V.cell? ⟨w9.heap.size, 4, none⟩ = some (.bool false) := by rw [Lib.cell_of_heap zh]; rfl
                    have xf := Lib.frozen_of_heap zh 4
                    have hbpV : bp < V.heap.size := World.block_lt_of_cell? _ _ y2
                    clear hbV zh hV hHeld hb9
                    have HBU : Hid (Below V.heap.size V V) := Below.refl _ _
                    have HKD : Hid (OwnR kdR V.heap.size (.slice none 0 0) [] V) := OwnR.nil _ _ _
                    have hV2 := HV.out
                    gi_wp2_with (first | (rw [← hV2]; clear hV2) | (gi_at_builtin; refine wpListIn_pushRec kdOk 54 Try.underlying54 rfl _ _ rfl V.heap.size _ [] V rfl (by exact HKD.out) 2 _ _ rfl (w9.heap.size + 1) rfl HZV.out.symm (by simp) (by exact HBU.out.size) ?_))
                    intro v1 u9001 hk1 hg1
                    have hbu1 : Below V.heap.size V u9001 := (HBU.out.alloc HBU.out.size _).grown hg1 (by first | (simp; done) | (simp; exact Nat.le_succ_of_le HBU.out.size)) (fun j hj => (World.ownsRow.lt HKD.out j hj).1)
                    obtain ⟨pk1, ck1, hv1, _, _, _⟩ := hk1.shape
                    replace hv1 : v1 = .slice pk1 1 ck1 := hv1
                    subst hv1
                    clear HBU HKD
                    have HBU := Lib.hid hbu1
                    have HKD : Hid (OwnR kdR V.heap.size (.slice pk1 1 ck1) [2] u9001) := by first | exact hk1 | (show OwnR _ _ _ _ _; rw [HZV.out]; exact hk1)
                    have y2_1 := (hbu1.cell (p := ⟨bp, 2, none⟩) hbpV).trans y2
                    have x0_1 := (hbu1.cell (p := ⟨w9.heap.size, 0, none⟩) (show w9.heap.size < V.heap.size by rw [HZV.out]; omega)).trans x0
                    have x1_1 := (hbu1.cell (p := ⟨w9.heap.size, 1, none⟩) (show w9.heap.size < V.heap.size by rw [HZV.out]; omega)).trans x1
                    have x2_1 := (hbu1.cell (p := ⟨w9.heap.size, 2, none⟩) (show w9.heap.size < V.heap.size by rw [HZV.out]; omega)).trans x2
                    have x3_1 := (hbu1.cell (p := ⟨w9.heap.size, 3, none⟩) (show w9.heap.size < V.heap.size by rw [HZV.out]; omega)).trans x3
                    have x4_1 := (hbu1.cell (p := ⟨w9.heap.size, 4, none⟩) (show w9.heap.size < V.heap.size by rw [HZV.out]; omega)).trans x4
                    have xf_1 := Lib.frozen_of_heap ((hbu1.block w9.heap.size (show w9.heap.size < V.heap.size by rw [HZV.out]; omega)).trans HZH.out) 4
                    clear hbu1 hk1 hg1
                    gi_wp2_with fail
                    have hb11 : Below w9.heap.size w9 (u9001.setCell ⟨w9.heap.size, 4, none⟩ (.bool true)) := (HBV.out.trans (HBU.out.mono HBV.out.size)).setCell (p := ⟨w9.heap.size, 4, none⟩) (Nat.le_refl _) _
                    have HM11 : Hid (Po.M N N s3 m3 (u9001.setCell ⟨w9.heap.size, 4, none⟩ (.bool true))) := HM9.out.kept fun i cur T fr e _ => (hb11.block i (Array.getElem?_eq_some_iff.1 e).1).trans e
                    have HA11 : Hid (Lab.At sp sl (u9001.setCell ⟨w9.heap.size, 4, none⟩ (.bool true))) := HA9.out.below hb11 (Nat.le_refl _)
                    have HK11 : Hid (Po.KAt pk1 [2] (u9001.setCell ⟨w9.heap.size, 4, none⟩ (.bool true))) := Po.KAt.setT (Po.kAt_of HKD.out) ((HBU.out.block w9.heap.size (show w9.heap.size < V.heap.size by rw [HZV.out]; omega)).trans HZH.out) (by decide)
                    have HB11 := Lib.hid hb11
                    clear hb11
                    refine ⟨trivial, ?_⟩
                    refine ((callsIn_wide.2 (put_is N N s3 m3 ⟨⟨sj, sp, sn, sc, sl⟩, sev, sti, true⟩ pk1 [2] 1 ck1 _ HM11.out HA11.out hl2 hl1 HK11.out rfl (by omega) hbd1 hbd2)).inRound _).mono ?_
                    first | rintro e w10 rfl s5 m5 hM5 hv5 hm5 hb10 hk10 | rintro e w10 ⟨rfl, ⟨s5, m5, hM5, hv5, hm5⟩, hb10, hk10⟩
                    gi_wp2
                    have hz : ¬ (sev = ev ∧ sti = ti ∧ false = false ∧ tt.isSome = true) := fun h => HSAME.out ⟨h.1, h.2.1, (by first | exact h.2.2.1 | trivial)⟩
                    have ht : tt = none := by cases tt with | none => rfl | some t => obtain ⟨_, _, _, _, h, _⟩ := HS2.out; cases h
                    exact Po.step HMd.out HS.out HX1.out HX2.out HB5.out (by rw [HN5.out]; exact hgs) (by rw [HN5.out]; exact hgt) hM5 (by rw [List.map_cons, List.map_nil, hv5, Po.outS_other (s := ⟨⟨sj, sp, sn, sc, sl⟩, sev, sti, false⟩) hz]; rfl) (by rw [hm5, Po.outM_other (s := ⟨⟨sj, sp, sn, sc, sl⟩, sev, sti, false⟩) hz]; simp [ht]) (HWB.out.trans ((HB11.out.mono hN9).trans hb10)) (HWK.out.trans ((Po.Keeps.of_below HB11.out).trans hk10))
                  | some xa =>
                    refine Rnd.held (S := (fun w' => w'.cell? ⟨bp, 1, none⟩ = some (.pointer (some ⟨bs, os, none⟩)) ∧ w'.cell? ⟨bp, 2, none⟩ = some (.pointer (some xa)) ∧ w'.cell? ⟨bs, os, none⟩ = some (.string sj) ∧ w'.cell? ⟨bs, os + 1, none⟩ = some (.slice sp sn sc) ∧ w'.cell? ⟨bs, os + 2, none⟩ = some (.int .i64 sev) ∧ w'.cell? ⟨bs, os + 3, none⟩ = some (.int .i64 sti) ∧ w'.cell? ⟨bs, os + 4, none⟩ = some (.bool false) ∧ w'.cell? ⟨w1.heap.size, 0, none⟩ = some (.int .i64 ev) ∧ w'.cell? ⟨w1.heap.size, 1, none⟩ = some (.int .i64 ti) ∧ w'.cell? ⟨w1.heap.size, 2, none⟩ = some (.bool false))) (by kernel_rfl) (fun hh => by obtain ⟨_, _, hh⟩ := hh; exact hh) (by kernel_rfl) ⟨b1, b2, e0, e1, e2, e3, e4, g0, g1, g2⟩ (fun hHeld => ?_)
                    refine Rnd.take (i := 0) (v := ?_) rfl (by kernel_rfl) (by kernel_rfl) (by kernel_rfl) (fun _ _ _ h => h) (.inl ⟨by rfl, ?_⟩) (by assumption) ?_
                    rotate_left
                    · (intro w9 hS9; (try dsimp only at hS9); go_simp; try (first | exact hq _ | with_reducible rfl))
                    try simp only [Act.put, List.setIfInBounds_toArray, List.set_cons_zero, List.set_cons_succ]
                    refine Rnd.take (i := 1) (v := ?_) rfl (by kernel_rfl) (by kernel_rfl) (by kernel_rfl) (fun _ _ _ h => h) (.inl ⟨by rfl, ?_⟩) (by assumption) ?_
                    rotate_left
                    · (intro w9 hS9; (try dsimp only at hS9); go_simp; try (first | exact hq _ | with_reducible rfl))
                    try simp only [Act.put, List.setIfInBounds_toArray, List.set_cons_zero, List.set_cons_succ]
                    refine Rnd.take (i := 2) (v := ?_) rfl (by kernel_rfl) (by kernel_rfl) (by kernel_rfl) (fun _ _ _ h => h) (.inl ⟨by rfl, ?_⟩) (by assumption) ?_
                    rotate_left
                    · (intro w9 hS9; (try dsimp only at hS9); go_simp; try (first | exact hq _ | with_reducible rfl))
                    try simp only [Act.put, List.setIfInBounds_toArray, List.set_cons_zero, List.set_cons_succ]
                    refine Rnd.take (i := 3) (v := ?_) rfl (by kernel_rfl) (by kernel_rfl) (by kernel_rfl) (fun _ _ _ h => h) (.inl ⟨by rfl, ?_⟩) (by assumption) ?_
                    rotate_left
                    · (intro w9 hS9; (try dsimp only at hS9); go_simp; try (first | exact hq _ | with_reducible rfl))
                    try simp only [Act.put, List.setIfInBounds_toArray, List.set_cons_zero, List.set_cons_succ]
                    refine Rnd.take (i := 5) (v := ?_) rfl (by kernel_rfl) (by kernel_rfl) (by kernel_rfl) (fun _ _ _ h => h) (.inl ⟨by rfl, ?_⟩) (by assumption) ?_
                    rotate_left
                    · (intro w9 hS9; (try dsimp only at hS9); go_simp; try (first | exact hq _ | with_reducible rfl))
                    try simp only [Act.put, List.setIfInBounds_toArray, List.set_cons_zero, List.set_cons_succ]
                    refine wpAnyH_ready (rs := [4]) (by kernel_rfl) (by simp) ?_
                    refine AllReadyH.cons rfl (fun K hK => ?_) AllReadyH.nil
                    go_simp
                    refine (plan_is sj sp sn sc sev sti false _).mono ?_
                    first | rintro e w9 rfl hb9 | rintro e w9 ⟨rfl, hb9⟩
                    refine hK _ _ ⟨(hb9.cell (p := ⟨bp, 1, none⟩) hbpW).trans b1, (hb9.cell (p := ⟨bp, 2, none⟩) hbpW).trans b2, (hb9.cell (p := ⟨bs, os, none⟩) hbsW).trans e0, (hb9.cell (p := ⟨bs, os + 1, none⟩) hbsW).trans e1, (hb9.cell (p := ⟨bs, os + 2, none⟩) hbsW).trans e2, (hb9.cell (p := ⟨bs, os + 3, none⟩) hbsW).trans e3, (hb9.cell (p := ⟨bs, os + 4, none⟩) hbsW).trans e4, (hb9.cell (p := ⟨w1.heap.size, 0, none⟩) hw1W).trans g0, (hb9.cell (p := ⟨w1.heap.size, 1, none⟩) hw1W).trans g1, (hb9.cell (p := ⟨w1.heap.size, 2, none⟩) hw1W).trans g2⟩ (fun hHeld => ?_)
                    clear hK K
                    try simp only [Act.put, List.setIfInBounds_toArray, List.set_cons_zero, List.set_cons_succ]
                    refine Rnd.take (i := 6) (v := ?_) rfl (by kernel_rfl) (by kernel_rfl) (by kernel_rfl) (fun _ _ _ h => h) (.inl ⟨by rfl, ?_⟩) (by assumption) ?_
                    rotate_left
                    · (intro w9 hS9; (try dsimp only at hS9); go_simp; try (first | exact hq _ | with_reducible rfl))
                    try simp only [Act.put, List.setIfInBounds_toArray, List.set_cons_zero, List.set_cons_succ]
                    refine Rnd.take (i := 7) (v := ?_) rfl (by kernel_rfl) (by kernel_rfl) (by kernel_rfl) (fun _ _ _ h => h) (.inl ⟨by rfl, ?_⟩) (by assumption) ?_
                    rotate_left
                    · (intro w9 hS9; (try dsimp only at hS9); go_simp; try (first | exact hq _ | with_reducible rfl))
                    try simp only [Act.put, List.setIfInBounds_toArray, List.set_cons_zero, List.set_cons_succ]
                    refine Rnd.take (i := 8) (v := undef) rfl (by kernel_rfl) (by kernel_rfl) (by kernel_rfl) (fun _ _ _ h => h) (.inr ⟨by rfl, rfl⟩) (by assumption) ?_
                    try simp only [Act.put, List.setIfInBounds_toArray, List.set_cons_zero, List.set_cons_succ]
                    refine Rnd.take (i := 9) (v := undef) rfl (by kernel_rfl) (by kernel_rfl) (by kernel_rfl) (fun _ _ _ h => h) (.inr ⟨by rfl, rfl⟩) (by assumption) ?_
                    try simp only [Act.put, List.setIfInBounds_toArray, List.set_cons_zero, List.set_cons_succ]
                    refine Rnd.take (i := 10) (v := undef) rfl (by kernel_rfl) (by kernel_rfl) (by kernel_rfl) (fun _ _ _ h => h) (.inr ⟨by rfl, rfl⟩) (by assumption) ?_
                    try simp only [Act.put, List.setIfInBounds_toArray, List.set_cons_zero, List.set_cons_succ]
                    refine Rnd.take (i := 11) (v := ?_) rfl (by kernel_rfl) (by kernel_rfl) (by kernel_rfl) (fun _ _ _ h => h) (.inl ⟨by rfl, ?_⟩) (by assumption) ?_
                    rotate_left
                    · (intro w9 hS9; (try dsimp only at hS9); go_simp; try (first | exact hq _ | with_reducible rfl))
                    try simp only [Act.put, List.setIfInBounds_toArray, List.set_cons_zero, List.set_cons_succ]
                    refine Rnd.take (i := 12) (v := ?_) rfl (by kernel_rfl) (by kernel_rfl) (by kernel_rfl) (fun _ _ _ h => h) (.inl ⟨by rfl, ?_⟩) (by assumption) ?_
                    rotate_left
                    · (intro w9 hS9; (try dsimp only at hS9); go_simp; try (first | exact hq _ | with_reducible rfl))
                    try simp only [Act.put, List.setIfInBounds_toArray, List.set_cons_zero, List.set_cons_succ]
                    refine wpAnyH_done (by kernel_rfl) ?_ _
                    have hWb : Below N W w9 := ((Below.refl N W).drew).trans (hb9.mono hNW)
                    have hWk : Po.Keeps W w9 := Po.Keeps.of_below (((Below.refl _ W).drew).trans hb9)
                    have HM9 : Hid (Po.M N N s3 m3 w9) := HM3.out.kept fun i cur T fr e _ => (hb9.block i (show i < W.heap.size from (Array.getElem?_eq_some_iff.1 e).1)).trans e
                    have HA9 : Hid (Lab.At sp sl w9) := HAL.out.below (((Below.refl _ W).drew).trans hb9) (Nat.le_refl _)
                    have HWB := Lib.hid hWb
                    have HWK := Lib.hid hWk
                    have hN9 : N ≤ w9.heap.size := Nat.le_trans hNW hWb.size
                    clear hWb hWk
                    have j1 := hHeld.1
                    have j2 := hHeld.2.1
                    have j3 := hHeld.2.2.1
                    have j4 := hHeld.2.2.2.1
                    have j5 := hHeld.2.2.2.2.1
                    have j6 := hHeld.2.2.2.2.2.1
                    have j7 := hHeld.2.2.2.2.2.2.1
                    obtain ⟨V, hV⟩ : ∃ V, V = (w9.alloc (.cells #[.string sj, .slice sp sn sc, .int .i64 sev, .int .i64 sti, .bool false] 33)) := ⟨_, rfl⟩
                    have HV := Lib.hid hV
                    have zh : V.heap[w9.heap.size]? = some (.cells #[.string sj, .slice sp sn sc, .int .i64 sev, .int .i64 sti, .bool false] 33) := by rw [hV]; exact alloc_new _ _
                    have y2 : V.cell? ⟨bp, 2, none⟩ = some (.pointer (some xa)) := by rw [hV]; exact Lib.cell?_alloc_some _ j2
                    have hbV : Below w9.heap.size w9 V := by rw [hV]; exact (Below.refl _ _).alloc (Nat.le_refl _) _
                    have hzV : V.heap.size = w9.heap.size + 1 := by rw [hV]; simp
                    have HBV := Lib.hid hbV
                    have HZH := Lib.hid zh
                    have HZV := Lib.hid hzV
                    have x0 : V.cell? ⟨w9.heap.size, 0, none⟩ = some (.string sj) := by rw [Lib.cell_of_heap zh]; rfl
                    have x1 : V.cell? ⟨w9.heap.size, 1, none⟩ = some (.slice sp sn sc) := by rw [Lib.cell_of_heap zh]; rfl
                    have x2 : V.cell? ⟨w9.heap.size, 2, none⟩ = some (.int .i64 sev) := by rw [Lib.cell_of_heap zh]; rfl
                    have x3 : V.cell? ⟨w9.heap.size, 3, none⟩ = some (.int .i64 sti) := by rw [Lib.cell_of_heap zh]; rfl
                    have x4 : V.cell? ⟨w9.heap.size, 4, none⟩ = some (.bool false) := by rw [Lib.cell_of_heap zh]; rfl
                    have xf := Lib.frozen_of_heap zh 4
                    have hbpV : bp < V.heap.size := World.block_lt_of_cell? _ _ y2
                    clear hbV zh hV hHeld hb9
                    have HBU : Hid (Below V.heap.size V V) := Below.refl _ _
                    have HKD : Hid (OwnR kdR V.heap.size (.slice none 0 0) [] V) := OwnR.nil _ _ _
                    have hV2 := HV.out
                    gi_wp2_with (first | (rw [← hV2]; clear hV2) | (gi_at_builtin; refine wpListIn_pushRec kdOk 54 Try.underlying54 rfl _ _ rfl V.heap.size _ [] V rfl (by exact HKD.out) 2 _ _ rfl (w9.heap.size + 1) rfl HZV.out.symm (by simp) (by exact HBU.out.size) ?_))
                    intro v1 u9001 hk1 hg1
                    have hbu1 : Below V.heap.size V u9001 := (HBU.out.alloc HBU.out.size _).grown hg1 (by first | (simp; done) | (simp; exact Nat.le_succ_of_le HBU.out.size)) (fun j hj => (World.ownsRow.lt HKD.out j hj).1)
                    obtain ⟨pk1, ck1, hv1, _, _, _⟩ := hk1.shape
                    replace hv1 : v1 = .slice pk1 1 ck1 := hv1
                    subst hv1
                    clear HBU HKD
                    have HBU := Lib.hid hbu1
                    have HKD : Hid (OwnR kdR V.heap.size (.slice pk1 1 ck1) [2] u9001) := by first | exact hk1 | (show OwnR _ _ _ _ _; rw [HZV.out]; exact hk1)
                    have y2_1 := (hbu1.cell (p := ⟨bp, 2, none⟩) hbpV).trans y2
                    have x0_1 := (hbu1.cell (p := ⟨w9.heap.size, 0, none⟩) (show w9.heap.size < V.heap.size by rw [HZV.out]; omega)).trans x0
                    have x1_1 := (hbu1.cell (p := ⟨w9.heap.size, 1, none⟩) (show w9.heap.size < V.heap.size by rw [HZV.out]; omega)).trans x1
                    have x2_1 := (hbu1.cell (p := ⟨w9.heap.size, 2, none⟩) (show w9.heap.size < V.heap.size by rw [HZV.out]; omega)).trans x2
                    have x3_1 := (hbu1.cell (p := ⟨w9.heap.size, 3, none⟩) (show w9.heap.size < V.heap.size by rw [HZV.out]; omega)).trans x3
                    have x4_1 := (hbu1.cell (p := ⟨w9.heap.size, 4, none⟩) (show w9.heap.size < V.heap.size by rw [HZV.out]; omega)).trans x4
                    have xf_1 := Lib.frozen_of_heap ((hbu1.block w9.heap.size (show w9.heap.size < V.heap.size by rw [HZV.out]; omega)).trans HZH.out) 4
                    clear hbu1 hk1 hg1
                    gi_wp2_with (first | (rw [← hV2]; clear hV2) | (gi_at_builtin; refine wpListIn_pushRec kdOk 54 Try.underlying54 rfl _ _ rfl V.heap.size _ [2] u9001 rfl (by exact HKD.out) 3 _ _ rfl u9001.heap.size rfl rfl (by simp) (by exact HBU.out.size) ?_))
                    intro v2 u9002 hk2 hg2
                    have hbu2 : Below V.heap.size V u9002 := (HBU.out.alloc HBU.out.size _).grown hg2 (by first | (simp; done) | (simp; exact Nat.le_succ_of_le HBU.out.size)) (fun j hj => (World.ownsRow.lt HKD.out j hj).1)
                    obtain ⟨pk2, ck2, hv2, _, _, _⟩ := hk2.shape
                    replace hv2 : v2 = .slice pk2 2 ck2 := hv2
                    subst hv2
                    clear HBU HKD
                    have HBU := Lib.hid hbu2
                    have HKD : Hid (OwnR kdR V.heap.size (.slice pk2 2 ck2) [2, 3] u9002) := by first | exact hk2 | (show OwnR _ _ _ _ _; rw [HZV.out]; exact hk2)
                    have y2_2 := (hbu2.cell (p := ⟨bp, 2, none⟩) hbpV).trans y2
                    have x0_2 := (hbu2.cell (p := ⟨w9.heap.size, 0, none⟩) (show w9.heap.size < V.heap.size by rw [HZV.out]; omega)).trans x0
                    have x1_2 := (hbu2.cell (p := ⟨w9.heap.size, 1, none⟩) (show w9.heap.size < V.heap.size by rw [HZV.out]; omega)).trans x1
                    have x2_2 := (hbu2.cell (p := ⟨w9.heap.size, 2, none⟩) (show w9.heap.size < V.heap.size by rw [HZV.out]; omega)).trans x2
                    have x3_2 := (hbu2.cell (p := ⟨w9.heap.size, 3, none⟩) (show w9.heap.size < V.heap.size by rw [HZV.out]; omega)).trans x3
                    have x4_2 := (hbu2.cell (p := ⟨w9.heap.size, 4, none⟩) (show w9.heap.size < V.heap.size by rw [HZV.out]; omega)).trans x4
                    have xf_2 := Lib.frozen_of_heap ((hbu2.block w9.heap.size (show w9.heap.size < V.heap.size by rw [HZV.out]; omega)).trans HZH.out) 4
                    clear hbu2 hk2 hg2
                    gi_wp2_with fail
                    have hb11 : Below w9.heap.size w9 (u9002.setCell ⟨w9.heap.size, 4, none⟩ (.bool true)) := (HBV.out.trans (HBU.out.mono HBV.out.size)).setCell (p := ⟨w9.heap.size, 4, none⟩) (Nat.le_refl _) _
                    have HM11 : Hid (Po.M N N s3 m3 (u9002.setCell ⟨w9.heap.size, 4, none⟩ (.bool true))) := HM9.out.kept fun i cur T fr e _ => (hb11.block i (Array.getElem?_eq_some_iff.1 e).1).trans e
                    have HA11 : Hid (Lab.At sp sl (u9002.setCell ⟨w9.heap.size, 4, none⟩ (.bool true))) := HA9.out.below hb11 (Nat.le_refl _)
                    have HK11 : Hid (Po.KAt pk2 [2, 3] (u9002.setCell ⟨w9.heap.size, 4, none⟩ (.bool true))) := Po.KAt.setT (Po.kAt_of HKD.out) ((HBU.out.block w9.heap.size (show w9.heap.size < V.heap.size by rw [HZV.out]; omega)).trans HZH.out) (by decide)
                    have HB11 := Lib.hid hb11
                    clear hb11
                    refine ⟨trivial, ?_⟩
                    refine ((callsIn_wide.2 (put_is N N s3 m3 ⟨⟨sj, sp, sn, sc, sl⟩, sev, sti, true⟩ pk2 [2, 3] 2 ck2 _ HM11.out HA11.out hl2 hl1 HK11.out rfl (by omega) hbd1 hbd2)).inRound _).mono ?_
                    first | rintro e w10 rfl s5 m5 hM5 hv5 hm5 hb10 hk10 | rintro e w10 ⟨rfl, ⟨s5, m5, hM5, hv5, hm5⟩, hb10, hk10⟩
                    gi_wp2
                    have hz : ¬ (sev = ev ∧ sti = ti ∧ false = false ∧ tt.isSome = true) := fun h => HSAME.out ⟨h.1, h.2.1, (by first | exact h.2.2.1 | trivial)⟩
                    have ht : tt.isSome = true := by cases tt with | none => exact absurd HS2.out (by simp) | some t => rfl
                    exact Po.step HMd.out HS.out HX1.out HX2.out HB5.out (by rw [HN5.out]; exact hgs) (by rw [HN5.out]; exact hgt) hM5 (by rw [List.map_cons, List.map_nil, hv5, Po.outS_other (s := ⟨⟨sj, sp, sn, sc, sl⟩, sev, sti, false⟩) hz]; rfl) (by rw [hm5, Po.outM_other (s := ⟨⟨sj, sp, sn, sc, sl⟩, sev, sti, false⟩) hz]; simp [ht]) (HWB.out.trans ((HB11.out.mono hN9).trans hb10)) (HWK.out.trans ((Po.Keeps.of_below HB11.out).trans hk10))
              -- END2
          case done =>
            rintro D xs W hD rfl hI hK
            obtain ⟨⟨s2, m2, hMd, vs, vm, _, hbm, hRo⟩, _, _, hb⟩ := hI
            obtain ⟨p2, c2, rfl, hc21, hc22, _⟩ := hRo.rs.shape
            have y0 : W.cell? ⟨N, 0, none⟩ = some (.slice p2 s2.length c2) := by rw [Lib.cell_of_heap hbm]; rfl
            have y1 : W.cell? ⟨N, 1, none⟩ = some vm := by rw [Lib.cell_of_heap hbm]; rfl
            unfold maxLen at hc22
            have hbw : Below w.heap.size w W := by
              have h1 := HB3.out
              have h2 := HB.out.size
              have h3 := HBX.out.size
              have h4 := HN5.out
              have h0 := h1.size
              exact h1.trans ((HB.out.mono (by omega)).trans ((HBX.out.mono (by omega)).trans (hb.mono (by omega))))
            have HRO := Lib.hid hRo
            have HMD := Lib.hid hMd
            have HK := Lib.hid hK
            have HBW := Lib.hid hbw
            have HB6 := Lib.hid hb
            clear hRo hMd hbm hK hbw hb HG5 HI0
            have hNw : w.heap.size ≤ N := by
              have h1 := HB3.out.size
              have h2 := HB.out.size
              have h3 := HBX.out.size
              have h4 := HN5.out
              omega
            have hMD : Po.Made w.heap.size ss ts w ev ti (Po.mrg (Po.hav b o ss ss.length) (Pr.comp Y Y.length)) s2 m2 := by
              have e1 := HXE.out
              have e2 := HZ.out
              have e3 := HN.out
              rw [e3, e1, e2]
              exact HMD.out
            have hWD : Below w.heap.size W (W.putObj D (.deferred none)) := belowK_b (w := w) (Nat.le_refl _) W D _ _ (by have := HZ6.out; omega) HK.out rfl rfl
            have HMD2 := Lib.hid hMD
            have HWD := Lib.hid hWD
            clear hMD hWD HMD
            have hP2 : Y.Perm (Po.wan b' o' ts ts.length) := by have e := HM.out; rw [e]; exact HP.out
            by_cases h3 : 3000 < s2.length
            · have q1 : (s2.length : Int) > 3000 := by omega
              go_wp2_with fail
              refine ⟨by simp, .inl ⟨_, _, rfl, run_takeDeferred HK.out, ?_⟩⟩
              refine ⟨_, results_tmp3 rfl _ _ _, ?_⟩
              exact ⟨⟨_, _, _, rfl, .inr ⟨HE0.out, b, o, b', o', Y, s2, m2, hP2, HU.out, HMD2.out, .inl ⟨h3, rfl, rfl, rfl⟩⟩⟩, HBW.out.trans HWD.out⟩
            · have q1 : ¬ ((s2.length : Int) > 3000) := by omega
              go_wp2_with fail
              go_quiet (fail)
              go_wp2_with fail
              refine ⟨by simp, .inl ⟨_, _, rfl, run_takeDeferred HK.out, ?_⟩⟩
              refine ⟨_, results_tmp3 rfl _ _ _, ?_⟩
              have hRD : Po.Rows w.heap.size (.slice p2 s2.length c2) vm s2 m2 ((W.drewN nq).putObj D (.deferred none)) := (HRO.out.lift hNw).kept fun i cur T fr e _ => by
                have hne : i ≠ D := fun e2 => by
                  subst e2
                  have e3 := HK.out
                  rw [e] at e3
                  cases e3
                exact (World.putObj_heap_other hne).trans e
              exact ⟨⟨_, _, _, rfl, .inr ⟨HE0.out, b, o, b', o', Y, s2, m2, hP2, HU.out, HMD2.out, .inr ⟨by omega, rfl, hRD⟩⟩⟩, HBW.out.trans (Below.trans (b := W.drewN nq) ⟨rfl, rfl, rfl, Nat.le_refl _, fun _ _ => rfl⟩ (belowK_b (w := w) (Nat.le_refl _) (W.drewN nq) D _ _ (by have := HZ6.out; omega) HK.out rfl rfl))⟩
end Go.Proofs.Ytpnpgjjbincigaa
