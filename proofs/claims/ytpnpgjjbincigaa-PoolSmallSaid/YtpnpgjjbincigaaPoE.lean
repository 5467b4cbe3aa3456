/- Slots and moves that a call makes itself. Contracts of pool: copied, put. Kinds of moves that a round appends: the push law for rows of records in a round; the row as put wants it. -/
import Derived.Test.YtpnpgjjbincigaaPoC
import Derived.Test.YtpnpgjjbincigaaSortT
import Derived.Deep.RegionLaw
import Derived.BigRegion
import Derived.Deep.DeepCutAuto
import Derived.Test.YtpnpgjjbincigaaPoD
namespace Go.Proofs.Ytpnpgjjbincigaa
open Go.RowKit
set_option linter.unusedVariables false

/-- a move -/
structure Mv where
  kind : Int
  t : Can.T
instance : Inhabited Mv := ⟨⟨0, default⟩⟩
def Mv.enc (m : Mv) : List Value := [.int .u8 m.kind, .string m.t.job, .slice m.t.p m.t.n m.t.c]
def mvR : Rec Mv := ⟨62, 3, 48, .agg #[.int .u8 0, .string ByteArray.empty, .slice none 0 0], Mv.enc⟩
theorem mvOk : Rec.Ok mvR where
  len _ := rfl
  one x v hv := by
    simp [mvR, Mv.enc] at hv
    rcases hv with rfl | rfl | rfl <;> rfl
  pos := by decide
  small := by decide
  info := by kernel_rfl
  zs := rfl
/-- a target whose labels are the call's own -/
def OwnT (B : Nat) (t : Can.T) (w : World) : Prop := t.ls.length = t.n ∧ OwnLabels B (.slice t.p t.n t.c) t.ls w
theorem OwnT.below {B C : Nat} {t : Can.T} {w w' : World} (h : OwnT B t w) (hb : Below C w w') (hC : w.heap.size ≤ C) : OwnT B t w' := ⟨h.1, h.2.below hb hC⟩
theorem OwnT.block {B : Nat} {t : Can.T} {w : World} (h : OwnT B t w) : t.p = none ∨ ∃ g, t.p = some ⟨g, 0, none⟩ ∧ g < w.heap.size := by
  obtain ⟨_, _, h2⟩ := h
  rcases h2 with ⟨h2, _⟩ | ⟨g, cap, cur, hv, hg, hh, _⟩
  · simp only [Value.slice.injEq] at h2; exact .inl h2.1
  · simp only [Value.slice.injEq] at hv; exact .inr ⟨g, hv.1, lt_of_heap hh⟩
/-- a row of the call's own grows, or is stored to: labels stay -/
theorem OwnT.grown {α : Type} {R : Rec α} {B B' : Nat} {t : Can.T} {v : Value} {l : List α} {w w' : World} (h : OwnT B t w) (hR : R.T ≠ 37) (hu : OwnR R B' v l w) (hg : w.grownBy w' v.ownBlock) : OwnT B t w' := by
  obtain ⟨h0, h1, h2⟩ := h
  refine ⟨h0, h1, ?_⟩
  rcases h2 with h2 | ⟨g, cap, cur, hv, hgB, hh, r⟩
  · exact .inl h2
  · refine .inr ⟨g, cap, cur, hv, hgB, ?_, r⟩
    rw [hg.block g (lt_of_heap hh) (fun e => ?_)]
    · exact hh
    · rcases hu.2 with ⟨rfl, _⟩ | ⟨g', cap', cur', rfl, _, hh', _⟩
      · simp [Value.ownBlock] at e
      · simp [Value.ownBlock] at e
        subst e
        rw [hh'] at hh
        simp at hh
        exact hR hh.2
theorem OwnR.grown2 {α β : Type} {R : Rec α} {S : Rec β} {B B' : Nat} {u v : Value} {k : List β} {l : List α} {w w' : World} (h : OwnR S B u k w) (hR : R.T ≠ S.T) (hu : OwnR R B' v l w) (hg : w.grownBy w' v.ownBlock) : OwnR S B u k w' := by
  obtain ⟨h1, h2⟩ := h
  refine ⟨h1, ?_⟩
  rcases h2 with h2 | ⟨g, cap, cur, hv, hgB, hh, r⟩
  · exact .inl h2
  · refine .inr ⟨g, cap, cur, hv, hgB, ?_, r⟩
    rw [hg.block g (lt_of_heap hh) (fun e => ?_)]
    · exact hh
    · rcases hu.2 with ⟨rfl, _⟩ | ⟨g', cap', cur', rfl, _, hh', _⟩
      · simp [Value.ownBlock] at e
      · simp [Value.ownBlock] at e
        subst e
        rw [hh'] at hh
        simp at hh
        exact hR hh.2

theorem OwnR.own_lt {α : Type} {R : Rec α} {B : Nat} {v : Value} {l : List α} {w : World} (h : OwnR R B v l w) : ∀ g, v.ownBlock = some g → B ≤ g ∧ g < w.heap.size := fun g hg => by
  rcases h.2 with ⟨rfl, _⟩ | ⟨g', cap', cur', rfl, h1, hh', _⟩
  · simp [Value.ownBlock] at hg
  · simp [Value.ownBlock] at hg
    subst hg
    exact ⟨h1, lt_of_heap hh'⟩
theorem OwnR.grown_block {α : Type} {R : Rec α} {B' b : Nat} {v : Value} {l : List α} {w w' : World} {cur : Array Value} {T : TypeId} (hu : OwnR R B' v l w) (hg : w.grownBy w' v.ownBlock) (hb : w.heap[b]? = some (.cells cur T)) (hT : T ≠ R.T) : w'.heap[b]? = some (.cells cur T) := by
  rw [hg.block b (lt_of_heap hb) (fun e => ?_)]
  · exact hb
  · rcases hu.2 with ⟨rfl, _⟩ | ⟨g', cap', cur', rfl, _, hh', _⟩
    · simp [Value.ownBlock] at e
    · simp [Value.ownBlock] at e
      subst e
      rw [hh'] at hb
      simp at hb
      exact hT hb.2.symm
theorem row_setT {B e k n g i : Nat} {v u : Value} {xs : List Value} {w : World} {cur : Array Value} {T : TypeId} (h : w.ownsRow B e k v n xs) (hg : w.heap[g]? = some (.cells cur T)) (hT : T ≠ e) : (w.setCell ⟨g, i, none⟩ u).ownsRow B e k v n xs := by
  obtain ⟨h1, h2⟩ := h
  refine ⟨h1, ?_⟩
  rcases h2 with h2 | ⟨g', cap, cur', hv, hgB, hh, r⟩
  · exact .inl h2
  · refine .inr ⟨g', cap, cur', hv, hgB, ?_, r⟩
    rw [heap_setCell_other w ⟨g, i, none⟩ g' u (fun e => ?_)]
    · exact hh
    · simp only at e
      subst e
      rw [hg] at hh
      simp only [Option.some.injEq, Obj.cells.injEq] at hh
      exact hT hh.2.1
theorem OwnT.setT {B g i : Nat} {t : Can.T} {u : Value} {w : World} {cur : Array Value} {T : TypeId} (h : OwnT B t w) (hg : w.heap[g]? = some (.cells cur T)) (hT : T ≠ 37) : OwnT B t (w.setCell ⟨g, i, none⟩ u) := ⟨h.1, row_setT h.2 hg hT⟩
theorem OwnR.setT {α : Type} {R : Rec α} {B g i : Nat} {v u : Value} {l : List α} {w : World} {cur : Array Value} {T : TypeId} (h : OwnR R B v l w) (hg : w.heap[g]? = some (.cells cur T)) (hT : T ≠ R.T) : OwnR R B v l (w.setCell ⟨g, i, none⟩ u) := row_setT h hg hT
theorem OwnT.lift {B B' : Nat} {t : Can.T} {w : World} (h : OwnT B t w) (hB : B' ≤ B) : OwnT B' t w := ⟨h.1, row_lift h.2 hB⟩

set_option maxHeartbeats 800000 in
set_option maxRecDepth 100000 in
theorem copiedT_is (j : ByteArray) (p : Option Addr) (ls : List Lab.L) (n c : Nat) (w : World) (hn : ls.length = n) (hA : Lab.At p ls w) (hl : n ≤ 4398046511104) :
    Calls Try.prog 51 #[.agg #[.string j, .slice p n c]] w fun e w' => (∃ q d, e = .returned (.agg #[.string j, .slice q n d]) ∧ OwnT w.heap.size ⟨j, q, n, d, ls⟩ w') ∧ Below w.heap.size w w' := by
  have HC := Lib.hid (fun w hA => clone2_is p ls n c w hn hA hl)
  have HN := Lib.hid hn
  clear hn
  go_enter Try.func51, Try.ntmps51
  have hb0 : Below w.heap.size w ((w.alloc (.cells #[.string j, .slice p n c] 29)).alloc (.cells #[.string ⟨#[]⟩, .slice none 0 0] 29)) := ((Below.refl _ _).alloc (Nat.le_refl _) _).alloc (by simp) _
  have hA2 := hA.below hb0 (Nat.le_refl _)
  go_wp2_with (go_at_call 82; refine (HC.out _ hA2).mono ?_)
  first | rintro e w2 v rfl hv hb2 | rintro e w2 ⟨⟨v, rfl, hv⟩, hb2⟩
  obtain ⟨q, d, rfl, _⟩ := OwnLabels.open hv
  have hN := HN.out
  rw [hN] at hv ⊢
  have hz2 := hb2.size
  simp only [World.size_alloc] at hz2
  have k0 : w2.heap[w.heap.size]? = some (.cells #[.string j, .slice p n c] 29) := below_kept hb2 (alloc_kept (alloc_new w _)) (by simp; omega)
  have k1 : w2.heap[w.heap.size + 1]? = some (.cells #[.string ⟨#[]⟩, .slice none 0 0] 29) := by
    have := alloc_new (w.alloc (.cells #[.string j, .slice p n c] 29)) (.cells #[.string ⟨#[]⟩, .slice none 0 0] 29)
    rw [World.size_alloc] at this
    exact below_kept hb2 this (by simp)
  have c0 : w2.cell? ⟨w.heap.size, 0, none⟩ = some (.string j) := by rw [Lib.cell_of_heap k0]; rfl
  have c1 : w2.cell? ⟨w.heap.size, 1, none⟩ = some (.slice p n c) := by rw [Lib.cell_of_heap k0]; rfl
  have c2 : w2.cell? ⟨w.heap.size + 1, 0, none⟩ = some (.string ⟨#[]⟩) := by rw [Lib.cell_of_heap k1]; rfl
  have c3 : w2.cell? ⟨w.heap.size + 1, 1, none⟩ = some (.slice none 0 0) := by rw [Lib.cell_of_heap k1]; rfl
  have f1 := Lib.frozen_of_heap k0 1
  have f2 := Lib.frozen_of_heap k1 0
  have f3 := Lib.frozen_of_heap k1 1
  have hbw : Below w.heap.size w w2 := hb0.trans (hb2.mono (by simp; omega))
  have hO0 : OwnT w.heap.size ⟨j, q, n, d, ls⟩ w2 := ⟨hN, row_lift hv (by simp; omega)⟩
  have s0 := heap_setCell_same w2 w.heap.size 1 _ _ (.slice q n d) k0
  have s1 := (heap_setCell_other w2 ⟨w.heap.size, 1, none⟩ (w.heap.size + 1) (.slice q n d) (by simp)).trans k1
  have hO1 : OwnT w.heap.size ⟨j, q, n, d, ls⟩ (w2.setCell ⟨w.heap.size, 1, none⟩ (.slice q n d)) := hO0.setT k0 (by decide)
  have s2 := heap_setCell_same _ (w.heap.size + 1) 0 _ _ (.string j) s1
  have hO2 := hO1.setT (i := 0) (u := .string j) s1 (by decide)
  have hO3 := hO2.setT (i := 1) (u := .slice q n d) s2 (by decide)
  have s3 := heap_setCell_same _ (w.heap.size + 1) 1 _ _ (.slice q n d) s2
  have HO3 := Lib.hid hO3
  have HS3 := Lib.hid s3
  have HB := Lib.hid hbw
  clear hv hb2 hO0 hO1 hO2 hO3 s0 s1 s2 s3 hA2 k0 k1 hbw
  go_wp2_with fail
  have d0 := Lib.cell_of_heap HS3.out
  refine bodyPost_ret (v := .agg #[.string j, .slice q n d]) ?_ rfl ⟨⟨q, d, rfl, HO3.out⟩, ?_⟩
  · have e0 := d0 0
    have e1 := d0 1
    generalize (((w2.setCell ⟨w.heap.size, 1, none⟩ (.slice q n d)).setCell ⟨w.heap.size + 1, 0, none⟩ (.string j)).setCell ⟨w.heap.size + 1, 1, none⟩ (.slice q n d)) = W at e0 e1
    simp at e0 e1
    simp [results, Try.results51, go_sem, e0, e1]
  · exact ((HB.out.setCell (p := ⟨w.heap.size, 1, none⟩) (Nat.le_refl _) _).setCell (p := ⟨w.heap.size + 1, 0, none⟩) (by simp) _).setCell (p := ⟨w.heap.size + 1, 1, none⟩) (by simp) _

/-! ### what a sync collects -/
def Po.Apart (ss : List Sl) (ms : List Mv) : Prop := ∀ s ∈ ss, ∀ m ∈ ms, s.t.p = m.t.p → s.t.p = none
/-- the collected slots and moves, in the block bm -/
structure Po.Rows (B : Nat) (vs vm : Value) (ss : List Sl) (ms : List Mv) (w : World) : Prop where
  rs : OwnR slR B vs ss w
  ts : ∀ s ∈ ss, OwnT B s.t w
  rm : OwnR mvR B vm ms w
  tm : ∀ m ∈ ms, OwnT B m.t w
  ap : Po.Apart ss ms
theorem Po.Rows.below {B C : Nat} {vs vm : Value} {ss : List Sl} {ms : List Mv} {w w' : World} (h : Po.Rows B vs vm ss ms w) (hb : Below C w w') (hC : w.heap.size ≤ C) : Po.Rows B vs vm ss ms w' :=
  ⟨h.rs.below hb hC, fun s hs => (h.ts s hs).below hb hC, h.rm.below hb hC, fun m hm => (h.tm m hm).below hb hC, h.ap⟩
theorem Po.Rows.setT {B g i : Nat} {vs vm u : Value} {ss : List Sl} {ms : List Mv} {w : World} {cur : Array Value} {T : TypeId} (h : Po.Rows B vs vm ss ms w) (hg : w.heap[g]? = some (.cells cur T)) (h1 : T ≠ 37) (h2 : T ≠ 33) (h3 : T ≠ 62) : Po.Rows B vs vm ss ms (w.setCell ⟨g, i, none⟩ u) :=
  ⟨h.rs.setT hg h2, fun s hs => (h.ts s hs).setT hg h1, h.rm.setT hg h3, fun m hm => (h.tm m hm).setT hg h1, h.ap⟩
theorem OwnT.away {B C : Nat} {t u : Can.T} {w w' : World} (ht : OwnT C t w') (hu : OwnT B u w) (hC : w.heap.size ≤ C) : t.p = u.p → t.p = none := by
  intro he
  rcases hu.block with h | ⟨g, h, hg⟩
  · rw [he, h]
  · obtain ⟨_, _, h2⟩ := ht
    rcases h2 with ⟨h2, _⟩ | ⟨g2, cap, cur, hv, hg2, _⟩
    · simp only [Value.slice.injEq] at h2; exact h2.1
    · simp only [Value.slice.injEq] at hv
      rw [he, h] at hv
      have := hv.1
      simp only [Option.some.injEq, Addr.mk.injEq] at this
      omega
theorem Po.Rows.pushS {B : Nat} {vs vm v2 : Value} {ss : List Sl} {ms : List Mv} {W w4 : World} (h : Po.Rows B vs vm ss ms W) (s2 : Sl) (ht : OwnT B s2.t W) (hf : ∀ m ∈ ms, s2.t.p = m.t.p → s2.t.p = none)
    (hown : OwnR slR B v2 (ss ++ [s2]) w4) (hg : W.grownBy w4 vs.ownBlock) : Po.Rows B v2 vm (ss ++ [s2]) ms w4 where
  rs := hown
  ts := fun s hs => by
    rw [List.mem_append, List.mem_singleton] at hs
    rcases hs with hs | rfl
    · exact (h.ts s hs).grown (by decide) h.rs hg
    · exact ht.grown (by decide) h.rs hg
  rm := h.rm.grown2 (by decide) h.rs hg
  tm := fun m hm => (h.tm m hm).grown (by decide) h.rs hg
  ap := fun s hs m hm => by
    rw [List.mem_append, List.mem_singleton] at hs
    rcases hs with hs | rfl
    · exact h.ap s hs m hm
    · exact hf m hm
theorem Po.Rows.pushM {B : Nat} {vs vm v2 : Value} {ss : List Sl} {ms : List Mv} {W w4 : World} (h : Po.Rows B vs vm ss ms W) (m2 : Mv) (ht : OwnT B m2.t W) (hf : ∀ s ∈ ss, m2.t.p = s.t.p → m2.t.p = none)
    (hown : OwnR mvR B v2 (ms ++ [m2]) w4) (hg : W.grownBy w4 vm.ownBlock) : Po.Rows B vs v2 ss (ms ++ [m2]) w4 where
  rs := h.rs.grown2 (by decide) h.rm hg
  ts := fun s hs => (h.ts s hs).grown (by decide) h.rm hg
  rm := hown
  tm := fun m hm => by
    rw [List.mem_append, List.mem_singleton] at hm
    rcases hm with hm | rfl
    · exact (h.tm m hm).grown (by decide) h.rm hg
    · exact ht.grown (by decide) h.rm hg
  ap := fun s hs m hm => by
    rw [List.mem_append, List.mem_singleton] at hm
    rcases hm with hm | rfl
    · exact h.ap s hs m hm
    · intro e
      rw [e]
      exact hf s hs e.symm
/-- kinds of moves in a block of bytes -/
def Po.KAt (p : Option Addr) (ks : List Int) (w : World) : Prop := ks = [] ∨ ∃ (b o : Nat) (cur : Array Value), p = some ⟨b, o, none⟩ ∧ w.heap[b]? = some (.cells cur 5) ∧ ∀ i (hi : i < ks.length), cur[o + i]? = some (.int .u8 ks[i])
theorem Po.KAt.below {p : Option Addr} {ks : List Int} {B : Nat} {w w' : World} (h : Po.KAt p ks w) (hb : Below B w w') (hB : w.heap.size ≤ B) : Po.KAt p ks w' := by
  rcases h with h | ⟨b, o, cur, h1, h2, h3⟩
  · exact .inl h
  · exact .inr ⟨b, o, cur, h1, (hb.block b (Nat.lt_of_lt_of_le (lt_of_heap h2) hB)).trans h2, h3⟩
theorem Po.KAt.setT {p : Option Addr} {ks : List Int} {g i : Nat} {u : Value} {w : World} {cur : Array Value} {T : TypeId} (h : Po.KAt p ks w) (hg : w.heap[g]? = some (.cells cur T)) (hT : T ≠ 5) : Po.KAt p ks (w.setCell ⟨g, i, none⟩ u) := by
  rcases h with h | ⟨b, o, cur', h1, h2, h3⟩
  · exact .inl h
  · refine .inr ⟨b, o, cur', h1, ?_, h3⟩
    rw [heap_setCell_other w ⟨g, i, none⟩ b u (fun e => ?_)]
    · exact h2
    · simp only at e
      subst e
      rw [hg] at h2
      simp only [Option.some.injEq, Obj.cells.injEq] at h2
      exact hT h2.2.1
theorem Po.KAt.grown {α : Type} {R : Rec α} {B' : Nat} {p : Option Addr} {ks : List Int} {v : Value} {l : List α} {w w' : World} (h : Po.KAt p ks w) (hR : R.T ≠ 5) (hu : OwnR R B' v l w) (hg : w.grownBy w' v.ownBlock) : Po.KAt p ks w' := by
  rcases h with h | ⟨b, o, cur', h1, h2, h3⟩
  · exact .inl h
  · exact .inr ⟨b, o, cur', h1, hu.grown_block hg h2 (Ne.symm hR), h3⟩
theorem Po.KAt.cell {p : Option Addr} {ks : List Int} {w : World} (h : Po.KAt p ks w) (i : Nat) (hi : i < ks.length) : ∃ b o, p = some ⟨b, o, none⟩ ∧ w.cell? ⟨b, o + i, none⟩ = some (.int .u8 ks[i]) := by
  rcases h with h | ⟨b, o, cur', h1, h2, h3⟩
  · subst h; cases hi
  · exact ⟨b, o, h1, by rw [Lib.cell_of_heap h2]; exact h3 i hi⟩
def Po.M (B bm : Nat) (ss : List Sl) (ms : List Mv) (w : World) : Prop := ∃ vs vm : Value, B ≤ bm ∧ w.heap[bm]? = some (.cells #[vs, vm] 88) ∧ Po.Rows B vs vm ss ms w
/-- blocks other than a call's moves, slots and rows of moves are as they were -/
def Po.other (o : Obj) : Prop := ∀ cur T, o = .cells cur T → T ≠ 88 ∧ T ≠ 33 ∧ T ≠ 62
def Po.Keeps (w w' : World) : Prop := ∀ (k : Nat) (o : Obj), w.heap[k]? = some o → Po.other o → w'.heap[k]? = some o
theorem Po.Keeps.refl (w : World) : Po.Keeps w w := fun _ _ h _ => h
theorem Po.Keeps.trans {a b c : World} (h : Po.Keeps a b) (k : Po.Keeps b c) : Po.Keeps a c := fun i o hi ho => k i o (h i o hi ho) ho
theorem Po.Keeps.of_below {w w' : World} (h : Below w.heap.size w w') : Po.Keeps w w' := fun k _ hk _ => (h.block k (Array.getElem?_eq_some_iff.1 hk).1).trans hk
theorem Po.Keeps.set {w : World} {g i : Nat} {cur : Array Value} {T : TypeId} (u : Value) (hg : w.heap[g]? = some (.cells cur T)) (hT : T = 88 ∨ T = 33 ∨ T = 62) : Po.Keeps w (w.setCell ⟨g, i, none⟩ u) := fun k o hk ho => by
  rw [heap_setCell_other _ ⟨g, i, none⟩ k _ (fun e => ?_)]
  · exact hk
  · have e : k = g := e
    subst e
    rw [hg] at hk
    simp only [Option.some.injEq] at hk
    obtain ⟨h1, h2, h3⟩ := ho cur T hk.symm
    rcases hT with hT | hT | hT
    · exact h1 hT
    · exact h2 hT
    · exact h3 hT
theorem Po.Keeps.grown {α : Type} {R : Rec α} {B : Nat} {v : Value} {l : List α} {w w' : World} (hR : R.T = 33 ∨ R.T = 62) (hu : OwnR R B v l w) (hg : w.grownBy w' v.ownBlock) : Po.Keeps w w' := fun k o hk ho => by
  rw [hg.block k (Array.getElem?_eq_some_iff.1 hk).1 (fun e => ?_)]
  · exact hk
  · rcases hu.2 with ⟨rfl, _⟩ | ⟨g', cap', cur', rfl, _, hh', _⟩
    · simp [Value.ownBlock] at e
    · simp [Value.ownBlock] at e
      subst e
      rw [hh'] at hk
      simp only [Option.some.injEq] at hk
      obtain ⟨h1, h2, h3⟩ := ho _ _ hk.symm
      rcases hR with hR | hR
      · exact h2 hR
      · exact h3 hR
/-- what is seen of a slot, and of a move -/
def Sl.view (s : Sl) : ByteArray × List Lab.L × Int × Int × Bool := (s.t.job, s.t.ls, s.ev, s.ti, s.en)
def Mv.view (m : Mv) : Int × ByteArray × List Lab.L := (m.kind, m.t.job, m.t.ls)

set_option maxHeartbeats 3200000 in
set_option maxRecDepth 100000 in
theorem put_is (B bm : Nat) (ss : List Sl) (ms : List Mv) (s : Sl) (kp : Option Addr) (ks : List Int) (kn kc : Nat) (w : World) (hM : Po.M B bm ss ms w) (hA : Lab.At s.t.p s.t.ls w) (hn : s.t.ls.length = s.t.n) (hl : s.t.n ≤ 100000)
    (hK : Po.KAt kp ks w) (hkn : ks.length = kn) (hkl : kn ≤ 3) (hsl : ss.length ≤ 1000000) (hml : ms.length ≤ 10000000) :
    Calls Try.prog 49 #[.pointer (some ⟨bm, 0, none⟩), .agg #[.string s.t.job, .slice s.t.p s.t.n s.t.c, .int .i64 s.ev, .int .i64 s.ti, .bool s.en], .slice kp kn kc] w fun e w' =>
      e = .returned (.tuple #[]) ∧ (∃ s2 ms2, Po.M B bm (ss ++ [s2]) (ms ++ ms2) w' ∧ Sl.view s2 = Sl.view s ∧ ms2.map Mv.view = ks.map fun k => (k, s.t.job, s.t.ls)) ∧ Below B w w' ∧ Po.Keeps w w' := by
  obtain ⟨⟨j, p, n, c, ls⟩, ev, ti, en⟩ := s
  dsimp only at hA hn hl ⊢
  obtain ⟨vs, vm, hBm, hbm, hR⟩ := hM
  have hlt := lt_of_heap hbm
  have HC := Lib.hid (fun w hA => copiedT_is j p ls n c w hn hA (by omega))
  have HR := Lib.hid hR
  have HVS : Hid (∀ g, vs.ownBlock = some g → B ≤ g ∧ g < w.heap.size) := hR.rs.own_lt
  have HVM : Hid (∀ g, vm.ownBlock = some g → B ≤ g ∧ g < w.heap.size) := hR.rm.own_lt
  have HK := Lib.hid hK
  have HKN := Lib.hid hkn
  have HLN := Lib.hid hn
  have HBM := Lib.hid hbm
  have mixed : Try.prog.follows .mixedOrders = true := by kernel_rfl
  clear hn hR hK hkn hbm
  go_enter Try.func49, Try.ntmps49
  have hb0 : Below w.heap.size w (w.alloc (.cells #[.string j, .slice p n c, .int .i64 ev, .int .i64 ti, .bool en] 33)) := (Below.refl _ _).alloc (Nat.le_refl _) _
  go_wp2_with (go_at_call 51; refine (HC.out _ (hA.below hb0 (Nat.le_refl _))).mono ?_)
  first | rintro e w1 q d rfl hO hb1 | rintro e w1 ⟨⟨q, d, rfl, hO⟩, hb1⟩
  have hz1 := hb1.size
  simp only [World.size_alloc] at hz1
  have hbw : Below w.heap.size w w1 := hb0.trans (hb1.mono (by simp))
  have k0 : w1.heap[w.heap.size]? = some (.cells #[.string j, .slice p n c, .int .i64 ev, .int .i64 ti, .bool en] 33) := below_kept hb1 (alloc_new w _) (by simp)
  have c0 : w1.cell? ⟨w.heap.size, 0, none⟩ = some (.string j) := by rw [Lib.cell_of_heap k0]; rfl
  have c1 : w1.cell? ⟨w.heap.size, 1, none⟩ = some (.slice p n c) := by rw [Lib.cell_of_heap k0]; rfl
  have f0 := Lib.frozen_of_heap k0 0
  have f1 := Lib.frozen_of_heap k0 1
  have hO1 : OwnT B ⟨j, q, n, d, ls⟩ w1 := hO.lift (by simp; omega)
  have HFR : Hid (∀ m ∈ ms, q = m.t.p → q = none) := fun m hm => hO.away (HR.out.tm m hm) (by simp)
  have HO := Lib.hid hO1
  have HBW := Lib.hid hbw
  have HK0 := Lib.hid k0
  clear hO hO1 hb1 hA hb0 hbw k0
  go_upto_region 2 with fail
  obtain ⟨W1, hW1⟩ : ∃ W, W = (w1.setCell ⟨w.heap.size, 0, none⟩ (.string j)).setCell ⟨w.heap.size, 1, none⟩ (.slice q n d) := ⟨_, rfl⟩
  have s0 := heap_setCell_same w1 w.heap.size 0 _ _ (.string j) HK0.out
  have s1 := heap_setCell_same _ w.heap.size 1 _ _ (.slice q n d) s0
  have hne : bm ≠ w.heap.size := by omega
  have hbm1 : w1.heap[bm]? = some (.cells #[vs, vm] 88) := (HBW.out.block bm hlt).trans HBM.out
  have hbm2 : W1.heap[bm]? = some (.cells #[vs, vm] 88) := by
    rw [hW1, heap_setCell_other _ ⟨w.heap.size, 1, none⟩ bm _ hne, heap_setCell_other _ ⟨w.heap.size, 0, none⟩ bm _ hne]
    exact hbm1
  have hBW0 : Below w.heap.size w W1 := by
    rw [hW1]
    exact (HBW.out.setCell (p := ⟨w.heap.size, 0, none⟩) (Nat.le_refl _) _).setCell (p := ⟨w.heap.size, 1, none⟩) (Nat.le_refl _) _
  have hRW : Po.Rows B vs vm ss ms W1 := HR.out.below hBW0 (Nat.le_refl _)
  have hOW : OwnT B ⟨j, q, n, d, ls⟩ W1 := by
    rw [hW1]
    exact (HO.out.setT HK0.out (by decide)).setT s0 (by decide)
  rw [← hW1] at s1 ⊢
  have hzW : W1.heap.size = w1.heap.size := by rw [hW1]; simp
  have hzz : w.heap.size < W1.heap.size := by rw [hzW]; omega
  have x0 : W1.cell? ⟨w.heap.size, 0, none⟩ = some (.string j) := by rw [Lib.cell_of_heap s1]; rfl
  have x1 : W1.cell? ⟨w.heap.size, 1, none⟩ = some (.slice q n d) := by rw [Lib.cell_of_heap s1]; rfl
  have x2 : W1.cell? ⟨w.heap.size, 2, none⟩ = some (.int .i64 ev) := by rw [Lib.cell_of_heap s1]; rfl
  have x3 : W1.cell? ⟨w.heap.size, 3, none⟩ = some (.int .i64 ti) := by rw [Lib.cell_of_heap s1]; rfl
  have x4 : W1.cell? ⟨w.heap.size, 4, none⟩ = some (.bool en) := by rw [Lib.cell_of_heap s1]; rfl
  have y0 : W1.cell? ⟨bm, 0, none⟩ = some vs := by rw [Lib.cell_of_heap hbm2]; rfl
  have hBW1 : Below B w W1 := hBW0.mono (by omega)
  have HK1 := Lib.hid (HK.out.below hBW0 (Nat.le_refl _))
  have HS1 := Lib.hid s1
  have HBM2 := Lib.hid hbm2
  have HRW := Lib.hid hRW
  have HOW := Lib.hid hOW
  have HBW1 := Lib.hid hBW1
  have HKW1 : Hid (Po.Keeps w W1) := Po.Keeps.of_below hBW0
  have HZW := Lib.hid hzW
  have h63 : B ≤ W1.heap.size := by omega
  clear hW1 s0 s1 hbm1 hbm2 hRW hOW hBW1 hBW0 HK0 HO HR c0 c1 f0 f1 hne hzW
  have hBX : B ≤ (W1.alloc (.cells #[.string j, .slice q n d, .int .i64 ev, .int .i64 ti, .bool en] 33)).heap.size := by simp; omega
  have HOA : Hid (OwnR slR B vs ss (W1.alloc (.cells #[.string j, .slice q n d, .int .i64 ev, .int .i64 ti, .bool en] 33)).drew) := HRW.out.rs.alloc _
  have HNB : Hid (((W1.alloc (.cells #[.string j, .slice q n d, .int .i64 ev, .int .i64 ti, .bool en] 33)).drew).heap[W1.heap.size]? = some (.cells #[.string j, .slice q n d, .int .i64 ev, .int .i64 ti, .bool en] 33)) := alloc_new W1 _
  have HBA : Hid ((W1.alloc (.cells #[.string j, .slice q n d, .int .i64 ev, .int .i64 ti, .bool en] 33)).drew.heap[bm]? = some (.cells #[vs, vm] 88)) := alloc_kept HBM2.out
  have y1 := Lib.cell?_alloc_some (.cells #[.string j, .slice q n d, .int .i64 ev, .int .i64 ti, .bool en] 33) y0
  go_cut [] from 12 to 21 (fun wx => ∃ v2 : Value, wx.heap[bm]? = some (.cells #[v2, vm] 88) ∧ Po.Rows B v2 vm (ss ++ [⟨⟨j, q, n, d, ls⟩, ev, ti, en⟩]) ms wx ∧ wx.heap[w.heap.size]? = some (.cells #[.string j, .slice q n d, .int .i64 ev, .int .i64 ti, .bool en] 33) ∧ (Below B w wx ∧ Po.Keeps w wx) ∧ w.heap.size < wx.heap.size ∧ Po.KAt kp ks wx)
  case first =>
    go_region_law (refine step_pushRec slOk 22 Try.underlying22 (by rfl) (.tmp 16) (.tmp 18) (by rfl) B vs ss (by simp [Act.eval]) HOA.out ⟨⟨j, q, n, d, ls⟩, ev, ti, en⟩ _ (by rfl) W1.heap.size 1 (by simp [Act.eval]) HNB.out (by omega) (by simpa using hBX) ?_; intro g2 cap2 w4 hown4 hgrow; have k4 := HOA.out.grown_block hgrow HBA.out (by decide); have q4 : w4.cell? ⟨bm, 0, none⟩ = some vs := (by rw [Lib.cell_of_heap k4]; rfl); have q5 := Lib.frozen_of_heap k4 0)
    all_goals (go_wp2_with fail; go_meet; exact ⟨_, heap_setCell_same _ bm 0 _ _ _ k4, (((HRW.out.below (((Below.refl _ _).alloc (Nat.le_refl _) _).drew) (Nat.le_refl _)).pushS (s2 := ⟨⟨j, q, n, d, ls⟩, ev, ti, en⟩) (HOW.out.below (((Below.refl _ _).alloc (Nat.le_refl _) _).drew) (Nat.le_refl _)) HFR.out hown4 hgrow).setT k4 (by decide) (by decide) (by decide)), (heap_setCell_other w4 ⟨bm, 0, none⟩ w.heap.size _ (by show w.heap.size ≠ bm; omega)).trans ((hgrow.block w.heap.size (by simp; omega) (fun e => by have := (HVS.out _ e.symm).2; omega)).trans (alloc_kept HS1.out)), ⟨(((HBW1.out.alloc h63 _).drew.grown hgrow (by simpa using hBX) (fun g hg => (HVS.out g hg).1)).setCell (p := ⟨bm, 0, none⟩) hBm _), (HKW1.out.trans (Po.Keeps.of_below (((Below.refl _ _).alloc (Nat.le_refl _) _).drew))).trans ((Po.Keeps.grown (.inl rfl) HOA.out hgrow).trans (Po.Keeps.set _ k4 (.inl rfl)))⟩, (by have := hgrow.size; have := HZW.out; simp at *; omega), (((HK1.out.below (((Below.refl _ _).alloc (Nat.le_refl _) _).drew) (Nat.le_refl _)).grown (by decide) HOA.out hgrow).setT k4 (by decide))⟩)
  case rest =>
    obtain ⟨v2, hbm3, hR3, hbox, hB3, hz3, hK3⟩ := hcut
    have HBM3 := Lib.hid hbm3
    have HR3 := Lib.hid hR3
    have HBX3 := Lib.hid hbox
    have HK3 := Lib.hid hK3
    clear hbm3 hR3 hbox hK3 HKW1 HRW HOW HOA HBM2 HBW1 HNB HBA HS1 HFR HZW hzz h63 hBX y0 y1 x0 x1 x2 x3 x4 HK1 HC HVM HVS HBW HK HBM hz1
    obtain ⟨s2, hs2⟩ : ∃ s2 : Sl, s2 = ⟨⟨j, q, n, d, ls⟩, ev, ti, en⟩ := ⟨_, rfl⟩
    rw [← hs2] at HR3
    have HS2 := Lib.hid hs2
    clear hs2
    have hCC : ∀ w, Lab.At q ls w → Calls Try.prog 51 #[.agg #[.string j, .slice q n d]] w fun e w' => (∃ q2 d2, e = .returned (.agg #[.string j, .slice q2 n d2]) ∧ OwnT w.heap.size ⟨j, q2, n, d2, ls⟩ w') ∧ Below w.heap.size w w' := fun w hA => copiedT_is j q ls n d w HLN.out hA (by omega)
    have HCC := Lib.hid hCC
    clear hCC
    go_wp2_with fail
    go_loopw [7, 24] (fun _ iv wr => ∃ (k : Nat) (ms2 : List Mv) (v3 : Value), k ≤ kn ∧ iv = .int .i64 (k : Int) ∧ Hid (wr.heap[bm]? = some (.cells #[v2, v3] 88)) ∧ Hid (Po.Rows B v2 v3 (ss ++ [s2]) (ms ++ ms2) wr) ∧ Hid (wr.heap[w.heap.size]? = some (.cells #[.string j, .slice q n d, .int .i64 ev, .int .i64 ti, .bool en] 33)) ∧ Hid (Po.KAt kp ks wr) ∧ Hid (ms2.map Mv.view = (ks.take k).map fun x => (x, j, ls)) ∧ (Below B w wr ∧ Po.Keeps w wr) ∧ w.heap.size < wr.heap.size) (fun _ iv _ => kn - (intOf iv).toNat)
    case atStart => exact ⟨0, [], vm, Nat.zero_le _, rfl, HBM3, (by show Po.Rows _ _ _ _ _ _; rw [List.append_nil]; exact HR3.out), HBX3, HK3, rfl, hB3, hz3⟩
    case round =>
      clear HBM3 HR3 HBX3 HK3 hB3 hz3
      obtain ⟨wj, rfl⟩ : ∃ wo : World, wo = wr := ⟨_, rfl⟩
      obtain ⟨k, ms2, v3, hk, rfl, HB3, HR3, HX3, HK3, HV3, hB3, hz3⟩ := hrel
      by_cases hlt : k < kn
      · have hk1 : k < ks.length := by rw [HKN.out]; exact hlt
        obtain ⟨kb, ko, hkp, hkc⟩ := HK3.out.cell k hk1
        have m1 : (0 : Int) ≤ (k : Int) := by omega
        have m2 : (k : Int) < (kn : Int) := by omega
        subst hkp
        obtain ⟨kv, hkv⟩ : ∃ kv, ks[k] = kv := ⟨_, rfl⟩
        rw [hkv] at hkc
        have htk : (ks.take (k + 1)) = ks.take k ++ [kv] := by rw [List.take_add_one, List.getElem?_eq_getElem hk1, hkv]; rfl
        have HTK := Lib.hid htk
        clear hkv htk
        have hs2t : s2.t = ⟨j, q, n, d, ls⟩ := by rw [HS2.out]
        have hOs := HR3.out.ts s2 (by simp)
        rw [hs2t] at hOs
        have HLA : Hid (∀ w', Below wj.heap.size wj w' → Lab.At q ls w') := fun w' hb => by
          obtain ⟨p', c', e', hA', _⟩ := OwnLabels.open (hOs.2.below hb (Nat.le_refl _))
          simp only [Value.slice.injEq] at e'
          rw [e'.1]
          exact hA'
        have y0 : wj.cell? ⟨bm, 1, none⟩ = some v3 := by rw [Lib.cell_of_heap HB3.out]; rfl
        have x0 : wj.cell? ⟨w.heap.size, 0, none⟩ = some (.string j) := by rw [Lib.cell_of_heap HX3.out]; rfl
        have x1 : wj.cell? ⟨w.heap.size, 1, none⟩ = some (.slice q n d) := by rw [Lib.cell_of_heap HX3.out]; rfl
        have hbj : bm < wj.heap.size := lt_of_heap HB3.out
        have hml2 : (ms ++ ms2).length ≤ 10000010 := by
          have := congrArg List.length HV3.out
          rw [List.length_map, List.length_map, List.length_take] at this
          rw [List.length_append]
          omega
        obtain ⟨MS, hMS⟩ : ∃ MS, ms ++ ms2 = MS := ⟨_, rfl⟩
        rw [hMS] at HR3 hml2
        have HMS := Lib.hid hMS
        clear hMS
        clear hOs hs2t
        have HC0 := Lib.hid (HCC.out wj.drew (HLA.out wj.drew ((Below.refl wj.heap.size wj).drew)))
        go_upto_region 6 with fail
        go_region_law (first
            | (go_simp; refine HC0.out.mono ?_; rintro e wx ⟨⟨q2, d2, rfl, hO2⟩, hbx⟩
               have hbX : Below wj.heap.size wj wx := ((Below.refl _ _).drew).trans hbx
               have HBX := Lib.hid hbX
               have HO2 := Lib.hid (hO2.lift (B' := B) (show B ≤ wj.heap.size by omega))
               have HFR : Hid (∀ s ∈ ss ++ [s2], q2 = s.t.p → q2 = none) := fun s hs => hO2.away (HR3.out.ts s hs) (Nat.le_refl _)
               have kbm : wx.heap[bm]? = some (.cells #[v2, v3] 88) := (hbX.block bm hbj).trans HB3.out
               have HKB := Lib.hid kbm
               have y1 : wx.cell? ⟨bm, 1, none⟩ = some v3 := (by rw [Lib.cell_of_heap kbm]; rfl)
               have y2 := Lib.cell?_alloc_some (.cells #[.int .u8 kv, .string j, .slice q2 n d2] 62) y1
               have HOA : Hid (OwnR mvR B v3 MS (wx.alloc (.cells #[.int .u8 kv, .string j, .slice q2 n d2] 62))) := (HR3.out.rm.below hbX (Nat.le_refl _)).alloc _
               have HNB : Hid ((wx.alloc (.cells #[.int .u8 kv, .string j, .slice q2 n d2] 62)).heap[wx.heap.size]? = some (.cells #[.int .u8 kv, .string j, .slice q2 n d2] 62)) := alloc_new wx _
               have HBA : Hid ((wx.alloc (.cells #[.int .u8 kv, .string j, .slice q2 n d2] 62)).heap[bm]? = some (.cells #[v2, v3] 88)) := alloc_kept kbm
               have hBx : B ≤ (wx.alloc (.cells #[.int .u8 kv, .string j, .slice q2 n d2] 62)).heap.size := (by have := hbX.size; simp; omega)
               clear kbm hO2 hbX)
            | (refine step_pushRec mvOk 50 Try.underlying50 (by rfl) (.tmp 32) (.tmp 38) (by rfl) B v3 MS (by simp [Act.eval]) HOA.out ⟨kv, ⟨j, q2, n, d2, ls⟩⟩ _ (by rfl) wx.heap.size 1 (by simp [Act.eval]) HNB.out (by omega) (by simpa using hBx) ?_; intro g4 cap4 w4 hown4 hgrow
               have k4 := HOA.out.grown_block hgrow HBA.out (by decide)
               have q4 : w4.cell? ⟨bm, 1, none⟩ = some v3 := (by rw [Lib.cell_of_heap k4]; rfl)
               have q5 := Lib.frozen_of_heap k4 1))
        all_goals (
          have hBA0 : Below wx.heap.size wx (wx.alloc (.cells #[.int .u8 kv, .string j, .slice q2 n d2] 62)) := (Below.refl _ _).alloc (Nat.le_refl _) _
          have hzx := HBX.out.size
          have hgs := hgrow.size
          have hRx := (((HR3.out.below HBX.out (Nat.le_refl _)).below hBA0 (Nat.le_refl _)).pushM (m2 := ⟨kv, ⟨j, q2, n, d2, ls⟩⟩) (HO2.out.below hBA0 (Nat.le_refl _)) HFR.out hown4 hgrow).setT (i := 1) (u := .slice (some ⟨g4, 0, none⟩) (MS.length + 1) cap4) k4 (by decide) (by decide) (by decide)
          have hbx2 : wx.heap[w.heap.size]? = some (.cells #[.string j, .slice q n d, .int .i64 ev, .int .i64 ti, .bool en] 33) := (HBX.out.block _ hz3).trans HX3.out
          have hbx4 := HOA.out.grown_block hgrow (alloc_kept hbx2) (by decide)
          have hne : w.heap.size ≠ bm := by omega
          have R1 := Lib.hid (heap_setCell_same _ bm 1 _ _ (.slice (some ⟨g4, 0, none⟩) (MS.length + 1) cap4) k4)
          have R2 := Lib.hid hRx
          have R3 := Lib.hid ((heap_setCell_other w4 ⟨bm, 1, none⟩ w.heap.size (.slice (some ⟨g4, 0, none⟩) (MS.length + 1) cap4) hne).trans hbx4)
          have R4 := Lib.hid ((((HK3.out.below HBX.out (Nat.le_refl _)).below hBA0 (Nat.le_refl _)).grown (by decide) HOA.out hgrow).setT (i := 1) (u := .slice (some ⟨g4, 0, none⟩) (MS.length + 1) cap4) k4 (by decide))
          have R5 : Hid ((ms2 ++ [(⟨kv, ⟨j, q2, n, d2, ls⟩⟩ : Mv)]).map Mv.view = (ks.take (k + 1)).map fun x => (x, j, ls)) := by
            show _ = _
            rw [HTK.out, List.map_append, List.map_append, HV3.out]
            rfl
          have R6 : Hid (Below B w (w4.setCell ⟨bm, 1, none⟩ (.slice (some ⟨g4, 0, none⟩) (MS.length + 1) cap4)) ∧ Po.Keeps w (w4.setCell ⟨bm, 1, none⟩ (.slice (some ⟨g4, 0, none⟩) (MS.length + 1) cap4))) := ⟨((((hB3.1.trans (HBX.out.mono (by omega))).alloc (by omega) _).grown hgrow (by simpa using hBx) (fun g hg => (HR3.out.rm.own_lt g hg).1)).setCell (p := ⟨bm, 1, none⟩) hBm _), hB3.2.trans ((Po.Keeps.of_below HBX.out).trans ((Po.Keeps.of_below hBA0).trans ((Po.Keeps.grown (.inr rfl) HOA.out hgrow).trans (Po.Keeps.set _ k4 (.inl rfl)))))⟩
          have R7 : Hid (w.heap.size < (w4.setCell ⟨bm, 1, none⟩ (.slice (some ⟨g4, 0, none⟩) (MS.length + 1) cap4)).heap.size) := by
            show _ < _
            simp at hgs ⊢
            omega
          have R8 : Hid (ms ++ (ms2 ++ [(⟨kv, ⟨j, q2, n, d2, ls⟩⟩ : Mv)]) = MS ++ [⟨kv, ⟨j, q2, n, d2, ls⟩⟩]) := by
            show _ = _
            rw [← HMS.out, List.append_assoc]
          clear hBA0 hzx hgs hRx hbx2 hbx4 k4 q4 q5 hown4 hgrow HOA HNB HBA HBX HO2 HFR HKB y1 y2 HB3 HR3 HX3 HK3 HV3
          go_wp2_with fail
          go_roundw
          case rel => exact ⟨k + 1, _, _, by omega, by go_num, R1, (by show Po.Rows _ _ _ _ _ _; rw [R8.out]; exact R2.out), R3, R4, R5, R6.out, R7.out⟩
          case measure => simp [intOf]; omega)
      · obtain rfl : k = kn := by omega
        have hkf : ks.take k = ks := List.take_of_length_le (by rw [HKN.out]; exact Nat.le_refl _)
        rw [hkf] at HV3
        have R9 : Hid ((∃ s2 ms2, Po.M B bm (ss ++ [s2]) (ms ++ ms2) wj ∧ Sl.view s2 = Sl.view (⟨⟨j, p, n, c, ls⟩, ev, ti, en⟩ : Sl) ∧ ms2.map Mv.view = ks.map fun k => (k, j, ls)) ∧ Below B w wj ∧ Po.Keeps w wj) :=
          ⟨⟨s2, ms2, ⟨_, _, hBm, HB3.out, HR3.out⟩, by rw [HS2.out]; rfl, HV3.out⟩, hB3⟩
        clear HB3 HR3 HX3 HK3 HV3
        go_wp2_with fail
        go_end0
        exact ⟨rfl, R9.out⟩
/-- moves and slots of the call's own lie on where blocks of their types do -/
theorem Po.Rows.kept {B : Nat} {vs vm : Value} {ss : List Sl} {ms : List Mv} {A C : World} (h3 : Po.Rows B vs vm ss ms A)
    (hk : ∀ (k : Nat) (cur : Array Value) (T : TypeId) (fr : Nat × Nat), A.heap[k]? = some (.cells cur T fr) → (T = 88 ∨ T = 33 ∨ T = 62 ∨ T = 37) → C.heap[k]? = some (.cells cur T fr)) : Po.Rows B vs vm ss ms C := by
  have row : ∀ {α : Type} {R : Rec α} {v : Value} {l : List α}, (R.T = 88 ∨ R.T = 33 ∨ R.T = 62 ∨ R.T = 37) → OwnR R B v l A → OwnR R B v l C := by
    intro α R v l hT h
    obtain ⟨k1, k2⟩ := h
    refine ⟨k1, ?_⟩
    rcases k2 with k2 | ⟨g, cap, cur, hv, hg, hh, r⟩
    · exact .inl k2
    · exact .inr ⟨g, cap, cur, hv, hg, hk _ _ _ _ hh hT, r⟩
  have lab : ∀ {t : Can.T}, OwnT B t A → OwnT B t C := by
    intro t h
    obtain ⟨k0, k1, k2⟩ := h
    refine ⟨k0, k1, ?_⟩
    rcases k2 with k2 | ⟨g, cap, cur, hv, hg, hh, r⟩
    · exact .inl k2
    · exact .inr ⟨g, cap, cur, hv, hg, hk _ _ _ _ hh (.inr (.inr (.inr rfl))), r⟩
  exact ⟨row (.inr (.inl rfl)) h3.rs, fun s hs => lab (h3.ts s hs), row (.inr (.inr (.inl rfl))) h3.rm, fun m hm => lab (h3.tm m hm), h3.ap⟩
theorem Po.M.kept {B bm : Nat} {ss : List Sl} {ms : List Mv} {A C : World} (h : Po.M B bm ss ms A)
    (hk : ∀ (k : Nat) (cur : Array Value) (T : TypeId) (fr : Nat × Nat), A.heap[k]? = some (.cells cur T fr) → (T = 88 ∨ T = 33 ∨ T = 62 ∨ T = 37) → C.heap[k]? = some (.cells cur T fr)) : Po.M B bm ss ms C := by
  obtain ⟨vs, vm, h1, h2, h3⟩ := h
  exact ⟨vs, vm, h1, hk _ _ _ _ h2 (.inl rfl), h3.kept hk⟩
theorem Po.Rows.lift {B B' : Nat} {vs vm : Value} {ss : List Sl} {ms : List Mv} {A : World} (h : Po.Rows B vs vm ss ms A) (hB : B' ≤ B) : Po.Rows B' vs vm ss ms A :=
  ⟨h.rs.lift hB, fun s hs => (h.ts s hs).lift hB, h.rm.lift hB, fun m hm => (h.tm m hm).lift hB, h.ap⟩
/-- moves of the call's own, none yet -/
theorem Po.M.new {B : Nat} {w : World} (hB : B ≤ w.heap.size) : Po.M B w.heap.size [] [] (w.alloc (.cells #[.slice none 0 0, .slice none 0 0] 88)) :=
  ⟨_, _, hB, alloc_new _ _, ⟨OwnR.nil _ _ _, (fun _ h => nomatch h), OwnR.nil _ _ _, (fun _ h => nomatch h), (fun _ h => nomatch h)⟩⟩
end Go.Proofs.Ytpnpgjjbincigaa
namespace Go.Proofs.Ytpnpgjjbincigaa
open Go.RowKit
set_option linter.unusedVariables false
variable {α : Type} {R : Rec α}
theorem wpListIn_pushRec {F : Fence} {n : Nat} {ops : Array Oper} {rest : List Oper} {o : Oper} {a : Act} {Q : Exit → Act → World → Prop} (ok : R.Ok) (T : TypeId) (hT : Try.prog.underlying T = some (.slice R.T)) (hgd : o.guard = none) (s x : Operand)
    (ho : o.op = .call { callee := .builtin .append, args := #[s, x], argTypes := #[T, T] })
    (B : Nat) (v : Value) (l : List α) (wr : World) (hs : a.eval s = v) (hown : OwnR R B v l wr) (y : α) (C : Array Value) (c : Nat) (hC : C = (R.enc y).toArray)
    (G : Nat) (hx : a.eval x = .slice (some ⟨G, 0, none⟩) 1 c) (hG : G = wr.heap.size) (hlen : l.length + 1 ≤ 1000000000) (hB : B ≤ wr.heap.size)
    (h : ∀ v' w', OwnR R B v' (l ++ [y]) w' → (wr.alloc (.cells C R.T)).grownBy w' v.ownBlock → wpListIn F n Try.prog ops Q rest (a.put o.dst v') w') :
    wpListIn F n Try.prog ops Q (o :: rest) a (wr.alloc (.cells C R.T)) := by
  obtain ⟨i0, hi, hz0, hz1, hz2⟩ := info_parts ok.info
  subst hC
  subst hG
  have hownA := hown.alloc (.cells (R.enc y).toArray R.T)
  have hby : (l.length + 1) * R.bytes ≤ 140737488355328 := Nat.le_trans (Nat.mul_le_mul hlen ok.small) (by decide)
  refine wpListIn_append_own _ hgd s x T ho B R.T i0 R.z R.k R.bytes hT hi hz0 hz1 hz2 ok.zs ok.pos v l.length (R.cells l) hs hownA ⟨wr.heap.size, 0, none⟩ 1 c (R.cells [y]) hx (by rw [ok.length]; rfl) ?_ (ok.ones _) ?_ hby ?_ ?_
  · intro j u hj
    have e : (wr.alloc (.cells (R.enc y).toArray R.T)).cell? ((⟨wr.heap.size, 0, none⟩ : Addr).add j) = (R.enc y).toArray[j]? := by
      rw [addr0]; simp
    rw [e, List.getElem?_toArray]
    rw [Rec.cells_one_row] at hj
    exact hj
  · unfold maxLen; omega
  · simp; omega
  · intro v' w' h1 h2 _
    refine h v' w' ?_ h2
    unfold OwnR
    rw [Rec.cells_append, List.length_append]
    exact h1
def kdR : Rec Int := ⟨5, 1, 1, .int .u8 0, fun k => [.int .u8 k]⟩
theorem kdOk : Rec.Ok kdR where
  len _ := rfl
  one x v hv := by
    simp [kdR] at hv
    subst hv
    rfl
  pos := by decide
  small := by decide
  info := by kernel_rfl
  zs := rfl
theorem Po.kAt_of {B n c : Nat} {p : Option Addr} {l : List Int} {w : World} (h : OwnR kdR B (.slice p n c) l w) : Po.KAt p l w := by
  have hl := h.lies kdOk
  rcases h.2 with ⟨e, h1⟩ | ⟨g, cap, cur, hv, hg, hh, _⟩
  · exact .inl (List.length_eq_zero_iff.1 h1)
  · simp only [Value.slice.injEq] at hv
    rcases hl with hl | ⟨b, o, hp, hc⟩
    · exact .inl hl
    · rw [hv.1] at hp
      simp only [Option.some.injEq, Addr.mk.injEq, and_true] at hp
      obtain ⟨rfl, rfl⟩ := hp
      refine .inr ⟨g, 0, cur, hv.1, hh, fun i hi => ?_⟩
      have c0 := hc i hi 0 (by decide)
      rw [Lib.cell_of_heap hh] at c0
      simp only [show kdR.k = 1 from rfl, Nat.mul_one, Nat.add_zero] at c0
      exact c0
end Go.Proofs.Ytpnpgjjbincigaa
