/- Contract of the reference's pool: Sync. (Printed by gen_rfc.py.) -/
import Derived.Test.YtpnpgjjbincigaaRfB
namespace Go.Proofs.Ytpnpgjjbincigaa
open Go.RowKit
set_option linter.unusedVariables false

/-- rows of strings -/
def stR : Rec ByteArray := ⟨9, 1, 16, .string ByteArray.empty, fun s => [.string s]⟩
theorem stOk : Rec.Ok stR where
  len _ := rfl
  one x v hv := by
    simp [stR] at hv
    rcases hv with rfl
    rfl
  pos := by decide
  small := by decide
  info := by kernel_rfl
  zs := rfl
theorem flat_single {α β : Type} (f : α → β) : ∀ l : List α, l.flatMap (fun s => [f s]) = l.map f
  | [] => rfl
  | a :: l => by rw [List.flatMap_cons, flat_single f l]; rfl
theorem OwnR.texts {B : Nat} {v : Value} {l : List ByteArray} {w : World} (h : OwnR stR B v l w) : OwnTexts B v l w := by
  have e : stR.cells l = l.map Value.string := by
    exact flat_single Value.string l
  unfold OwnR at h
  rw [e] at h
  exact h
theorem OwnR.far2 {α : Type} {S : Rec α} {B : Nat} {u : Value} {k : List α} {w w' : World} {row : Option Nat} (h : OwnR S B u k w) (hne : ∀ g, u.ownBlock = some g → row ≠ some g) (hg : w.grownBy w' row) : OwnR S B u k w' := by
  obtain ⟨h1, h2⟩ := h
  refine ⟨h1, ?_⟩
  rcases h2 with h2 | ⟨g', cap, cur, hv, hb, hh, r⟩
  · exact .inl h2
  · refine .inr ⟨g', cap, cur, hv, hb, (hg.block g' (lt_of_heap hh) (fun e => ?_)).trans hh, r⟩
    subst hv
    exact hne g' rfl e.symm
/-- 'append(v, x)' of a record written out: the block too -/
theorem wpList_pushRec2 {α : Type} {R : Rec α} {ops : Array Oper} {rest : List Oper} {o : Oper} {a : Act} {Q : Exit → Act → World → Prop} (ok : R.Ok) (T : TypeId) (hT : Try.prog.underlying T = some (.slice R.T)) (hgd : o.guard = none) (s x : Operand)
    (ho : o.op = .call { callee := .builtin .append, args := #[s, x], argTypes := #[T, T] })
    (B : Nat) (v : Value) (l : List α) (wr : World) (hs : a.eval s = v) (hown : OwnR R B v l wr) (y : α) (C : Array Value) (c : Nat) (hC : C = (R.enc y).toArray)
    (G : Nat) (hx : a.eval x = .slice (some ⟨G, 0, none⟩) 1 c) (hG : G = wr.heap.size) (hlen : l.length + 1 ≤ 1000000000) (hB : B ≤ wr.heap.size)
    (h : ∀ g cap w', OwnR R B (.slice (some ⟨g, 0, none⟩) (l.length + 1) cap) (l ++ [y]) w' → (wr.alloc (.cells C R.T)).grownBy w' v.ownBlock → (v.ownBlock = some g ∨ g = wr.heap.size + 1) → wpList Try.prog ops Q rest (a.put o.dst (.slice (some ⟨g, 0, none⟩) (l.length + 1) cap)) w') :
    wpList Try.prog ops Q (o :: rest) a (wr.alloc (.cells C R.T)) := by
  obtain ⟨i0, hi, hz0, hz1, hz2⟩ := info_parts ok.info
  subst hC
  subst hG
  have hownA := hown.alloc (.cells (R.enc y).toArray R.T)
  have hby : (l.length + 1) * R.bytes ≤ 140737488355328 := Nat.le_trans (Nat.mul_le_mul hlen ok.small) (by decide)
  refine wpList_append_lies _ hgd s x T ho B R.T i0 R.z R.k R.bytes hT hi hz0 hz1 hz2 ok.zs ok.pos v l.length (R.cells l) hs hownA ⟨wr.heap.size, 0, none⟩ 1 c (R.cells [y]) hx (by rw [ok.length]; rfl) ?_ (ok.ones _) (by decide) (by unfold maxLen; omega) hby (by simp; omega) _ rfl ?_
  · intro j u hj
    have e : (wr.alloc (.cells (R.enc y).toArray R.T)).cell? ((⟨wr.heap.size, 0, none⟩ : Addr).add j) = (R.enc y).toArray[j]? := by
      rw [addr0]; simp
    rw [e, List.getElem?_toArray]
    rw [Rec.cells_one_row] at hj
    exact hj
  · intro g cap w' h1 h2 h3 _
    refine h g cap w' ?_ h2 (by simpa using h3)
    unfold OwnR
    rw [Rec.cells_append, List.length_append]
    exact h1
/-- three rows of keys -/
structure Po.KS (B : Nat) (v1 v2 v3 : Value) (l1 l2 l3 : List ByteArray) (w : World) : Prop where
  o1 : OwnR stR B v1 l1 w
  o2 : OwnR stR B v2 l2 w
  o3 : OwnR stR B v3 l3 w
  s12 : ∀ g, v1.ownBlock = some g → v2.ownBlock ≠ some g
  s13 : ∀ g, v1.ownBlock = some g → v3.ownBlock ≠ some g
  s23 : ∀ g, v2.ownBlock = some g → v3.ownBlock ≠ some g
theorem Po.KS.nil (B : Nat) (w : World) : Po.KS B (.slice none 0 0) (.slice none 0 0) (.slice none 0 0) [] [] [] w :=
  ⟨OwnR.nil _ _ _, OwnR.nil _ _ _, OwnR.nil _ _ _, fun _ h => (nomatch h), fun _ h => (nomatch h), fun _ h => (nomatch h)⟩
theorem Po.KS.below {B C : Nat} {v1 v2 v3 : Value} {l1 l2 l3 : List ByteArray} {w w' : World} (h : Po.KS B v1 v2 v3 l1 l2 l3 w) (hb : Below C w w') (hC : w.heap.size ≤ C) : Po.KS B v1 v2 v3 l1 l2 l3 w' :=
  ⟨h.o1.below hb hC, h.o2.below hb hC, h.o3.below hb hC, h.s12, h.s13, h.s23⟩
theorem Po.KS.grown {α : Type} {R : Rec α} {B B' : Nat} {v1 v2 v3 v : Value} {l1 l2 l3 : List ByteArray} {l : List α} {w w' : World} (h : Po.KS B v1 v2 v3 l1 l2 l3 w) (hR : R.T ≠ 9) (hu : OwnR R B' v l w) (hg : w.grownBy w' v.ownBlock) : Po.KS B v1 v2 v3 l1 l2 l3 w' :=
  ⟨h.o1.grown2 hR hu hg, h.o2.grown2 hR hu hg, h.o3.grown2 hR hu hg, h.s12, h.s13, h.s23⟩
theorem Po.sep_new {B g n c : Nat} {u v : Value} {l : List ByteArray} {wr : World} (hu : OwnR stR B u l wr) (hs : ∀ g, u.ownBlock = some g → v.ownBlock ≠ some g) (hl : v.ownBlock = some g ∨ g = wr.heap.size + 1) : ∀ k, u.ownBlock = some k → (Value.slice (some ⟨g, 0, none⟩) n c).ownBlock ≠ some k := fun k hk e => by
  simp only [Value.ownBlock, Option.some.injEq] at e
  subst e
  rcases hl with hl | hl
  · exact hs g hk hl
  · have := (hu.own_lt g hk).2
    omega
theorem Po.KS.push1 {B g c : Nat} {v1 v2 v3 : Value} {l1 l2 l3 : List ByteArray} {y : ByteArray} {C : Obj} {wr w' : World} (h : Po.KS B v1 v2 v3 l1 l2 l3 wr) (ho : OwnR stR B (.slice (some ⟨g, 0, none⟩) (l1.length + 1) c) (l1 ++ [y]) w') (hg : (wr.alloc C).grownBy w' v1.ownBlock) (hl : v1.ownBlock = some g ∨ g = wr.heap.size + 1) :
    Po.KS B (.slice (some ⟨g, 0, none⟩) (l1.length + 1) c) v2 v3 (l1 ++ [y]) l2 l3 w' :=
  ⟨ho, (h.o2.alloc C).far2 (fun k hk e => h.s12 k e hk) hg, (h.o3.alloc C).far2 (fun k hk e => h.s13 k e hk) hg,
    fun k hk e => Po.sep_new h.o2 (fun k hk e => h.s12 k e hk) hl k e hk, fun k hk e => Po.sep_new h.o3 (fun k hk e => h.s13 k e hk) hl k e hk, h.s23⟩
theorem Po.KS.push2 {B g c : Nat} {v1 v2 v3 : Value} {l1 l2 l3 : List ByteArray} {y : ByteArray} {C : Obj} {wr w' : World} (h : Po.KS B v1 v2 v3 l1 l2 l3 wr) (ho : OwnR stR B (.slice (some ⟨g, 0, none⟩) (l2.length + 1) c) (l2 ++ [y]) w') (hg : (wr.alloc C).grownBy w' v2.ownBlock) (hl : v2.ownBlock = some g ∨ g = wr.heap.size + 1) :
    Po.KS B v1 (.slice (some ⟨g, 0, none⟩) (l2.length + 1) c) v3 l1 (l2 ++ [y]) l3 w' :=
  ⟨(h.o1.alloc C).far2 (fun k hk e => h.s12 k hk e) hg, ho, (h.o3.alloc C).far2 (fun k hk e => h.s23 k e hk) hg,
    Po.sep_new h.o1 h.s12 hl, h.s13, fun k hk e => Po.sep_new h.o3 (fun k hk e => h.s23 k e hk) hl k e hk⟩
theorem Po.KS.push3 {B g c : Nat} {v1 v2 v3 : Value} {l1 l2 l3 : List ByteArray} {y : ByteArray} {C : Obj} {wr w' : World} (h : Po.KS B v1 v2 v3 l1 l2 l3 wr) (ho : OwnR stR B (.slice (some ⟨g, 0, none⟩) (l3.length + 1) c) (l3 ++ [y]) w') (hg : (wr.alloc C).grownBy w' v3.ownBlock) (hl : v3.ownBlock = some g ∨ g = wr.heap.size + 1) :
    Po.KS B v1 v2 (.slice (some ⟨g, 0, none⟩) (l3.length + 1) c) l1 l2 (l3 ++ [y]) w' :=
  ⟨(h.o1.alloc C).far2 (fun k hk e => h.s13 k hk e) hg, (h.o2.alloc C).far2 (fun k hk e => h.s23 k hk e) hg, ho, h.s12, Po.sep_new h.o1 h.s13 hl, Po.sep_new h.o2 h.s23 hl⟩
/-- what is collected -/
structure Po.R3 (B : Nat) (va vb v1 v2 v3 : Value) (o : List Sl) (m : List Mv) (l1 l2 l3 : List ByteArray) (w : World) : Prop where
  rs : OwnR rsR B va o w
  rm : OwnR rmR B vb m w
  ks : Po.KS B v1 v2 v3 l1 l2 l3 w
theorem Po.R3.below {B C : Nat} {va vb v1 v2 v3 : Value} {o : List Sl} {m : List Mv} {l1 l2 l3 : List ByteArray} {w w' : World} (h : Po.R3 B va vb v1 v2 v3 o m l1 l2 l3 w) (hb : Below C w w') (hC : w.heap.size ≤ C) : Po.R3 B va vb v1 v2 v3 o m l1 l2 l3 w' :=
  ⟨h.rs.below hb hC, h.rm.below hb hC, h.ks.below hb hC⟩
theorem Po.R3.pushS {B : Nat} {va vb v1 v2 v3 v' : Value} {o : List Sl} {m : List Mv} {l1 l2 l3 : List ByteArray} {x : Sl} {C : Obj} {wr w' : World} (h : Po.R3 B va vb v1 v2 v3 o m l1 l2 l3 wr) (ho : OwnR rsR B v' (o ++ [x]) w') (hg : (wr.alloc C).grownBy w' va.ownBlock) : Po.R3 B v' vb v1 v2 v3 (o ++ [x]) m l1 l2 l3 w' :=
  ⟨ho, (h.rm.alloc C).grown2 (by decide) (h.rs.alloc C) hg, (h.ks.below ((Below.refl _ _).alloc (Nat.le_refl _) C) (Nat.le_refl _)).grown (by decide) (h.rs.alloc C) hg⟩
theorem Po.R3.pushM {B : Nat} {va vb v1 v2 v3 v' : Value} {o : List Sl} {m : List Mv} {l1 l2 l3 : List ByteArray} {x : Mv} {C : Obj} {wr w' : World} (h : Po.R3 B va vb v1 v2 v3 o m l1 l2 l3 wr) (ho : OwnR rmR B v' (m ++ [x]) w') (hg : (wr.alloc C).grownBy w' vb.ownBlock) : Po.R3 B va v' v1 v2 v3 o (m ++ [x]) l1 l2 l3 w' :=
  ⟨(h.rs.alloc C).grown2 (by decide) (h.rm.alloc C) hg, ho, (h.ks.below ((Below.refl _ _).alloc (Nat.le_refl _) C) (Nat.le_refl _)).grown (by decide) (h.rm.alloc C) hg⟩

/-! ### the plain law -/
theorem Po.lst_spec (l : List ByteArray) (a : ByteArray) (f : Bool) (k : Nat) : (Po.lst (l.take k) a f = none → ∀ x ∈ l.take k, (f || decide (Lab.bs a < Lab.bs x)) = false) ∧ (∀ b, Po.lst (l.take k) a f = some b → b ∈ l.take k ∧ (f || decide (Lab.bs a < Lab.bs b)) = true ∧ ∀ x ∈ l.take k, (f || decide (Lab.bs a < Lab.bs x)) = true → ¬ Lab.bs x < Lab.bs b) := by
  induction k with
  | zero => exact ⟨fun _ x hx => (by simp at hx), fun b h => (by cases h)⟩
  | succ k ih =>
    by_cases hk : k < l.length
    · have ht : l.take (k + 1) = l.take k ++ [l[k]] := by rw [List.take_add_one, List.getElem?_eq_getElem hk]; rfl
      rw [Po.lst_take l a f k hk, ht]
      obtain ⟨x, hx⟩ : ∃ x, l[k] = x := ⟨_, rfl⟩
      rw [hx]
      obtain ⟨ih1, ih2⟩ := ih
      obtain ⟨c, hc⟩ : ∃ c, (f || decide (Lab.bs a < Lab.bs x)) = c := ⟨_, rfl⟩
      cases hcu : Po.lst (l.take k) a f with
      | none =>
        have hb : Po.better a f none x = if c = true then some x else none := by unfold Po.better; rw [hc, Bool.and_true]
        rw [hb]
        cases c
        · rw [if_neg (by simp)]
          refine ⟨fun _ z hz => ?_, fun b h => (by cases h)⟩
          rcases List.mem_append.1 hz with hz | hz
          · exact ih1 hcu z hz
          · rw [List.mem_singleton] at hz; rw [hz]; exact hc
        · rw [if_pos rfl]
          refine ⟨fun h => (by cases h), fun b h => ?_⟩
          simp only [Option.some.injEq] at h
          subst h
          refine ⟨List.mem_append_right _ (List.mem_singleton.2 rfl), hc, fun z hz hz2 => ?_⟩
          rcases List.mem_append.1 hz with hz | hz
          · rw [ih1 hcu z hz] at hz2; cases hz2
          · rw [List.mem_singleton] at hz; rw [hz]; exact List.lt_irrefl _
      | some b0 =>
        obtain ⟨j1, j2, j3⟩ := ih2 b0 hcu
        have hb : Po.better a f (some b0) x = if (c && decide (Lab.bs x < Lab.bs b0)) = true then some x else some b0 := by unfold Po.better; rw [hc]
        rw [hb]
        refine ⟨fun h => ?_, fun b h => ?_⟩
        · exact absurd h ((Classical.em _).elim (fun hh => by rw [if_pos hh]; simp) (fun hh => by rw [if_neg hh]; simp))
        · by_cases hh : (c && decide (Lab.bs x < Lab.bs b0)) = true
          · rw [if_pos hh] at h
            simp only [Option.some.injEq] at h
            subst h
            rw [Bool.and_eq_true, decide_eq_true_eq] at hh
            refine ⟨List.mem_append_right _ (List.mem_singleton.2 rfl), hc.trans hh.1, fun z hz hz2 hlt => ?_⟩
            rcases List.mem_append.1 hz with hz | hz
            · exact j3 z hz hz2 (List.lt_trans hlt hh.2)
            · rw [List.mem_singleton] at hz; rw [hz] at hlt; exact List.lt_irrefl _ hlt
          · rw [if_neg hh] at h
            simp only [Option.some.injEq] at h
            subst h
            refine ⟨List.mem_append_left _ j1, j2, fun z hz hz2 => ?_⟩
            rcases List.mem_append.1 hz with hz | hz
            · exact j3 z hz hz2
            · rw [List.mem_singleton] at hz
              subst hz
              intro hlt
              exact hh (by rw [hc] at hz2; rw [hz2, decide_eq_true hlt]; rfl)
    · rw [List.take_of_length_le (by omega)]
      rw [List.take_of_length_le (by omega)] at ih
      exact ih
def Po.mk (k : List UInt8) : ByteArray := ⟨k.toArray⟩
theorem Po.bs_mk (k : List UInt8) : Lab.bs (Po.mk k) = k := by simp [Lab.bs, Po.mk]
theorem Po.mk_bs (y : ByteArray) : Po.mk (Lab.bs y) = y := rfl
theorem Po.lst_at (K : List (List UInt8)) (hK : Po.Asc K) (l : List ByteArray) (h1 : ∀ x ∈ l, Lab.bs x ∈ K) (h2 : ∀ k ∈ K, Po.mk k ∈ l) (a : ByteArray) (f : Bool) (j : Nat)
    (hc : ∀ x ∈ l, (f || decide (Lab.bs a < Lab.bs x)) = true ↔ Lab.bs x ∈ K.drop j) : Po.lst l a f = (K[j]?).map Po.mk := by
  have hs := Po.lst_spec l a f l.length
  rw [List.take_of_length_le (Nat.le_refl _)] at hs
  cases hl : Po.lst l a f with
  | none =>
    cases hj : K[j]? with
    | none => rfl
    | some k =>
      obtain ⟨hj1, hj2⟩ := List.getElem?_eq_some_iff.1 hj
      have hm : k ∈ K.drop j := by rw [List.drop_eq_getElem_cons hj1, hj2]; exact List.mem_cons_self
      have hx := h2 k (List.mem_of_mem_drop hm)
      have := (hc (Po.mk k) hx).2 (by rw [Po.bs_mk]; exact hm)
      rw [hs.1 hl _ hx] at this
      cases this
  | some b =>
    obtain ⟨b1, b2, b3⟩ := hs.2 b hl
    have hbm := (hc b b1).1 b2
    have hj1 : j < K.length := by
      rcases Nat.lt_or_ge j K.length with h | h
      · exact h
      · rw [List.drop_eq_nil_of_le h] at hbm; cases hbm
    have hd := List.drop_eq_getElem_cons hj1
    rw [List.getElem?_eq_getElem hj1]
    have hm : K[j] ∈ K.drop j := by rw [hd]; exact List.mem_cons_self
    have hx := h2 K[j] (List.mem_of_mem_drop hm)
    have hnl := b3 _ hx ((hc _ hx).2 (by rw [Po.bs_mk]; exact hm))
    rw [Po.bs_mk] at hnl
    have hp : (K.drop j).Pairwise (· < ·) := hK.sublist (List.drop_sublist _ _)
    rw [hd, List.pairwise_cons] at hp
    rw [hd] at hbm
    rcases List.mem_cons.1 hbm with e | e
    · show some b = some (Po.mk K[j])
      rw [← e, Po.mk_bs]
    · exact absurd (hp.1 _ e) hnl
theorem Po.cond_next (K : List (List UInt8)) (hK : Po.Asc K) (i : Nat) (hi : i < K.length) (x : List UInt8) (hx : x ∈ K) : K[i] < x ↔ x ∈ K.drop (i + 1) := by
  obtain ⟨m, hm, rfl⟩ := List.getElem_of_mem hx
  have hp := List.pairwise_iff_getElem.1 hK
  constructor
  · intro h
    have : i < m := by
      rcases Nat.lt_trichotomy i m with h1 | h1 | h1
      · exact h1
      · subst h1; exact absurd h (List.lt_irrefl _)
      · exact absurd (List.lt_trans h (hp m i hm hi h1)) (List.lt_irrefl _)
    rw [List.mem_iff_getElem]
    exact ⟨m - (i + 1), by rw [List.length_drop]; omega, by rw [List.getElem_drop]; congr 1; omega⟩
  · intro h
    obtain ⟨q, hq, e⟩ := List.getElem_of_mem h
    rw [List.length_drop] at hq
    rw [List.getElem_drop] at e
    rw [← e]
    exact hp i (i + 1 + q) hi (by omega) (by omega)
/-- where a loop over keys stands -/
def Po.kAt (K : List (List UInt8)) (i : Nat) : ByteArray := ((K[i]?).map Po.mk).getD ⟨#[]⟩
def Po.mea (K : List (List UInt8)) : Value → Value → Nat
  | .string y, .bool true => K.length - K.findIdx (fun x => decide (x = Lab.bs y))
  | _, _ => 0
theorem Po.mea_at (K : List (List UInt8)) (hK : Po.Asc K) (i : Nat) : Po.mea K (.string (Po.kAt K i)) (.bool (decide (i < K.length))) = K.length - i := by
  by_cases hi : i < K.length
  · rw [decide_eq_true hi]
    have e : Po.kAt K i = Po.mk K[i] := by unfold Po.kAt; rw [List.getElem?_eq_getElem hi]; rfl
    rw [e]
    show K.length - K.findIdx _ = _
    congr 1
    rw [Po.bs_mk]
    have hp := List.pairwise_iff_getElem.1 hK
    refine (List.findIdx_eq hi).2 ⟨by simp, fun j hj => decide_eq_false (fun e => ?_)⟩
    have := hp j i (by omega) hi hj
    rw [e] at this
    exact List.lt_irrefl _ this
  · rw [decide_eq_false hi]
    show 0 = _
    omega
theorem Po.ins_len (k : List UInt8) : ∀ l, (Po.ins k l).length ≤ l.length + 1
  | [] => by simp [Po.ins]
  | x :: r => by
    unfold Po.ins
    split
    · simp
    · split
      · simp
      · simp only [List.length_cons]
        have := Po.ins_len k r
        omega
theorem Po.srt_len : ∀ l, (Po.srt l).length ≤ l.length
  | [] => by simp [Po.srt]
  | x :: r => by
    have h1 := Po.ins_len x (Po.srt r)
    have h2 := Po.srt_len r
    show (Po.ins x (Po.srt r)).length ≤ _
    simp only [List.length_cons]
    omega
theorem Po.oS_len (ev ti : Int) (a : Option Po.V) (b : Option Po.U) : (Po.oS ev ti a b).length ≤ 1 := by
  rcases a with _ | a <;> rcases b with _ | b <;> simp [Po.oS]
theorem flat_len {α β : Type} (f : α → List β) (n : Nat) (h : ∀ x, (f x).length ≤ n) : ∀ l : List α, (l.flatMap f).length ≤ l.length * n
  | [] => by simp
  | x :: l => by
    have h1 := flat_len f n h l
    have h2 := h x
    rw [List.flatMap_cons, List.length_append, List.length_cons, Nat.add_mul]
    omega
theorem Po.sl_ix (ss : List Sl) (y : ByteArray) : (Po.ixOf (ss.map Sl.kb) y = -1 ∧ Po.sl (ss.map Sl.view) (Lab.bs y) = none) ∨ ∃ i : Nat, Po.ixOf (ss.map Sl.kb) y = (i : Int) ∧ ∃ hi : i < ss.length, Po.sl (ss.map Sl.view) (Lab.bs y) = some (Sl.view ss[i]) := by
  have key : ∀ s : Sl, Po.vk (Sl.view s) = Lab.bs (Sl.kb s) := fun s => (Po.ky_keyB s.t).symm
  rcases Po.ixOf_cases (ss.map Sl.kb) y with ⟨h1, h2⟩ | ⟨i, h1, hi, h2, h3⟩
  · refine .inl ⟨h1, ?_⟩
    unfold Po.sl
    rw [List.find?_eq_none]
    intro v hv
    obtain ⟨s, hs, rfl⟩ := List.mem_map.1 hv
    simp only [decide_eq_true_eq]
    intro e
    exact h2 _ (List.mem_map_of_mem hs) (Po.kb_eq.2 ((key s).symm.trans e))
  · have hi2 : i < ss.length := by rw [List.length_map] at hi; exact hi
    refine .inr ⟨i, h1, hi2, ?_⟩
    unfold Po.sl
    rw [List.find?_eq_some_iff_getElem]
    rw [List.getElem_map] at h2
    refine ⟨by rw [decide_eq_true_eq, key, h2], i, by rw [List.length_map]; exact hi2, by rw [List.getElem_map], fun j hj => ?_⟩
    have h4 := h3 j hj
    rw [List.getElem_map] at h4 ⊢
    simp only [Bool.not_eq_true', decide_eq_false_iff_not]
    intro e
    exact h4 (Po.kb_eq.2 ((key _).symm.trans e))
theorem Po.tg_ix (ts : List Can.T) (y : ByteArray) : (Po.ixOf (ts.map Can.keyB) y = -1 ∧ Po.tg (ts.map Po.tv) (Lab.bs y) = none) ∨ ∃ i : Nat, Po.ixOf (ts.map Can.keyB) y = (i : Int) ∧ ∃ hi : i < ts.length, Po.tg (ts.map Po.tv) (Lab.bs y) = some (Po.tv ts[i]) := by
  have key : ∀ t : Can.T, Po.ky (Po.tv t) = Lab.bs (Can.keyB t) := fun t => (Po.ky_keyB t).symm
  rcases Po.ixOf_cases (ts.map Can.keyB) y with ⟨h1, h2⟩ | ⟨i, h1, hi, h2, h3⟩
  · refine .inl ⟨h1, ?_⟩
    unfold Po.tg
    rw [List.find?_eq_none]
    intro v hv
    obtain ⟨s, hs, rfl⟩ := List.mem_map.1 hv
    simp only [decide_eq_true_eq]
    intro e
    exact h2 _ (List.mem_map_of_mem hs) (Po.kb_eq.2 ((key s).symm.trans e))
  · have hi2 : i < ts.length := by rw [List.length_map] at hi; exact hi
    refine .inr ⟨i, h1, hi2, ?_⟩
    unfold Po.tg
    rw [List.find?_eq_some_iff_getElem]
    rw [List.getElem_map] at h2
    refine ⟨by rw [decide_eq_true_eq, key, h2], i, by rw [List.length_map]; exact hi2, by rw [List.getElem_map], fun j hj => ?_⟩
    have h4 := h3 j hj
    rw [List.getElem_map] at h4 ⊢
    simp only [Bool.not_eq_true', decide_eq_false_iff_not]
    intro e
    exact h4 (Po.kb_eq.2 ((key _).symm.trans e))
theorem Po.ks_mem (ss : List Sl) (ts : List Can.T) (x : List UInt8) : x ∈ Po.ks (ss.map Sl.view) (ts.map Po.tv) ↔ Po.mk x ∈ ss.map Sl.kb ++ ts.map Can.keyB := by
  unfold Po.ks
  rw [Po.srt_mem, List.mem_append, List.mem_append, List.map_map, List.map_map, List.mem_map, List.mem_map, List.mem_map, List.mem_map]
  have e : ∀ y : ByteArray, Lab.bs y = x ↔ y = Po.mk x := fun y => ⟨fun h => by rw [← h]; rfl, fun h => by rw [h, Po.bs_mk]⟩
  constructor
  · rintro (⟨s, hs, h⟩ | ⟨s, hs, h⟩)
    · exact .inl ⟨s, hs, (e _).1 ((Po.ky_keyB s.t).trans h)⟩
    · exact .inr ⟨s, hs, (e _).1 ((Po.ky_keyB s).trans h)⟩
  · rintro (⟨s, hs, h⟩ | ⟨s, hs, h⟩)
    · exact .inl ⟨s, hs, (Po.ky_keyB s.t).symm.trans ((e _).2 h)⟩
    · exact .inr ⟨s, hs, (Po.ky_keyB s).symm.trans ((e _).2 h)⟩
/-- what the reference's Sync answers -/
def Po.Res (B : Nat) (ss : List Sl) (ts : List Can.T) (v1 v2 : Value) (S : List Po.V) (M : List (Int × Po.U)) (w : World) : Prop :=
  ∃ s2 m2, OwnR rsR B v1 s2 w ∧ OwnR rmR B v2 m2 w ∧ s2.map Sl.view = S ∧ m2.map Mv.view = M ∧ (∀ s ∈ s2, s.t ∈ ss.map Sl.t ++ ts) ∧ ∀ x ∈ m2, x.t ∈ ss.map Sl.t ++ ts
theorem Po.Res.none (B : Nat) (ss : List Sl) (ts : List Can.T) (w : World) : Po.Res B ss ts (.slice none 0 0) (.slice none 0 0) [] [] w := ⟨[], [], OwnR.nil _ _ _, OwnR.nil _ _ _, rfl, rfl, fun s h => (nomatch h), fun s h => (nomatch h)⟩
theorem rleast_at (B n c : Nat) (p : Option Addr) (l : List ByteArray) (a b : ByteArray) (f t : Bool) (K : List (List UInt8)) (j : Nat) (h0 : Po.lst l a f = (K[j]?).map Po.mk) (hb : Po.kAt K j = b) (ht : decide (j < K.length) = t) (w : World) (h : OwnTexts B (.slice p n c) l w) (hl : n ≤ 1000000) (ha : a.size ≤ 1000000) (hs : ∀ x ∈ l, x.size ≤ 1000000) :
    Calls Try.prog 73 #[.slice p n c, .string a, .bool f] w fun e w' => e = .returned (.tuple #[.string b, .bool t]) ∧ Below w.heap.size w w' := by
  have h1 := rleast_is B n c p l a f w h hl ha hs
  have e1 : (Po.lst l a f).getD ⟨#[]⟩ = b := by rw [h0]; exact hb
  have e2 : (Po.lst l a f).isSome = t := by
    rw [h0, ← ht]
    by_cases hj : j < K.length
    · rw [List.getElem?_eq_getElem hj, decide_eq_true hj]; rfl
    · rw [List.getElem?_eq_none (by omega), decide_eq_false hj]; rfl
  rw [e1, e2] at h1
  exact h1

set_option maxHeartbeats 12800000 in
set_option maxRecDepth 100000 in
theorem rsync_is (p q : Option Addr) (ss : List Sl) (ts : List Can.T) (n c m d : Nat) (ev ti r : Int) (S : List Po.V) (M : List (Int × Po.U)) (h : Po.sync (ss.map Sl.view) (ts.map Po.tv) ev ti = (r, S, M)) (w : World) (hn : ss.length = n) (hm : ts.length = m) (hA : Po.At p ss w) (hT : Po.TgAt q ts w)
    (hF : ∀ s ∈ ss, Can.TAny s.t) (hG : ∀ t ∈ ts, Can.TAny t) (hl : n ≤ 1000) (hml : m ≤ 1000) :
    Calls Try.prog 39 #[.slice p n c, .slice q m d, .int .i64 ev, .int .i64 ti] w fun e w' =>
      (∃ v1 v2, e = .returned (.tuple #[v1, v2, .int .i64 r]) ∧ Po.Res w.heap.size ss ts v1 v2 S M w') ∧ Below w.heap.size w w' := by
  obtain ⟨b, hok⟩ : ∃ b, Po.okVs (ss.map Sl.view) = b := ⟨_, rfl⟩
  have HRI := Lib.hid (rright35_is p ss n c b hok w hn hA hF (by omega))
  have HA := Lib.hid hA
  unfold Po.sync at h
  rw [hok] at h
  cases b
  · rw [if_neg (by simp)] at h
    simp only [Prod.mk.injEq] at h
    obtain ⟨rfl, rfl, rfl⟩ := h
    clear hn hm hA hT hF hG hok
    go_enter Try.func39, Try.ntmps39
    go_wp2_with (go_at_call 42; refine HRI.out.mono ?_)
    first | rintro e w1 rfl hb1 | rintro e w1 ⟨rfl, hb1⟩
    go_wp2_with fail
    go_ret3
    exact ⟨⟨_, _, rfl, Po.Res.none _ _ _ _⟩, hb1⟩
  rw [if_pos rfl] at h
  obtain ⟨nm, hnm⟩ : ∃ x, Po.num ev ti = x := ⟨_, rfl⟩
  have HNM := Lib.hid (fun w => rnum_is ev ti nm hnm w)
  rw [hnm] at h
  cases nm
  · rw [if_neg (by simp)] at h
    simp only [Prod.mk.injEq] at h
    obtain ⟨rfl, rfl, rfl⟩ := h
    clear hn hm hA hT hF hG hok hnm
    go_enter Try.func39, Try.ntmps39
    go_wp2_with (go_at_call 42; refine HRI.out.mono ?_)
    first | rintro e w1 rfl hb1 | rintro e w1 ⟨rfl, hb1⟩
    go_wp2_with (go_at_call 71; refine (HNM.out _).mono ?_)
    first | rintro e w2 rfl m2 rfl | rintro e w2 m2 rfl rfl | rintro e w2 ⟨rfl, m2, rfl⟩
    go_wp2_with fail
    go_ret3
    exact ⟨⟨_, _, rfl, Po.Res.none _ _ _ _⟩, below_drewN hb1 m2⟩
  rw [if_pos rfl] at h
  obtain ⟨bt, hbt⟩ : ∃ bt, Po.okT (ts.map Po.tv) = bt := ⟨_, rfl⟩
  rw [hbt] at h
  have hke : ∀ s ∈ ss, Can.keyE s.t = 0 := fun s hs => ((Po.okVs_mem _ hok).1 (Sl.view s) (List.mem_map_of_mem hs)).1
  obtain ⟨K, hK⟩ : ∃ K, Po.ks (ss.map Sl.view) (ts.map Po.tv) = K := ⟨_, rfl⟩
  have HASC : Hid (Po.Asc K) := by show Po.Asc K; rw [← hK]; exact Po.srt_asc _
  have hKl : K.length ≤ n + m := by
    rw [← hK]
    refine Nat.le_trans (Po.srt_len _) ?_
    rw [List.length_append, List.length_map, List.length_map, List.length_map, List.length_map, hn, hm]
    exact Nat.le_refl _
  have HKM : Hid (∀ x, x ∈ K ↔ Po.mk x ∈ ss.map Sl.kb ++ ts.map Can.keyB) := fun x => by rw [← hK]; exact Po.ks_mem ss ts x
  have hlen : (Po.sS (ss.map Sl.view) (ts.map Po.tv) ev ti).length ≤ 3000 := by
    unfold Po.sS
    rw [hK]
    refine Nat.le_trans (flat_len _ 1 (fun x => Po.oS_len _ _ _ _) K) ?_
    omega
  have HH : Hid ((bt = false → r = 351 ∧ S = [] ∧ M = []) ∧ (bt = true → r = 0 ∧ S = K.flatMap (fun k => Po.oS ev ti (Po.sl (ss.map Sl.view) k) (Po.tg (ts.map Po.tv) k)) ∧ M = K.flatMap (fun k => Po.oM ev ti (Po.sl (ss.map Sl.view) k) (Po.tg (ts.map Po.tv) k)))) := by
    refine ⟨fun e => ?_, fun e => ?_⟩
    · rw [e, if_neg (by simp)] at h
      simp only [Prod.mk.injEq] at h
      exact ⟨h.1.symm, h.2.1.symm, h.2.2.symm⟩
    · rw [e, if_pos rfl, if_pos hlen] at h
      simp only [Prod.mk.injEq] at h
      refine ⟨h.1.symm, ?_, ?_⟩
      · rw [← h.2.1, ← hK]; rfl
      · rw [← h.2.2, ← hK]; rfl
  have HBT : Hid (bt = false ↔ ∃ t ∈ ts, Can.keyE t ≠ 0) := by
    show _ ↔ _
    rw [← hbt]
    unfold Po.okT
    rw [Bool.eq_false_iff, Ne, List.all_eq_true]
    constructor
    · intro h1
      refine Classical.byContradiction fun h2 => h1 fun u hu => ?_
      obtain ⟨t, ht, rfl⟩ := List.mem_map.1 hu
      rw [decide_eq_true_eq, ← Po.ke_keyE]
      exact Classical.byContradiction fun h3 => h2 ⟨t, ht, h3⟩
    · rintro ⟨t, ht, h2⟩ h3
      have := h3 (Po.tv t) (List.mem_map_of_mem ht)
      rw [decide_eq_true_eq, ← Po.ke_keyE] at this
      exact h2 this
  have HN := Lib.hid hn
  have HM := Lib.hid hm
  have HT := Lib.hid hT
  have HF := Lib.hid hF
  have HG := Lib.hid hG
  have HKE := Lib.hid hke
  have HKS : Hid (∀ x ∈ ss.map Sl.kb ++ ts.map Can.keyB, x.size ≤ 1000000) := fun x hx => by
    rcases List.mem_append.1 hx with hx | hx
    · obtain ⟨s, _, rfl⟩ := List.mem_map.1 hx; exact Po.keyB_small _
    · obtain ⟨s, _, rfl⟩ := List.mem_map.1 hx; exact Po.keyB_small _
  clear h hn hm hA hT hF hG hok hnm hbt hke hK hlen
  go_enter Try.func39, Try.ntmps39
  go_wp2_with (go_at_call 42; refine HRI.out.mono ?_)
  first | rintro e w1 rfl hb1 | rintro e w1 ⟨rfl, hb1⟩
  have HB1 := Lib.hid hb1
  clear hb1 HRI
  go_wp2_with (go_at_call 71; refine (HNM.out _).mono ?_)
  first | rintro e w2 rfl m2 rfl | rintro e w2 m2 rfl rfl | rintro e w2 ⟨rfl, m2, rfl⟩
  have HB2 : Hid (Below w.heap.size w (w1.drewN m2)) := below_drewN HB1.out m2
  obtain ⟨w2, hw2⟩ : ∃ x, x = w1.drewN m2 := ⟨_, rfl⟩
  rw [← hw2] at HB2
  try rw [← hw2]
  clear hw2 HNM HB1
  go_wp2_with fail
  go_loopw [11, 13, 14] (fun a1 a3 i wr => ∃ k : Nat, k ≤ n ∧ i = .int .i64 (k : Int) ∧ Hid (Po.KS w.heap.size a1 (.slice none 0 0) a3 ((ss.take k).map Sl.kb) [] ((ss.take k).map Sl.kb) wr) ∧ Hid (Below w.heap.size w wr)) (fun _ _ i _ => n - (intOf i).toNat)
  case atStart => exact ⟨0, Nat.zero_le _, rfl, Po.KS.nil _ _, HB2.out⟩
  case round =>
    obtain ⟨wj, rfl⟩ : ∃ wo : World, wo = wr := ⟨_, rfl⟩
    obtain ⟨k, hk, rfl, HKK, HB⟩ := hrel
    have hsz := HB.out.size
    by_cases hlt : k < n
    · have hk1 : k < ss.length := by rw [HN.out]; exact hlt
      have m1 : (0 : Int) ≤ (k : Int) := by omega
      have m2 : (k : Int) < (n : Int) := by omega
      have hAt := HA.out.below HB.out (Nat.le_refl _)
      obtain ⟨b0, o0, rfl, hcells⟩ := hAt.cells (by omega)
      obtain ⟨d0, d1, d2, d3, d4⟩ := hcells k hk1
      have hls := hAt.2 ss[k] (List.getElem_mem _)
      obtain ⟨f1, f2, f3, f4, f5⟩ := HF.out ss[k] (List.getElem_mem _)
      have he := HKE.out ss[k] (List.getElem_mem _)
      have htk : (ss.take (k + 1)).map Sl.kb = (ss.take k).map Sl.kb ++ [Sl.kb ss[k]] := by
        rw [List.take_add_one, List.getElem?_eq_getElem hk1, List.map_append]; rfl
      obtain ⟨s, hs⟩ : ∃ s, ss[k] = s := ⟨_, rfl⟩
      rw [hs] at d0 d1 hls f1 f2 f3 f4 f5 htk he
      obtain ⟨⟨kk, e0⟩, hq⟩ : ∃ x, Can.key (Lab.bs s.t.job) s.t.ls = x := ⟨_, rfl⟩
      have HC := Lib.hid (fun w hA => rkeyG_is s.t.job s.t.p s.t.ls s.t.n s.t.c kk e0 hq w f2 hA f3 f5 f1)
      have hkb : Sl.kb s = ⟨kk.toArray⟩ := by unfold Sl.kb Can.keyB; rw [hq]
      obtain ⟨y, hy⟩ : ∃ y, ByteArray.mk kk.toArray = y := ⟨_, rfl⟩
      rw [hy] at HC hkb
      rw [hkb] at htk
      obtain ⟨⟨tj, tp, tn, tc, tl⟩, sev, sti, sen⟩ := s
      dsimp only at d0 d1 hls HC
      have HX := Lib.hid htk
      have HLS := Lib.hid hls
      have hlk : ((ss.take k).map Sl.kb).length = k := by rw [List.length_map, List.length_take]; omega
      obtain ⟨l0, hl0⟩ : ∃ l0, (ss.take k).map Sl.kb = l0 := ⟨_, rfl⟩
      rw [hl0] at HKK HX hlk
      have hlk2 : l0.length + 1 ≤ 1000000000 := by omega
      clear hs hcells hAt d2 d3 d4 hq hkb hy htk hls f1 f2 f3 f4 f5 hlk hl0 he
      go_wp2_with (go_at_call 72; refine (HC.out _ HLS.out).mono ?_)
      first | rintro e w3 rfl hb3 | rintro e w3 ⟨rfl, hb3⟩
      have HB3 : Hid (Below w.heap.size w w3) := below_next HB.out hb3
      have HK3 : Hid (Po.KS w.heap.size _ _ _ l0 [] l0 w3) := HKK.out.below hb3 (Nat.le_refl _)
      have hs3 := HB3.out.size
      clear hb3 HKK HC
      go_wp2_with (at_builtin; refine wpList_pushRec2 stOk 94 Try.underlying94 rfl _ _ rfl w.heap.size _ l0 w3 rfl (by exact HK3.out.o1) y _ _ rfl _ rfl rfl hlk2 hs3 ?_)
      intro g1 c1 w4 ho1 hg1 hx1
      have HK4 := Lib.hid (HK3.out.push1 ho1 hg1 hx1)
      have HB4 : Hid (Below w.heap.size w w4) := (HB3.out.alloc hs3 _).grown hg1 (by simp; omega) (fun j hj => (World.ownsRow.lt HK3.out.o1 j hj).1)
      have hs4 := HB4.out.size
      clear ho1 hg1 hx1 HK3
      go_wp2_with (at_builtin; refine wpList_pushRec2 stOk 94 Try.underlying94 rfl _ _ rfl w.heap.size _ l0 w4 rfl (by exact HK4.out.o3) y _ _ rfl _ rfl rfl hlk2 hs4 ?_)
      intro g2 c2 w5 ho2 hg2 hx2
      have HK5 := Lib.hid (HK4.out.push3 ho2 hg2 hx2)
      have HB5 : Hid (Below w.heap.size w w5) := (HB4.out.alloc hs4 _).grown hg2 (by simp; omega) (fun j hj => (World.ownsRow.lt HK4.out.o3 j hj).1)
      clear ho2 hg2 hx2
      go_wp2_with fail
      go_roundw
      case rel => exact ⟨k + 1, by omega, by go_num, (by show Po.KS _ _ _ _ _ _ _ _; rw [HX.out]; exact HK5.out), HB5.out⟩
      case measure => simp [intOf]; omega
    · have n2 : (n : Int) ≤ (k : Int) := by omega
      have hks := HKK.out
      rw [List.take_of_length_le (by rw [HN.out]; omega)] at hks
      have HK0 := Lib.hid hks
      clear hks HKK
      go_wp2_with fail
      go_loopw [12, 13, 17] (fun a2 a3 i wr => ∃ k : Nat, k ≤ m ∧ i = .int .i64 (k : Int) ∧ Hid (Po.KS w.heap.size _ a2 a3 (ss.map Sl.kb) ((ts.take k).map Can.keyB) (ss.map Sl.kb ++ (ts.take k).map Can.keyB) wr) ∧ Hid (∀ j (hj : j < ts.length), j < k → Can.keyE ts[j] = 0) ∧ Hid (Below w.heap.size w wr)) (fun _ _ i _ => m - (intOf i).toNat)
      case atStart => exact ⟨0, Nat.zero_le _, rfl, (by rw [List.take_zero, List.map_nil, List.append_nil]; exact HK0.out), fun j _ hj => absurd hj (Nat.not_lt_zero _), HB.out⟩
      case round =>
        obtain ⟨wi, rfl⟩ : ∃ wo : World, wo = wr := ⟨_, rfl⟩
        obtain ⟨j, hj, rfl, HKK, HZ, HBI⟩ := hrel
        have hsi := HBI.out.size
        by_cases hlt2 : j < m
        · have hj1 : j < ts.length := by rw [HM.out]; exact hlt2
          have m1 : (0 : Int) ≤ (j : Int) := by omega
          have m2 : (j : Int) < (m : Int) := by omega
          have hTt : Can.TPos q ts wi := HT.out.pos.below HBI.out (Nat.le_refl _)
          obtain ⟨b0, o0, rfl, hcells⟩ := Po.TAt1.cells (show Po.TAt1 q ts wi from hTt) (by omega)
          obtain ⟨d0, d1⟩ := hcells j hj1
          have hls := Po.TAt1.lab (show Po.TAt1 _ ts wi from hTt) j hj1
          obtain ⟨f1, f2, f3, f4, f5⟩ := HG.out ts[j] (List.getElem_mem _)
          have htk : (ts.take (j + 1)).map Can.keyB = (ts.take j).map Can.keyB ++ [Can.keyB ts[j]] := by
            rw [List.take_add_one, List.getElem?_eq_getElem hj1, List.map_append]; rfl
          obtain ⟨t, ht⟩ : ∃ t, ts[j] = t := ⟨_, rfl⟩
          have HTJ := Lib.hid ht
          rw [ht] at d0 d1 hls f1 f2 f3 f4 f5 htk
          obtain ⟨⟨kk, e0⟩, hq⟩ : ∃ x, Can.key (Lab.bs t.job) t.ls = x := ⟨_, rfl⟩
          have HC := Lib.hid (fun w hA => rkeyG_is t.job t.p t.ls t.n t.c kk e0 hq w f2 hA f3 f5 f1)
          have hkb : Can.keyB t = ⟨kk.toArray⟩ := by unfold Can.keyB; rw [hq]
          have hkE : Can.keyE t = e0 := by unfold Can.keyE; rw [hq]
          have HKEE := Lib.hid hkE
          obtain ⟨y, hy⟩ : ∃ y, ByteArray.mk kk.toArray = y := ⟨_, rfl⟩
          rw [hy] at HC hkb
          rw [hkb] at htk
          obtain ⟨tj, tp, tn, tc, tl⟩ := t
          dsimp only at d0 d1 hls HC
          have HX := Lib.hid htk
          have HLS := Lib.hid hls
          have hlk : ((ts.take j).map Can.keyB).length = j := by rw [List.length_map, List.length_take]; omega
          have hlk3 : (ss.map Sl.kb).length = n := by rw [List.length_map]; exact HN.out
          obtain ⟨l0, hl0⟩ : ∃ l0, (ts.take j).map Can.keyB = l0 := ⟨_, rfl⟩
          obtain ⟨l1, hl1⟩ : ∃ l1, ss.map Sl.kb = l1 := ⟨_, rfl⟩
          rw [hl0, hl1] at HKK
          rw [hl0] at HX hlk
          rw [hl1] at hlk3
          have hlk2 : l0.length + 1 ≤ 1000000000 := by omega
          have hlk4 : (l1 ++ l0).length + 1 ≤ 1000000000 := by rw [List.length_append]; omega
          have HL1 := Lib.hid hl1
          obtain ⟨l3, hl3⟩ : ∃ l3, l1 ++ l0 = l3 := ⟨_, rfl⟩
          rw [hl3] at HKK hlk4
          have HL3 := Lib.hid hl3
          clear hl3
          clear ht hcells hTt hq hkb hkE hy htk hls f1 f2 f3 f4 f5 hlk hl0 hl1 hlk3
          go_wp2_with (go_at_call 72; refine (HC.out _ HLS.out).mono ?_)
          first | rintro e w3 rfl hb3 | rintro e w3 ⟨rfl, hb3⟩
          have HB3 : Hid (Below w.heap.size w w3) := below_next HBI.out hb3
          have HK3 : Hid (Po.KS w.heap.size _ _ _ l1 l0 l3 w3) := HKK.out.below hb3 (Nat.le_refl _)
          have hs3 := HB3.out.size
          clear hb3 HKK HC
          by_cases h00 : e0 = 0
          · subst h00
            go_wp2_with (at_builtin; refine wpList_pushRec2 stOk 94 Try.underlying94 rfl _ _ rfl w.heap.size _ l0 w3 rfl (by exact HK3.out.o2) y _ _ rfl _ rfl rfl hlk2 hs3 ?_)
            intro g1 c1 w4 ho1 hg1 hx1
            have HK4 := Lib.hid (HK3.out.push2 ho1 hg1 hx1)
            have HB4 : Hid (Below w.heap.size w w4) := (HB3.out.alloc hs3 _).grown hg1 (by simp; omega) (fun j hj => (World.ownsRow.lt HK3.out.o2 j hj).1)
            have hs4 := HB4.out.size
            clear ho1 hg1 hx1 HK3
            go_wp2_with (at_builtin; refine wpList_pushRec2 stOk 94 Try.underlying94 rfl _ _ rfl w.heap.size _ l3 w4 rfl (by exact HK4.out.o3) y _ _ rfl _ rfl rfl hlk4 hs4 ?_)
            intro g2 c2 w5 ho2 hg2 hx2
            have HK5 := Lib.hid (HK4.out.push3 ho2 hg2 hx2)
            have HB5 : Hid (Below w.heap.size w w5) := (HB4.out.alloc hs4 _).grown hg2 (by simp; omega) (fun j hj => (World.ownsRow.lt HK4.out.o3 j hj).1)
            have HZ2 : Hid (∀ i (hi : i < ts.length), i < j + 1 → Can.keyE ts[i] = 0) := fun i hi h2 => by
              by_cases hij : i = j
              · subst hij; rw [HTJ.out]; exact HKEE.out
              · exact HZ.out i hi (by omega)
            clear ho2 hg2 hx2
            go_wp2_with fail
            go_roundw
            case rel => exact ⟨j + 1, by omega, by go_num, (by show Po.KS _ _ _ _ _ _ _ _; rw [HX.out, HL1.out, ← List.append_assoc, HL3.out]; exact HK5.out), HZ2.out, HB5.out⟩
            case measure => simp [intOf]; omega
          · have be : (e0 != 0) = true := by simpa using h00
            have hbf : bt = false := HBT.out.2 ⟨ts[j], List.getElem_mem _, by rw [HTJ.out, HKEE.out]; exact h00⟩
            obtain ⟨rfl, rfl, rfl⟩ := HH.out.1 hbf
            clear hbf h00
            go_wp2_with fail
            go_ret3
            exact ⟨⟨_, _, rfl, Po.Res.none _ _ _ _⟩, HB3.out⟩
        · have n2 : (m : Int) ≤ (j : Int) := by omega
          have hbt : bt = true := by
            cases hbb : bt with
            | true => rfl
            | false =>
              obtain ⟨t, ht, h2⟩ := HBT.out.1 hbb
              obtain ⟨i, hi, rfl⟩ := List.getElem_of_mem ht
              exact absurd (HZ.out i hi (by have := HM.out; omega)) h2
          obtain ⟨rfl, hS, hM⟩ := HH.out.2 hbt
          have HSS := Lib.hid hS
          have HMM := Lib.hid hM
          have hks := HKK.out
          rw [List.take_of_length_le (by rw [HM.out]; omega)] at hks
          obtain ⟨pO, cO, hvO, _⟩ := hks.o1.shape
          obtain ⟨pW, cW, hvW, _⟩ := hks.o2.shape
          obtain ⟨pA, cA, hvA, _⟩ := hks.o3.shape
          subst hvO hvW hvA
          have hlO : (ss.map Sl.kb).length = n := by rw [List.length_map]; exact HN.out
          have hlW : (ts.map Can.keyB).length = m := by rw [List.length_map]; exact HM.out
          have hlA : (ss.map Sl.kb ++ ts.map Can.keyB).length = n + m := by rw [List.length_append, hlO, hlW]
          rw [hlO, hlW, hlA] at hks ⊢
          have HK0 := Lib.hid hks
          clear hks HKK hbt hS hM hlO hlW hlA HZ HBT HH n2
          obtain ⟨own, hown⟩ : ∃ own, ss.map Sl.kb = own := ⟨_, rfl⟩
          obtain ⟨wnt, hwnt⟩ : ∃ wnt, ts.map Can.keyB = wnt := ⟨_, rfl⟩
          obtain ⟨all, hall⟩ : ∃ all, own ++ wnt = all := ⟨_, rfl⟩
          rw [hown, hwnt, hall] at HK0
          rw [hown, hwnt, hall] at HKM HKS
          have HALL := Lib.hid hall
          have HOW := Lib.hid hown
          have HWN := Lib.hid hwnt
          have hKA : ∀ x ∈ all, Lab.bs x ∈ K := fun x hx => (HKM.out _).2 (by rw [Po.mk_bs]; exact hx)
          have hKB : ∀ k ∈ K, Po.mk k ∈ all := fun k hk => (HKM.out k).1 hk
          have h0 : Po.lst all ⟨#[]⟩ true = (K[0]?).map Po.mk := Po.lst_at K HASC.out all hKA hKB _ true 0 (fun x hx => ⟨fun _ => by rw [List.drop_zero]; exact hKA x hx, fun _ => rfl⟩)
          have HNX : Hid (∀ i, i < K.length → Po.lst all (Po.kAt K i) false = (K[i + 1]?).map Po.mk) := fun i hi => by
            have e : Po.kAt K i = Po.mk K[i] := by unfold Po.kAt; rw [List.getElem?_eq_getElem hi]; rfl
            rw [e]
            refine Po.lst_at K HASC.out all hKA hKB _ false (i + 1) (fun x hx => ?_)
            rw [Bool.false_or, decide_eq_true_eq, Po.bs_mk]
            exact Po.cond_next K HASC.out i hi _ (hKA x hx)
          have HL0 := Lib.hid (rleast_at w.heap.size (n + m) cA pA all ⟨#[]⟩ _ true _ K 0 h0 rfl rfl wi HK0.out.o3.texts (by omega) (by decide) HKS.out)
          have HKAZ : Hid (∀ i, i < K.length → (Po.kAt K i).size ≤ 1000000) := fun i hi => by
            have e : Po.kAt K i = Po.mk K[i] := by unfold Po.kAt; rw [List.getElem?_eq_getElem hi]; rfl
            rw [e]
            exact HKS.out _ (hKB _ (List.getElem_mem _))
          have HKB := Lib.hid hKB
          obtain ⟨L, hL⟩ : ∃ L, K.length = L := ⟨_, rfl⟩
          have HLL := Lib.hid hL
          have hLnm : L ≤ n + m := by omega
          clear hKA hKB h0 hown hwnt hall hKl
          go_wp2_with (go_at_call 73; refine HL0.out.mono ?_)
          first | rintro e wk rfl hbk | rintro e wk ⟨rfl, hbk⟩
          have HBK : Hid (Below w.heap.size w wk) := below_next HBI.out hbk
          have HK1 : Hid (Po.KS w.heap.size _ _ _ own wnt all wk) := HK0.out.below hbk (Nat.le_refl _)
          rw [hL]
          obtain ⟨k22, hk22⟩ : ∃ x, Po.kAt K 0 = x := ⟨_, rfl⟩
          obtain ⟨t23, ht23⟩ : ∃ x, decide (0 < L) = x := ⟨_, rfl⟩
          rw [hk22, ht23]
          have H22 := Lib.hid hk22
          have H23 := Lib.hid ht23
          clear hbk HL0 HK0 hL hk22 ht23
          go_wp2_with fail
          go_loopw [20, 21, 22, 23] (fun va vb kv tv wr => ∃ (i : Nat) (o1 : List Sl) (m1 : List Mv) (kb : ByteArray) (tb : Bool), i ≤ L ∧ kv = .string kb ∧ tv = .bool tb ∧ Hid (Po.kAt K i = kb) ∧ Hid (decide (i < L) = tb) ∧ Hid (Po.R3 w.heap.size va vb (.slice pO n cO) (.slice pW m cW) (.slice pA (n + m) cA) o1 m1 own wnt all wr) ∧
            Hid (o1.map Sl.view = (K.take i).flatMap (fun k => Po.oS ev ti (Po.sl (ss.map Sl.view) k) (Po.tg (ts.map Po.tv) k))) ∧ Hid (m1.map Mv.view = (K.take i).flatMap (fun k => Po.oM ev ti (Po.sl (ss.map Sl.view) k) (Po.tg (ts.map Po.tv) k))) ∧
            Hid ((∀ s ∈ o1, s.t ∈ ss.map Sl.t ++ ts) ∧ ∀ x ∈ m1, x.t ∈ ss.map Sl.t ++ ts) ∧ Hid (o1.length ≤ i ∧ m1.length ≤ 2 * i) ∧ Hid (Below w.heap.size w wr)) (fun _ _ kv tv _ => Po.mea K kv tv)
          case atStart => exact ⟨0, [], [], k22, t23, Nat.zero_le _, rfl, rfl, H22.out, H23.out, ⟨OwnR.nil _ _ _, OwnR.nil _ _ _, HK1.out⟩, rfl, rfl, ⟨fun s h => (nomatch h), fun s h => (nomatch h)⟩, ⟨Nat.le_refl _, Nat.le_refl _⟩, HBK.out⟩
          case round =>
            clear H22 H23 HK1 HBK
            obtain ⟨wp, rfl⟩ : ∃ wo : World, wo = wr := ⟨_, rfl⟩
            obtain ⟨i, o1, m1, kb, tb, hi, rfl, rfl, HKB1, HTB, HR, HO1, HM1, HIN, HLN, HB⟩ := hrel
            have hsp := HB.out.size
            cases tb
            · have hiL : i = L := by have := of_decide_eq_false HTB.out; omega
              have hres : Po.Res w.heap.size ss ts _ _ S M wp := ⟨o1, m1, HR.out.rs, HR.out.rm, (by rw [HO1.out, HSS.out, List.take_of_length_le (by rw [HLL.out]; omega)]), (by rw [HM1.out, HMM.out, List.take_of_length_le (by rw [HLL.out]; omega)]), HIN.out.1, HIN.out.2⟩
              have hol : o1.length ≤ 3000 := by have := HLN.out.1; omega
              obtain ⟨pX, cX, hvX, _⟩ := HR.out.rs.shape
              subst hvX
              have n9 : (o1.length : Int) ≤ 3000 := by omega
              have HRES := Lib.hid hres
              clear hres hol hiL
              go_wp2_with fail
              go_ret3
              exact ⟨⟨_, _, rfl, HRES.out⟩, HB.out⟩
            · have hiL : i < L := of_decide_eq_true HTB.out
              have hiK : i < K.length := by rw [HLL.out]; exact hiL
              have hkat : Po.kAt K i = Po.mk K[i] := by unfold Po.kAt; rw [List.getElem?_eq_getElem hiK]; rfl
              have hbs : Lab.bs kb = K[i] := by rw [← HKB1.out, hkat, Po.bs_mk]
              have hmk : Po.mk K[i] = kb := by rw [← hbs, Po.mk_bs]
              have hst : K.take (i + 1) = K.take i ++ [K[i]] := by rw [List.take_add_one, List.getElem?_eq_getElem hiK]; rfl
              have hin := HKB.out K[i] (List.getElem_mem _)
              rw [hmk] at hin
              have hsl := Po.sl_ix ss kb
              have htg := Po.tg_ix ts kb
              rw [hbs, HOW.out] at hsl
              rw [hbs, HWN.out] at htg
              have HST := Lib.hid hst
              have HI1 := Lib.hid (rindex_is w.heap.size n cO pO own kb wp HR.out.ks.o1.texts (by omega))
              have HI2 := Lib.hid (fun W h => rindex_is w.heap.size m cW pW wnt kb W h (by omega))
              have HNXT := Lib.hid (fun W h => rleast_at w.heap.size (n + m) cA pA all kb (Po.kAt K (i + 1)) false (decide (i + 1 < L)) K (i + 1) (by rw [← HKB1.out]; exact HNX.out i hiK) rfl (by rw [HLL.out]) W h (by omega) (by rw [← HKB1.out]; exact HKAZ.out i hiK) HKS.out)
              obtain ⟨x1, hx1⟩ : ∃ x, Po.ixOf own kb = x := ⟨_, rfl⟩
              obtain ⟨x2, hx2⟩ : ∃ x, Po.ixOf wnt kb = x := ⟨_, rfl⟩
              rw [hx1] at HI1 hsl
              rw [hx2] at HI2 htg
              obtain ⟨kk, hkk⟩ : ∃ kk, K[i] = kk := ⟨_, rfl⟩
              rw [hkk] at HST hsl htg
              have HSL := Lib.hid hsl
              have HTG := Lib.hid htg
              have HME1 := Po.mea_at K HASC.out i
              have HME2 := Po.mea_at K HASC.out (i + 1)
              rw [HKB1.out, HLL.out, decide_eq_true hiL] at HME1
              rw [HLL.out] at HME2
              obtain ⟨kb2, hkb2⟩ : ∃ x, Po.kAt K (i + 1) = x := ⟨_, rfl⟩
              obtain ⟨tb2, htb2⟩ : ∃ x, decide (i + 1 < L) = x := ⟨_, rfl⟩
              rw [hkb2, htb2] at HNXT HME2
              have HKB2 := Lib.hid hkb2
              have HTB2 := Lib.hid htb2
              have HMEA : Hid (Po.mea K (.string kb2) (.bool tb2) < Po.mea K (.string kb) (.bool true)) := by show _ < _; rw [HME1, HME2]; omega
              have hcase : (x1 = -1 ∧ Po.sl (ss.map Sl.view) kk = none ∧ ∃ j : Nat, x2 = (j : Int) ∧ ∃ hj : j < ts.length, Po.tg (ts.map Po.tv) kk = some (Po.tv ts[j])) ∨
                  ∃ i1 : Nat, x1 = (i1 : Int) ∧ ∃ hi1 : i1 < ss.length, Po.sl (ss.map Sl.view) kk = some (Sl.view ss[i1]) ∧ ((x2 = -1 ∧ Po.tg (ts.map Po.tv) kk = none) ∨ ∃ j : Nat, x2 = (j : Int) ∧ ∃ hj : j < ts.length, Po.tg (ts.map Po.tv) kk = some (Po.tv ts[j])) := by
                rcases hsl with ⟨h1, h2⟩ | ⟨i1, h1, h2, h3⟩
                · rcases htg with ⟨h4, h5⟩ | h4
                  · exfalso
                    have h6 := Po.ixOf_cases own kb
                    have h7 := Po.ixOf_cases wnt kb
                    rw [hx1, h1] at h6
                    rw [hx2, h4] at h7
                    rcases h6 with ⟨_, h6⟩ | ⟨q, h6, _⟩
                    · rcases h7 with ⟨_, h7⟩ | ⟨q, h7, _⟩
                      · have h8 := (HKM.out kk).1 (by rw [← hkk]; exact List.getElem_mem _)
                        have h9 : kb ∈ own ++ wnt := by rw [HALL.out]; exact hin
                        rcases List.mem_append.1 h9 with h9 | h9
                        · exact h6 kb h9 rfl
                        · exact h7 kb h9 rfl
                      · omega
                    · omega
                  · exact .inl ⟨h1, h2, h4⟩
                · exact .inr ⟨i1, h1, h2, h3, htg⟩
              clear hkat hbs hmk hst hin hsl htg hx1 hx2 hkb2 htb2 HME1 HME2 HKB1 HTB hiK hkk HSL HTG
              have HCS := Lib.hid hcase
              clear hcase
              go_wp2_with (go_at_call 74; refine HI1.out.mono ?_)
              first | rintro e wq rfl hbq | rintro e wq ⟨rfl, hbq⟩
              have HRQ := Lib.hid (HR.out.below hbq (Nat.le_refl _))
              have HBQ : Hid (Below w.heap.size w wq) := below_next HB.out hbq
              clear hbq HR HI1
              go_wp2_with (go_at_call 74; refine (HI2.out _ HRQ.out.ks.o2.texts).mono ?_)
              first | rintro e wz rfl hbz | rintro e wz ⟨rfl, hbz⟩
              have HRZ := Lib.hid (HRQ.out.below hbz (Nat.le_refl _))
              have HBZ : Hid (Below w.heap.size w wz) := below_next HBQ.out hbz
              have hsz3 := HBZ.out.size
              have hol : o1.length + 1 ≤ 1000000000 := by have := HLN.out.1; omega
              have hml1 : m1.length + 1 ≤ 1000000000 := by have := HLN.out.2; omega
              have hml2 : m1.length + 1 + 1 ≤ 1000000000 := by have := HLN.out.2; omega
              clear hbz HRQ HI2 HBQ
              rcases HCS.out with ⟨rfl, hsl, j, rfl, hj, htg⟩ | ⟨i1, rfl, hi1, hsl, htg⟩
              · obtain ⟨b0, o0, rfl, hcells⟩ := Po.TAt1.cells (show Po.TAt1 q ts wz from HT.out.pos.below HBZ.out (Nat.le_refl _)) (by omega)
                obtain ⟨d0, d1⟩ := hcells j hj
                have HSL2 := Lib.hid hsl
                have HTG2 := Lib.hid htg
                have htm : ts[j] ∈ ss.map Sl.t ++ ts := List.mem_append_right _ (List.getElem_mem _)
                obtain ⟨t, ht⟩ : ∃ t, ts[j] = t := ⟨_, rfl⟩
                rw [ht] at d0 d1 HTG2 htm
                obtain ⟨tj, tp, tn, tc, tl⟩ := t
                dsimp only at d0 d1
                have HTM := Lib.hid htm
                have m1x : (0 : Int) ≤ (j : Int) := by omega
                have m2x : (j : Int) < (m : Int) := by have := HM.out; omega
                have hgb : b0 < wz.heap.size := World.block_lt_of_cell? _ _ d0
                have HD := Lib.hid (show _ ∧ _ from ⟨d0, d1⟩)
                have R0 := HRZ
                have B0 := HBZ
                have HTJ2 := Lib.hid ht
                clear hcells ht hsl htg htm
                have hs0 := B0.out.size
                go_wp2_with (at_builtin; refine wpList_pushRec rsOk 71 Try.underlying71 rfl _ _ rfl w.heap.size _ o1 wz rfl (by exact R0.out.rs) ⟨⟨tj, tp, tn, tc, tl⟩, ev, ti, false⟩ _ _ rfl _ rfl rfl (by first | exact hol | (rw [List.length_append]; exact hol)) hs0 ?_)
                intro v0 W0 ho0 hg0
                have R1 := Lib.hid (R0.out.pushS (x := ⟨⟨tj, tp, tn, tc, tl⟩, ev, ti, false⟩) (by first | exact ho0 | (rw [List.append_assoc]; exact ho0)) hg0)
                have B1 : Hid (Below w.heap.size w W0) := (B0.out.alloc hs0 _).grown hg0 (by simp; omega) (fun j hj => (World.ownsRow.lt R0.out.rs j hj).1)
                clear d0 d1
                have hkd : ∀ k, W0.cell? ⟨b0, o0 + j * 2 + k, none⟩ = W0.cell? ⟨b0, o0 + j * 2 + k, none⟩ := fun _ => rfl
                clear hkd
                have hTW : Can.TPos (some ⟨b0, o0, none⟩) ts W0 := HT.out.pos.below B1.out (Nat.le_refl _)
                obtain ⟨b9, o9, e9, hcells⟩ := Po.TAt1.cells (show Po.TAt1 (some ⟨b0, o0, none⟩) ts W0 from hTW) (by omega)
                simp only [Option.some.injEq, Addr.mk.injEq, and_true] at e9
                obtain ⟨rfl, rfl⟩ := e9
                obtain ⟨d0, d1⟩ := hcells j hj
                have hgb2 : b0 < W0.heap.size := World.block_lt_of_cell? _ _ d0
                rw [HTJ2.out] at d0 d1
                dsimp only at d0 d1
                clear hcells hTW ho0 hg0
                have hs1 := B1.out.size
                go_wp2_with (at_builtin; refine wpList_pushRec rmOk 72 Try.underlying72 rfl _ _ rfl w.heap.size _ m1 W0 rfl (by exact R1.out.rm) ⟨1, ⟨tj, tp, tn, tc, tl⟩⟩ _ _ rfl _ rfl rfl (by first | exact hml1 | (rw [List.length_append]; exact hml1)) hs1 ?_)
                intro v1 W1 ho1 hg1
                have R2 := Lib.hid (R1.out.pushM (x := ⟨1, ⟨tj, tp, tn, tc, tl⟩⟩) (by first | exact ho1 | (rw [List.append_assoc]; exact ho1)) hg1)
                have B2 : Hid (Below w.heap.size w W1) := (B1.out.alloc hs1 _).grown hg1 (by simp; omega) (fun j hj => (World.ownsRow.lt R1.out.rm j hj).1)
                clear d0 d1 ho1 hg1
                skip
                go_wp2_with (go_at_call 73; refine (HNXT.out _ R2.out.ks.o3.texts).mono ?_)
                first | rintro e wy rfl hby | rintro e wy ⟨rfl, hby⟩
                have RY := Lib.hid (R2.out.below hby (Nat.le_refl _))
                have BY : Hid (Below w.heap.size w wy) := below_next B2.out hby
                clear hby HNXT
                go_wp2_with fail
                go_roundw
                case rel => exact ⟨i + 1, o1 ++ [(⟨⟨tj, tp, tn, tc, tl⟩, ev, ti, false⟩ : Sl)], m1 ++ [(⟨1, ⟨tj, tp, tn, tc, tl⟩⟩ : Mv)], kb2, tb2, by omega, rfl, rfl, HKB2.out, HTB2.out, RY.out, (by show _ = _; rw [HST.out, List.flatMap_append, List.map_append, HO1.out]; congr 1; simp only [List.flatMap_cons, List.flatMap_nil, List.append_nil, HSL2.out, HTG2.out]; rfl), (by show _ = _; rw [HST.out, List.flatMap_append, List.map_append, HM1.out]; congr 1; simp only [List.flatMap_cons, List.flatMap_nil, List.append_nil, HSL2.out, HTG2.out]; rfl), ⟨fun s hs => by rcases List.mem_append.1 hs with hs | hs; exact HIN.out.1 s hs; rw [List.mem_singleton] at hs; subst hs; exact HTM.out, fun s hs => by rcases List.mem_append.1 hs with hs | hs; exact HIN.out.2 s hs; rw [List.mem_singleton] at hs; subst hs; exact HTM.out⟩, ⟨(by have h9 := HLN.out.1; simp only [List.length_append, List.length_cons, List.length_nil]; omega), (by have h9 := HLN.out.2; (try simp only [List.length_append, List.length_cons, List.length_nil]); omega)⟩, BY.out⟩
                case measure => exact HMEA.out
              · obtain ⟨b0, o0, rfl, hcells⟩ := (HA.out.below HBZ.out (Nat.le_refl _)).cells (by omega)
                obtain ⟨d0, d1, d2, d3, d4⟩ := hcells i1 hi1
                have HSL2 := Lib.hid hsl
                have htm : ss[i1].t ∈ ss.map Sl.t ++ ts := List.mem_append_left _ (List.mem_map_of_mem (List.getElem_mem _))
                obtain ⟨s, hs⟩ : ∃ s, ss[i1] = s := ⟨_, rfl⟩
                rw [hs] at d0 d1 d2 d3 d4 HSL2 htm
                obtain ⟨⟨sj, sp, sn, sc, sl⟩, sev, sti, sen⟩ := s
                dsimp only at d0 d1 d2 d3 d4
                have HTM := Lib.hid htm
                have m1x : (0 : Int) ≤ (i1 : Int) := by omega
                have m2x : (i1 : Int) < (n : Int) := by have := HN.out; omega
                have m3x : ¬ ((i1 : Int) < 0) := by omega
                have hgb : b0 < wz.heap.size := World.block_lt_of_cell? _ _ d0
                have HKX := Lib.hid (fun b => alloc_new wz (.cells #[.string sj, .slice sp sn sc, .int .i64 sev, .int .i64 sti, .bool b] 128))
                have hsta : ∀ b, Below wz.heap.size wz (wz.alloc (.cells #[.string sj, .slice sp sn sc, .int .i64 sev, .int .i64 sti, .bool b] 128)) := fun b => (Below.refl _ _).alloc (Nat.le_refl _) _
                have HSTA := Lib.hid hsta
                clear hcells hs hsl htm hsta
                cases sen
                · rcases htg with ⟨rfl, htg⟩ | ⟨j, rfl, hj, htg⟩
                  · have HOS : Hid (Po.oS ev ti (some (Sl.view ⟨⟨sj, sp, sn, sc, sl⟩, sev, sti, false⟩)) none = [(sj, sl, sev, sti, true)]) := by show _ = _; simp [Po.oS, Sl.view]
                    have HOM : Hid (Po.oM ev ti (some (Sl.view ⟨⟨sj, sp, sn, sc, sl⟩, sev, sti, false⟩)) none = [((2 : Int), sj, sl)]) := by show _ = _; simp [Po.oM, Sl.view]
                    have HTG2 := Lib.hid htg
                    clear htg
                    obtain ⟨U, hU⟩ : ∃ U, U = wz.alloc (.cells #[.string sj, .slice sp sn sc, .int .i64 sev, .int .i64 sti, .bool true] 128) := ⟨_, rfl⟩
                    have hkU : U.heap[wz.heap.size]? = some (.cells #[.string sj, .slice sp sn sc, .int .i64 sev, .int .i64 sti, .bool true] 128) := by rw [hU]; exact HKX.out true
                    have hbU : Below wz.heap.size wz U := by rw [hU]; exact HSTA.out true
                    have y0U : U.cell? ⟨wz.heap.size, 0, none⟩ = some (.string sj) := by rw [Lib.cell_of_heap hkU]; rfl
                    have y1U : U.cell? ⟨wz.heap.size, 1, none⟩ = some (.slice sp sn sc) := by rw [Lib.cell_of_heap hkU]; rfl
                    have y2U : U.cell? ⟨wz.heap.size, 2, none⟩ = some (.int .i64 sev) := by rw [Lib.cell_of_heap hkU]; rfl
                    have y3U : U.cell? ⟨wz.heap.size, 3, none⟩ = some (.int .i64 sti) := by rw [Lib.cell_of_heap hkU]; rfl
                    have y4U : U.cell? ⟨wz.heap.size, 4, none⟩ = some (.bool true) := by rw [Lib.cell_of_heap hkU]; rfl
                    have ylU : wz.heap.size < U.heap.size := lt_of_heap hkU
                    have R0 := Lib.hid (HRZ.out.below hbU (Nat.le_refl _))
                    have B0 : Hid (Below w.heap.size w U) := below_next HBZ.out hbU
                    have HKU := Lib.hid hkU
                    clear hbU hkU
                    have HUU := Lib.hid hU
                    have hs0 := B0.out.size
                    go_wp2_with (first | (rw [← HUU.out]) | (at_builtin; refine wpList_pushRec rmOk 72 Try.underlying72 rfl _ _ rfl w.heap.size _ m1 U rfl (by exact R0.out.rm) ⟨2, ⟨sj, sp, sn, sc, sl⟩⟩ _ _ rfl _ rfl (by first | rfl | (rw [HUU.out]; simp)) (by first | exact hml1 | (rw [List.length_append]; exact hml1)) hs0 ?_))
                    intro v0 W0 ho0 hg0
                    have R1 := Lib.hid (R0.out.pushM (x := ⟨2, ⟨sj, sp, sn, sc, sl⟩⟩) (by first | exact ho0 | (rw [List.append_assoc]; exact ho0)) hg0)
                    have B1 : Hid (Below w.heap.size w W0) := (B0.out.alloc hs0 _).grown hg0 (by simp; omega) (fun j hj => (World.ownsRow.lt R0.out.rm j hj).1)
                    have hk0x : W0.heap[wz.heap.size]? = some (.cells #[.string sj, .slice sp sn sc, .int .i64 sev, .int .i64 sti, .bool true] 128) := OwnR.grown_block (R0.out.rm.alloc _) hg0 (alloc_kept HKU.out) (by decide)
                    have HK0x := Lib.hid hk0x
                    clear y0U y1U y2U y3U y4U
                    have y0W0 : W0.cell? ⟨wz.heap.size, 0, none⟩ = some (.string sj) := by rw [Lib.cell_of_heap hk0x]; rfl
                    have y1W0 : W0.cell? ⟨wz.heap.size, 1, none⟩ = some (.slice sp sn sc) := by rw [Lib.cell_of_heap hk0x]; rfl
                    have y2W0 : W0.cell? ⟨wz.heap.size, 2, none⟩ = some (.int .i64 sev) := by rw [Lib.cell_of_heap hk0x]; rfl
                    have y3W0 : W0.cell? ⟨wz.heap.size, 3, none⟩ = some (.int .i64 sti) := by rw [Lib.cell_of_heap hk0x]; rfl
                    have y4W0 : W0.cell? ⟨wz.heap.size, 4, none⟩ = some (.bool true) := by rw [Lib.cell_of_heap hk0x]; rfl
                    have ylW0 : wz.heap.size < W0.heap.size := lt_of_heap hk0x
                    clear hk0x ho0 hg0
                    have hs1 := B1.out.size
                    go_wp2_with (at_builtin; refine wpList_pushRec rsOk 71 Try.underlying71 rfl _ _ rfl w.heap.size _ o1 W0 rfl (by exact R1.out.rs) ⟨⟨sj, sp, sn, sc, sl⟩, sev, sti, true⟩ _ _ rfl _ rfl rfl (by first | exact hol | (rw [List.length_append]; exact hol)) hs1 ?_)
                    intro v1 W1 ho1 hg1
                    have R2 := Lib.hid (R1.out.pushS (x := ⟨⟨sj, sp, sn, sc, sl⟩, sev, sti, true⟩) (by first | exact ho1 | (rw [List.append_assoc]; exact ho1)) hg1)
                    have B2 : Hid (Below w.heap.size w W1) := (B1.out.alloc hs1 _).grown hg1 (by simp; omega) (fun j hj => (World.ownsRow.lt R1.out.rs j hj).1)
                    clear y0W0 y1W0 y2W0 y3W0 y4W0
                    clear ho1 hg1
                    skip
                    go_wp2_with (go_at_call 73; refine (HNXT.out _ R2.out.ks.o3.texts).mono ?_)
                    first | rintro e wy rfl hby | rintro e wy ⟨rfl, hby⟩
                    have RY := Lib.hid (R2.out.below hby (Nat.le_refl _))
                    have BY : Hid (Below w.heap.size w wy) := below_next B2.out hby
                    clear hby HNXT
                    go_wp2_with fail
                    go_roundw
                    case rel => exact ⟨i + 1, o1 ++ [(⟨⟨sj, sp, sn, sc, sl⟩, sev, sti, true⟩ : Sl)], (m1 ++ [(⟨2, ⟨sj, sp, sn, sc, sl⟩⟩ : Mv)]), kb2, tb2, by omega, rfl, rfl, HKB2.out, HTB2.out, RY.out, (by show _ = _; rw [HST.out, List.flatMap_append, List.map_append, HO1.out]; congr 1; simp only [List.flatMap_cons, List.flatMap_nil, List.append_nil, HSL2.out, HTG2.out]; exact HOS.out.symm), (by show _ = _; rw [HST.out, List.flatMap_append, List.map_append, HM1.out]; congr 1; simp only [List.flatMap_cons, List.flatMap_nil, List.append_nil, HSL2.out, HTG2.out]; exact HOM.out.symm), ⟨fun s hs => by rcases List.mem_append.1 hs with hs | hs; exact HIN.out.1 s hs; rw [List.mem_singleton] at hs; subst hs; exact HTM.out, fun s hs => by simp only [List.mem_append, List.mem_singleton] at hs; rcases hs with hs | rfl; exact HIN.out.2 s hs; exact HTM.out⟩, ⟨(by have h9 := HLN.out.1; simp only [List.length_append, List.length_cons, List.length_nil]; omega), (by have h9 := HLN.out.2; (try simp only [List.length_append, List.length_cons, List.length_nil]); omega)⟩, BY.out⟩
                    case measure => exact HMEA.out
                  · by_cases hev : sev = ev
                    · by_cases hti : sti = ti
                      · have HOS : Hid (Po.oS ev ti (some (Sl.view ⟨⟨sj, sp, sn, sc, sl⟩, sev, sti, false⟩)) (some (Po.tv ts[j])) = [(sj, sl, sev, sti, false)]) := by show _ = _; simp [Po.oS, Sl.view, hev, hti]
                        have HOM : Hid (Po.oM ev ti (some (Sl.view ⟨⟨sj, sp, sn, sc, sl⟩, sev, sti, false⟩)) (some (Po.tv ts[j])) = []) := by show _ = _; simp [Po.oM, Sl.view, hev, hti]
                        have q5 : (sev != ev) = false := by rw [hev]; simp
                        have q6 : (sti != ti) = false := by rw [hti]; simp
                        have HTG2 := Lib.hid htg
                        have q1 : ¬ ((j : Int) < 0) := by omega
                        have q2 : (0 : Int) ≤ (j : Int) := by omega
                        have q3 : decide ((j : Int) < 0) = false := decide_eq_false q1
                        have q4 : decide ((j : Int) ≥ 0) = true := decide_eq_true q2
                        clear htg
                        clear hev hti
                        obtain ⟨U, hU⟩ : ∃ U, U = wz.alloc (.cells #[.string sj, .slice sp sn sc, .int .i64 sev, .int .i64 sti, .bool false] 128) := ⟨_, rfl⟩
                        have hkU : U.heap[wz.heap.size]? = some (.cells #[.string sj, .slice sp sn sc, .int .i64 sev, .int .i64 sti, .bool false] 128) := by rw [hU]; exact HKX.out false
                        have hbU : Below wz.heap.size wz U := by rw [hU]; exact HSTA.out false
                        have y0U : U.cell? ⟨wz.heap.size, 0, none⟩ = some (.string sj) := by rw [Lib.cell_of_heap hkU]; rfl
                        have y1U : U.cell? ⟨wz.heap.size, 1, none⟩ = some (.slice sp sn sc) := by rw [Lib.cell_of_heap hkU]; rfl
                        have y2U : U.cell? ⟨wz.heap.size, 2, none⟩ = some (.int .i64 sev) := by rw [Lib.cell_of_heap hkU]; rfl
                        have y3U : U.cell? ⟨wz.heap.size, 3, none⟩ = some (.int .i64 sti) := by rw [Lib.cell_of_heap hkU]; rfl
                        have y4U : U.cell? ⟨wz.heap.size, 4, none⟩ = some (.bool false) := by rw [Lib.cell_of_heap hkU]; rfl
                        have ylU : wz.heap.size < U.heap.size := lt_of_heap hkU
                        have R0 := Lib.hid (HRZ.out.below hbU (Nat.le_refl _))
                        have B0 : Hid (Below w.heap.size w U) := below_next HBZ.out hbU
                        have HKU := Lib.hid hkU
                        clear hbU hkU
                        have HUU := Lib.hid hU
                        have hs0 := B0.out.size
                        go_wp2_with (first | (rw [← HUU.out]) | (at_builtin; refine wpList_pushRec rsOk 71 Try.underlying71 rfl _ _ rfl w.heap.size _ o1 U rfl (by exact R0.out.rs) ⟨⟨sj, sp, sn, sc, sl⟩, sev, sti, false⟩ _ _ rfl _ rfl (by first | rfl | (rw [HUU.out]; simp)) (by first | exact hol | (rw [List.length_append]; exact hol)) hs0 ?_))
                        intro v0 W0 ho0 hg0
                        have R1 := Lib.hid (R0.out.pushS (x := ⟨⟨sj, sp, sn, sc, sl⟩, sev, sti, false⟩) (by first | exact ho0 | (rw [List.append_assoc]; exact ho0)) hg0)
                        have B1 : Hid (Below w.heap.size w W0) := (B0.out.alloc hs0 _).grown hg0 (by simp; omega) (fun j hj => (World.ownsRow.lt R0.out.rs j hj).1)
                        clear y0U y1U y2U y3U y4U
                        clear ho0 hg0
                        skip
                        go_wp2_with (go_at_call 73; refine (HNXT.out _ R1.out.ks.o3.texts).mono ?_)
                        first | rintro e wy rfl hby | rintro e wy ⟨rfl, hby⟩
                        have RY := Lib.hid (R1.out.below hby (Nat.le_refl _))
                        have BY : Hid (Below w.heap.size w wy) := below_next B1.out hby
                        clear hby HNXT
                        go_wp2_with fail
                        go_roundw
                        case rel => exact ⟨i + 1, o1 ++ [(⟨⟨sj, sp, sn, sc, sl⟩, sev, sti, false⟩ : Sl)], m1, kb2, tb2, by omega, rfl, rfl, HKB2.out, HTB2.out, RY.out, (by show _ = _; rw [HST.out, List.flatMap_append, List.map_append, HO1.out]; congr 1; simp only [List.flatMap_cons, List.flatMap_nil, List.append_nil, HSL2.out, HTG2.out]; exact HOS.out.symm), (by show _ = _; rw [HST.out, List.flatMap_append, ← HM1.out]; simp only [List.flatMap_cons, List.flatMap_nil, List.append_nil, HSL2.out, HTG2.out, HOM.out]), ⟨fun s hs => by rcases List.mem_append.1 hs with hs | hs; exact HIN.out.1 s hs; rw [List.mem_singleton] at hs; subst hs; exact HTM.out, HIN.out.2⟩, ⟨(by have h9 := HLN.out.1; simp only [List.length_append, List.length_cons, List.length_nil]; omega), (by have h9 := HLN.out.2; (try simp only [List.length_append, List.length_cons, List.length_nil]); omega)⟩, BY.out⟩
                        case measure => exact HMEA.out
                      · have HOS : Hid (Po.oS ev ti (some (Sl.view ⟨⟨sj, sp, sn, sc, sl⟩, sev, sti, false⟩)) (some (Po.tv ts[j])) = [(sj, sl, sev, sti, true)]) := by show _ = _; simp [Po.oS, Sl.view, hti]
                        have HOM : Hid (Po.oM ev ti (some (Sl.view ⟨⟨sj, sp, sn, sc, sl⟩, sev, sti, false⟩)) (some (Po.tv ts[j])) = [((2 : Int), sj, sl), ((3 : Int), sj, sl)]) := by show _ = _; simp [Po.oM, Sl.view, hti]
                        have q5 : (sev != ev) = false := by rw [hev]; simp
                        have q6 : (sti != ti) = true := by simpa using hti
                        have HTG2 := Lib.hid htg
                        have q1 : ¬ ((j : Int) < 0) := by omega
                        have q2 : (0 : Int) ≤ (j : Int) := by omega
                        have q3 : decide ((j : Int) < 0) = false := decide_eq_false q1
                        have q4 : decide ((j : Int) ≥ 0) = true := decide_eq_true q2
                        clear htg
                        clear hev
                        obtain ⟨U, hU⟩ : ∃ U, U = wz.alloc (.cells #[.string sj, .slice sp sn sc, .int .i64 sev, .int .i64 sti, .bool true] 128) := ⟨_, rfl⟩
                        have hkU : U.heap[wz.heap.size]? = some (.cells #[.string sj, .slice sp sn sc, .int .i64 sev, .int .i64 sti, .bool true] 128) := by rw [hU]; exact HKX.out true
                        have hbU : Below wz.heap.size wz U := by rw [hU]; exact HSTA.out true
                        have y0U : U.cell? ⟨wz.heap.size, 0, none⟩ = some (.string sj) := by rw [Lib.cell_of_heap hkU]; rfl
                        have y1U : U.cell? ⟨wz.heap.size, 1, none⟩ = some (.slice sp sn sc) := by rw [Lib.cell_of_heap hkU]; rfl
                        have y2U : U.cell? ⟨wz.heap.size, 2, none⟩ = some (.int .i64 sev) := by rw [Lib.cell_of_heap hkU]; rfl
                        have y3U : U.cell? ⟨wz.heap.size, 3, none⟩ = some (.int .i64 sti) := by rw [Lib.cell_of_heap hkU]; rfl
                        have y4U : U.cell? ⟨wz.heap.size, 4, none⟩ = some (.bool true) := by rw [Lib.cell_of_heap hkU]; rfl
                        have ylU : wz.heap.size < U.heap.size := lt_of_heap hkU
                        have R0 := Lib.hid (HRZ.out.below hbU (Nat.le_refl _))
                        have B0 : Hid (Below w.heap.size w U) := below_next HBZ.out hbU
                        have HKU := Lib.hid hkU
                        clear hbU hkU
                        have HUU := Lib.hid hU
                        have hs0 := B0.out.size
                        go_wp2_with (first | (rw [← HUU.out]) | (at_builtin; refine wpList_pushRec rmOk 72 Try.underlying72 rfl _ _ rfl w.heap.size _ m1 U rfl (by exact R0.out.rm) ⟨2, ⟨sj, sp, sn, sc, sl⟩⟩ _ _ rfl _ rfl (by first | rfl | (rw [HUU.out]; simp)) (by first | exact hml1 | (rw [List.length_append]; exact hml1)) hs0 ?_))
                        intro v0 W0 ho0 hg0
                        have R1 := Lib.hid (R0.out.pushM (x := ⟨2, ⟨sj, sp, sn, sc, sl⟩⟩) (by first | exact ho0 | (rw [List.append_assoc]; exact ho0)) hg0)
                        have B1 : Hid (Below w.heap.size w W0) := (B0.out.alloc hs0 _).grown hg0 (by simp; omega) (fun j hj => (World.ownsRow.lt R0.out.rm j hj).1)
                        have hk0x : W0.heap[wz.heap.size]? = some (.cells #[.string sj, .slice sp sn sc, .int .i64 sev, .int .i64 sti, .bool true] 128) := OwnR.grown_block (R0.out.rm.alloc _) hg0 (alloc_kept HKU.out) (by decide)
                        have HK0x := Lib.hid hk0x
                        clear y0U y1U y2U y3U y4U
                        have y0W0 : W0.cell? ⟨wz.heap.size, 0, none⟩ = some (.string sj) := by rw [Lib.cell_of_heap hk0x]; rfl
                        have y1W0 : W0.cell? ⟨wz.heap.size, 1, none⟩ = some (.slice sp sn sc) := by rw [Lib.cell_of_heap hk0x]; rfl
                        have y2W0 : W0.cell? ⟨wz.heap.size, 2, none⟩ = some (.int .i64 sev) := by rw [Lib.cell_of_heap hk0x]; rfl
                        have y3W0 : W0.cell? ⟨wz.heap.size, 3, none⟩ = some (.int .i64 sti) := by rw [Lib.cell_of_heap hk0x]; rfl
                        have y4W0 : W0.cell? ⟨wz.heap.size, 4, none⟩ = some (.bool true) := by rw [Lib.cell_of_heap hk0x]; rfl
                        have ylW0 : wz.heap.size < W0.heap.size := lt_of_heap hk0x
                        clear hk0x ho0 hg0
                        have hs1 := B1.out.size
                        go_wp2_with (at_builtin; refine wpList_pushRec rmOk 72 Try.underlying72 rfl _ _ rfl w.heap.size _ (m1 ++ [(⟨2, ⟨sj, sp, sn, sc, sl⟩⟩ : Mv)]) W0 rfl (by exact R1.out.rm) ⟨3, ⟨sj, sp, sn, sc, sl⟩⟩ _ _ rfl _ rfl rfl (by first | exact hml2 | (rw [List.length_append]; exact hml2)) hs1 ?_)
                        intro v1 W1 ho1 hg1
                        have R2 := Lib.hid (R1.out.pushM (x := ⟨3, ⟨sj, sp, sn, sc, sl⟩⟩) (by first | exact ho1 | (rw [List.append_assoc]; exact ho1)) hg1)
                        have B2 : Hid (Below w.heap.size w W1) := (B1.out.alloc hs1 _).grown hg1 (by simp; omega) (fun j hj => (World.ownsRow.lt R1.out.rm j hj).1)
                        have hk1x : W1.heap[wz.heap.size]? = some (.cells #[.string sj, .slice sp sn sc, .int .i64 sev, .int .i64 sti, .bool true] 128) := OwnR.grown_block (R1.out.rm.alloc _) hg1 (alloc_kept HK0x.out) (by decide)
                        have HK1x := Lib.hid hk1x
                        clear y0W0 y1W0 y2W0 y3W0 y4W0
                        have y0W1 : W1.cell? ⟨wz.heap.size, 0, none⟩ = some (.string sj) := by rw [Lib.cell_of_heap hk1x]; rfl
                        have y1W1 : W1.cell? ⟨wz.heap.size, 1, none⟩ = some (.slice sp sn sc) := by rw [Lib.cell_of_heap hk1x]; rfl
                        have y2W1 : W1.cell? ⟨wz.heap.size, 2, none⟩ = some (.int .i64 sev) := by rw [Lib.cell_of_heap hk1x]; rfl
                        have y3W1 : W1.cell? ⟨wz.heap.size, 3, none⟩ = some (.int .i64 sti) := by rw [Lib.cell_of_heap hk1x]; rfl
                        have y4W1 : W1.cell? ⟨wz.heap.size, 4, none⟩ = some (.bool true) := by rw [Lib.cell_of_heap hk1x]; rfl
                        have ylW1 : wz.heap.size < W1.heap.size := lt_of_heap hk1x
                        clear hk1x ho1 hg1
                        have hs2 := B2.out.size
                        go_wp2_with (at_builtin; refine wpList_pushRec rsOk 71 Try.underlying71 rfl _ _ rfl w.heap.size _ o1 W1 rfl (by exact R2.out.rs) ⟨⟨sj, sp, sn, sc, sl⟩, sev, sti, true⟩ _ _ rfl _ rfl rfl (by first | exact hol | (rw [List.length_append]; exact hol)) hs2 ?_)
                        intro v2 W2 ho2 hg2
                        have R3 := Lib.hid (R2.out.pushS (x := ⟨⟨sj, sp, sn, sc, sl⟩, sev, sti, true⟩) (by first | exact ho2 | (rw [List.append_assoc]; exact ho2)) hg2)
                        have B3 : Hid (Below w.heap.size w W2) := (B2.out.alloc hs2 _).grown hg2 (by simp; omega) (fun j hj => (World.ownsRow.lt R2.out.rs j hj).1)
                        clear y0W1 y1W1 y2W1 y3W1 y4W1
                        clear ho2 hg2
                        skip
                        go_wp2_with (go_at_call 73; refine (HNXT.out _ R3.out.ks.o3.texts).mono ?_)
                        first | rintro e wy rfl hby | rintro e wy ⟨rfl, hby⟩
                        have RY := Lib.hid (R3.out.below hby (Nat.le_refl _))
                        have BY : Hid (Below w.heap.size w wy) := below_next B3.out hby
                        clear hby HNXT
                        go_wp2_with fail
                        go_roundw
                        case rel => exact ⟨i + 1, o1 ++ [(⟨⟨sj, sp, sn, sc, sl⟩, sev, sti, true⟩ : Sl)], (((m1 ++ [(⟨2, ⟨sj, sp, sn, sc, sl⟩⟩ : Mv)])) ++ [(⟨3, ⟨sj, sp, sn, sc, sl⟩⟩ : Mv)]), kb2, tb2, by omega, rfl, rfl, HKB2.out, HTB2.out, RY.out, (by show _ = _; rw [HST.out, List.flatMap_append, List.map_append, HO1.out]; congr 1; simp only [List.flatMap_cons, List.flatMap_nil, List.append_nil, HSL2.out, HTG2.out]; exact HOS.out.symm), (by show _ = _; rw [HST.out, List.flatMap_append, List.map_append, List.map_append, List.append_assoc, HM1.out]; congr 1; simp only [List.flatMap_cons, List.flatMap_nil, List.append_nil, HSL2.out, HTG2.out]; exact HOM.out.symm), ⟨fun s hs => by rcases List.mem_append.1 hs with hs | hs; exact HIN.out.1 s hs; rw [List.mem_singleton] at hs; subst hs; exact HTM.out, fun s hs => by simp only [List.mem_append, List.mem_singleton] at hs; rcases hs with (hs | rfl) | rfl; exact HIN.out.2 s hs; exact HTM.out; exact HTM.out⟩, ⟨(by have h9 := HLN.out.1; simp only [List.length_append, List.length_cons, List.length_nil]; omega), (by have h9 := HLN.out.2; (try simp only [List.length_append, List.length_cons, List.length_nil]); omega)⟩, BY.out⟩
                        case measure => exact HMEA.out
                    · have HOS : Hid (Po.oS ev ti (some (Sl.view ⟨⟨sj, sp, sn, sc, sl⟩, sev, sti, false⟩)) (some (Po.tv ts[j])) = [(sj, sl, sev, sti, true)]) := by show _ = _; simp [Po.oS, Sl.view, hev]
                      have HOM : Hid (Po.oM ev ti (some (Sl.view ⟨⟨sj, sp, sn, sc, sl⟩, sev, sti, false⟩)) (some (Po.tv ts[j])) = [((2 : Int), sj, sl), ((3 : Int), sj, sl)]) := by show _ = _; simp [Po.oM, Sl.view, hev]
                      have q5 : (sev != ev) = true := by simpa using hev
                      have HTG2 := Lib.hid htg
                      have q1 : ¬ ((j : Int) < 0) := by omega
                      have q2 : (0 : Int) ≤ (j : Int) := by omega
                      have q3 : decide ((j : Int) < 0) = false := decide_eq_false q1
                      have q4 : decide ((j : Int) ≥ 0) = true := decide_eq_true q2
                      clear htg
                      obtain ⟨U, hU⟩ : ∃ U, U = wz.alloc (.cells #[.string sj, .slice sp sn sc, .int .i64 sev, .int .i64 sti, .bool true] 128) := ⟨_, rfl⟩
                      have hkU : U.heap[wz.heap.size]? = some (.cells #[.string sj, .slice sp sn sc, .int .i64 sev, .int .i64 sti, .bool true] 128) := by rw [hU]; exact HKX.out true
                      have hbU : Below wz.heap.size wz U := by rw [hU]; exact HSTA.out true
                      have y0U : U.cell? ⟨wz.heap.size, 0, none⟩ = some (.string sj) := by rw [Lib.cell_of_heap hkU]; rfl
                      have y1U : U.cell? ⟨wz.heap.size, 1, none⟩ = some (.slice sp sn sc) := by rw [Lib.cell_of_heap hkU]; rfl
                      have y2U : U.cell? ⟨wz.heap.size, 2, none⟩ = some (.int .i64 sev) := by rw [Lib.cell_of_heap hkU]; rfl
                      have y3U : U.cell? ⟨wz.heap.size, 3, none⟩ = some (.int .i64 sti) := by rw [Lib.cell_of_heap hkU]; rfl
                      have y4U : U.cell? ⟨wz.heap.size, 4, none⟩ = some (.bool true) := by rw [Lib.cell_of_heap hkU]; rfl
                      have ylU : wz.heap.size < U.heap.size := lt_of_heap hkU
                      have R0 := Lib.hid (HRZ.out.below hbU (Nat.le_refl _))
                      have B0 : Hid (Below w.heap.size w U) := below_next HBZ.out hbU
                      have HKU := Lib.hid hkU
                      clear hbU hkU
                      have HUU := Lib.hid hU
                      have hs0 := B0.out.size
                      go_wp2_with (first | (rw [← HUU.out]) | (at_builtin; refine wpList_pushRec rmOk 72 Try.underlying72 rfl _ _ rfl w.heap.size _ m1 U rfl (by exact R0.out.rm) ⟨2, ⟨sj, sp, sn, sc, sl⟩⟩ _ _ rfl _ rfl (by first | rfl | (rw [HUU.out]; simp)) (by first | exact hml1 | (rw [List.length_append]; exact hml1)) hs0 ?_))
                      intro v0 W0 ho0 hg0
                      have R1 := Lib.hid (R0.out.pushM (x := ⟨2, ⟨sj, sp, sn, sc, sl⟩⟩) (by first | exact ho0 | (rw [List.append_assoc]; exact ho0)) hg0)
                      have B1 : Hid (Below w.heap.size w W0) := (B0.out.alloc hs0 _).grown hg0 (by simp; omega) (fun j hj => (World.ownsRow.lt R0.out.rm j hj).1)
                      have hk0x : W0.heap[wz.heap.size]? = some (.cells #[.string sj, .slice sp sn sc, .int .i64 sev, .int .i64 sti, .bool true] 128) := OwnR.grown_block (R0.out.rm.alloc _) hg0 (alloc_kept HKU.out) (by decide)
                      have HK0x := Lib.hid hk0x
                      clear y0U y1U y2U y3U y4U
                      have y0W0 : W0.cell? ⟨wz.heap.size, 0, none⟩ = some (.string sj) := by rw [Lib.cell_of_heap hk0x]; rfl
                      have y1W0 : W0.cell? ⟨wz.heap.size, 1, none⟩ = some (.slice sp sn sc) := by rw [Lib.cell_of_heap hk0x]; rfl
                      have y2W0 : W0.cell? ⟨wz.heap.size, 2, none⟩ = some (.int .i64 sev) := by rw [Lib.cell_of_heap hk0x]; rfl
                      have y3W0 : W0.cell? ⟨wz.heap.size, 3, none⟩ = some (.int .i64 sti) := by rw [Lib.cell_of_heap hk0x]; rfl
                      have y4W0 : W0.cell? ⟨wz.heap.size, 4, none⟩ = some (.bool true) := by rw [Lib.cell_of_heap hk0x]; rfl
                      have ylW0 : wz.heap.size < W0.heap.size := lt_of_heap hk0x
                      clear hk0x ho0 hg0
                      have hs1 := B1.out.size
                      go_wp2_with (at_builtin; refine wpList_pushRec rmOk 72 Try.underlying72 rfl _ _ rfl w.heap.size _ (m1 ++ [(⟨2, ⟨sj, sp, sn, sc, sl⟩⟩ : Mv)]) W0 rfl (by exact R1.out.rm) ⟨3, ⟨sj, sp, sn, sc, sl⟩⟩ _ _ rfl _ rfl rfl (by first | exact hml2 | (rw [List.length_append]; exact hml2)) hs1 ?_)
                      intro v1 W1 ho1 hg1
                      have R2 := Lib.hid (R1.out.pushM (x := ⟨3, ⟨sj, sp, sn, sc, sl⟩⟩) (by first | exact ho1 | (rw [List.append_assoc]; exact ho1)) hg1)
                      have B2 : Hid (Below w.heap.size w W1) := (B1.out.alloc hs1 _).grown hg1 (by simp; omega) (fun j hj => (World.ownsRow.lt R1.out.rm j hj).1)
                      have hk1x : W1.heap[wz.heap.size]? = some (.cells #[.string sj, .slice sp sn sc, .int .i64 sev, .int .i64 sti, .bool true] 128) := OwnR.grown_block (R1.out.rm.alloc _) hg1 (alloc_kept HK0x.out) (by decide)
                      have HK1x := Lib.hid hk1x
                      clear y0W0 y1W0 y2W0 y3W0 y4W0
                      have y0W1 : W1.cell? ⟨wz.heap.size, 0, none⟩ = some (.string sj) := by rw [Lib.cell_of_heap hk1x]; rfl
                      have y1W1 : W1.cell? ⟨wz.heap.size, 1, none⟩ = some (.slice sp sn sc) := by rw [Lib.cell_of_heap hk1x]; rfl
                      have y2W1 : W1.cell? ⟨wz.heap.size, 2, none⟩ = some (.int .i64 sev) := by rw [Lib.cell_of_heap hk1x]; rfl
                      have y3W1 : W1.cell? ⟨wz.heap.size, 3, none⟩ = some (.int .i64 sti) := by rw [Lib.cell_of_heap hk1x]; rfl
                      have y4W1 : W1.cell? ⟨wz.heap.size, 4, none⟩ = some (.bool true) := by rw [Lib.cell_of_heap hk1x]; rfl
                      have ylW1 : wz.heap.size < W1.heap.size := lt_of_heap hk1x
                      clear hk1x ho1 hg1
                      have hs2 := B2.out.size
                      go_wp2_with (at_builtin; refine wpList_pushRec rsOk 71 Try.underlying71 rfl _ _ rfl w.heap.size _ o1 W1 rfl (by exact R2.out.rs) ⟨⟨sj, sp, sn, sc, sl⟩, sev, sti, true⟩ _ _ rfl _ rfl rfl (by first | exact hol | (rw [List.length_append]; exact hol)) hs2 ?_)
                      intro v2 W2 ho2 hg2
                      have R3 := Lib.hid (R2.out.pushS (x := ⟨⟨sj, sp, sn, sc, sl⟩, sev, sti, true⟩) (by first | exact ho2 | (rw [List.append_assoc]; exact ho2)) hg2)
                      have B3 : Hid (Below w.heap.size w W2) := (B2.out.alloc hs2 _).grown hg2 (by simp; omega) (fun j hj => (World.ownsRow.lt R2.out.rs j hj).1)
                      clear y0W1 y1W1 y2W1 y3W1 y4W1
                      clear ho2 hg2
                      skip
                      go_wp2_with (go_at_call 73; refine (HNXT.out _ R3.out.ks.o3.texts).mono ?_)
                      first | rintro e wy rfl hby | rintro e wy ⟨rfl, hby⟩
                      have RY := Lib.hid (R3.out.below hby (Nat.le_refl _))
                      have BY : Hid (Below w.heap.size w wy) := below_next B3.out hby
                      clear hby HNXT
                      go_wp2_with fail
                      go_roundw
                      case rel => exact ⟨i + 1, o1 ++ [(⟨⟨sj, sp, sn, sc, sl⟩, sev, sti, true⟩ : Sl)], (((m1 ++ [(⟨2, ⟨sj, sp, sn, sc, sl⟩⟩ : Mv)])) ++ [(⟨3, ⟨sj, sp, sn, sc, sl⟩⟩ : Mv)]), kb2, tb2, by omega, rfl, rfl, HKB2.out, HTB2.out, RY.out, (by show _ = _; rw [HST.out, List.flatMap_append, List.map_append, HO1.out]; congr 1; simp only [List.flatMap_cons, List.flatMap_nil, List.append_nil, HSL2.out, HTG2.out]; exact HOS.out.symm), (by show _ = _; rw [HST.out, List.flatMap_append, List.map_append, List.map_append, List.append_assoc, HM1.out]; congr 1; simp only [List.flatMap_cons, List.flatMap_nil, List.append_nil, HSL2.out, HTG2.out]; exact HOM.out.symm), ⟨fun s hs => by rcases List.mem_append.1 hs with hs | hs; exact HIN.out.1 s hs; rw [List.mem_singleton] at hs; subst hs; exact HTM.out, fun s hs => by simp only [List.mem_append, List.mem_singleton] at hs; rcases hs with (hs | rfl) | rfl; exact HIN.out.2 s hs; exact HTM.out; exact HTM.out⟩, ⟨(by have h9 := HLN.out.1; simp only [List.length_append, List.length_cons, List.length_nil]; omega), (by have h9 := HLN.out.2; (try simp only [List.length_append, List.length_cons, List.length_nil]); omega)⟩, BY.out⟩
                      case measure => exact HMEA.out
                · rcases htg with ⟨rfl, htg⟩ | ⟨j, rfl, hj, htg⟩
                  · have HOS : Hid (Po.oS ev ti (some (Sl.view ⟨⟨sj, sp, sn, sc, sl⟩, sev, sti, true⟩)) none = [(sj, sl, sev, sti, true)]) := by show _ = _; simp [Po.oS, Sl.view]
                    have HOM : Hid (Po.oM ev ti (some (Sl.view ⟨⟨sj, sp, sn, sc, sl⟩, sev, sti, true⟩)) none = []) := by show _ = _; simp [Po.oM, Sl.view]
                    have HTG2 := Lib.hid htg
                    clear htg
                    obtain ⟨U, hU⟩ : ∃ U, U = wz.alloc (.cells #[.string sj, .slice sp sn sc, .int .i64 sev, .int .i64 sti, .bool true] 128) := ⟨_, rfl⟩
                    have hkU : U.heap[wz.heap.size]? = some (.cells #[.string sj, .slice sp sn sc, .int .i64 sev, .int .i64 sti, .bool true] 128) := by rw [hU]; exact HKX.out true
                    have hbU : Below wz.heap.size wz U := by rw [hU]; exact HSTA.out true
                    have y0U : U.cell? ⟨wz.heap.size, 0, none⟩ = some (.string sj) := by rw [Lib.cell_of_heap hkU]; rfl
                    have y1U : U.cell? ⟨wz.heap.size, 1, none⟩ = some (.slice sp sn sc) := by rw [Lib.cell_of_heap hkU]; rfl
                    have y2U : U.cell? ⟨wz.heap.size, 2, none⟩ = some (.int .i64 sev) := by rw [Lib.cell_of_heap hkU]; rfl
                    have y3U : U.cell? ⟨wz.heap.size, 3, none⟩ = some (.int .i64 sti) := by rw [Lib.cell_of_heap hkU]; rfl
                    have y4U : U.cell? ⟨wz.heap.size, 4, none⟩ = some (.bool true) := by rw [Lib.cell_of_heap hkU]; rfl
                    have ylU : wz.heap.size < U.heap.size := lt_of_heap hkU
                    have R0 := Lib.hid (HRZ.out.below hbU (Nat.le_refl _))
                    have B0 : Hid (Below w.heap.size w U) := below_next HBZ.out hbU
                    have HKU := Lib.hid hkU
                    clear hbU hkU
                    have HUU := Lib.hid hU
                    have hs0 := B0.out.size
                    go_wp2_with (first | (rw [← HUU.out]) | (at_builtin; refine wpList_pushRec rsOk 71 Try.underlying71 rfl _ _ rfl w.heap.size _ o1 U rfl (by exact R0.out.rs) ⟨⟨sj, sp, sn, sc, sl⟩, sev, sti, true⟩ _ _ rfl _ rfl (by first | rfl | (rw [HUU.out]; simp)) (by first | exact hol | (rw [List.length_append]; exact hol)) hs0 ?_))
                    intro v0 W0 ho0 hg0
                    have R1 := Lib.hid (R0.out.pushS (x := ⟨⟨sj, sp, sn, sc, sl⟩, sev, sti, true⟩) (by first | exact ho0 | (rw [List.append_assoc]; exact ho0)) hg0)
                    have B1 : Hid (Below w.heap.size w W0) := (B0.out.alloc hs0 _).grown hg0 (by simp; omega) (fun j hj => (World.ownsRow.lt R0.out.rs j hj).1)
                    clear y0U y1U y2U y3U y4U
                    clear ho0 hg0
                    skip
                    go_wp2_with (go_at_call 73; refine (HNXT.out _ R1.out.ks.o3.texts).mono ?_)
                    first | rintro e wy rfl hby | rintro e wy ⟨rfl, hby⟩
                    have RY := Lib.hid (R1.out.below hby (Nat.le_refl _))
                    have BY : Hid (Below w.heap.size w wy) := below_next B1.out hby
                    clear hby HNXT
                    go_wp2_with fail
                    go_roundw
                    case rel => exact ⟨i + 1, o1 ++ [(⟨⟨sj, sp, sn, sc, sl⟩, sev, sti, true⟩ : Sl)], m1, kb2, tb2, by omega, rfl, rfl, HKB2.out, HTB2.out, RY.out, (by show _ = _; rw [HST.out, List.flatMap_append, List.map_append, HO1.out]; congr 1; simp only [List.flatMap_cons, List.flatMap_nil, List.append_nil, HSL2.out, HTG2.out]; exact HOS.out.symm), (by show _ = _; rw [HST.out, List.flatMap_append, ← HM1.out]; simp only [List.flatMap_cons, List.flatMap_nil, List.append_nil, HSL2.out, HTG2.out, HOM.out]), ⟨fun s hs => by rcases List.mem_append.1 hs with hs | hs; exact HIN.out.1 s hs; rw [List.mem_singleton] at hs; subst hs; exact HTM.out, HIN.out.2⟩, ⟨(by have h9 := HLN.out.1; simp only [List.length_append, List.length_cons, List.length_nil]; omega), (by have h9 := HLN.out.2; (try simp only [List.length_append, List.length_cons, List.length_nil]); omega)⟩, BY.out⟩
                    case measure => exact HMEA.out
                  · have HOS : Hid (Po.oS ev ti (some (Sl.view ⟨⟨sj, sp, sn, sc, sl⟩, sev, sti, true⟩)) (some (Po.tv ts[j])) = [(sj, sl, sev, sti, true)]) := by show _ = _; simp [Po.oS, Sl.view]
                    have HOM : Hid (Po.oM ev ti (some (Sl.view ⟨⟨sj, sp, sn, sc, sl⟩, sev, sti, true⟩)) (some (Po.tv ts[j])) = [((3 : Int), sj, sl)]) := by show _ = _; simp [Po.oM, Sl.view]
                    have HTG2 := Lib.hid htg
                    have q1 : ¬ ((j : Int) < 0) := by omega
                    have q2 : (0 : Int) ≤ (j : Int) := by omega
                    have q3 : decide ((j : Int) < 0) = false := decide_eq_false q1
                    have q4 : decide ((j : Int) ≥ 0) = true := decide_eq_true q2
                    clear htg
                    obtain ⟨U, hU⟩ : ∃ U, U = wz.alloc (.cells #[.string sj, .slice sp sn sc, .int .i64 sev, .int .i64 sti, .bool true] 128) := ⟨_, rfl⟩
                    have hkU : U.heap[wz.heap.size]? = some (.cells #[.string sj, .slice sp sn sc, .int .i64 sev, .int .i64 sti, .bool true] 128) := by rw [hU]; exact HKX.out true
                    have hbU : Below wz.heap.size wz U := by rw [hU]; exact HSTA.out true
                    have y0U : U.cell? ⟨wz.heap.size, 0, none⟩ = some (.string sj) := by rw [Lib.cell_of_heap hkU]; rfl
                    have y1U : U.cell? ⟨wz.heap.size, 1, none⟩ = some (.slice sp sn sc) := by rw [Lib.cell_of_heap hkU]; rfl
                    have y2U : U.cell? ⟨wz.heap.size, 2, none⟩ = some (.int .i64 sev) := by rw [Lib.cell_of_heap hkU]; rfl
                    have y3U : U.cell? ⟨wz.heap.size, 3, none⟩ = some (.int .i64 sti) := by rw [Lib.cell_of_heap hkU]; rfl
                    have y4U : U.cell? ⟨wz.heap.size, 4, none⟩ = some (.bool true) := by rw [Lib.cell_of_heap hkU]; rfl
                    have ylU : wz.heap.size < U.heap.size := lt_of_heap hkU
                    have R0 := Lib.hid (HRZ.out.below hbU (Nat.le_refl _))
                    have B0 : Hid (Below w.heap.size w U) := below_next HBZ.out hbU
                    have HKU := Lib.hid hkU
                    clear hbU hkU
                    have HUU := Lib.hid hU
                    have hs0 := B0.out.size
                    go_wp2_with (first | (rw [← HUU.out]) | (at_builtin; refine wpList_pushRec rmOk 72 Try.underlying72 rfl _ _ rfl w.heap.size _ m1 U rfl (by exact R0.out.rm) ⟨3, ⟨sj, sp, sn, sc, sl⟩⟩ _ _ rfl _ rfl (by first | rfl | (rw [HUU.out]; simp)) (by first | exact hml1 | (rw [List.length_append]; exact hml1)) hs0 ?_))
                    intro v0 W0 ho0 hg0
                    have R1 := Lib.hid (R0.out.pushM (x := ⟨3, ⟨sj, sp, sn, sc, sl⟩⟩) (by first | exact ho0 | (rw [List.append_assoc]; exact ho0)) hg0)
                    have B1 : Hid (Below w.heap.size w W0) := (B0.out.alloc hs0 _).grown hg0 (by simp; omega) (fun j hj => (World.ownsRow.lt R0.out.rm j hj).1)
                    have hk0x : W0.heap[wz.heap.size]? = some (.cells #[.string sj, .slice sp sn sc, .int .i64 sev, .int .i64 sti, .bool true] 128) := OwnR.grown_block (R0.out.rm.alloc _) hg0 (alloc_kept HKU.out) (by decide)
                    have HK0x := Lib.hid hk0x
                    clear y0U y1U y2U y3U y4U
                    have y0W0 : W0.cell? ⟨wz.heap.size, 0, none⟩ = some (.string sj) := by rw [Lib.cell_of_heap hk0x]; rfl
                    have y1W0 : W0.cell? ⟨wz.heap.size, 1, none⟩ = some (.slice sp sn sc) := by rw [Lib.cell_of_heap hk0x]; rfl
                    have y2W0 : W0.cell? ⟨wz.heap.size, 2, none⟩ = some (.int .i64 sev) := by rw [Lib.cell_of_heap hk0x]; rfl
                    have y3W0 : W0.cell? ⟨wz.heap.size, 3, none⟩ = some (.int .i64 sti) := by rw [Lib.cell_of_heap hk0x]; rfl
                    have y4W0 : W0.cell? ⟨wz.heap.size, 4, none⟩ = some (.bool true) := by rw [Lib.cell_of_heap hk0x]; rfl
                    have ylW0 : wz.heap.size < W0.heap.size := lt_of_heap hk0x
                    clear hk0x ho0 hg0
                    have hs1 := B1.out.size
                    go_wp2_with (at_builtin; refine wpList_pushRec rsOk 71 Try.underlying71 rfl _ _ rfl w.heap.size _ o1 W0 rfl (by exact R1.out.rs) ⟨⟨sj, sp, sn, sc, sl⟩, sev, sti, true⟩ _ _ rfl _ rfl rfl (by first | exact hol | (rw [List.length_append]; exact hol)) hs1 ?_)
                    intro v1 W1 ho1 hg1
                    have R2 := Lib.hid (R1.out.pushS (x := ⟨⟨sj, sp, sn, sc, sl⟩, sev, sti, true⟩) (by first | exact ho1 | (rw [List.append_assoc]; exact ho1)) hg1)
                    have B2 : Hid (Below w.heap.size w W1) := (B1.out.alloc hs1 _).grown hg1 (by simp; omega) (fun j hj => (World.ownsRow.lt R1.out.rs j hj).1)
                    clear y0W0 y1W0 y2W0 y3W0 y4W0
                    clear ho1 hg1
                    skip
                    go_wp2_with (go_at_call 73; refine (HNXT.out _ R2.out.ks.o3.texts).mono ?_)
                    first | rintro e wy rfl hby | rintro e wy ⟨rfl, hby⟩
                    have RY := Lib.hid (R2.out.below hby (Nat.le_refl _))
                    have BY : Hid (Below w.heap.size w wy) := below_next B2.out hby
                    clear hby HNXT
                    go_wp2_with fail
                    go_roundw
                    case rel => exact ⟨i + 1, o1 ++ [(⟨⟨sj, sp, sn, sc, sl⟩, sev, sti, true⟩ : Sl)], (m1 ++ [(⟨3, ⟨sj, sp, sn, sc, sl⟩⟩ : Mv)]), kb2, tb2, by omega, rfl, rfl, HKB2.out, HTB2.out, RY.out, (by show _ = _; rw [HST.out, List.flatMap_append, List.map_append, HO1.out]; congr 1; simp only [List.flatMap_cons, List.flatMap_nil, List.append_nil, HSL2.out, HTG2.out]; exact HOS.out.symm), (by show _ = _; rw [HST.out, List.flatMap_append, List.map_append, HM1.out]; congr 1; simp only [List.flatMap_cons, List.flatMap_nil, List.append_nil, HSL2.out, HTG2.out]; exact HOM.out.symm), ⟨fun s hs => by rcases List.mem_append.1 hs with hs | hs; exact HIN.out.1 s hs; rw [List.mem_singleton] at hs; subst hs; exact HTM.out, fun s hs => by simp only [List.mem_append, List.mem_singleton] at hs; rcases hs with hs | rfl; exact HIN.out.2 s hs; exact HTM.out⟩, ⟨(by have h9 := HLN.out.1; simp only [List.length_append, List.length_cons, List.length_nil]; omega), (by have h9 := HLN.out.2; (try simp only [List.length_append, List.length_cons, List.length_nil]); omega)⟩, BY.out⟩
                    case measure => exact HMEA.out
end Go.Proofs.Ytpnpgjjbincigaa
