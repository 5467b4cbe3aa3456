/- Rows of records that a call makes itself by append, whatever the record: laws by an encoding of k cells. -/
import Derived.Test.YtmmijebekipdeaaDoorCanO
import Derived.Deep.AppendLies
namespace Go.Proofs.YtmmijebekipdeaaDoor
open Go.RowKit

/-- how a record lies in memory -/
structure Rec (α : Type) where
  T : TypeId
  k : Nat
  bytes : Nat
  z : Value
  enc : α → List Value
structure Rec.Ok {α : Type} (R : Rec α) : Prop where
  len : ∀ x, (R.enc x).length = R.k
  one : ∀ x, ∀ v ∈ R.enc x, v.oneCell' = true
  pos : 0 < R.k
  small : R.bytes ≤ 128
  info : (Tryd.prog.info? R.T).map (fun i => (i.zero, i.size, i.bytes)) = some (some R.z, R.k, R.bytes)
  zs : R.z.cells.size = R.k
variable {α : Type} {R : Rec α}
def Rec.cells (R : Rec α) (l : List α) : List Value := l.flatMap R.enc
theorem Rec.cells_append (a b : List α) : R.cells (a ++ b) = R.cells a ++ R.cells b := by simp [Rec.cells]
theorem Rec.cells_one_row (x : α) : R.cells [x] = R.enc x := by simp [Rec.cells]
theorem Rec.Ok.length (h : R.Ok) (l : List α) : (R.cells l).length = l.length * R.k := by
  unfold Rec.cells
  induction l with
  | nil => simp
  | cons x r ih => simp only [List.flatMap_cons, List.length_append, ih, h.len, List.length_cons, Nat.add_mul]; omega
theorem Rec.Ok.ones (h : R.Ok) (l : List α) : ∀ u ∈ R.cells l, u.oneCell' = true := by
  intro u hu
  simp only [Rec.cells, List.mem_flatMap] at hu
  obtain ⟨x, _, hx⟩ := hu
  exact h.one x u hx
theorem Rec.Ok.get (h : R.Ok) (l : List α) (i : Nat) (hi : i < l.length) (j : Nat) (hj : j < R.k) : (R.cells l)[i * R.k + j]? = (R.enc l[i])[j]? := by
  induction l generalizing i with
  | nil => simp at hi
  | cons x r ih =>
    have e : R.cells (x :: r) = R.enc x ++ R.cells r := by simp [Rec.cells]
    cases i with
    | zero =>
      rw [e, List.getElem?_append_left (by rw [h.len]; omega)]
      simp
    | succ i =>
      rw [e, List.getElem?_append_right (by rw [h.len, Nat.add_mul]; omega), h.len]
      rw [show (i + 1) * R.k + j - R.k = i * R.k + j by rw [Nat.add_mul]; omega]
      simpa using ih i (by simpa using hi)
/-- v is a row of records of the call's own -/
def OwnR (R : Rec α) (B : Nat) (v : Value) (l : List α) (w : World) : Prop := w.ownsRow B R.T R.k v l.length (R.cells l)
theorem OwnR.nil (R : Rec α) (B : Nat) (w : World) : OwnR R B (.slice none 0 0) [] w := World.ownsRow_nil _ _ _ _
theorem OwnR.alloc {B : Nat} {v : Value} {l : List α} {w : World} (h : OwnR R B v l w) (o : Obj) : OwnR R B v l (w.alloc o) := World.ownsRow.alloc h o
theorem OwnR.below {B C : Nat} {v : Value} {l : List α} {w w' : World} (h : OwnR R B v l w) (hb : Below C w w') (hC : w.heap.size ≤ C) : OwnR R B v l w' := row_below h hb hC
theorem OwnR.lift {B B' : Nat} {v : Value} {l : List α} {w : World} (h : OwnR R B v l w) (hB : B' ≤ B) : OwnR R B' v l w := row_lift h hB
/-- a row that lies in a block of its own, cell by cell -/
def Rec.At (R : Rec α) (g : Nat) (l : List α) (w : World) : Prop := ∀ i (h : i < l.length), ∀ j, j < R.k → w.cell? ⟨g, i * R.k + j, none⟩ = (R.enc l[i])[j]?
/-- a row at whatever place -/
def Rec.Lies (R : Rec α) (p : Option Addr) (l : List α) (w : World) : Prop := l = [] ∨ ∃ b o, p = some ⟨b, o, none⟩ ∧ ∀ i (h : i < l.length), ∀ j, j < R.k → w.cell? ⟨b, o + i * R.k + j, none⟩ = (R.enc l[i])[j]?
theorem OwnR.open {B : Nat} {v : Value} {l : List α} {w : World} (h : OwnR R B v l w) (ok : R.Ok) :
    (v = .slice none 0 0 ∧ l = []) ∨ ∃ g c, v = .slice (some ⟨g, 0, none⟩) l.length c ∧ B ≤ g ∧ g < w.heap.size ∧ l.length ≤ c ∧ c ≤ maxLen ∧ R.At g l w := by
  obtain ⟨h1, h2⟩ := h
  rcases h2 with ⟨rfl, h0⟩ | ⟨g, cap, cur, rfl, hg, hh, hn, hc, hcs, ht⟩
  · exact .inl ⟨rfl, List.length_eq_zero_iff.1 h0⟩
  · refine .inr ⟨g, cap, rfl, hg, lt_of_heap hh, hn, hc, fun i hi j hj => ?_⟩
    rw [← ok.get l i hi j hj, Lib.cell_of_heap hh, ← Array.getElem?_toList, ← ht, List.getElem?_take]
    rw [if_pos]
    have := Nat.mul_le_mul_right R.k (show i + 1 ≤ l.length from hi)
    rw [Nat.add_mul] at this
    omega
theorem OwnR.form {B : Nat} {v : Value} {l : List α} {w : World} (h : OwnR R B v l w) (h0 : 0 < l.length) :
    ∃ g c, v = .slice (some ⟨g, 0, none⟩) l.length c ∧ B ≤ g ∧ g < w.heap.size ∧ l.length ≤ c ∧ c ≤ maxLen := by
  obtain ⟨h1, h2⟩ := h
  rcases h2 with ⟨rfl, hz⟩ | ⟨g, cap, cur, rfl, hg, hh, hn, hc, _⟩
  · omega
  · exact ⟨g, cap, rfl, hg, lt_of_heap hh, hn, hc⟩
theorem OwnR.shape {B : Nat} {v : Value} {l : List α} {w : World} (h : OwnR R B v l w) : ∃ p c, v = .slice p l.length c ∧ l.length ≤ c ∧ c ≤ maxLen ∧ (l = [] ∨ ∃ g, p = some ⟨g, 0, none⟩ ∧ B ≤ g ∧ g < w.heap.size) := by
  obtain ⟨h1, h2⟩ := h
  rcases h2 with ⟨rfl, h0⟩ | ⟨g, cap, cur, rfl, hg, hh, hn, hc, hcs, ht⟩
  · exact ⟨none, 0, by rw [h0], by omega, Nat.zero_le _, .inl (List.length_eq_zero_iff.1 h0)⟩
  · exact ⟨_, cap, rfl, hn, hc, .inr ⟨g, rfl, hg, lt_of_heap hh⟩⟩
theorem OwnR.lies {B : Nat} {p : Option Addr} {n c : Nat} {l : List α} {w : World} (h : OwnR R B (.slice p n c) l w) (ok : R.Ok) : R.Lies p l w := by
  rcases h.open ok with ⟨_, rfl⟩ | ⟨g, c', e, _, _, _, _, hA⟩
  · exact .inl rfl
  · simp only [Value.slice.injEq] at e
    exact .inr ⟨g, 0, e.1, fun i hi j hj => by rw [Nat.zero_add]; exact hA i hi j hj⟩
theorem Rec.Lies.below {p : Option Addr} {l : List α} {B : Nat} {w w' : World} (h : R.Lies p l w) (ok : R.Ok) (hb : Below B w w') (hB : w.heap.size ≤ B) : R.Lies p l w' := by
  rcases h with h | ⟨b, o, hp, hc⟩
  · exact .inl h
  · refine .inr ⟨b, o, hp, fun i hi j hj => ?_⟩
    have h1 := hc i hi j hj
    have h2 : ∃ u, (R.enc l[i])[j]? = some u := ⟨_, List.getElem?_eq_getElem (by rw [ok.len]; exact hj)⟩
    obtain ⟨u, hu⟩ := h2
    rw [hu] at h1 ⊢
    exact cell_later hb h1 hB
theorem Rec.Lies.alloc {p : Option Addr} {l : List α} {w : World} (h : R.Lies p l w) (ok : R.Ok) (x : Obj) : R.Lies p l (w.alloc x) :=
  h.below ok ((Below.refl _ _).alloc (Nat.le_refl _) _) (Nat.le_refl _)
/-- list stores -/
def setL (xs : List Value) (o : Nat) : List Value → List Value
  | [] => xs
  | v :: r => setL (xs.set o v) (o + 1) r
theorem setL_get (vs : List Value) : ∀ (xs : List Value) (o : Nat), o + vs.length ≤ xs.length → ∀ j, (setL xs o vs)[j]? = if o ≤ j ∧ j < o + vs.length then vs[j - o]? else xs[j]? := by
  induction vs with
  | nil => intro xs o _ j; simp only [setL, List.length_nil]; rw [if_neg (by omega)]
  | cons v r ih =>
    intro xs o hl j
    simp only [List.length_cons] at hl ⊢
    rw [setL, ih _ _ (by rw [List.length_set]; omega)]
    by_cases h1 : o + 1 ≤ j ∧ j < o + 1 + r.length
    · rw [if_pos h1, if_pos (by omega), show j - o = (j - (o + 1)) + 1 by omega, List.getElem?_cons_succ]
    · rw [if_neg h1]
      by_cases h2 : j = o
      · subst h2
        rw [if_pos (by omega), List.getElem?_set_self (by omega), Nat.sub_self, List.getElem?_cons_zero]
      · rw [if_neg (by omega), List.getElem?_set_ne (by omega)]
theorem setL_length (vs : List Value) : ∀ (xs : List Value) (o : Nat), (setL xs o vs).length = xs.length := by
  induction vs with
  | nil => intro xs o; rfl
  | cons v r ih => intro xs o; rw [setL, ih, List.length_set]
theorem Rec.Ok.set (ok : R.Ok) (l : List α) (i : Nat) (hi : i < l.length) (x : α) : R.cells (l.set i x) = setL (R.cells l) (i * R.k) (R.enc x) := by
  have hb := Nat.mul_le_mul_right R.k (show i + 1 ≤ l.length from hi)
  rw [Nat.add_mul, Nat.one_mul] at hb
  apply List.ext_getElem?
  intro m
  by_cases hm : m < l.length * R.k
  · rw [setL_get _ _ _ (by rw [ok.length, ok.len]; exact hb)]
    have h1 : m / R.k < l.length := by rw [Nat.div_lt_iff_lt_mul ok.pos]; exact hm
    have h2 : m % R.k < R.k := Nat.mod_lt _ ok.pos
    have h3 : m / R.k * R.k + m % R.k = m := Nat.div_add_mod' m R.k
    obtain ⟨q, hq⟩ : ∃ q, m / R.k = q := ⟨_, rfl⟩
    obtain ⟨r, hr⟩ : ∃ r, m % R.k = r := ⟨_, rfl⟩
    rw [hq, hr] at h3
    rw [hq] at h1
    rw [hr] at h2
    rw [← h3, ok.get _ q (by rw [List.length_set]; exact h1) r h2, ok.len]
    by_cases hqi : q = i
    · subst hqi
      rw [if_pos ⟨by omega, by omega⟩, List.getElem_set_self, show q * R.k + r - q * R.k = r by omega]
    · rw [if_neg, ok.get l q h1 r h2, List.getElem_set_ne (by omega)]
      rintro ⟨g1, g2⟩
      rcases Nat.lt_or_ge q i with g | g
      · have := Nat.mul_le_mul_right R.k (show q + 1 ≤ i from g)
        rw [Nat.add_mul] at this
        omega
      · have := Nat.mul_le_mul_right R.k (show i + 1 ≤ q by omega)
        rw [Nat.add_mul] at this
        omega
  · rw [List.getElem?_eq_none (by rw [ok.length, List.length_set]; omega), List.getElem?_eq_none (by rw [setL_length, ok.length]; omega)]
theorem owns_setCells {B e sz g n cap : Nat} : ∀ (vs : List Value) (o : Nat) (w : World) (xs : List Value), w.ownsRow B e sz (.slice (some ⟨g, 0, none⟩) n cap) n xs →
    (w.setCells g o vs).ownsRow B e sz (.slice (some ⟨g, 0, none⟩) n cap) n (setL xs o vs) ∧ w.grownBy (w.setCells g o vs) (some g)
  | [], o, w, xs, h => ⟨h, ⟨rfl, rfl, rfl, Nat.le_refl _, fun _ _ _ => rfl⟩⟩
  | v :: r, o, w, xs, h => by
    have h1 := World.ownsRow.stored h o v
    obtain ⟨h2, h4⟩ := owns_setCells r (o + 1) (w.setCell ⟨g, o, none⟩ v) (xs.set o v) h1.1
    refine ⟨h2, ⟨h4.os.trans h1.2.os, h4.tape.trans h1.2.tape, h4.output.trans h1.2.output, Nat.le_trans h1.2.size h4.size, fun k hk hne => ?_⟩⟩
    exact (h4.block k (by simpa using hk) hne).trans (h1.2.block k hk hne)
/-- a record is stored in a row of the call's own -/
theorem OwnR.stored {B g cap n : Nat} {l : List α} {w : World} (h : OwnR R B (.slice (some ⟨g, 0, none⟩) n cap) l w) (ok : R.Ok) (hn : l.length = n) (i : Nat) (hi : i < n) (x : α) :
    OwnR R B (.slice (some ⟨g, 0, none⟩) n cap) (l.set i x) (w.setCells g (i * R.k) (R.enc x)) ∧ w.grownBy (w.setCells g (i * R.k) (R.enc x)) (some g) := by
  subst hn
  have h1 := owns_setCells (R.enc x) (i * R.k) w (R.cells l) h
  unfold OwnR
  rw [ok.set l i hi x, List.length_set]
  exact h1
/-- 'append(v, x)' of a record written out -/
theorem wpList_pushRec {ops : Array Oper} {rest : List Oper} {o : Oper} {a : Act} {Q : Exit → Act → World → Prop} (ok : R.Ok) (T : TypeId) (hT : Tryd.prog.underlying T = some (.slice R.T)) (hgd : o.guard = none) (s x : Operand)
    (ho : o.op = .call { callee := .builtin .append, args := #[s, x], argTypes := #[T, T] })
    (B : Nat) (v : Value) (l : List α) (wr : World) (hs : a.eval s = v) (hown : OwnR R B v l wr) (y : α) (C : Array Value) (c : Nat) (hC : C = (R.enc y).toArray)
    (G : Nat) (hx : a.eval x = .slice (some ⟨G, 0, none⟩) 1 c) (hG : G = wr.heap.size) (hlen : l.length + 1 ≤ 1000000000) (hB : B ≤ wr.heap.size)
    (h : ∀ v' w', OwnR R B v' (l ++ [y]) w' → (wr.alloc (.cells C R.T)).grownBy w' v.ownBlock → wpList Tryd.prog ops Q rest (a.put o.dst v') w') :
    wpList Tryd.prog ops Q (o :: rest) a (wr.alloc (.cells C R.T)) := by
  obtain ⟨i0, hi, hz0, hz1, hz2⟩ := info_parts ok.info
  subst hC
  subst hG
  have hownA := hown.alloc (.cells (R.enc y).toArray R.T)
  have hby : (l.length + 1) * R.bytes ≤ 140737488355328 := Nat.le_trans (Nat.mul_le_mul hlen ok.small) (by decide)
  refine wpList_append_own _ hgd s x T ho B R.T i0 R.z R.k R.bytes hT hi hz0 hz1 hz2 ok.zs ok.pos v l.length (R.cells l) hs hownA ⟨wr.heap.size, 0, none⟩ 1 c (R.cells [y]) hx (by rw [ok.length]; rfl) ?_ (ok.ones _) ?_ hby ?_ ?_
  · intro j u hj
    have e : (wr.alloc (.cells (R.enc y).toArray R.T)).cell? ((⟨wr.heap.size, 0, none⟩ : Addr).add j) = (R.enc y).toArray[j]? := by
      rw [addr0]; simp
    rw [e, List.getElem?_toArray]
    rw [Rec.cells_one_row] at hj
    exact hj
  · unfold maxLen; omega
  · simp; omega
  · intro v' w' h1 h2 _
    refine h v' w' ?_ h2
    unfold OwnR
    rw [Rec.cells_append, List.length_append]
    exact h1
/-- the same at a step of a region that draws its order -/
theorem step_pushRec {ops : Array Oper} {o : Oper} {a : Act} {K : Act → World → Prop} {Q : Exit → Act → World → Prop} {E : Prop} {w : World} (ok : R.Ok) (T : TypeId) (hT : Tryd.prog.underlying T = some (.slice R.T)) (hgd : o.guard = none) (s x : Operand)
    (ho : o.op = .call { callee := .builtin .append, args := #[s, x], argTypes := #[T, T] })
    (B : Nat) (v : Value) (l : List α) (hs : a.eval s = v) (hown : OwnR R B v l w) (y : α) (C : Array Value) (hC : C = (R.enc y).toArray) (G c : Nat) (hx : a.eval x = .slice (some ⟨G, 0, none⟩) 1 c)
    (hG : w.heap[G]? = some (.cells C R.T)) (hlen : l.length + 1 ≤ 1000000000) (hB : B ≤ w.heap.size)
    (h : ∀ g cap w', OwnR R B (.slice (some ⟨g, 0, none⟩) (l.length + 1) cap) (l ++ [y]) w' → w.grownBy w' v.ownBlock → K (a.put o.dst (.slice (some ⟨g, 0, none⟩) (l.length + 1) cap)) w') :
    if Region.wanted o (yielded ops a.tmps) = true then Oper.wp Tryd.prog o a w K Q else E := by
  obtain ⟨i0, hi, hz0, hz1, hz2⟩ := info_parts ok.info
  subst hC
  have hby : (l.length + 1) * R.bytes ≤ 140737488355328 := Nat.le_trans (Nat.mul_le_mul hlen ok.small) (by decide)
  refine step_append_lies w hgd s x T ho B R.T i0 R.z R.k R.bytes hT hi hz0 hz1 hz2 ok.zs ok.pos v l.length (R.cells l) hs hown ⟨G, 0, none⟩ 1 c (R.cells [y]) hx (by rw [ok.length]; rfl)
    (by rw [Rec.cells_one_row]; exact World.news_of_block (cs := (R.enc y).toArray) hG) (ok.ones _) (by omega) (by unfold maxLen; omega) hby hB w.heap.size rfl ?_
  intro g cap w' h1 h2 _ _
  refine h g cap w' ?_ h2
  unfold OwnR
  rw [Rec.cells_append, List.length_append]
  exact h1
end Go.Proofs.YtmmijebekipdeaaDoor
