/- Plain laws: labels by their names, put and taken away; what is got of them. -/
import Derived.Test.YtflmojjpdmbnaaaL4Q
import Derived.Maps.OwnOps
import Derived.Maps.OwnSet
import Derived.Maps.StringElems
namespace Go.Proofs.Ytflmojjpdmbnaaa
open Go.RowKit

/-- the value of the first label with a name -/
def Lab.get (ls : List Lab.L) (n : ByteArray) : ByteArray := match ls.find? (fun x => Lab.bs x.n == Lab.bs n) with
  | some x => x.v
  | none => ⟨#[]⟩
/-- labels without those of a name -/
def Lab.wo (m : List Lab.L) (n : List UInt8) : List Lab.L := m.filter fun y => !(Lab.bs y.n == n)
/-- one more edit: an empty value takes the name away -/
def Lab.put1 (m : List Lab.L) (x : Lab.L) : List Lab.L := if (Lab.bs x.v).isEmpty = true then Lab.wo m (Lab.bs x.n) else Lab.wo m (Lab.bs x.n) ++ [x]
def Lab.puts (m : List Lab.L) : List Lab.L → List Lab.L
  | [] => m
  | x :: r => Lab.puts (Lab.put1 m x) r
theorem Lab.puts_drop (m ls : List Lab.L) (k : Nat) (h : k < ls.length) : Lab.puts m (ls.drop k) = Lab.puts (Lab.put1 m ls[k]) (ls.drop (k + 1)) := by
  rw [List.drop_eq_getElem_cons h]; rfl
theorem Lab.wo_mem (m : List Lab.L) (n : List UInt8) (y : Lab.L) : y ∈ Lab.wo m n ↔ y ∈ m ∧ Lab.bs y.n ≠ n := by
  unfold Lab.wo
  rw [List.mem_filter]
  simp
theorem Lab.put1_mem (m : List Lab.L) (x y : Lab.L) : y ∈ Lab.put1 m x ↔ (y ∈ m ∧ Lab.bs y.n ≠ Lab.bs x.n) ∨ (y = x ∧ Lab.bs x.v ≠ []) := by
  unfold Lab.put1
  split
  · rename_i h
    rw [Lab.wo_mem]
    simp only [List.isEmpty_iff] at h
    simp [h]
  · rename_i h
    rw [List.mem_append, Lab.wo_mem, List.mem_singleton]
    simp only [List.isEmpty_iff] at h
    simp [h]
theorem Lab.wo_nodup {m : List Lab.L} (h : (Lab.names m).Nodup) (n : List UInt8) : (Lab.names (Lab.wo m n)).Nodup :=
  List.Nodup.sublist (List.filter_sublist.map _) h
theorem Lab.wo_names (m : List Lab.L) (n x : List UInt8) : x ∈ Lab.names (Lab.wo m n) ↔ x ∈ Lab.names m ∧ x ≠ n := by
  unfold Lab.names
  simp only [List.mem_map, Lab.wo_mem]
  constructor
  · rintro ⟨y, ⟨h1, h2⟩, rfl⟩
    exact ⟨⟨y, h1, rfl⟩, h2⟩
  · rintro ⟨⟨y, h1, rfl⟩, h2⟩
    exact ⟨y, ⟨h1, h2⟩, rfl⟩
theorem Lab.put1_nodup {m : List Lab.L} (h : (Lab.names m).Nodup) (x : Lab.L) : (Lab.names (Lab.put1 m x)).Nodup := by
  unfold Lab.put1
  split
  · exact Lab.wo_nodup h _
  · unfold Lab.names
    rw [List.map_append, List.nodup_append]
    refine ⟨Lab.wo_nodup h _, by simp, fun a ha b hb => ?_⟩
    have ha2 := ((Lab.wo_names m (Lab.bs x.n) a).1 ha).2
    simp only [List.map_cons, List.map_nil, List.mem_singleton] at hb
    rw [hb]
    exact ha2
theorem Lab.put1_length (m : List Lab.L) (x : Lab.L) : (Lab.put1 m x).length ≤ m.length + 1 := by
  unfold Lab.put1 Lab.wo
  have := List.length_filter_le (fun y => !(Lab.bs y.n == Lab.bs x.n)) m
  split
  · omega
  · rw [List.length_append]
    simp only [List.length_cons, List.length_nil]
    omega
theorem Lab.puts_length (ls : List Lab.L) : ∀ m : List Lab.L, (Lab.puts m ls).length ≤ m.length + ls.length := by
  induction ls with
  | nil => intro m; exact Nat.le_refl _
  | cons x r ih =>
    intro m
    have h1 := ih (Lab.put1 m x)
    have h2 := Lab.put1_length m x
    unfold Lab.puts
    rw [List.length_cons]
    omega
/-- a label as the datum of a map -/
def Lab.dat (y : Lab.L) : DataW Unit := .agg [.lit (.string (Lab.bs y.n)), .lit (.string (Lab.bs y.v))]
def Lab.elemL : List Value → Option (DataW Unit × List MemPlace)
  | [.string a, .string b] => some (Lab.dat ⟨a, b⟩, [])
  | _ => none
def Lab.elem : Value → Option (DataW Unit × List MemPlace)
  | .agg cs => Lab.elemL cs.toList
  | _ => none
theorem Lab.elem_mk (x : Lab.L) : Lab.elem (.agg #[.string x.n, .string x.v]) = some (Lab.dat x, []) := rfl
theorem Lab.elem_inv (v : Value) (y : DataW Unit × List MemPlace) (h : Lab.elem v = some y) : ∃ c : Lab.L, v = .agg #[.string c.n, .string c.v] := by
  unfold Lab.elem at h
  split at h
  · rename_i cs
    unfold Lab.elemL at h
    split at h
    · rename_i a b e
      exact ⟨⟨a, b⟩, by rw [← Array.toArray_toList (xs := cs), e]⟩
    · cases h
  · cases h
theorem Lab.dat_inj {a b : Lab.L} (h : Lab.dat a = Lab.dat b) : a = b := by
  simp only [Lab.dat, DataW.agg.injEq, List.cons.injEq, DataW.lit.injEq, Lit.string.injEq, and_true] at h
  obtain ⟨h1, h2⟩ := h
  cases a; cases b
  simp only at h1 h2
  rw [Lab.bs_inj h1, Lab.bs_inj h2]
/-- the map has just these labels, by their names -/
structure Lab.MapIs (D : DataW Unit) (m : List Lab.L) : Prop where
  tidy : Maps.Tidy D
  nodup : (Lab.names m).Nodup
  at' : ∀ y ∈ m, ∀ zd, D.atKey (.string (Lab.bs y.n)) zd = Lab.dat y
  has : ∀ x, Maps.has D (.string x) = true ↔ x ∈ Lab.names m
theorem Lab.MapIs.empty : Lab.MapIs (.map []) [] := ⟨Maps.tidy_empty, List.nodup_nil, fun y hy => by simp at hy, fun x => by simp [Maps.has, Lab.names]⟩
theorem Lab.keyLit (x : List UInt8) : WideAt.IsKeyLit (.string x) := by
  first
    | trivial
    | exact ⟨_, rfl⟩
    | simp [WideAt.IsKeyLit]
theorem Lab.MapIs.del {D : DataW Unit} {m : List Lab.L} (h : Lab.MapIs D m) (n : List UInt8) : Lab.MapIs (D.del (.string n)) (Lab.wo m n) where
  tidy := h.tidy.del _
  nodup := Lab.wo_nodup h.nodup n
  at' := fun y hy zd => by
    have h2 := (Lab.wo_mem m n y).1 hy
    rw [Maps.atKey_del_other (by intro e; exact h2.2 (by injection e))]
    exact h.at' y h2.1 zd
  has := fun x => by
    rw [Lab.wo_names]
    by_cases e : x = n
    · subst e
      rw [Maps.has_del_same]
      simp
    · rw [Maps.has_del_other (by intro e2; exact e (by injection e2)), h.has x]
      simp [e]
theorem Lab.MapIs.put {D : DataW Unit} {m : List Lab.L} (h : Lab.MapIs D m) (x : Lab.L) : Lab.MapIs (D.put (.string (Lab.bs x.n)) (Lab.dat x)) (Lab.wo m (Lab.bs x.n) ++ [x]) where
  tidy := h.tidy.put (Lab.keyLit _) _
  nodup := by
    unfold Lab.names
    rw [List.map_append, List.nodup_append]
    refine ⟨Lab.wo_nodup h.nodup _, by simp, fun a ha b hb => ?_⟩
    have ha2 := ((Lab.wo_names m (Lab.bs x.n) a).1 ha).2
    simp only [List.map_cons, List.map_nil, List.mem_singleton] at hb
    rw [hb]
    exact ha2
  at' := fun y hy zd => by
    rw [List.mem_append, List.mem_singleton] at hy
    rcases hy with hy | rfl
    · have h2 := (Lab.wo_mem m _ y).1 hy
      rw [Maps.atKey_put_other (by intro e; exact h2.2 (by injection e))]
      exact h.at' y h2.1 zd
    · exact Maps.atKey_put_same h.tidy.isMap (Lab.keyLit _) _ _
  has := fun n => by
    unfold Lab.names
    rw [List.map_append, List.mem_append]
    have hw := Lab.wo_names m (Lab.bs x.n) n
    unfold Lab.names at hw
    rw [hw]
    by_cases e : n = Lab.bs x.n
    · subst e
      rw [Maps.has_put_same h.tidy.isMap (Lab.keyLit _)]
      simp
    · rw [Maps.has_put_other (by intro e2; exact e (by injection e2)), h.has n]
      unfold Lab.names
      simp [e]
theorem Lab.MapIs.step {D : DataW Unit} {m : List Lab.L} (h : Lab.MapIs D m) (x : Lab.L) (b : Bool) (hb : (Lab.bs x.v).isEmpty = b) : Lab.MapIs (if b = true then D.del (.string (Lab.bs x.n)) else D.put (.string (Lab.bs x.n)) (Lab.dat x)) (Lab.put1 m x) := by
  unfold Lab.put1
  rw [hb]
  split
  · exact h.del _
  · exact h.put x
/-- what a range over the map has met: labels of it, each once; what is left has other names -/
structure Lab.Met (D : DataW Unit) (m : List Lab.L) (left : Lit → Bool) (out : List Lab.L) : Prop where
  sub : ∀ y ∈ out, y ∈ m
  nodup : (Lab.names out).Nodup
  left : ∀ x, left (.string x) = true ↔ (x ∈ Lab.names m ∧ x ∉ Lab.names out)
theorem Lab.Met.start {D : DataW Unit} {m : List Lab.L} (h : Lab.MapIs D m) : Lab.Met D m (Maps.has D) [] := ⟨fun y hy => by simp at hy, List.nodup_nil, fun x => by rw [h.has x]; simp [Lab.names]⟩
theorem Lab.Met.step {D : DataW Unit} {m : List Lab.L} {left : Lit → Bool} {out : List Lab.L} (h : Lab.Met D m left out) (hM : Lab.MapIs D m) (x : List UInt8) (y : Lab.L) (hl : left (.string x) = true) (hat : ∀ zd, D.atKey (.string x) zd = Lab.dat y) :
    Lab.Met D m (fun z => left z && !z.sameKey (.string x)) (out ++ [y]) := by
  obtain ⟨h1, h2⟩ := (h.left x).1 hl
  unfold Lab.names at h1
  rw [List.mem_map] at h1
  obtain ⟨y', hy, rfl⟩ := h1
  have e := (hM.at' y' hy (.agg [])).symm.trans (hat (.agg []))
  obtain rfl := Lab.dat_inj e
  refine ⟨fun z hz => ?_, ?_, fun z => ?_⟩
  · rw [List.mem_append, List.mem_singleton] at hz
    rcases hz with hz | rfl
    · exact h.sub z hz
    · exact hy
  · unfold Lab.names
    rw [List.map_append, List.nodup_append]
    refine ⟨h.nodup, by simp, fun a ha b hb => ?_⟩
    simp only [List.map_cons, List.map_nil, List.mem_singleton] at hb
    rw [hb]
    intro e
    rw [e] at ha
    exact h2 ha
  · rw [Bool.and_eq_true, h.left z]
    unfold Lab.names
    rw [List.map_append, List.mem_append]
    have hs : (Lit.string z).sameKey (.string (Lab.bs y'.n)) = decide (z = Lab.bs y'.n) := by
      by_cases e : z = Lab.bs y'.n
      · subst e
        rw [decide_eq_true rfl]
        first
          | rfl
          | simp [Lit.sameKey]
      · rw [decide_eq_false e]
        exact Maps.sameKey_ne (by intro e2; exact e (by injection e2))
    rw [hs]
    simp only [List.map_cons, List.map_nil, List.mem_singleton, not_or, Bool.not_eq_true', decide_eq_false_iff_not]
    exact and_assoc
theorem Lab.nodup_of (l : List Lab.L) (h : (Lab.names l).Nodup) : l.Nodup :=
  List.Pairwise.of_map (fun x => Lab.bs x.n) (fun a b hab e => hab (by rw [e])) h
theorem Lab.Met.perm {D : DataW Unit} {m : List Lab.L} {left : Lit → Bool} {out : List Lab.L} (h : Lab.Met D m left out) (hM : Lab.MapIs D m) (hl : ∀ kl, left kl = false) : out.Perm m := by
  have n1 : out.Nodup := Lab.nodup_of _ h.nodup
  have n2 : m.Nodup := Lab.nodup_of _ hM.nodup
  rw [List.perm_ext_iff_of_nodup n1 n2]
  intro y
  refine ⟨h.sub y, fun hy => ?_⟩
  have h1 : ¬ (Lab.bs y.n ∈ Lab.names m ∧ Lab.bs y.n ∉ Lab.names out) := fun e => by
    have := (h.left (Lab.bs y.n)).2 e
    rw [hl] at this
    cases this
  have h2 : Lab.bs y.n ∈ Lab.names m := List.mem_map.2 ⟨y, hy, rfl⟩
  have h3 : Lab.bs y.n ∈ Lab.names out := Classical.byContradiction fun e => h1 ⟨h2, e⟩
  unfold Lab.names at h3
  rw [List.mem_map] at h3
  obtain ⟨z, hz, ez⟩ := h3
  have a1 := hM.at' y hy (.agg [])
  have a2 := hM.at' z (h.sub z hz) (.agg [])
  rw [ez] at a2
  obtain rfl := Lab.dat_inj (a1.symm.trans a2)
  exact hz
end Go.Proofs.Ytflmojjpdmbnaaa
