/- Plain laws: labels by their names, put and taken away; what is got of them. Contract of slices.SortFunc at api.Labels (by names). Contracts of label: table.put, table.labels, Get. -/
import Derived.Test.YtbilaghljlobpaaGreatL4Q
import Derived.Maps.OwnOps
import Derived.Maps.OwnSet
import Derived.Maps.StringElems
import Derived.Test.YtbilaghljlobpaaGreatL4O
import Derived.Maps.RangeWalk
namespace Go.Proofs.YtbilaghljlobpaaGreat
open Go.RowKit

/-- the value of the first label with a name -/
def Lab.get (ls : List Lab.L) (n : ByteArray) : ByteArray := match ls.find? (fun x => Lab.bs x.n == Lab.bs n) with
  | some x => x.v
  | none => ⟨#[]⟩
/-- labels without those of a name -/
def Lab.wo (m : List Lab.L) (n : List UInt8) : List Lab.L := m.filter fun y => !(Lab.bs y.n == n)
/-- one more edit: an empty value takes the name away -/
def Lab.put1 (m : List Lab.L) (x : Lab.L) : List Lab.L := if (Lab.bs x.v).isEmpty = true then Lab.wo m (Lab.bs x.n) else Lab.wo m (Lab.bs x.n) ++ [x]
def Lab.puts (m : List Lab.L) : List Lab.L → List Lab.L
  | [] => m
  | x :: r => Lab.puts (Lab.put1 m x) r
theorem Lab.puts_drop (m ls : List Lab.L) (k : Nat) (h : k < ls.length) : Lab.puts m (ls.drop k) = Lab.puts (Lab.put1 m ls[k]) (ls.drop (k + 1)) := by
  rw [List.drop_eq_getElem_cons h]; rfl
theorem Lab.wo_mem (m : List Lab.L) (n : List UInt8) (y : Lab.L) : y ∈ Lab.wo m n ↔ y ∈ m ∧ Lab.bs y.n ≠ n := by
  unfold Lab.wo
  rw [List.mem_filter]
  simp
theorem Lab.put1_mem (m : List Lab.L) (x y : Lab.L) : y ∈ Lab.put1 m x ↔ (y ∈ m ∧ Lab.bs y.n ≠ Lab.bs x.n) ∨ (y = x ∧ Lab.bs x.v ≠ []) := by
  unfold Lab.put1
  split
  · rename_i h
    rw [Lab.wo_mem]
    simp only [List.isEmpty_iff] at h
    simp [h]
  · rename_i h
    rw [List.mem_append, Lab.wo_mem, List.mem_singleton]
    simp only [List.isEmpty_iff] at h
    simp [h]
theorem Lab.wo_nodup {m : List Lab.L} (h : (Lab.names m).Nodup) (n : List UInt8) : (Lab.names (Lab.wo m n)).Nodup :=
  List.Nodup.sublist (List.filter_sublist.map _) h
theorem Lab.wo_names (m : List Lab.L) (n x : List UInt8) : x ∈ Lab.names (Lab.wo m n) ↔ x ∈ Lab.names m ∧ x ≠ n := by
  unfold Lab.names
  simp only [List.mem_map, Lab.wo_mem]
  constructor
  · rintro ⟨y, ⟨h1, h2⟩, rfl⟩
    exact ⟨⟨y, h1, rfl⟩, h2⟩
  · rintro ⟨⟨y, h1, rfl⟩, h2⟩
    exact ⟨y, ⟨h1, h2⟩, rfl⟩
theorem Lab.put1_nodup {m : List Lab.L} (h : (Lab.names m).Nodup) (x : Lab.L) : (Lab.names (Lab.put1 m x)).Nodup := by
  unfold Lab.put1
  split
  · exact Lab.wo_nodup h _
  · unfold Lab.names
    rw [List.map_append, List.nodup_append]
    refine ⟨Lab.wo_nodup h _, by simp, fun a ha b hb => ?_⟩
    have ha2 := ((Lab.wo_names m (Lab.bs x.n) a).1 ha).2
    simp only [List.map_cons, List.map_nil, List.mem_singleton] at hb
    rw [hb]
    exact ha2
theorem Lab.put1_length (m : List Lab.L) (x : Lab.L) : (Lab.put1 m x).length ≤ m.length + 1 := by
  unfold Lab.put1 Lab.wo
  have := List.length_filter_le (fun y => !(Lab.bs y.n == Lab.bs x.n)) m
  split
  · omega
  · rw [List.length_append]
    simp only [List.length_cons, List.length_nil]
    omega
theorem Lab.puts_length (ls : List Lab.L) : ∀ m : List Lab.L, (Lab.puts m ls).length ≤ m.length + ls.length := by
  induction ls with
  | nil => intro m; exact Nat.le_refl _
  | cons x r ih =>
    intro m
    have h1 := ih (Lab.put1 m x)
    have h2 := Lab.put1_length m x
    unfold Lab.puts
    rw [List.length_cons]
    omega
/-- a label as the datum of a map -/
def Lab.dat (y : Lab.L) : DataW Unit := .agg [.lit (.string (Lab.bs y.n)), .lit (.string (Lab.bs y.v))]
def Lab.elemL : List Value → Option (DataW Unit × List MemPlace)
  | [.string a, .string b] => some (Lab.dat ⟨a, b⟩, [])
  | _ => none
def Lab.elem : Value → Option (DataW Unit × List MemPlace)
  | .agg cs => Lab.elemL cs.toList
  | _ => none
theorem Lab.elem_mk (x : Lab.L) : Lab.elem (.agg #[.string x.n, .string x.v]) = some (Lab.dat x, []) := rfl
theorem Lab.elem_inv (v : Value) (y : DataW Unit × List MemPlace) (h : Lab.elem v = some y) : ∃ c : Lab.L, v = .agg #[.string c.n, .string c.v] := by
  unfold Lab.elem at h
  split at h
  · rename_i cs
    unfold Lab.elemL at h
    split at h
    · rename_i a b e
      exact ⟨⟨a, b⟩, by rw [← Array.toArray_toList (xs := cs), e]⟩
    · cases h
  · cases h
theorem Lab.dat_inj {a b : Lab.L} (h : Lab.dat a = Lab.dat b) : a = b := by
  simp only [Lab.dat, DataW.agg.injEq, List.cons.injEq, DataW.lit.injEq, Lit.string.injEq, and_true] at h
  obtain ⟨h1, h2⟩ := h
  cases a; cases b
  simp only at h1 h2
  rw [Lab.bs_inj h1, Lab.bs_inj h2]
/-- the map has just these labels, by their names -/
structure Lab.MapIs (D : DataW Unit) (m : List Lab.L) : Prop where
  tidy : Maps.Tidy D
  nodup : (Lab.names m).Nodup
  at' : ∀ y ∈ m, ∀ zd, D.atKey (.string (Lab.bs y.n)) zd = Lab.dat y
  has : ∀ x, Maps.has D (.string x) = true ↔ x ∈ Lab.names m
theorem Lab.MapIs.empty : Lab.MapIs (.map []) [] := ⟨Maps.tidy_empty, List.nodup_nil, fun y hy => by simp at hy, fun x => by simp [Maps.has, Lab.names]⟩
theorem Lab.keyLit (x : List UInt8) : WideAt.IsKeyLit (.string x) := by
  first
    | trivial
    | exact ⟨_, rfl⟩
    | simp [WideAt.IsKeyLit]
theorem Lab.MapIs.del {D : DataW Unit} {m : List Lab.L} (h : Lab.MapIs D m) (n : List UInt8) : Lab.MapIs (D.del (.string n)) (Lab.wo m n) where
  tidy := h.tidy.del _
  nodup := Lab.wo_nodup h.nodup n
  at' := fun y hy zd => by
    have h2 := (Lab.wo_mem m n y).1 hy
    rw [Maps.atKey_del_other (by intro e; exact h2.2 (by injection e))]
    exact h.at' y h2.1 zd
  has := fun x => by
    rw [Lab.wo_names]
    by_cases e : x = n
    · subst e
      rw [Maps.has_del_same]
      simp
    · rw [Maps.has_del_other (by intro e2; exact e (by injection e2)), h.has x]
      simp [e]
theorem Lab.MapIs.put {D : DataW Unit} {m : List Lab.L} (h : Lab.MapIs D m) (x : Lab.L) : Lab.MapIs (D.put (.string (Lab.bs x.n)) (Lab.dat x)) (Lab.wo m (Lab.bs x.n) ++ [x]) where
  tidy := h.tidy.put (Lab.keyLit _) _
  nodup := by
    unfold Lab.names
    rw [List.map_append, List.nodup_append]
    refine ⟨Lab.wo_nodup h.nodup _, by simp, fun a ha b hb => ?_⟩
    have ha2 := ((Lab.wo_names m (Lab.bs x.n) a).1 ha).2
    simp only [List.map_cons, List.map_nil, List.mem_singleton] at hb
    rw [hb]
    exact ha2
  at' := fun y hy zd => by
    rw [List.mem_append, List.mem_singleton] at hy
    rcases hy with hy | rfl
    · have h2 := (Lab.wo_mem m _ y).1 hy
      rw [Maps.atKey_put_other (by intro e; exact h2.2 (by injection e))]
      exact h.at' y h2.1 zd
    · exact Maps.atKey_put_same h.tidy.isMap (Lab.keyLit _) _ _
  has := fun n => by
    unfold Lab.names
    rw [List.map_append, List.mem_append]
    have hw := Lab.wo_names m (Lab.bs x.n) n
    unfold Lab.names at hw
    rw [hw]
    by_cases e : n = Lab.bs x.n
    · subst e
      rw [Maps.has_put_same h.tidy.isMap (Lab.keyLit _)]
      simp
    · rw [Maps.has_put_other (by intro e2; exact e (by injection e2)), h.has n]
      unfold Lab.names
      simp [e]
theorem Lab.MapIs.step {D : DataW Unit} {m : List Lab.L} (h : Lab.MapIs D m) (x : Lab.L) (b : Bool) (hb : (Lab.bs x.v).isEmpty = b) : Lab.MapIs (if b = true then D.del (.string (Lab.bs x.n)) else D.put (.string (Lab.bs x.n)) (Lab.dat x)) (Lab.put1 m x) := by
  unfold Lab.put1
  rw [hb]
  split
  · exact h.del _
  · exact h.put x
/-- what a range over the map has met: labels of it, each once; what is left has other names -/
structure Lab.Met (D : DataW Unit) (m : List Lab.L) (left : Lit → Bool) (out : List Lab.L) : Prop where
  sub : ∀ y ∈ out, y ∈ m
  nodup : (Lab.names out).Nodup
  left : ∀ x, left (.string x) = true ↔ (x ∈ Lab.names m ∧ x ∉ Lab.names out)
theorem Lab.Met.start {D : DataW Unit} {m : List Lab.L} (h : Lab.MapIs D m) : Lab.Met D m (Maps.has D) [] := ⟨fun y hy => by simp at hy, List.nodup_nil, fun x => by rw [h.has x]; simp [Lab.names]⟩
theorem Lab.Met.step {D : DataW Unit} {m : List Lab.L} {left : Lit → Bool} {out : List Lab.L} (h : Lab.Met D m left out) (hM : Lab.MapIs D m) (x : List UInt8) (y : Lab.L) (hl : left (.string x) = true) (hat : ∀ zd, D.atKey (.string x) zd = Lab.dat y) :
    Lab.Met D m (fun z => left z && !z.sameKey (.string x)) (out ++ [y]) := by
  obtain ⟨h1, h2⟩ := (h.left x).1 hl
  unfold Lab.names at h1
  rw [List.mem_map] at h1
  obtain ⟨y', hy, rfl⟩ := h1
  have e := (hM.at' y' hy (.agg [])).symm.trans (hat (.agg []))
  obtain rfl := Lab.dat_inj e
  refine ⟨fun z hz => ?_, ?_, fun z => ?_⟩
  · rw [List.mem_append, List.mem_singleton] at hz
    rcases hz with hz | rfl
    · exact h.sub z hz
    · exact hy
  · unfold Lab.names
    rw [List.map_append, List.nodup_append]
    refine ⟨h.nodup, by simp, fun a ha b hb => ?_⟩
    simp only [List.map_cons, List.map_nil, List.mem_singleton] at hb
    rw [hb]
    intro e
    rw [e] at ha
    exact h2 ha
  · rw [Bool.and_eq_true, h.left z]
    unfold Lab.names
    rw [List.map_append, List.mem_append]
    have hs : (Lit.string z).sameKey (.string (Lab.bs y'.n)) = decide (z = Lab.bs y'.n) := by
      by_cases e : z = Lab.bs y'.n
      · subst e
        rw [decide_eq_true rfl]
        first
          | rfl
          | simp [Lit.sameKey]
      · rw [decide_eq_false e]
        exact Maps.sameKey_ne (by intro e2; exact e (by injection e2))
    rw [hs]
    simp only [List.map_cons, List.map_nil, List.mem_singleton, not_or, Bool.not_eq_true', decide_eq_false_iff_not]
    exact and_assoc
theorem Lab.nodup_of (l : List Lab.L) (h : (Lab.names l).Nodup) : l.Nodup :=
  List.Pairwise.of_map (fun x => Lab.bs x.n) (fun a b hab e => hab (by rw [e])) h
theorem Lab.Met.perm {D : DataW Unit} {m : List Lab.L} {left : Lit → Bool} {out : List Lab.L} (h : Lab.Met D m left out) (hM : Lab.MapIs D m) (hl : ∀ kl, left kl = false) : out.Perm m := by
  have n1 : out.Nodup := Lab.nodup_of _ h.nodup
  have n2 : m.Nodup := Lab.nodup_of _ hM.nodup
  rw [List.perm_ext_iff_of_nodup n1 n2]
  intro y
  refine ⟨h.sub y, fun hy => ?_⟩
  have h1 : ¬ (Lab.bs y.n ∈ Lab.names m ∧ Lab.bs y.n ∉ Lab.names out) := fun e => by
    have := (h.left (Lab.bs y.n)).2 e
    rw [hl] at this
    cases this
  have h2 : Lab.bs y.n ∈ Lab.names m := List.mem_map.2 ⟨y, hy, rfl⟩
  have h3 : Lab.bs y.n ∈ Lab.names out := Classical.byContradiction fun e => h1 ⟨h2, e⟩
  unfold Lab.names at h3
  rw [List.mem_map] at h3
  obtain ⟨z, hz, ez⟩ := h3
  have a1 := hM.at' y hy (.agg [])
  have a2 := hM.at' z (h.sub z hz) (.agg [])
  rw [ez] at a2
  obtain rfl := Lab.dat_inj (a1.symm.trans a2)
  exact hz
end Go.Proofs.YtbilaghljlobpaaGreat
namespace Go.Proofs.YtbilaghljlobpaaGreat
open Go.RowKit Go.Sort Go.Shelf Go.Lib

set_option maxHeartbeats 2000000 in
set_option maxRecDepth 100000 in
theorem sortA_pdq (g cap : Nat) (d : Array Lab.L) (w : World) (hH : HoldsK Lab.enc 2 w g 0 d) (hg : g < w.heap.size) (hsz : d.size < 4611686018427387904) :
    Calls Tryz.prog 92 #[.slice (some ⟨g, 0, none⟩) d.size cap, .func (.func 55) #[] #[]] w fun e w' =>
      e = .returned (.tuple #[]) ∧ ∃ n os, w' = sortWorldK Lab.enc 2 w g 0 n (pdq (ltOf Lab.cf) d 0 d.size (Lib.bitLen d.size) true true) os := by
  have eg : ∀ args w, (callFunc 55 args).run Tryz.prog w = .ok (.enter 55 args) w := enters_of Tryz.func55 (by kernel_rfl) rfl
  have hlim : Lib.bitLen d.size < 4611686018427387904 := Nat.lt_of_le_of_lt (Lib.bitLen_le d.size 62 (by omega) (by omega)) (by omega)
  have hp := AnyQ.pdqsortCmpFunc_all (P := Tryz.prog) { Tryz.sortL with } 2 Tryz.isAgg31 Tryz.sizeOf31 Lab.enc Lab.cf 55 #[] Lab.swo g 0 cap d w eg (fun _ _ _ _ x y => byName_lays x y _) ⟨fun _ => rfl, fun x u hu => by simp [Lab.enc] at hu; rcases hu with rfl | rfl <;> rfl, hH, hg⟩ (d.size + 1) 0 d.size (Lib.bitLen d.size) d w (by omega) rfl (SWK.start hH) (Nat.zero_le _) (Nat.le_refl _) hsz hlim (Or.inl rfl)
  change Calls Tryz.prog 85 _ _ _ at hp
  have hl : Calls Tryz.prog 86 #[.int .u64 (d.size : Int)] w fun e w' => e = .returned (.int .i64 (Lib.bitLen d.size : Nat)) ∧ w' = w := by
    have h := Tryz.bits_Len (d.size : Int) w (by omega) (by omega)
    rwa [Int.toNat_natCast] at h
  have wr : IntKind.u64.wrap (d.size : Int) = d.size := by simp [IntKind.wrap, IntKind.bits, IntKind.signed]; omega
  have HP := Lib.hid hp
  have HL := Lib.hid hl
  clear hH hp hl eg
  go_enter Tryz.func92, Tryz.ntmps92
  go_wp2_with (first | (go_at_call 86; refine HL.out.mono ?_; rintro e w' ⟨rfl, rfl⟩) | (go_at_call 85; refine HP.out.mono ?_; rintro e w' ⟨rfl, n, os, rfl⟩))
  go_end0
  exact ⟨rfl, n, os, rfl⟩
set_option maxHeartbeats 2000000 in
set_option maxRecDepth 100000 in
theorem sortA_none (w : World) :
    Calls Tryz.prog 92 #[.slice none 0 0, .func (.func 55) #[] #[]] w fun e w' => e = .returned (.tuple #[]) ∧ w' = w := by
  have hp := fun lim W => AnyF.pdqsortCmpFunc_none (P := Tryz.prog) { Tryz.sortL with } none 0 lim (.func (.func 55) #[] #[]) W
  change ∀ lim W, Calls Tryz.prog 85 _ _ _ at hp
  have hl : ∀ w, Calls Tryz.prog 86 #[.int .u64 0] w fun e w' => e = .returned (.int .i64 (Lib.bitLen 0 : Nat)) ∧ w' = w := fun w => Tryz.bits_Len 0 w (by omega) (by omega)
  have HP := Lib.hid hp
  have HL := Lib.hid hl
  clear hp hl
  go_enter Tryz.func92, Tryz.ntmps92
  go_wp2_with (first | (go_at_call 86; refine (HL.out _).mono ?_; rintro e w' ⟨rfl, rfl⟩) | (go_at_call 85; refine (HP.out _ _).mono ?_; rintro e w' ⟨rfl, rfl⟩))
  go_end0
  exact ⟨rfl, rfl⟩
theorem sortA_is (B : Nat) (v : Value) (ls : List Lab.L) (n : Nat) (w : World) (hn : ls.length = n) (h : OwnLabels B v ls w) (hB : B ≤ w.heap.size) (hl : n ≤ 100000) :
    Calls Tryz.prog 92 #[v, .func (.func 55) #[] #[]] w fun e w' => e = .returned (.tuple #[]) ∧ ∃ d, (d.Perm ls ∧ Lab.Asc d) ∧ OwnLabels B v d w' ∧ Below B w w' := by
  rcases h.2 with ⟨rfl, h0⟩ | ⟨g, cap, cur, rfl, hg, hh, _⟩
  · have hls : ls = [] := List.length_eq_zero_iff.1 h0
    refine (sortA_none w).mono fun e w' ⟨h1, h2⟩ => ⟨h1, [], ⟨by rw [hls], List.Pairwise.nil⟩, OwnLabels.nil _ _, by rw [h2]; exact Below.refl _ _⟩
  · have hlt := lt_of_heap hh
    have hsz : ls.toArray.size = ls.length := List.size_toArray
    have hcon := sortA_pdq g cap ls.toArray w (h.holds rfl) hlt (by rw [hsz]; omega)
    rw [hsz] at hcon
    refine hcon.mono fun e w' ⟨h1, q, os, hw⟩ => ?_
    have hps := pdq_sorts (ltOf Lab.cf) Lab.swo ls.toArray 0 ls.length (Lib.bitLen ls.length) true true (Nat.zero_le _) (by rw [hsz]; exact Nat.le_refl _) (Or.inl rfl)
    obtain ⟨d', hd'⟩ : ∃ d', pdq (ltOf Lab.cf) ls.toArray 0 ls.length (Lib.bitLen ls.length) true true = d' := ⟨_, rfl⟩
    rw [hd'] at hw hps
    obtain ⟨⟨p1, _, p3⟩, hs⟩ := hps
    have hd : d'.size = ls.length := by rw [p1, hsz]
    have hdl : d'.toList.length = ls.length := by rw [Array.length_toList]; exact hd
    have e1 : (d'.extract 0 ls.length).toList = d'.toList := by rw [← hd, Array.extract_size]
    have e2 : (ls.toArray.extract 0 ls.length).toList = ls := by rw [← hsz, Array.extract_size]
    rw [e1, e2] at p3
    refine ⟨h1, d'.toList, ⟨p3, ?_⟩, ?_, ?_⟩
    · unfold Lab.Asc
      rw [List.pairwise_iff_getElem]
      intro i j hi hj hij
      have := hs i j (Nat.zero_le _) hij (by omega)
      rw [Lab.cf_lt, decide_eq_false_iff_not, List.not_lt] at this
      rw [getElem!_pos d' i (by omega), getElem!_pos d' j (by omega)] at this
      simpa using this
    · rw [hw]
      have := h.sorted (l' := d'.toList) (q := q) (os := os) rfl hdl
      rw [Array.toArray_toList] at this
      exact this
    · rw [hw]; exact sorted_below d' (Below.refl _ _) hB hg
end Go.Proofs.YtbilaghljlobpaaGreat
namespace Go.Proofs.YtbilaghljlobpaaGreat
open Go.RowKit Go.Maps

theorem strLaw : Maps.Keyed Tryz.prog 9 := Maps.string_keyed Tryz.underlying9
theorem Lab.key_of (s : ByteArray) (hs : s.size ≤ 1000000) : keyOf Tryz.prog 9 (.string s) = some (.string (Lab.bs s)) := WideMaps.keyOf_string_mk (s := s) Tryz.underlying9 (by unfold maxLen; omega)
/-- what reads as a key of a string's type is that string -/
theorem keyOf_string_inv {P : Program} {k : TypeId} (hk : P.underlying k = some .string) {key : Value} {kl : Lit} (h : keyOf P k key = some kl) : ∃ s : ByteArray, key = .string s ∧ kl = .string s.data.toList ∧ s.size ≤ maxLen := by
  obtain ⟨s, h1, h2, h3⟩ := WideMaps.string_of_keyOf hk h
  first
    | exact ⟨s, h1, h2, h3⟩
    | exact ⟨s, h1, h3, h2⟩
/-- the table's map in block b has just the labels m -/
def Lab.Tab (b n : Nat) (m : List Lab.L) (w : World) : Prop := ∃ D : DataW Unit, w.ownsMap Tryz.prog 9 Lab.elem b n D ∧ Lab.MapIs D m

set_option maxHeartbeats 3200000 in
set_option maxRecDepth 100000 in
theorem put_is (w0 : World) (b nn : Nat) (m : List Lab.L) (p : Option Addr) (ls : List Lab.L) (n c : Nat) (w : World) (hn : ls.length = n) (hA : Lab.At p ls w0) (hF : Lab.Fit 1000000 ls) (hl : n ≤ 100000) (hnn : nn ≤ 1000000) (h0 : Below w0.heap.size w0 w) (hb : w0.heap.size ≤ b) (hbw : b < w.heap.size) (hT : Lab.Tab b nn m w) :
    Calls Tryz.prog 72 #[.map (some b), .slice p n c] w fun e w' => e = .returned (.tuple #[]) ∧ (∃ nn', nn' ≤ nn + n ∧ Lab.Tab b nn' (Lab.puts m ls) w') ∧ w.heap.size ≤ w'.heap.size ∧ Below w0.heap.size w0 w' := by
  have HN := Lib.hid hn
  have HA := Lib.hid hA
  have HF := Lib.hid hF
  have HD := Lib.hid (fun m k h => Lab.puts_drop m ls k h)
  clear hn hA hF
  go_enter Tryz.func72, Tryz.ntmps72
  go_wp2_with fail
  go_loopw [8] (fun i wr => ∃ (k : Nat) (m' : List Lab.L) (q : Nat), k ≤ n ∧ i = .int .i64 (k : Int) ∧ q ≤ nn + k ∧ Lab.Tab b q m' wr ∧ Hid (Lab.puts m' (ls.drop k) = Lab.puts m ls) ∧ w.heap.size ≤ wr.heap.size ∧ Below w0.heap.size w0 wr) (fun i _ => n - (intOf i).toNat)
  case atStart => exact ⟨0, m, nn, Nat.zero_le _, rfl, by omega, hT, rfl, Nat.le_refl _, h0⟩
  case round =>
    obtain ⟨k, m', q, hk, rfl, hq, hTr, HP, hsz, hbr⟩ := hrel
    by_cases hlt : k < n
    · have hk2 : k < ls.length := by rw [HN.out]; exact hlt
      obtain ⟨b0, o0, rfl, hc⟩ := HA.out.open k hk2
      have hpd := HP.out
      rw [HD.out m' k hk2] at hpd
      have c0 := cell_later hbr (hc k hk2).1 (Nat.le_refl _)
      have c1 := cell_later hbr (hc k hk2).2 (Nat.le_refl _)
      have hfx := HF.out ls[k] (List.getElem_mem _)
      obtain ⟨x, hx⟩ : ∃ x, ls[k] = x := ⟨_, rfl⟩
      rw [hx] at c0 c1 hpd hfx
      have HP2 := Lib.hid hpd
      obtain ⟨bv, hbv⟩ : ∃ bv, (Lab.bs x.v).isEmpty = bv := ⟨_, rfl⟩
      have hv1 : x.v.toList.isEmpty = bv := by rw [← hbv, ByteArray.toList_eq]; rfl
      have hv0 : decide (x.v.toList = []) = bv := by rw [← hv1]; cases x.v.toList <;> rfl
      have hkey := Lab.key_of x.n hfx.1
      obtain ⟨D, hown, hM⟩ := hTr
      have hMS := hM.step x bv hbv
      have HMS := Lib.hid hMS
      have hbne : b < wr.heap.size := by omega
      have hown2 := hown.alloc (.cells #[.string x.n, .string x.v] 31)
      have hb2 := hbr.alloc hbr.size (.cells #[.string x.n, .string x.v] 31)
      have n1 : (0 : Int) ≤ (k : Int) := by omega
      have n2 : (k : Int) < (n : Int) := by omega
      clear hx hc hpd hMS hM hbv hown
      cases bv
      · go_wp2_with (at_mapUpdate; refine wpList_mapUpdate_own _ rfl _ _ _ 107 rfl 9 31 strLaw Tryz.underlying107 _ _ _ D rfl hown2 ?m1 _ _ _ rfl rfl hkey (Lab.dat x) [] (Lab.elem_mk x) ?_)
        case m1 => unfold maxLen; omega
        intro w3 hmap3 hg3
        have hb3 := hb2.grown hg3 hb2.size (fun j hj => by cases hj; exact hb)
        have hs3 := hg3.size
        simp only [World.size_alloc] at hs3
        go_wp2_with fail
        go_roundw
        case rel => exact ⟨k + 1, _, q + 1, by omega, by go_num, by omega, ⟨_, hmap3, HMS.out⟩, HP2, by omega, hb3⟩
        case measure => simp [intOf]; omega
      · go_wp2_with (at_delete; refine wpList_delete_own _ rfl _ _ 107 9 rfl 31 strLaw Tryz.underlying107 _ _ _ D rfl hown2 _ _ rfl hkey ?_)
        intro w3 hmap3 hg3
        have hg4 := hg3.grown
        have hb3 := hb2.grown hg4 hb2.size (fun j hj => by cases hj; exact hb)
        have hs3 := hg4.size
        simp only [World.size_alloc] at hs3
        clear hg4 hg3
        try go_frame
        go_wp2_with fail
        go_roundw
        case rel => exact ⟨k + 1, _, q, by omega, by go_num, by omega, ⟨_, hmap3, HMS.out⟩, HP2, by omega, hb3⟩
        case measure => simp [intOf]; omega
    · have hp := HP.out
      rw [List.drop_eq_nil_iff.2 (by rw [HN.out]; omega)] at hp
      have n2 : (n : Int) ≤ (k : Int) := by omega
      have HPe := Lib.hid hp
      clear hp
      go_wp2_with fail
      go_end0
      exact ⟨rfl, ⟨q, by omega, by rw [← HPe.out]; exact hTr⟩, hsz, hbr⟩

theorem Lab.len_le : ∀ (l m : List (List UInt8)), l.Nodup → (∀ y ∈ l, y ∈ m) → l.length ≤ m.length
  | [], _, _, _ => Nat.zero_le _
  | a :: l, m, hn, hs => by
    rw [List.nodup_cons] at hn
    have ha := hs a List.mem_cons_self
    have h := Lab.len_le l (m.erase a) hn.2 (fun y hy => (List.mem_erase_of_ne (by intro e; subst e; exact hn.1 hy)).2 (hs y (List.mem_cons_of_mem _ hy)))
    have h2 := List.length_erase_of_mem ha
    have h3 := List.length_pos_of_mem ha
    rw [List.length_cons]
    omega
theorem Lab.Met.len {D : DataW Unit} {m : List Lab.L} {left : Lit → Bool} {out : List Lab.L} (h : Lab.Met D m left out) : out.length ≤ m.length := by
  have := Lab.len_le (Lab.names out) (Lab.names m) h.nodup (fun y hy => by
    unfold Lab.names at hy ⊢
    rw [List.mem_map] at hy ⊢
    obtain ⟨z, hz, e⟩ := hy
    exact ⟨z, h.sub z hz, e⟩)
  simpa [Lab.names] using this

set_option maxHeartbeats 3200000 in
set_option maxRecDepth 100000 in
theorem labels_is (b nn : Nat) (m : List Lab.L) (r : List Lab.L) (hr : Lab.srt m = r) (w : World) (hmn : m.length ≤ 100000) (hbw : b < w.heap.size) (hT : Lab.Tab b nn m w) :
    Calls Tryz.prog 73 #[.map (some b)] w fun e w' => (∃ u, e = .returned u ∧ OwnLabels w.heap.size u r w') ∧ Below w.heap.size w w' := by
  obtain ⟨D, hown, hM⟩ := hT
  have HM := Lib.hid hM
  have HR := Lib.hid hr
  have HMN := Lib.hid hmn
  clear hM hr hmn
  go_enter Tryz.func73, Tryz.ntmps73
  go_wp2_with (at_range; refine wpList_range_own _ rfl _ 107 rfl 9 31 strLaw Tryz.underlying107 _ _ _ D rfl hown ?_)
  intro w1 hrg1 hg1 hs1
  have hb1 : Below w.heap.size w w1 := (Below.refl _ _).grown hg1 (Nat.le_refl _) (fun j hj => by cases hj)
  have hz1 : w.heap.size + 1 ≤ w1.heap.size := by omega
  clear hg1 hs1
  go_wp2_with fail
  go_loopw [3] (fun v wr => ∃ (left : Lit → Bool) (cnt : Nat) (out : List Lab.L), wr.ranges Tryz.prog 9 Lab.elem b w.heap.size nn D left cnt ∧ Lab.Met D m left out ∧ OwnLabels (w.heap.size + 1) v out wr ∧ w.heap.size + 1 ≤ wr.heap.size ∧ Below w.heap.size w wr) (fun _ wr => wr.rangeLeft b w.heap.size)
  case atStart => exact ⟨_, _, [], hrg1, Lab.Met.start HM.out, OwnLabels.nil _ _, hz1, hb1⟩
  case round =>
    obtain ⟨left, cnt, out, hrg, hmet, hol, hsz, hb⟩ := hrel
    have hlen : out.length ≤ 100000 := Nat.le_trans hmet.len HMN.out
    have HMET := Lib.hid hmet
    clear hmet
    go_wp2_with (at_next; refine wpList_next_ranges _ rfl _ rfl 9 strLaw Lab.elem Value.string (fun c : Lab.L => Value.agg #[.string c.n, .string c.v]) (fun key kl hkey => by obtain ⟨x, rfl, _⟩ := keyOf_string_inv Tryz.underlying9 hkey; exact ⟨x, rfl⟩) Lab.elem_inv b w.heap.size nn D left cnt rfl hrg ?_ ?_)
    · intro _ hl0
      have HP := Lib.hid (HMET.out.perm HM.out hl0)
      have HS := Lib.hid (sortA_is (w.heap.size + 1) _ out out.length wr rfl hol hsz hlen)
      clear hl0
      go_wp2_with (go_at_call 92; refine HS.out.mono ?_)
      first | rintro e w3 rfl d hpd has hod hb3 | rintro e w3 ⟨rfl, d, ⟨hpd, has⟩, hod, hb3⟩
      have hdr : d = r := by
        rw [← HR.out]
        exact Lab.srt_uniq (hpd.trans HP.out) (Lab.strict_of_asc has (((Lab.names_perm (hpd.trans HP.out)).nodup_iff).2 HM.out.nodup))
      rw [hdr] at hod
      clear hdr hpd has
      go_wp2_with fail
      go_ret
      exact ⟨⟨_, rfl, row_lift hod (by omega)⟩, hb.trans (hb3.mono (by omega))⟩
    · intro x c kl yd yp w2 cnt2 hkey hlk hv hat hrg2 hlt hg2 hs2 hen
      obtain ⟨x', ex, rfl, _⟩ := keyOf_string_inv Tryz.underlying9 hkey
      cases ex
      obtain ⟨rfl, rfl⟩ : yd = Lab.dat c ∧ yp = [] := by
        have e := Option.some.inj ((Lab.elem_mk c).symm.trans hv)
        simp only [Prod.mk.injEq] at e
        exact ⟨e.1.symm, e.2.symm⟩
      have HMET2 := Lib.hid (HMET.out.step HM.out (Lab.bs x) c hlk hat)
      have hol2 : OwnLabels (w.heap.size + 1) _ out w2 := World.ownsRow.kept hol hg2 (by
        rcases ho : u3.ownBlock with _ | j
        · exact .inl rfl
        · right
          have := (World.ownsRow.lt hol j ho).1
          intro e
          cases e
          omega)
      have hb2 : Below w.heap.size w w2 := hb.grown hg2 hb.size (fun j hj => by cases hj; exact Nat.le_refl _)
      have hz2 : w.heap.size + 1 ≤ w2.heap.size := by omega
      have hcnt : cnt2 < wr.rangeLeft b w.heap.size := by rw [hrg.left_eq]; exact hlt
      have HC := Lib.hid hcnt
      clear hs2 hkey hlk hat hrg hol hb hg2 hcnt hlt hv
      go_wp2_with (at_builtin; refine wpList_pushL 25 Tryz.underlying25 rfl _ _ rfl _ _ _ _ rfl (hol2.alloc _) c _ _ rfl _ rfl (by simp) ?c1 ?c2 ?_)
      case c1 => omega
      case c2 => simp; omega
      intro v6 w6 hown6 hg6
      have hz6 := hg6.size
      simp only [World.size_alloc] at hz6
      have hrg6 := ((hrg2.alloc (.cells #[.string c.n, .string c.v] 31)).alloc (.cells #[.string c.n, .string c.v] 31)).kept hg6 (by
        intro e
        have := (World.ownsRow.lt hol2 _ e.symm).1
        omega) (by
        intro e
        have := (World.ownsRow.lt hol2 _ e.symm).1
        omega)
      have hb6 : Below w.heap.size w w6 := ((hb2.alloc hb2.size _).alloc (hb2.alloc hb2.size _).size _).grown hg6 ((hb2.alloc hb2.size _).alloc (hb2.alloc hb2.size (.cells #[.string c.n, .string c.v] 31)).size (.cells #[.string c.n, .string c.v] 31)).size (fun j hj => by
        have := (World.ownsRow.lt hol2 j hj).1
        omega)
      have hm6 := hrg6.left_eq
      have HM6 := Lib.hid hm6
      clear hm6 hg6 hrg2 hen hol2
      go_wp2_with fail
      go_roundw
      case rel => exact ⟨_, _, _, hrg6, HMET2.out, hown6, by omega, hb6⟩
      case measure => rw [HM6.out]; exact HC.out
end Go.Proofs.YtbilaghljlobpaaGreat
