/- Laws on maps at the operations, over any program: a map literal's entries; a range's step with string keys and integer elements. Contracts for the examples: of, Key, keys (where all is right). Contracts for the examples: keys, First (where all is right), SameInts. -/
import Derived.Maps.RangeWalk
import Derived.Maps.OwnOps
import Derived.Maps.StringElems
import Derived.Test.YthnaninhbofeoaaGreatDoorCanC
import Derived.Test.YthnaninhbofeoaaGreatDoorCanR
import Derived.Maps.OwnSet
import Derived.WalkArith
namespace Go.Proofs.YthnaninhbofeoaaGreatDoor
open Go.RowKit Go.Maps

/-- an entry of a map literal -/
theorem wpList_insert_own {H : Type} {P : Program} (w : World) {ops : Array Oper} {rest : List Oper} {o : Oper} {a : Act} {Q : Exit → Act → World → Prop}
    (hg : o.guard = none) (m x v : Operand) (t : TypeId) (hop : o.op = Op.insert t m x v)
    (k e : TypeId) (K : Keyed P k) (ht : P.underlying t = some (.map k e)) (R : Value → Option (DataW H × List MemPlace)) (b n : Nat) (D : DataW H)
    (hm : a.eval m = .map (some b)) (hown : w.ownsMap P k R b n D) (hn : n < maxLen) (key val : Value) (kl : Lit) (hx : a.eval x = key) (hv : a.eval v = val) (hkey : keyOf P k key = some kl)
    (d : DataW H) (ps : List MemPlace) (hval : R val = some (d, ps))
    (hK : ∀ w', w'.ownsMap P k R b (n + 1) (D.put kl d) → w.grownBy w' (some b) → wpList P ops Q rest (a.put o.dst undef) w') :
    wpList P ops Q (o :: rest) a w := by
  refine wpList_plain hg fun K' hK' => ?_
  obtain ⟨w', hrun, r1, r2⟩ := hown.update K ht hn hkey hval
  unfold Oper.wp
  simp [execOp, hop, hm, hx, hv, hrun, Result.andThen]
  exact hK' _ _ (hK w' r1 r2)

/-- what reads as a key of a string's type is that string -/
theorem keyOf_string_inv {P : Program} {k : TypeId} (hk : P.underlying k = some .string) {key : Value} {kl : Lit} (h : keyOf P k key = some kl) : ∃ s : ByteArray, key = .string s ∧ kl = .string s.data.toList ∧ s.size ≤ maxLen := by
  obtain ⟨s, h1, h2, h3⟩ := WideMaps.string_of_keyOf hk h
  first
    | exact ⟨s, h1, h2, h3⟩
    | exact ⟨s, h1, h3, h2⟩

theorem wpList_next_ranges_si {H : Type} {P : Program} (w : World) {ops : Array Oper} {rest : List Oper} {o : Oper} {a : Act} {Q : Exit → Act → World → Prop}
    (hg : o.guard = none) (it : Operand) (hop : o.op = Op.next it false) (k e : TypeId) (qe : IntKind) (K : Keyed P k) (hk : P.underlying k = some .string) (he : P.underlying e = some (.int qe))
    (b r n : Nat) (D : DataW H) (left : Lit → Bool) (cnt : Nat) (hit : a.eval it = .pointer (some ⟨r, 0, none⟩)) (h : w.ranges P k (plainElem P e) b r n D left cnt)
    (hDone : cnt = 0 → (∀ kl, left kl = false) → wpList P ops Q rest (a.put o.dst (.tuple #[.bool false])) w)
    (hMore : ∀ (x : ByteArray) (c : Int) (w' : World) (cnt' : Nat), (∀ zd, D.atKey (.string x.data.toList) zd = .lit (.int qe c)) → w'.ranges P k (plainElem P e) b r n D (fun z => left z && !z.sameKey (.string x.data.toList)) cnt' → cnt' < cnt →
      w.grownBy w' (some r) → w'.heap.size = w.heap.size → (Instr.entry (.pointer (some ⟨r, 0, none⟩))).run P w' = .ok (.tuple #[.string x, .int qe c]) w' → wpList P ops Q rest (a.put o.dst (.tuple #[.bool true, .string x, .int qe c])) w') :
    wpList P ops Q (o :: rest) a w :=
  wpList_next_ranges w hg it hop k K (plainElem P e) Value.string (Value.int qe) (fun key kl hkey => by obtain ⟨x, rfl, _⟩ := keyOf_string_inv hk hkey; exact ⟨x, rfl⟩) (fun v y hv => by obtain ⟨c, rfl, _⟩ := plainElem_int_inv he hv; exact ⟨c, rfl⟩)
    b r n D left cnt hit h hDone (fun x c kl y w' cnt' hkey _ hv hat hrg hlt hgr hsz hen => by
      obtain ⟨x', ex, rfl, _⟩ := keyOf_string_inv hk hkey
      cases ex
      obtain ⟨c', ec, rfl, hwc⟩ := plainElem_int_inv he hv
      cases ec
      exact hMore x c w' cnt' hat hrg hlt hgr hsz hen)

theorem below_grown {w w' : World} (h : Below w.heap.size w w') : w.grownBy w' none := ⟨h.os, h.tape, h.output, h.size, fun i hi _ => h.block i hi⟩
theorem eq_of_bytes {x : ByteArray} {a : Array UInt8} (h : x.data.toList = a.toList) : x = ⟨a⟩ := ByteArray.ext (Array.toList_inj.1 h)

end Go.Proofs.YthnaninhbofeoaaGreatDoor
namespace Go.Proofs.YthnaninhbofeoaaGreatDoor
open Go.RowKit

theorem lit_texts (xs : List ByteArray) (C : Array Value) (hC : C = (xs.map Value.string).toArray) (W : World) (k : Nat) (hk : xs.length = k) (h2 : k ≤ 1000) :
    OwnTexts W.heap.size (.slice (some ⟨W.heap.size, 0, none⟩) k k) xs (W.alloc (.cells C 9)) := by
  subst hk
  subst hC
  refine ⟨by simp, .inr ⟨W.heap.size, xs.length, _, rfl, Nat.le_refl _, alloc_new _ _, Nat.le_refl _, by unfold maxLen; omega, by simp, ?_⟩⟩
  simp only [Nat.mul_one]
  rw [List.take_of_length_le (by simp)]

set_option maxHeartbeats 3200000 in
set_option maxRecDepth 100000 in
theorem of_is (B : Nat) (v : Value) (xs : List ByteArray) (M : Nat) (ls : List Lab.L) (w : World) (hv : OwnTexts B v xs w) (hM : xs.length = M) (he : M % 2 = 0) (h0 : 0 < M) (h1 : M ≤ 1000) (hls : Can.pairs (xs.map (·.data.toList)) = ls) :
    Calls Tryz.prog 15 #[v] w fun e w' => (∃ u, e = .returned u ∧ OwnLabels w.heap.size u ls w') ∧ Below w.heap.size w w' := by
  rcases hv.open with ⟨rfl, h⟩ | ⟨g, c, rfl, hg1, hlc, hc, hcells⟩
  · rw [h] at hM; simp at hM; omega
  have hc0 : ∀ (j : Nat) (hj : j < xs.length), w.cell? ⟨g, j, none⟩ = some (.string xs[j]) := fun j hj => hcells j _ (List.getElem?_eq_getElem hj)
  have HC := Lib.hid hc0
  have HP := Lib.hid (fun k h => Can.pairs_take xs k h)
  have HQ := Lib.hid ((Can.pairs_all xs (M / 2) (by omega) (by omega)).trans hls)
  have HXL := Lib.hid hM
  rw [hM] at hlc ⊢
  clear hv hcells hc0 hM hls
  go_enter Tryz.func15, Tryz.ntmps15
  go_wp2_with fail
  go_loopw [3, 4] (fun v i wr => ∃ k : Nat, k * 2 ≤ M ∧ i = .int .i64 ((k * 2 : Nat) : Int) ∧ OwnLabels w.heap.size v (Can.pairs ((xs.map (·.data.toList)).take (k * 2))) wr ∧ Below w.heap.size w wr) (fun _ i _ => M - (intOf i).toNat)
  case atStart => exact ⟨0, Nat.zero_le _, rfl, OwnLabels.nil _ _, Below.refl _ _⟩
  case round =>
    obtain ⟨k, hk, rfl, hown, hb⟩ := hrel
    have hsz := hb.size
    by_cases hlt : k * 2 < M
    · have j1 : k * 2 < xs.length := by have := HXL.out; omega
      have j2 : k * 2 + 1 < xs.length := by have := HXL.out; omega
      have HT := Lib.hid (HP.out k j2)
      have d0 := (hb.cell (p := ⟨g, k * 2, none⟩) hg1).trans (HC.out _ j1)
      have d1 := (hb.cell (p := ⟨g, k * 2 + 1, none⟩) hg1).trans (HC.out _ j2)
      obtain ⟨a, ha⟩ : ∃ a, xs[k * 2] = a := ⟨_, rfl⟩
      obtain ⟨b, hb'⟩ : ∃ b, xs[k * 2 + 1] = b := ⟨_, rfl⟩
      rw [ha] at d0 HT
      rw [hb'] at d1 HT
      have hlk : (Can.pairs ((xs.map (·.data.toList)).take (k * 2))).length ≤ 1000 := by rw [Can.pairs_length, List.length_take]; omega
      obtain ⟨l0, hl0⟩ : ∃ l0, Can.pairs ((xs.map (·.data.toList)).take (k * 2)) = l0 := ⟨_, rfl⟩
      rw [hl0] at hlk HT hown
      have n1 : (0 : Int) ≤ ((k * 2 : Nat) : Int) := by omega
      have n2 : ((k * 2 : Nat) : Int) < (M : Int) := by omega
      have n3 : ((k * 2 : Nat) : Int) + 1 < (M : Int) := by omega
      obtain ⟨K, hK⟩ : ∃ K, k * 2 = K := ⟨_, rfl⟩
      have n4 : IntKind.i64.wrap ((K : Int) + 1) = (K : Int) + 1 := by rw [IntKind.wrap_i64]; omega
      have n5 : ((K : Int) + 1).toNat = K + 1 := by omega
      have n6 : (0 : Int) ≤ (K : Int) + 1 := by omega
      have hlg := World.block_lt_of_cell? _ _ d0
      rw [hK] at d0 d1 n1 n2 n3 hlt ⊢
      clear hl0 ha hb'
      go_wp2_with fail
      go_region_held3 (fun w' => w'.cell? ⟨g, K, none⟩ = some (.string a) ∧ w'.cell? ⟨g, K + 1, none⟩ = some (.string b))
        (first
          | go_keep
          | (go_split_ands
             refine ⟨?_, ?_⟩
             · (rw [hgrow.cell_far _ (by simp; omega) (fun e => by have : w.heap.size ≤ g := (World.ownsRow.lt hown _ e.symm).1; omega)]; assumption)
             · (rw [hgrow.cell_far _ (by simp; omega) (fun e => by have : w.heap.size ≤ g := (World.ownsRow.lt hown _ e.symm).1; omega)]; assumption)))
        ((refine step_pushL 35 Tryz.underlying35 (by rfl) _ _ (by rfl) w.heap.size _ l0 (by rfl) (hown.alloc _) ⟨a, b⟩ wr.heap.size 1 (by rfl) (heap_alloc_new wr _) (by omega) (by simp; omega) ?_; intro g2 cap2 w4 hown4 hgrow))
      have hb4 : Below w.heap.size w w4 := ((hb.alloc hsz _).drew).grown hgrow (by simp; omega) (fun j hj => (World.ownsRow.lt hown j hj).1)
      go_wp2_with fail
      go_roundw
      case rel => exact ⟨k + 1, by omega, by go_num, by rw [HT.out]; first | exact hown4 | (unfold OwnLabels; rw [List.length_append]; exact hown4), hb4⟩
      case measure => simp [intOf]; omega
    · have hkM : k = M / 2 := by omega
      rw [hkM, HQ.out] at hown
      obtain ⟨K, hK⟩ : ∃ K, k * 2 = K := ⟨_, rfl⟩
      rw [hK] at hlt hk ⊢
      have m1 : (M : Int) ≤ (K : Int) := by omega
      have m2 : (K : Int) ≤ (M : Int) := by omega
      clear hkM hK hlt hk
      go_wp2_with fail
      go_ret
      exact ⟨⟨_, rfl, hown⟩, hb⟩

set_option maxHeartbeats 1600000 in
set_option maxRecDepth 100000 in
theorem ckey_ok (job : ByteArray) (p : Option Addr) (ls : List Lab.L) (n c : Nat) (r k : List UInt8) (hj : Can.job job.data.toList = true) (hr : Can.bytes ls = (r, 0)) (hk : Lab.bs job ++ [254] ++ r = k) (w : World) (hn : ls.length = n) (hA : Lab.At p ls w) (hF : Lab.Fit 1100 ls) (hl : n ≤ 70) (hjs : job.size ≤ 1000000) :
    Calls Tryz.prog 21 #[.agg #[.string job, .slice p n c]] w fun e w' => e = .returned (.tuple #[.string ⟨k.toArray⟩, .int .i64 0]) ∧ Below w.heap.size w w' := by
  have HJ := Lib.hid (fun w => cjob_is job true hj w (by unfold maxLen; omega))
  have HB := Lib.hid (fun w hA => cbytes_is p ls n c r 0 hr w hn hA (fun x hx => by have := hF x hx; omega) (by unfold maxLen; omega))
  have hbl : (Lab.bs job ++ [254]).length ≤ 1000001 := by
    have : (Lab.bs job).length = job.size := by simp [Lab.bs]
    rw [List.length_append]; simp; omega
  have HP := Lib.hid (fun (W : World) => pieces_is ⟨#[254]⟩ W.heap.size (.slice (some ⟨W.heap.size, 0, none⟩) 1 1) [job] (W.alloc (.cells #[.string job] 9)) (lit_texts [job] _ rfl W 1 rfl (by omega)) (Lab.bs job ++ [254]) (by simp [Lab.bs]) (by omega) (by simp))
  obtain ⟨X, hX⟩ : ∃ X, ByteArray.mk (Lab.bs job ++ [254]).toArray = X := ⟨_, rfl⟩
  obtain ⟨Y, hY⟩ : ∃ Y, ByteArray.mk r.toArray = Y := ⟨_, rfl⟩
  have hXY : Hid (X ++ Y = ⟨k.toArray⟩) := by
    show X ++ Y = ⟨k.toArray⟩
    rw [← hX, ← hY, mk_append, ← hk]
    rfl
  have hrl : r.length ≤ 1000000 := by
    have := Can.raw_length ls 1100 hF
    have h2 : (Can.bytes ls).1.length ≤ 1000000 := by
      unfold Can.bytes
      split
      · exact Nat.le_trans this (Nat.le_trans (Nat.mul_le_mul_right _ (by omega : ls.length ≤ 70)) (by decide))
      · simp
    rw [hr] at h2; exact h2
  have hXs : (X.size : Int) + (Y.size : Int) ≤ 3000000 := by
    have e1 : X.size = (Lab.bs job ++ [254]).length := by rw [← hX]; simp [ByteArray.size]
    have e2 : Y.size = r.length := by rw [← hY]; simp [ByteArray.size]
    omega
  have hXs2 : X.size + Y.size ≤ 3000000 := by omega
  rw [hX] at HP
  rw [hY] at HB
  clear hX hY hk hr hj hbl hrl hF hn
  go_enter Tryz.func21, Tryz.ntmps21
  go_wp2_with (go_at_call 47; refine (HJ.out _).mono ?_)
  try rintro e w1 ⟨rfl, rfl⟩
  go_wp2_with (go_at_call 19; refine (HB.out _ (hA.alloc _)).mono ?_)
  first | rintro e w2 rfl hb2 | rintro e w2 ⟨rfl, hb2⟩
  have k2 := below_kept hb2 (alloc_new w _) (by simp)
  have hs2 := hb2.size
  simp only [World.size_alloc] at hs2
  have c0 : w2.cell? ⟨w.heap.size, 0, none⟩ = some (.string job) := by rw [Lib.cell_of_heap k2]; rfl
  have hB : Below w.heap.size w w2 := ((Below.refl _ _).alloc (Nat.le_refl _) _).trans (hb2.mono (by simp))
  go_wp2_with (go_at_call 53; refine (HP.out _).mono ?_)
  first | rintro e w3 rfl hb3 | rintro e w3 ⟨rfl, hb3⟩
  have hB3 : Below w.heap.size w w3 := (hB.alloc hB.size _).trans (hb3.mono (by simp; omega))
  go_wp2_with fail
  go_ret2
  exact ⟨by rw [← hXY.out]; rfl, hB3⟩
end Go.Proofs.YthnaninhbofeoaaGreatDoor
namespace Go.Proofs.YthnaninhbofeoaaGreatDoor
open Go.RowKit

/-- a target as it lies in memory: its job, its labels' slice, the labels -/
structure Can.T where
  job : ByteArray
  p : Option Addr
  n : Nat
  c : Nat
  ls : List Lab.L
def Can.TAt (b o : Nat) (ts : List Can.T) (w : World) : Prop :=
  ∀ i (h : i < ts.length), w.cell? ⟨b, o + i * 2, none⟩ = some (.string ts[i].job) ∧ w.cell? ⟨b, o + i * 2 + 1, none⟩ = some (.slice ts[i].p ts[i].n ts[i].c) ∧ Lab.At ts[i].p ts[i].ls w
/-- a target that is right, with its key -/
def Can.TOk (t : Can.T) (k : ByteArray) : Prop :=
  t.ls.length = t.n ∧ t.n ≤ 70 ∧ Lab.Fit 1100 t.ls ∧ t.job.size ≤ 1000000 ∧ Can.job t.job.data.toList = true ∧ ∃ r, Can.bytes t.ls = (r, 0) ∧ ByteArray.mk (Lab.bs t.job ++ [254] ++ r).toArray = k

set_option maxHeartbeats 1600000 in
set_option maxRecDepth 100000 in
theorem keys_ok (b o c : Nat) (ts : List Can.T) (ks : List ByteArray) (n : Nat) (w : World) (hb0 : b < w.heap.size) (hn : ts.length = n) (hk : ks.length = n) (hT : Can.TAt b o ts w) (hok : ∀ i (h1 : i < ts.length) (h2 : i < ks.length), Can.TOk ts[i] ks[i]) (hl : n ≤ 1000) :
    Calls Tryz.prog 33 #[.slice (some ⟨b, o, none⟩) n c] w fun e w' => (∃ v, e = .returned (.tuple #[v, .int .i64 0]) ∧ OwnTexts w.heap.size v ks w') ∧ Below w.heap.size w w' := by
  have HN := Lib.hid hn
  have HK := Lib.hid hk
  have HO := Lib.hid hok
  have HT := Lib.hid hT
  clear hn hk hok hT
  go_enter Tryz.func33, Tryz.ntmps33
  go_wp2_with fail
  go_loopw [4, 11] (fun v i wr => ∃ k : Nat, k ≤ n ∧ i = .int .i64 k ∧ OwnTexts w.heap.size v (ks.take k) wr ∧ Below w.heap.size w wr) (fun _ i _ => n - (intOf i).toNat)
  case atStart => exact ⟨0, Nat.zero_le _, rfl, OwnTexts.nil _ _, Below.refl _ _⟩
  case round =>
    obtain ⟨k, hk, rfl, hown, hb⟩ := hrel
    have hsz := hb.size
    by_cases hlt : k < n
    · have hk1 : k < ts.length := by rw [HN.out]; exact hlt
      have hk2 : k < ks.length := by rw [HK.out]; exact hlt
      obtain ⟨h0, h1, h2⟩ := HT.out k hk1
      obtain ⟨g1, g2, g3, g4, g5, r, g6, g7⟩ := HO.out k hk1 hk2
      obtain ⟨t, ht⟩ : ∃ t, ts[k] = t := ⟨_, rfl⟩
      obtain ⟨y, hy⟩ : ∃ y, ks[k] = y := ⟨_, rfl⟩
      rw [ht] at h0 h1 h2 g1 g2 g3 g4 g5 g6 g7
      rw [hy] at g7
      have d0 := (hb.cell (p := ⟨b, o + k * 2, none⟩) hb0).trans h0
      have d1 := (hb.cell (p := ⟨b, o + k * 2 + 1, none⟩) hb0).trans h1
      have hA := h2.below hb (Nat.le_refl _)
      have hbr : b < wr.heap.size := by omega
      have HC := Lib.hid (fun W hA => ckey_ok t.job t.p t.ls t.n t.c r _ g5 g6 rfl W g1 hA g3 g2 g4)
      rw [g7] at HC
      have HX : Hid (ks.take (k + 1) = ks.take k ++ [y]) := by
        show ks.take (k + 1) = ks.take k ++ [y]
        rw [List.take_add_one, List.getElem?_eq_getElem hk2, hy]; rfl
      have hlk : (ks.take k).length ≤ 1000 := by rw [List.length_take]; omega
      obtain ⟨l0, hl0⟩ : ∃ l0, ks.take k = l0 := ⟨_, rfl⟩
      rw [hl0] at hown HX hlk
      obtain ⟨tj, tp, tn, tc, tl⟩ := t
      dsimp only at d0 d1 hA HC
      clear ht hy h0 h1 h2 g1 g2 g3 g4 g5 g6 g7 hl0
      go_wp2_with (go_at_call 21; refine (HC.out _ (hA.alloc _)).mono ?_)
      first | rintro e w2 rfl hb2 | rintro e w2 ⟨rfl, hb2⟩
      have hb3 : Below w.heap.size w w2 := (hb.alloc hsz _).trans (hb2.mono (by simp; omega))
      have hown2 := (hown.alloc (.cells #[.string tj, .slice tp tn tc] 37)).below hb2 (Nat.le_refl _)
      go_wp2_with (at_builtin; refine wpList_pushT rfl _ _ rfl _ _ _ _ rfl hown2 [y] _ _ rfl _ rfl (by simp) ?c1 ?c2 ?_)
      case c1 => simp only [List.length_cons, List.length_nil]; omega
      case c2 => exact hb3.size
      intro v' w4 hown' hg
      have hb4 := below_push _ hb3 hown2 hg
      go_wp2_with fail
      go_roundw
      case rel => exact ⟨k + 1, by omega, by go_num, by rw [HX.out]; exact hown', hb4⟩
      case measure => simp [intOf]; omega
    · have hk2 : ks.take k = ks := List.take_of_length_le (by rw [HK.out]; omega)
      rw [hk2] at hown
      clear hk2
      go_wp2_with fail
      go_ret2
      exact ⟨⟨_, rfl, hown⟩, hb⟩

theorem strLaw : Maps.Keyed Tryz.prog 9 := Maps.string_keyed Tryz.underlying9
/-- what First has behind k keys: the map, the indexes, how often the map was written -/
def Can.seen (ks : List ByteArray) : Nat → DataW Unit × List Int × Nat
  | 0 => (.map [], [], 0)
  | k + 1 => match ks[k]? with
    | none => Can.seen ks k
    | some x => if Maps.has (Can.seen ks k).1 (.string x.data.toList) = true then Can.seen ks k else ((Can.seen ks k).1.put (.string x.data.toList) (.lit (.int .i64 k)), (Can.seen ks k).2.1 ++ [(k : Int)], (Can.seen ks k).2.2 + 1)
def OwnInts (B : Nat) (v : Value) (l : List Int) (w : World) : Prop := w.ownsRow B 3 1 v l.length (l.map (Value.int .i64))
theorem infoInt : (Tryz.prog.info? 3).map (fun i => (i.zero, i.size, i.bytes)) = some (some (.int .i64 0), 1, 8) := by kernel_rfl
theorem Can.seen_len (ks : List ByteArray) (k : Nat) : (Can.seen ks k).2.1.length ≤ k ∧ (Can.seen ks k).2.2 ≤ k := by
  induction k with
  | zero => exact ⟨Nat.le_refl _, Nat.le_refl _⟩
  | succ k ih =>
    unfold Can.seen
    split
    · omega
    · split
      · omega
      · simp only [List.length_append, List.length_cons, List.length_nil]; omega

set_option maxHeartbeats 3200000 in
set_option maxRecDepth 100000 in
theorem first_ok (b o c : Nat) (ts : List Can.T) (ks : List ByteArray) (n : Nat) (w : World) (hb0 : b < w.heap.size) (hn : ts.length = n) (hk : ks.length = n) (hT : Can.TAt b o ts w) (hok : ∀ i (h1 : i < ts.length) (h2 : i < ks.length), Can.TOk ts[i] ks[i]) (hl : n ≤ 1000)
    (hsz0 : ∀ x ∈ ks, x.size ≤ 1000000) (out : List Int) (hout : (Can.seen ks n).2.1 = out) :
    Calls Tryz.prog 23 #[.slice (some ⟨b, o, none⟩) n c] w fun e w' => (∃ v, e = .returned (.tuple #[v, .int .i64 0]) ∧ OwnInts w.heap.size v out w') ∧ Below w.heap.size w w' := by
  obtain ⟨i0, hi, hz0, hz1, hz2⟩ := info_parts infoInt
  have HI := Lib.hid hi
  have HK := Lib.hid (keys_ok b o c ts ks n w hb0 hn hk hT hok hl)
  have HN := Lib.hid hk
  have HU := Lib.hid hout
  clear hi hn hk hT hok hout
  go_enter Tryz.func23, Tryz.ntmps23
  go_wp2_with (go_at_call 33; refine HK.out.mono ?_)
  first | rintro e w1 v rfl hv hb1 | rintro e w1 ⟨⟨v, rfl, hv⟩, hb1⟩
  have hs1 := hb1.size
  have hmm := @run_makeMap Tryz.prog
  rcases hv.open with ⟨rfl, he⟩ | ⟨g, cc, rfl, hg, hlc, _, hcells⟩
  case' inl =>
    obtain rfl : n = 0 := by have := HN.out; rw [he] at this; simpa using this.symm
  case' inr =>
    rw [HN.out] at hlc ⊢
    have HC := Lib.hid hcells
    clear hcells
  case inl =>
    have hmade := World.ownsMap_made (H := Unit) w1 Tryz.prog 9 (plainElem Tryz.prog 3)
    go_wp2_with fail
    go_loopw [7, 23] (fun u i wr => i = .int .i64 0 ∧ OwnInts w.heap.size u [] wr ∧ Below w.heap.size w wr) (fun _ i _ => 0)
    case atStart => exact ⟨rfl, World.ownsRow_nil _ _ _ _, hb1.alloc hs1 _⟩
    case round =>
      obtain ⟨rfl, hown, hb⟩ := hrel
      go_wp2_with fail
      go_ret2
      exact ⟨⟨_, rfl, by rw [← HU.out]; exact hown⟩, hb⟩
  case inr =>
    have hmade := World.ownsMap_made (H := Unit) w1 Tryz.prog 9 (plainElem Tryz.prog 3)
    have hg2 : g < w1.heap.size := hg
    obtain ⟨w2, hw2⟩ : ∃ w2, w1.alloc (.map #[] 0) = w2 := ⟨_, rfl⟩
    have hb2 : Below w1.heap.size w1 w2 := by rw [← hw2]; exact (Below.refl _ _).alloc (Nat.le_refl _) _
    have hw2s : w2.heap.size = w1.heap.size + 1 := by rw [← hw2]; simp
    rw [hw2] at hmade
    have hmadeH := Lib.hid hmade
    clear hmade
    go_wp2_with fail
    try rw [hw2]
    clear hw2
    go_loopw [7, 23] (fun u i wr => ∃ k : Nat, k ≤ n ∧ i = .int .i64 k ∧ OwnInts w2.heap.size u (Can.seen ks k).2.1 wr ∧ wr.ownsMap Tryz.prog 9 (plainElem Tryz.prog 3) w1.heap.size (Can.seen ks k).2.2 (Can.seen ks k).1 ∧ w2.heap.size ≤ wr.heap.size ∧ Below w1.heap.size w1 wr) (fun _ i _ => n - (intOf i).toNat)
    case atStart => exact ⟨0, Nat.zero_le _, rfl, World.ownsRow_nil _ _ _ _, hmadeH.out, Nat.le_refl _, hb2⟩
    case round =>
      obtain ⟨k, hk, rfl, hown, hmap, hsz, hb⟩ := hrel
      by_cases hlt : k < n
      · have hk2 : k < ks.length := by rw [HN.out]; exact hlt
        obtain ⟨x, hx⟩ : ∃ x, ks[k] = x := ⟨_, rfl⟩
        have c0 := (hb.cell (p := ⟨g, k, none⟩) hg2).trans (HC.out k x (by rw [List.getElem?_eq_getElem hk2, hx]))
        have hxs := hsz0 x (by rw [← hx]; exact List.getElem_mem _)
        have hkey := WideMaps.keyOf_string_mk (s := x) Tryz.underlying9 (by unfold maxLen; omega)
        have hsl := Can.seen_len ks k
        have hsn : Can.seen ks (k + 1) = if Maps.has (Can.seen ks k).1 (.string x.data.toList) = true then Can.seen ks k else ((Can.seen ks k).1.put (.string x.data.toList) (.lit (.int .i64 k)), (Can.seen ks k).2.1 ++ [(k : Int)], (Can.seen ks k).2.2 + 1) := by
          conv => lhs; unfold Can.seen
          rw [List.getElem?_eq_getElem hk2, hx]
        obtain ⟨⟨D, ol, m⟩, hq⟩ : ∃ q, Can.seen ks k = q := ⟨_, rfl⟩
        rw [hq] at hown hmap hsl hsn
        dsimp only at hown hmap hsl hsn
        obtain ⟨bq, hbq⟩ : ∃ bq, Maps.has D (.string x.data.toList) = bq := ⟨_, rfl⟩
        rw [hbq] at hsn
        have HS := Lib.hid hsn
        have HB := Lib.hid hbq
        have hzero : ∀ W, (zeroValue 3).run Tryz.prog W = .ok (.int .i64 0) W := fun W => Tryz.zeroValue3 W
        have hwf : (Lit.int .i64 (k : Int)).wf = true := WalkArith.wf_i64 (by omega)
        clear hsn hbq hq hx
        go_wp2_with (at_lookup; refine wpList_lookup_own_ok_int _ rfl _ _ 114 rfl 9 3 .i64 strLaw Tryz.underlying114 Tryz.underlying3 (hzero _) _ _ D rfl hmap _ _ rfl hkey ?_)
        intro cv hat hwc
        rw [HB.out]
        clear hat hwc
        cases bq
        · rw [if_neg (by simp)] at HS
          go_wp2_with (at_mapUpdate; refine wpList_mapUpdate_own _ rfl _ _ _ 114 rfl 9 3 strLaw Tryz.underlying114 _ _ _ D rfl hmap ?m1 _ _ _ rfl rfl hkey (.lit (.int .i64 (k : Int))) [] (plainElem_int Tryz.underlying3 hwf) ?_)
          case m1 => unfold maxLen; omega
          intro w3 hmap3 hg3
          have hs3 := hg3.size
          have hb3 : Below w1.heap.size w1 w3 := hb.grown hg3 (by omega) (fun j hj => by cases hj; exact Nat.le_refl _)
          have hown3 : OwnInts w2.heap.size u7 ol w3 := World.ownsRow.kept hown hg3 (by
            rcases ho : u7.ownBlock with _ | j
            · exact .inl rfl
            · right
              have := (World.ownsRow.lt hown j ho).1
              intro e; cases e; omega)
          have hown4 := World.ownsRow.alloc hown3 (.cells #[.int .i64 (k : Int)] 3)
          go_wp2_with (at_builtin; refine wpList_append_own _ rfl _ _ 49 rfl w2.heap.size 3 i0 _ 1 8 Tryz.underlying49 HI.out hz0 hz1 hz2 rfl (by decide) _ ol.length _ rfl hown4 ⟨w3.heap.size, 0, none⟩ 1 1 [.int .i64 (k : Int)] rfl rfl ?n1 ?n2 ?n3 ?n4 ?n5 ?_)
          case n1 =>
            intro j u hj
            match j, hj with
            | 0, hj => simp at hj; subst hj; rw [addr0]; simp
          case n2 => intro u hu; simp at hu; subst hu; rfl
          case n3 => unfold maxLen; omega
          case n4 => omega
          case n5 => simp; omega
          intro v' w5 hown5 hg5 _
          have hmap5 := (hmap3.alloc (.cells #[.int .i64 (k : Int)] 3)).kept hg5 (by
            intro e
            have := (World.ownsRow.lt hown3 _ e.symm).1
            omega)
          have hb5 : Below w1.heap.size w1 w5 := (hb3.alloc (by omega) _).grown hg5 (by simp; omega) (fun j hj => by have := (World.ownsRow.lt hown3 j hj).1; omega)
          have hs5 := hg5.size
          simp only [World.size_alloc] at hs5
          go_wp2_with fail
          go_roundw
          case rel =>
            refine ⟨k + 1, by omega, by go_num, ?_, ?_, by omega, hb5⟩
            · rw [HS.out]
              show World.ownsRow _ _ _ _ _ (ol ++ [(k : Int)]).length ((ol ++ [(k : Int)]).map (Value.int .i64))
              rw [List.length_append, List.map_append]
              first | exact hown5 | (rw [hw2s]; exact hown5)
            · rw [HS.out]; exact hmap5
          case measure => simp [intOf]; omega
        · rw [if_pos rfl] at HS
          go_wp2_with fail
          go_roundw
          case rel => exact ⟨k + 1, by omega, by go_num, by rw [HS.out]; exact hown, by rw [HS.out]; exact hmap, hsz, hb⟩
          case measure => simp [intOf]; omega
      · obtain rfl : k = n := by omega
        rw [HU.out] at hown
        go_wp2_with fail
        go_ret2
        exact ⟨⟨_, rfl, row_lift hown (by omega)⟩, hb1.trans (hb.mono hs1)⟩

set_option maxHeartbeats 800000 in
theorem sameints_true (B1 B2 : Nat) (v1 v2 : Value) (l : List Int) (w : World) (h1 : OwnInts B1 v1 l w) (h2 : OwnInts B2 v2 l w) (hl : l.length ≤ 1000) :
    Calls Tryz.prog 30 #[v1, v2] w fun e w' => e = .returned (.bool true) ∧ ∃ k, w' = w.drewN k := by
  have open_ : ∀ (B : Nat) (v : Value), OwnInts B v l w → ∃ p c, v = .slice p l.length c ∧ ∀ k (hk : k < l.length), ∃ g, p = some ⟨g, 0, none⟩ ∧ w.cell? ⟨g, k, none⟩ = some (.int .i64 l[k]) := by
    intro B v h
    rcases h with ⟨_, ⟨rfl, h0⟩ | ⟨g, cap, cur, rfl, hg, hh, hn, hc, hcs, ht⟩⟩
    · exact ⟨none, 0, by rw [h0], fun k hk => by omega⟩
    · refine ⟨_, cap, rfl, fun k hk => ⟨g, rfl, ?_⟩⟩
      rw [Lib.cell_of_heap hh, ← Array.getElem?_toList]
      have e : (l.map (Value.int .i64))[k]? = some (.int .i64 l[k]) := by rw [List.getElem?_map, List.getElem?_eq_getElem hk]; rfl
      rw [← ht, List.getElem?_take] at e
      split at e
      · exact e
      · simp at e
  obtain ⟨p1, c1, rfl, H1⟩ := open_ _ _ h1
  obtain ⟨p2, c2, rfl, H2⟩ := open_ _ _ h2
  have HA := Lib.hid H1
  have HB := Lib.hid H2
  obtain ⟨n, hn⟩ : ∃ n, l.length = n := ⟨_, rfl⟩
  have HN := Lib.hid hn
  rw [hn] at hl ⊢
  have q0 : ((n : Int) != (n : Int)) = false := by simp
  clear H1 H2 h1 h2 open_ hn
  go_enter Tryz.func30, Tryz.ntmps30
  go_wp2_with fail
  go_loopw [5] (fun i wr => ∃ k : Nat, k ≤ n ∧ i = .int .i64 k ∧ ∃ m, wr = w.drewN m) (fun i _ => n - (intOf i).toNat)
  case atStart => exact ⟨0, Nat.zero_le _, rfl, 0, rfl⟩
  case round =>
    obtain ⟨k, hk, rfl, m, rfl⟩ := hrel
    by_cases hlt : k < n
    · have hkl : k < l.length := by rw [HN.out]; exact hlt
      obtain ⟨g1, rfl, d1⟩ := HA.out k hkl
      obtain ⟨g2, rfl, d2⟩ := HB.out k hkl
      obtain ⟨z, hz⟩ : ∃ z, l[k] = z := ⟨_, rfl⟩
      rw [hz] at d1 d2
      have q1 : (z != z) = false := by simp
      clear hz
      go_wp2_with fail
      go_quiet (fail)
      go_wp2_with fail
      go_roundw
      case rel => exact ⟨k + 1, by omega, by go_num, _, rfl⟩
      case measure => simp [intOf]; omega
    · go_wp2_with fail
      go_ret
      exact ⟨rfl, m, rfl⟩
end Go.Proofs.YthnaninhbofeoaaGreatDoor
