/- Laws on maps at the operations, over any program: a map literal's entries; a range's step with string keys and integer elements. Contracts for the examples: of, Key, keys (where all is right). Contracts for the examples: keys, First (where all is right), SameInts. -/
import Derived.Maps.RangeWalk
import Derived.Maps.OwnOps
import Derived.Maps.StringElems
import Derived.Test.YtpnpgjjbincigaaCanC
import Derived.Test.YtpnpgjjbincigaaCanR
import Derived.Maps.OwnSet
import Derived.WalkArith
namespace Go.Proofs.Ytpnpgjjbincigaa
open Go.RowKit Go.Maps

/-- an entry of a map literal -/
theorem wpList_insert_own {H : Type} {P : Program} (w : World) {ops : Array Oper} {rest : List Oper} {o : Oper} {a : Act} {Q : Exit → Act → World → Prop}
    (hg : o.guard = none) (m x v : Operand) (t : TypeId) (hop : o.op = Op.insert t m x v)
    (k e : TypeId) (K : Keyed P k) (ht : P.underlying t = some (.map k e)) (R : Value → Option (DataW H × List MemPlace)) (b n : Nat) (D : DataW H)
    (hm : a.eval m = .map (some b)) (hown : w.ownsMap P k R b n D) (hn : n < maxLen) (key val : Value) (kl : Lit) (hx : a.eval x = key) (hv : a.eval v = val) (hkey : keyOf P k key = some kl)
    (d : DataW H) (ps : List MemPlace) (hval : R val = some (d, ps))
    (hK : ∀ w', w'.ownsMap P k R b (n + 1) (D.put kl d) → w.grownBy w' (some b) → wpList P ops Q rest (a.put o.dst undef) w') :
    wpList P ops Q (o :: rest) a w := by
  refine wpList_plain hg fun K' hK' => ?_
  obtain ⟨w', hrun, r1, r2⟩ := hown.update K ht hn hkey hval
  unfold Oper.wp
  simp [execOp, hop, hm, hx, hv, hrun, Result.andThen]
  exact hK' _ _ (hK w' r1 r2)

/-- what reads as a key of a string's type is that string -/
theorem keyOf_string_inv {P : Program} {k : TypeId} (hk : P.underlying k = some .string) {key : Value} {kl : Lit} (h : keyOf P k key = some kl) : ∃ s : ByteArray, key = .string s ∧ kl = .string s.data.toList ∧ s.size ≤ maxLen := by
  obtain ⟨s, h1, h2, h3⟩ := WideMaps.string_of_keyOf hk h
  first
    | exact ⟨s, h1, h2, h3⟩
    | exact ⟨s, h1, h3, h2⟩

theorem wpList_next_ranges_si {H : Type} {P : Program} (w : World) {ops : Array Oper} {rest : List Oper} {o : Oper} {a : Act} {Q : Exit → Act → World → Prop}
    (hg : o.guard = none) (it : Operand) (hop : o.op = Op.next it false) (k e : TypeId) (qe : IntKind) (K : Keyed P k) (hk : P.underlying k = some .string) (he : P.underlying e = some (.int qe))
    (b r n : Nat) (D : DataW H) (left : Lit → Bool) (cnt : Nat) (hit : a.eval it = .pointer (some ⟨r, 0, none⟩)) (h : w.ranges P k (plainElem P e) b r n D left cnt)
    (hDone : cnt = 0 → (∀ kl, left kl = false) → wpList P ops Q rest (a.put o.dst (.tuple #[.bool false])) w)
    (hMore : ∀ (x : ByteArray) (c : Int) (w' : World) (cnt' : Nat), (∀ zd, D.atKey (.string x.data.toList) zd = .lit (.int qe c)) → w'.ranges P k (plainElem P e) b r n D (fun z => left z && !z.sameKey (.string x.data.toList)) cnt' → cnt' < cnt →
      w.grownBy w' (some r) → w'.heap.size = w.heap.size → (Instr.entry (.pointer (some ⟨r, 0, none⟩))).run P w' = .ok (.tuple #[.string x, .int qe c]) w' → wpList P ops Q rest (a.put o.dst (.tuple #[.bool true, .string x, .int qe c])) w') :
    wpList P ops Q (o :: rest) a w :=
  wpList_next_ranges w hg it hop k K (plainElem P e) Value.string (Value.int qe) (fun key kl hkey => by obtain ⟨x, rfl, _⟩ := keyOf_string_inv hk hkey; exact ⟨x, rfl⟩) (fun v y hv => by obtain ⟨c, rfl, _⟩ := plainElem_int_inv he hv; exact ⟨c, rfl⟩)
    b r n D left cnt hit h hDone (fun x c kl y w' cnt' hkey _ hv hat hrg hlt hgr hsz hen => by
      obtain ⟨x', ex, rfl, _⟩ := keyOf_string_inv hk hkey
      cases ex
      obtain ⟨c', ec, rfl, hwc⟩ := plainElem_int_inv he hv
      cases ec
      exact hMore x c w' cnt' hat hrg hlt hgr hsz hen)

theorem below_grown {w w' : World} (h : Below w.heap.size w w') : w.grownBy w' none := ⟨h.os, h.tape, h.output, h.size, fun i hi _ => h.block i hi⟩
theorem eq_of_bytes {x : ByteArray} {a : Array UInt8} (h : x.data.toList = a.toList) : x = ⟨a⟩ := ByteArray.ext (Array.toList_inj.1 h)

end Go.Proofs.Ytpnpgjjbincigaa
namespace Go.Proofs.Ytpnpgjjbincigaa
open Go.RowKit

theorem lit_texts (xs : List ByteArray) (C : Array Value) (hC : C = (xs.map Value.string).toArray) (W : World) (k : Nat) (hk : xs.length = k) (h2 : k ≤ 1000) :
    OwnTexts W.heap.size (.slice (some ⟨W.heap.size, 0, none⟩) k k) xs (W.alloc (.cells C 9)) := by
  subst hk
  subst hC
  refine ⟨by simp, .inr ⟨W.heap.size, xs.length, _, rfl, Nat.le_refl _, alloc_new _ _, Nat.le_refl _, by unfold maxLen; omega, by simp, ?_⟩⟩
  simp only [Nat.mul_one]
  rw [List.take_of_length_le (by simp)]

set_option maxHeartbeats 1600000 in
set_option maxRecDepth 100000 in
theorem ckey_ok (job : ByteArray) (p : Option Addr) (ls : List Lab.L) (n c : Nat) (r k : List UInt8) (hj : Can.job job.data.toList = true) (hr : Can.bytes ls = (r, 0)) (hk : Lab.bs job ++ [254] ++ r = k) (w : World) (hn : ls.length = n) (hA : Lab.At p ls w) (hF : Lab.Fit 1100 ls) (hl : n ≤ 70) (hjs : job.size ≤ 1000000) :
    Calls Try.prog 57 #[.agg #[.string job, .slice p n c]] w fun e w' => e = .returned (.tuple #[.string ⟨k.toArray⟩, .int .i64 0]) ∧ Below w.heap.size w w' := by
  have HJ := Lib.hid (fun w => cjob_is job true hj w (by unfold maxLen; omega))
  have HB := Lib.hid (fun w hA => cbytes_is p ls n c r 0 hr w hn hA (fun x hx => by have := hF x hx; omega) (by unfold maxLen; omega))
  have hbl : (Lab.bs job ++ [254]).length ≤ 1000001 := by
    have : (Lab.bs job).length = job.size := by simp [Lab.bs]
    rw [List.length_append]; simp; omega
  have HP := Lib.hid (fun (W : World) => pieces_is ⟨#[254]⟩ W.heap.size (.slice (some ⟨W.heap.size, 0, none⟩) 1 1) [job] (W.alloc (.cells #[.string job] 9)) (lit_texts [job] _ rfl W 1 rfl (by omega)) (Lab.bs job ++ [254]) (by simp [Lab.bs]) (by omega) (by simp))
  obtain ⟨X, hX⟩ : ∃ X, ByteArray.mk (Lab.bs job ++ [254]).toArray = X := ⟨_, rfl⟩
  obtain ⟨Y, hY⟩ : ∃ Y, ByteArray.mk r.toArray = Y := ⟨_, rfl⟩
  have hXY : Hid (X ++ Y = ⟨k.toArray⟩) := by
    show X ++ Y = ⟨k.toArray⟩
    rw [← hX, ← hY, mk_append, ← hk]
    rfl
  have hrl : r.length ≤ 1000000 := by
    have := Can.raw_length ls 1100 hF
    have h2 : (Can.bytes ls).1.length ≤ 1000000 := by
      unfold Can.bytes
      split
      · exact Nat.le_trans this (Nat.le_trans (Nat.mul_le_mul_right _ (by omega : ls.length ≤ 70)) (by decide))
      · simp
    rw [hr] at h2; exact h2
  have hXs : (X.size : Int) + (Y.size : Int) ≤ 3000000 := by
    have e1 : X.size = (Lab.bs job ++ [254]).length := by rw [← hX]; simp [ByteArray.size]
    have e2 : Y.size = r.length := by rw [← hY]; simp [ByteArray.size]
    omega
  have hXs2 : X.size + Y.size ≤ 3000000 := by omega
  rw [hX] at HP
  rw [hY] at HB
  clear hX hY hk hr hj hbl hrl hF hn
  go_enter Try.func57, Try.ntmps57
  go_wp2_with (go_at_call 83; refine (HJ.out _).mono ?_)
  try rintro e w1 ⟨rfl, rfl⟩
  go_wp2_with (go_at_call 84; refine (HB.out _ (hA.alloc _)).mono ?_)
  first | rintro e w2 rfl hb2 | rintro e w2 ⟨rfl, hb2⟩
  have k2 := below_kept hb2 (alloc_new w _) (by simp)
  have hs2 := hb2.size
  simp only [World.size_alloc] at hs2
  have c0 : w2.cell? ⟨w.heap.size, 0, none⟩ = some (.string job) := by rw [Lib.cell_of_heap k2]; rfl
  have hB : Below w.heap.size w w2 := ((Below.refl _ _).alloc (Nat.le_refl _) _).trans (hb2.mono (by simp))
  go_wp2_with (go_at_call 85; refine (HP.out _).mono ?_)
  first | rintro e w3 rfl hb3 | rintro e w3 ⟨rfl, hb3⟩
  have hB3 : Below w.heap.size w w3 := (hB.alloc hB.size _).trans (hb3.mono (by simp; omega))
  go_wp2_with fail
  go_ret2
  exact ⟨by rw [← hXY.out]; rfl, hB3⟩
end Go.Proofs.Ytpnpgjjbincigaa
namespace Go.Proofs.Ytpnpgjjbincigaa
open Go.RowKit

/-- a target as it lies in memory: its job, its labels' slice, the labels -/
structure Can.T where
  job : ByteArray
  p : Option Addr
  n : Nat
  c : Nat
  ls : List Lab.L
def Can.TAt (b o : Nat) (ts : List Can.T) (w : World) : Prop :=
  ∀ i (h : i < ts.length), w.cell? ⟨b, o + i * 2, none⟩ = some (.string ts[i].job) ∧ w.cell? ⟨b, o + i * 2 + 1, none⟩ = some (.slice ts[i].p ts[i].n ts[i].c) ∧ Lab.At ts[i].p ts[i].ls w
/-- a target that is right, with its key -/
def Can.TOk (t : Can.T) (k : ByteArray) : Prop :=
  t.ls.length = t.n ∧ t.n ≤ 70 ∧ Lab.Fit 1100 t.ls ∧ t.job.size ≤ 1000000 ∧ Can.job t.job.data.toList = true ∧ ∃ r, Can.bytes t.ls = (r, 0) ∧ ByteArray.mk (Lab.bs t.job ++ [254] ++ r).toArray = k

theorem strLaw : Maps.Keyed Try.prog 9 := Maps.string_keyed Try.underlying9
/-- what First has behind k keys: the map, the indexes, how often the map was written -/
def Can.seen (ks : List ByteArray) : Nat → DataW Unit × List Int × Nat
  | 0 => (.map [], [], 0)
  | k + 1 => match ks[k]? with
    | none => Can.seen ks k
    | some x => if Maps.has (Can.seen ks k).1 (.string x.data.toList) = true then Can.seen ks k else ((Can.seen ks k).1.put (.string x.data.toList) (.lit (.int .i64 k)), (Can.seen ks k).2.1 ++ [(k : Int)], (Can.seen ks k).2.2 + 1)
def OwnInts (B : Nat) (v : Value) (l : List Int) (w : World) : Prop := w.ownsRow B 3 1 v l.length (l.map (Value.int .i64))
theorem infoInt : (Try.prog.info? 3).map (fun i => (i.zero, i.size, i.bytes)) = some (some (.int .i64 0), 1, 8) := by kernel_rfl
theorem Can.seen_len (ks : List ByteArray) (k : Nat) : (Can.seen ks k).2.1.length ≤ k ∧ (Can.seen ks k).2.2 ≤ k := by
  induction k with
  | zero => exact ⟨Nat.le_refl _, Nat.le_refl _⟩
  | succ k ih =>
    unfold Can.seen
    split
    · omega
    · split
      · omega
      · simp only [List.length_append, List.length_cons, List.length_nil]; omega

end Go.Proofs.Ytpnpgjjbincigaa
