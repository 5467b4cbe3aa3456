/- Contracts of hash: bytes (the iterator), Add, Sum. Contracts of canon: Size, Print, Job; short of the law. Plain laws: strings.Split at a byte, as the pieces between bytes 255. No program in sight. Contracts of canon: Read. Laws on maps at the operations, over any program: a map literal's entries; a range's step with string keys and integer elements. Contracts for the examples: of, Key, keys (where all is right). Contracts for the examples: keys, First (where all is right), SameInts. Contracts of canon: Key, KeyPrint, ReadKey. Contracts of canon: keys. (Printed by gen_keys.py.) Slices of targets that a call makes itself by append. Contract of canon: Compare. (Printed by gen_cmp.py.) -/
import Derived.RangeFuncNested
import Derived.RangeFuncBound
import Derived.RangeFuncBox
import Derived.RangeFuncCalls
import Derived.RangeFuncLeaves
import Derived.Shelf.Abstract
import Derived.Shelf.RegionOpen
import Derived.WalkKit
import Derived.OwnWalkIn
import Derived.TacticsInMore
import Derived.LoopNIn
import Derived.LoopIn
import Derived.Laws.Bits64
import Derived.Laws.Bits64b
import Derived.Test.YtpnpgjjbincigaaCanP
import Derived.Test.YtpnpgjjbincigaaUtfC
import Derived.Test.YtpnpgjjbincigaaCanA
import Derived.Lib.SplitLaws
import Derived.Lib.IndexBytes
import Derived.Deep.RegionHeld3
import Derived.Deep.AppendLies
import Derived.Maps.RangeWalk
import Derived.Maps.OwnOps
import Derived.Maps.StringElems
import Derived.Maps.OwnSet
import Derived.WalkArith
import Derived.Lib.CutLaws
import Derived.BigQuiet
namespace Go.Proofs.Ytpnpgjjbincigaa
open Go.RowKit Go.Shelf
attribute [local go_sem] Oper.semAt_some

/-- what has come when k rounds are over -/
def Can.upto (s : ByteArray) (k : Nat) : List UInt8 := s.data.toList.take k
theorem Can.upto_succ (s : ByteArray) (k : Nat) (h : k < s.size) : Can.upto s (k + 1) = Can.upto s k ++ [s[k]] := by
  unfold Can.upto
  rw [List.take_add_one, List.getElem?_eq_getElem (by rw [Array.length_toList]; exact h)]
  rfl
theorem Can.upto_length (s : ByteArray) (k : Nat) (h : k ≤ s.size) : (Can.upto s k).length = k := by
  unfold Can.upto
  rw [List.length_take, Array.length_toList]
  exact Nat.min_eq_left h
/-- a round that goes on keeps the two boxes -/
def Can.Keep (Bs Bb : Nat) (W W' : World) : Prop := (∀ v, W.cell? ⟨Bs, 0, none⟩ = some v → W'.cell? ⟨Bs, 0, none⟩ = some v) ∧ ∀ v, W.cell? ⟨Bb, 0, none⟩ = some v → W'.cell? ⟨Bb, 0, none⟩ = some v
theorem Can.Keep.refl (Bs Bb : Nat) (W : World) : Can.Keep Bs Bb W W := ⟨fun _ h => h, fun _ h => h⟩
theorem Can.Keep.trans {Bs Bb : Nat} {A B C : World} (h : Can.Keep Bs Bb A B) (k : Can.Keep Bs Bb B C) : Can.Keep Bs Bb A C := ⟨fun v e => k.1 v (h.1 v e), fun v e => k.2 v (h.2 v e)⟩
theorem Can.Keep.put {Bs Bb : Nat} (W : World) (l : Nat) (o o' : Obj) (h : W.heap[l]? = some o) (hc : o.isCells = false) : Can.Keep Bs Bb W (W.putObj l o') :=
  ⟨fun _ hv => cell_kept hv (grownBy_putObj' W l o') (fun r e => by cases e; exact ⟨o, h, hc⟩), fun _ hv => cell_kept hv (grownBy_putObj' W l o') (fun r e => by cases e; exact ⟨o, h, hc⟩)⟩
theorem Can.Keep.set {Bs Bb : Nat} (W : World) (B : Nat) (v : Value) (h1 : B ≠ Bs) (h2 : B ≠ Bb) : Can.Keep Bs Bb W (W.setCell ⟨B, 0, none⟩ v) :=
  ⟨fun u hu => (World.cell?_setCell_other _ _ _ _ (by intro e; cases e; exact h1 rfl)).trans hu, fun u hu => (World.cell?_setCell_other _ _ _ _ (by intro e; cases e; exact h2 rfl)).trans hu⟩

theorem Can.sum_snoc (h : Nat) (l : List UInt8) (x : UInt8) : Can.sum h (l ++ [x]) = Can.step (Can.sum h l) x := by
  unfold Can.sum
  rw [List.foldl_append, List.foldl_cons, List.foldl_nil]

theorem Can.step_is (h : Nat) (c : UInt8) (hh : h < 18446744073709551616) : IntKind.u64.wrap (bits .xor .u64 (h : Int) (c.toNat : Int) * 1099511628211) = (Can.step h c : Nat) := by
  rw [bits_xor_u64_nat h c.toNat hh (by have := c.toNat_lt; omega), IntKind.wrap_u64]
  unfold Can.step
  omega

end Go.Proofs.Ytpnpgjjbincigaa
namespace Go.Proofs.Ytpnpgjjbincigaa
open Go.RowKit

/-- what Print gives -/
def Can.print (ls : List Lab.L) : Nat × Int := if (Can.bytes ls).2 = 0 then (Can.sum 14695981039346656037 (Can.bytes ls).1, 0) else (0, (Can.bytes ls).2)

def Can.job (l : List UInt8) : Bool := decide (1 ≤ l.length) && decide (l.length ≤ 128) && Utf.valid l
set_option maxHeartbeats 800000 in
theorem cjob_is (s : ByteArray) (b : Bool) (h : Can.job s.data.toList = b) (w : World) (hs : s.size ≤ maxLen) :
    Calls Try.prog 83 #[.string s] w fun e w' => e = .returned (.bool b) ∧ w = w' := by
  have hs' := hs
  unfold maxLen at hs
  unfold Can.job at h
  rw [show s.data.toList.length = s.size from by simp] at h
  by_cases h1 : 1 ≤ s.size
  · by_cases h2 : s.size ≤ 128
    · rw [decide_eq_true h1, decide_eq_true h2, Bool.true_and, Bool.true_and] at h
      have HV := Lib.hid (fun w => valid_is s b h w hs')
      clear h
      go_enter Try.func83, Try.ntmps83
      go_wp2_with (go_at_call 94; refine (HV.out _).mono ?_)
      try rintro e w1 ⟨rfl, rfl⟩
      go_wp2_with fail
      go_ret
      exact ⟨rfl, rfl⟩
    · have hb : b = false := by rw [← h, decide_eq_false h2]; simp
      subst hb
      have h3 : 128 < s.size := by omega
      clear h h2
      go_enter Try.func83, Try.ntmps83
      go_wp2_with fail
      go_ret
      exact ⟨rfl, rfl⟩
  · have hb : b = false := by rw [← h, decide_eq_false h1]; simp
    subst hb
    have h3 : s.size < 1 := by omega
    clear h h1
    go_enter Try.func83, Try.ntmps83
    go_wp2_with fail
    go_ret
    exact ⟨rfl, rfl⟩

/-- what 'short' asks -/
def Can.short (ls : List Lab.L) : Bool := decide (ls.length ≤ 70) && ls.all fun x => decide (x.n.size ≤ 1100) && decide (x.v.size ≤ 1100)
end Go.Proofs.Ytpnpgjjbincigaa
namespace Go.Proofs.Ytpnpgjjbincigaa.Can

theorem split_miss (cur l : List UInt8) (h : Lib.indexByte l 255 = -1) : split cur l = [cur ++ l] := by
  induction l generalizing cur with
  | nil => simp [split]
  | cons c r ih =>
    unfold Lib.indexByte at h
    by_cases hc : (c == 255) = true
    · rw [if_pos hc] at h; omega
    · rw [if_neg hc] at h
      by_cases hr : (Lib.indexByte r 255 == -1) = true
      · have hc2 : ¬ c = 255 := by simpa using hc
        unfold split
        rw [if_neg hc2, ih _ (beq_iff_eq.1 hr)]
        simp
      · rw [if_neg hr] at h
        have := Lib.indexByte_ge r 255
        have hr2 : Lib.indexByte r 255 ≠ -1 := fun e => hr (beq_iff_eq.2 e)
        omega
theorem split_hit (cur l : List UInt8) (i : Nat) (h : Lib.indexByte l 255 = i) : split cur l = (cur ++ l.take i) :: split [] (l.drop (i + 1)) := by
  induction l generalizing cur i with
  | nil => unfold Lib.indexByte at h; omega
  | cons c r ih =>
    unfold Lib.indexByte at h
    by_cases hc : (c == 255) = true
    · rw [if_pos hc] at h
      obtain rfl : i = 0 := by omega
      have hc2 : c = 255 := by simpa using hc
      show (if c = 255 then cur :: split [] r else split (cur ++ [c]) r) = _
      rw [if_pos hc2]
      simp
    · rw [if_neg hc] at h
      by_cases hr : (Lib.indexByte r 255 == -1) = true
      · rw [if_pos hr] at h; omega
      · rw [if_neg hr] at h
        have hc2 : ¬ c = 255 := by simpa using hc
        have hg := Lib.indexByte_ge r 255
        have hr2 : Lib.indexByte r 255 ≠ -1 := fun e => hr (beq_iff_eq.2 e)
        obtain ⟨j, rfl⟩ : ∃ j, i = j + 1 := ⟨i - 1, by omega⟩
        show (if c = 255 then cur :: split [] r else split (cur ++ [c]) r) = _
        rw [if_neg hc2, ih _ j (by omega)]
        simp

def sep : ByteArray := ⟨#[255]⟩
theorem splitB_is : ∀ (n : Nat) (s : ByteArray), s.size ≤ n → (Lib.splitB sep 0 (Lib.countB s sep) s).map (·.data.toList) = split [] s.data.toList := by
  intro n
  induction n with
  | zero =>
    intro s hs
    have h0 : s.data.toList = [] := List.eq_nil_of_length_eq_zero (by rw [Array.length_toList]; exact Nat.le_zero.1 hs)
    have hi : Lib.indexB s sep = -1 := by
      show Lib.index s.data.toList [255] = -1
      rw [Lib.index_one, h0]; rfl
    rw [Lib.splitB_miss _ _ _ _ hi, h0]
    simp [split, h0]
  | succ n ih =>
    intro s hs
    rcases Lib.indexB_cases s sep with h | ⟨i, h, hle⟩
    · have hi : Lib.indexByte s.data.toList 255 = -1 := by rw [← Lib.index_one]; exact h
      rw [Lib.splitB_miss _ _ _ _ h, split_miss _ _ hi]
      simp
    · have hi : Lib.indexByte s.data.toList 255 = i := by rw [← Lib.index_one]; exact h
      have hz : sep.size = 1 := rfl
      rw [hz] at hle
      rw [Lib.countB_hit s sep i (Nat.le_refl _) h, Nat.add_comm 1, Lib.splitB_hit _ _ _ _ _ h, List.map_cons, split_hit _ _ _ hi, ih _ (by rw [hz, ByteArray.size_extract]; omega), Nat.add_zero, Lib.extract_from_zero, List.nil_append, hz]
      congr 2
      rw [Lib.extract_to_end]
end Go.Proofs.Ytpnpgjjbincigaa.Can
namespace Go.Proofs.Ytpnpgjjbincigaa
open Go.RowKit

/-- 'append(v, x)' of a label written out, at a step of a region that draws its order -/
theorem step_pushL {ops : Array Oper} {o : Oper} {a : Act} {K : Act → World → Prop} {Q : Exit → Act → World → Prop} {E : Prop} {w : World} (T : TypeId) (hT : Try.prog.underlying T = some (.slice 37)) (hgd : o.guard = none) (s x : Operand)
    (ho : o.op = .call { callee := .builtin .append, args := #[s, x], argTypes := #[T, T] })
    (B : Nat) (v : Value) (l : List Lab.L) (hs : a.eval s = v) (hown : OwnLabels B v l w) (y : Lab.L) (G c : Nat) (hx : a.eval x = .slice (some ⟨G, 0, none⟩) 1 c)
    (hG : w.heap[G]? = some (.cells #[.string y.n, .string y.v] 37)) (hlen : l.length + 1 ≤ 4294967296) (hB : B ≤ w.heap.size)
    (h : ∀ g cap w', OwnLabels B (.slice (some ⟨g, 0, none⟩) (l.length + 1) cap) (l ++ [y]) w' → w.grownBy w' v.ownBlock → K (a.put o.dst (.slice (some ⟨g, 0, none⟩) (l.length + 1) cap)) w') :
    if Region.wanted o (yielded ops a.tmps) = true then Oper.wp Try.prog o a w K Q else E := by
  obtain ⟨i0, hi, hz0, hz1, hz2⟩ := info_parts infoLab
  refine step_append_lies w hgd s x T ho B 37 i0 _ 2 32 hT hi hz0 hz1 hz2 rfl (by decide) v l.length (Lab.cells l) hs hown ⟨G, 0, none⟩ 1 c (Lab.cells [y]) hx rfl
    (World.news_of_block (cs := #[.string y.n, .string y.v]) hG) (Lab.cells_one _) (by omega) (by unfold maxLen; omega) (by omega) hB w.heap.size rfl ?_
  intro g cap w' h1 h2 _ _
  refine h g cap w' ?_ h2
  unfold OwnLabels
  rw [Lab.cells_append, List.length_append]
  exact h1

theorem Can.pairs_take (xs : List ByteArray) (k : Nat) (h : k * 2 + 1 < xs.length) :
    Can.pairs ((xs.map (·.data.toList)).take ((k + 1) * 2)) = Can.pairs ((xs.map (·.data.toList)).take (k * 2)) ++ [⟨xs[k * 2], xs[k * 2 + 1]⟩] := by
  induction k generalizing xs with
  | zero =>
    match xs, h with
    | a :: b :: r, _ => rfl
  | succ k ih =>
    match xs, h with
    | a :: b :: r, h =>
      have := ih r (by simp only [List.length_cons] at h; omega)
      have e1 : (k + 1 + 1) * 2 = (k + 1) * 2 + 1 + 1 := by omega
      have e2 : (k + 1) * 2 = k * 2 + 1 + 1 := by omega
      rw [e1]
      simp only [List.map_cons, List.take_succ_cons, Can.pairs]
      rw [this]
      simp only [e2, List.take_succ_cons, Can.pairs, List.cons_append, List.getElem_cons_succ]
theorem Can.pairs_all (xs : List ByteArray) (k : Nat) (h1 : xs.length ≤ k * 2 + 1) (h2 : k * 2 ≤ xs.length) : Can.pairs ((xs.map (·.data.toList)).take (k * 2)) = Can.pairs (xs.map (·.data.toList)) := by
  induction k generalizing xs with
  | zero =>
    match xs, h1 with
    | [], _ => rfl
    | [a], _ => rfl
  | succ k ih =>
    match xs, h1, h2 with
    | [], _, h2 => simp at h2
    | [a], _, h2 => simp at h2; omega
    | a :: b :: r, h1, h2 =>
      have := ih r (by simp only [List.length_cons] at h1; omega) (by simp only [List.length_cons] at h2; omega)
      have e2 : (k + 1) * 2 = k * 2 + 1 + 1 := by omega
      rw [e2]
      simp only [List.map_cons, List.take_succ_cons, Can.pairs]
      rw [this]

theorem Can.split_len (cur l : List UInt8) : ∀ a ∈ Can.split cur l, a.length ≤ cur.length + l.length := by
  induction l generalizing cur with
  | nil => intro a ha; simp [Can.split] at ha; subst ha; simp
  | cons c r ih =>
    intro a ha
    unfold Can.split at ha
    split at ha
    · rw [List.mem_cons] at ha
      rcases ha with rfl | ha
      · simp
      · have := ih [] a ha
        simp at this ⊢; omega
    · have := ih _ a ha
      simp at this ⊢; omega
theorem Can.pairs_fit (m : Nat) : ∀ (all : List (List UInt8)), (∀ a ∈ all, a.length ≤ m) → Lab.Fit m (Can.pairs all)
  | a :: b :: r, h => by
    intro x hx
    unfold Can.pairs at hx
    rw [List.mem_cons] at hx
    rcases hx with rfl | hx
    · have h1 := h a (by simp)
      have h2 := h b (by simp)
      exact ⟨by simpa [Can.mk, ByteArray.size] using h1, by simpa [Can.mk, ByteArray.size] using h2⟩
    · exact Can.pairs_fit m r (fun y hy => h y (by simp [hy])) x hx
  | [], _ => by intro x hx; simp [Can.pairs] at hx
  | [_], _ => by intro x hx; simp [Can.pairs] at hx
theorem Can.read_fit (l : List UInt8) : Lab.Fit l.length (Can.read l).1 := by
  unfold Can.read
  simp only []
  split
  · intro x hx; simp at hx
  · split
    · refine Can.pairs_fit _ _ fun a ha => ?_
      have := Can.split_len [] l a ha
      simpa using this
    · intro x hx; simp at hx

end Go.Proofs.Ytpnpgjjbincigaa
namespace Go.Proofs.Ytpnpgjjbincigaa
open Go.RowKit Go.Maps

/-- an entry of a map literal -/
theorem wpList_insert_own {H : Type} {P : Program} (w : World) {ops : Array Oper} {rest : List Oper} {o : Oper} {a : Act} {Q : Exit → Act → World → Prop}
    (hg : o.guard = none) (m x v : Operand) (t : TypeId) (hop : o.op = Op.insert t m x v)
    (k e : TypeId) (K : Keyed P k) (ht : P.underlying t = some (.map k e)) (R : Value → Option (DataW H × List MemPlace)) (b n : Nat) (D : DataW H)
    (hm : a.eval m = .map (some b)) (hown : w.ownsMap P k R b n D) (hn : n < maxLen) (key val : Value) (kl : Lit) (hx : a.eval x = key) (hv : a.eval v = val) (hkey : keyOf P k key = some kl)
    (d : DataW H) (ps : List MemPlace) (hval : R val = some (d, ps))
    (hK : ∀ w', w'.ownsMap P k R b (n + 1) (D.put kl d) → w.grownBy w' (some b) → wpList P ops Q rest (a.put o.dst undef) w') :
    wpList P ops Q (o :: rest) a w := by
  refine wpList_plain hg fun K' hK' => ?_
  obtain ⟨w', hrun, r1, r2⟩ := hown.update K ht hn hkey hval
  unfold Oper.wp
  simp [execOp, hop, hm, hx, hv, hrun, Result.andThen]
  exact hK' _ _ (hK w' r1 r2)

/-- what reads as a key of a string's type is that string -/
theorem keyOf_string_inv {P : Program} {k : TypeId} (hk : P.underlying k = some .string) {key : Value} {kl : Lit} (h : keyOf P k key = some kl) : ∃ s : ByteArray, key = .string s ∧ kl = .string s.data.toList ∧ s.size ≤ maxLen := by
  obtain ⟨s, h1, h2, h3⟩ := WideMaps.string_of_keyOf hk h
  first
    | exact ⟨s, h1, h2, h3⟩
    | exact ⟨s, h1, h3, h2⟩

theorem wpList_next_ranges_si {H : Type} {P : Program} (w : World) {ops : Array Oper} {rest : List Oper} {o : Oper} {a : Act} {Q : Exit → Act → World → Prop}
    (hg : o.guard = none) (it : Operand) (hop : o.op = Op.next it false) (k e : TypeId) (qe : IntKind) (K : Keyed P k) (hk : P.underlying k = some .string) (he : P.underlying e = some (.int qe))
    (b r n : Nat) (D : DataW H) (left : Lit → Bool) (cnt : Nat) (hit : a.eval it = .pointer (some ⟨r, 0, none⟩)) (h : w.ranges P k (plainElem P e) b r n D left cnt)
    (hDone : cnt = 0 → (∀ kl, left kl = false) → wpList P ops Q rest (a.put o.dst (.tuple #[.bool false])) w)
    (hMore : ∀ (x : ByteArray) (c : Int) (w' : World) (cnt' : Nat), (∀ zd, D.atKey (.string x.data.toList) zd = .lit (.int qe c)) → w'.ranges P k (plainElem P e) b r n D (fun z => left z && !z.sameKey (.string x.data.toList)) cnt' → cnt' < cnt →
      w.grownBy w' (some r) → w'.heap.size = w.heap.size → (Instr.entry (.pointer (some ⟨r, 0, none⟩))).run P w' = .ok (.tuple #[.string x, .int qe c]) w' → wpList P ops Q rest (a.put o.dst (.tuple #[.bool true, .string x, .int qe c])) w') :
    wpList P ops Q (o :: rest) a w :=
  wpList_next_ranges w hg it hop k K (plainElem P e) Value.string (Value.int qe) (fun key kl hkey => by obtain ⟨x, rfl, _⟩ := keyOf_string_inv hk hkey; exact ⟨x, rfl⟩) (fun v y hv => by obtain ⟨c, rfl, _⟩ := plainElem_int_inv he hv; exact ⟨c, rfl⟩)
    b r n D left cnt hit h hDone (fun x c kl y w' cnt' hkey _ hv hat hrg hlt hgr hsz hen => by
      obtain ⟨x', ex, rfl, _⟩ := keyOf_string_inv hk hkey
      cases ex
      obtain ⟨c', ec, rfl, hwc⟩ := plainElem_int_inv he hv
      cases ec
      exact hMore x c w' cnt' hat hrg hlt hgr hsz hen)

theorem below_grown {w w' : World} (h : Below w.heap.size w w') : w.grownBy w' none := ⟨h.os, h.tape, h.output, h.size, fun i hi _ => h.block i hi⟩
theorem eq_of_bytes {x : ByteArray} {a : Array UInt8} (h : x.data.toList = a.toList) : x = ⟨a⟩ := ByteArray.ext (Array.toList_inj.1 h)

end Go.Proofs.Ytpnpgjjbincigaa
namespace Go.Proofs.Ytpnpgjjbincigaa
open Go.RowKit

theorem lit_texts (xs : List ByteArray) (C : Array Value) (hC : C = (xs.map Value.string).toArray) (W : World) (k : Nat) (hk : xs.length = k) (h2 : k ≤ 1000) :
    OwnTexts W.heap.size (.slice (some ⟨W.heap.size, 0, none⟩) k k) xs (W.alloc (.cells C 9)) := by
  subst hk
  subst hC
  refine ⟨by simp, .inr ⟨W.heap.size, xs.length, _, rfl, Nat.le_refl _, alloc_new _ _, Nat.le_refl _, by unfold maxLen; omega, by simp, ?_⟩⟩
  simp only [Nat.mul_one]
  rw [List.take_of_length_le (by simp)]

set_option maxHeartbeats 1600000 in
set_option maxRecDepth 100000 in
theorem ckey_ok (job : ByteArray) (p : Option Addr) (ls : List Lab.L) (n c : Nat) (r k : List UInt8) (hj : Can.job job.data.toList = true) (hr : Can.bytes ls = (r, 0)) (hk : Lab.bs job ++ [254] ++ r = k) (w : World) (hn : ls.length = n) (hA : Lab.At p ls w) (hF : Lab.Fit 1100 ls) (hl : n ≤ 70) (hjs : job.size ≤ 1000000) :
    Calls Try.prog 57 #[.agg #[.string job, .slice p n c]] w fun e w' => e = .returned (.tuple #[.string ⟨k.toArray⟩, .int .i64 0]) ∧ Below w.heap.size w w' := by
  have HJ := Lib.hid (fun w => cjob_is job true hj w (by unfold maxLen; omega))
  have HB := Lib.hid (fun w hA => cbytes_is p ls n c r 0 hr w hn hA (fun x hx => by have := hF x hx; omega) (by unfold maxLen; omega))
  have hbl : (Lab.bs job ++ [254]).length ≤ 1000001 := by
    have : (Lab.bs job).length = job.size := by simp [Lab.bs]
    rw [List.length_append]; simp; omega
  have HP := Lib.hid (fun (W : World) => pieces_is ⟨#[254]⟩ W.heap.size (.slice (some ⟨W.heap.size, 0, none⟩) 1 1) [job] (W.alloc (.cells #[.string job] 9)) (lit_texts [job] _ rfl W 1 rfl (by omega)) (Lab.bs job ++ [254]) (by simp [Lab.bs]) (by omega) (by simp))
  obtain ⟨X, hX⟩ : ∃ X, ByteArray.mk (Lab.bs job ++ [254]).toArray = X := ⟨_, rfl⟩
  obtain ⟨Y, hY⟩ : ∃ Y, ByteArray.mk r.toArray = Y := ⟨_, rfl⟩
  have hXY : Hid (X ++ Y = ⟨k.toArray⟩) := by
    show X ++ Y = ⟨k.toArray⟩
    rw [← hX, ← hY, mk_append, ← hk]
    rfl
  have hrl : r.length ≤ 1000000 := by
    have := Can.raw_length ls 1100 hF
    have h2 : (Can.bytes ls).1.length ≤ 1000000 := by
      unfold Can.bytes
      split
      · exact Nat.le_trans this (Nat.le_trans (Nat.mul_le_mul_right _ (by omega : ls.length ≤ 70)) (by decide))
      · simp
    rw [hr] at h2; exact h2
  have hXs : (X.size : Int) + (Y.size : Int) ≤ 3000000 := by
    have e1 : X.size = (Lab.bs job ++ [254]).length := by rw [← hX]; simp [ByteArray.size]
    have e2 : Y.size = r.length := by rw [← hY]; simp [ByteArray.size]
    omega
  have hXs2 : X.size + Y.size ≤ 3000000 := by omega
  rw [hX] at HP
  rw [hY] at HB
  clear hX hY hk hr hj hbl hrl hF hn
  go_enter Try.func57, Try.ntmps57
  go_wp2_with (go_at_call 83; refine (HJ.out _).mono ?_)
  try rintro e w1 ⟨rfl, rfl⟩
  go_wp2_with (go_at_call 84; refine (HB.out _ (hA.alloc _)).mono ?_)
  first | rintro e w2 rfl hb2 | rintro e w2 ⟨rfl, hb2⟩
  have k2 := below_kept hb2 (alloc_new w _) (by simp)
  have hs2 := hb2.size
  simp only [World.size_alloc] at hs2
  have c0 : w2.cell? ⟨w.heap.size, 0, none⟩ = some (.string job) := by rw [Lib.cell_of_heap k2]; rfl
  have hB : Below w.heap.size w w2 := ((Below.refl _ _).alloc (Nat.le_refl _) _).trans (hb2.mono (by simp))
  go_wp2_with (go_at_call 85; refine (HP.out _).mono ?_)
  first | rintro e w3 rfl hb3 | rintro e w3 ⟨rfl, hb3⟩
  have hB3 : Below w.heap.size w w3 := (hB.alloc hB.size _).trans (hb3.mono (by simp; omega))
  go_wp2_with fail
  go_ret2
  exact ⟨by rw [← hXY.out]; rfl, hB3⟩
end Go.Proofs.Ytpnpgjjbincigaa
namespace Go.Proofs.Ytpnpgjjbincigaa
open Go.RowKit

/-- a target as it lies in memory: its job, its labels' slice, the labels -/
structure Can.T where
  job : ByteArray
  p : Option Addr
  n : Nat
  c : Nat
  ls : List Lab.L
def Can.TAt (b o : Nat) (ts : List Can.T) (w : World) : Prop :=
  ∀ i (h : i < ts.length), w.cell? ⟨b, o + i * 2, none⟩ = some (.string ts[i].job) ∧ w.cell? ⟨b, o + i * 2 + 1, none⟩ = some (.slice ts[i].p ts[i].n ts[i].c) ∧ Lab.At ts[i].p ts[i].ls w
/-- a target that is right, with its key -/
def Can.TOk (t : Can.T) (k : ByteArray) : Prop :=
  t.ls.length = t.n ∧ t.n ≤ 70 ∧ Lab.Fit 1100 t.ls ∧ t.job.size ≤ 1000000 ∧ Can.job t.job.data.toList = true ∧ ∃ r, Can.bytes t.ls = (r, 0) ∧ ByteArray.mk (Lab.bs t.job ++ [254] ++ r).toArray = k

theorem strLaw : Maps.Keyed Try.prog 9 := Maps.string_keyed Try.underlying9
/-- what First has behind k keys: the map, the indexes, how often the map was written -/
def Can.seen (ks : List ByteArray) : Nat → DataW Unit × List Int × Nat
  | 0 => (.map [], [], 0)
  | k + 1 => match ks[k]? with
    | none => Can.seen ks k
    | some x => if Maps.has (Can.seen ks k).1 (.string x.data.toList) = true then Can.seen ks k else ((Can.seen ks k).1.put (.string x.data.toList) (.lit (.int .i64 k)), (Can.seen ks k).2.1 ++ [(k : Int)], (Can.seen ks k).2.2 + 1)
def OwnInts (B : Nat) (v : Value) (l : List Int) (w : World) : Prop := w.ownsRow B 3 1 v l.length (l.map (Value.int .i64))
theorem infoInt : (Try.prog.info? 3).map (fun i => (i.zero, i.size, i.bytes)) = some (some (.int .i64 0), 1, 8) := by kernel_rfl
theorem Can.seen_len (ks : List ByteArray) (k : Nat) : (Can.seen ks k).2.1.length ≤ k ∧ (Can.seen ks k).2.2 ≤ k := by
  induction k with
  | zero => exact ⟨Nat.le_refl _, Nat.le_refl _⟩
  | succ k ih =>
    unfold Can.seen
    split
    · omega
    · split
      · omega
      · simp only [List.length_append, List.length_cons, List.length_nil]; omega

end Go.Proofs.Ytpnpgjjbincigaa
namespace Go.Proofs.Ytpnpgjjbincigaa
open Go.RowKit

/-- what Key gives -/
def Can.key (job : List UInt8) (ls : List Lab.L) : List UInt8 × Int :=
  if Can.job job = true then (if (Can.bytes ls).2 = 0 then (job ++ [254] ++ (Can.bytes ls).1, 0) else ([], (Can.bytes ls).2)) else ([], 51)

set_option maxHeartbeats 1600000 in
set_option maxRecDepth 100000 in
theorem ckey_is (job : ByteArray) (p : Option Addr) (ls : List Lab.L) (n c : Nat) (k : List UInt8) (er : Int) (h : Can.key (Lab.bs job) ls = (k, er)) (w : World) (hn : ls.length = n) (hA : Lab.At p ls w) (hF : Lab.Fit 1100 ls) (hl : n ≤ 70) (hjs : job.size ≤ 1000000) :
    Calls Try.prog 57 #[.agg #[.string job, .slice p n c]] w fun e w' => e = .returned (.tuple #[.string ⟨k.toArray⟩, .int .i64 er]) ∧ Below w.heap.size w w' := by
  unfold Can.key at h
  obtain ⟨⟨r, e0⟩, hr⟩ : ∃ q, Can.bytes ls = q := ⟨_, rfl⟩
  rw [hr] at h
  dsimp only at h
  obtain ⟨j0, hj⟩ : ∃ j0, Can.job (Lab.bs job) = j0 := ⟨_, rfl⟩
  rw [hj] at h
  have hj2 : Can.job job.data.toList = j0 := hj
  cases j0
  · rw [if_neg (by simp)] at h
    simp only [Prod.mk.injEq] at h
    obtain ⟨rfl, rfl⟩ := h
    have HJ := Lib.hid (fun w => cjob_is job false hj2 w (by unfold maxLen; omega))
    clear hj hj2 hr hn hA hF hl hjs
    go_enter Try.func57, Try.ntmps57
    go_wp2_with (go_at_call 83; refine (HJ.out _).mono ?_)
    try rintro e w1 ⟨rfl, rfl⟩
    go_wp2_with fail
    go_ret2
    exact ⟨rfl, (Below.refl _ _).alloc (Nat.le_refl _) _⟩
  · rw [if_pos rfl] at h
    by_cases h0 : e0 = 0
    · subst h0
      rw [if_pos rfl] at h
      simp only [Prod.mk.injEq] at h
      obtain ⟨hk, rfl⟩ := h
      exact ckey_ok job p ls n c r k hj2 hr hk w hn hA hF hl hjs
    · rw [if_neg h0] at h
      simp only [Prod.mk.injEq] at h
      obtain ⟨rfl, rfl⟩ := h
      have q1 : (e0 != 0) = true := by simpa using h0
      have HJ := Lib.hid (fun w => cjob_is job true hj2 w (by unfold maxLen; omega))
      have HB := Lib.hid (fun w hA => cbytes_is p ls n c r e0 hr w hn hA (fun x hx => by have := hF x hx; omega) (by unfold maxLen; omega))
      clear hj hj2 hr hn hF hl hjs h0
      go_enter Try.func57, Try.ntmps57
      go_wp2_with (go_at_call 83; refine (HJ.out _).mono ?_)
      try rintro e w1 ⟨rfl, rfl⟩
      go_wp2_with (go_at_call 84; refine (HB.out _ (hA.alloc _)).mono ?_)
      first | rintro e w2 rfl hb2 | rintro e w2 ⟨rfl, hb2⟩
      go_wp2_with fail
      go_ret2
      exact ⟨rfl, ((Below.refl _ _).alloc (Nat.le_refl _) _).trans (hb2.mono (by simp))⟩

def Can.badKey : ByteArray × List Lab.L × Int := (⟨#[]⟩, [], 50)
/-- a key parted at place k -/
def Can.keyAt (s : ByteArray) (k : Nat) : ByteArray × List Lab.L × Int :=
  if Can.job (s.data.toList.take k) = true ∧ (Can.read (s.data.toList.drop (k + 1))).2 = 0 then (⟨(s.data.toList.take k).toArray⟩, (Can.read (s.data.toList.drop (k + 1))).1, 0) else Can.badKey
def Can.readKeyL (s : ByteArray) : Nat → List UInt8 → ByteArray × List Lab.L × Int
  | _, [] => Can.badKey
  | k, c :: r => if c = 254 then Can.keyAt s k else Can.readKeyL s (k + 1) r
def Can.readKey (s : ByteArray) : ByteArray × List Lab.L × Int := Can.readKeyL s 0 s.data.toList
theorem Can.readKeyL_miss (s : ByteArray) (k : Nat) (l : List UInt8) (h : Lib.indexByte l 254 = -1) : Can.readKeyL s k l = Can.badKey := by
  induction l generalizing k with
  | nil => rfl
  | cons c r ih =>
    unfold Lib.indexByte at h
    by_cases hc : (c == 254) = true
    · rw [if_pos hc] at h; omega
    · rw [if_neg hc] at h
      have hg := Lib.indexByte_ge r 254
      by_cases hr : (Lib.indexByte r 254 == -1) = true
      · have hc2 : ¬ c = 254 := by simpa using hc
        show (if c = 254 then Can.keyAt s k else Can.readKeyL s (k + 1) r) = _
        rw [if_neg hc2, ih _ (beq_iff_eq.1 hr)]
      · rw [if_neg hr] at h
        have hr2 : Lib.indexByte r 254 ≠ -1 := fun e => hr (beq_iff_eq.2 e)
        omega
theorem Can.readKeyL_hit (s : ByteArray) (k : Nat) (l : List UInt8) (i : Nat) (h : Lib.indexByte l 254 = i) : Can.readKeyL s k l = Can.keyAt s (k + i) := by
  induction l generalizing k i with
  | nil => unfold Lib.indexByte at h; omega
  | cons c r ih =>
    unfold Lib.indexByte at h
    by_cases hc : (c == 254) = true
    · rw [if_pos hc] at h
      obtain rfl : i = 0 := by omega
      have hc2 : c = 254 := by simpa using hc
      show (if c = 254 then Can.keyAt s k else Can.readKeyL s (k + 1) r) = _
      rw [if_pos hc2]; rfl
    · rw [if_neg hc] at h
      have hg := Lib.indexByte_ge r 254
      by_cases hr : (Lib.indexByte r 254 == -1) = true
      · rw [if_pos hr] at h; omega
      · rw [if_neg hr] at h
        have hc2 : ¬ c = 254 := by simpa using hc
        have hr2 : Lib.indexByte r 254 ≠ -1 := fun e => hr (beq_iff_eq.2 e)
        obtain ⟨j, rfl⟩ : ∃ j, i = j + 1 := ⟨i - 1, by omega⟩
        show (if c = 254 then Can.keyAt s k else Can.readKeyL s (k + 1) r) = _
        rw [if_neg hc2, ih _ j (by omega)]
        congr 1; omega
theorem Can.read_err (l : List UInt8) : ((Can.read l).2 = 0 ∨ (Can.read l).2 = 50) := by
  unfold Can.read
  simp only []
  split
  · exact .inr rfl
  · split
    · exact .inl rfl
    · exact .inr rfl

/-- what was made stays while another block is written -/
theorem row_aside {B e k n : Nat} {v : Value} {xs : List Value} {w : World} (h : w.ownsRow B e k v n xs) {a : Addr} (ha : a.block < B) (u : Value) : (w.setCell a u).ownsRow B e k v n xs := by
  obtain ⟨h1, h2⟩ := h
  refine ⟨h1, ?_⟩
  rcases h2 with h2 | ⟨g, cap, cur, hv, hg, hh, r⟩
  · exact .inl h2
  · exact .inr ⟨g, cap, cur, hv, hg, (Below.heap_setCell w a u g (by omega)).trans hh, r⟩
end Go.Proofs.Ytpnpgjjbincigaa
namespace Go.Proofs.Ytpnpgjjbincigaa
open Go.RowKit

def Can.keyB (t : Can.T) : ByteArray := ⟨(Can.key (Lab.bs t.job) t.ls).1.toArray⟩
def Can.keyE (t : Can.T) : Int := (Can.key (Lab.bs t.job) t.ls).2
def Can.TFit (t : Can.T) : Prop := t.ls.length = t.n ∧ t.n ≤ 70 ∧ Lab.Fit 1100 t.ls ∧ t.job.size ≤ 1000000
/-- the first error of keys -/
def Can.err : List Can.T → Int
  | [] => 0
  | t :: r => if Can.keyE t = 0 then Can.err r else Can.keyE t
def Can.keysOf (ts : List Can.T) : List ByteArray := if Can.err ts = 0 then ts.map Can.keyB else []

end Go.Proofs.Ytpnpgjjbincigaa
namespace Go.Proofs.Ytpnpgjjbincigaa
open Go.RowKit

theorem infoTgt : (Try.prog.info? 29).map (fun i => (i.zero, i.size, i.bytes)) = some (some (.agg #[.string ByteArray.empty, .slice none 0 0]), 2, 40) := by kernel_rfl
def Can.tcells (ts : List Can.T) : List Value := ts.flatMap fun t => [.string t.job, .slice t.p t.n t.c]
theorem Can.tcells_length (ts : List Can.T) : (Can.tcells ts).length = ts.length * 2 := by
  unfold Can.tcells
  induction ts with
  | nil => rfl
  | cons x r ih => simp only [List.flatMap_cons, List.length_append, ih, List.length_cons, List.length_nil]; omega
theorem Can.tcells_append (a b : List Can.T) : Can.tcells (a ++ b) = Can.tcells a ++ Can.tcells b := by simp [Can.tcells]
theorem Can.tcells_one (ts : List Can.T) : ∀ u ∈ Can.tcells ts, u.oneCell' = true := by
  intro u hu
  simp only [Can.tcells, List.mem_flatMap] at hu
  obtain ⟨x, _, hx⟩ := hu
  simp at hx
  rcases hx with rfl | rfl <;> rfl
theorem Can.tcells_get (ts : List Can.T) (i : Nat) (h : i < ts.length) : (Can.tcells ts)[i * 2]? = some (.string ts[i].job) ∧ (Can.tcells ts)[i * 2 + 1]? = some (.slice ts[i].p ts[i].n ts[i].c) := by
  induction ts generalizing i with
  | nil => simp at h
  | cons x r ih =>
    cases i with
    | zero => simp [Can.tcells]
    | succ i =>
      have := ih i (by simpa using h)
      have e : Can.tcells (x :: r) = .string x.job :: .slice x.p x.n x.c :: Can.tcells r := by simp [Can.tcells]
      rw [e, show (i + 1) * 2 = i * 2 + 1 + 1 by omega]
      simpa using this
/-- v is a slice of targets of the call's own, whose labels are its own, too -/
def OwnTs (B : Nat) (v : Value) (ts : List Can.T) (w : World) : Prop :=
  w.ownsRow B 29 2 v ts.length (Can.tcells ts) ∧ ∀ t ∈ ts, t.ls.length = t.n ∧ OwnLabels B (.slice t.p t.n t.c) t.ls w
theorem OwnTs.nil (B : Nat) (w : World) : OwnTs B (.slice none 0 0) [] w := ⟨World.ownsRow_nil _ _ _ _, fun t ht => by simp at ht⟩
theorem OwnTs.alloc {B : Nat} {v : Value} {ts : List Can.T} {w : World} (h : OwnTs B v ts w) (o : Obj) : OwnTs B v ts (w.alloc o) :=
  ⟨World.ownsRow.alloc h.1 o, fun t ht => ⟨(h.2 t ht).1, (h.2 t ht).2.alloc o⟩⟩
theorem OwnTs.below {B C : Nat} {v : Value} {ts : List Can.T} {w w' : World} (h : OwnTs B v ts w) (hb : Below C w w') (hC : w.heap.size ≤ C) : OwnTs B v ts w' :=
  ⟨row_below h.1 hb hC, fun t ht => ⟨(h.2 t ht).1, (h.2 t ht).2.below hb hC⟩⟩
theorem OwnTs.lift {B B' : Nat} {v : Value} {ts : List Can.T} {w : World} (h : OwnTs B v ts w) (hB : B' ≤ B) : OwnTs B' v ts w :=
  ⟨row_lift h.1 hB, fun t ht => ⟨(h.2 t ht).1, row_lift (h.2 t ht).2 hB⟩⟩
theorem OwnTs.open {B : Nat} {v : Value} {ts : List Can.T} {w : World} (h : OwnTs B v ts w) :
    (v = .slice none 0 0 ∧ ts = []) ∨ ∃ g c, v = .slice (some ⟨g, 0, none⟩) ts.length c ∧ B ≤ g ∧ g < w.heap.size ∧ ts.length ≤ c ∧ c ≤ maxLen ∧ Can.TAt g 0 ts w := by
  obtain ⟨⟨h1, h2⟩, h3⟩ := h
  rcases h2 with ⟨rfl, h0⟩ | ⟨g, cap, cur, rfl, hg, hh, hn, hc, hcs, ht⟩
  · exact .inl ⟨rfl, List.length_eq_zero_iff.1 h0⟩
  · refine .inr ⟨g, cap, rfl, hg, lt_of_heap hh, hn, hc, fun i hi => ?_⟩
    have hcell : ∀ j u, (Can.tcells ts)[j]? = some u → w.cell? ⟨g, j, none⟩ = some u := by
      intro j u hj
      rw [Lib.cell_of_heap hh, ← Array.getElem?_toList]
      rw [← ht] at hj
      rw [List.getElem?_take] at hj
      split at hj
      · exact hj
      · simp at hj
    have := Can.tcells_get ts i hi
    have hl := (h3 ts[i] (List.getElem_mem _)).2
    obtain ⟨p', c', e, hA, _⟩ := OwnLabels.open hl
    simp only [Value.slice.injEq] at e
    refine ⟨by simpa using hcell _ _ this.1, by simpa using hcell _ _ this.2, ?_⟩
    rw [e.1]
    exact hA
/-- labels stay while a row of targets grows -/
theorem own_grown {B B' n : Nat} {v u : Value} {ls : List Lab.L} {xs : List Value} {w w' : World} (h : OwnLabels B v ls w) (hu : w.ownsRow B' 29 2 u n xs) (hg : w.grownBy w' u.ownBlock) : OwnLabels B v ls w' := by
  obtain ⟨h1, h2⟩ := h
  refine ⟨h1, ?_⟩
  rcases h2 with h2 | ⟨g, cap, cur, hv, hgB, hh, r⟩
  · exact .inl h2
  · refine .inr ⟨g, cap, cur, hv, hgB, ?_, r⟩
    rw [hg.block g (lt_of_heap hh) (fun e => ?_)]
    · exact hh
    · rcases hu.2 with ⟨rfl, _⟩ | ⟨g', cap', cur', rfl, _, hh', _⟩
      · simp [Value.ownBlock] at e
      · simp [Value.ownBlock] at e
        subst e
        rw [hh'] at hh
        simp at hh
/-- 'append(v, t)' of a target written out -/
theorem wpList_pushTg {ops : Array Oper} {rest : List Oper} {o : Oper} {a : Act} {Q : Exit → Act → World → Prop} (T : TypeId) (hT : Try.prog.underlying T = some (.slice 29)) (hgd : o.guard = none) (s x : Operand)
    (ho : o.op = .call { callee := .builtin .append, args := #[s, x], argTypes := #[T, T] })
    (B : Nat) (v : Value) (l : List Can.T) (wr : World) (hs : a.eval s = v) (hown : OwnTs B v l wr) (y : Can.T) (hyn : y.ls.length = y.n) (hy : OwnLabels B (.slice y.p y.n y.c) y.ls wr) (C : Array Value) (c : Nat) (hC : C = #[.string y.job, .slice y.p y.n y.c])
    (G : Nat) (hx : a.eval x = .slice (some ⟨G, 0, none⟩) 1 c) (hG : G = wr.heap.size) (hlen : l.length + 1 ≤ 1000000000) (hB : B ≤ wr.heap.size)
    (h : ∀ v' w', OwnTs B v' (l ++ [y]) w' → (wr.alloc (.cells C 29)).grownBy w' v.ownBlock → wpList Try.prog ops Q rest (a.put o.dst v') w') :
    wpList Try.prog ops Q (o :: rest) a (wr.alloc (.cells C 29)) := by
  obtain ⟨i0, hi, hz0, hz1, hz2⟩ := info_parts infoTgt
  subst hC
  subst hG
  have hownA := hown.alloc (.cells #[.string y.job, .slice y.p y.n y.c] 29)
  refine wpList_append_own _ hgd s x T ho B 29 i0 _ 2 40 hT hi hz0 hz1 hz2 rfl (by decide) v l.length (Can.tcells l) hs hownA.1 ⟨wr.heap.size, 0, none⟩ 1 c (Can.tcells [y]) hx rfl ?_ (Can.tcells_one _) ?_ ?_ ?_ ?_
  · intro j u hj
    have e : (wr.alloc (.cells #[.string y.job, .slice y.p y.n y.c] 29)).cell? ((⟨wr.heap.size, 0, none⟩ : Addr).add j) = (#[.string y.job, .slice y.p y.n y.c] : Array Value)[j]? := by
      rw [addr0]; simp
    rw [e]; simpa [Can.tcells] using hj
  · unfold maxLen; omega
  · omega
  · simp; omega
  · intro v' w' h1 h2 _
    refine h v' w' ⟨?_, fun t ht => ?_⟩ h2
    · rw [Can.tcells_append, List.length_append]
      exact h1
    · rw [List.mem_append, List.mem_singleton] at ht
      rcases ht with ht | rfl
      · exact ⟨(hownA.2 t ht).1, own_grown (hownA.2 t ht).2 hownA.1 h2⟩
      · exact ⟨hyn, own_grown (hy.alloc _) hownA.1 h2⟩
end Go.Proofs.Ytpnpgjjbincigaa
namespace Go.Proofs.Ytpnpgjjbincigaa
open Go.RowKit

theorem Can.key_len (job : ByteArray) (ls : List Lab.L) (h1 : ls.length ≤ 70) (hF : Lab.Fit 1100 ls) (h2 : job.size ≤ 1000000) : (Can.key (Lab.bs job) ls).1.length ≤ 3000000 := by
  have hb : (Can.bytes ls).1.length ≤ 1000000 := by
    unfold Can.bytes
    split
    · have := Can.raw_length ls 1100 hF
      exact Nat.le_trans this (Nat.le_trans (Nat.mul_le_mul_right _ h1) (by decide))
    · simp
  have hj : (Lab.bs job).length = job.size := by simp [Lab.bs]
  unfold Can.key
  split
  · split
    · simp only [List.length_append, List.length_cons, List.length_nil]; omega
    · simp
  · simp
theorem Can.keyB_len (t : Can.T) (h : Can.TFit t) : (Can.keyB t).size ≤ 3000000 := by
  obtain ⟨h1, h2, h3, h4⟩ := h
  have := Can.key_len t.job t.ls (by omega) h3 h4
  have e : (Can.keyB t).size = (Can.key (Lab.bs t.job) t.ls).1.length := List.size_toArray
  omega
def Can.cmp (a b : Can.T) : Int × Int := if Can.err [a, b] = 0 then (Lib.compareBytes (Lab.bs (Can.keyB a)) (Lab.bs (Can.keyB b)), 0) else (0, Can.err [a, b])
theorem Can.cmp_law (x y : List UInt8) : Lib.compareBytes x y = if x < y then -1 else if x = y then 0 else 1 := by
  induction x generalizing y with
  | nil =>
    cases y with
    | nil => simp [Lib.compareBytes]
    | cons c r => simp [Lib.compareBytes]
  | cons a x ih =>
    cases y with
    | nil => simp [Lib.compareBytes]
    | cons b y =>
      unfold Lib.compareBytes
      have hc : (a :: x < b :: y) ↔ (a < b ∨ a = b ∧ x < y) := List.cons_lt_cons_iff
      rw [ih y]
      by_cases h1 : a < b
      · rw [if_pos h1, if_pos (hc.2 (.inl h1))]
      · rw [if_neg h1]
        by_cases h2 : b < a
        · have hne : a ≠ b := fun e => by subst e; exact h1 h2
          rw [if_pos h2, if_neg (fun h => (hc.1 h).elim h1 (fun q => hne q.1)), if_neg (by intro e; exact hne (List.cons.inj e).1)]
        · have he : a = b := UInt8.toNat_inj.1 (by rw [UInt8.lt_iff_toNat_lt] at h1 h2; omega)
          subst he
          rw [if_neg h2]
          by_cases h3 : x < y
          · rw [if_pos h3, if_pos (hc.2 (.inr ⟨rfl, h3⟩))]
          · rw [if_neg h3, if_neg (fun h => (hc.1 h).elim h1 (fun q => h3 q.2))]
            simp

end Go.Proofs.Ytpnpgjjbincigaa
