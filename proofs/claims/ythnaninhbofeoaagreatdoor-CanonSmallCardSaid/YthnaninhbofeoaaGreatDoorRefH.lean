/- Contracts of the reference's canon: Bytes, Sum. Contracts of the reference's canon: Read. -/
import Derived.Test.YthnaninhbofeoaaGreatDoorRefF
import Derived.Test.YthnaninhbofeoaaGreatDoorCanA
import Derived.Laws.Bits64
import Derived.Laws.Bits64b
import Derived.Test.YthnaninhbofeoaaGreatDoorCanR
namespace Go.Proofs.YthnaninhbofeoaaGreatDoor
open Go.RowKit

theorem strCells_is (s : ByteArray) : Lib.byteCells (Lab.bs s) = Lib.strCells s := rfl

/-- 'append(v, s...)' of a string -/
theorem wpList_pushS {ops : Array Oper} {rest : List Oper} {o : Oper} {a : Act} {Q : Exit → Act → World → Prop} (hgd : o.guard = none) (sl x : Operand)
    (ho : o.op = .call { callee := .builtin .append, args := #[sl, x], argTypes := #[44, 9] })
    (B : Nat) (v : Value) (l : List UInt8) (w : World) (hs : a.eval sl = v) (hown : OwnBytes B v l w) (s : ByteArray) (hx : a.eval x = .string s) (hlen : l.length + s.size ≤ 140737488355328) (hB : B ≤ w.heap.size)
    (h : ∀ v' w', OwnBytes B v' (l ++ Lab.bs s) w' → w.grownBy w' v.ownBlock → wpList Tryz.prog ops Q rest (a.put o.dst v') w') :
    wpList Tryz.prog ops Q (o :: rest) a w := by
  obtain ⟨i0, hi, hz0, hz1, hz2⟩ := info_parts infoByte
  refine Lib.wpList_append_own_string w hgd sl x 44 9 ho B 5 i0 Tryz.underlying44 Tryz.underlying9 hi hz0 hz1 hz2 v l.length (Lib.byteCells l) hs hown s hx (by unfold maxLen; omega) hlen hB ?_
  intro v' w' h1 h2 _
  refine h v' w' ?_ h2
  unfold OwnBytes
  rw [Lib.byteCells_append, List.length_append, strCells_is]
  have e : (Lab.bs s).length = s.size := by simp [Lab.bs]
  rw [e]
  exact h1

theorem Can.raw_take (ls : List Lab.L) (k : Nat) (h : k < ls.length) : Can.raw (ls.take (k + 1)) = Can.raw (ls.take k) ++ Lab.bs ls[k].n ++ [255] ++ Lab.bs ls[k].v ++ [255] := by
  rw [List.take_add_one, List.getElem?_eq_getElem h]
  simp only [Can.raw, Option.toList_some, List.flatMap_append, List.flatMap_cons, List.flatMap_nil, List.append_nil, List.append_assoc]

set_option maxHeartbeats 1600000 in
set_option maxRecDepth 100000 in
theorem rbytes_is (p : Option Addr) (ls : List Lab.L) (n c : Nat) (r : List UInt8) (er : Int) (h : Can.bytes ls = (r, er)) (w : World) (hn : ls.length = n) (hA : Lab.At p ls w) (hF : Lab.Fit 4294967296 ls) (hl : n ≤ maxLen) :
    Calls Tryz.prog 17 #[.slice p n c] w fun e w' => e = .returned (.tuple #[.string ⟨r.toArray⟩, .int .i64 er]) ∧ Below w.heap.size w w' := by
  obtain ⟨b, hb⟩ : ∃ b, Lab.right ls = b := ⟨_, rfl⟩
  have HR := Lib.hid (fun w hA => rright_is p ls n c b hb w hn hA (fun x hx => by have := hF x hx; unfold maxLen; omega) hl)
  unfold maxLen at hl
  unfold Can.bytes at h
  rw [hb] at h
  cases b
  · rw [if_neg (by simp)] at h
    simp only [Prod.mk.injEq] at h
    obtain ⟨rfl, rfl⟩ := h
    have HC := Lib.hid (HR.out w hA)
    clear hb hF hn hA HR hl
    go_enter Tryz.func17, Tryz.ntmps17
    go_wp2_with (go_at_call 49; refine HC.out.mono ?_)
    first | rintro e w1 ⟨rfl, hb1⟩ | rintro e w1 rfl hb1
    go_wp2_with fail
    go_ret2
    exact ⟨rfl, hb1⟩
  · rw [if_pos rfl] at h
    simp only [Prod.mk.injEq] at h
    obtain ⟨hr, rfl⟩ := h
    have h64 : n ≤ 64 := by
      rcases Nat.lt_or_ge 64 n with h | h
      · have := Can.right_many ls (by omega)
        rw [hb] at this; simp at this
      · exact h
    have HC := Lib.hid (HR.out w hA)
    have HN := Lib.hid hn
    have HRR := Lib.hid hr
    clear hb hr hn HR hl
    go_enter Tryz.func17, Tryz.ntmps17
    go_wp2_with (go_at_call 49; refine HC.out.mono ?_)
    first | rintro e w1 ⟨rfl, hb1⟩ | rintro e w1 rfl hb1
    go_wp2_with fail
    go_loopw [4, 5] (fun v i wr => ∃ k : Nat, k ≤ n ∧ i = .int .i64 k ∧ OwnBytes w.heap.size v (Can.raw (ls.take k)) wr ∧ Below w.heap.size w wr) (fun _ i _ => n - (intOf i).toNat)
    case atStart => exact ⟨0, Nat.zero_le _, rfl, own_nil _ _, hb1⟩
    case round =>
      obtain ⟨k, hk, rfl, hown, hb⟩ := hrel
      have hsz := hb.size
      by_cases hlt : k < n
      · have hkl : k < ls.length := by rw [HN.out]; exact hlt
        have hA2 := hA.below hb (Nat.le_refl _)
        obtain ⟨b, o, rfl, hc⟩ := hA2.open k hkl
        have HT := Lib.hid (Can.raw_take ls k hkl)
        obtain ⟨x, hx⟩ : ∃ x, ls[k] = x := ⟨_, rfl⟩
        have hfx := hF x (by rw [← hx]; exact List.getElem_mem _)
        have c0 := (hc k hkl).1
        have c1 := (hc k hkl).2
        rw [hx] at c0 c1 HT
        have hbx : b < wr.heap.size := World.block_lt_of_cell? _ _ c0
        have hbw : b < w.heap.size := by
          obtain ⟨b', o', he, hc'⟩ := hA.open k hkl
          cases he
          exact World.block_lt_of_cell? _ _ (hc' k hkl).1
        have hlen : (Can.raw (ls.take k)).length ≤ 549755814016 := by
          have := Can.raw_length (ls.take k) _ (fun y hy => hF y (List.mem_of_mem_take hy))
          rw [List.length_take] at this
          exact Nat.le_trans this (Nat.le_trans (Nat.mul_le_mul_right _ (Nat.le_trans (Nat.min_le_left _ _) (Nat.le_trans hk h64))) (by decide))
        clear hx hc
        obtain ⟨l0, hl0⟩ : ∃ l0, Can.raw (ls.take k) = l0 := ⟨_, rfl⟩
        rw [hl0] at hown hlen HT
        have e1 : (Lab.bs x.n).length = x.n.size := by simp [Lab.bs]
        have e2 : (Lab.bs x.v).length = x.v.size := by simp [Lab.bs]
        clear hl0
        go_wp2_with (at_builtin; refine wpList_pushS rfl _ _ rfl _ _ _ _ rfl hown x.n rfl ?c1 ?c2 ?_)
        case c1 => omega
        case c2 => exact hsz
        intro v1 w2 hown1 hg1
        have hb2 : Below w.heap.size w w2 := hb.grown hg1 hsz (fun j hj => (World.ownsRow.lt hown j hj).1)
        go_wp2_with (at_builtin; refine wpList_push rfl _ _ rfl _ _ _ _ rfl hown1 [255] _ _ rfl rfl ?c3 ?c4 ?_)
        case c3 => simp only [List.length_append, List.length_cons, List.length_nil]; omega
        case c4 => exact hb2.size
        intro v2 w3 hown2 hg2
        have hb3 := below_push _ hb2 hown1 hg2
        have c1' : w3.cell? ⟨b, o + k * 2 + 1, none⟩ = some (.string x.v) := by
          rw [hb3.cell hbw, ← hb.cell hbw]; exact c1
        go_wp2_with (at_builtin; refine wpList_pushS rfl _ _ rfl _ _ _ _ rfl hown2 x.v rfl ?c5 ?c6 ?_)
        case c5 => simp only [List.length_append, List.length_cons, List.length_nil]; omega
        case c6 => exact hb3.size
        intro v3 w4 hown3 hg3
        have hb4 : Below w.heap.size w w4 := hb3.grown hg3 hb3.size (fun j hj => (World.ownsRow.lt hown2 j hj).1)
        go_wp2_with (at_builtin; refine wpList_push rfl _ _ rfl _ _ _ _ rfl hown3 [255] _ _ rfl rfl ?c7 ?c8 ?_)
        case c7 => simp only [List.length_append, List.length_cons, List.length_nil]; omega
        case c8 => exact hb4.size
        intro v4 w5 hown4 hg4
        have hb5 := below_push _ hb4 hown3 hg4
        go_wp2_with fail
        go_roundw
        case rel => exact ⟨k + 1, by omega, by go_num, by rw [HT.out]; simpa only [List.append_assoc, List.cons_append, List.nil_append] using hown4, hb5⟩
        case measure => simp [intOf]; omega
      · have hk2 : ls.take k = ls := List.take_of_length_le (by rw [HN.out]; omega)
        rw [hk2, HRR.out] at hown
        clear hk2
        have hcv := conv_own hown
        go_wp2_with fail
        go_ret2
        exact ⟨rfl, hb⟩

theorem Can.sum_cons (h : Nat) (c : UInt8) (l : List UInt8) : Can.sum h (c :: l) = Can.sum (Can.step h c) l := by
  unfold Can.sum
  rw [List.foldl_cons]

theorem bits_xor_u8 (a b : Nat) (ha : a < 256) (hb : b < 256) : bits .xor .u8 (a : Int) (b : Int) = ((a ^^^ b : Nat) : Int) := by
  have hx : a ^^^ b < 2 ^ 8 := Nat.xor_lt_two_pow (by omega) (by omega)
  have h1 : (BitVec.ofInt 8 (a : Int)).toNat = a := by
    rw [BitVec.ofInt_natCast, BitVec.toNat_ofNat]; exact Nat.mod_eq_of_lt (by omega)
  have h2 : (BitVec.ofInt 8 (b : Int)).toNat = b := by
    rw [BitVec.ofInt_natCast, BitVec.toNat_ofNat]; exact Nat.mod_eq_of_lt (by omega)
  show IntKind.u8.wrap ((BitVec.ofInt 8 (a : Int) ^^^ BitVec.ofInt 8 (b : Int)).toNat : Int) = _
  rw [BitVec.toNat_xor, h1, h2]
  simp [IntKind.wrap, IntKind.bits, IntKind.signed]
  omega
theorem Can.rstep_is (h : Nat) (c : UInt8) (hh : h < 18446744073709551616) :
    IntKind.u64.wrap (IntKind.u64.wrap ((h : Int) - (h : Int) % 256 + IntKind.u64.wrap (bits BinOp.xor IntKind.u8 ((h : Int) % 256) (c.toNat : Int))) * 1099511628211) = (Can.step h c : Nat) := by
  have hc := c.toNat_lt
  have e : (h : Int) % 256 = ((h % 256 : Nat) : Int) := by omega
  have hx : (h % 256) ^^^ c.toNat < 2 ^ 8 := Nat.xor_lt_two_pow (by omega) (by omega)
  have hl := Can.xor_low h c.toNat (by omega)
  rw [e, bits_xor_u8 _ _ (by omega) (by omega), IntKind.wrap_u64, IntKind.wrap_u64, IntKind.wrap_u64]
  unfold Can.step
  rw [hl]
  generalize (h % 256) ^^^ c.toNat = z at hx
  omega

set_option maxHeartbeats 800000 in
theorem rstep_call (h : Nat) (c : UInt8) (hh : h < 18446744073709551616) (r : Nat) (hr : Can.step h c = r) (w : World) :
    Calls Tryz.prog 105 #[.int .u64 (h : Int), .int .u8 (c.toNat : Int)] w fun e w' => e = .returned (.int .u64 (r : Int)) ∧ w = w' := by
  have HS := Lib.hid (Can.rstep_is h c hh)
  have HR := Lib.hid hr
  have i2 : (h : Int) < 18446744073709551616 := by omega
  have i3 : (c.toNat : Int) < 256 := by have := c.toNat_lt; omega
  clear hr
  go_enter Tryz.func105, Tryz.ntmps105
  go_wp2_with fail
  go_ret
  refine ⟨?_, rfl⟩
  rw [← HR.out, ← HS.out]
  rfl

set_option maxHeartbeats 800000 in
set_option maxRecDepth 100000 in
theorem radd_is (h : Nat) (hh : h < 18446744073709551616) (s : ByteArray) (hs : s.size ≤ maxLen) (r : Nat) (hr : Can.sum h s.data.toList = r) (w : World) :
    Calls Tryz.prog 72 #[.int .u64 (h : Int), .string s] w fun e w' => e = .returned (.int .u64 (r : Int)) ∧ w = w' := by
  unfold maxLen at hs
  have H0 : Hid (Can.sum h (s.data.toList.drop 0) = r) := by
    show Can.sum h (s.data.toList.drop 0) = r
    rw [List.drop_zero]; exact hr
  clear hr
  go_enter Tryz.func72, Tryz.ntmps72
  go_wp2_with fail
  go_loop [0, 5] (fun v i => ∃ k g : Nat, k ≤ s.size ∧ i = .int .i64 k ∧ v = .int .u64 (g : Int) ∧ g < 18446744073709551616 ∧ Hid (Can.sum g (s.data.toList.drop k) = r)) (fun _ i => s.size - (intOf i).toNat)
  case atStart => exact ⟨0, h, Nat.zero_le _, rfl, rfl, hh, H0⟩
  case round =>
    obtain ⟨k, g, hk, rfl, rfl, hg, HK⟩ := hrel
    by_cases hlt : k < s.size
    · obtain ⟨t, ht⟩ : ∃ t, Can.step g s[k] = t := ⟨_, rfl⟩
      have hG : Hid (Can.sum t (s.data.toList.drop (k + 1)) = r) := by
        show Can.sum t (s.data.toList.drop (k + 1)) = r
        rw [← HK.out, Utf.drop_cons s k hlt, ← ht]
        exact (Can.sum_cons g s[k] _).symm
      have htl : t < 18446744073709551616 := by rw [← ht]; exact Can.step_lt _ _
      have HC := Lib.hid (fun w => rstep_call g s[k] hg t ht w)
      clear ht HK
      go_wp2_with (go_at_call 105; refine (HC.out _).mono ?_)
      try rintro e w1 ⟨rfl, rfl⟩
      go_wp2_with fail
      go_round
      case rel => exact ⟨k + 1, t, by omega, by go_num, rfl, htl, hG⟩
      case measure => simp [intOf]; omega
    · have hG : Hid (g = r) := by
        show g = r
        rw [← HK.out, List.drop_eq_nil_iff.2 (by simp; omega)]
        rfl
      clear HK
      go_wp2_with fail
      go_ret
      exact ⟨by rw [← hG.out]; rfl, rfl⟩

set_option maxHeartbeats 400000 in
theorem rsum_is (s : ByteArray) (hs : s.size ≤ maxLen) (r : Nat) (hr : Can.sum 14695981039346656037 s.data.toList = r) (w : World) :
    Calls Tryz.prog 41 #[.string s] w fun e W' => e = .returned (.int .u64 (r : Int)) ∧ w = W' := by
  have h := radd_is 14695981039346656037 (by omega) s hs r hr w
  have HC := Lib.hid h
  clear h hr hs
  go_enter Tryz.func41, Tryz.ntmps41
  go_wp2_with (go_at_call 72; refine HC.out.mono ?_)
  try rintro e w1 ⟨rfl, rfl⟩
  go_wp2_with fail
  go_ret
  exact ⟨rfl, rfl⟩
end Go.Proofs.YthnaninhbofeoaaGreatDoor
namespace Go.Proofs.YthnaninhbofeoaaGreatDoor
open Go.RowKit

def Can.dl (x : ByteArray) : List UInt8 := x.data.toList
theorem Can.pairs_one : ∀ (pre : List ByteArray) (x : ByteArray), pre.length % 2 = 0 → Can.pairs ((pre ++ [x]).map Can.dl) = Can.pairs (pre.map Can.dl)
  | [], _, _ => rfl
  | [_], _, h => by simp at h
  | a :: b :: r, x, h => by
    have := Can.pairs_one r x (by simp only [List.length_cons] at h; omega)
    simp only [List.cons_append, List.map_cons, Can.pairs]
    rw [this]
theorem Can.pairs_two : ∀ (pre : List ByteArray) (x y : ByteArray), pre.length % 2 = 0 → Can.pairs ((pre ++ [x, y]).map Can.dl) = Can.pairs (pre.map Can.dl) ++ [⟨x, y⟩]
  | [], _, _, _ => rfl
  | [_], _, _, h => by simp at h
  | a :: b :: r, x, y, h => by
    have := Can.pairs_two r x y (by simp only [List.length_cons] at h; omega)
    simp only [List.cons_append, List.map_cons, Can.pairs]
    rw [this]
theorem Can.dl_extract (s : ByteArray) (f k : Nat) : Can.dl (s.extract f k) = (s.data.toList.drop f).take (k - f) := by
  unfold Can.dl
  simp [ByteArray.data_extract, List.extract_eq_take_drop]
theorem Can.dl_more (s : ByteArray) (f k : Nat) (h1 : f ≤ k) (h2 : k < s.size) : Can.dl (s.extract f (k + 1)) = Can.dl (s.extract f k) ++ [s[k]] := by
  rw [Can.dl_extract, Can.dl_extract, show k + 1 - f = k - f + 1 by omega, List.take_add_one]
  have : (s.data.toList.drop f)[k - f]? = some s[k] := by
    rw [List.getElem?_drop, show f + (k - f) = k by omega, List.getElem?_eq_getElem (by rw [Array.length_toList]; exact h2)]
    rfl
  rw [this]
  rfl
theorem Can.dl_none (s : ByteArray) (k : Nat) : Can.dl (s.extract k k) = [] := by
  rw [Can.dl_extract, Nat.sub_self, List.take_zero]
theorem Can.split_at (s : ByteArray) (f k : Nat) (h1 : f ≤ k) (h2 : k < s.size) :
    Can.split (Can.dl (s.extract f k)) (s.data.toList.drop k) = if s[k] = 255 then Can.dl (s.extract f k) :: Can.split (Can.dl (s.extract (k + 1) (k + 1))) (s.data.toList.drop (k + 1)) else Can.split (Can.dl (s.extract f (k + 1))) (s.data.toList.drop (k + 1)) := by
  rw [Utf.drop_cons s k h2, Can.dl_none, Can.dl_more s f k h1 h2]
  rfl

set_option maxHeartbeats 3200000 in
set_option maxRecDepth 100000 in
theorem rread_is (s : ByteArray) (ls : List Lab.L) (er : Int) (h : Can.read s.data.toList = (ls, er)) (w : World) (hs : s.size ≤ 1000000) :
    Calls Tryz.prog 42 #[.string s] w fun e w' => (∃ v, e = .returned (.tuple #[v, .int .i64 er]) ∧ OwnLabels w.heap.size v ls w') ∧ Below w.heap.size w w' := by
  rw [Can.read_refEnd] at h
  have H0 : Hid (Can.split [] s.data.toList = (([] : List ByteArray).map Can.dl) ++ [] ++ Can.split (Can.dl (s.extract 0 0)) (s.data.toList.drop 0)) := by
    show Can.split [] s.data.toList = _
    rw [Can.dl_none, List.drop_zero]; rfl
  have HE := Lib.hid h
  have i0 : (s.size : Int) ≤ 1000000 := by omega
  clear h
  go_enter Tryz.func42, Tryz.ntmps42
  go_wp2_with fail
  go_loopw [4, 5, 6, 7, 8] (fun v fv nv dv iv wr => ∃ (k f : Nat) (pre : List ByteArray) (nm : ByteArray) (nd : Bool), k ≤ s.size ∧ f ≤ k ∧ iv = .int .i64 k ∧ fv = .int .i64 f ∧ nv = .string nm ∧ dv = .bool nd ∧ pre.length % 2 = 0 ∧ pre.length + nd.toNat ≤ f ∧ (∀ x ∈ pre, (Can.dl x).length ≤ 1000000) ∧ (Can.dl nm).length ≤ 1000000 ∧
      OwnLabels w.heap.size v (Can.pairs (pre.map Can.dl)) wr ∧ Hid (Can.split [] s.data.toList = pre.map Can.dl ++ (if nd = true then [Can.dl nm] else []) ++ Can.split (Can.dl (s.extract f k)) (s.data.toList.drop k)) ∧ Below w.heap.size w wr) (fun _ _ _ _ i _ => s.size - (intOf i).toNat)
  case atStart => exact ⟨0, 0, [], _, false, Nat.zero_le _, Nat.le_refl _, rfl, rfl, rfl, rfl, rfl, by simp, by simp, by simp [Can.dl], OwnLabels.nil _ _, H0, Below.refl _ _⟩
  case round =>
    obtain ⟨k, f, pre, nm, nd, hk, hf, rfl, rfl, rfl, rfl, hpe, hpl, hpf, hnf, hown, HK, hb⟩ := hrel
    have hsz := hb.size
    by_cases hlt : k < s.size
    · have hst := Can.split_at s f k hf hlt
      have hck : (s[k].toNat : Int) < 256 := by have := s[k].toNat_lt; omega
      by_cases h255 : s[k] = 255
      · rw [if_pos h255] at hst
        have c1 : ((s[k].toNat : Int) == 255) = true := by rw [h255]; rfl
        have c2 : ((s[k].toNat : Int) != 255) = false := by rw [h255]; rfl
        have f1 : (f : Int) ≤ (k : Int) := by omega
        have f2 : (k : Int) ≤ (s.size : Int) := by omega
        have HX := Lib.hid (Can.pairs_two pre nm (s.extract f k) hpe)
        have HT := Lib.hid hst
        have H5 := Lib.hid h255
        have hxf := Lib.hid (show (Can.dl (s.extract f k)).length ≤ 1000000 by rw [Can.dl_extract, List.length_take, List.length_drop, Array.length_toList]; exact Nat.le_trans (Nat.min_le_left _ _) (by omega))
        have HPF := Lib.hid (show ∀ x ∈ pre ++ [nm, s.extract f k], (Can.dl x).length ≤ 1000000 by
          intro x hx
          rw [List.mem_append] at hx
          rcases hx with hx | hx
          · exact hpf x hx
          · simp only [List.mem_cons, List.not_mem_nil, or_false] at hx
            rcases hx with rfl | rfl
            · exact hnf
            · exact hxf.out)
        have hlp : (Can.pairs (pre.map Can.dl)).length ≤ 1000000 := by rw [Can.pairs_length, List.length_map]; omega
        clear hst h255
        cases nd
        · have hG : Hid (Can.split [] s.data.toList = pre.map Can.dl ++ (if true = true then [Can.dl (s.extract f k)] else []) ++ Can.split (Can.dl (s.extract (k + 1) (k + 1))) (s.data.toList.drop (k + 1))) := by
            show Can.split [] s.data.toList = _
            rw [HK.out, HT.out]
            simp
          have hpl2 : pre.length ≤ f := by simpa using hpl
          clear HK HT HX hpl
          go_wp2_with fail
          go_roundw
          case rel => exact ⟨k + 1, k + 1, pre, _, true, by omega, by omega, by go_num, by go_num, rfl, rfl, hpe, by simp; omega, hpf, hxf.out, hown, hG, hb⟩
          case measure => simp [intOf]; omega
        · have hG : Hid (Can.split [] s.data.toList = (pre ++ [nm, s.extract f k]).map Can.dl ++ (if false = true then [Can.dl (s.extract f k)] else []) ++ Can.split (Can.dl (s.extract (k + 1) (k + 1))) (s.data.toList.drop (k + 1))) := by
            show Can.split [] s.data.toList = _
            rw [HK.out, HT.out]
            simp
          have hpl2 : pre.length + 1 ≤ f := by simpa using hpl
          clear HK HT hpl
          obtain ⟨l0, hl0⟩ : ∃ l0, Can.pairs (pre.map Can.dl) = l0 := ⟨_, rfl⟩
          rw [hl0] at hown hlp HX
          clear hl0
          go_wp2_with (at_builtin; refine wpList_pushL 34 Tryz.underlying34 rfl _ _ rfl _ _ _ _ rfl hown ⟨nm, s.extract f k⟩ _ _ rfl _ rfl (by simp) ?c1 ?c2 ?_)
          case c1 => omega
          case c2 => exact hsz
          intro v' w4 hown' hg
          have hb5 := below_push _ hb hown hg
          go_wp2_with fail
          go_roundw
          case rel => exact ⟨k + 1, k + 1, pre ++ [nm, s.extract f k], _, false, by omega, by omega, by go_num, by go_num, rfl, rfl, by rw [List.length_append]; simp only [List.length_cons, List.length_nil]; omega, by rw [List.length_append]; simp only [List.length_cons, List.length_nil, Bool.toNat_false]; omega, HPF.out, hxf.out, by rw [HX.out]; exact hown', hG, hb5⟩
          case measure => simp [intOf]; omega
      · rw [if_neg h255] at hst
        have hne : ¬ (s[k].toNat : Int) = 255 := by intro e; apply h255; rw [← UInt8.toNat_inj]; have : (255 : UInt8).toNat = 255 := rfl; omega
        have c1 : ((s[k].toNat : Int) == 255) = false := by simpa using hne
        have c2 : ((s[k].toNat : Int) != 255) = true := by simpa using hne
        have hG : Hid (Can.split [] s.data.toList = pre.map Can.dl ++ (if nd = true then [Can.dl nm] else []) ++ Can.split (Can.dl (s.extract f (k + 1))) (s.data.toList.drop (k + 1))) := by
          show Can.split [] s.data.toList = _
          rw [HK.out, hst]
        have H5 := Lib.hid h255
        clear HK hst h255 hne
        go_wp2_with fail
        go_roundw
        case rel => exact ⟨k + 1, f, pre, nm, nd, by omega, by omega, by go_num, rfl, rfl, rfl, hpe, hpl, hpf, hnf, hown, hG, hb⟩
        case measure => simp [intOf]; omega
    · obtain rfl : k = s.size := by omega
      have h := HE.out
      rw [HK.out, List.drop_eq_nil_iff.2 (by rw [Array.length_toList]; exact Nat.le_refl _)] at h
      have hsp : Can.split (Can.dl (s.extract f s.size)) [] = [Can.dl (s.extract f s.size)] := rfl
      rw [hsp] at h
      have hcl : (Can.dl (s.extract f s.size)).length = s.size - f := by
        rw [Can.dl_extract, List.length_take, List.length_drop, Array.length_toList]
        exact Nat.min_eq_left (Nat.le_refl _)
      have h1 := Can.pairs_one pre (s.extract f s.size) hpe
      clear hsp HK HE
      cases nd
      · simp only [Bool.false_eq_true, if_false, List.append_nil] at h
        unfold Can.refEnd at h
        have hl : (pre.map Can.dl ++ [Can.dl (s.extract f s.size)]).length = pre.length + 1 := by simp
        have e : pre.map Can.dl ++ [Can.dl (s.extract f s.size)] = (pre ++ [s.extract f s.size]).map Can.dl := by simp
        have hg : (pre.map Can.dl ++ [Can.dl (s.extract f s.size)]).getLast? = some (Can.dl (s.extract f s.size)) := by simp
        rw [hl, hg, e, h1] at h
        clear hl hg e h1
        by_cases hfs : f < s.size
        · rw [if_pos (.inr (.inl (fun e => by rw [Option.some.inj e] at hcl; simp at hcl; omega)))] at h
          simp only [Prod.mk.injEq] at h
          obtain ⟨rfl, rfl⟩ := h
          have i1 : (f : Int) < (s.size : Int) := by omega
          clear hcl hpe hpl hlt
          go_wp2_with fail
          go_ret2
          exact ⟨⟨_, rfl, OwnLabels.nil _ _⟩, hb⟩
        · have hnil : Can.dl (s.extract f s.size) = [] := List.eq_nil_of_length_eq_zero (by omega)
          have i1 : (s.size : Int) ≤ (f : Int) := by omega
          obtain ⟨p, c, rfl, hAt, hl1, hl2⟩ := hown.open
          have hfit : Lab.Fit 1000000 (Can.pairs (pre.map Can.dl)) := Can.pairs_fit _ _ fun a ha => by
            obtain ⟨x, hx, rfl⟩ := List.mem_map.1 ha
            exact hpf x hx
          obtain ⟨ls1, hls1⟩ : ∃ ls1, Can.pairs (pre.map Can.dl) = ls1 := ⟨_, rfl⟩
          have hpl1 := Can.pairs_length (pre.map Can.dl)
          rw [hls1] at h hown hAt hfit hpl1 hl1 ⊢
          rw [List.length_map] at hpl1
          obtain ⟨br, hbr⟩ : ∃ br, Lab.right ls1 = br := ⟨_, rfl⟩
          rw [hbr] at h
          have HR := Lib.hid (rright_is p ls1 ls1.length c br hbr wr rfl hAt (fun x hx => by have := hfit x hx; unfold maxLen; omega) (by unfold maxLen; omega))
          obtain ⟨N, hN⟩ : ∃ N, ls1.length = N := ⟨_, rfl⟩
          rw [hN] at HR hown ⊢
          have HO := Lib.hid hown
          cases br
          · rw [if_pos (.inr (.inr rfl))] at h
            simp only [Prod.mk.injEq] at h
            obtain ⟨rfl, rfl⟩ := h
            clear hcl hpe hpl hlt hls1 hfit hAt hown hbr hl1 hpl1 hnil hfs hN
            go_wp2_with (go_at_call 49; refine HR.out.mono ?_)
            first | rintro e w5 ⟨rfl, hb5⟩ | rintro e w5 rfl hb5
            go_wp2_with fail
            go_ret2
            exact ⟨⟨_, rfl, OwnLabels.nil _ _⟩, below_next hb hb5⟩
          · rw [if_neg (by simp only [not_or, hnil]; exact ⟨by omega, by simp, by simp⟩)] at h
            simp only [Prod.mk.injEq] at h
            obtain ⟨rfl, rfl⟩ := h
            clear hcl hpe hpl hlt hls1 hfit hAt hown hbr hl1 hpl1 hnil hfs
            go_wp2_with (go_at_call 49; refine HR.out.mono ?_)
            first | rintro e w5 ⟨rfl, hb5⟩ | rintro e w5 rfl hb5
            go_wp2_with fail
            go_ret2
            exact ⟨⟨_, rfl, row_below HO.out hb5 (Nat.le_refl _)⟩, below_next hb hb5⟩
      · simp only [if_true] at h
        unfold Can.refEnd at h
        rw [if_pos (.inl (by simp only [List.length_append, List.length_map, List.length_cons, List.length_nil]; omega))] at h
        simp only [Prod.mk.injEq] at h
        obtain ⟨rfl, rfl⟩ := h
        clear hcl hpe hpl hlt h1
        go_wp2_with fail
        go_ret2
        exact ⟨⟨_, rfl, OwnLabels.nil _ _⟩, hb⟩
end Go.Proofs.YthnaninhbofeoaaGreatDoor
