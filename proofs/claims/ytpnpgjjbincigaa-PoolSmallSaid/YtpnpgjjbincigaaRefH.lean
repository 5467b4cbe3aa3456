/- Contracts of the reference's canon: Bytes, Sum. Contracts of the reference's canon: Read. -/
import Derived.Test.YtpnpgjjbincigaaRefF
import Derived.Test.YtpnpgjjbincigaaCanA
import Derived.Test.YtpnpgjjbincigaaCanP
import Derived.Laws.Bits64
import Derived.Laws.Bits64b
import Derived.Deep.RegionHeld3
import Derived.Deep.AppendLies
import Derived.Lib.SplitLaws
import Derived.Lib.IndexBytes
namespace Go.Proofs.Ytpnpgjjbincigaa
open Go.RowKit

theorem strCells_is (s : ByteArray) : Lib.byteCells (Lab.bs s) = Lib.strCells s := rfl

/-- 'append(v, s...)' of a string -/
theorem wpList_pushS {ops : Array Oper} {rest : List Oper} {o : Oper} {a : Act} {Q : Exit → Act → World → Prop} (hgd : o.guard = none) (sl x : Operand)
    (ho : o.op = .call { callee := .builtin .append, args := #[sl, x], argTypes := #[54, 9] })
    (B : Nat) (v : Value) (l : List UInt8) (w : World) (hs : a.eval sl = v) (hown : OwnBytes B v l w) (s : ByteArray) (hx : a.eval x = .string s) (hlen : l.length + s.size ≤ 140737488355328) (hB : B ≤ w.heap.size)
    (h : ∀ v' w', OwnBytes B v' (l ++ Lab.bs s) w' → w.grownBy w' v.ownBlock → wpList Try.prog ops Q rest (a.put o.dst v') w') :
    wpList Try.prog ops Q (o :: rest) a w := by
  obtain ⟨i0, hi, hz0, hz1, hz2⟩ := info_parts infoByte
  refine Lib.wpList_append_own_string w hgd sl x 54 9 ho B 5 i0 Try.underlying54 Try.underlying9 hi hz0 hz1 hz2 v l.length (Lib.byteCells l) hs hown s hx (by unfold maxLen; omega) hlen hB ?_
  intro v' w' h1 h2 _
  refine h v' w' ?_ h2
  unfold OwnBytes
  rw [Lib.byteCells_append, List.length_append, strCells_is]
  have e : (Lab.bs s).length = s.size := by simp [Lab.bs]
  rw [e]
  exact h1

theorem Can.raw_take (ls : List Lab.L) (k : Nat) (h : k < ls.length) : Can.raw (ls.take (k + 1)) = Can.raw (ls.take k) ++ Lab.bs ls[k].n ++ [255] ++ Lab.bs ls[k].v ++ [255] := by
  rw [List.take_add_one, List.getElem?_eq_getElem h]
  simp only [Can.raw, Option.toList_some, List.flatMap_append, List.flatMap_cons, List.flatMap_nil, List.append_nil, List.append_assoc]

set_option maxHeartbeats 1600000 in
set_option maxRecDepth 100000 in
theorem rbytes_is (p : Option Addr) (ls : List Lab.L) (n c : Nat) (r : List UInt8) (er : Int) (h : Can.bytes ls = (r, er)) (w : World) (hn : ls.length = n) (hA : Lab.At p ls w) (hF : Lab.Fit 4294967296 ls) (hl : n ≤ maxLen) :
    Calls Try.prog 91 #[.slice p n c] w fun e w' => e = .returned (.tuple #[.string ⟨r.toArray⟩, .int .i64 er]) ∧ Below w.heap.size w w' := by
  obtain ⟨b, hb⟩ : ∃ b, Lab.right ls = b := ⟨_, rfl⟩
  have HR := Lib.hid (fun w hA => rright_is p ls n c b hb w hn hA (fun x hx => by have := hF x hx; unfold maxLen; omega) hl)
  unfold maxLen at hl
  unfold Can.bytes at h
  rw [hb] at h
  cases b
  · rw [if_neg (by simp)] at h
    simp only [Prod.mk.injEq] at h
    obtain ⟨rfl, rfl⟩ := h
    have HC := Lib.hid (HR.out w hA)
    clear hb hF hn hA HR hl
    go_enter Try.func91, Try.ntmps91
    go_wp2_with (go_at_call 100; refine HC.out.mono ?_)
    first | rintro e w1 ⟨rfl, hb1⟩ | rintro e w1 rfl hb1
    go_wp2_with fail
    go_ret2
    exact ⟨rfl, hb1⟩
  · rw [if_pos rfl] at h
    simp only [Prod.mk.injEq] at h
    obtain ⟨hr, rfl⟩ := h
    have h64 : n ≤ 64 := by
      rcases Nat.lt_or_ge 64 n with h | h
      · have := Can.right_many ls (by omega)
        rw [hb] at this; simp at this
      · exact h
    have HC := Lib.hid (HR.out w hA)
    have HN := Lib.hid hn
    have HRR := Lib.hid hr
    clear hb hr hn HR hl
    go_enter Try.func91, Try.ntmps91
    go_wp2_with (go_at_call 100; refine HC.out.mono ?_)
    first | rintro e w1 ⟨rfl, hb1⟩ | rintro e w1 rfl hb1
    go_wp2_with fail
    go_loopw [4, 5] (fun v i wr => ∃ k : Nat, k ≤ n ∧ i = .int .i64 k ∧ OwnBytes w.heap.size v (Can.raw (ls.take k)) wr ∧ Below w.heap.size w wr) (fun _ i _ => n - (intOf i).toNat)
    case atStart => exact ⟨0, Nat.zero_le _, rfl, own_nil _ _, hb1⟩
    case round =>
      obtain ⟨k, hk, rfl, hown, hb⟩ := hrel
      have hsz := hb.size
      by_cases hlt : k < n
      · have hkl : k < ls.length := by rw [HN.out]; exact hlt
        have hA2 := hA.below hb (Nat.le_refl _)
        obtain ⟨b, o, rfl, hc⟩ := hA2.open k hkl
        have HT := Lib.hid (Can.raw_take ls k hkl)
        obtain ⟨x, hx⟩ : ∃ x, ls[k] = x := ⟨_, rfl⟩
        have hfx := hF x (by rw [← hx]; exact List.getElem_mem _)
        have c0 := (hc k hkl).1
        have c1 := (hc k hkl).2
        rw [hx] at c0 c1 HT
        have hbx : b < wr.heap.size := World.block_lt_of_cell? _ _ c0
        have hbw : b < w.heap.size := by
          obtain ⟨b', o', he, hc'⟩ := hA.open k hkl
          cases he
          exact World.block_lt_of_cell? _ _ (hc' k hkl).1
        have hlen : (Can.raw (ls.take k)).length ≤ 549755814016 := by
          have := Can.raw_length (ls.take k) _ (fun y hy => hF y (List.mem_of_mem_take hy))
          rw [List.length_take] at this
          exact Nat.le_trans this (Nat.le_trans (Nat.mul_le_mul_right _ (Nat.le_trans (Nat.min_le_left _ _) (Nat.le_trans hk h64))) (by decide))
        clear hx hc
        obtain ⟨l0, hl0⟩ : ∃ l0, Can.raw (ls.take k) = l0 := ⟨_, rfl⟩
        rw [hl0] at hown hlen HT
        have e1 : (Lab.bs x.n).length = x.n.size := by simp [Lab.bs]
        have e2 : (Lab.bs x.v).length = x.v.size := by simp [Lab.bs]
        clear hl0
        go_wp2_with (at_builtin; refine wpList_pushS rfl _ _ rfl _ _ _ _ rfl hown x.n rfl ?c1 ?c2 ?_)
        case c1 => omega
        case c2 => exact hsz
        intro v1 w2 hown1 hg1
        have hb2 : Below w.heap.size w w2 := hb.grown hg1 hsz (fun j hj => (World.ownsRow.lt hown j hj).1)
        go_wp2_with (at_builtin; refine wpList_push rfl _ _ rfl _ _ _ _ rfl hown1 [255] _ _ rfl rfl ?c3 ?c4 ?_)
        case c3 => simp only [List.length_append, List.length_cons, List.length_nil]; omega
        case c4 => exact hb2.size
        intro v2 w3 hown2 hg2
        have hb3 := below_push _ hb2 hown1 hg2
        have c1' : w3.cell? ⟨b, o + k * 2 + 1, none⟩ = some (.string x.v) := by
          rw [hb3.cell hbw, ← hb.cell hbw]; exact c1
        go_wp2_with (at_builtin; refine wpList_pushS rfl _ _ rfl _ _ _ _ rfl hown2 x.v rfl ?c5 ?c6 ?_)
        case c5 => simp only [List.length_append, List.length_cons, List.length_nil]; omega
        case c6 => exact hb3.size
        intro v3 w4 hown3 hg3
        have hb4 : Below w.heap.size w w4 := hb3.grown hg3 hb3.size (fun j hj => (World.ownsRow.lt hown2 j hj).1)
        go_wp2_with (at_builtin; refine wpList_push rfl _ _ rfl _ _ _ _ rfl hown3 [255] _ _ rfl rfl ?c7 ?c8 ?_)
        case c7 => simp only [List.length_append, List.length_cons, List.length_nil]; omega
        case c8 => exact hb4.size
        intro v4 w5 hown4 hg4
        have hb5 := below_push _ hb4 hown3 hg4
        go_wp2_with fail
        go_roundw
        case rel => exact ⟨k + 1, by omega, by go_num, by rw [HT.out]; simpa only [List.append_assoc, List.cons_append, List.nil_append] using hown4, hb5⟩
        case measure => simp [intOf]; omega
      · have hk2 : ls.take k = ls := List.take_of_length_le (by rw [HN.out]; omega)
        rw [hk2, HRR.out] at hown
        clear hk2
        have hcv := conv_own hown
        go_wp2_with fail
        go_ret2
        exact ⟨rfl, hb⟩

end Go.Proofs.Ytpnpgjjbincigaa
