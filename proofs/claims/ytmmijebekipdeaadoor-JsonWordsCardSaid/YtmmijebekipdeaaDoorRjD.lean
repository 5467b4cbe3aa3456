/- The reference of chapter 14: quoted, Quote. -/
import Derived.Test.YtmmijebekipdeaaDoorRjA
import Derived.Test.YtmmijebekipdeaaDoorRjB
import Derived.Test.YtmmijebekipdeaaDoorRjC
import Derived.Test.YtmmijebekipdeaaDoorJsZ
import Derived.Deep.RegionHeld3
import Derived.Deep.AppendLies
namespace Go.Proofs.YtmmijebekipdeaaDoor
open Go.RowKit
set_option maxRecDepth 100000
set_option linter.unusedVariables false

/-- 'append(v, x..)' of bytes written out, at a step of a region that draws its order -/
theorem step_pushB {ops : Array Oper} {o : Oper} {a : Act} {K : Act → World → Prop} {Q : Exit → Act → World → Prop} {E : Prop} {w : World} (hgd : o.guard = none) (s x : Operand)
    (ho : o.op = .call { callee := .builtin .append, args := #[s, x], argTypes := #[38, 38] })
    (B : Nat) (v : Value) (l : List UInt8) (hs : a.eval s = v) (hown : OwnBytes B v l w) (xs : List UInt8) (G c : Nat) (C : Array Value) (hC : C = (Lib.byteCells xs).toArray) (hx0 : 0 < xs.length) (hx : a.eval x = .slice (some ⟨G, 0, none⟩) xs.length c)
    (hG : w.heap[G]? = some (.cells C 5)) (hlen : l.length + xs.length ≤ 140737488355328) (hB : B ≤ w.heap.size)
    (h : ∀ v' w', OwnBytes B v' (l ++ xs) w' → w.grownBy w' v.ownBlock → K (a.put o.dst v') w') :
    if Region.wanted o (yielded ops a.tmps) = true then Oper.wp Tryd.prog o a w K Q else E := by
  obtain ⟨i0, hi, hz0, hz1, hz2⟩ := info_parts infoByte
  subst hC
  refine step_append_lies w hgd s x 38 ho B 5 i0 _ 1 1 Tryd.underlying38 hi hz0 hz1 hz2 rfl (by decide) v l.length (Lib.byteCells l) hs hown ⟨G, 0, none⟩ xs.length c (Lib.byteCells xs) hx (by rw [Lib.byteCells_length]; omega)
    (World.news_of_block (cs := (Lib.byteCells xs).toArray) hG) (byteCells_one _) hx0 (by unfold maxLen; omega) (by omega) hB w.heap.size rfl ?_
  intro g cap w' h1 h2 _ _
  refine h _ w' ?_ h2
  unfold OwnBytes
  rw [Lib.byteCells_append, List.length_append]
  exact h1
theorem heap_alloc_new (w : World) (o : Obj) : (w.alloc o).heap[w.heap.size]? = some o := alloc_new w o
theorem Rj.wrap_u8 (n : Nat) (h : n < 256) : IntKind.u8.wrap (n : Int) = (n : Int) := by
  have := (by decide +kernel : ∀ n : Fin 256, IntKind.u8.wrap (n.val : Int) = (n.val : Int)) ⟨n, h⟩
  exact this
theorem own_at {B g : Nat} {w : World} (l : List UInt8) {C : Array Value} (hh : w.heap[g]? = some (.cells C 5)) (hC : C.toList = Lib.byteCells l) (hB : B ≤ g) (hl : l.length ≤ 1000) : OwnBytes B (.slice (some ⟨g, 0, none⟩) l.length l.length) l w := own_lit l hh hC hB (by unfold maxLen; omega)
theorem Rj.drop_get (s : ByteArray) (i : Nat) (h : i < s.size) : s.data.toList.drop i = s[i] :: s.data.toList.drop (i + 1) := by
  rw [List.drop_eq_getElem_cons (by simpa using h)]
  rfl
set_option maxHeartbeats 8000000 in
theorem Rj.quoted_is (s : ByteArray) (w : World) (hs : s.size ≤ 1000000000000) :
    Calls Tryd.prog 76 #[.string s] w fun e w' => ∃ v, e = .returned v ∧ OwnBytes w.heap.size v (Js.quo s.data.toList) w' ∧ Below w.heap.size w w' := by
  obtain ⟨T, hT⟩ : ∃ T, Js.quo s.data.toList = T := ⟨_, rfl⟩
  have hql := Js.quo_len s.data.toList
  have hsl : s.data.toList.length = s.size := by simp
  rw [hT] at hql
  rw [hT]
  have hTl : T.length ≤ 7000000000000 := by omega
  have HT : Hid ([34] ++ ((s.data.toList.drop 0).flatMap Js.qc ++ [34]) = T) := by show _ = T; rw [← hT, List.drop_zero]; rfl
  clear hT hql hsl
  go_enter Tryd.func76, Tryd.ntmps76
  go_wp2_with fail
  go_loopw [4, 5] (fun v4 v5 wr => ∃ (i : Nat) (X : List UInt8), i ≤ s.size ∧ v5 = .int .i64 i ∧ Hid (X ++ ((s.data.toList.drop i).flatMap Js.qc ++ [34]) = T) ∧ Hid (OwnBytes w.heap.size v4 X wr) ∧ Hid (Below w.heap.size w wr)) (fun _ v5 _ => s.size - (intOf v5).toNat)
  case atStart => exact ⟨0, [34], Nat.zero_le _, rfl, HT.out, own_at [34] (alloc_new _ _) rfl (Nat.le_refl _) (by simp), Rj.bel1 w _⟩
  case round =>
    clear HT
    obtain ⟨i, X, hi, rfl, HT, HO, HB⟩ := hrel
    have hz := HB.out.size
    have hXl : X.length + 1 ≤ T.length := by
      have h9 : _ = T := HT.out
      rw [← h9, List.length_append, List.length_append]
      simp
    by_cases h : i < s.size
    · have g1 : (i : Int) < s.size := by omega
      have g0 : (0 : Int) ≤ i := by omega
      have HT2 : Hid (X ++ (Js.qc s[i] ++ (s.data.toList.drop (i + 1)).flatMap Js.qc ++ [34]) = T) := by
        have h9 : _ = T := HT.out
        rw [Rj.drop_get s i h, List.flatMap_cons] at h9
        exact h9
      have hlt := UInt8.toNat_lt s[i]
      clear HT
      by_cases h34 : s[i].toNat = 34
      · have e34 : s[i] = 34 := UInt8.toNat_inj.1 (by rw [h34]; rfl)
        have b34 : ((s[i].toNat : Int) == 34) = true := Js.beq_t (by omega)
        have HQ : Hid (Js.qc s[i] = [92, s[i]]) := by show _ = _; unfold Js.qc; rw [if_pos (by simp [e34])]
        have HT3 : Hid (X ++ [92, s[i]] ++ ((s.data.toList.drop (i + 1)).flatMap Js.qc ++ [34]) = T) := by
          have h9 : _ = T := HT2.out
          rw [show Js.qc s[i] = _ from HQ.out] at h9
          show _ = T
          rw [← h9]
          simp only [List.append_assoc]
        have hXl2 : X.length + 2 ≤ 7000000000000 := by
          have h9 : _ = T := HT3.out
          have h8 := congrArg List.length h9
          simp only [List.length_append, List.length_cons, List.length_nil] at h8
          omega
        clear e34 h34 HT2 HQ
        go_wp2_with (at_builtin; refine wpList_push rfl _ _ rfl _ _ _ _ rfl HO.out [92, s[i]] _ _ rfl rfl (by simp only [List.length_cons, List.length_nil]; omega) hz ?_)
        intro v' w1 hown hg
        have HO1 := Lib.hid hown
        have HB1 : Hid (Below w.heap.size w w1) := (HB.out.alloc hz _).grown hg (by simp; exact Nat.le_succ_of_le hz) (fun j hj => (World.ownsRow.lt HO.out j hj).1)
        clear hown hg
        go_wp2_with fail
        go_roundw
        case rel => exact ⟨i + 1, X ++ [92, s[i]], by omega, by go_num, HT3.out, HO1.out, HB1.out⟩
        case measure => simp [intOf]; omega
      by_cases h92 : s[i].toNat = 92
      · have e92 : s[i] = 92 := UInt8.toNat_inj.1 (by rw [h92]; rfl)
        have b34 : ((s[i].toNat : Int) == 34) = false := Js.beq_f (by omega)
        have b92 : ((s[i].toNat : Int) == 92) = true := Js.beq_t (by omega)
        have HQ : Hid (Js.qc s[i] = [92, s[i]]) := by show _ = _; unfold Js.qc; rw [if_pos (by simp [e92])]
        have HT3 : Hid (X ++ [92, s[i]] ++ ((s.data.toList.drop (i + 1)).flatMap Js.qc ++ [34]) = T) := by
          have h9 : _ = T := HT2.out
          rw [show Js.qc s[i] = _ from HQ.out] at h9
          show _ = T
          rw [← h9]
          simp only [List.append_assoc]
        have hXl2 : X.length + 2 ≤ 7000000000000 := by
          have h9 : _ = T := HT3.out
          have h8 := congrArg List.length h9
          simp only [List.length_append, List.length_cons, List.length_nil] at h8
          omega
        clear e92 h92 HT2 HQ
        go_wp2_with (at_builtin; refine wpList_push rfl _ _ rfl _ _ _ _ rfl HO.out [92, s[i]] _ _ rfl rfl (by simp only [List.length_cons, List.length_nil]; omega) hz ?_)
        intro v' w1 hown hg
        have HO1 := Lib.hid hown
        have HB1 : Hid (Below w.heap.size w w1) := (HB.out.alloc hz _).grown hg (by simp; exact Nat.le_succ_of_le hz) (fun j hj => (World.ownsRow.lt HO.out j hj).1)
        clear hown hg
        go_wp2_with fail
        go_roundw
        case rel => exact ⟨i + 1, X ++ [92, s[i]], by omega, by go_num, HT3.out, HO1.out, HB1.out⟩
        case measure => simp [intOf]; omega
      by_cases h8 : s[i].toNat = 8
      · have e8 : s[i] = 8 := UInt8.toNat_inj.1 (by rw [h8]; rfl)
        have b34 : ((s[i].toNat : Int) == 34) = false := Js.beq_f (by omega)
        have b92 : ((s[i].toNat : Int) == 92) = false := Js.beq_f (by omega)
        have b8 : ((s[i].toNat : Int) == 8) = true := Js.beq_t (by omega)
        have HQ : Hid (Js.qc s[i] = [92, 98]) := by show _ = _; rw [e8]; rfl
        have HT3 : Hid (X ++ [92, 98] ++ ((s.data.toList.drop (i + 1)).flatMap Js.qc ++ [34]) = T) := by
          have h9 : _ = T := HT2.out
          rw [show Js.qc s[i] = _ from HQ.out] at h9
          show _ = T
          rw [← h9]
          simp only [List.append_assoc]
        have hXl2 : X.length + 2 ≤ 7000000000000 := by
          have h9 : _ = T := HT3.out
          have h8 := congrArg List.length h9
          simp only [List.length_append, List.length_cons, List.length_nil] at h8
          omega
        clear e8 h8 HT2 HQ
        go_wp2_with (at_builtin; refine wpList_push rfl _ _ rfl _ _ _ _ rfl HO.out [92, 98] _ _ rfl rfl (by simp only [List.length_cons, List.length_nil]; omega) hz ?_)
        intro v' w1 hown hg
        have HO1 := Lib.hid hown
        have HB1 : Hid (Below w.heap.size w w1) := (HB.out.alloc hz _).grown hg (by simp; exact Nat.le_succ_of_le hz) (fun j hj => (World.ownsRow.lt HO.out j hj).1)
        clear hown hg
        go_wp2_with fail
        go_roundw
        case rel => exact ⟨i + 1, X ++ [92, 98], by omega, by go_num, HT3.out, HO1.out, HB1.out⟩
        case measure => simp [intOf]; omega
      by_cases h9 : s[i].toNat = 9
      · have e9 : s[i] = 9 := UInt8.toNat_inj.1 (by rw [h9]; rfl)
        have b34 : ((s[i].toNat : Int) == 34) = false := Js.beq_f (by omega)
        have b92 : ((s[i].toNat : Int) == 92) = false := Js.beq_f (by omega)
        have b8 : ((s[i].toNat : Int) == 8) = false := Js.beq_f (by omega)
        have b9 : ((s[i].toNat : Int) == 9) = true := Js.beq_t (by omega)
        have HQ : Hid (Js.qc s[i] = [92, 116]) := by show _ = _; rw [e9]; rfl
        have HT3 : Hid (X ++ [92, 116] ++ ((s.data.toList.drop (i + 1)).flatMap Js.qc ++ [34]) = T) := by
          have h9 : _ = T := HT2.out
          rw [show Js.qc s[i] = _ from HQ.out] at h9
          show _ = T
          rw [← h9]
          simp only [List.append_assoc]
        have hXl2 : X.length + 2 ≤ 7000000000000 := by
          have h9 : _ = T := HT3.out
          have h8 := congrArg List.length h9
          simp only [List.length_append, List.length_cons, List.length_nil] at h8
          omega
        clear e9 h9 HT2 HQ
        go_wp2_with (at_builtin; refine wpList_push rfl _ _ rfl _ _ _ _ rfl HO.out [92, 116] _ _ rfl rfl (by simp only [List.length_cons, List.length_nil]; omega) hz ?_)
        intro v' w1 hown hg
        have HO1 := Lib.hid hown
        have HB1 : Hid (Below w.heap.size w w1) := (HB.out.alloc hz _).grown hg (by simp; exact Nat.le_succ_of_le hz) (fun j hj => (World.ownsRow.lt HO.out j hj).1)
        clear hown hg
        go_wp2_with fail
        go_roundw
        case rel => exact ⟨i + 1, X ++ [92, 116], by omega, by go_num, HT3.out, HO1.out, HB1.out⟩
        case measure => simp [intOf]; omega
      by_cases h10 : s[i].toNat = 10
      · have e10 : s[i] = 10 := UInt8.toNat_inj.1 (by rw [h10]; rfl)
        have b34 : ((s[i].toNat : Int) == 34) = false := Js.beq_f (by omega)
        have b92 : ((s[i].toNat : Int) == 92) = false := Js.beq_f (by omega)
        have b8 : ((s[i].toNat : Int) == 8) = false := Js.beq_f (by omega)
        have b9 : ((s[i].toNat : Int) == 9) = false := Js.beq_f (by omega)
        have b10 : ((s[i].toNat : Int) == 10) = true := Js.beq_t (by omega)
        have HQ : Hid (Js.qc s[i] = [92, 110]) := by show _ = _; rw [e10]; rfl
        have HT3 : Hid (X ++ [92, 110] ++ ((s.data.toList.drop (i + 1)).flatMap Js.qc ++ [34]) = T) := by
          have h9 : _ = T := HT2.out
          rw [show Js.qc s[i] = _ from HQ.out] at h9
          show _ = T
          rw [← h9]
          simp only [List.append_assoc]
        have hXl2 : X.length + 2 ≤ 7000000000000 := by
          have h9 : _ = T := HT3.out
          have h8 := congrArg List.length h9
          simp only [List.length_append, List.length_cons, List.length_nil] at h8
          omega
        clear e10 h10 HT2 HQ
        go_wp2_with (at_builtin; refine wpList_push rfl _ _ rfl _ _ _ _ rfl HO.out [92, 110] _ _ rfl rfl (by simp only [List.length_cons, List.length_nil]; omega) hz ?_)
        intro v' w1 hown hg
        have HO1 := Lib.hid hown
        have HB1 : Hid (Below w.heap.size w w1) := (HB.out.alloc hz _).grown hg (by simp; exact Nat.le_succ_of_le hz) (fun j hj => (World.ownsRow.lt HO.out j hj).1)
        clear hown hg
        go_wp2_with fail
        go_roundw
        case rel => exact ⟨i + 1, X ++ [92, 110], by omega, by go_num, HT3.out, HO1.out, HB1.out⟩
        case measure => simp [intOf]; omega
      by_cases h12 : s[i].toNat = 12
      · have e12 : s[i] = 12 := UInt8.toNat_inj.1 (by rw [h12]; rfl)
        have b34 : ((s[i].toNat : Int) == 34) = false := Js.beq_f (by omega)
        have b92 : ((s[i].toNat : Int) == 92) = false := Js.beq_f (by omega)
        have b8 : ((s[i].toNat : Int) == 8) = false := Js.beq_f (by omega)
        have b9 : ((s[i].toNat : Int) == 9) = false := Js.beq_f (by omega)
        have b10 : ((s[i].toNat : Int) == 10) = false := Js.beq_f (by omega)
        have b12 : ((s[i].toNat : Int) == 12) = true := Js.beq_t (by omega)
        have HQ : Hid (Js.qc s[i] = [92, 102]) := by show _ = _; rw [e12]; rfl
        have HT3 : Hid (X ++ [92, 102] ++ ((s.data.toList.drop (i + 1)).flatMap Js.qc ++ [34]) = T) := by
          have h9 : _ = T := HT2.out
          rw [show Js.qc s[i] = _ from HQ.out] at h9
          show _ = T
          rw [← h9]
          simp only [List.append_assoc]
        have hXl2 : X.length + 2 ≤ 7000000000000 := by
          have h9 : _ = T := HT3.out
          have h8 := congrArg List.length h9
          simp only [List.length_append, List.length_cons, List.length_nil] at h8
          omega
        clear e12 h12 HT2 HQ
        go_wp2_with (at_builtin; refine wpList_push rfl _ _ rfl _ _ _ _ rfl HO.out [92, 102] _ _ rfl rfl (by simp only [List.length_cons, List.length_nil]; omega) hz ?_)
        intro v' w1 hown hg
        have HO1 := Lib.hid hown
        have HB1 : Hid (Below w.heap.size w w1) := (HB.out.alloc hz _).grown hg (by simp; exact Nat.le_succ_of_le hz) (fun j hj => (World.ownsRow.lt HO.out j hj).1)
        clear hown hg
        go_wp2_with fail
        go_roundw
        case rel => exact ⟨i + 1, X ++ [92, 102], by omega, by go_num, HT3.out, HO1.out, HB1.out⟩
        case measure => simp [intOf]; omega
      by_cases h13 : s[i].toNat = 13
      · have e13 : s[i] = 13 := UInt8.toNat_inj.1 (by rw [h13]; rfl)
        have b34 : ((s[i].toNat : Int) == 34) = false := Js.beq_f (by omega)
        have b92 : ((s[i].toNat : Int) == 92) = false := Js.beq_f (by omega)
        have b8 : ((s[i].toNat : Int) == 8) = false := Js.beq_f (by omega)
        have b9 : ((s[i].toNat : Int) == 9) = false := Js.beq_f (by omega)
        have b10 : ((s[i].toNat : Int) == 10) = false := Js.beq_f (by omega)
        have b12 : ((s[i].toNat : Int) == 12) = false := Js.beq_f (by omega)
        have b13 : ((s[i].toNat : Int) == 13) = true := Js.beq_t (by omega)
        have HQ : Hid (Js.qc s[i] = [92, 114]) := by show _ = _; rw [e13]; rfl
        have HT3 : Hid (X ++ [92, 114] ++ ((s.data.toList.drop (i + 1)).flatMap Js.qc ++ [34]) = T) := by
          have h9 : _ = T := HT2.out
          rw [show Js.qc s[i] = _ from HQ.out] at h9
          show _ = T
          rw [← h9]
          simp only [List.append_assoc]
        have hXl2 : X.length + 2 ≤ 7000000000000 := by
          have h9 : _ = T := HT3.out
          have h8 := congrArg List.length h9
          simp only [List.length_append, List.length_cons, List.length_nil] at h8
          omega
        clear e13 h13 HT2 HQ
        go_wp2_with (at_builtin; refine wpList_push rfl _ _ rfl _ _ _ _ rfl HO.out [92, 114] _ _ rfl rfl (by simp only [List.length_cons, List.length_nil]; omega) hz ?_)
        intro v' w1 hown hg
        have HO1 := Lib.hid hown
        have HB1 : Hid (Below w.heap.size w w1) := (HB.out.alloc hz _).grown hg (by simp; exact Nat.le_succ_of_le hz) (fun j hj => (World.ownsRow.lt HO.out j hj).1)
        clear hown hg
        go_wp2_with fail
        go_roundw
        case rel => exact ⟨i + 1, X ++ [92, 114], by omega, by go_num, HT3.out, HO1.out, HB1.out⟩
        case measure => simp [intOf]; omega
      have b34 : ((s[i].toNat : Int) == 34) = false := Js.beq_f (by omega)
      have b92 : ((s[i].toNat : Int) == 92) = false := Js.beq_f (by omega)
      have b8 : ((s[i].toNat : Int) == 8) = false := Js.beq_f (by omega)
      have b9 : ((s[i].toNat : Int) == 9) = false := Js.beq_f (by omega)
      have b10 : ((s[i].toNat : Int) == 10) = false := Js.beq_f (by omega)
      have b12 : ((s[i].toNat : Int) == 12) = false := Js.beq_f (by omega)
      have b13 : ((s[i].toNat : Int) == 13) = false := Js.beq_f (by omega)
      have hn1 : ¬ (s[i] = 34 ∨ s[i] = 92) := fun e => by rcases e with e | e <;> (have := congrArg UInt8.toNat e; simp at this; omega)
      by_cases h32 : 32 ≤ s[i].toNat
      · have g2 : ¬ (s[i].toNat : Int) < 32 := by omega
        have HQ : Hid (Js.qc s[i] = [s[i]]) := by show _ = _; unfold Js.qc; rw [if_neg hn1, if_pos h32]
        have HT3 : Hid (X ++ [s[i]] ++ ((s.data.toList.drop (i + 1)).flatMap Js.qc ++ [34]) = T) := by
          have h9 : _ = T := HT2.out
          rw [show Js.qc s[i] = _ from HQ.out] at h9
          show _ = T
          rw [← h9]
          simp only [List.append_assoc]
        have hXl2 : X.length + 1 ≤ 7000000000000 := by
          have h9 : _ = T := HT3.out
          have h8 := congrArg List.length h9
          simp only [List.length_append, List.length_cons, List.length_nil] at h8
          omega
        clear HT2 HQ hn1 h34 h92 h8 h9 h10 h12 h13 h32
        go_wp2_with (at_builtin; refine wpList_push rfl _ _ rfl _ _ _ _ rfl HO.out [s[i]] _ _ rfl rfl (by simp only [List.length_cons, List.length_nil]; omega) hz ?_)
        intro v' w1 hown hg
        have HO1 := Lib.hid hown
        have HB1 : Hid (Below w.heap.size w w1) := (HB.out.alloc hz _).grown hg (by simp; exact Nat.le_succ_of_le hz) (fun j hj => (World.ownsRow.lt HO.out j hj).1)
        clear hown hg
        go_wp2_with fail
        go_roundw
        case rel => exact ⟨i + 1, X ++ [s[i]], by omega, by go_num, HT3.out, HO1.out, HB1.out⟩
        case measure => simp [intOf]; omega
      · have g2 : (s[i].toNat : Int) < 32 := by omega
        obtain ⟨c, hc⟩ : ∃ c, s[i].toNat = c := ⟨_, rfl⟩
        have hq1 : c / 16 < 16 := by omega
        have hq2 : c % 16 < 16 := by omega
        have e1 : UInt8.ofNat (48 + c / 16) = (⟨#[48, 49, 50, 51, 52, 53, 54, 55, 56, 57, 97, 98, 99, 100, 101, 102]⟩ : ByteArray)[c / 16]'hq1 := by rw [Js.digit16 (c / 16) (by omega), if_pos (by omega)]
        have e2 : UInt8.ofNat (if c % 16 < 10 then 48 + c % 16 else 87 + c % 16) = (⟨#[48, 49, 50, 51, 52, 53, 54, 55, 56, 57, 97, 98, 99, 100, 101, 102]⟩ : ByteArray)[c % 16]'hq2 := by rw [Js.digit16 (c % 16) (by omega)]
        obtain ⟨d1, hd1⟩ : ∃ d, (⟨#[48, 49, 50, 51, 52, 53, 54, 55, 56, 57, 97, 98, 99, 100, 101, 102]⟩ : ByteArray)[c / 16]'hq1 = d := ⟨_, rfl⟩
        obtain ⟨d2, hd2⟩ : ∃ d, (⟨#[48, 49, 50, 51, 52, 53, 54, 55, 56, 57, 97, 98, 99, 100, 101, 102]⟩ : ByteArray)[c % 16]'hq2 = d := ⟨_, rfl⟩
        rw [hd1] at e1
        rw [hd2] at e2
        have HQ : Hid (Js.qc s[i] = [92, 117, 48, 48, d1, d2]) := by show _ = _; unfold Js.qc; rw [if_neg hn1, if_neg h32, if_neg (fun e => by rw [e] at h8; exact h8 rfl), if_neg (fun e => by rw [e] at h9; exact h9 rfl), if_neg (fun e => by rw [e] at h10; exact h10 rfl), if_neg (fun e => by rw [e] at h12; exact h12 rfl), if_neg (fun e => by rw [e] at h13; exact h13 rfl), hc, e1, e2]
        have HT3 : Hid (X ++ [92, 117, 48, 48, d1, d2] ++ ((s.data.toList.drop (i + 1)).flatMap Js.qc ++ [34]) = T) := by
          have h9 : _ = T := HT2.out
          rw [show Js.qc s[i] = _ from HQ.out] at h9
          show _ = T
          rw [← h9]
          simp only [List.append_assoc]
        have hXl2 : X.length + 6 ≤ 7000000000000 := by
          have h9 : _ = T := HT3.out
          have h8 := congrArg List.length h9
          simp only [List.length_append, List.length_cons, List.length_nil] at h8
          omega
        clear HT2 HQ hn1 h34 h92 h8 h9 h10 h12 h13 h32 e1 e2
        have n7 : IntKind.u8.wrap ((c : Int) / 16) = ((c / 16 : Nat) : Int) := by
          rw [show (c : Int) / 16 = ((c / 16 : Nat) : Int) by omega]
          exact Rj.wrap_u8 _ (by omega)
        have n8 : (c : Int).tmod 16 = ((c % 16 : Nat) : Int) := by
          rw [Int.tmod_eq_emod_of_nonneg (by omega)]
          omega
        obtain ⟨q, hq⟩ : ∃ q, c / 16 = q := ⟨_, rfl⟩
        obtain ⟨m, hm⟩ : ∃ m, c % 16 = m := ⟨_, rfl⟩
        have hq3 : q < 16 := by omega
        have hm3 : m < 16 := by omega
        rw [hq] at n7
        rw [hm] at n8
        have hd1' : (⟨#[48, 49, 50, 51, 52, 53, 54, 55, 56, 57, 97, 98, 99, 100, 101, 102]⟩ : ByteArray)[q]'hq3 = d1 := by subst hq; exact hd1
        have hd2' : (⟨#[48, 49, 50, 51, 52, 53, 54, 55, 56, 57, 97, 98, 99, 100, 101, 102]⟩ : ByteArray)[m]'hm3 = d2 := by subst hm; exact hd2
        have n1 : (0 : Int) ≤ (q : Int) := by omega
        have n2 : (q : Int) < 16 := by omega
        have n3 : (0 : Int) ≤ (m : Int) := by omega
        have n4 : (m : Int) < 16 := by omega
        clear hd1 hd2 hq hm hq1 hq2
        go_upto_region 9 with fail
        go_region_held3 (fun _ => True) (first | trivial | go_keep)
          ((refine step_pushB (by rfl) _ _ (by rfl) w.heap.size _ X (by rfl) (own_alloc HO.out _) [92, 117, 48, 48, d1, d2] wr.heap.size 6 _ rfl (by simp) (by rfl) (heap_alloc_new wr _) (by simp only [List.length_cons, List.length_nil]; omega) (by simp; omega) ?_; intro v' w1 hown hg))
        all_goals
          have HO1 := Lib.hid hown
          have HB1 : Hid (Below w.heap.size w w1) := ((below_drewN HB.out 1).alloc hz _).grown hg (by simp; exact Nat.le_succ_of_le hz) (fun j hj => (World.ownsRow.lt HO.out j hj).1)
          clear hown hg
          go_wp2_with fail
          go_roundw
          case rel => exact ⟨i + 1, X ++ [92, 117, 48, 48, d1, d2], by omega, by go_num, HT3.out, HO1.out, HB1.out⟩
          case measure => simp [intOf]; omega
    · obtain rfl : i = s.size := by omega
      have g1 : ¬ (s.size : Int) < s.size := by omega
      have HE : Hid (X ++ [34] = T) := by
        have h9 : _ = T := HT.out
        rw [List.drop_eq_nil_of_le (by simp)] at h9
        exact h9
      go_wp2_with (at_builtin; refine wpList_push rfl _ _ rfl _ _ _ _ rfl HO.out [34] _ _ rfl rfl (by simp only [List.length_cons, List.length_nil]; omega) hz ?_)
      intro v' w1 hown hg
      have HO1 := Lib.hid hown
      have HB1 : Hid (Below w.heap.size w w1) := (HB.out.alloc hz _).grown hg (by simp; exact Nat.le_succ_of_le hz) (fun j hj => (World.ownsRow.lt HO.out j hj).1)
      clear hown hg
      go_wp2_with fail
      go_ret
      obtain rfl : X ++ [34] = T := HE.out
      exact ⟨v', rfl, HO1.out, HB1.out⟩

set_option maxHeartbeats 2000000 in
theorem Rj.quote_is (s : ByteArray) (w : World) (hs : s.size ≤ 1000000000000) :
    Calls Tryd.prog 42 #[.string s] w fun e w' => e = .returned (.tuple #[.string ⟨(Js.qText s).toArray⟩, .int .i64 (Js.qErr s)]) ∧ Below w.heap.size w w' := by
  obtain ⟨E, hE⟩ : ∃ E, Js.qErr s = E := ⟨_, rfl⟩
  obtain ⟨X, hX⟩ : ∃ X, Js.qText s = X := ⟨_, rfl⟩
  have hX2 : X = if E = 0 then Js.quo s.data.toList else [] := by rw [← hX, ← hE]; rfl
  rw [hE, hX]
  unfold Js.qErr at hE
  have HV := Lib.hid (Rj.valid_is s w (by omega))
  have HQ := Lib.hid (Rj.quoted_is s w hs)
  obtain ⟨T, hT⟩ : ∃ T, Js.quo s.data.toList = T := ⟨_, rfl⟩
  have hql := Js.quo_len s.data.toList
  have hsl : s.data.toList.length = s.size := by simp
  rw [hT] at hql HQ hE hX2
  have hTl : T.length ≤ 7000000000000 := by omega
  have HE := Lib.hid hE
  have HX := Lib.hid hX2
  clear hE hX hX2 hT hql hsl
  cases hb : Js.bad8 s with
  | some k =>
    have HV2 : Hid (Calls Tryd.prog 70 #[.string s] w fun e w' => e = .returned (.int .i64 (k : Int)) ∧ w = w') := by have h9 := HV.out; rw [hb] at h9; exact h9
    have HE2 : Hid (E = 142) := by have h9 : _ = E := HE.out; rw [hb, if_pos (by rfl)] at h9; exact h9.symm
    have k0 : (0 : Int) ≤ k := by omega
    clear HV HE hb HQ
    go_enter Tryd.func42, Tryd.ntmps42
    go_wp2_with (go_at_call 70; refine HV2.out.mono ?_)
    try rintro _ _ ⟨rfl, rfl⟩
    go_wp2_with fail
    go_ret2
    obtain rfl : E = 142 := HE2.out
    obtain rfl : X = [] := by have h9 : X = _ := HX.out; rw [if_neg (by decide)] at h9; exact h9
    exact ⟨rfl, Below.refl _ _⟩
  | none =>
    have HV2 : Hid (Calls Tryd.prog 70 #[.string s] w fun e w' => e = .returned (.int .i64 (-1)) ∧ w = w') := by have h9 := HV.out; rw [hb] at h9; exact h9
    have HE3 : Hid ((if 65536 < T.length then 3 else 0) = E) := by have h9 : _ = E := HE.out; rw [hb, if_neg (by decide)] at h9; exact h9
    clear HV HE hb
    go_enter Tryd.func42, Tryd.ntmps42
    go_wp2_with (first | (go_at_call 70; refine HV2.out.mono ?_) | (go_at_call 76; refine HQ.out.mono ?_))
    try rintro _ _ ⟨rfl, rfl⟩
    go_wp2_with (go_at_call 76; refine HQ.out.mono ?_)
    first | rintro e w1 v rfl hO b | rintro e w1 ⟨v, rfl, hO, b⟩
    have HO := Lib.hid hO
    have HC := Lib.hid (conv_own hO)
    have HB := Lib.hid b
    obtain ⟨p, c, hv⟩ : ∃ p c, v = .slice p T.length c := by
      rcases hO.2 with ⟨hv, h0⟩ | ⟨g, cap, cur, hv, _⟩
      · exact ⟨none, 0, by rw [hv, h0]⟩
      · exact ⟨_, cap, hv⟩
    subst hv
    clear hO b HQ HV2
    by_cases hT6 : 65536 < T.length
    · have g3 : (65536 : Int) < T.length := by omega
      have d3 : decide ((65536 : Int) < T.length) = true := decide_eq_true g3
      have HE4 : Hid (E = 3) := by have h9 : _ = E := HE3.out; rw [if_pos hT6] at h9; exact h9.symm
      clear HE3 hT6 HC
      go_wp2_with fail
      go_ret2
      obtain rfl : E = 3 := HE4.out
      obtain rfl : X = [] := by have h9 : X = _ := HX.out; rw [if_neg (by decide)] at h9; exact h9
      exact ⟨rfl, HB.out⟩
    · have g3 : ¬ (65536 : Int) < T.length := by omega
      have d3 : decide ((65536 : Int) < T.length) = false := decide_eq_false g3
      have HE4 : Hid (E = 0) := by have h9 : _ = E := HE3.out; rw [if_neg hT6] at h9; exact h9.symm
      have hcv := HC.out
      clear HE3 hT6 HC
      go_wp2_with fail
      go_ret2
      obtain rfl : E = 0 := HE4.out
      obtain rfl : X = T := by have h9 : X = _ := HX.out; rw [if_pos rfl] at h9; exact h9
      exact ⟨rfl, HB.out⟩
end Go.Proofs.YtmmijebekipdeaaDoor
