/- Contract of the law's own maker: all (targets in small numbers). Contract of canon.Sort, of right targets. -/
import Derived.Test.YthnaninhbofeoaaGreatDoorMadeT
import Derived.Test.YthnaninhbofeoaaGreatDoorSmRow
import Derived.Test.YthnaninhbofeoaaGreatDoorKeyC
import Derived.Test.YthnaninhbofeoaaGreatDoorSortI
import Derived.Test.YthnaninhbofeoaaGreatDoorOfC
import Derived.Deep.RegionHeld3
import Derived.StillTailTactics
import Derived.Test.YthnaninhbofeoaaGreatDoorOneP
namespace Go.Proofs.YthnaninhbofeoaaGreatDoor
open Go.RowKit

/-- a target as data: its job and its labels -/
def Can.jl (t : Can.T) : ByteArray × List Lab.L := (t.job, t.ls)
def Lab.St.jl (z : Lab.St) : ByteArray × List Lab.L := (Lab.jobL.getD (z.j % 8) ⟨#[]⟩, Lab.tl z.xs)

set_option maxHeartbeats 1600000 in
set_option maxRecDepth 100000 in
theorem all2_is (p : Option Addr) (zs : List Lab.St) (n c : Nat) (w : World) (hn : zs.length = n) (hA : Lab.StAt p zs w) (hF : ∀ z ∈ zs, Lab.StFit z) (hlc : n ≤ c) :
    Calls Tryz.prog 9 #[.slice p n c] w fun e w' => (∃ v ts, e = .returned (.tuple #[v, .bool true]) ∧ OwnTs w.heap.size v ts w' ∧ ts.map Can.jl = (zs.take 12).map Lab.St.jl ∧ (ts = [] → v = .slice none 0 0)) ∧ Below w.heap.size w w' := by
  obtain ⟨m, hm⟩ : ∃ m, min n 12 = m := ⟨_, rfl⟩
  have hmi : min (n : Int) 12 = (m : Int) := by omega
  have hmi2 : max (m : Int) 0 = (m : Int) := by omega
  have hmn : m ≤ n := by omega
  have hm12 : m ≤ 12 := by omega
  have HN := Lib.hid hn
  have HE : Hid (zs.take 12 = zs.take m) := by
    show _ = _
    rcases Nat.lt_or_ge n 12 with h | h
    · rw [List.take_of_length_le (by omega), List.take_of_length_le (by omega)]
    · rw [show m = 12 by omega]
  clear hm hn
  go_enter Tryz.func9, Tryz.ntmps9
  go_wp2_with fail
  go_loopw [4, 15] (fun v i wr => ∃ k : Nat, k ≤ m ∧ i = .int .i64 k ∧ ∃ ts : List Can.T, OwnTs w.heap.size v ts wr ∧ Hid (ts.map Can.jl = (zs.take k).map Lab.St.jl) ∧ Hid (ts = [] → v = .slice none 0 0) ∧ Below w.heap.size w wr) (fun _ i _ => m - (intOf i).toNat)
  case atStart => exact ⟨0, Nat.zero_le _, rfl, [], OwnTs.nil _ _, rfl, fun _ => rfl, Below.refl _ _⟩
  case round =>
    obtain ⟨k, hk, rfl, ts, hown, HT, HV, hb⟩ := hrel
    have hsz := hb.size
    by_cases hlt : k < m
    · have hkz : k < zs.length := by rw [HN.out]; omega
      obtain ⟨b, o, rfl, hc⟩ := hA.open k hkz
      have hcA := (hA.below hb (Nat.le_refl _))
      obtain ⟨b', o', he, hc'⟩ := hcA.open k hkz
      simp only [Option.some.injEq, Addr.mk.injEq] at he
      obtain ⟨rfl, rfl, _⟩ := he
      obtain ⟨c0, c1, hS⟩ := hc' k hkz
      obtain ⟨f1, f2, f3, f4, f5⟩ := hF zs[k] (List.getElem_mem _)
      have HT2 : Hid ((ts.map Can.jl) ++ [Lab.St.jl zs[k]] = (zs.take (k + 1)).map Lab.St.jl) := by
        show _ = _
        rw [HT.out, List.take_add_one, List.getElem?_eq_getElem hkz, List.map_append]
        rfl
      obtain ⟨z, hz⟩ : ∃ z, zs[k] = z := ⟨_, rfl⟩
      rw [hz] at c0 c1 hS f1 f2 f3 f4 f5 HT2
      have HM := Lib.hid (fun w hA => omade_is z.j z.a z.xs z.n z.c w f1 f2 hA f3 f4 f5)
      obtain ⟨J, hJ⟩ : ∃ J, Lab.jobL.getD (z.j % 8) ⟨#[]⟩ = J := ⟨_, rfl⟩
      have hjl : Lab.St.jl z = (J, Lab.tl z.xs) := by rw [← hJ]; rfl
      rw [hJ] at HM
      rw [hjl] at HT2
      have hrA := Lab.tl_right z.xs
      have hlA := (Lab.right_parts _ hrA).1
      obtain ⟨A, hA1⟩ : ∃ A, Lab.tl z.xs = A := ⟨_, rfl⟩
      rw [hA1] at HM HT2 hlA
      obtain ⟨zj, za, zn, zc, zxs⟩ := z
      dsimp only at c0 c1 hS HM
      have hlen : ts.length = k := by
        have := congrArg List.length HT.out
        rw [List.length_map, List.length_map, List.length_take] at this
        omega
      have hbr := World.block_lt_of_cell? _ _ c0
      clear hz f1 f2 f3 f4 f5 hrA hA1 hJ hjl hc hc' hcA hA hF HT
      go_wp2_with (go_at_call 18; refine (HM.out _ (hS.alloc _)).mono ?_)
      first | rintro e w1 v1 rfl hv1 hb1 | rintro e w1 ⟨⟨v1, rfl, hv1⟩, hb1⟩
      obtain ⟨p1, k1, rfl, hP1, _, _⟩ := OwnLabels.open hv1
      have hown1 := (hown.alloc (.cells #[.int .u8 (zj : Int), .slice za zn zc] 52)).below hb1 (by simp)
      have hB1 : Below w.heap.size w w1 := (hb.alloc hsz _).trans (hb1.mono (by omega))
      have hv2 : OwnLabels w.heap.size (.slice p1 A.length k1) A w1 := row_lift hv1 (by omega)
      have hs1 := hB1.size
      have hown2 := hown1.alloc (.cells #[.string J, .slice p1 A.length k1] 37)
      have hv3 := hv2.alloc (.cells #[.string J, .slice p1 A.length k1] 37)
      have hB2 := hB1.alloc hs1 (.cells #[.string J, .slice p1 A.length k1] 37)
      clear hown1 hv1 hv2 hP1
      go_wp2_with (at_builtin; refine wpList_pushTg 22 Tryz.underlying22 rfl _ _ rfl _ _ _ _ rfl hown2 ⟨J, p1, A.length, k1, A⟩ rfl hv3 _ _ rfl _ rfl (by simp) ?c1 ?c2 ?_)
      case c1 => omega
      case c2 => exact hB2.size
      intro v' w4 hown' hg
      have hB4 := below_push _ hB2 hown2.1 hg
      go_wp2_with fail
      go_roundw
      case rel => exact ⟨k + 1, by omega, by go_num, _, hown', by rw [List.map_append]; exact HT2, fun h => absurd h (by simp), hB4⟩
      case measure => simp [intOf]; omega
    · have hkm : k = m := by omega
      subst hkm
      go_wp2_with fail
      go_ret2
      exact ⟨⟨_, _, rfl, hown, by rw [HE.out]; exact HT.out, HV.out⟩, hb⟩
theorem all_is (p : Option Addr) (zs : List Lab.St) (n c : Nat) (w : World) (hn : zs.length = n) (hA : Lab.StAt p zs w) (hF : ∀ z ∈ zs, Lab.StFit z) (hlc : n ≤ c) :
    Calls Tryz.prog 9 #[.slice p n c] w fun e w' => (∃ v ts, e = .returned (.tuple #[v, .bool true]) ∧ OwnTs w.heap.size v ts w' ∧ ts.map Can.jl = (zs.take 12).map Lab.St.jl) ∧ Below w.heap.size w w' :=
  (all2_is p zs n c w hn hA hF hlc).mono fun _ _ ⟨⟨v, ts, h1, h2, h3, _⟩, h5⟩ => ⟨⟨v, ts, h1, h2, h3⟩, h5⟩
end Go.Proofs.YthnaninhbofeoaaGreatDoor
namespace Go.Proofs.YthnaninhbofeoaaGreatDoor

/-- the indexes of keys that are not there before -/
def Can.firsts (ks : List (List UInt8)) : Nat → List Nat
  | 0 => []
  | k + 1 => match ks[k]? with
    | none => Can.firsts ks k
    | some x => if x ∈ ks.take k then Can.firsts ks k else Can.firsts ks k ++ [k]
theorem Can.firsts_succ (ks : List (List UInt8)) (k : Nat) (h : k < ks.length) : Can.firsts ks (k + 1) = if ks[k] ∈ ks.take k then Can.firsts ks k else Can.firsts ks k ++ [k] := by
  show (match ks[k]? with | none => _ | some x => _) = _
  rw [List.getElem?_eq_getElem h]
theorem Can.firsts_mem (ks : List (List UInt8)) (n : Nat) : ∀ i, i ∈ Can.firsts ks n ↔ i < n ∧ ∃ h : i < ks.length, ks[i] ∉ ks.take i := by
  induction n with
  | zero => intro i; simp [Can.firsts]
  | succ n ih =>
    intro i
    by_cases hn : n < ks.length
    · rw [Can.firsts_succ ks n hn]
      split
      · rename_i hin
        rw [ih]
        refine ⟨fun ⟨h1, h2⟩ => ⟨by omega, h2⟩, fun ⟨h1, h2, h3⟩ => ⟨?_, h2, h3⟩⟩
        have : i ≠ n := fun e => by subst e; exact h3 hin
        omega
      · rename_i hin
        rw [List.mem_append, List.mem_singleton, ih]
        constructor
        · rintro (⟨h1, h2⟩ | rfl)
          · exact ⟨by omega, h2⟩
          · exact ⟨by omega, hn, hin⟩
        · rintro ⟨h1, h2, h3⟩
          by_cases e : i = n
          · exact .inr e
          · exact .inl ⟨by omega, h2, h3⟩
    · have e : Can.firsts ks (n + 1) = Can.firsts ks n := by
        show (match ks[n]? with | none => _ | some x => _) = _
        rw [List.getElem?_eq_none (by omega)]
      rw [e, ih]
      exact ⟨fun ⟨h1, h2⟩ => ⟨by omega, h2⟩, fun ⟨h1, h2, h3⟩ => ⟨by omega, h2, h3⟩⟩
theorem Can.firsts_asc (ks : List (List UInt8)) (n : Nat) : (Can.firsts ks n).Pairwise (· < ·) := by
  induction n with
  | zero => exact List.Pairwise.nil
  | succ n ih =>
    by_cases hn : n < ks.length
    · rw [Can.firsts_succ ks n hn]
      split
      · exact ih
      · rw [List.pairwise_append]
        refine ⟨ih, List.pairwise_singleton _ _, fun a ha b hb => ?_⟩
        rw [List.mem_singleton] at hb
        rw [hb]
        exact ((Can.firsts_mem ks n a).1 ha).1
    · have e : Can.firsts ks (n + 1) = Can.firsts ks n := by
        show (match ks[n]? with | none => _ | some x => _) = _
        rw [List.getElem?_eq_none (by omega)]
      rw [e]; exact ih
theorem Can.firsts_length (ks : List (List UInt8)) (n : Nat) : (Can.firsts ks n).length ≤ n := by
  induction n with
  | zero => simp [Can.firsts]
  | succ n ih =>
    by_cases hn : n < ks.length
    · rw [Can.firsts_succ ks n hn]
      split
      · omega
      · rw [List.length_append]; simp; omega
    · have e : Can.firsts ks (n + 1) = Can.firsts ks n := by
        show (match ks[n]? with | none => _ | some x => _) = _
        rw [List.getElem?_eq_none (by omega)]
      rw [e]; omega
/-- each key has a first one, that is not behind it -/
theorem Can.firsts_some (ks : List (List UInt8)) (n : Nat) (hn : n = ks.length) : ∀ (i : Nat) (h : i < ks.length), ∃ j, ∃ h2 : j < ks.length, j ∈ Can.firsts ks n ∧ j ≤ i ∧ ks[j] = ks[i] := by
  intro i
  induction i using Nat.strongRecOn with
  | _ i ih =>
    intro h
    by_cases hin : ks[i] ∈ ks.take i
    · obtain ⟨j, hj, e⟩ := List.getElem_of_mem hin
      rw [List.length_take] at hj
      rw [List.getElem_take] at e
      obtain ⟨k, hk, h1, h2, h3⟩ := ih j (by omega) (by omega)
      exact ⟨k, hk, h1, by omega, h3.trans e⟩
    · exact ⟨i, h, (Can.firsts_mem ks n i).2 ⟨by omega, h, hin⟩, Nat.le_refl _, rfl⟩
theorem Can.firsts_one (ks : List (List UInt8)) (n : Nat) (a b : Nat) (ha : a ∈ Can.firsts ks n) (hb : b ∈ Can.firsts ks n) (h1 : a < ks.length) (h2 : b < ks.length) (e : ks[a] = ks[b]) : a = b := by
  have key : ∀ a b, a ∈ Can.firsts ks n → b ∈ Can.firsts ks n → ∀ (h1 : a < ks.length) (h2 : b < ks.length), ks[a] = ks[b] → ¬ a < b := by
    intro a b ha hb h1 h2 e hlt
    obtain ⟨_, _, hb2⟩ := (Can.firsts_mem ks n b).1 hb
    refine hb2 ?_
    rw [← e]
    exact List.mem_iff_getElem.2 ⟨a, by rw [List.length_take]; omega, by rw [List.getElem_take]⟩
  have k1 := key a b ha hb h1 h2 e
  have k2 := key b a hb ha h2 h1 e.symm
  omega
theorem Can.firsts_keys (ks : List (List UInt8)) (n : Nat) : ((Can.firsts ks n).map fun i => ks.getD i []).Nodup := by
  unfold List.Nodup
  rw [List.pairwise_map]
  refine (Can.firsts_asc ks n).imp_of_mem fun {a b} ha hb hlt e => ?_
  obtain ⟨_, h1, _⟩ := (Can.firsts_mem ks n a).1 ha
  obtain ⟨_, h2, _⟩ := (Can.firsts_mem ks n b).1 hb
  have e2 : ks[a] = ks[b] := by
    simpa [List.getD, List.getElem?_eq_getElem h1, List.getElem?_eq_getElem h2] using e
  have := Can.firsts_one ks n a b ha hb h1 h2 e2
  omega
/-- one of some, of which no two are -/
theorem Can.count_one {α : Type} (p : α → Bool) (l : List α) (h1 : ∃ a ∈ l, p a = true) (h2 : l.Pairwise fun a b => ¬ (p a = true ∧ p b = true)) : l.countP p = 1 := by
  induction l with
  | nil => obtain ⟨a, ha, _⟩ := h1; simp at ha
  | cons x r ih =>
    rw [List.pairwise_cons] at h2
    by_cases hx : p x = true
    · rw [List.countP_cons_of_pos hx]
      have : r.countP p = 0 := by
        rw [List.countP_eq_zero]
        intro a ha hp
        exact h2.1 a ha ⟨hx, hp⟩
      omega
    · rw [List.countP_cons_of_neg hx]
      refine ih ?_ h2.2
      obtain ⟨a, ha, hp⟩ := h1
      rw [List.mem_cons] at ha
      rcases ha with rfl | ha
      · exact absurd hp hx
      · exact ⟨a, ha, hp⟩
theorem Can.firsts_count (ks : List (List UInt8)) (n : Nat) (hn : n = ks.length) (i : Nat) (h : i < ks.length) : (Can.firsts ks n).countP (fun j => ks.getD j [] == ks[i]) = 1 := by
  refine Can.count_one _ _ ?_ ?_
  · obtain ⟨j, hj, h1, _, h3⟩ := Can.firsts_some ks n hn i h
    refine ⟨j, h1, ?_⟩
    simp [List.getD, List.getElem?_eq_getElem hj, h3]
  · refine (Can.firsts_asc ks n).imp_of_mem fun {a b} ha hb hlt ⟨e1, e2⟩ => ?_
    obtain ⟨_, h1, _⟩ := (Can.firsts_mem ks n a).1 ha
    obtain ⟨_, h2, _⟩ := (Can.firsts_mem ks n b).1 hb
    simp only [List.getD, List.getElem?_eq_getElem h1, List.getElem?_eq_getElem h2, beq_iff_eq, Option.getD_some] at e1 e2
    have := Can.firsts_one ks n a b ha hb h1 h2 (e1.trans e2.symm)
    omega
end Go.Proofs.YthnaninhbofeoaaGreatDoor
namespace Go.Proofs.YthnaninhbofeoaaGreatDoor
open Go.RowKit

theorem Can.seen_is (ks : List ByteArray) (k : Nat) (hk : k ≤ ks.length) :
    (Can.seen ks k).2.1 = (Can.firsts (ks.map Lab.bs) k).map (fun i => ((i : Nat) : Int)) ∧ Maps.IsMap (Can.seen ks k).1 ∧ ∀ x : ByteArray, Maps.has (Can.seen ks k).1 (.string x.data.toList) = true ↔ Lab.bs x ∈ (ks.map Lab.bs).take k := by
  induction k with
  | zero => exact ⟨rfl, ⟨_, rfl⟩, fun x => by simp [Can.seen, Maps.has]⟩
  | succ k ih =>
    obtain ⟨h1, h2, h3⟩ := ih (by omega)
    have hlt : k < ks.length := by omega
    have hlt2 : k < (ks.map Lab.bs).length := by rw [List.length_map]; exact hlt
    have hx : ks[k]? = some ks[k] := List.getElem?_eq_getElem hlt
    have e : Can.seen ks (k + 1) = if Maps.has (Can.seen ks k).1 (.string ks[k].data.toList) = true then Can.seen ks k else ((Can.seen ks k).1.put (.string ks[k].data.toList) (.lit (.int .i64 k)), (Can.seen ks k).2.1 ++ [(k : Int)], (Can.seen ks k).2.2 + 1) := by
      show (match ks[k]? with | none => _ | some x => _) = _
      rw [hx]
    have ht : (ks.map Lab.bs).take (k + 1) = (ks.map Lab.bs).take k ++ [Lab.bs ks[k]] := by
      rw [List.take_add_one, List.getElem?_eq_getElem hlt2, List.getElem_map]
      rfl
    rw [e, Can.firsts_succ _ k hlt2, List.getElem_map, ht]
    by_cases hin : Maps.has (Can.seen ks k).1 (.string ks[k].data.toList) = true
    · rw [if_pos hin, if_pos ((h3 _).1 hin)]
      refine ⟨h1, h2, fun x => ?_⟩
      rw [h3, List.mem_append, List.mem_singleton]
      refine ⟨.inl, ?_⟩
      rintro (h | h)
      · exact h
      · rw [h]
        exact (h3 _).1 hin
    · rw [if_neg hin, if_neg (fun h => hin ((h3 _).2 h))]
      refine ⟨?_, h2.put _ _, fun x => ?_⟩
      · show (Can.seen ks k).2.1 ++ [(k : Int)] = _
        rw [h1, List.map_append]
        rfl
      · show Maps.has ((Can.seen ks k).1.put _ _) _ = true ↔ _
        rw [List.mem_append, List.mem_singleton]
        by_cases hxk : Lab.bs x = Lab.bs ks[k]
        · have hxk2 : x.data.toList = ks[k].data.toList := hxk
          rw [hxk2, Maps.has_put_same h2 (by first | trivial | exact ⟨_, rfl⟩ | (unfold WideAt.IsKeyLit; trivial))]
          simp [hxk]
        · rw [Maps.has_put_other (fun h => hxk (by simpa [Lab.bs] using h)), h3]
          simp [hxk]

/-- 'append(v, t)' of a target written out, at a step of a region that draws its order -/
theorem step_pushTg {ops : Array Oper} {o : Oper} {a : Act} {K : Act → World → Prop} {Q : Exit → Act → World → Prop} {E : Prop} {w : World} (T : TypeId) (hT : Tryz.prog.underlying T = some (.slice 37)) (hgd : o.guard = none) (s x : Operand)
    (ho : o.op = .call { callee := .builtin .append, args := #[s, x], argTypes := #[T, T] })
    (B : Nat) (v : Value) (l : List Can.T) (hs : a.eval s = v) (hown : OwnTs B v l w) (y : Can.T) (hyn : y.ls.length = y.n) (hy : OwnLabels B (.slice y.p y.n y.c) y.ls w) (G c : Nat) (hx : a.eval x = .slice (some ⟨G, 0, none⟩) 1 c)
    (hG : w.heap[G]? = some (.cells #[.string y.job, .slice y.p y.n y.c] 37)) (hlen : l.length + 1 ≤ 1000000000) (hB : B ≤ w.heap.size)
    (h : ∀ g cap w', OwnTs B (.slice (some ⟨g, 0, none⟩) (l.length + 1) cap) (l ++ [y]) w' → w.grownBy w' v.ownBlock → K (a.put o.dst (.slice (some ⟨g, 0, none⟩) (l.length + 1) cap)) w') :
    if Region.wanted o (yielded ops a.tmps) = true then Oper.wp Tryz.prog o a w K Q else E := by
  obtain ⟨i0, hi, hz0, hz1, hz2⟩ := info_parts infoTgt
  refine step_append_lies w hgd s x T ho B 37 i0 _ 2 40 hT hi hz0 hz1 hz2 rfl (by decide) v l.length (Can.tcells l) hs hown.1 ⟨G, 0, none⟩ 1 c (Can.tcells [y]) hx rfl
    (World.news_of_block (cs := #[.string y.job, .slice y.p y.n y.c]) hG) (Can.tcells_one _) (by omega) (by unfold maxLen; omega) (by omega) hB w.heap.size rfl ?_
  intro g cap w' h1 h2 _ _
  refine h g cap w' ⟨?_, fun t ht => ?_⟩ h2
  · rw [Can.tcells_append, List.length_append]
    exact h1
  · rw [List.mem_append, List.mem_singleton] at ht
    rcases ht with ht | rfl
    · exact ⟨(hown.2 t ht).1, own_grown (hown.2 t ht).2 hown.1 h2⟩
    · exact ⟨hyn, own_grown hy hown.1 h2⟩

theorem Can.TAt.belowT {b o B : Nat} {ts : List Can.T} {w w' : World} (h : Can.TAt b o ts w) (hb : Below B w w') (hB : w.heap.size ≤ B) : Can.TAt b o ts w' := fun i hi =>
  ⟨cell_later hb (h i hi).1 hB, cell_later hb (h i hi).2.1 hB, (h i hi).2.2.below hb hB⟩
theorem OwnInts.form {B : Nat} {v : Value} {l : List Int} {w : World} (h : OwnInts B v l w) :
    ∃ p c, v = .slice p l.length c ∧ l.length ≤ c ∧ ∀ k (hk : k < l.length), ∃ g, p = some ⟨g, 0, none⟩ ∧ w.cell? ⟨g, k, none⟩ = some (.int .i64 l[k]) := by
  rcases h.2 with ⟨rfl, h0⟩ | ⟨g, cap, cur, rfl, hg, hh, h1, _, _, h4⟩
  · have : l = [] := List.length_eq_zero_iff.1 h0
    subst this
    exact ⟨none, 0, rfl, Nat.le_refl _, fun k hk => by simp at hk⟩
  · refine ⟨_, cap, rfl, h1, fun k hk => ⟨g, rfl, ?_⟩⟩
    rw [Lib.cell_of_heap hh, ← Array.getElem?_toList]
    have e : (l.map (Value.int .i64))[k]? = some (.int .i64 l[k]) := by rw [List.getElem?_map, List.getElem?_eq_getElem hk]; rfl
    rw [← h4, List.getElem?_take] at e
    split at e
    · exact e
    · simp at e
set_option maxHeartbeats 1600000 in
set_option maxRecDepth 100000 in
theorem clone2_is (p : Option Addr) (ls : List Lab.L) (n c : Nat) (w : World) (hn : ls.length = n) (hA : Lab.At p ls w) (hl : n ≤ 100000) :
    Calls Tryz.prog 37 #[.slice p n c] w fun e w' => (∃ v, e = .returned v ∧ OwnLabels w.heap.size v ls w') ∧ Below w.heap.size w w' := by
  obtain ⟨i0, hi, hz0, hz1, hz2⟩ := info_parts infoLab
  have HI := Lib.hid hi
  have HN := Lib.hid hn
  have q22 : ∀ (w : World) (a : Option Addr) (n c n' c' : Nat), (binOp .eql 35 (.slice a n c) (.slice none n' c')).run Tryz.prog w = .ok (.bool a.isNone) w := fun w a n c n' c' => Lib.run_eql_slice_nil w _ _ a n c n' c' Tryz.underlying35
  rcases hA.cases with ⟨rfl, hls⟩ | ⟨ad, rfl, hnews0⟩
  · obtain rfl : n = 0 := by rw [← hn, hls]; rfl
    clear hi hn hA
    go_enter Tryz.func37, Tryz.ntmps37
    go_wp2_with fail
    go_ret
    exact ⟨⟨_, rfl, by rw [hls]; exact OwnLabels.nil _ _⟩, Below.refl _ _⟩
  · clear hi hn hA
    go_enter Tryz.func37, Tryz.ntmps37
    go_wp2_with (at_builtin; refine wpList_append_own _ rfl _ _ 35 rfl w.heap.size 46 i0 _ 2 32 Tryz.underlying35 HI.out hz0 hz1 hz2 rfl (by decide) _ 0 _ rfl (World.ownsRow_made w #[] 0 (Nat.le_refl _) (Nat.zero_le _) (by simp)) ad n c (Lab.cells ls) rfl ?b1 ?b2 (Lab.cells_one _) ?b4 ?b5 ?b6 ?_)
    case b1 => rw [Lab.cells_length, HN.out]
    case b2 =>
      intro j u hj
      exact Lib.cell?_alloc_some _ (hnews0 j u hj)
    case b4 => unfold maxLen; omega
    case b5 => omega
    case b6 => simp
    intro v' w1 hown hgrow _
    go_wp2_with fail
    go_ret
    refine ⟨⟨v', rfl, ?_⟩, ((Below.refl _ w).alloc (Nat.le_refl _) _).grown hgrow (by simp) (by intro k hk; simp [Value.ownBlock] at hk; omega)⟩
    unfold OwnLabels
    rw [HN.out]
    simpa using hown

set_option maxHeartbeats 3200000 in
set_option maxRecDepth 100000 in
theorem csort_is (b o c : Nat) (ts : List Can.T) (ks : List ByteArray) (n : Nat) (w : World) (hb0 : b < w.heap.size) (hn : ts.length = n) (hk : ks.length = n) (hT : Can.TAt b o ts w) (hok : ∀ i (h1 : i < ts.length) (h2 : i < ks.length), Can.TOk ts[i] ks[i]) (hl : n ≤ 1000)
    (hsz0 : ∀ x ∈ ks, x.size ≤ 1000000) :
    Calls Tryz.prog 10 #[.slice (some ⟨b, o, none⟩) n c] w fun e w' => (∃ (v : Value) (r : List Can.T) (d : List Nat), e = .returned (.tuple #[v, .int .i64 0]) ∧ d.Perm (Can.firsts (ks.map Lab.bs) n) ∧ (d.Pairwise fun i j => Can.kat ks i ≤ Can.kat ks j) ∧ r.map (fun t => some (Can.jl t)) = d.map (fun i => (ts[i]?).map Can.jl) ∧ OwnTs w.heap.size v r w') ∧ Below w.heap.size w w' := by
  have HK := Lib.hid (keys_ok b o c ts ks n w hb0 hn hk hT hok hl)
  have HFI := Lib.hid (fun w hb0 hT => first_ok b o c ts ks n w hb0 hn hk hT hok hl hsz0 _ rfl)
  have hseen := (Can.seen_is ks n (by omega)).1
  rw [hseen] at HFI
  have HN := Lib.hid hk
  have HTS := Lib.hid hn
  have HOK := Lib.hid hok
  have hfm := fun i hi => ((Can.firsts_mem (ks.map Lab.bs) n i).1 hi).1
  have hfl := Can.firsts_length (ks.map Lab.bs) n
  obtain ⟨fs, hfs⟩ : ∃ fs, Can.firsts (ks.map Lab.bs) n = fs := ⟨_, rfl⟩
  rw [hfs] at HFI hfm hfl ⊢
  clear hseen hok hsz0 hn hk hfs
  go_enter Tryz.func10, Tryz.ntmps10
  go_wp2_with (go_at_call 33; refine HK.out.mono ?_)
  first | rintro e w1 v rfl hv hb1 | rintro e w1 ⟨⟨v, rfl, hv⟩, hb1⟩
  have hkv : ∃ pv cv, v = .slice pv n cv ∧ (0 < n → ∃ gk, pv = some ⟨gk, 0, none⟩ ∧ gk < w1.heap.size ∧ ∀ j x, ks[j]? = some x → w1.cell? ⟨gk, j, none⟩ = some (.string x)) := by
    rcases hv.open with ⟨rfl, he⟩ | ⟨gk, cc, rfl, hg, _, _, hcells⟩
    · have h0 : n = 0 := by have := HN.out; rw [he] at this; simpa using this.symm
      subst h0
      exact ⟨none, 0, rfl, fun h => absurd h (by omega)⟩
    · rw [HN.out]
      exact ⟨_, cc, rfl, fun _ => ⟨gk, rfl, hg, hcells⟩⟩
  obtain ⟨pv, cv, rfl, hkv⟩ := hkv
  have hs1 := hb1.size
  have hT1 := (hT.belowT hb1 (Nat.le_refl _)).belowT ((Below.refl _ _).alloc (Nat.le_refl _) (.cells #[.slice pv n cv] 40)) (Nat.le_refl _)
  have hB1 : Below w.heap.size w (w1.alloc (.cells #[.slice pv n cv] 40)) := hb1.alloc hs1 _
  have hbox : (w1.alloc (.cells #[.slice pv n cv] 40)).heap[w1.heap.size]? = some (.cells #[.slice pv n cv] 40) := alloc_new w1 _
  have hwz : (w1.alloc (.cells #[.slice pv n cv] 40)).heap.size = w1.heap.size + 1 := by simp
  have hkv2 : 0 < n → ∃ gk, pv = some ⟨gk, 0, none⟩ ∧ gk < w1.heap.size ∧ ∀ j x, ks[j]? = some x → (w1.alloc (.cells #[.slice pv n cv] 40)).cell? ⟨gk, j, none⟩ = some (.string x) := fun h0 => by
    obtain ⟨gk, h1, h2, h3⟩ := hkv h0
    exact ⟨gk, h1, h2, fun j x hj => cell_later ((Below.refl _ _).alloc (Nat.le_refl _) _) (h3 j x hj) (Nat.le_refl _)⟩
  clear hb1 hv hkv HK
  go_wp2_with fail
  obtain ⟨W1, hW1⟩ : ∃ W, w1.alloc (.cells #[.slice pv n cv] 40) = W := ⟨_, rfl⟩
  rw [hW1] at hT1 hB1 hbox hwz hkv2 ⊢
  have HWZ := Lib.hid hwz
  clear hW1 hwz
  go_wp2_with (go_at_call 23; refine (HFI.out _ (by have := HWZ.out; omega) hT1).mono ?_)
  first | rintro e w2 v2 rfl hv2 hb2 | rintro e w2 ⟨⟨v2, rfl, hv2⟩, hb2⟩
  obtain ⟨p2, c2, e2, hl2, _⟩ := OwnInts.form hv2
  rw [List.length_map] at e2 hl2
  subst e2
  have hpk : w1.heap.size < W1.heap.size := by have := HWZ.out; omega
  have hkk : ∃ gk, 0 < n → gk < W1.heap.size ∧ w2.cell? ⟨w1.heap.size, 0, none⟩ = some (.slice (some ⟨gk, 0, none⟩) n cv) ∧ ∀ j x, ks[j]? = some x → w2.cell? ⟨gk, j, none⟩ = some (.string x) := by
    rcases Nat.eq_zero_or_pos n with h0 | h0
    · exact ⟨0, fun h => by omega⟩
    · obtain ⟨gk, rfl, h2, h3⟩ := hkv2 h0
      refine ⟨gk, fun _ => ⟨by omega, ?_, fun j x hj => cell_later hb2 (h3 j x hj) (Nat.le_refl _)⟩⟩
      rw [Lib.cell_of_heap (below_kept hb2 hbox hpk)]
      rfl
  obtain ⟨gk, hkk⟩ := hkk
  have hB2 := below_next hB1 hb2
  have hT2 := hT1.belowT hb2 (Nat.le_refl _)
  have HSO := Lib.hid (sortI_is W1.heap.size _ fs ks n gk cv w1.heap.size w2 HN.out hl hfm hv2 hb2.size hpk hkk (by omega))
  clear hkk hv2 hkv2 hT1 hbox HFI
  go_wp2_with (go_at_call 34; refine HSO.out.mono ?_)
  first | rintro e w3 ⟨rfl, d, ⟨hp, hasc⟩, hv3, hb3⟩ | rintro e w3 rfl d hp hasc hv3 hb3
  have hB3 : Below w.heap.size w w3 := hB2.trans (hb3.mono hB1.size)
  have hT3 : Can.TAt b o ts w3 := by
    refine hT.belowT (hB3) (Nat.le_refl _)
  have hdl : d.length = fs.length := hp.length_eq
  have hdm : ∀ i ∈ d, i < n := fun i hi => hfm i (hp.mem_iff.1 hi)
  obtain ⟨p3, c3, e3, hl3, hcells⟩ := OwnInts.form hv3
  rw [List.length_map] at e3 hl3
  simp only [Value.slice.injEq] at e3
  obtain ⟨rfl, _, rfl⟩ := e3
  obtain ⟨L, hL⟩ : ∃ L, fs.length = L := ⟨_, rfl⟩
  rw [hL] at hdl hl2 hfl ⊢
  have HP := Lib.hid hp
  have HAS := Lib.hid hasc
  have HD := Lib.hid hdl
  have HC : Hid (∀ k (hk : k < d.length), ∃ g, p2 = some ⟨g, 0, none⟩ ∧ w3.cell? ⟨g, k, none⟩ = some (.int .i64 ((d[k] : Nat) : Int))) := fun k hk => by
    obtain ⟨g, h1, h2⟩ := hcells k (by rw [List.length_map]; exact hk)
    exact ⟨g, h1, by simpa using h2⟩
  clear HSO hp hasc hv3 hb3 hT2 hcells hB2 hB1 hdl hL hT
  go_wp2_with fail
  go_loopw [7, 31] (fun u i wr => ∃ k : Nat, k ≤ L ∧ i = .int .i64 k ∧ ∃ r : List Can.T, OwnTs w3.heap.size u r wr ∧ Hid (r.map (fun t => some (Can.jl t)) = (d.take k).map (fun i => (ts[i]?).map Can.jl)) ∧ Below w3.heap.size w3 wr) (fun _ i _ => L - (intOf i).toNat)
  case atStart => exact ⟨0, Nat.zero_le _, rfl, [], OwnTs.nil _ _, rfl, Below.refl _ _⟩
  case round =>
    obtain ⟨k, hk, rfl, r, hown, HR, hb⟩ := hrel
    have hsz := hb.size
    by_cases hlt : k < L
    · have hkd : k < d.length := by rw [HD.out]; exact hlt
      obtain ⟨g, rfl, hcell0⟩ := HC.out k hkd
      have hcell := cell_later hb hcell0 (Nat.le_refl _)
      have hin : d[k] < n := hdm _ (List.getElem_mem _)
      have hit : d[k] < ts.length := by rw [HTS.out]; exact hin
      obtain ⟨a0, a1, a2⟩ := (hT3.belowT hb (Nat.le_refl _)) d[k] hit
      obtain ⟨f1, f2, f3, frest⟩ := HOK.out d[k] hit (by rw [HN.out]; exact hin)
      clear frest
      have HR2 : Hid (r.map (fun t => some (Can.jl t)) ++ [some (Can.jl ts[d[k]])] = (d.take (k + 1)).map (fun i => (ts[i]?).map Can.jl)) := by
        show _ = _
        rw [List.take_add_one, List.getElem?_eq_getElem hkd, List.map_append, HR.out]
        simp [List.getElem?_eq_getElem hit]
      obtain ⟨t, ht⟩ : ∃ t, ts[d[k]] = t := ⟨_, rfl⟩
      rw [ht] at a0 a1 a2 f1 f2 f3 HR2
      obtain ⟨i, hi⟩ : ∃ i, d[k] = i := ⟨_, rfl⟩
      rw [hi] at hcell a0 a1 hin
      obtain ⟨tj, tp, tn, tc, tl⟩ := t
      dsimp only at a0 a1 a2 f1 f2
      have hrl : r.length = k := by
        have := congrArg List.length HR.out
        rw [List.length_map, List.length_map, List.length_take] at this
        have := HD.out
        omega
      have HCL := Lib.hid (fun w hA => clone2_is tp tl tn tc w f1 hA (by omega))
      have n1 : (0 : Int) ≤ (i : Int) := by omega
      have n2 : (i : Int) < (n : Int) := by omega
      have hbr : b < w3.heap.size := Nat.lt_of_lt_of_le hb0 hB3.size
      have hbr2 : b < wr.heap.size := by omega
      have HK3 : Hid (∀ w', Below w3.heap.size w3 w' → w'.cell? ⟨b, o + i * 2, none⟩ = some (.string tj) ∧ w'.cell? ⟨b, o + i * 2 + 1, none⟩ = some (.slice tp tn tc)) := fun w' hw => ⟨(hw.cell (p := ⟨b, o + i * 2, none⟩) hbr).trans ((hb.cell (p := ⟨b, o + i * 2, none⟩) hbr).symm.trans a0), (hw.cell (p := ⟨b, o + i * 2 + 1, none⟩) hbr).trans ((hb.cell (p := ⟨b, o + i * 2 + 1, none⟩) hbr).symm.trans a1)⟩
      clear hcell0 ht hi hit hkd HR hT3
      go_wp2_with fail
      go_region_held3 (fun w' => w'.cell? ⟨b, o + i * 2, none⟩ = some (.string tj) ∧ w'.cell? ⟨b, o + i * 2 + 1, none⟩ = some (.slice tp tn tc))
        (first
          | exact HK3.out _ ((hb.drew.trans (hbx.mono hsz)).alloc (by have := hbx.size; simp at this; omega) _)
          | exact HK3.out _ (hb.drew.trans (hbx.mono hsz))
          | exact HK3.out _ (((hb.drew.trans (hbx.mono hsz)).alloc (by have := hbx.size; simp at this; omega) _).grown hgrow (by have := hbx.size; simp at this ⊢; omega) (fun j hj => (World.ownsRow.lt hown.1 j hj).1))
          | go_keep)
        ((first
          | (go_at_call 37; refine (HCL.out _ (a2.below ((Below.refl _ wr).drew) (Nat.le_refl _))).mono ?_; rintro e wx ⟨⟨vx, rfl, hvx⟩, hbx⟩; obtain ⟨q, cq, rfl, _, _, _⟩ := OwnLabels.open hvx; rw [f1] at hvx ⊢)
          | (refine step_pushTg 22 Tryz.underlying22 (by rfl) _ _ (by rfl) w3.heap.size _ r (by rfl) ((hown.below ((Below.refl _ wr).drew.trans hbx) (Nat.le_refl _)).alloc _) ⟨tj, q, tn, cq, tl⟩ f1 ((row_lift hvx hsz).alloc _) wx.heap.size 1 (by rfl) (heap_alloc_new wx _) (by omega) (by have := hbx.size; simp at this ⊢; omega) ?_; intro g2 cap2 w4 hown4 hgrow)))
      have hb4 : Below w3.heap.size w3 w4 := ((hb.drew.trans (hbx.mono hsz)).alloc (by have := hbx.size; simp at this; omega) _).grown hgrow (by have := hbx.size; simp at this ⊢; omega) (fun j hj => (World.ownsRow.lt hown.1 j hj).1)
      go_wp2_with fail
      go_roundw
      case rel => exact ⟨k + 1, by omega, by go_num, r ++ [⟨tj, q, tn, cq, tl⟩], by first | exact hown4 | (rw [hrl] at hown4; exact hown4), by rw [List.map_append]; exact HR2, hb4⟩
      case measure => simp [intOf]; omega
    · have hkL : k = L := by omega
      subst hkL
      go_wp2_with fail
      go_ret2
      refine ⟨⟨_, r, d, rfl, HP.out, HAS.out, ?_, hown.lift hB3.size⟩, hB3.trans (hb.mono hB3.size)⟩
      have := HR.out
      rw [List.take_of_length_le (by have := HD.out; omega)] at this
      exact this
end Go.Proofs.YthnaninhbofeoaaGreatDoor
