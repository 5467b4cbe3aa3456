/- Contract of the law's own maker: all (targets in small numbers). Contract of canon.Sort, of right targets. -/
import Derived.Test.YtpnpgjjbincigaaPoI
import Derived.Test.YtpnpgjjbincigaaLabM
import Derived.Test.YtpnpgjjbincigaaMadeD
import Derived.Test.YtpnpgjjbincigaaCnW
import Derived.Test.YtpnpgjjbincigaaOneP
import Derived.Deep.RegionHeld3
import Derived.StillTailTactics
import Derived.WalkKit
import Derived.ProofKit
import Derived.OpenShut
import Derived.ShutString
import Derived.Carry
import Derived.ChangeSame
import Derived.Deep.DeepHandedRow
import Derived.Deep.SlicePairs
import Derived.Lib.LaidU8
import Derived.Sort.OwnSorted
import Derived.Laws.OwnMore
namespace Go.Proofs.Ytpnpgjjbincigaa
open Go.RowKit

/-- a target as data: its job and its labels -/
def Can.jl (t : Can.T) : ByteArray × List Lab.L := (t.job, t.ls)
end Go.Proofs.Ytpnpgjjbincigaa
namespace Go.Proofs.Ytpnpgjjbincigaa
open Go.RowKit

/-- 'append(v, t)' of a target written out, at a step of a region that draws its order -/
theorem step_pushTg {ops : Array Oper} {o : Oper} {a : Act} {K : Act → World → Prop} {Q : Exit → Act → World → Prop} {E : Prop} {w : World} (T : TypeId) (hT : Try.prog.underlying T = some (.slice 29)) (hgd : o.guard = none) (s x : Operand)
    (ho : o.op = .call { callee := .builtin .append, args := #[s, x], argTypes := #[T, T] })
    (B : Nat) (v : Value) (l : List Can.T) (hs : a.eval s = v) (hown : OwnTs B v l w) (y : Can.T) (hyn : y.ls.length = y.n) (hy : OwnLabels B (.slice y.p y.n y.c) y.ls w) (G c : Nat) (hx : a.eval x = .slice (some ⟨G, 0, none⟩) 1 c)
    (hG : w.heap[G]? = some (.cells #[.string y.job, .slice y.p y.n y.c] 29)) (hlen : l.length + 1 ≤ 1000000000) (hB : B ≤ w.heap.size)
    (h : ∀ g cap w', OwnTs B (.slice (some ⟨g, 0, none⟩) (l.length + 1) cap) (l ++ [y]) w' → w.grownBy w' v.ownBlock → K (a.put o.dst (.slice (some ⟨g, 0, none⟩) (l.length + 1) cap)) w') :
    if Region.wanted o (yielded ops a.tmps) = true then Oper.wp Try.prog o a w K Q else E := by
  obtain ⟨i0, hi, hz0, hz1, hz2⟩ := info_parts infoTgt
  refine step_append_lies w hgd s x T ho B 29 i0 _ 2 40 hT hi hz0 hz1 hz2 rfl (by decide) v l.length (Can.tcells l) hs hown.1 ⟨G, 0, none⟩ 1 c (Can.tcells [y]) hx rfl
    (World.news_of_block (cs := #[.string y.job, .slice y.p y.n y.c]) hG) (Can.tcells_one _) (by omega) (by unfold maxLen; omega) (by omega) hB w.heap.size rfl ?_
  intro g cap w' h1 h2 _ _
  refine h g cap w' ⟨?_, fun t ht => ?_⟩ h2
  · rw [Can.tcells_append, List.length_append]
    exact h1
  · rw [List.mem_append, List.mem_singleton] at ht
    rcases ht with ht | rfl
    · exact ⟨(hown.2 t ht).1, own_grown (hown.2 t ht).2 hown.1 h2⟩
    · exact ⟨hyn, own_grown hy hown.1 h2⟩

theorem Can.TAt.belowT {b o B : Nat} {ts : List Can.T} {w w' : World} (h : Can.TAt b o ts w) (hb : Below B w w') (hB : w.heap.size ≤ B) : Can.TAt b o ts w' := fun i hi =>
  ⟨cell_later hb (h i hi).1 hB, cell_later hb (h i hi).2.1 hB, (h i hi).2.2.below hb hB⟩
set_option maxHeartbeats 1600000 in
set_option maxRecDepth 100000 in
theorem clone2_is (p : Option Addr) (ls : List Lab.L) (n c : Nat) (w : World) (hn : ls.length = n) (hA : Lab.At p ls w) (hl : n ≤ 4398046511104) :
    Calls Try.prog 82 #[.slice p n c] w fun e w' => (∃ v, e = .returned v ∧ OwnLabels w.heap.size v ls w') ∧ Below w.heap.size w w' := by
  obtain ⟨i0, hi, hz0, hz1, hz2⟩ := info_parts infoLab
  have HI := Lib.hid hi
  have HN := Lib.hid hn
  have q22 : ∀ (w : World) (a : Option Addr) (n c n' c' : Nat), (binOp .eql 27 (.slice a n c) (.slice none n' c')).run Try.prog w = .ok (.bool a.isNone) w := fun w a n c n' c' => Lib.run_eql_slice_nil w _ _ a n c n' c' Try.underlying27
  rcases hA.cases with ⟨rfl, hls⟩ | ⟨ad, rfl, hnews0⟩
  · obtain rfl : n = 0 := by rw [← hn, hls]; rfl
    clear hi hn hA
    go_enter Try.func82, Try.ntmps82
    go_wp2_with fail
    go_ret
    exact ⟨⟨_, rfl, by rw [hls]; exact OwnLabels.nil _ _⟩, Below.refl _ _⟩
  · clear hi hn hA
    go_enter Try.func82, Try.ntmps82
    go_wp2_with (at_builtin; refine wpList_append_own _ rfl _ _ 27 rfl w.heap.size 37 i0 _ 2 32 Try.underlying27 HI.out hz0 hz1 hz2 rfl (by decide) _ 0 _ rfl (World.ownsRow_made w #[] 0 (Nat.le_refl _) (Nat.zero_le _) (by simp)) ad n c (Lab.cells ls) rfl ?b1 ?b2 (Lab.cells_one _) ?b4 ?b5 ?b6 ?_)
    case b1 => rw [Lab.cells_length, HN.out]
    case b2 =>
      intro j u hj
      exact Lib.cell?_alloc_some _ (hnews0 j u hj)
    case b4 => unfold maxLen; omega
    case b5 => omega
    case b6 => simp
    intro v' w1 hown hgrow _
    go_wp2_with fail
    go_ret
    refine ⟨⟨v', rfl, ?_⟩, ((Below.refl _ w).alloc (Nat.le_refl _) _).grown hgrow (by simp) (by intro k hk; simp [Value.ownBlock] at hk; omega)⟩
    unfold OwnLabels
    rw [HN.out]
    simpa using hown

end Go.Proofs.Ytpnpgjjbincigaa
