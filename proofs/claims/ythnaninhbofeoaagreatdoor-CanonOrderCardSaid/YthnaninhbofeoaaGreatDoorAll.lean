/- Contract of the law's own maker: all (targets in small numbers). -/
import Derived.Test.YthnaninhbofeoaaGreatDoorMadeT
import Derived.Test.YthnaninhbofeoaaGreatDoorStRow
import Derived.Test.YthnaninhbofeoaaGreatDoorOwnT
namespace Go.Proofs.YthnaninhbofeoaaGreatDoor
open Go.RowKit

/-- a target as data: its job and its labels -/
def Can.jl (t : Can.T) : ByteArray × List Lab.L := (t.job, t.ls)
def Lab.St.jl (z : Lab.St) : ByteArray × List Lab.L := (Lab.jobL.getD (z.j % 8) ⟨#[]⟩, Lab.tl z.xs)

set_option maxHeartbeats 1600000 in
set_option maxRecDepth 100000 in
theorem all2_is (p : Option Addr) (zs : List Lab.St) (n c : Nat) (w : World) (hn : zs.length = n) (hA : Lab.StAt p zs w) (hF : ∀ z ∈ zs, Lab.StFit z) (hlc : n ≤ c) :
    Calls Tryz.prog 9 #[.slice p n c] w fun e w' => (∃ v ts, e = .returned (.tuple #[v, .bool true]) ∧ OwnTs w.heap.size v ts w' ∧ ts.map Can.jl = (zs.take 12).map Lab.St.jl ∧ (ts = [] → v = .slice none 0 0)) ∧ Below w.heap.size w w' := by
  obtain ⟨m, hm⟩ : ∃ m, min n 12 = m := ⟨_, rfl⟩
  have hmi : min (n : Int) 12 = (m : Int) := by omega
  have hmi2 : max (m : Int) 0 = (m : Int) := by omega
  have hmn : m ≤ n := by omega
  have hm12 : m ≤ 12 := by omega
  have HN := Lib.hid hn
  have HE : Hid (zs.take 12 = zs.take m) := by
    show _ = _
    rcases Nat.lt_or_ge n 12 with h | h
    · rw [List.take_of_length_le (by omega), List.take_of_length_le (by omega)]
    · rw [show m = 12 by omega]
  clear hm hn
  go_enter Tryz.func9, Tryz.ntmps9
  go_wp2_with fail
  go_loopw [4, 15] (fun v i wr => ∃ k : Nat, k ≤ m ∧ i = .int .i64 k ∧ ∃ ts : List Can.T, OwnTs w.heap.size v ts wr ∧ Hid (ts.map Can.jl = (zs.take k).map Lab.St.jl) ∧ Hid (ts = [] → v = .slice none 0 0) ∧ Below w.heap.size w wr) (fun _ i _ => m - (intOf i).toNat)
  case atStart => exact ⟨0, Nat.zero_le _, rfl, [], OwnTs.nil _ _, rfl, fun _ => rfl, Below.refl _ _⟩
  case round =>
    obtain ⟨k, hk, rfl, ts, hown, HT, HV, hb⟩ := hrel
    have hsz := hb.size
    by_cases hlt : k < m
    · have hkz : k < zs.length := by rw [HN.out]; omega
      obtain ⟨b, o, rfl, hc⟩ := hA.open k hkz
      have hcA := (hA.below hb (Nat.le_refl _))
      obtain ⟨b', o', he, hc'⟩ := hcA.open k hkz
      simp only [Option.some.injEq, Addr.mk.injEq] at he
      obtain ⟨rfl, rfl, _⟩ := he
      obtain ⟨c0, c1, hS⟩ := hc' k hkz
      obtain ⟨f1, f2, f3, f4, f5⟩ := hF zs[k] (List.getElem_mem _)
      have HT2 : Hid ((ts.map Can.jl) ++ [Lab.St.jl zs[k]] = (zs.take (k + 1)).map Lab.St.jl) := by
        show _ = _
        rw [HT.out, List.take_add_one, List.getElem?_eq_getElem hkz, List.map_append]
        rfl
      obtain ⟨z, hz⟩ : ∃ z, zs[k] = z := ⟨_, rfl⟩
      rw [hz] at c0 c1 hS f1 f2 f3 f4 f5 HT2
      have HM := Lib.hid (fun w hA => omade_is z.j z.a z.xs z.n z.c w f1 f2 hA f3 f4 f5)
      obtain ⟨J, hJ⟩ : ∃ J, Lab.jobL.getD (z.j % 8) ⟨#[]⟩ = J := ⟨_, rfl⟩
      have hjl : Lab.St.jl z = (J, Lab.tl z.xs) := by rw [← hJ]; rfl
      rw [hJ] at HM
      rw [hjl] at HT2
      have hrA := Lab.tl_right z.xs
      have hlA := (Lab.right_parts _ hrA).1
      obtain ⟨A, hA1⟩ : ∃ A, Lab.tl z.xs = A := ⟨_, rfl⟩
      rw [hA1] at HM HT2 hlA
      obtain ⟨zj, za, zn, zc, zxs⟩ := z
      dsimp only at c0 c1 hS HM
      have hlen : ts.length = k := by
        have := congrArg List.length HT.out
        rw [List.length_map, List.length_map, List.length_take] at this
        omega
      have hbr := World.block_lt_of_cell? _ _ c0
      clear hz f1 f2 f3 f4 f5 hrA hA1 hJ hjl hc hc' hcA hA hF HT
      go_wp2_with (go_at_call 18; refine (HM.out _ (hS.alloc _)).mono ?_)
      first | rintro e w1 v1 rfl hv1 hb1 | rintro e w1 ⟨⟨v1, rfl, hv1⟩, hb1⟩
      obtain ⟨p1, k1, rfl, hP1, _, _⟩ := OwnLabels.open hv1
      have hown1 := (hown.alloc (.cells #[.int .u8 (zj : Int), .slice za zn zc] 52)).below hb1 (by simp)
      have hB1 : Below w.heap.size w w1 := (hb.alloc hsz _).trans (hb1.mono (by omega))
      have hv2 : OwnLabels w.heap.size (.slice p1 A.length k1) A w1 := row_lift hv1 (by omega)
      have hs1 := hB1.size
      have hown2 := hown1.alloc (.cells #[.string J, .slice p1 A.length k1] 37)
      have hv3 := hv2.alloc (.cells #[.string J, .slice p1 A.length k1] 37)
      have hB2 := hB1.alloc hs1 (.cells #[.string J, .slice p1 A.length k1] 37)
      clear hown1 hv1 hv2 hP1
      go_wp2_with (at_builtin; refine wpList_pushTg 22 Tryz.underlying22 rfl _ _ rfl _ _ _ _ rfl hown2 ⟨J, p1, A.length, k1, A⟩ rfl hv3 _ _ rfl _ rfl (by simp) ?c1 ?c2 ?_)
      case c1 => omega
      case c2 => exact hB2.size
      intro v' w4 hown' hg
      have hB4 := below_push _ hB2 hown2.1 hg
      go_wp2_with fail
      go_roundw
      case rel => exact ⟨k + 1, by omega, by go_num, _, hown', by rw [List.map_append]; exact HT2, fun h => absurd h (by simp), hB4⟩
      case measure => simp [intOf]; omega
    · have hkm : k = m := by omega
      subst hkm
      go_wp2_with fail
      go_ret2
      exact ⟨⟨_, _, rfl, hown, by rw [HE.out]; exact HT.out, HV.out⟩, hb⟩
theorem all_is (p : Option Addr) (zs : List Lab.St) (n c : Nat) (w : World) (hn : zs.length = n) (hA : Lab.StAt p zs w) (hF : ∀ z ∈ zs, Lab.StFit z) (hlc : n ≤ c) :
    Calls Tryz.prog 9 #[.slice p n c] w fun e w' => (∃ v ts, e = .returned (.tuple #[v, .bool true]) ∧ OwnTs w.heap.size v ts w' ∧ ts.map Can.jl = (zs.take 12).map Lab.St.jl) ∧ Below w.heap.size w w' :=
  (all2_is p zs n c w hn hA hF hlc).mono fun _ _ ⟨⟨v, ts, h1, h2, h3, _⟩, h5⟩ => ⟨⟨v, ts, h1, h2, h3⟩, h5⟩
end Go.Proofs.YthnaninhbofeoaaGreatDoor
