/- Contracts of strings.Builder's WriteRune and WriteString, at this translation. -/
import Derived.Test.YtmmijebekipdeaaDoorOwn
import Derived.Test.YtmmijebekipdeaaDoorShelf
import Derived.Lib.RuneBytes
import Derived.Lib.FrozenHead2
namespace Go.Proofs.YtmmijebekipdeaaDoor
open Go.RowKit

theorem row_form {B e n : Nat} {v : Value} {xs : List Value} {w : World} (h : w.ownsRowF B e 1 v n xs) : ∃ a c, v = .slice a n c := by
  rcases h.2 with ⟨hv, h0⟩ | ⟨g, cap, cur, fz, hv, _⟩
  · exact ⟨none, 0, by rw [hv, h0]⟩
  · exact ⟨_, _, hv⟩

set_option maxHeartbeats 2000000 in
set_option maxRecDepth 100000 in
theorem writeRune_k (B b : Nat) (bs : List Value) (r : Int) (hr : 0 ≤ r ∧ r ≤ 2147483647) (w : World) (h : Lib.IsBuilderF 47 5 B b bs w) (hlen : bs.length + 4 ≤ 140737488355328) (hBw : B ≤ w.heap.size) :
    Calls Tryd.prog 89 #[.pointer (some ⟨b, 0, none⟩), .int .i32 r] w fun e w' => e = .returned (.tuple #[.int .i64 (Lib.runeCells r).length, .nilIface]) ∧
      Lib.BuilderAtF 47 5 B b (.pointer (some ⟨b, 0, none⟩)) (bs ++ Lib.runeCells r) w' ∧ Below B w w' ∧ Lib.OthersKept 5 (some b) w w' := by
  have hk4 := Lib.runeCells_le r
  go_enter Tryd.func89, Tryd.ntmps89
  go_wp2_with (go_at_call 65; refine (copyCheck_k B b bs _ h).mono ?_)
  rintro e w1 ⟨rfl, ⟨hB, v, hbk, hown, hne⟩, hb1, hk1⟩
  obtain ⟨av, cv, rfl⟩ := row_form hown
  have hs1 := hb1.size
  have hlt := lt_of_heap hbk
  have c1 : w1.cell? ⟨b, 1, none⟩ = some (.slice av bs.length cv) := by rw [Lib.cell_of_heap hbk]; rfl
  go_wp2_with (go_at_call 110; refine (Tryd.utf8_AppendRune_row B _ bs.length bs r (by omega) hr.2 _ hown hlen (by omega)).mono ?_)
  rintro e w2 ⟨v', rfl, hown2, x, hgrow⟩
  obtain ⟨a2, c2, rfl⟩ := row_form hown2
  have hb2 : w2.heap[b]? = some (.cells #[.pointer (some ⟨b, 0, none⟩), .slice av bs.length cv] 47 (0, 0)) :=
    (hgrow.block b (by simp; omega) (fun e => hne e.symm)).trans ((Lib.alloc_old w1 _ b hlt).trans hbk)
  have d1 : w2.cell? ⟨b, 1, none⟩ = some (.slice av bs.length cv) := by rw [Lib.cell_of_heap hb2]; rfl
  have f1 : w2.frozen? ⟨b, 1, none⟩ = false := Lib.frozen_of_heap hb2 1
  go_wp2
  go_ret2
  refine ⟨?_, Lib.BuilderAtF.put (T := 47) (e := 5) hB hb2 (bs' := bs ++ Lib.runeCells r) (by simpa using hown2) (by decide), ?_, ((hk1.alloc _).grown hgrow (Lib.ownsRowF_kind (hown.alloc _))).setCell ⟨b, 1, none⟩ rfl _⟩
  · have e9 : ((bs.length : Int) + ((Lib.runeCells r).length : Int) - (bs.length : Int)) = ((Lib.runeCells r).length : Int) := by omega
    simp [e9]
  · exact ((hb1.alloc (by omega) _).grown hgrow (by simp; omega) (fun k hk => (hown.lt k hk).1)).setCell (p := ⟨b, 1, none⟩) hB _
end Go.Proofs.YtmmijebekipdeaaDoor
