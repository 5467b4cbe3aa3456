/- Contracts of canon: pieces, Bytes. -/
import Derived.Test.YtpnpgjjbincigaaCanO
import Derived.Test.YtpnpgjjbincigaaCanP
import Derived.Test.YtpnpgjjbincigaaLabC
namespace Go.Proofs.Ytpnpgjjbincigaa
open Go.RowKit

theorem mk_append (a : List UInt8) (e : ByteArray) : ByteArray.mk a.toArray ++ e = ⟨(a ++ Lab.bs e).toArray⟩ := by
  apply ByteArray.ext
  rw [ByteArray.data_append]
  apply Array.toList_inj.1
  simp [Lab.bs]
theorem below_push {w W w' : World} {e k n : Nat} {v : Value} {xs : List Value} (o : Obj) (hb : Below w.heap.size w W) (hown : W.ownsRow w.heap.size e k v n xs) (hg : (W.alloc o).grownBy w' v.ownBlock) : Below w.heap.size w w' :=
  (hb.alloc hb.size o).grown hg (by simp; exact Nat.le_succ_of_le hb.size) (fun j hj => (World.ownsRow.lt hown j hj).1)

set_option maxHeartbeats 800000 in
theorem pieces_is (e : ByteArray) (B : Nat) (v : Value) (l : List ByteArray) (w : World) (hv : OwnTexts B v l w) (r : List UInt8) (hr : l.flatMap (fun x => Lab.bs x ++ Lab.bs e) = r) (hlen : r.length ≤ 1099511627776) (hl : l.length ≤ 4294967296) :
    Calls Try.prog 85 #[.string e, v] w fun e' w' => e' = .returned (.string ⟨r.toArray⟩) ∧ Below w.heap.size w w' := by
  by_cases h0 : l = []
  · subst h0
    obtain rfl : r = [] := by rw [← hr]; rfl
    obtain ⟨a, c, rfl⟩ : ∃ a c, v = .slice a 0 c := by
      rcases hv.open with ⟨rfl, _⟩ | ⟨g, c, rfl, _⟩
      · exact ⟨_, _, rfl⟩
      · exact ⟨_, _, rfl⟩
    clear hv hr hlen hl
    go_enter Try.func85, Try.ntmps85
    go_wp2_with fail
    go_ret
    exact ⟨rfl, Below.refl _ _⟩
  · have h1 : 0 < l.length := List.length_pos_iff.2 h0
    rcases hv.open with ⟨rfl, h⟩ | ⟨g, c, rfl, hg, hlc, hc, hcells⟩
    · exact absurd h h0
    have hj : Lib.join (l.map (·.data.toList)) e.data.toList ++ Lab.bs e = r := by
      have := Can.join_end e.data.toList (l.map (·.data.toList)) (by simpa using h0)
      rw [List.flatMap_map] at this
      rw [← hr]; exact this
    have hjl : (Lib.join (l.map (·.data.toList)) e.data.toList).length ≤ 140737488355328 := by
      have := congrArg List.length hj
      rw [List.length_append] at this; omega
    have HJ := Lib.hid (fun (w' : World) (h : w' = w) => h ▸ Try.strings_Join g 0 c l e w (by intro j x h; rw [Nat.zero_add]; exact hcells j x h) hg (by omega) hlc hjl)
    have HR : Hid (ByteArray.mk (Lib.join (l.map (·.data.toList)) e.data.toList).toArray ++ e = ⟨r.toArray⟩) := by
      show ByteArray.mk (Lib.join (l.map (·.data.toList)) e.data.toList).toArray ++ e = ⟨r.toArray⟩
      rw [mk_append, hj]
    have hJs : (ByteArray.mk (Lib.join (l.map (·.data.toList)) e.data.toList).toArray).size + e.size ≤ 1099511627776 := by
      have := congrArg List.length hj
      rw [List.length_append] at this
      have e1 : (ByteArray.mk (Lib.join (l.map (·.data.toList)) e.data.toList).toArray).size = (Lib.join (l.map (·.data.toList)) e.data.toList).length := by simp [ByteArray.size]
      have e2 : (Lab.bs e).length = e.size := by simp [Lab.bs]
      omega
    obtain ⟨n, hn⟩ : ∃ n, l.length = n := ⟨_, rfl⟩
    rw [hn] at h1 HJ hl ⊢
    have z0 : ((n : Int) == 0) = false := beq_eq_false_iff_ne.2 (by omega)
    generalize hJ : ByteArray.mk (Lib.join (l.map (·.data.toList)) e.data.toList).toArray = J at HJ HR hJs
    have hJs2 : (J.size : Int) + (e.size : Int) ≤ 1099511627776 := by omega
    clear hv hr hlen hj hjl hcells h0 hJ hn
    go_enter Try.func85, Try.ntmps85
    go_wp2_with (go_at_call 96; refine (HJ.out _ rfl).mono ?_)
    first | rintro e' w1 ⟨rfl, hb1⟩ | rintro e' w1 rfl hb1
    go_wp2_with fail
    go_ret
    exact ⟨by rw [← HR.out]; rfl, hb1⟩

/-- names and values, in turn -/
def Can.texts (ls : List Lab.L) : List ByteArray := ls.flatMap fun x => [x.n, x.v]
theorem Can.texts_length (ls : List Lab.L) : (Can.texts ls).length = ls.length * 2 := by
  unfold Can.texts
  induction ls with
  | nil => rfl
  | cons x r ih => simp only [List.flatMap_cons, List.length_append, ih, List.length_cons, List.length_nil]; omega
theorem Can.texts_raw (ls : List Lab.L) (e : ByteArray) (he : Lab.bs e = [255]) : (Can.texts ls).flatMap (fun x => Lab.bs x ++ Lab.bs e) = Can.raw ls := by
  unfold Can.texts Can.raw
  rw [he]
  induction ls with
  | nil => rfl
  | cons x r ih => simp only [List.flatMap_cons, List.flatMap_append, ih, List.flatMap_nil, List.append_nil]
theorem Can.texts_take (ls : List Lab.L) (k : Nat) (h : k < ls.length) : Can.texts (ls.take (k + 1)) = Can.texts (ls.take k) ++ [ls[k].n, ls[k].v] := by
  rw [List.take_add_one, List.getElem?_eq_getElem h]
  simp only [Can.texts, Option.toList_some, List.flatMap_append, List.flatMap_cons, List.flatMap_nil, List.append_nil]
theorem Can.raw_length (ls : List Lab.L) (m : Nat) (h : Lab.Fit m ls) : (Can.raw ls).length ≤ ls.length * (2 * m + 2) := by
  unfold Can.raw
  induction ls with
  | nil => simp
  | cons x r ih =>
    have h1 := h x (by simp)
    have h2 := ih (fun y hy => h y (by simp [hy]))
    simp only [List.flatMap_cons, List.length_append, List.length_cons, List.length_nil, Lab.bs, Array.length_toList, ByteArray.size_data] at h2 ⊢
    rw [Nat.add_mul]
    omega

set_option maxHeartbeats 1600000 in
set_option maxRecDepth 100000 in
theorem cbytes_is (p : Option Addr) (ls : List Lab.L) (n c : Nat) (r : List UInt8) (er : Int) (h : Can.bytes ls = (r, er)) (w : World) (hn : ls.length = n) (hA : Lab.At p ls w) (hF : Lab.Fit 4294967296 ls) (hl : n ≤ maxLen) :
    Calls Try.prog 84 #[.slice p n c] w fun e w' => e = .returned (.tuple #[.string ⟨r.toArray⟩, .int .i64 er]) ∧ Below w.heap.size w w' := by
  obtain ⟨b, hb⟩ : ∃ b, Lab.right ls = b := ⟨_, rfl⟩
  have HR := Lib.hid (fun w hA => right_is p ls n c b hb w hn hA (fun x hx => by have := hF x hx; unfold maxLen; omega) hl)
  unfold maxLen at hl
  unfold Can.bytes at h
  rw [hb] at h
  cases b
  · rw [if_neg (by simp)] at h
    simp only [Prod.mk.injEq] at h
    obtain ⟨rfl, rfl⟩ := h
    have HC := Lib.hid (HR.out w hA)
    clear hb hF hn hA HR hl
    go_enter Try.func84, Try.ntmps84
    go_wp2_with (go_at_call 95; refine HC.out.mono ?_)
    first | rintro e w1 ⟨rfl, hb1⟩ | rintro e w1 rfl hb1
    go_wp2_with fail
    go_ret2
    exact ⟨rfl, hb1⟩
  · rw [if_pos rfl] at h
    simp only [Prod.mk.injEq] at h
    obtain ⟨hr, rfl⟩ := h
    have h64 : n ≤ 64 := by
      rcases Nat.lt_or_ge 64 n with h | h
      · have := Can.right_many ls (by omega)
        rw [hb] at this; simp at this
      · exact h
    have hrl := Can.raw_length ls _ hF
    rw [hr, hn] at hrl
    have hrl : r.length ≤ 1099511627776 := Nat.le_trans hrl (Nat.le_trans (Nat.mul_le_mul_right _ h64) (by decide))
    have HC := Lib.hid (HR.out w hA)
    have HN := Lib.hid hn
    have HP := Lib.hid (fun (B : Nat) (v : Value) w (hv : OwnTexts B v (Can.texts ls) w) => pieces_is ⟨#[255]⟩ B v _ w hv r (by rw [Can.texts_raw ls _ rfl, hr]) hrl (by rw [Can.texts_length]; omega))
    clear hb hF hr hn HR hl
    go_enter Try.func84, Try.ntmps84
    go_wp2_with (go_at_call 95; refine HC.out.mono ?_)
    first | rintro e w1 ⟨rfl, hb1⟩ | rintro e w1 rfl hb1
    go_wp2_with fail
    go_loopw [4, 12] (fun v i wr => ∃ k : Nat, k ≤ n ∧ i = .int .i64 k ∧ OwnTexts w.heap.size v (Can.texts (ls.take k)) wr ∧ Below w.heap.size w wr) (fun _ i _ => n - (intOf i).toNat)
    case atStart => exact ⟨0, Nat.zero_le _, rfl, OwnTexts.nil _ _, hb1⟩
    case round =>
      obtain ⟨k, hk, rfl, hown, hb⟩ := hrel
      have hsz := hb.size
      by_cases hlt : k < n
      · have hkl : k < ls.length := by rw [HN.out]; exact hlt
        have hA2 := hA.below hb (Nat.le_refl _)
        obtain ⟨b, o, rfl, hc⟩ := hA2.open k hkl
        have HT := Lib.hid (Can.texts_take ls k hkl)
        obtain ⟨x, hx⟩ : ∃ x, ls[k] = x := ⟨_, rfl⟩
        have c0 := (hc k hkl).1
        have c1 := (hc k hkl).2
        rw [hx] at c0 c1 HT
        have hbx : b < wr.heap.size := World.block_lt_of_cell? _ _ c0
        have hlen : (Can.texts (ls.take k)).length ≤ 1000 := by rw [Can.texts_length, List.length_take]; omega
        clear hx hc
        have hown2 := hown.alloc (.cells #[.string x.n, .string x.v] 37)
        go_wp2_with (at_builtin; refine wpList_pushT rfl _ _ rfl _ _ _ _ rfl hown2 [x.n, x.v] _ _ rfl _ rfl (by simp) ?c1 ?c2 ?_)
        case c1 => simp; omega
        case c2 => simp; omega
        intro v' w2 hown' hg
        have hb2 := below_push _ (hb.alloc hsz _) hown2 hg
        go_wp2_with fail
        go_roundw
        case rel => exact ⟨k + 1, by omega, by go_num, by rw [HT.out]; exact hown', hb2⟩
        case measure => simp [intOf]; omega
      · have hk2 : ls.take k = ls := List.take_of_length_le (by rw [HN.out]; omega)
        rw [hk2] at hown
        have HO := Lib.hid (HP.out _ _ _ hown)
        clear hk2 HP
        go_wp2_with (go_at_call 85; refine HO.out.mono ?_)
        first | rintro e w2 ⟨rfl, hb2⟩ | rintro e w2 rfl hb2
        go_wp2_with fail
        go_ret2
        exact ⟨rfl, below_next hb hb2⟩
end Go.Proofs.Ytpnpgjjbincigaa
