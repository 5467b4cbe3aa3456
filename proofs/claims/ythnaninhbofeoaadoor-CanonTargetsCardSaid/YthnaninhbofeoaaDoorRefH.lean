/- Contracts of the reference's canon: Read. -/
import Derived.Test.YthnaninhbofeoaaDoorRefG
import Derived.Test.YthnaninhbofeoaaDoorCanR
namespace Go.Proofs.YthnaninhbofeoaaDoor
open Go.RowKit

def Can.dl (x : ByteArray) : List UInt8 := x.data.toList
theorem Can.pairs_one : ∀ (pre : List ByteArray) (x : ByteArray), pre.length % 2 = 0 → Can.pairs ((pre ++ [x]).map Can.dl) = Can.pairs (pre.map Can.dl)
  | [], _, _ => rfl
  | [_], _, h => by simp at h
  | a :: b :: r, x, h => by
    have := Can.pairs_one r x (by simp only [List.length_cons] at h; omega)
    simp only [List.cons_append, List.map_cons, Can.pairs]
    rw [this]
theorem Can.pairs_two : ∀ (pre : List ByteArray) (x y : ByteArray), pre.length % 2 = 0 → Can.pairs ((pre ++ [x, y]).map Can.dl) = Can.pairs (pre.map Can.dl) ++ [⟨x, y⟩]
  | [], _, _, _ => rfl
  | [_], _, _, h => by simp at h
  | a :: b :: r, x, y, h => by
    have := Can.pairs_two r x y (by simp only [List.length_cons] at h; omega)
    simp only [List.cons_append, List.map_cons, Can.pairs]
    rw [this]
theorem Can.dl_extract (s : ByteArray) (f k : Nat) : Can.dl (s.extract f k) = (s.data.toList.drop f).take (k - f) := by
  unfold Can.dl
  simp [ByteArray.data_extract, List.extract_eq_take_drop]
theorem Can.dl_more (s : ByteArray) (f k : Nat) (h1 : f ≤ k) (h2 : k < s.size) : Can.dl (s.extract f (k + 1)) = Can.dl (s.extract f k) ++ [s[k]] := by
  rw [Can.dl_extract, Can.dl_extract, show k + 1 - f = k - f + 1 by omega, List.take_add_one]
  have : (s.data.toList.drop f)[k - f]? = some s[k] := by
    rw [List.getElem?_drop, show f + (k - f) = k by omega, List.getElem?_eq_getElem (by rw [Array.length_toList]; exact h2)]
    rfl
  rw [this]
  rfl
theorem Can.dl_none (s : ByteArray) (k : Nat) : Can.dl (s.extract k k) = [] := by
  rw [Can.dl_extract, Nat.sub_self, List.take_zero]
theorem Can.split_at (s : ByteArray) (f k : Nat) (h1 : f ≤ k) (h2 : k < s.size) :
    Can.split (Can.dl (s.extract f k)) (s.data.toList.drop k) = if s[k] = 255 then Can.dl (s.extract f k) :: Can.split (Can.dl (s.extract (k + 1) (k + 1))) (s.data.toList.drop (k + 1)) else Can.split (Can.dl (s.extract f (k + 1))) (s.data.toList.drop (k + 1)) := by
  rw [Utf.drop_cons s k h2, Can.dl_none, Can.dl_more s f k h1 h2]
  rfl

set_option maxHeartbeats 3200000 in
set_option maxRecDepth 100000 in
theorem rread_is (s : ByteArray) (ls : List Lab.L) (er : Int) (h : Can.read s.data.toList = (ls, er)) (w : World) (hs : s.size ≤ 1000000) :
    Calls Tryd.prog 30 #[.string s] w fun e w' => (∃ v, e = .returned (.tuple #[v, .int .i64 er]) ∧ OwnLabels w.heap.size v ls w') ∧ Below w.heap.size w w' := by
  rw [Can.read_refEnd] at h
  have H0 : Hid (Can.split [] s.data.toList = (([] : List ByteArray).map Can.dl) ++ [] ++ Can.split (Can.dl (s.extract 0 0)) (s.data.toList.drop 0)) := by
    show Can.split [] s.data.toList = _
    rw [Can.dl_none, List.drop_zero]; rfl
  have HE := Lib.hid h
  have i0 : (s.size : Int) ≤ 1000000 := by omega
  clear h
  go_enter Tryd.func30, Tryd.ntmps30
  go_wp2_with fail
  go_loopw [4, 5, 6, 7, 8] (fun v fv nv dv iv wr => ∃ (k f : Nat) (pre : List ByteArray) (nm : ByteArray) (nd : Bool), k ≤ s.size ∧ f ≤ k ∧ iv = .int .i64 k ∧ fv = .int .i64 f ∧ nv = .string nm ∧ dv = .bool nd ∧ pre.length % 2 = 0 ∧ pre.length + nd.toNat ≤ f ∧ (∀ x ∈ pre, (Can.dl x).length ≤ 1000000) ∧ (Can.dl nm).length ≤ 1000000 ∧
      OwnLabels w.heap.size v (Can.pairs (pre.map Can.dl)) wr ∧ Hid (Can.split [] s.data.toList = pre.map Can.dl ++ (if nd = true then [Can.dl nm] else []) ++ Can.split (Can.dl (s.extract f k)) (s.data.toList.drop k)) ∧ Below w.heap.size w wr) (fun _ _ _ _ i _ => s.size - (intOf i).toNat)
  case atStart => exact ⟨0, 0, [], _, false, Nat.zero_le _, Nat.le_refl _, rfl, rfl, rfl, rfl, rfl, by simp, by simp, by simp [Can.dl], OwnLabels.nil _ _, H0, Below.refl _ _⟩
  case round =>
    obtain ⟨k, f, pre, nm, nd, hk, hf, rfl, rfl, rfl, rfl, hpe, hpl, hpf, hnf, hown, HK, hb⟩ := hrel
    have hsz := hb.size
    by_cases hlt : k < s.size
    · have hst := Can.split_at s f k hf hlt
      have hck : (s[k].toNat : Int) < 256 := by have := s[k].toNat_lt; omega
      by_cases h255 : s[k] = 255
      · rw [if_pos h255] at hst
        have c1 : ((s[k].toNat : Int) == 255) = true := by rw [h255]; rfl
        have c2 : ((s[k].toNat : Int) != 255) = false := by rw [h255]; rfl
        have f1 : (f : Int) ≤ (k : Int) := by omega
        have f2 : (k : Int) ≤ (s.size : Int) := by omega
        have HX := Lib.hid (Can.pairs_two pre nm (s.extract f k) hpe)
        have HT := Lib.hid hst
        have H5 := Lib.hid h255
        have hxf := Lib.hid (show (Can.dl (s.extract f k)).length ≤ 1000000 by rw [Can.dl_extract, List.length_take, List.length_drop, Array.length_toList]; exact Nat.le_trans (Nat.min_le_left _ _) (by omega))
        have HPF := Lib.hid (show ∀ x ∈ pre ++ [nm, s.extract f k], (Can.dl x).length ≤ 1000000 by
          intro x hx
          rw [List.mem_append] at hx
          rcases hx with hx | hx
          · exact hpf x hx
          · simp only [List.mem_cons, List.not_mem_nil, or_false] at hx
            rcases hx with rfl | rfl
            · exact hnf
            · exact hxf.out)
        have hlp : (Can.pairs (pre.map Can.dl)).length ≤ 1000000 := by rw [Can.pairs_length, List.length_map]; omega
        clear hst h255
        cases nd
        · have hG : Hid (Can.split [] s.data.toList = pre.map Can.dl ++ (if true = true then [Can.dl (s.extract f k)] else []) ++ Can.split (Can.dl (s.extract (k + 1) (k + 1))) (s.data.toList.drop (k + 1))) := by
            show Can.split [] s.data.toList = _
            rw [HK.out, HT.out]
            simp
          have hpl2 : pre.length ≤ f := by simpa using hpl
          clear HK HT HX hpl
          go_wp2_with fail
          go_roundw
          case rel => exact ⟨k + 1, k + 1, pre, _, true, by omega, by omega, by go_num, by go_num, rfl, rfl, hpe, by simp; omega, hpf, hxf.out, hown, hG, hb⟩
          case measure => simp [intOf]; omega
        · have hG : Hid (Can.split [] s.data.toList = (pre ++ [nm, s.extract f k]).map Can.dl ++ (if false = true then [Can.dl (s.extract f k)] else []) ++ Can.split (Can.dl (s.extract (k + 1) (k + 1))) (s.data.toList.drop (k + 1))) := by
            show Can.split [] s.data.toList = _
            rw [HK.out, HT.out]
            simp
          have hpl2 : pre.length + 1 ≤ f := by simpa using hpl
          clear HK HT hpl
          obtain ⟨l0, hl0⟩ : ∃ l0, Can.pairs (pre.map Can.dl) = l0 := ⟨_, rfl⟩
          rw [hl0] at hown hlp HX
          clear hl0
          go_wp2_with (at_builtin; refine wpList_pushL 22 Tryd.underlying22 rfl _ _ rfl _ _ _ _ rfl hown ⟨nm, s.extract f k⟩ _ _ rfl _ rfl (by simp) ?c1 ?c2 ?_)
          case c1 => omega
          case c2 => exact hsz
          intro v' w4 hown' hg
          have hb5 := below_push _ hb hown hg
          go_wp2_with fail
          go_roundw
          case rel => exact ⟨k + 1, k + 1, pre ++ [nm, s.extract f k], _, false, by omega, by omega, by go_num, by go_num, rfl, rfl, by rw [List.length_append]; simp only [List.length_cons, List.length_nil]; omega, by rw [List.length_append]; simp only [List.length_cons, List.length_nil, Bool.toNat_false]; omega, HPF.out, hxf.out, by rw [HX.out]; exact hown', hG, hb5⟩
          case measure => simp [intOf]; omega
      · rw [if_neg h255] at hst
        have hne : ¬ (s[k].toNat : Int) = 255 := by intro e; apply h255; rw [← UInt8.toNat_inj]; have : (255 : UInt8).toNat = 255 := rfl; omega
        have c1 : ((s[k].toNat : Int) == 255) = false := by simpa using hne
        have c2 : ((s[k].toNat : Int) != 255) = true := by simpa using hne
        have hG : Hid (Can.split [] s.data.toList = pre.map Can.dl ++ (if nd = true then [Can.dl nm] else []) ++ Can.split (Can.dl (s.extract f (k + 1))) (s.data.toList.drop (k + 1))) := by
          show Can.split [] s.data.toList = _
          rw [HK.out, hst]
        have H5 := Lib.hid h255
        clear HK hst h255 hne
        go_wp2_with fail
        go_roundw
        case rel => exact ⟨k + 1, f, pre, nm, nd, by omega, by omega, by go_num, rfl, rfl, rfl, hpe, hpl, hpf, hnf, hown, hG, hb⟩
        case measure => simp [intOf]; omega
    · obtain rfl : k = s.size := by omega
      have h := HE.out
      rw [HK.out, List.drop_eq_nil_iff.2 (by rw [Array.length_toList]; exact Nat.le_refl _)] at h
      have hsp : Can.split (Can.dl (s.extract f s.size)) [] = [Can.dl (s.extract f s.size)] := rfl
      rw [hsp] at h
      have hcl : (Can.dl (s.extract f s.size)).length = s.size - f := by
        rw [Can.dl_extract, List.length_take, List.length_drop, Array.length_toList]
        exact Nat.min_eq_left (Nat.le_refl _)
      have h1 := Can.pairs_one pre (s.extract f s.size) hpe
      clear hsp HK HE
      cases nd
      · simp only [Bool.false_eq_true, if_false, List.append_nil] at h
        unfold Can.refEnd at h
        have hl : (pre.map Can.dl ++ [Can.dl (s.extract f s.size)]).length = pre.length + 1 := by simp
        have e : pre.map Can.dl ++ [Can.dl (s.extract f s.size)] = (pre ++ [s.extract f s.size]).map Can.dl := by simp
        have hg : (pre.map Can.dl ++ [Can.dl (s.extract f s.size)]).getLast? = some (Can.dl (s.extract f s.size)) := by simp
        rw [hl, hg, e, h1] at h
        clear hl hg e h1
        by_cases hfs : f < s.size
        · rw [if_pos (.inr (.inl (fun e => by rw [Option.some.inj e] at hcl; simp at hcl; omega)))] at h
          simp only [Prod.mk.injEq] at h
          obtain ⟨rfl, rfl⟩ := h
          have i1 : (f : Int) < (s.size : Int) := by omega
          clear hcl hpe hpl hlt
          go_wp2_with fail
          go_ret2
          exact ⟨⟨_, rfl, OwnLabels.nil _ _⟩, hb⟩
        · have hnil : Can.dl (s.extract f s.size) = [] := List.eq_nil_of_length_eq_zero (by omega)
          have i1 : (s.size : Int) ≤ (f : Int) := by omega
          obtain ⟨p, c, rfl, hAt, hl1, hl2⟩ := hown.open
          have hfit : Lab.Fit 1000000 (Can.pairs (pre.map Can.dl)) := Can.pairs_fit _ _ fun a ha => by
            obtain ⟨x, hx, rfl⟩ := List.mem_map.1 ha
            exact hpf x hx
          obtain ⟨ls1, hls1⟩ : ∃ ls1, Can.pairs (pre.map Can.dl) = ls1 := ⟨_, rfl⟩
          have hpl1 := Can.pairs_length (pre.map Can.dl)
          rw [hls1] at h hown hAt hfit hpl1 hl1 ⊢
          rw [List.length_map] at hpl1
          obtain ⟨br, hbr⟩ : ∃ br, Lab.right ls1 = br := ⟨_, rfl⟩
          rw [hbr] at h
          have HR := Lib.hid (rright_is p ls1 ls1.length c br hbr wr rfl hAt (fun x hx => by have := hfit x hx; unfold maxLen; omega) (by unfold maxLen; omega))
          obtain ⟨N, hN⟩ : ∃ N, ls1.length = N := ⟨_, rfl⟩
          rw [hN] at HR hown ⊢
          have HO := Lib.hid hown
          cases br
          · rw [if_pos (.inr (.inr rfl))] at h
            simp only [Prod.mk.injEq] at h
            obtain ⟨rfl, rfl⟩ := h
            clear hcl hpe hpl hlt hls1 hfit hAt hown hbr hl1 hpl1 hnil hfs hN
            go_wp2_with (go_at_call 53; refine HR.out.mono ?_)
            first | rintro e w5 ⟨rfl, hb5⟩ | rintro e w5 rfl hb5
            go_wp2_with fail
            go_ret2
            exact ⟨⟨_, rfl, OwnLabels.nil _ _⟩, below_next hb hb5⟩
          · rw [if_neg (by simp only [not_or, hnil]; exact ⟨by omega, by simp, by simp⟩)] at h
            simp only [Prod.mk.injEq] at h
            obtain ⟨rfl, rfl⟩ := h
            clear hcl hpe hpl hlt hls1 hfit hAt hown hbr hl1 hpl1 hnil hfs
            go_wp2_with (go_at_call 53; refine HR.out.mono ?_)
            first | rintro e w5 ⟨rfl, hb5⟩ | rintro e w5 rfl hb5
            go_wp2_with fail
            go_ret2
            exact ⟨⟨_, rfl, row_below HO.out hb5 (Nat.le_refl _)⟩, below_next hb hb5⟩
      · simp only [if_true] at h
        unfold Can.refEnd at h
        rw [if_pos (.inl (by simp only [List.length_append, List.length_map, List.length_cons, List.length_nil]; omega))] at h
        simp only [Prod.mk.injEq] at h
        obtain ⟨rfl, rfl⟩ := h
        clear hcl hpe hpl hlt h1
        go_wp2_with fail
        go_ret2
        exact ⟨⟨_, rfl, OwnLabels.nil _ _⟩, hb⟩
end Go.Proofs.YthnaninhbofeoaaDoor
