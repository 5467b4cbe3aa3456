/- Contracts of canon: keys. (Printed by gen_keys.py.) -/
import Derived.Test.YthnaninhbofeoaaGreatDoorAwkB
import Derived.Test.YthnaninhbofeoaaGreatDoorKey
namespace Go.Proofs.YthnaninhbofeoaaGreatDoor
open Go.RowKit

def Can.keyB (t : Can.T) : ByteArray := ⟨(Can.key (Lab.bs t.job) t.ls).1.toArray⟩
def Can.keyE (t : Can.T) : Int := (Can.key (Lab.bs t.job) t.ls).2
def Can.TFit (t : Can.T) : Prop := t.ls.length = t.n ∧ t.n ≤ 70 ∧ Lab.Fit 1100 t.ls ∧ t.job.size ≤ 1000000
/-- the first error of keys -/
def Can.err : List Can.T → Int
  | [] => 0
  | t :: r => if Can.keyE t = 0 then Can.err r else Can.keyE t
def Can.keysOf (ts : List Can.T) : List ByteArray := if Can.err ts = 0 then ts.map Can.keyB else []

set_option maxHeartbeats 1600000 in
set_option maxRecDepth 100000 in
theorem ckeys_is (b o c : Nat) (ts : List Can.T) (ks : List ByteArray) (er : Int) (n : Nat) (w : World) (hb0 : b < w.heap.size) (hn : ts.length = n) (hT : Can.TAt b o ts w) (hF : ∀ t ∈ ts, Can.TFit t) (he : Can.err ts = er) (hk : Can.keysOf ts = ks) (hl : n ≤ 1000) :
    Calls Tryz.prog 33 #[.slice (some ⟨b, o, none⟩) n c] w fun e w' => (∃ v, e = .returned (.tuple #[v, .int .i64 er]) ∧ OwnTexts w.heap.size v ks w') ∧ Below w.heap.size w w' := by
  have HN := Lib.hid hn
  have HK := Lib.hid hk
  have HO := Lib.hid hF
  have HT := Lib.hid hT
  have HE := Lib.hid he
  have H0 : Hid (Can.err (ts.drop 0) = er) := he
  clear hn hk hF hT he
  go_enter Tryz.func33, Tryz.ntmps33
  go_wp2_with fail
  go_loopw [4, 11] (fun v i wr => ∃ k : Nat, k ≤ n ∧ i = .int .i64 k ∧ OwnTexts w.heap.size v ((ts.take k).map Can.keyB) wr ∧ Hid (Can.err (ts.drop k) = er) ∧ Below w.heap.size w wr) (fun _ i _ => n - (intOf i).toNat)
  case atStart => exact ⟨0, Nat.zero_le _, rfl, OwnTexts.nil _ _, H0, Below.refl _ _⟩
  case round =>
    obtain ⟨k, hk, rfl, hown, HD, hb⟩ := hrel
    have hsz := hb.size
    by_cases hlt : k < n
    · have hk1 : k < ts.length := by rw [HN.out]; exact hlt
      obtain ⟨h0, h1, h2⟩ := HT.out k hk1
      have hd : ts.drop k = ts[k] :: ts.drop (k + 1) := List.drop_eq_getElem_cons hk1
      have htk : (ts.take (k + 1)).map Can.keyB = (ts.take k).map Can.keyB ++ [Can.keyB ts[k]] := by
        rw [List.take_add_one, List.getElem?_eq_getElem hk1, List.map_append]; rfl
      obtain ⟨g1, g2, g3, g4⟩ := HO.out ts[k] (List.getElem_mem _)
      obtain ⟨t, ht⟩ : ∃ t, ts[k] = t := ⟨_, rfl⟩
      rw [ht] at h0 h1 h2 g1 g2 g3 g4 hd htk
      have d0 := (hb.cell (p := ⟨b, o + k * 2, none⟩) hb0).trans h0
      have d1 := (hb.cell (p := ⟨b, o + k * 2 + 1, none⟩) hb0).trans h1
      have hA := h2.below hb (Nat.le_refl _)
      have hbr : b < wr.heap.size := by omega
      obtain ⟨⟨kk, e0⟩, hq⟩ : ∃ q, Can.key (Lab.bs t.job) t.ls = q := ⟨_, rfl⟩
      have HC := Lib.hid (fun W hA => ckey_is t.job t.p t.ls t.n t.c kk e0 hq W g1 hA g3 g2 g4)
      have hkb : Can.keyB t = ⟨kk.toArray⟩ := by unfold Can.keyB; rw [hq]
      have hke : Can.keyE t = e0 := by unfold Can.keyE; rw [hq]
      rw [hkb] at htk
      have hst : (if e0 = 0 then Can.err (ts.drop (k + 1)) else e0) = er := by
        have h3 := HD.out
        rw [hd] at h3
        have : Can.err (t :: ts.drop (k + 1)) = if Can.keyE t = 0 then Can.err (ts.drop (k + 1)) else Can.keyE t := rfl
        rw [this, hke] at h3
        exact h3
      obtain ⟨y, hy⟩ : ∃ y, ByteArray.mk kk.toArray = y := ⟨_, rfl⟩
      rw [hy] at HC htk
      have HX := Lib.hid htk
      have hlk : ((ts.take k).map Can.keyB).length ≤ 1000 := by rw [List.length_map, List.length_take]; omega
      obtain ⟨l0, hl0⟩ : ∃ l0, (ts.take k).map Can.keyB = l0 := ⟨_, rfl⟩
      rw [hl0] at hown HX hlk
      obtain ⟨tj, tp, tn, tc, tl⟩ := t
      dsimp only at d0 d1 hA HC
      clear ht h0 h1 h2 g1 g2 g3 g4 hq hl0 hd htk hkb hke HD hy
      by_cases h00 : e0 = 0
      · subst h00
        rw [if_pos rfl] at hst
        have HS := Lib.hid hst
        clear hst
        go_wp2_with (go_at_call 21; refine (HC.out _ (hA.alloc _)).mono ?_)
        first | rintro e w2 rfl hb2 | rintro e w2 ⟨rfl, hb2⟩
        have hb3 : Below w.heap.size w w2 := (hb.alloc hsz _).trans (hb2.mono (by simp; omega))
        have hown2 := (hown.alloc (.cells #[.string tj, .slice tp tn tc] 37)).below hb2 (Nat.le_refl _)
        go_wp2_with (at_builtin; refine wpList_pushT rfl _ _ rfl _ _ _ _ rfl hown2 [y] _ _ rfl _ rfl (by simp) ?c1 ?c2 ?_)
        case c1 => simp only [List.length_cons, List.length_nil]; omega
        case c2 => exact hb3.size
        intro v' w4 hown' hg
        have hb4 := below_push _ hb3 hown2 hg
        go_wp2_with fail
        go_roundw
        case rel => exact ⟨k + 1, by omega, by go_num, by rw [HX.out]; exact hown', HS, hb4⟩
        case measure => simp [intOf]; omega
      · rw [if_neg h00] at hst
        subst hst
        have q1 : (e0 != 0) = true := by simpa using h00
        have HK2 : Hid (ks = []) := by
          show ks = []
          rw [← HK.out]
          unfold Can.keysOf
          rw [HE.out, if_neg h00]
        clear h00
        go_wp2_with (go_at_call 21; refine (HC.out _ (hA.alloc _)).mono ?_)
        first | rintro e w2 rfl hb2 | rintro e w2 ⟨rfl, hb2⟩
        have hb3 : Below w.heap.size w w2 := (hb.alloc hsz _).trans (hb2.mono (by simp; omega))
        go_wp2_with fail
        go_ret2
        exact ⟨⟨_, rfl, by rw [HK2.out]; exact OwnTexts.nil _ _⟩, hb3⟩
    · have hk2 : ts.take k = ts := List.take_of_length_le (by rw [HN.out]; omega)
      rw [hk2] at hown
      have he0 : er = 0 := by
        have := HD.out
        rw [List.drop_eq_nil_iff.2 (by rw [HN.out]; omega)] at this
        exact this.symm
      subst he0
      have HK2 : Hid (ks = ts.map Can.keyB) := by
        show ks = _
        rw [← HK.out]
        unfold Can.keysOf
        rw [HE.out, if_pos rfl]
      clear hk2 HD
      go_wp2_with fail
      go_ret2
      exact ⟨⟨_, rfl, by rw [HK2.out]; exact hown⟩, hb⟩
end Go.Proofs.YthnaninhbofeoaaGreatDoor
