/- Contract of slices.SortFunc at api.Labels (by names). -/
import Derived.Test.YtflmojjpdmbnaaaL4O
namespace Go.Proofs.Ytflmojjpdmbnaaa
open Go.RowKit Go.Sort Go.Shelf Go.Lib

set_option maxHeartbeats 2000000 in
set_option maxRecDepth 100000 in
theorem sortA_pdq (g cap : Nat) (d : Array Lab.L) (w : World) (hH : HoldsK Lab.enc 2 w g 0 d) (hg : g < w.heap.size) (hsz : d.size < 4611686018427387904) :
    Calls Try.prog 99 #[.slice (some ⟨g, 0, none⟩) d.size cap, .func (.func 57) #[] #[]] w fun e w' =>
      e = .returned (.tuple #[]) ∧ ∃ n os, w' = sortWorldK Lab.enc 2 w g 0 n (pdq (ltOf Lab.cf) d 0 d.size (Lib.bitLen d.size) true true) os := by
  have eg : ∀ args w, (callFunc 57 args).run Try.prog w = .ok (.enter 57 args) w := enters_of Try.func57 (by kernel_rfl) rfl
  have hlim : Lib.bitLen d.size < 4611686018427387904 := Nat.lt_of_le_of_lt (Lib.bitLen_le d.size 62 (by omega) (by omega)) (by omega)
  have hp := AnyQ.pdqsortCmpFunc_all (P := Try.prog) { Try.sortL with } 2 Try.isAgg36 Try.sizeOf36 Lab.enc Lab.cf 57 #[] Lab.swo g 0 cap d w eg (fun _ _ _ _ x y => byName_lays x y _) ⟨fun _ => rfl, fun x u hu => by simp [Lab.enc] at hu; rcases hu with rfl | rfl <;> rfl, hH, hg⟩ (d.size + 1) 0 d.size (Lib.bitLen d.size) d w (by omega) rfl (SWK.start hH) (Nat.zero_le _) (Nat.le_refl _) hsz hlim (Or.inl rfl)
  change Calls Try.prog 96 _ _ _ at hp
  have hl : Calls Try.prog 97 #[.int .u64 (d.size : Int)] w fun e w' => e = .returned (.int .i64 (Lib.bitLen d.size : Nat)) ∧ w' = w := by
    have h := Try.bits_Len (d.size : Int) w (by omega) (by omega)
    rwa [Int.toNat_natCast] at h
  have wr : IntKind.u64.wrap (d.size : Int) = d.size := by simp [IntKind.wrap, IntKind.bits, IntKind.signed]; omega
  have HP := Lib.hid hp
  have HL := Lib.hid hl
  clear hH hp hl eg
  go_enter Try.func99, Try.ntmps99
  go_wp2_with (first | (go_at_call 97; refine HL.out.mono ?_; rintro e w' ⟨rfl, rfl⟩) | (go_at_call 96; refine HP.out.mono ?_; rintro e w' ⟨rfl, n, os, rfl⟩))
  go_end0
  exact ⟨rfl, n, os, rfl⟩
set_option maxHeartbeats 2000000 in
set_option maxRecDepth 100000 in
theorem sortA_none (w : World) :
    Calls Try.prog 99 #[.slice none 0 0, .func (.func 57) #[] #[]] w fun e w' => e = .returned (.tuple #[]) ∧ w' = w := by
  have hp := fun lim W => AnyF.pdqsortCmpFunc_none (P := Try.prog) { Try.sortL with } none 0 lim (.func (.func 57) #[] #[]) W
  change ∀ lim W, Calls Try.prog 96 _ _ _ at hp
  have hl : ∀ w, Calls Try.prog 97 #[.int .u64 0] w fun e w' => e = .returned (.int .i64 (Lib.bitLen 0 : Nat)) ∧ w' = w := fun w => Try.bits_Len 0 w (by omega) (by omega)
  have HP := Lib.hid hp
  have HL := Lib.hid hl
  clear hp hl
  go_enter Try.func99, Try.ntmps99
  go_wp2_with (first | (go_at_call 97; refine (HL.out _).mono ?_; rintro e w' ⟨rfl, rfl⟩) | (go_at_call 96; refine (HP.out _ _).mono ?_; rintro e w' ⟨rfl, rfl⟩))
  go_end0
  exact ⟨rfl, rfl⟩
theorem sortA_is (B : Nat) (v : Value) (ls : List Lab.L) (n : Nat) (w : World) (hn : ls.length = n) (h : OwnLabels B v ls w) (hB : B ≤ w.heap.size) (hl : n ≤ 100000) :
    Calls Try.prog 99 #[v, .func (.func 57) #[] #[]] w fun e w' => e = .returned (.tuple #[]) ∧ ∃ d, (d.Perm ls ∧ Lab.Asc d) ∧ OwnLabels B v d w' ∧ Below B w w' := by
  rcases h.2 with ⟨rfl, h0⟩ | ⟨g, cap, cur, rfl, hg, hh, _⟩
  · have hls : ls = [] := List.length_eq_zero_iff.1 h0
    refine (sortA_none w).mono fun e w' ⟨h1, h2⟩ => ⟨h1, [], ⟨by rw [hls], List.Pairwise.nil⟩, OwnLabels.nil _ _, by rw [h2]; exact Below.refl _ _⟩
  · have hlt := lt_of_heap hh
    have hsz : ls.toArray.size = ls.length := List.size_toArray
    have hcon := sortA_pdq g cap ls.toArray w (h.holds rfl) hlt (by rw [hsz]; omega)
    rw [hsz] at hcon
    refine hcon.mono fun e w' ⟨h1, q, os, hw⟩ => ?_
    have hps := pdq_sorts (ltOf Lab.cf) Lab.swo ls.toArray 0 ls.length (Lib.bitLen ls.length) true true (Nat.zero_le _) (by rw [hsz]; exact Nat.le_refl _) (Or.inl rfl)
    obtain ⟨d', hd'⟩ : ∃ d', pdq (ltOf Lab.cf) ls.toArray 0 ls.length (Lib.bitLen ls.length) true true = d' := ⟨_, rfl⟩
    rw [hd'] at hw hps
    obtain ⟨⟨p1, _, p3⟩, hs⟩ := hps
    have hd : d'.size = ls.length := by rw [p1, hsz]
    have hdl : d'.toList.length = ls.length := by rw [Array.length_toList]; exact hd
    have e1 : (d'.extract 0 ls.length).toList = d'.toList := by rw [← hd, Array.extract_size]
    have e2 : (ls.toArray.extract 0 ls.length).toList = ls := by rw [← hsz, Array.extract_size]
    rw [e1, e2] at p3
    refine ⟨h1, d'.toList, ⟨p3, ?_⟩, ?_, ?_⟩
    · unfold Lab.Asc
      rw [List.pairwise_iff_getElem]
      intro i j hi hj hij
      have := hs i j (Nat.zero_le _) hij (by omega)
      rw [Lab.cf_lt, decide_eq_false_iff_not, List.not_lt] at this
      rw [getElem!_pos d' i (by omega), getElem!_pos d' j (by omega)] at this
      simpa using this
    · rw [hw]
      have := h.sorted (l' := d'.toList) (q := q) (os := os) rfl hdl
      rw [Array.toArray_toList] at this
      exact this
    · rw [hw]; exact sorted_below d' (Below.refl _ _) hB hg
end Go.Proofs.Ytflmojjpdmbnaaa
