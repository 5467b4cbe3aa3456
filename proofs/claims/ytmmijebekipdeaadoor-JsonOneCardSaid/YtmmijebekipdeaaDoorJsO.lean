/- Contract of json.quote: the text of a string of valid UTF-8. -/
import Derived.Test.YtmmijebekipdeaaDoorJsK
import Derived.Test.YtmmijebekipdeaaDoorJsD
import Derived.Test.YtmmijebekipdeaaDoorJsY
namespace Go.Proofs.YtmmijebekipdeaaDoor
open Go.RowKit
set_option maxRecDepth 100000

theorem Js.drop_cons (s : ByteArray) (i : Nat) (h : i < s.size) : s.data.toList.drop i = UInt8.ofNat (Js.nx s i) :: s.data.toList.drop (i + 1) := by
  rw [List.drop_eq_getElem_cons (by simpa using h), Js.nx_get s i h]
  congr 1
  simp
  rfl
theorem Js.qc_byte (b : Nat) (h : 128 ≤ b) (h2 : b < 256) : Js.qc (UInt8.ofNat b) = [UInt8.ofNat b] := by
  refine Js.qc_high _ ?_
  rw [UInt8.toNat_ofNat', Nat.mod_eq_of_lt (by omega)]
  exact h
/-- what is written for a code point -/
def Js.qp (c : Nat) : List UInt8 := if c < 128 then Js.qc (UInt8.ofNat c) else Js.enc c
theorem Js.quo_step (s : ByteArray) (i : Nat) (hlt : i < s.size) (h : Js.rune s i ≠ 0) : i + Js.rune s i ≤ s.size ∧ Js.okPoint (Utf8.decode s i).1 ∧
    (s.data.toList.drop i).flatMap Js.qc = Js.qp (Utf8.decode s i).1 ++ (s.data.toList.drop (i + Js.rune s i)).flatMap Js.qc := by
  obtain ⟨h1, h2, h3, h4, h5⟩ := Js.decode_point s i h
  obtain ⟨c, hc⟩ : ∃ c, (Utf8.decode s i).1 = c := ⟨_, rfl⟩
  obtain ⟨r, hr⟩ : ∃ r, Js.rune s i = r := ⟨_, rfl⟩
  rw [hc, hr] at h1 h2 h3 h4
  rw [hr] at h h5
  rw [hc, hr]
  clear hc hr
  have hi : ∀ k, Js.nx s k ≠ 0 → k < s.size := fun k hk => Nat.lt_of_not_le fun hh => hk (Js.nx_end s k hh)
  have hn := Js.nx_lt s
  have hd := Js.drop_cons s
  have he : 128 ≤ c → Js.qp c = Js.enc c := fun hh => by unfold Js.qp; rw [if_neg (by omega)]
  rcases (by omega : r = 1 ∨ r = 2 ∨ r = 3 ∨ r = 4) with rfl | rfl | rfl | rfl
  · obtain ⟨e0, e1⟩ := h1 rfl
    clear h1 h2 h3 h4
    refine ⟨by omega, ⟨by omega, by omega⟩, ?_⟩
    · rw [hd i hlt, ← e0, List.flatMap_cons]
      unfold Js.qp
      rw [if_pos e1]
  · obtain ⟨e0, e1, e2, e3⟩ := h2 rfl
    clear h1 h2 h3 h4
    have l1 := hi i (by omega)
    have l2 := hi (i + 1) (by omega)
    refine ⟨by omega, ⟨by omega, by omega⟩, ?_⟩
    · rw [hd i l1, hd (i + 1) l2, he e0, List.flatMap_cons, List.flatMap_cons, Js.qc_byte _ (by omega) (hn i), Js.qc_byte _ (by omega) (hn (i + 1)), ← e2, ← e3]
      unfold Js.enc
      rw [if_neg (by omega), if_pos (by omega)]
      rfl
  · obtain ⟨e0, e1, e2, e3, e4, e5⟩ := h3 rfl
    rw [show i + 2 = i + 1 + 1 from rfl] at e5
    clear h1 h2 h3 h4
    have l1 := hi i (by omega)
    have l2 := hi (i + 1) (by omega)
    have l3 := hi (i + 1 + 1) (by omega)
    refine ⟨by omega, ⟨by omega, e2⟩, ?_⟩
    · rw [hd i l1, hd (i + 1) l2, hd (i + 1 + 1) l3, he (by omega), List.flatMap_cons, List.flatMap_cons, List.flatMap_cons, Js.qc_byte _ (by omega) (hn i), Js.qc_byte _ (by omega) (hn (i + 1)), Js.qc_byte _ (by omega) (hn (i + 1 + 1)), ← e3, ← e4, ← e5]
      unfold Js.enc
      rw [if_neg (by omega), if_neg (by omega), if_pos (by omega)]
      rfl
  · obtain ⟨e0, e1, e2, e3, e4, e5⟩ := h4 rfl
    rw [show i + 2 = i + 1 + 1 from rfl] at e4
    rw [show i + 3 = i + 1 + 1 + 1 from rfl] at e5
    clear h1 h2 h3 h4
    have l1 := hi i (by omega)
    have l2 := hi (i + 1) (by omega)
    have l3 := hi (i + 1 + 1) (by omega)
    have l4 := hi (i + 1 + 1 + 1) (by omega)
    refine ⟨by omega, ⟨e1, by omega⟩, ?_⟩
    · rw [hd i l1, hd (i + 1) l2, hd (i + 1 + 1) l3, hd (i + 1 + 1 + 1) l4, he (by omega), List.flatMap_cons, List.flatMap_cons, List.flatMap_cons, List.flatMap_cons, Js.qc_byte _ (by omega) (hn i), Js.qc_byte _ (by omega) (hn (i + 1)), Js.qc_byte _ (by omega) (hn (i + 1 + 1)), Js.qc_byte _ (by omega) (hn (i + 1 + 1 + 1)), ← e2, ← e3, ← e4, ← e5]
      unfold Js.enc
      rw [if_neg (by omega), if_neg (by omega), if_neg (by omega)]
      rfl
theorem others_iterAt {e : Nat} {b : Option Nat} {a w : World} (h : Lib.OthersKept e b a w) {K : Nat} (hK : a.heap.size ≤ K) (s : ByteArray) (pos : Nat) : Lib.OthersKept e b a (w.iterAt K s pos) := by
  intro k o hk hb ho
  have hlt := lt_of_heap hk
  rw [Lib.iterAt_other w K k s pos (by omega)]
  exact h k o hk hb ho
theorem Js.rune_cells (c : Nat) (h : Js.okPoint c) : Lib.runeCells (c : Int) = Lib.byteCells (Js.enc c) := by rw [← Js.enc_is c h, Lib.byteCells_encodeRune]
theorem Js.cells_add (l m : List UInt8) : Lib.byteCells l ++ Lib.byteCells m = Lib.byteCells (l ++ m) := (Lib.byteCells_append l m).symm

theorem Js.qp_low (c : Nat) (h1 : c ≠ 34) (h2 : c ≠ 92) (h3 : 32 ≤ c) : Js.qp c = Js.enc c := by
  unfold Js.qp Js.enc
  by_cases h : c < 128
  · rw [if_pos h, if_pos h]
    have e : (UInt8.ofNat c).toNat = c := by rw [UInt8.toNat_ofNat', Nat.mod_eq_of_lt (by omega)]
    unfold Js.qc
    rw [if_neg (fun hh => by rcases hh with hh | hh <;> have h9 := congrArg UInt8.toNat hh <;> rw [e] at h9 <;> simp at h9 <;> omega), if_pos (by omega)]
  · rw [if_neg h, if_neg h]
theorem Js.cell_one (n : Nat) (h : n < 256) (v : Int) (hv : v = n) : Lib.byteCells [UInt8.ofNat n] = [.int .u8 v] := by
  subst hv
  simp [Lib.byteCells, UInt8.toNat_ofNat', Nat.mod_eq_of_lt h]
theorem Js.and15 (c : Nat) (h : c < 32) : bits .and .i32 (c : Int) 15 = ((c % 16 : Nat) : Int) := (by decide +kernel : ∀ c : Fin 32, bits .and .i32 (c.val : Int) 15 = ((c.val % 16 : Nat) : Int)) ⟨c, h⟩
theorem Js.digit16 (m : Nat) (h : m < 16) : (⟨#[48, 49, 50, 51, 52, 53, 54, 55, 56, 57, 97, 98, 99, 100, 101, 102]⟩ : ByteArray)[m]'h = UInt8.ofNat (if m < 10 then 48 + m else 87 + m) :=
  (by decide +kernel : ∀ m : Fin 16, (⟨#[48, 49, 50, 51, 52, 53, 54, 55, 56, 57, 97, 98, 99, 100, 101, 102]⟩ : ByteArray)[m.val]'m.isLt = UInt8.ofNat (if m.val < 10 then 48 + m.val else 87 + m.val)) ⟨m, h⟩
theorem Js.qp_ctl (c : Nat) (h : c < 32) (h8 : ¬ (c = 8 ∨ c = 9 ∨ c = 10 ∨ c = 12 ∨ c = 13)) : Js.qp c = [92, 117, 48, 48] ++ [UInt8.ofNat (48 + c / 16)] ++ [UInt8.ofNat (if c % 16 < 10 then 48 + c % 16 else 87 + c % 16)] :=
  (by decide +kernel : ∀ c : Fin 32, ¬ (c.val = 8 ∨ c.val = 9 ∨ c.val = 10 ∨ c.val = 12 ∨ c.val = 13) → Js.qp c.val = [92, 117, 48, 48] ++ [UInt8.ofNat (48 + c.val / 16)] ++ [UInt8.ofNat (if c.val % 16 < 10 then 48 + c.val % 16 else 87 + c.val % 16)]) ⟨c, h⟩ h8
set_option maxHeartbeats 8000000 in
theorem Js.quote_is (B b : Nat) (s : ByteArray) (acc : List UInt8) (w : World) (h : Lib.IsBuilderF 47 5 B b (Lib.byteCells acc) w) (hlen : acc.length + (Js.quo s.data.toList).length + 16 ≤ 140737488355328) (hv : Js.bad8 s = none) (hBw : B ≤ w.heap.size) :
    Calls Tryd.prog 64 #[.pointer (some ⟨b, 0, none⟩), .string s] w fun e w' => e = .returned (.tuple #[]) ∧ Lib.IsBuilderF 47 5 B b (Lib.byteCells (acc ++ Js.quo s.data.toList)) w' ∧ Below B w w' ∧ Lib.OthersKept 5 (some b) w w' := by
  obtain ⟨T, hT⟩ : ∃ T, acc ++ Js.quo s.data.toList = T := ⟨_, rfl⟩
  rw [hT]
  have hTl : T.length + 16 ≤ 140737488355328 := by rw [← hT, List.length_append]; exact hlen
  have ha : acc.length + 16 ≤ 140737488355328 := by omega
  have HT := Lib.hid hT
  have HV := Lib.hid hv
  have hb : b < w.heap.size := by
    rcases h with ⟨_, _, h, _⟩ | ⟨_, _, h, _⟩ <;> exact lt_of_heap h
  clear hT hv hlen
  go_enter Tryd.func64, Tryd.ntmps64
  go_wp2_with (go_at_call 35; refine (writeByte_k B b _ 34 _ h (by rw [Lib.byteCells_length]; omega) hBw).mono ?_)
  rintro e w1 ⟨rfl, hI1, hb1, hk1⟩
  have HI1 : Hid (Lib.IsBuilderF 47 5 B b (Lib.byteCells (acc ++ [34])) w1) := by
    rw [← Js.cells_add]; exact .inr hI1
  have HB1 := Lib.hid hb1
  have HK1 := Lib.hid hk1
  have hs1 := hb1.size
  clear hI1 hb1 hk1 h
  go_wp2
  go_loopg [] (s.size + 1) (fun gk wr => ∃ (i f : Nat) (X : List UInt8), s.size < gk + i ∧ s.size ≤ f + i ∧ i ≤ s.size ∧ Hid (Js.badF s f i = none) ∧ Hid (X ++ ((s.data.toList.drop i).flatMap Js.qc ++ [34]) = T) ∧
    Hid (wr.heap[w1.heap.size]? = some (.stringIter s i)) ∧ Hid (Lib.IsBuilderF 47 5 B b (Lib.byteCells X) wr) ∧ Hid (Below B w wr) ∧ Hid (Lib.OthersKept 5 (some b) w wr))
  case atStart => exact ⟨0, s.size, acc ++ [34], by omega, by omega, by omega, HV.out, (by have h9 : _ = T := HT.out; show _ = T; rw [List.drop_zero, ← h9, Js.quo]; simp), World.iter_heap w1 s 0, HI1.out.alloc _, HB1.out.alloc (by omega) _, HK1.out.alloc _⟩
  case round =>
    clear HT HV HI1 HB1 HK1
    obtain ⟨i, f, X, hg, hf, hi, HV, HT, HI, HU, HB, HK⟩ := hrel
    have hX : X.length + 16 ≤ 140737488355328 := by
      have h9 : _ = T := HT.out
      have h7 := congrArg List.length h9
      rw [List.length_append] at h7
      omega
    have hlI := (Array.getElem?_eq_some_iff.1 HI.out).1
    have hsz := HB.out.size
    by_cases h : i < s.size
    · have hnx : ∀ ty, (Instr.next (.pointer (some ⟨w1.heap.size, 0, none⟩)) true ty).run Tryd.prog wr = _ := fun ty => Lib.run_next_any_at wr w1.heap.size s i ty HI.out h
      obtain ⟨f', rfl⟩ : ∃ f', f = f' + 1 := ⟨f - 1, by omega⟩
      have hv9 : Js.badF s (f' + 1) i = none := HV.out
      rw [Js.badF, if_neg (by omega)] at hv9
      have hr0 : Js.rune s i ≠ 0 := fun e => by rw [if_pos e] at hv9; cases hv9
      rw [if_neg hr0] at hv9
      have HV2 := Lib.hid hv9
      obtain ⟨he, hpt, hq⟩ := Js.quo_step s i h hr0
      obtain ⟨hd2, -⟩ := (Js.decode_rune s i).2 hr0
      have HT2 : Hid (X ++ Js.qp (Utf8.decode s i).1 ++ ((s.data.toList.drop (i + Js.rune s i)).flatMap Js.qc ++ [34]) = T) := by
        have h9 : _ = T := HT.out
        rw [hq] at h9
        show _ = T
        rw [← h9]; simp
      obtain ⟨W1, hW1⟩ : ∃ W1, wr.iterAt w1.heap.size s (i + (Utf8.decode s i).2) = W1 := ⟨_, rfl⟩
      have HB1 : Hid (Below B w W1) := by subst hW1; exact Lib.below_iterAt HB.out (by omega) _ _
      have HI1 : Hid (W1.heap[w1.heap.size]? = some (.stringIter s (i + (Utf8.decode s i).2))) := by subst hW1; exact Lib.iterAt_heap wr w1.heap.size s i _ HI.out
      have HU1 : Hid (Lib.IsBuilderF 47 5 B b (Lib.byteCells X) W1) := by subst hW1; exact HU.out.iterAt HI.out _
      have HK1 : Hid (Lib.OthersKept 5 (some b) w W1) := by subst hW1; exact others_iterAt HK.out hs1 _ _
      have hsz1 := HB1.out.size
      have hl1 := (Array.getElem?_eq_some_iff.1 HI1.out).1
      rw [hW1] at hnx
      clear hW1 hv9 hq HB HI HU HK HV HT hlI hsz
      obtain ⟨D, hD⟩ : ∃ D, Utf8.decode s i = D := ⟨_, rfl⟩
      rw [hD] at hnx HI1 hpt hd2 HT2
      clear hD
      obtain ⟨c, d2⟩ := D
      obtain ⟨r, hr⟩ : ∃ r, Js.rune s i = r := ⟨_, rfl⟩
      rw [hr] at hr0 HV2 he hd2 HT2
      clear hr
      dsimp only at hpt hd2 HT2 HI1 hnx
      obtain rfl := hd2.symm
      clear hd2
      obtain ⟨g', rfl⟩ : ∃ g', gk = g' + 1 := ⟨gk - 1, by omega⟩
      by_cases h34 : c = 34 ∨ c = 92
      · rcases h34 with rfl | rfl
        · have HT3 : Hid (X ++ [92] ++ Js.enc 34 ++ ((s.data.toList.drop (i + r)).flatMap Js.qc ++ [34]) = T) := by
            have h9 : _ = T := HT2.out
            show _ = T
            rw [← h9, List.append_assoc X [92]]; rfl
          have e9 : (Js.enc 34).length = 1 := rfl
          go_wp2_with (go_at_call 35; refine (writeByte_k B b _ 92 _ HU1.out (by rw [Lib.byteCells_length]; (try simp only [List.length_append, List.length_cons, List.length_nil]); omega) (by omega)).mono ?_)
          first | rintro e w2 rfl hI2 hb2 hk2 | rintro e w2 ⟨rfl, hI2, hb2, hk2⟩
          have hs2 := hb2.size
          have HI2 : Hid (Lib.IsBuilderF 47 5 B b (Lib.byteCells (X ++ [92])) w2) := by rw [← Js.cells_add]; exact .inr hI2
          clear hI2
          go_wp2_with (go_at_call 89; refine (writeRune_k B b _ 34 ⟨by omega, by omega⟩ _ HI2.out (by rw [Lib.byteCells_length]; (try simp only [List.length_append, List.length_cons, List.length_nil]); omega) (by omega)).mono ?_)
          first | rintro e w3 rfl hI3 hb3 hk3 | rintro e w3 ⟨rfl, hI3, hb3, hk3⟩
          have hs3 := hb3.size
          have HI3 : Hid (Lib.IsBuilderF 47 5 B b (Lib.byteCells (X ++ [92] ++ Js.enc 34)) w3) := by rw [← Js.cells_add, ← Js.rune_cells 34 ⟨by omega, by omega⟩]; exact .inr hI3
          clear hI3
          go_wp2
          go_roundg g'
          case measure => omega
          case rel => exact ⟨i + r, f', X ++ [92] ++ Js.enc 34, by omega, by omega, he, HV2.out, HT3.out, (hk3.iter (hk2.iter HI1.out (by omega)) (by omega)), HI3.out, HB1.out.trans (hb2.trans hb3), HK1.out.trans (hk2.trans hk3)⟩
        · have HT3 : Hid (X ++ [92] ++ Js.enc 92 ++ ((s.data.toList.drop (i + r)).flatMap Js.qc ++ [34]) = T) := by
            have h9 : _ = T := HT2.out
            show _ = T
            rw [← h9, List.append_assoc X [92]]; rfl
          have e9 : (Js.enc 92).length = 1 := rfl
          go_wp2_with (go_at_call 35; refine (writeByte_k B b _ 92 _ HU1.out (by rw [Lib.byteCells_length]; (try simp only [List.length_append, List.length_cons, List.length_nil]); omega) (by omega)).mono ?_)
          first | rintro e w2 rfl hI2 hb2 hk2 | rintro e w2 ⟨rfl, hI2, hb2, hk2⟩
          have hs2 := hb2.size
          have HI2 : Hid (Lib.IsBuilderF 47 5 B b (Lib.byteCells (X ++ [92])) w2) := by rw [← Js.cells_add]; exact .inr hI2
          clear hI2
          go_wp2_with (go_at_call 89; refine (writeRune_k B b _ 92 ⟨by omega, by omega⟩ _ HI2.out (by rw [Lib.byteCells_length]; (try simp only [List.length_append, List.length_cons, List.length_nil]); omega) (by omega)).mono ?_)
          first | rintro e w3 rfl hI3 hb3 hk3 | rintro e w3 ⟨rfl, hI3, hb3, hk3⟩
          have hs3 := hb3.size
          have HI3 : Hid (Lib.IsBuilderF 47 5 B b (Lib.byteCells (X ++ [92] ++ Js.enc 92)) w3) := by rw [← Js.cells_add, ← Js.rune_cells 92 ⟨by omega, by omega⟩]; exact .inr hI3
          clear hI3
          go_wp2
          go_roundg g'
          case measure => omega
          case rel => exact ⟨i + r, f', X ++ [92] ++ Js.enc 92, by omega, by omega, he, HV2.out, HT3.out, (hk3.iter (hk2.iter HI1.out (by omega)) (by omega)), HI3.out, HB1.out.trans (hb2.trans hb3), HK1.out.trans (hk2.trans hk3)⟩
      · by_cases h32 : 32 ≤ c
        · have HT3 : Hid (X ++ Js.enc c ++ ((s.data.toList.drop (i + r)).flatMap Js.qc ++ [34]) = T) := by
            have h9 : _ = T := HT2.out
            rw [Js.qp_low c (by omega) (by omega) h32] at h9
            exact h9
          have e9 := Js.enc_len c
          have hp1 := hpt.1
          have b1 : ((c : Int) == 34) = false := Js.beq_f (by omega)
          have b2 : ((c : Int) == 92) = false := Js.beq_f (by omega)
          have b3 : decide ((32 : Int) ≤ c) = true := decide_eq_true (by omega)
          have HPT := Lib.hid hpt
          clear hpt
          go_wp2_with (go_at_call 89; refine (writeRune_k B b _ (c : Int) ⟨by omega, by omega⟩ _ HU1.out (by rw [Lib.byteCells_length]; (try simp only [List.length_append, List.length_cons, List.length_nil]); omega) (by omega)).mono ?_)
          first | rintro e w2 rfl hI2 hb2 hk2 | rintro e w2 ⟨rfl, hI2, hb2, hk2⟩
          have hs2 := hb2.size
          have HI2 : Hid (Lib.IsBuilderF 47 5 B b (Lib.byteCells (X ++ Js.enc c)) w2) := by rw [← Js.cells_add, ← Js.rune_cells c HPT.out]; exact .inr hI2
          clear hI2
          go_wp2
          go_roundg g'
          case measure => omega
          case rel => exact ⟨i + r, f', X ++ Js.enc c, by omega, by omega, he, HV2.out, HT3.out, (hk2.iter HI1.out (by omega)), HI2.out, HB1.out.trans hb2, HK1.out.trans hk2⟩
        · by_cases h8 : c = 8 ∨ c = 9 ∨ c = 10 ∨ c = 12 ∨ c = 13
          · rcases h8 with rfl | rfl | rfl | rfl | rfl
            · have HT3 : Hid (X ++ [92] ++ [98] ++ ((s.data.toList.drop (i + r)).flatMap Js.qc ++ [34]) = T) := by
                have h9 : _ = T := HT2.out
                show _ = T
                rw [← h9, List.append_assoc X [92]]; rfl
              go_wp2_with (go_at_call 35; refine (writeByte_k B b _ 92 _ HU1.out (by rw [Lib.byteCells_length]; (try simp only [List.length_append, List.length_cons, List.length_nil]); omega) (by omega)).mono ?_)
              first | rintro e w2 rfl hI2 hb2 hk2 | rintro e w2 ⟨rfl, hI2, hb2, hk2⟩
              have hs2 := hb2.size
              have HI2 : Hid (Lib.IsBuilderF 47 5 B b (Lib.byteCells (X ++ [92])) w2) := by rw [← Js.cells_add]; exact .inr hI2
              clear hI2
              go_wp2_with (go_at_call 35; refine (writeByte_k B b _ 98 _ HI2.out (by rw [Lib.byteCells_length]; (try simp only [List.length_append, List.length_cons, List.length_nil]); omega) (by omega)).mono ?_)
              first | rintro e w3 rfl hI3 hb3 hk3 | rintro e w3 ⟨rfl, hI3, hb3, hk3⟩
              have hs3 := hb3.size
              have HI3 : Hid (Lib.IsBuilderF 47 5 B b (Lib.byteCells (X ++ [92] ++ [98])) w3) := by rw [← Js.cells_add]; exact .inr hI3
              clear hI3
              go_wp2
              go_roundg g'
              case measure => omega
              case rel => exact ⟨i + r, f', X ++ [92] ++ [98], by omega, by omega, he, HV2.out, HT3.out, (hk3.iter (hk2.iter HI1.out (by omega)) (by omega)), HI3.out, HB1.out.trans (hb2.trans hb3), HK1.out.trans (hk2.trans hk3)⟩
            · have HT3 : Hid (X ++ [92] ++ [116] ++ ((s.data.toList.drop (i + r)).flatMap Js.qc ++ [34]) = T) := by
                have h9 : _ = T := HT2.out
                show _ = T
                rw [← h9, List.append_assoc X [92]]; rfl
              go_wp2_with (go_at_call 35; refine (writeByte_k B b _ 92 _ HU1.out (by rw [Lib.byteCells_length]; (try simp only [List.length_append, List.length_cons, List.length_nil]); omega) (by omega)).mono ?_)
              first | rintro e w2 rfl hI2 hb2 hk2 | rintro e w2 ⟨rfl, hI2, hb2, hk2⟩
              have hs2 := hb2.size
              have HI2 : Hid (Lib.IsBuilderF 47 5 B b (Lib.byteCells (X ++ [92])) w2) := by rw [← Js.cells_add]; exact .inr hI2
              clear hI2
              go_wp2_with (go_at_call 35; refine (writeByte_k B b _ 116 _ HI2.out (by rw [Lib.byteCells_length]; (try simp only [List.length_append, List.length_cons, List.length_nil]); omega) (by omega)).mono ?_)
              first | rintro e w3 rfl hI3 hb3 hk3 | rintro e w3 ⟨rfl, hI3, hb3, hk3⟩
              have hs3 := hb3.size
              have HI3 : Hid (Lib.IsBuilderF 47 5 B b (Lib.byteCells (X ++ [92] ++ [116])) w3) := by rw [← Js.cells_add]; exact .inr hI3
              clear hI3
              go_wp2
              go_roundg g'
              case measure => omega
              case rel => exact ⟨i + r, f', X ++ [92] ++ [116], by omega, by omega, he, HV2.out, HT3.out, (hk3.iter (hk2.iter HI1.out (by omega)) (by omega)), HI3.out, HB1.out.trans (hb2.trans hb3), HK1.out.trans (hk2.trans hk3)⟩
            · have HT3 : Hid (X ++ [92] ++ [110] ++ ((s.data.toList.drop (i + r)).flatMap Js.qc ++ [34]) = T) := by
                have h9 : _ = T := HT2.out
                show _ = T
                rw [← h9, List.append_assoc X [92]]; rfl
              go_wp2_with (go_at_call 35; refine (writeByte_k B b _ 92 _ HU1.out (by rw [Lib.byteCells_length]; (try simp only [List.length_append, List.length_cons, List.length_nil]); omega) (by omega)).mono ?_)
              first | rintro e w2 rfl hI2 hb2 hk2 | rintro e w2 ⟨rfl, hI2, hb2, hk2⟩
              have hs2 := hb2.size
              have HI2 : Hid (Lib.IsBuilderF 47 5 B b (Lib.byteCells (X ++ [92])) w2) := by rw [← Js.cells_add]; exact .inr hI2
              clear hI2
              go_wp2_with (go_at_call 35; refine (writeByte_k B b _ 110 _ HI2.out (by rw [Lib.byteCells_length]; (try simp only [List.length_append, List.length_cons, List.length_nil]); omega) (by omega)).mono ?_)
              first | rintro e w3 rfl hI3 hb3 hk3 | rintro e w3 ⟨rfl, hI3, hb3, hk3⟩
              have hs3 := hb3.size
              have HI3 : Hid (Lib.IsBuilderF 47 5 B b (Lib.byteCells (X ++ [92] ++ [110])) w3) := by rw [← Js.cells_add]; exact .inr hI3
              clear hI3
              go_wp2
              go_roundg g'
              case measure => omega
              case rel => exact ⟨i + r, f', X ++ [92] ++ [110], by omega, by omega, he, HV2.out, HT3.out, (hk3.iter (hk2.iter HI1.out (by omega)) (by omega)), HI3.out, HB1.out.trans (hb2.trans hb3), HK1.out.trans (hk2.trans hk3)⟩
            · have HT3 : Hid (X ++ [92] ++ [102] ++ ((s.data.toList.drop (i + r)).flatMap Js.qc ++ [34]) = T) := by
                have h9 : _ = T := HT2.out
                show _ = T
                rw [← h9, List.append_assoc X [92]]; rfl
              go_wp2_with (go_at_call 35; refine (writeByte_k B b _ 92 _ HU1.out (by rw [Lib.byteCells_length]; (try simp only [List.length_append, List.length_cons, List.length_nil]); omega) (by omega)).mono ?_)
              first | rintro e w2 rfl hI2 hb2 hk2 | rintro e w2 ⟨rfl, hI2, hb2, hk2⟩
              have hs2 := hb2.size
              have HI2 : Hid (Lib.IsBuilderF 47 5 B b (Lib.byteCells (X ++ [92])) w2) := by rw [← Js.cells_add]; exact .inr hI2
              clear hI2
              go_wp2_with (go_at_call 35; refine (writeByte_k B b _ 102 _ HI2.out (by rw [Lib.byteCells_length]; (try simp only [List.length_append, List.length_cons, List.length_nil]); omega) (by omega)).mono ?_)
              first | rintro e w3 rfl hI3 hb3 hk3 | rintro e w3 ⟨rfl, hI3, hb3, hk3⟩
              have hs3 := hb3.size
              have HI3 : Hid (Lib.IsBuilderF 47 5 B b (Lib.byteCells (X ++ [92] ++ [102])) w3) := by rw [← Js.cells_add]; exact .inr hI3
              clear hI3
              go_wp2
              go_roundg g'
              case measure => omega
              case rel => exact ⟨i + r, f', X ++ [92] ++ [102], by omega, by omega, he, HV2.out, HT3.out, (hk3.iter (hk2.iter HI1.out (by omega)) (by omega)), HI3.out, HB1.out.trans (hb2.trans hb3), HK1.out.trans (hk2.trans hk3)⟩
            · have HT3 : Hid (X ++ [92] ++ [114] ++ ((s.data.toList.drop (i + r)).flatMap Js.qc ++ [34]) = T) := by
                have h9 : _ = T := HT2.out
                show _ = T
                rw [← h9, List.append_assoc X [92]]; rfl
              go_wp2_with (go_at_call 35; refine (writeByte_k B b _ 92 _ HU1.out (by rw [Lib.byteCells_length]; (try simp only [List.length_append, List.length_cons, List.length_nil]); omega) (by omega)).mono ?_)
              first | rintro e w2 rfl hI2 hb2 hk2 | rintro e w2 ⟨rfl, hI2, hb2, hk2⟩
              have hs2 := hb2.size
              have HI2 : Hid (Lib.IsBuilderF 47 5 B b (Lib.byteCells (X ++ [92])) w2) := by rw [← Js.cells_add]; exact .inr hI2
              clear hI2
              go_wp2_with (go_at_call 35; refine (writeByte_k B b _ 114 _ HI2.out (by rw [Lib.byteCells_length]; (try simp only [List.length_append, List.length_cons, List.length_nil]); omega) (by omega)).mono ?_)
              first | rintro e w3 rfl hI3 hb3 hk3 | rintro e w3 ⟨rfl, hI3, hb3, hk3⟩
              have hs3 := hb3.size
              have HI3 : Hid (Lib.IsBuilderF 47 5 B b (Lib.byteCells (X ++ [92] ++ [114])) w3) := by rw [← Js.cells_add]; exact .inr hI3
              clear hI3
              go_wp2
              go_roundg g'
              case measure => omega
              case rel => exact ⟨i + r, f', X ++ [92] ++ [114], by omega, by omega, he, HV2.out, HT3.out, (hk3.iter (hk2.iter HI1.out (by omega)) (by omega)), HI3.out, HB1.out.trans (hb2.trans hb3), HK1.out.trans (hk2.trans hk3)⟩
          · have hc : c < 32 := by omega
            have b1 : ((c : Int) == 34) = false := Js.beq_f (by omega)
            have b2 : ((c : Int) == 92) = false := Js.beq_f (by omega)
            have b3 : decide ((32 : Int) ≤ c) = false := decide_eq_false (by omega)
            have HQ := Lib.hid (Js.qp_ctl c hc h8)
            obtain ⟨m, hm⟩ : ∃ m, c % 16 = m := ⟨_, rfl⟩
            have hand := Js.and15 c hc
            rw [hm] at hand
            have hm1 : (m : Int) < 16 := by omega
            have hm0 : (0 : Int) ≤ m := by omega
            have HM := Lib.hid hm
            clear hm
            have HT3 : Hid (X ++ [92, 117, 48, 48] ++ [UInt8.ofNat (48 + c / 16)] ++ [UInt8.ofNat (if m < 10 then 48 + m else 87 + m)] ++ ((s.data.toList.drop (i + r)).flatMap Js.qc ++ [34]) = T) := by
              have h9 : _ = T := HT2.out
              have h7 : _ = m := HM.out
              rw [show _ = _ from HQ.out, h7] at h9
              show _ = T
              rw [← h9]
              simp only [List.append_assoc]
            clear HT2 HQ
            by_cases h9 : c < 8
            · have b5 : decide ((8 : Int) ≤ c) = false := decide_eq_false (by omega)
              go_wp2_with (go_at_call 31; refine (writeString_k B b _ ⟨#[92, 117, 48, 48]⟩ _ HU1.out (by rw [Lib.byteCells_length]; show X.length + 4 ≤ _; omega) (by omega)).mono ?_)
              first | rintro e w2 rfl hI2 hb2 hk2 | rintro e w2 ⟨rfl, hI2, hb2, hk2⟩
              have hs2 := hb2.size
              have HI2 : Hid (Lib.IsBuilderF 47 5 B b (Lib.byteCells (X ++ [92, 117, 48, 48])) w2) := by rw [← Js.cells_add]; exact .inr hI2
              clear hI2
              go_wp2_with (go_at_call 35; refine (writeByte_k B b _ _ _ HI2.out (by rw [Lib.byteCells_length]; (try simp only [List.length_append, List.length_cons, List.length_nil]); omega) (by omega)).mono ?_)
              first | rintro e w3 rfl hI3 hb3 hk3 | rintro e w3 ⟨rfl, hI3, hb3, hk3⟩
              have hs3 := hb3.size
              have HI3 : Hid (Lib.IsBuilderF 47 5 B b (Lib.byteCells (X ++ [92, 117, 48, 48] ++ [UInt8.ofNat (48 + c / 16)])) w3) := by rw [← Js.cells_add, Js.cell_one _ (by omega) (48 + (c : Int) / 16) (by omega)]; exact .inr hI3
              clear hI3
              go_wp2_with (go_at_call 35; refine (writeByte_k B b _ _ _ HI3.out (by rw [Lib.byteCells_length]; (try simp only [List.length_append, List.length_cons, List.length_nil]); omega) (by omega)).mono ?_)
              first | rintro e w4 rfl hI4 hb4 hk4 | rintro e w4 ⟨rfl, hI4, hb4, hk4⟩
              have hs4 := hb4.size
              have HI4 : Hid (Lib.IsBuilderF 47 5 B b (Lib.byteCells (X ++ [92, 117, 48, 48] ++ [UInt8.ofNat (48 + c / 16)] ++ [UInt8.ofNat (if m < 10 then 48 + m else 87 + m)])) w4) := by rw [← Js.cells_add, ← Js.digit16 m (by omega)]; exact .inr hI4
              clear hI4
              go_wp2
              go_roundg g'
              case measure => omega
              case rel => exact ⟨i + r, f', X ++ [92, 117, 48, 48] ++ [UInt8.ofNat (48 + c / 16)] ++ [UInt8.ofNat (if m < 10 then 48 + m else 87 + m)], by omega, by omega, he, HV2.out, HT3.out, (hk4.iter (hk3.iter (hk2.iter HI1.out (by omega)) (by omega)) (by omega)), HI4.out, HB1.out.trans ((hb2.trans hb3).trans hb4), HK1.out.trans ((hk2.trans hk3).trans hk4)⟩
            · by_cases h10 : c = 11
              · subst h10
                obtain rfl : 11 = m := HM.out
                go_wp2_with (go_at_call 31; refine (writeString_k B b _ ⟨#[92, 117, 48, 48]⟩ _ HU1.out (by rw [Lib.byteCells_length]; show X.length + 4 ≤ _; omega) (by omega)).mono ?_)
                first | rintro e w2 rfl hI2 hb2 hk2 | rintro e w2 ⟨rfl, hI2, hb2, hk2⟩
                have hs2 := hb2.size
                have HI2 : Hid (Lib.IsBuilderF 47 5 B b (Lib.byteCells (X ++ [92, 117, 48, 48])) w2) := by rw [← Js.cells_add]; exact .inr hI2
                clear hI2
                go_wp2_with (go_at_call 35; refine (writeByte_k B b _ _ _ HI2.out (by rw [Lib.byteCells_length]; (try simp only [List.length_append, List.length_cons, List.length_nil]); omega) (by omega)).mono ?_)
                first | rintro e w3 rfl hI3 hb3 hk3 | rintro e w3 ⟨rfl, hI3, hb3, hk3⟩
                have hs3 := hb3.size
                have HI3 : Hid (Lib.IsBuilderF 47 5 B b (Lib.byteCells (X ++ [92, 117, 48, 48] ++ [UInt8.ofNat (48 + 11 / 16)])) w3) := by rw [← Js.cells_add, Js.cell_one _ (by omega) (48 + ((11 : Nat) : Int) / 16) (by omega)]; exact .inr hI3
                clear hI3
                go_wp2_with (go_at_call 35; refine (writeByte_k B b _ _ _ HI3.out (by rw [Lib.byteCells_length]; (try simp only [List.length_append, List.length_cons, List.length_nil]); omega) (by omega)).mono ?_)
                first | rintro e w4 rfl hI4 hb4 hk4 | rintro e w4 ⟨rfl, hI4, hb4, hk4⟩
                have hs4 := hb4.size
                have HI4 : Hid (Lib.IsBuilderF 47 5 B b (Lib.byteCells (X ++ [92, 117, 48, 48] ++ [UInt8.ofNat (48 + 11 / 16)] ++ [UInt8.ofNat (if 11 < 10 then 48 + 11 else 87 + 11)])) w4) := by rw [← Js.cells_add, ← Js.digit16 11 (by omega)]; exact .inr hI4
                clear hI4
                go_wp2
                go_roundg g'
                case measure => omega
                case rel => exact ⟨i + r, f', X ++ [92, 117, 48, 48] ++ [UInt8.ofNat (48 + 11 / 16)] ++ [UInt8.ofNat (if 11 < 10 then 48 + 11 else 87 + 11)], by omega, by omega, he, HV2.out, HT3.out, (hk4.iter (hk3.iter (hk2.iter HI1.out (by omega)) (by omega)) (by omega)), HI4.out, HB1.out.trans ((hb2.trans hb3).trans hb4), HK1.out.trans ((hk2.trans hk3).trans hk4)⟩
              · have b5 : decide ((8 : Int) ≤ c) = true := decide_eq_true (by omega)
                have b6 : decide ((c : Int) ≤ 13) = false := decide_eq_false (by omega)
                go_wp2_with (go_at_call 31; refine (writeString_k B b _ ⟨#[92, 117, 48, 48]⟩ _ HU1.out (by rw [Lib.byteCells_length]; show X.length + 4 ≤ _; omega) (by omega)).mono ?_)
                first | rintro e w2 rfl hI2 hb2 hk2 | rintro e w2 ⟨rfl, hI2, hb2, hk2⟩
                have hs2 := hb2.size
                have HI2 : Hid (Lib.IsBuilderF 47 5 B b (Lib.byteCells (X ++ [92, 117, 48, 48])) w2) := by rw [← Js.cells_add]; exact .inr hI2
                clear hI2
                go_wp2_with (go_at_call 35; refine (writeByte_k B b _ _ _ HI2.out (by rw [Lib.byteCells_length]; (try simp only [List.length_append, List.length_cons, List.length_nil]); omega) (by omega)).mono ?_)
                first | rintro e w3 rfl hI3 hb3 hk3 | rintro e w3 ⟨rfl, hI3, hb3, hk3⟩
                have hs3 := hb3.size
                have HI3 : Hid (Lib.IsBuilderF 47 5 B b (Lib.byteCells (X ++ [92, 117, 48, 48] ++ [UInt8.ofNat (48 + c / 16)])) w3) := by rw [← Js.cells_add, Js.cell_one _ (by omega) (48 + (c : Int) / 16) (by omega)]; exact .inr hI3
                clear hI3
                go_wp2_with (go_at_call 35; refine (writeByte_k B b _ _ _ HI3.out (by rw [Lib.byteCells_length]; (try simp only [List.length_append, List.length_cons, List.length_nil]); omega) (by omega)).mono ?_)
                first | rintro e w4 rfl hI4 hb4 hk4 | rintro e w4 ⟨rfl, hI4, hb4, hk4⟩
                have hs4 := hb4.size
                have HI4 : Hid (Lib.IsBuilderF 47 5 B b (Lib.byteCells (X ++ [92, 117, 48, 48] ++ [UInt8.ofNat (48 + c / 16)] ++ [UInt8.ofNat (if m < 10 then 48 + m else 87 + m)])) w4) := by rw [← Js.cells_add, ← Js.digit16 m (by omega)]; exact .inr hI4
                clear hI4
                go_wp2
                go_roundg g'
                case measure => omega
                case rel => exact ⟨i + r, f', X ++ [92, 117, 48, 48] ++ [UInt8.ofNat (48 + c / 16)] ++ [UInt8.ofNat (if m < 10 then 48 + m else 87 + m)], by omega, by omega, he, HV2.out, HT3.out, (hk4.iter (hk3.iter (hk2.iter HI1.out (by omega)) (by omega)) (by omega)), HI4.out, HB1.out.trans ((hb2.trans hb3).trans hb4), HK1.out.trans ((hk2.trans hk3).trans hk4)⟩
    · have hnx : ∀ ty, (Instr.next (.pointer (some ⟨w1.heap.size, 0, none⟩)) true ty).run Tryd.prog wr = _ := fun ty => Lib.run_next_end_at wr w1.heap.size s i ty HI.out h
      have HE : Hid (X ++ [34] = T) := by
        have h9 : _ = T := HT.out
        rw [List.drop_eq_nil_of_le (by simp; omega)] at h9
        exact h9
      go_wp2_with (go_at_call 35; refine (writeByte_k B b _ 34 _ HU.out (by rw [Lib.byteCells_length]; omega) (by omega)).mono ?_)
      first | rintro e w3 rfl hI3 hb3 hk3 | rintro e w3 ⟨rfl, hI3, hb3, hk3⟩
      go_wp2
      go_end0
      obtain rfl : _ = T := HE.out
      refine ⟨rfl, ?_, HB.out.trans hb3, HK.out.trans hk3⟩
      rw [← Js.cells_add]
      exact .inr hI3
end Go.Proofs.YtmmijebekipdeaaDoor
