/- Contracts for the examples: of, Key, keys (where all is right). -/
import Derived.Test.YthnaninhbofeoaaGreatDoorCanC
import Derived.Test.YthnaninhbofeoaaGreatDoorCanR
namespace Go.Proofs.YthnaninhbofeoaaGreatDoor
open Go.RowKit

theorem lit_texts (xs : List ByteArray) (C : Array Value) (hC : C = (xs.map Value.string).toArray) (W : World) (k : Nat) (hk : xs.length = k) (h2 : k ≤ 1000) :
    OwnTexts W.heap.size (.slice (some ⟨W.heap.size, 0, none⟩) k k) xs (W.alloc (.cells C 9)) := by
  subst hk
  subst hC
  refine ⟨by simp, .inr ⟨W.heap.size, xs.length, _, rfl, Nat.le_refl _, alloc_new _ _, Nat.le_refl _, by unfold maxLen; omega, by simp, ?_⟩⟩
  simp only [Nat.mul_one]
  rw [List.take_of_length_le (by simp)]

set_option maxHeartbeats 3200000 in
set_option maxRecDepth 100000 in
theorem of_is (B : Nat) (v : Value) (xs : List ByteArray) (M : Nat) (ls : List Lab.L) (w : World) (hv : OwnTexts B v xs w) (hM : xs.length = M) (he : M % 2 = 0) (h0 : 0 < M) (h1 : M ≤ 1000) (hls : Can.pairs (xs.map (·.data.toList)) = ls) :
    Calls Tryz.prog 15 #[v] w fun e w' => (∃ u, e = .returned u ∧ OwnLabels w.heap.size u ls w') ∧ Below w.heap.size w w' := by
  rcases hv.open with ⟨rfl, h⟩ | ⟨g, c, rfl, hg1, hlc, hc, hcells⟩
  · rw [h] at hM; simp at hM; omega
  have hc0 : ∀ (j : Nat) (hj : j < xs.length), w.cell? ⟨g, j, none⟩ = some (.string xs[j]) := fun j hj => hcells j _ (List.getElem?_eq_getElem hj)
  have HC := Lib.hid hc0
  have HP := Lib.hid (fun k h => Can.pairs_take xs k h)
  have HQ := Lib.hid ((Can.pairs_all xs (M / 2) (by omega) (by omega)).trans hls)
  have HXL := Lib.hid hM
  rw [hM] at hlc ⊢
  clear hv hcells hc0 hM hls
  go_enter Tryz.func15, Tryz.ntmps15
  go_wp2_with fail
  go_loopw [3, 4] (fun v i wr => ∃ k : Nat, k * 2 ≤ M ∧ i = .int .i64 ((k * 2 : Nat) : Int) ∧ OwnLabels w.heap.size v (Can.pairs ((xs.map (·.data.toList)).take (k * 2))) wr ∧ Below w.heap.size w wr) (fun _ i _ => M - (intOf i).toNat)
  case atStart => exact ⟨0, Nat.zero_le _, rfl, OwnLabels.nil _ _, Below.refl _ _⟩
  case round =>
    obtain ⟨k, hk, rfl, hown, hb⟩ := hrel
    have hsz := hb.size
    by_cases hlt : k * 2 < M
    · have j1 : k * 2 < xs.length := by have := HXL.out; omega
      have j2 : k * 2 + 1 < xs.length := by have := HXL.out; omega
      have HT := Lib.hid (HP.out k j2)
      have d0 := (hb.cell (p := ⟨g, k * 2, none⟩) hg1).trans (HC.out _ j1)
      have d1 := (hb.cell (p := ⟨g, k * 2 + 1, none⟩) hg1).trans (HC.out _ j2)
      obtain ⟨a, ha⟩ : ∃ a, xs[k * 2] = a := ⟨_, rfl⟩
      obtain ⟨b, hb'⟩ : ∃ b, xs[k * 2 + 1] = b := ⟨_, rfl⟩
      rw [ha] at d0 HT
      rw [hb'] at d1 HT
      have hlk : (Can.pairs ((xs.map (·.data.toList)).take (k * 2))).length ≤ 1000 := by rw [Can.pairs_length, List.length_take]; omega
      obtain ⟨l0, hl0⟩ : ∃ l0, Can.pairs ((xs.map (·.data.toList)).take (k * 2)) = l0 := ⟨_, rfl⟩
      rw [hl0] at hlk HT hown
      have n1 : (0 : Int) ≤ ((k * 2 : Nat) : Int) := by omega
      have n2 : ((k * 2 : Nat) : Int) < (M : Int) := by omega
      have n3 : ((k * 2 : Nat) : Int) + 1 < (M : Int) := by omega
      obtain ⟨K, hK⟩ : ∃ K, k * 2 = K := ⟨_, rfl⟩
      have n4 : IntKind.i64.wrap ((K : Int) + 1) = (K : Int) + 1 := by rw [IntKind.wrap_i64]; omega
      have n5 : ((K : Int) + 1).toNat = K + 1 := by omega
      have n6 : (0 : Int) ≤ (K : Int) + 1 := by omega
      have hlg := World.block_lt_of_cell? _ _ d0
      rw [hK] at d0 d1 n1 n2 n3 hlt ⊢
      clear hl0 ha hb'
      go_wp2_with fail
      go_region_held3 (fun w' => w'.cell? ⟨g, K, none⟩ = some (.string a) ∧ w'.cell? ⟨g, K + 1, none⟩ = some (.string b))
        (first
          | go_keep
          | (go_split_ands
             refine ⟨?_, ?_⟩
             · (rw [hgrow.cell_far _ (by simp; omega) (fun e => by have : w.heap.size ≤ g := (World.ownsRow.lt hown _ e.symm).1; omega)]; assumption)
             · (rw [hgrow.cell_far _ (by simp; omega) (fun e => by have : w.heap.size ≤ g := (World.ownsRow.lt hown _ e.symm).1; omega)]; assumption)))
        ((refine step_pushL 35 Tryz.underlying35 (by rfl) _ _ (by rfl) w.heap.size _ l0 (by rfl) (hown.alloc _) ⟨a, b⟩ wr.heap.size 1 (by rfl) (heap_alloc_new wr _) (by omega) (by simp; omega) ?_; intro g2 cap2 w4 hown4 hgrow))
      have hb4 : Below w.heap.size w w4 := ((hb.alloc hsz _).drew).grown hgrow (by simp; omega) (fun j hj => (World.ownsRow.lt hown j hj).1)
      go_wp2_with fail
      go_roundw
      case rel => exact ⟨k + 1, by omega, by go_num, by rw [HT.out]; first | exact hown4 | (unfold OwnLabels; rw [List.length_append]; exact hown4), hb4⟩
      case measure => simp [intOf]; omega
    · have hkM : k = M / 2 := by omega
      rw [hkM, HQ.out] at hown
      obtain ⟨K, hK⟩ : ∃ K, k * 2 = K := ⟨_, rfl⟩
      rw [hK] at hlt hk ⊢
      have m1 : (M : Int) ≤ (K : Int) := by omega
      have m2 : (K : Int) ≤ (M : Int) := by omega
      clear hkM hK hlt hk
      go_wp2_with fail
      go_ret
      exact ⟨⟨_, rfl, hown⟩, hb⟩

set_option maxHeartbeats 1600000 in
set_option maxRecDepth 100000 in
theorem ckey_ok (job : ByteArray) (p : Option Addr) (ls : List Lab.L) (n c : Nat) (r k : List UInt8) (hj : Can.job job.data.toList = true) (hr : Can.bytes ls = (r, 0)) (hk : Lab.bs job ++ [254] ++ r = k) (w : World) (hn : ls.length = n) (hA : Lab.At p ls w) (hF : Lab.Fit 1100 ls) (hl : n ≤ 70) (hjs : job.size ≤ 1000000) :
    Calls Tryz.prog 21 #[.agg #[.string job, .slice p n c]] w fun e w' => e = .returned (.tuple #[.string ⟨k.toArray⟩, .int .i64 0]) ∧ Below w.heap.size w w' := by
  have HJ := Lib.hid (fun w => cjob_is job true hj w (by unfold maxLen; omega))
  have HB := Lib.hid (fun w hA => cbytes_is p ls n c r 0 hr w hn hA (fun x hx => by have := hF x hx; omega) (by unfold maxLen; omega))
  have hbl : (Lab.bs job ++ [254]).length ≤ 1000001 := by
    have : (Lab.bs job).length = job.size := by simp [Lab.bs]
    rw [List.length_append]; simp; omega
  have HP := Lib.hid (fun (W : World) => pieces_is ⟨#[254]⟩ W.heap.size (.slice (some ⟨W.heap.size, 0, none⟩) 1 1) [job] (W.alloc (.cells #[.string job] 9)) (lit_texts [job] _ rfl W 1 rfl (by omega)) (Lab.bs job ++ [254]) (by simp [Lab.bs]) (by omega) (by simp))
  obtain ⟨X, hX⟩ : ∃ X, ByteArray.mk (Lab.bs job ++ [254]).toArray = X := ⟨_, rfl⟩
  obtain ⟨Y, hY⟩ : ∃ Y, ByteArray.mk r.toArray = Y := ⟨_, rfl⟩
  have hXY : Hid (X ++ Y = ⟨k.toArray⟩) := by
    show X ++ Y = ⟨k.toArray⟩
    rw [← hX, ← hY, mk_append, ← hk]
    rfl
  have hrl : r.length ≤ 1000000 := by
    have := Can.raw_length ls 1100 hF
    have h2 : (Can.bytes ls).1.length ≤ 1000000 := by
      unfold Can.bytes
      split
      · exact Nat.le_trans this (Nat.le_trans (Nat.mul_le_mul_right _ (by omega : ls.length ≤ 70)) (by decide))
      · simp
    rw [hr] at h2; exact h2
  have hXs : (X.size : Int) + (Y.size : Int) ≤ 3000000 := by
    have e1 : X.size = (Lab.bs job ++ [254]).length := by rw [← hX]; simp [ByteArray.size]
    have e2 : Y.size = r.length := by rw [← hY]; simp [ByteArray.size]
    omega
  have hXs2 : X.size + Y.size ≤ 3000000 := by omega
  rw [hX] at HP
  rw [hY] at HB
  clear hX hY hk hr hj hbl hrl hF hn
  go_enter Tryz.func21, Tryz.ntmps21
  go_wp2_with (go_at_call 47; refine (HJ.out _).mono ?_)
  try rintro e w1 ⟨rfl, rfl⟩
  go_wp2_with (go_at_call 19; refine (HB.out _ (hA.alloc _)).mono ?_)
  first | rintro e w2 rfl hb2 | rintro e w2 ⟨rfl, hb2⟩
  have k2 := below_kept hb2 (alloc_new w _) (by simp)
  have hs2 := hb2.size
  simp only [World.size_alloc] at hs2
  have c0 : w2.cell? ⟨w.heap.size, 0, none⟩ = some (.string job) := by rw [Lib.cell_of_heap k2]; rfl
  have hB : Below w.heap.size w w2 := ((Below.refl _ _).alloc (Nat.le_refl _) _).trans (hb2.mono (by simp))
  go_wp2_with (go_at_call 53; refine (HP.out _).mono ?_)
  first | rintro e w3 rfl hb3 | rintro e w3 ⟨rfl, hb3⟩
  have hB3 : Below w.heap.size w w3 := (hB.alloc hB.size _).trans (hb3.mono (by simp; omega))
  go_wp2_with fail
  go_ret2
  exact ⟨by rw [← hXY.out]; rfl, hB3⟩
end Go.Proofs.YthnaninhbofeoaaGreatDoor
