/- gaugerlaw35.many returns true. -/
import Derived.Test.YtpnpgjjbincigaaSma
import Derived.Test.YtpnpgjjbincigaaMnL
namespace Go.Proofs.Ytpnpgjjbincigaa
open Go.RowKit
set_option linter.unusedVariables false

/-- the last digits of a number, as they are put together -/
def Mny.suf (i : Nat) : Nat → ByteArray
  | 0 => ⟨#[]⟩
  | j + 1 => ⟨#[UInt8.ofNat (48 + i / 10 ^ j % 10)]⟩ ++ Mny.suf i j
/-- Sync, where only its error counts -/
theorem Mny.sync_v (p q : Option Addr) (ss : List Sl) (ts : List Can.T) (n c m d : Nat) (ev ti r : Int) (S : List Po.V) (M : List (Int × Po.U)) (h : Po.sync (ss.map Sl.view) (ts.map Po.tv) ev ti = (r, S, M)) (w : World) (hn : ss.length = n) (hm : ts.length = m) (hA : Po.At p ss w) (hT : Po.TgAt q ts w)
    (hF : ∀ s ∈ ss, Can.TAny s.t) (hG : ∀ t ∈ ts, Can.TAny t) (hl : n ≤ 100000) (hml : m ≤ 100000) :
    Calls Try.prog 25 #[.slice p n c, .slice q m d, .int .i64 ev, .int .i64 ti] w fun e w' => (∃ v1 v2, e = .returned (.tuple #[v1, v2, .int .i64 r])) ∧ Below w.heap.size w w' :=
  (sync_is p q ss ts n c m d ev ti r S M h w hn hm hA hT hF hG hl hml).mono fun e w' h => by
    obtain ⟨⟨v1, v2, _, _, h1, _⟩, h2⟩ := h
    exact ⟨⟨v1, v2, h1⟩, h2⟩
theorem Mny.suf4 (i : Nat) : Mny.suf i 4 = Mny.dg i := by
  unfold Mny.suf Mny.suf Mny.suf Mny.suf Mny.suf Mny.dg
  rw [show (10 : Nat) ^ 0 = 1 from rfl, show (10 : Nat) ^ 1 = 10 from rfl, show (10 : Nat) ^ 2 = 100 from rfl, show (10 : Nat) ^ 3 = 1000 from rfl, Nat.div_one]
  rfl
theorem Mny.suf_size (i j : Nat) : (Mny.suf i j).size = j := by
  induction j with
  | zero => rfl
  | succ j ih =>
    unfold Mny.suf
    rw [ByteArray.size_append, ih]
    show 1 + j = j + 1
    omega
theorem Po.TgAt.partE {g a : Nat} {ts : List Can.T} {w : World} (h : Can.TAt g a ts w) (hg : g < w.heap.size) (k m : Nat) : Po.TgAt (some ⟨g, a + k * 2, none⟩) ((ts.drop k).take m) w := by
  refine .inr ⟨g, a + k * 2, rfl, hg, fun i hi => ?_⟩
  rw [List.length_take, List.length_drop] at hi
  have hk : k + i < ts.length := by omega
  obtain ⟨h1, h2, h3⟩ := h (k + i) hk
  rw [List.getElem_take, List.getElem_drop]
  rw [show a + k * 2 + i * 2 = a + (k + i) * 2 by omega]
  exact ⟨h1, h2, h3⟩
theorem Mny.tk (n : Nat) : Mny.U (n + 1) = Mny.U n ++ [Mny.u n] := by
  unfold Mny.U
  rw [List.range_succ, List.map_append]; rfl
theorem Mny.take (n k : Nat) (h : k ≤ n) : (Mny.U n).take k = Mny.U k := by
  unfold Mny.U
  rw [← List.map_take, List.take_range, Nat.min_eq_left h]

set_option maxHeartbeats 6400000 in
set_option maxRecDepth 100000 in
theorem many_is (w : World) : Calls Try.prog 16 #[] w fun e w' => e = .returned (.bool true) ∧ Below w.heap.size w w' := by
  go_enter Try.func16, Try.ntmps16
  go_wp2_with fail
  go_loopw [1, 18] (fun v i wr => ∃ (k : Nat) (ts : List Can.T), k ≤ 3001 ∧ i = .int .i64 (k : Int) ∧ Hid (Sma.G w.heap.size v ts wr) ∧ Hid (ts.map Po.tv = Mny.U k) ∧ Hid (Below w.heap.size w wr)) (fun _ i _ => 3001 - (intOf i).toNat)
  case atStart => exact ⟨0, [], Nat.zero_le _, rfl, Sma.G.nil _ _, rfl, Below.refl _ _⟩
  case round =>
    obtain ⟨wj, rfl⟩ : ∃ wo : World, wo = wr := ⟨_, rfl⟩
    obtain ⟨k, ts, hk, rfl, HO, HV, HB⟩ := hrel
    have hsz := HB.out.size
    by_cases hlt : k < 3001
    · have n2 : (k : Int) < 3001 := by omega
      go_wp2_with fail
      go_loopw [3, 4, 5] (fun s j n wr => ∃ (q : Nat), q ≤ 4 ∧ s = .string (Mny.suf k q) ∧ j = .int .i64 (q : Int) ∧ n = .int .i64 ((k / 10 ^ q : Nat) : Int) ∧ wr = wj) (fun _ j _ _ => 4 - (intOf j).toNat)
      case atStart => exact ⟨0, Nat.zero_le _, rfl, rfl, (by rw [show (10 : Nat) ^ 0 = 1 from rfl, Nat.div_one]), rfl⟩
      case round =>
        obtain ⟨q, hq, rfl, rfl, rfl, rfl⟩ := hrel
        obtain ⟨m, hm⟩ : ∃ m, k / 10 ^ q = m := ⟨_, rfl⟩
        have hmk : m ≤ k := by rw [← hm]; exact Nat.div_le_self _ _
        by_cases hq4 : q < 4
        · have m2 : (q : Int) < 4 := by omega
          have hsu : Mny.suf k (q + 1) = ⟨#[UInt8.ofNat (48 + m % 10)]⟩ ++ Mny.suf k q := by rw [← hm]; rfl
          have hdi : k / 10 ^ (q + 1) = m / 10 := by rw [Nat.pow_succ, ← Nat.div_div_eq_div_mul, hm]
          rw [hm]
          obtain ⟨sq, hsq⟩ : ∃ sq, Mny.suf k q = sq := ⟨_, rfl⟩
          have hqs : sq.size = q := by rw [← hsq]; exact Mny.suf_size k q
          rw [hsq] at hsu ⊢
          have HSU := Lib.hid hsu
          have HDI := Lib.hid hdi
          have r1 : Int.tmod (m : Int) 10 = ((m % 10 : Nat) : Int) := by rw [Int.tmod_eq_emod_of_nonneg (by omega)]; omega
          have r0 : Int.tdiv (m : Int) 10 = ((m / 10 : Nat) : Int) := by rw [Int.tdiv_eq_ediv_of_nonneg (by omega)]; omega
          obtain ⟨d, hd⟩ : ∃ d, m % 10 = d := ⟨_, rfl⟩
          have hd10 : d < 10 := by omega
          rw [hd] at r1 HSU
          obtain ⟨h, hh⟩ : ∃ h, m / 10 = h := ⟨_, rfl⟩
          rw [hh] at r0 HDI
          have hhm : h ≤ 3001 := by omega
          obtain ⟨z, hz⟩ : ∃ z : Int, z = (48 + d : Nat) := ⟨_, rfl⟩
          have r2 : IntKind.i64.wrap ((d : Nat) : Int) = (d : Int) := by rw [IntKind.wrap_i64]; omega
          have r3 : IntKind.i64.wrap (48 + (d : Int)) = z := by rw [IntKind.wrap_i64]; omega
          have r4 : IntKind.i32.wrap z = z := by
            unfold IntKind.wrap; simp [IntKind.bits, IntKind.signed]; omega
          obtain ⟨sv, hs⟩ : ∃ sv : ByteArray, sv = ⟨#[UInt8.ofNat (48 + d)]⟩ := ⟨_, rfl⟩
          have r5 : Utf8.encode z = sv := by rw [hz, hs]; exact enc_ascii (48 + d) (by omega)
          have r6 : sv.size = 1 := by rw [hs]; rfl
          have r7 : IntKind.i64.wrap ((h : Nat) : Int) = (h : Int) := by rw [IntKind.wrap_i64]; omega
          have r8 : IntKind.i64.wrap ((q : Int) + 1) = (q : Int) + 1 := by rw [IntKind.wrap_i64]; omega
          rw [← hs] at HSU
          clear hz hs hd hh hsu hdi hsq hm
          go_wp2_with fail
          go_roundw
          case rel => exact ⟨q + 1, by omega, by rw [HSU.out], by go_num, by rw [HDI.out], trivial⟩
          case measure => simp [intOf]; omega
        · obtain rfl : q = 4 := by omega
          rw [Mny.suf4]
          obtain ⟨U, hU⟩ : ∃ U, U = (wr.alloc (.cells #[.string ⟨#[97]⟩, .string (Mny.dg k)] 37)) := ⟨_, rfl⟩
          have hbU : Below wr.heap.size wr U := by rw [hU]; exact (Below.refl _ _).alloc (Nat.le_refl _) _
          have kU : U.heap[wr.heap.size]? = some (.cells #[.string ⟨#[97]⟩, .string (Mny.dg k)] 37) := by rw [hU]; exact alloc_new _ _
          have hzU : U.heap.size = wr.heap.size + 1 := by rw [hU]; simp
          obtain ⟨dg, hdg⟩ : ∃ dg, Mny.dg k = dg := ⟨_, rfl⟩
          have hOL : OwnLabels w.heap.size (.slice (some ⟨wr.heap.size, 0, none⟩) 1 1) [⟨⟨#[97]⟩, dg⟩] U := by
            rw [hdg] at kU
            exact ⟨by rfl, .inr ⟨_, 1, _, rfl, hsz, kU, Nat.le_refl _, by decide, rfl, rfl⟩⟩
          have hT : Sma.T w.heap.size ⟨⟨#[106]⟩, some ⟨wr.heap.size, 0, none⟩, 1, 1, [⟨⟨#[97]⟩, dg⟩]⟩ U := ⟨⟨rfl, hOL⟩, by rw [← hdg]; exact Mny.ok k⟩
          have HT := Lib.hid hT
          have HOU : Hid (Sma.G w.heap.size _ ts U) := HO.out.below hbU (Nat.le_refl _)
          have HBU : Hid (Below w.heap.size w U) := below_next HB.out hbU
          have HUU := Lib.hid hU
          have HVK : Hid (∀ x : Can.T, x.job = ⟨#[106]⟩ → x.ls = [⟨⟨#[97]⟩, dg⟩] → (ts ++ [x]).map Po.tv = Mny.U (k + 1)) := fun x h1 h2 => by
            rw [List.map_append, HV.out, Mny.tk]
            have : Po.tv x = Mny.u k := by
              unfold Po.tv Mny.u
              rw [h1, h2, hdg]
            rw [← this]; rfl
          have hlen : ts.length + 1 ≤ 1000000000 := by have h1 := congrArg List.length HV.out; rw [List.length_map] at h1; unfold Mny.U at h1; rw [List.length_map, List.length_range] at h1; omega
          rw [hdg] at HUU ⊢
          have hsU := HBU.out.size
          clear hU hbU kU hOL hT hdg
          go_wp2_with (at_builtin; refine wpList_pushRec tgOk 23 Try.underlying23 rfl _ _ rfl w.heap.size _ ts (wr.alloc (.cells #[.string ⟨#[97]⟩, .string (dg)] 37)) rfl (by rw [← HUU.out]; exact HOU.out.1) ⟨⟨#[106]⟩, some ⟨wr.heap.size, 0, none⟩, 1, 1, [⟨⟨#[97]⟩, dg⟩]⟩ _ _ rfl _ rfl (by first | rfl | simp) hlen (by rw [← HUU.out]; exact hsU) ?_)
          intro v8 w8 hro hg
          rw [← HUU.out] at hg
          have hU2 : Below U.heap.size U (U.alloc (.cells #[.string ⟨#[106]⟩, .slice (some ⟨wr.heap.size, 0, none⟩) 1 1] 29)) := (Below.refl _ _).alloc (Nat.le_refl _) _
          have hG8 := (HOU.out.below hU2 (Nat.le_refl _)).push _ (HT.out.below hU2 (Nat.le_refl _)) hro hg
          have hb8 : Below w.heap.size w w8 := ((HBU.out.trans (hU2.mono hsU))).grown hg (by simp; omega) (fun j hj => (World.ownsRow.lt HOU.out.1 j hj).1)
          have HG8 := Lib.hid hG8
          have HB8 := Lib.hid hb8
          clear hro hg hU2 hG8 hb8 HUU
          go_wp2_with fail
          go_roundw
          case rel => exact ⟨k + 1, _, by omega, by go_num, HG8.out, HVK.out _ rfl rfl, HB8.out⟩
          case measure => simp [intOf]; omega
    · obtain rfl : k = 3001 := by omega
      have n2 : ¬ ((3001 : Nat) : Int) < 3001 := by omega
      obtain ⟨M1, hsy1, hM1⟩ := Mny.sync1
      have hsy2 := Mny.sync2
      have hsy3 := Mny.sync3
      obtain ⟨S4, M4, hsy4, hS4, hM4⟩ := Mny.sync4
      have hl : ts.length = 3001 := by have h1 := congrArg List.length HV.out; rw [List.length_map] at h1; unfold Mny.U at h1; rw [List.length_map, List.length_range] at h1; exact h1
      obtain ⟨p, c, hv, hlc, hcm, hp⟩ := HO.out.1.shape
      subst hv
      rw [hl] at hlc HO ⊢
      rcases hp with hp | ⟨g, hp, hg0, hg1⟩
      · rw [hp] at hl; cases hl
      subst hp
      have hAt : Can.TAt g 0 ts wj := by
        rcases HO.out.at with h1 | ⟨b, o, h1, _, h2⟩
        · rw [h1] at hl; cases hl
        · simp only [Option.some.injEq, Addr.mk.injEq, and_true] at h1
          obtain ⟨rfl, rfl⟩ := h1
          exact h2
      unfold maxLen at hcm
      have HPT : Hid (∀ (W : World) (k m : Nat), Below wj.heap.size wj W → Po.TgAt (some ⟨g, 0 + k * 2, none⟩) ((ts.drop k).take m) W) := fun W k m hb => (Po.TgAt.partE hAt hg1 k m).pos.below hb (Nat.le_refl _)
      have HVP : Hid (∀ k m, ((ts.drop k).take m).map Po.tv = ((Mny.U 3001).drop k).take m) := fun k m => by rw [List.map_take, List.map_drop, HV.out]
      have HTA : Hid (∀ k m, ∀ t ∈ (ts.drop k).take m, Can.TAny t) := fun k m t ht => (HO.out.2 t (List.mem_of_mem_drop (List.mem_of_mem_take ht))).any
      have HLP : Hid (∀ k m, k + m ≤ 3001 → ((ts.drop k).take m).length = m) := fun k m h => by rw [List.length_take, List.length_drop, hl]; omega
      have c1 : (3000 : Int) ≤ (c : Int) := by omega
      have c2 : (10 : Int) ≤ (c : Int) := by omega
      have c3 : (3001 : Int) ≤ (c : Int) := by omega
      have HY1 := Lib.hid hsy1
      have HY2 := Lib.hid hsy2
      have HY3 := Lib.hid hsy3
      have HY4 := Lib.hid hsy4
      have HS1 := Lib.hid (sync_is none (some ⟨g, 0, none⟩) [] ((ts.drop 0).take 3000) 0 0 3000 c 9 9 0 (Mny.S 3000) M1 (by rw [HVP.out, List.drop_zero, Mny.take 3001 3000 (by omega)]; exact HY1.out) wj rfl (HLP.out 0 3000 (by omega)) ⟨.inl rfl, fun s hs => nomatch hs⟩ (HPT.out wj 0 3000 (Below.refl _ _)) (fun s hs => nomatch hs) (HTA.out 0 3000) (by omega) (by omega))
      have HL := Lib.hid hl
      clear hsy1 hsy2 hsy3 hsy4 hl hAt HV
      go_wp2_with (go_at_call 25; refine HS1.out.mono ?_)
      first | rintro e w5 v1 v2 rfl s2 m2 hR hs hm hb5 | rintro e w5 v1 v2 s2 m2 rfl hR hs hm hb5 | rintro e w5 ⟨⟨v1, v2, s2, m2, rfl, hR, hs, hm⟩, hb5⟩
      have hls : s2.length = 3000 := by have h1 := congrArg List.length hs; rw [List.length_map] at h1; unfold Mny.S at h1; rw [List.length_map, List.length_range] at h1; exact h1
      have hlm : m2.length = 3000 := by have h1 := congrArg List.length hm; rw [List.length_map] at h1; omega
      obtain ⟨⟨p3, c3, rfl, _⟩, p4, c4, rfl, _⟩ := hR.form
      rw [hls, hlm] at hR
      rw [hls, hlm]
      have HR := Lib.hid hR
      have HVS := Lib.hid hs
      have HLS := Lib.hid hls
      have HB5 : Hid (Below wj.heap.size wj w5) := hb5
      have HX5 : Hid (Below w5.heap.size w5 w5) := Below.refl _ _
      have HFS : Hid (∀ s ∈ s2, Can.TAny s.t) := fun s hs2 => Po.okU.any (hR.ts s hs2) (by
        have h1 : Sl.view s ∈ Mny.S 3000 := by rw [← hs]; exact List.mem_map_of_mem hs2
        unfold Mny.S at h1
        obtain ⟨i, _, h2⟩ := List.mem_map.1 h1
        have h3 : Po.tv s.t = Mny.u i := by show Po.vu (Sl.view s) = _; rw [← h2]; rfl
        rw [h3]
        exact Mny.ok i)
      have HS2 := Lib.hid (Mny.sync_v none (some ⟨g, 0, none⟩) [] ((ts.drop 0).take 3001) 0 0 3001 c 9 9 5 [] [] (by rw [HVP.out, List.drop_zero, Mny.take 3001 3001 (by omega)]; exact HY2.out) w5 rfl (HLP.out 0 3001 (by omega)) ⟨.inl rfl, fun s hs => nomatch hs⟩ (HPT.out w5 0 3001 HB5.out) (fun s hs => nomatch hs) (HTA.out 0 3001) (by omega) (by omega))
      clear hR hs hm hls hlm hb5 HS1
      go_wp2_with (go_at_call 25; refine HS2.out.mono ?_)
      first | rintro e w6 v5 v6 rfl hb6 | rintro e w6 ⟨⟨v5, v6, rfl⟩, hb6⟩
      have HB6 : Hid (Below wj.heap.size wj w6) := below_next HB5.out hb6
      have HX6 : Hid (Below w5.heap.size w5 w6) := below_next HX5.out hb6
      have HS3 := Lib.hid (Mny.sync_v p3 (some ⟨g, 0 + 3000 * 2, none⟩) s2 ((ts.drop 3000).take 1) 3000 c3 1 (c - 3000) 9 9 5 [] [] (by rw [HVS.out, HVP.out]; refine Eq.trans ?_ HY3.out; rw [Mny.tk 3000, List.drop_left' (by unfold Mny.U; rw [List.length_map, List.length_range])]; rfl) w6 HLS.out (HLP.out 3000 1 (by omega)) (HR.out.at.1.below HX6.out (Nat.le_refl _)) (HPT.out w6 3000 1 HB6.out) HFS.out (HTA.out 3000 1) (by omega) (by omega))
      clear hb6 HS2
      go_wp2_with (go_at_call 25; refine HS3.out.mono ?_)
      first | rintro e w7 v7 v8 rfl hb7 | rintro e w7 ⟨⟨v7, v8, rfl⟩, hb7⟩
      have HB7 : Hid (Below wj.heap.size wj w7) := below_next HB6.out hb7
      have HX7 : Hid (Below w5.heap.size w5 w7) := below_next HX6.out hb7
      have HS4 := Lib.hid (sync_is p3 (some ⟨g, 0, none⟩) s2 ((ts.drop 0).take 10) 3000 c3 10 c 9 9 0 S4 M4 (by rw [HVS.out, HVP.out, List.drop_zero, Mny.take 3001 10 (by omega)]; exact HY4.out) w7 HLS.out (HLP.out 0 10 (by omega)) (HR.out.at.1.below HX7.out (Nat.le_refl _)) (HPT.out w7 0 10 HB7.out) HFS.out (HTA.out 0 10) (by omega) (by omega))
      clear hb7 HS3
      go_wp2_with (go_at_call 25; refine HS4.out.mono ?_)
      first | rintro e w8 v9 va rfl s6 m6 hR hs hm hb8 | rintro e w8 v9 va s6 m6 rfl hR hs hm hb8 | rintro e w8 ⟨⟨v9, va, s6, m6, rfl, hR, hs, hm⟩, hb8⟩
      have hls : s6.length = 3000 := by have h1 := congrArg List.length hs; rw [List.length_map] at h1; omega
      have hlm : m6.length = 2990 := by have h1 := congrArg List.length hm; rw [List.length_map] at h1; omega
      obtain ⟨⟨p5, c5, rfl, _⟩, p6, c6, rfl, _⟩ := hR.form
      rw [hls, hlm]
      have HB8 : Hid (Below w.heap.size w w8) := HB.out.trans ((below_next HB7.out hb8).mono hsz)
      clear hR hs hm hls hlm hb8 HS4
      go_wp2_with fail
      go_ret
      exact ⟨rfl, HB8.out⟩
end Go.Proofs.Ytpnpgjjbincigaa
