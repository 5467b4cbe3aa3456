/- Contracts of canon: Key, KeyPrint, ReadKey. Contracts of canon: keys. (Printed by gen_keys.py.) -/
import Derived.Test.YthnaninhbofeoaaGreatDoorAwkB
import Derived.Test.YthnaninhbofeoaaGreatDoorCanS
import Derived.Lib.CutLaws
namespace Go.Proofs.YthnaninhbofeoaaGreatDoor
open Go.RowKit

/-- what Key gives -/
def Can.key (job : List UInt8) (ls : List Lab.L) : List UInt8 × Int :=
  if Can.job job = true then (if (Can.bytes ls).2 = 0 then (job ++ [254] ++ (Can.bytes ls).1, 0) else ([], (Can.bytes ls).2)) else ([], 51)

set_option maxHeartbeats 1600000 in
set_option maxRecDepth 100000 in
theorem ckey_is (job : ByteArray) (p : Option Addr) (ls : List Lab.L) (n c : Nat) (k : List UInt8) (er : Int) (h : Can.key (Lab.bs job) ls = (k, er)) (w : World) (hn : ls.length = n) (hA : Lab.At p ls w) (hF : Lab.Fit 1100 ls) (hl : n ≤ 70) (hjs : job.size ≤ 1000000) :
    Calls Tryz.prog 21 #[.agg #[.string job, .slice p n c]] w fun e w' => e = .returned (.tuple #[.string ⟨k.toArray⟩, .int .i64 er]) ∧ Below w.heap.size w w' := by
  unfold Can.key at h
  obtain ⟨⟨r, e0⟩, hr⟩ : ∃ q, Can.bytes ls = q := ⟨_, rfl⟩
  rw [hr] at h
  dsimp only at h
  obtain ⟨j0, hj⟩ : ∃ j0, Can.job (Lab.bs job) = j0 := ⟨_, rfl⟩
  rw [hj] at h
  have hj2 : Can.job job.data.toList = j0 := hj
  cases j0
  · rw [if_neg (by simp)] at h
    simp only [Prod.mk.injEq] at h
    obtain ⟨rfl, rfl⟩ := h
    have HJ := Lib.hid (fun w => cjob_is job false hj2 w (by unfold maxLen; omega))
    clear hj hj2 hr hn hA hF hl hjs
    go_enter Tryz.func21, Tryz.ntmps21
    go_wp2_with (go_at_call 47; refine (HJ.out _).mono ?_)
    try rintro e w1 ⟨rfl, rfl⟩
    go_wp2_with fail
    go_ret2
    exact ⟨rfl, (Below.refl _ _).alloc (Nat.le_refl _) _⟩
  · rw [if_pos rfl] at h
    by_cases h0 : e0 = 0
    · subst h0
      rw [if_pos rfl] at h
      simp only [Prod.mk.injEq] at h
      obtain ⟨hk, rfl⟩ := h
      exact ckey_ok job p ls n c r k hj2 hr hk w hn hA hF hl hjs
    · rw [if_neg h0] at h
      simp only [Prod.mk.injEq] at h
      obtain ⟨rfl, rfl⟩ := h
      have q1 : (e0 != 0) = true := by simpa using h0
      have HJ := Lib.hid (fun w => cjob_is job true hj2 w (by unfold maxLen; omega))
      have HB := Lib.hid (fun w hA => cbytes_is p ls n c r e0 hr w hn hA (fun x hx => by have := hF x hx; omega) (by unfold maxLen; omega))
      clear hj hj2 hr hn hF hl hjs h0
      go_enter Tryz.func21, Tryz.ntmps21
      go_wp2_with (go_at_call 47; refine (HJ.out _).mono ?_)
      try rintro e w1 ⟨rfl, rfl⟩
      go_wp2_with (go_at_call 19; refine (HB.out _ (hA.alloc _)).mono ?_)
      first | rintro e w2 rfl hb2 | rintro e w2 ⟨rfl, hb2⟩
      go_wp2_with fail
      go_ret2
      exact ⟨rfl, ((Below.refl _ _).alloc (Nat.le_refl _) _).trans (hb2.mono (by simp))⟩

set_option maxHeartbeats 1600000 in
set_option maxRecDepth 100000 in
theorem ckeyprint_is (job : ByteArray) (p : Option Addr) (ls : List Lab.L) (n c : Nat) (k : List UInt8) (er : Int) (h : Can.key (Lab.bs job) ls = (k, er)) (t : Nat) (ht : (if er = 0 then Can.sum 14695981039346656037 k else 0) = t) (w : World) (hn : ls.length = n) (hA : Lab.At p ls w) (hF : Lab.Fit 1100 ls) (hl : n ≤ 70) (hjs : job.size ≤ 1000000) (hkl : k.length ≤ 1000000000) :
    Calls Tryz.prog 22 #[.agg #[.string job, .slice p n c]] w fun e w' => e = .returned (.tuple #[.int .u64 (t : Int), .int .i64 er]) ∧ Below w.heap.size w w' := by
  have HC := Lib.hid (fun w hA => ckey_is job p ls n c k er h w hn hA hF hl hjs)
  obtain ⟨b, hb⟩ : ∃ b, ByteArray.mk k.toArray = b := ⟨_, rfl⟩
  have hd : b.data.toList = k := by rw [← hb]
  have hz : b.size ≤ 1000000000 := by rw [← hb]; simpa [ByteArray.size] using hkl
  rw [hb] at HC
  clear h hn hF hl hb hjs
  by_cases h0 : er = 0
  · subst h0
    rw [if_pos rfl] at ht
    have HS := Lib.hid (fun w => sum_is b (by unfold maxLen; omega) t (by rw [hd]; exact ht) w)
    clear ht hd hkl
    go_enter Tryz.func22, Tryz.ntmps22
    go_wp2_with (go_at_call 21; refine (HC.out _ (hA.alloc _)).mono ?_)
    first | rintro e w1 rfl hb1 | rintro e w1 ⟨rfl, hb1⟩
    go_wp2_with (go_at_call 60; refine (HS.out _).mono ?_)
    first | rintro e w2 rfl hb2 | rintro e w2 ⟨rfl, hb2⟩
    go_wp2_with fail
    go_ret2
    exact ⟨rfl, below_next (((Below.refl _ _).alloc (Nat.le_refl _) _).trans (hb1.mono (by simp))) hb2⟩
  · rw [if_neg h0] at ht
    subst ht
    have q1 : (er != 0) = true := by simpa using h0
    clear hd hkl h0
    go_enter Tryz.func22, Tryz.ntmps22
    go_wp2_with (go_at_call 21; refine (HC.out _ (hA.alloc _)).mono ?_)
    first | rintro e w1 rfl hb1 | rintro e w1 ⟨rfl, hb1⟩
    go_wp2_with fail
    go_ret2
    exact ⟨rfl, ((Below.refl _ _).alloc (Nat.le_refl _) _).trans (hb1.mono (by simp))⟩

def Can.badKey : ByteArray × List Lab.L × Int := (⟨#[]⟩, [], 50)
/-- a key parted at place k -/
def Can.keyAt (s : ByteArray) (k : Nat) : ByteArray × List Lab.L × Int :=
  if Can.job (s.data.toList.take k) = true ∧ (Can.read (s.data.toList.drop (k + 1))).2 = 0 then (⟨(s.data.toList.take k).toArray⟩, (Can.read (s.data.toList.drop (k + 1))).1, 0) else Can.badKey
def Can.readKeyL (s : ByteArray) : Nat → List UInt8 → ByteArray × List Lab.L × Int
  | _, [] => Can.badKey
  | k, c :: r => if c = 254 then Can.keyAt s k else Can.readKeyL s (k + 1) r
def Can.readKey (s : ByteArray) : ByteArray × List Lab.L × Int := Can.readKeyL s 0 s.data.toList
theorem Can.readKeyL_miss (s : ByteArray) (k : Nat) (l : List UInt8) (h : Lib.indexByte l 254 = -1) : Can.readKeyL s k l = Can.badKey := by
  induction l generalizing k with
  | nil => rfl
  | cons c r ih =>
    unfold Lib.indexByte at h
    by_cases hc : (c == 254) = true
    · rw [if_pos hc] at h; omega
    · rw [if_neg hc] at h
      have hg := Lib.indexByte_ge r 254
      by_cases hr : (Lib.indexByte r 254 == -1) = true
      · have hc2 : ¬ c = 254 := by simpa using hc
        show (if c = 254 then Can.keyAt s k else Can.readKeyL s (k + 1) r) = _
        rw [if_neg hc2, ih _ (beq_iff_eq.1 hr)]
      · rw [if_neg hr] at h
        have hr2 : Lib.indexByte r 254 ≠ -1 := fun e => hr (beq_iff_eq.2 e)
        omega
theorem Can.readKeyL_hit (s : ByteArray) (k : Nat) (l : List UInt8) (i : Nat) (h : Lib.indexByte l 254 = i) : Can.readKeyL s k l = Can.keyAt s (k + i) := by
  induction l generalizing k i with
  | nil => unfold Lib.indexByte at h; omega
  | cons c r ih =>
    unfold Lib.indexByte at h
    by_cases hc : (c == 254) = true
    · rw [if_pos hc] at h
      obtain rfl : i = 0 := by omega
      have hc2 : c = 254 := by simpa using hc
      show (if c = 254 then Can.keyAt s k else Can.readKeyL s (k + 1) r) = _
      rw [if_pos hc2]; rfl
    · rw [if_neg hc] at h
      have hg := Lib.indexByte_ge r 254
      by_cases hr : (Lib.indexByte r 254 == -1) = true
      · rw [if_pos hr] at h; omega
      · rw [if_neg hr] at h
        have hc2 : ¬ c = 254 := by simpa using hc
        have hr2 : Lib.indexByte r 254 ≠ -1 := fun e => hr (beq_iff_eq.2 e)
        obtain ⟨j, rfl⟩ : ∃ j, i = j + 1 := ⟨i - 1, by omega⟩
        show (if c = 254 then Can.keyAt s k else Can.readKeyL s (k + 1) r) = _
        rw [if_neg hc2, ih _ j (by omega)]
        congr 1; omega
theorem Can.read_err (l : List UInt8) : ((Can.read l).2 = 0 ∨ (Can.read l).2 = 50) := by
  unfold Can.read
  simp only []
  split
  · exact .inr rfl
  · split
    · exact .inl rfl
    · exact .inr rfl

/-- what was made stays while another block is written -/
theorem row_aside {B e k n : Nat} {v : Value} {xs : List Value} {w : World} (h : w.ownsRow B e k v n xs) {a : Addr} (ha : a.block < B) (u : Value) : (w.setCell a u).ownsRow B e k v n xs := by
  obtain ⟨h1, h2⟩ := h
  refine ⟨h1, ?_⟩
  rcases h2 with h2 | ⟨g, cap, cur, hv, hg, hh, r⟩
  · exact .inl h2
  · exact .inr ⟨g, cap, cur, hv, hg, (Below.heap_setCell w a u g (by omega)).trans hh, r⟩
end Go.Proofs.YthnaninhbofeoaaGreatDoor
namespace Go.Proofs.YthnaninhbofeoaaGreatDoor
open Go.RowKit

def Can.keyB (t : Can.T) : ByteArray := ⟨(Can.key (Lab.bs t.job) t.ls).1.toArray⟩
def Can.keyE (t : Can.T) : Int := (Can.key (Lab.bs t.job) t.ls).2
def Can.TFit (t : Can.T) : Prop := t.ls.length = t.n ∧ t.n ≤ 70 ∧ Lab.Fit 1100 t.ls ∧ t.job.size ≤ 1000000
/-- the first error of keys -/
def Can.err : List Can.T → Int
  | [] => 0
  | t :: r => if Can.keyE t = 0 then Can.err r else Can.keyE t
def Can.keysOf (ts : List Can.T) : List ByteArray := if Can.err ts = 0 then ts.map Can.keyB else []

set_option maxHeartbeats 1600000 in
set_option maxRecDepth 100000 in
theorem ckeys_is (b o c : Nat) (ts : List Can.T) (ks : List ByteArray) (er : Int) (n : Nat) (w : World) (hb0 : b < w.heap.size) (hn : ts.length = n) (hT : Can.TAt b o ts w) (hF : ∀ t ∈ ts, Can.TFit t) (he : Can.err ts = er) (hk : Can.keysOf ts = ks) (hl : n ≤ 1000) :
    Calls Tryz.prog 33 #[.slice (some ⟨b, o, none⟩) n c] w fun e w' => (∃ v, e = .returned (.tuple #[v, .int .i64 er]) ∧ OwnTexts w.heap.size v ks w') ∧ Below w.heap.size w w' := by
  have HN := Lib.hid hn
  have HK := Lib.hid hk
  have HO := Lib.hid hF
  have HT := Lib.hid hT
  have HE := Lib.hid he
  have H0 : Hid (Can.err (ts.drop 0) = er) := he
  clear hn hk hF hT he
  go_enter Tryz.func33, Tryz.ntmps33
  go_wp2_with fail
  go_loopw [4, 11] (fun v i wr => ∃ k : Nat, k ≤ n ∧ i = .int .i64 k ∧ OwnTexts w.heap.size v ((ts.take k).map Can.keyB) wr ∧ Hid (Can.err (ts.drop k) = er) ∧ Below w.heap.size w wr) (fun _ i _ => n - (intOf i).toNat)
  case atStart => exact ⟨0, Nat.zero_le _, rfl, OwnTexts.nil _ _, H0, Below.refl _ _⟩
  case round =>
    obtain ⟨k, hk, rfl, hown, HD, hb⟩ := hrel
    have hsz := hb.size
    by_cases hlt : k < n
    · have hk1 : k < ts.length := by rw [HN.out]; exact hlt
      obtain ⟨h0, h1, h2⟩ := HT.out k hk1
      have hd : ts.drop k = ts[k] :: ts.drop (k + 1) := List.drop_eq_getElem_cons hk1
      have htk : (ts.take (k + 1)).map Can.keyB = (ts.take k).map Can.keyB ++ [Can.keyB ts[k]] := by
        rw [List.take_add_one, List.getElem?_eq_getElem hk1, List.map_append]; rfl
      obtain ⟨g1, g2, g3, g4⟩ := HO.out ts[k] (List.getElem_mem _)
      obtain ⟨t, ht⟩ : ∃ t, ts[k] = t := ⟨_, rfl⟩
      rw [ht] at h0 h1 h2 g1 g2 g3 g4 hd htk
      have d0 := (hb.cell (p := ⟨b, o + k * 2, none⟩) hb0).trans h0
      have d1 := (hb.cell (p := ⟨b, o + k * 2 + 1, none⟩) hb0).trans h1
      have hA := h2.below hb (Nat.le_refl _)
      have hbr : b < wr.heap.size := by omega
      obtain ⟨⟨kk, e0⟩, hq⟩ : ∃ q, Can.key (Lab.bs t.job) t.ls = q := ⟨_, rfl⟩
      have HC := Lib.hid (fun W hA => ckey_is t.job t.p t.ls t.n t.c kk e0 hq W g1 hA g3 g2 g4)
      have hkb : Can.keyB t = ⟨kk.toArray⟩ := by unfold Can.keyB; rw [hq]
      have hke : Can.keyE t = e0 := by unfold Can.keyE; rw [hq]
      rw [hkb] at htk
      have hst : (if e0 = 0 then Can.err (ts.drop (k + 1)) else e0) = er := by
        have h3 := HD.out
        rw [hd] at h3
        have : Can.err (t :: ts.drop (k + 1)) = if Can.keyE t = 0 then Can.err (ts.drop (k + 1)) else Can.keyE t := rfl
        rw [this, hke] at h3
        exact h3
      obtain ⟨y, hy⟩ : ∃ y, ByteArray.mk kk.toArray = y := ⟨_, rfl⟩
      rw [hy] at HC htk
      have HX := Lib.hid htk
      have hlk : ((ts.take k).map Can.keyB).length ≤ 1000 := by rw [List.length_map, List.length_take]; omega
      obtain ⟨l0, hl0⟩ : ∃ l0, (ts.take k).map Can.keyB = l0 := ⟨_, rfl⟩
      rw [hl0] at hown HX hlk
      obtain ⟨tj, tp, tn, tc, tl⟩ := t
      dsimp only at d0 d1 hA HC
      clear ht h0 h1 h2 g1 g2 g3 g4 hq hl0 hd htk hkb hke HD hy
      by_cases h00 : e0 = 0
      · subst h00
        rw [if_pos rfl] at hst
        have HS := Lib.hid hst
        clear hst
        go_wp2_with (go_at_call 21; refine (HC.out _ (hA.alloc _)).mono ?_)
        first | rintro e w2 rfl hb2 | rintro e w2 ⟨rfl, hb2⟩
        have hb3 : Below w.heap.size w w2 := (hb.alloc hsz _).trans (hb2.mono (by simp; omega))
        have hown2 := (hown.alloc (.cells #[.string tj, .slice tp tn tc] 37)).below hb2 (Nat.le_refl _)
        go_wp2_with (at_builtin; refine wpList_pushT rfl _ _ rfl _ _ _ _ rfl hown2 [y] _ _ rfl _ rfl (by simp) ?c1 ?c2 ?_)
        case c1 => simp only [List.length_cons, List.length_nil]; omega
        case c2 => exact hb3.size
        intro v' w4 hown' hg
        have hb4 := below_push _ hb3 hown2 hg
        go_wp2_with fail
        go_roundw
        case rel => exact ⟨k + 1, by omega, by go_num, by rw [HX.out]; exact hown', HS, hb4⟩
        case measure => simp [intOf]; omega
      · rw [if_neg h00] at hst
        subst hst
        have q1 : (e0 != 0) = true := by simpa using h00
        have HK2 : Hid (ks = []) := by
          show ks = []
          rw [← HK.out]
          unfold Can.keysOf
          rw [HE.out, if_neg h00]
        clear h00
        go_wp2_with (go_at_call 21; refine (HC.out _ (hA.alloc _)).mono ?_)
        first | rintro e w2 rfl hb2 | rintro e w2 ⟨rfl, hb2⟩
        have hb3 : Below w.heap.size w w2 := (hb.alloc hsz _).trans (hb2.mono (by simp; omega))
        go_wp2_with fail
        go_ret2
        exact ⟨⟨_, rfl, by rw [HK2.out]; exact OwnTexts.nil _ _⟩, hb3⟩
    · have hk2 : ts.take k = ts := List.take_of_length_le (by rw [HN.out]; omega)
      rw [hk2] at hown
      have he0 : er = 0 := by
        have := HD.out
        rw [List.drop_eq_nil_iff.2 (by rw [HN.out]; omega)] at this
        exact this.symm
      subst he0
      have HK2 : Hid (ks = ts.map Can.keyB) := by
        show ks = _
        rw [← HK.out]
        unfold Can.keysOf
        rw [HE.out, if_pos rfl]
      clear hk2 HD
      go_wp2_with fail
      go_ret2
      exact ⟨⟨_, rfl, by rw [HK2.out]; exact hown⟩, hb⟩
end Go.Proofs.YthnaninhbofeoaaGreatDoor
