/- Lists of targets, as they lie in memory. Contracts of canon.Key and the reference's Key, of whatever labels and jobs. Slots as they lie in memory. Contracts of pool: plan, right (of a plan), keys, Right. Contracts of pool.keys and pool.Right. -/
import Derived.Test.YtpnpgjjbincigaaFst
import Derived.Test.YtpnpgjjbincigaaRefL
import Derived.Test.YtpnpgjjbincigaaCnW
import Derived.Test.YtpnpgjjbincigaaPoI
import Derived.Test.YtpnpgjjbincigaaRec
import Derived.Test.YtpnpgjjbincigaaLabC
import Derived.Test.YtpnpgjjbincigaaPoA
namespace Go.Proofs.Ytpnpgjjbincigaa
open Go.ChangeShapes Go.WideShapes Go.ChangeAt Go.RowKit

instance : Inhabited Can.T := ⟨⟨⟨#[]⟩, none, 0, 0, []⟩⟩
/-- a target of whatever labels and whatever job -/
def Can.TAny (t : Can.T) : Prop := t.job.size ≤ maxLen ∧ t.ls.length = t.n ∧ Lab.Fit maxLen t.ls ∧ (t.p = none → t.c = 0) ∧ t.n ≤ maxLen
end Go.Proofs.Ytpnpgjjbincigaa
namespace Go.Proofs.Ytpnpgjjbincigaa
open Go.RowKit

theorem Can.right_big (ls : List Lab.L) (h : Lab.right ls = true) (m : Nat) (hm : 1100 ≤ m) : Lab.Fit m ls := fun x hx => by
  have := (Lab.right_fit ls h).1 x hx
  omega
set_option maxHeartbeats 800000 in
theorem cbytesG_is (p : Option Addr) (ls : List Lab.L) (n c : Nat) (r : List UInt8) (er : Int) (h : Can.bytes ls = (r, er)) (w : World) (hn : ls.length = n) (hA : Lab.At p ls w) (hF : Lab.Fit maxLen ls) (hl : n ≤ maxLen) :
    Calls Try.prog 84 #[.slice p n c] w fun e w' => e = .returned (.tuple #[.string ⟨r.toArray⟩, .int .i64 er]) ∧ Below w.heap.size w w' := by
  by_cases hb : Lab.right ls = true
  · exact cbytes_is p ls n c r er h w hn hA (Can.right_big ls hb _ (by decide)) hl
  · have hb := Bool.eq_false_iff.2 hb
    have HC := Lib.hid (right_is p ls n c false hb w hn hA hF hl)
    unfold Can.bytes at h
    rw [hb, if_neg (by simp)] at h
    simp only [Prod.mk.injEq] at h
    obtain ⟨rfl, rfl⟩ := h
    clear hb hF hn hA hl
    go_enter Try.func84, Try.ntmps84
    go_wp2_with (go_at_call 95; refine HC.out.mono ?_)
    first | rintro e w1 ⟨rfl, hb1⟩ | rintro e w1 rfl hb1
    go_wp2_with fail
    go_ret2
    exact ⟨rfl, hb1⟩
set_option maxHeartbeats 800000 in
theorem rbytesG_is (p : Option Addr) (ls : List Lab.L) (n c : Nat) (r : List UInt8) (er : Int) (h : Can.bytes ls = (r, er)) (w : World) (hn : ls.length = n) (hA : Lab.At p ls w) (hF : Lab.Fit maxLen ls) (hl : n ≤ maxLen) :
    Calls Try.prog 91 #[.slice p n c] w fun e w' => e = .returned (.tuple #[.string ⟨r.toArray⟩, .int .i64 er]) ∧ Below w.heap.size w w' := by
  by_cases hb : Lab.right ls = true
  · exact rbytes_is p ls n c r er h w hn hA (Can.right_big ls hb _ (by decide)) hl
  · have hb := Bool.eq_false_iff.2 hb
    have HC := Lib.hid (rright_is p ls n c false hb w hn hA hF hl)
    unfold Can.bytes at h
    rw [hb, if_neg (by simp)] at h
    simp only [Prod.mk.injEq] at h
    obtain ⟨rfl, rfl⟩ := h
    clear hb hF hn hA hl
    go_enter Try.func91, Try.ntmps91
    go_wp2_with (go_at_call 100; refine HC.out.mono ?_)
    first | rintro e w1 ⟨rfl, hb1⟩ | rintro e w1 rfl hb1
    go_wp2_with fail
    go_ret2
    exact ⟨rfl, hb1⟩
set_option maxHeartbeats 800000 in
theorem rjobG_is (s : ByteArray) (b : Bool) (h : Can.job s.data.toList = b) (w : World) (hs : s.size ≤ maxLen) :
    Calls Try.prog 90 #[.string s] w fun e w' => e = .returned (.bool b) ∧ Below w.heap.size w w' := by
  by_cases hz : s.size ≤ 1000000
  · exact rjob_is s b h w hz
  · unfold Can.job at h
    rw [Utf.len_is] at h
    unfold maxLen at hs
    have hb : b = false := by rw [← h, decide_eq_false (show ¬ s.size ≤ 128 by omega)]; simp
    subst hb
    have q0 : ((s.size : Int) == 0) = false := beq_eq_false_iff_ne.2 (by omega)
    have h3 : 128 < s.size := by omega
    clear h hz
    go_enter Try.func90, Try.ntmps90
    go_wp2_with fail
    go_ret
    exact ⟨rfl, Below.refl _ _⟩
set_option maxHeartbeats 1600000 in
set_option maxRecDepth 100000 in
theorem ckeyG_is (job : ByteArray) (p : Option Addr) (ls : List Lab.L) (n c : Nat) (k : List UInt8) (er : Int) (h : Can.key (Lab.bs job) ls = (k, er)) (w : World) (hn : ls.length = n) (hA : Lab.At p ls w) (hF : Lab.Fit maxLen ls) (hl : n ≤ maxLen) (hjs : job.size ≤ maxLen) :
    Calls Try.prog 57 #[.agg #[.string job, .slice p n c]] w fun e w' => e = .returned (.tuple #[.string ⟨k.toArray⟩, .int .i64 er]) ∧ Below w.heap.size w w' := by
  obtain ⟨j0, hj⟩ : ∃ j0, Can.job (Lab.bs job) = j0 := ⟨_, rfl⟩
  obtain ⟨⟨r, e0⟩, hr⟩ : ∃ q, Can.bytes ls = q := ⟨_, rfl⟩
  have hj2 : Can.job job.data.toList = j0 := hj
  by_cases hb : j0 = true ∧ Lab.right ls = true
  · obtain ⟨rfl, hb⟩ := hb
    exact ckey_is job p ls n c k er h w hn hA (Lab.right_fit ls hb).1 (by have := (Lab.right_fit ls hb).2; omega) (by have := Can.job_size job hj; omega)
  · have HJ := Lib.hid (fun w => cjob_is job j0 hj2 w hjs)
    have HB := Lib.hid (fun w hA => cbytesG_is p ls n c r e0 hr w hn hA hF hl)
    unfold Can.key at h
    rw [hr, hj] at h
    dsimp only at h
    cases j0
    · rw [if_neg (by simp)] at h
      simp only [Prod.mk.injEq] at h
      obtain ⟨rfl, rfl⟩ := h
      clear hj hj2 hr hn hA hF hl hjs HB hb
      go_enter Try.func57, Try.ntmps57
      go_wp2_with (go_at_call 83; refine (HJ.out _).mono ?_)
      try rintro e w1 ⟨rfl, rfl⟩
      go_wp2_with fail
      go_ret2
      exact ⟨rfl, (Below.refl _ _).alloc (Nat.le_refl _) _⟩
    · have he : e0 = 44 := by
        unfold Can.bytes at hr
        rw [if_neg (fun q => hb ⟨rfl, q⟩)] at hr
        exact (Prod.mk.inj hr).2.symm
      subst he
      rw [if_pos rfl, if_neg (by decide)] at h
      simp only [Prod.mk.injEq] at h
      obtain ⟨rfl, rfl⟩ := h
      clear hj hj2 hr hn hF hl hjs hb
      go_enter Try.func57, Try.ntmps57
      go_wp2_with (go_at_call 83; refine (HJ.out _).mono ?_)
      try rintro e w1 ⟨rfl, rfl⟩
      go_wp2_with (go_at_call 84; refine (HB.out _ (hA.alloc _)).mono ?_)
      first | rintro e w2 rfl hb2 | rintro e w2 ⟨rfl, hb2⟩
      go_wp2_with fail
      go_ret2
      exact ⟨rfl, ((Below.refl _ _).alloc (Nat.le_refl _) _).trans (hb2.mono (by simp))⟩
set_option maxHeartbeats 1600000 in
set_option maxRecDepth 100000 in
theorem rkeyG_is (job : ByteArray) (p : Option Addr) (ls : List Lab.L) (n c : Nat) (k : List UInt8) (er : Int) (h : Can.key (Lab.bs job) ls = (k, er)) (w : World) (hn : ls.length = n) (hA : Lab.At p ls w) (hF : Lab.Fit maxLen ls) (hl : n ≤ maxLen) (hjs : job.size ≤ maxLen) :
    Calls Try.prog 72 #[.agg #[.string job, .slice p n c]] w fun e w' => e = .returned (.tuple #[.string ⟨k.toArray⟩, .int .i64 er]) ∧ Below w.heap.size w w' := by
  obtain ⟨j0, hj⟩ : ∃ j0, Can.job (Lab.bs job) = j0 := ⟨_, rfl⟩
  obtain ⟨⟨r, e0⟩, hr⟩ : ∃ q, Can.bytes ls = q := ⟨_, rfl⟩
  have hj2 : Can.job job.data.toList = j0 := hj
  by_cases hb : j0 = true ∧ Lab.right ls = true
  · obtain ⟨rfl, hb⟩ := hb
    exact rkey_is job p ls n c k er h w hn hA (Lab.right_fit ls hb).1 (by have := (Lab.right_fit ls hb).2; omega) (by have := Can.job_size job hj; omega)
  · have HJ := Lib.hid (fun w => rjobG_is job j0 hj2 w hjs)
    have HB := Lib.hid (fun w hA => rbytesG_is p ls n c r e0 hr w hn hA hF hl)
    unfold Can.key at h
    rw [hr, hj] at h
    dsimp only at h
    cases j0
    · rw [if_neg (by simp)] at h
      simp only [Prod.mk.injEq] at h
      obtain ⟨rfl, rfl⟩ := h
      clear hj hj2 hr hn hA hF hl hjs HB hb
      go_enter Try.func72, Try.ntmps72
      go_wp2_with (go_at_call 90; refine (HJ.out _).mono ?_)
      first | rintro e w1 rfl hb1 | rintro e w1 ⟨rfl, hb1⟩
      go_wp2_with fail
      go_ret2
      exact ⟨rfl, ((Below.refl _ _).alloc (Nat.le_refl _) _).trans (hb1.mono (by simp))⟩
    · have he : e0 = 44 := by
        unfold Can.bytes at hr
        rw [if_neg (fun q => hb ⟨rfl, q⟩)] at hr
        exact (Prod.mk.inj hr).2.symm
      subst he
      rw [if_pos rfl, if_neg (by decide)] at h
      simp only [Prod.mk.injEq] at h
      obtain ⟨rfl, rfl⟩ := h
      clear hj hj2 hr hn hF hl hjs hb
      go_enter Try.func72, Try.ntmps72
      go_wp2_with (go_at_call 90; refine (HJ.out _).mono ?_)
      first | rintro e w1 rfl hb1 | rintro e w1 ⟨rfl, hb1⟩
      have hbA : Below w.heap.size w w1 := ((Below.refl _ _).alloc (Nat.le_refl _) _).trans (hb1.mono (by simp))
      have k1 := below_kept hb1 (alloc_new w _) (by simp)
      have c1 : w1.cell? ⟨w.heap.size, 1, none⟩ = some (.slice p n c) := by rw [Lib.cell_of_heap k1]; rfl
      have hA1 := hA.below hbA (Nat.le_refl _)
      go_wp2_with (go_at_call 91; refine (HB.out _ hA1).mono ?_)
      first | rintro e w2 rfl hb2 | rintro e w2 ⟨rfl, hb2⟩
      go_wp2_with fail
      go_ret2
      exact ⟨rfl, hbA.trans (hb2.mono hbA.size)⟩
end Go.Proofs.Ytpnpgjjbincigaa
namespace Go.Proofs.Ytpnpgjjbincigaa
open Go.RowKit
set_option linter.unusedVariables false

/-- a slot -/
structure Sl where
  t : Can.T
  ev : Int
  ti : Int
  en : Bool
instance : Inhabited Sl := ⟨⟨default, 0, 0, false⟩⟩
def Sl.enc (s : Sl) : List Value := [.string s.t.job, .slice s.t.p s.t.n s.t.c, .int .i64 s.ev, .int .i64 s.ti, .bool s.en]
def slR : Rec Sl := ⟨33, 5, 64, .agg #[.string ByteArray.empty, .slice none 0 0, .int .i64 0, .int .i64 0, .bool false], Sl.enc⟩
theorem slOk : Rec.Ok slR where
  len _ := rfl
  one x v hv := by
    simp [slR, Sl.enc] at hv
    rcases hv with rfl | rfl | rfl | rfl | rfl <;> rfl
  pos := by decide
  small := by decide
  info := by kernel_rfl
  zs := rfl
/-- are the numbers of a plan right -/
def Po.num (ev ti : Int) : Bool := decide (1 ≤ ev) && decide (ev ≤ 1099511627776) && decide (1 ≤ ti) && decide (ti ≤ ev)
def Po.ltq : Option ByteArray → ByteArray → Bool
  | none, _ => true
  | some k, y => decide (Lab.bs k < Lab.bs y)
def Po.ok1 (q : Option ByteArray) (s : Sl) : Bool := decide (Can.keyE s.t = 0) && Po.num s.ev s.ti && Po.ltq q (Can.keyB s.t)
def Po.rightFrom : Option ByteArray → List Sl → Bool
  | _, [] => true
  | q, s :: r => Po.ok1 q s && Po.rightFrom (some (Can.keyB s.t)) r
/-- are slots right -/
def Po.right (l : List Sl) : Bool := Po.rightFrom none l
/-- slots at a place, with their labels -/
def Po.At (p : Option Addr) (l : List Sl) (w : World) : Prop := slR.Lies p l w ∧ ∀ s ∈ l, Lab.At s.t.p s.t.ls w
theorem Po.At.below {p : Option Addr} {l : List Sl} {B : Nat} {w w' : World} (h : Po.At p l w) (hb : Below B w w') (hB : w.heap.size ≤ B) : Po.At p l w' :=
  ⟨h.1.below slOk hb hB, fun s hs => (h.2 s hs).below hb hB⟩
theorem Po.At.cells {p : Option Addr} {l : List Sl} {w : World} (h : Po.At p l w) (h0 : 0 < l.length) : ∃ b o, p = some ⟨b, o, none⟩ ∧ ∀ i (hi : i < l.length),
    w.cell? ⟨b, o + i * 5, none⟩ = some (.string l[i].t.job) ∧ w.cell? ⟨b, o + i * 5 + 1, none⟩ = some (.slice l[i].t.p l[i].t.n l[i].t.c) ∧ w.cell? ⟨b, o + i * 5 + 2, none⟩ = some (.int .i64 l[i].ev) ∧
      w.cell? ⟨b, o + i * 5 + 3, none⟩ = some (.int .i64 l[i].ti) ∧ w.cell? ⟨b, o + i * 5 + 4, none⟩ = some (.bool l[i].en) := by
  rcases h.1 with h1 | ⟨b, o, hp, hc⟩
  · rw [h1] at h0; cases h0
  · refine ⟨b, o, hp, fun i hi => ?_⟩
    have := hc i hi
    exact ⟨this 0 (by decide), this 1 (by decide), this 2 (by decide), this 3 (by decide), this 4 (by decide)⟩

set_option maxHeartbeats 800000 in
theorem plan_is (j : ByteArray) (p : Option Addr) (n c : Nat) (ev ti : Int) (en : Bool) (w : World) :
    Calls Try.prog 64 #[.agg #[.string j, .slice p n c, .int .i64 ev, .int .i64 ti, .bool en]] w fun e w' => e = .returned (.agg #[.int .i64 ev, .int .i64 ti, .bool en]) ∧ Below w.heap.size w w' := by
  go_enter Try.func64, Try.ntmps64
  go_wp2_with fail
  refine bodyPost_ret (v := .agg #[.int .i64 ev, .int .i64 ti, .bool en]) ?_ rfl ⟨rfl, ?_⟩
  · simp [results, Try.results64, go_sem]
  · exact (((((Below.refl _ w).alloc (Nat.le_refl _) _).alloc (by simp) _)))
set_option maxHeartbeats 1600000 in
theorem planR_is (ev ti : Int) (en : Bool) (b : Bool) (h : Po.num ev ti = b) (w : World) :
    Calls Try.prog 56 #[.agg #[.int .i64 ev, .int .i64 ti, .bool en]] w fun e w' => e = .returned (.bool b) ∧ Below w.heap.size w w' := by
  unfold Po.num at h
  by_cases h1 : 1 ≤ ev
  · rw [decide_eq_true h1, Bool.true_and] at h
    by_cases h2 : ev ≤ 1099511627776
    · rw [decide_eq_true h2, Bool.true_and] at h
      by_cases h3 : 1 ≤ ti
      · rw [decide_eq_true h3, Bool.true_and] at h
        subst h
        go_enter Try.func56, Try.ntmps56
        go_wp2_with fail
        go_ret
        exact ⟨rfl, (Below.refl _ _).alloc (Nat.le_refl _) _⟩
      · rw [decide_eq_false h3, Bool.false_and] at h
        subst h
        have q3 : decide (ti ≥ 1) = false := decide_eq_false (by omega)
        go_enter Try.func56, Try.ntmps56
        go_wp2_with fail
        go_ret
        exact ⟨rfl, (Below.refl _ _).alloc (Nat.le_refl _) _⟩
    · rw [decide_eq_false h2, Bool.false_and, Bool.false_and] at h
      subst h
      go_enter Try.func56, Try.ntmps56
      go_wp2_with fail
      go_ret
      exact ⟨rfl, (Below.refl _ _).alloc (Nat.le_refl _) _⟩
  · rw [decide_eq_false h1, Bool.false_and, Bool.false_and, Bool.false_and] at h
    subst h
    go_enter Try.func56, Try.ntmps56
    go_wp2_with fail
    go_ret
    exact ⟨rfl, (Below.refl _ _).alloc (Nat.le_refl _) _⟩
end Go.Proofs.Ytpnpgjjbincigaa
namespace Go.Proofs.Ytpnpgjjbincigaa
open Go.RowKit
set_option linter.unusedVariables false

def Sl.kb (s : Sl) : ByteArray := Can.keyB s.t
def Po.prev (ss : List Sl) : Nat → Option ByteArray
  | 0 => none
  | k + 1 => (ss[k]?).map Sl.kb
theorem Po.prev_succ (ss : List Sl) (k : Nat) (hk : k < ss.length) : Po.prev ss (k + 1) = some (Sl.kb ss[k]) := by
  show (ss[k]?).map Sl.kb = _
  rw [List.getElem?_eq_getElem hk]; rfl
theorem Po.right_step (ss : List Sl) (k : Nat) (hk : k < ss.length) : Po.rightFrom (Po.prev ss k) (ss.drop k) = (Po.ok1 (Po.prev ss k) ss[k] && Po.rightFrom (Po.prev ss (k + 1)) (ss.drop (k + 1))) := by
  rw [List.drop_eq_getElem_cons hk]
  show (_ && Po.rightFrom (some (Can.keyB ss[k].t)) _) = _
  rw [Po.prev_succ ss k hk]
  rfl

theorem OwnTexts.shp {B : Nat} {v : Value} {l : List ByteArray} {w : World} (h : OwnTexts B v l w) : ∃ p c, v = .slice p l.length c ∧ l.length ≤ c ∧ c ≤ maxLen := by
  rcases h.open with ⟨rfl, rfl⟩ | ⟨g, c, rfl, _, h1, h2, _⟩
  · exact ⟨none, 0, rfl, Nat.le_refl _, Nat.zero_le _⟩
  · exact ⟨_, c, rfl, h1, h2⟩

set_option maxHeartbeats 6400000 in
set_option maxRecDepth 100000 in
theorem pkeys_is (p : Option Addr) (ss : List Sl) (n c : Nat) (b : Bool) (h : Po.right ss = b) (w : World) (hn : ss.length = n) (hA : Po.At p ss w) (hF : ∀ s ∈ ss, Can.TAny s.t) (hl : n ≤ 1000000) :
    Calls Try.prog 54 #[.slice p n c] w fun e w' => (∃ v, e = .returned (.tuple #[v, .bool b]) ∧ (b = true → OwnTexts w.heap.size v (ss.map Sl.kb) w')) ∧ Below w.heap.size w w' := by
  have HN := Lib.hid hn
  have H0 : Hid (Po.rightFrom (Po.prev ss 0) (ss.drop 0) = b) := h
  have HF := Lib.hid hF
  have HA := Lib.hid hA
  clear h hn hF hA
  go_enter Try.func54, Try.ntmps54
  go_wp2_with fail
  go_loopw [4, 11] (fun v i wr => ∃ (k c' : Nat) (q : Option Addr), k ≤ n ∧ i = .int .i64 (k : Int) ∧ v = .slice q k c' ∧ k ≤ c' ∧ Hid (Po.rightFrom (Po.prev ss k) (ss.drop k) = b) ∧ Hid (OwnTexts w.heap.size v ((ss.take k).map Sl.kb) wr) ∧ Below w.heap.size w wr) (fun _ i _ => n - (intOf i).toNat)
  case atStart => exact ⟨0, 0, none, Nat.zero_le _, rfl, rfl, Nat.le_refl _, H0, OwnTexts.nil _ _, Below.refl _ _⟩
  case round =>
    obtain ⟨k, c', q, hk, rfl, rfl, hkc, HD, HO, hb⟩ := hrel
    have hsz := hb.size
    by_cases hlt : k < n
    · have hk1 : k < ss.length := by rw [HN.out]; exact hlt
      have m1 : (0 : Int) ≤ (k : Int) := by omega
      have m2 : (k : Int) < (n : Int) := by omega
      have hAt := HA.out.below hb (Nat.le_refl _)
      obtain ⟨b0, o0, rfl, hcells⟩ := hAt.cells (by omega)
      obtain ⟨d0, d1, d2, d3, d4⟩ := hcells k hk1
      have hgb : b0 < wr.heap.size := World.block_lt_of_cell? _ _ d0
      have hls := hAt.2 ss[k] (List.getElem_mem _)
      obtain ⟨f1, f2, f3, f4, f5⟩ := HF.out ss[k] (List.getElem_mem _)
      have hst := Po.right_step ss k hk1
      rw [HD.out] at hst
      have htk : (ss.take (k + 1)).map Sl.kb = (ss.take k).map Sl.kb ++ [Sl.kb ss[k]] := by
        rw [List.take_add_one, List.getElem?_eq_getElem hk1, List.map_append]; rfl
      have hpl : (k = 0 ∧ Po.prev ss k = none) ∨ ∃ j, k = j + 1 ∧ ∃ y, ((ss.take k).map Sl.kb)[j]? = some y ∧ Po.prev ss k = some y := by
        cases k with
        | zero => exact .inl ⟨rfl, rfl⟩
        | succ j =>
          refine .inr ⟨j, rfl, Sl.kb (ss[j]'(by omega)), ?_, ?_⟩
          · rw [List.getElem?_map, List.getElem?_take_of_lt (by omega), List.getElem?_eq_getElem (by omega)]; rfl
          · exact Po.prev_succ ss j (by omega)
      have HPL := Lib.hid hpl
      obtain ⟨s, hs⟩ : ∃ s, ss[k] = s := ⟨_, rfl⟩
      rw [hs] at d0 d1 d2 d3 d4 hls f1 f2 f3 f4 f5 hst htk
      obtain ⟨⟨kk, e0⟩, hq⟩ : ∃ x, Can.key (Lab.bs s.t.job) s.t.ls = x := ⟨_, rfl⟩
      have HC := Lib.hid (fun w hA => ckeyG_is s.t.job s.t.p s.t.ls s.t.n s.t.c kk e0 hq w f2 hA f3 f5 f1)
      have hkb : Sl.kb s = ⟨kk.toArray⟩ := by unfold Sl.kb Can.keyB; rw [hq]
      have hke : Can.keyE s.t = e0 := by unfold Can.keyE; rw [hq]
      obtain ⟨y, hy⟩ : ∃ y, ByteArray.mk kk.toArray = y := ⟨_, rfl⟩
      rw [hy] at HC hkb
      rw [hkb] at htk
      obtain ⟨nm, hnm⟩ : ∃ x, Po.num s.ev s.ti = x := ⟨_, rfl⟩
      have HPR := Lib.hid (fun w => planR_is s.ev s.ti s.en nm hnm w)
      have HPL2 := Lib.hid (fun w => plan_is s.t.job s.t.p s.t.n s.t.c s.ev s.ti s.en w)
      have hok : Po.ok1 (Po.prev ss k) s = (decide (e0 = 0) && nm && Po.ltq (Po.prev ss k) y) := by
        unfold Po.ok1
        rw [hke, hnm, show Can.keyB s.t = y from hkb]
      rw [hok] at hst
      obtain ⟨pv, hpv⟩ : ∃ pv, Po.prev ss k = pv := ⟨_, rfl⟩
      rw [hpv] at hst HPL
      obtain ⟨⟨tj, tp, tn, tc, tl⟩, ev, ti, en⟩ := s
      dsimp only at d0 d1 d2 d3 d4 hls HC HPR HPL2 f1
      have HX := Lib.hid htk
      have HST := Lib.hid hst
      have hlk : ((ss.take k).map Sl.kb).length = k := by rw [List.length_map, List.length_take]; omega
      obtain ⟨l0, hl0⟩ : ∃ l0, (ss.take k).map Sl.kb = l0 := ⟨_, rfl⟩
      rw [hl0] at HO HX hlk HPL
      have HLK := Lib.hid hlk
      clear hs hcells hq hkb hke hy hnm hok hpv hst htk hpl hl0 HD hlk f2 f3 f4 f5
      by_cases h00 : e0 = 0
      · subst h00
        cases nm
        · have HB0 : Hid (b = false) := HST.out
          clear HST HX HPL
          go_wp2_with (go_at_call 57; refine (HC.out _ (hls.alloc _)).mono ?_)
          first | rintro e w2 rfl hb2 | rintro e w2 ⟨rfl, hb2⟩
          have hb3 : Below w.heap.size w w2 := (hb.alloc hsz _).trans (hb2.mono (by first | omega | (simp; omega)))
          have k2 := below_kept hb2 (alloc_new wr _) (by simp)
          have c0 : w2.cell? ⟨wr.heap.size, 0, none⟩ = some (.string tj) := by rw [Lib.cell_of_heap k2]; rfl
          have c1 : w2.cell? ⟨wr.heap.size, 1, none⟩ = some (.slice tp tn tc) := by rw [Lib.cell_of_heap k2]; rfl
          have c2 : w2.cell? ⟨wr.heap.size, 2, none⟩ = some (.int .i64 ev) := by rw [Lib.cell_of_heap k2]; rfl
          have c3 : w2.cell? ⟨wr.heap.size, 3, none⟩ = some (.int .i64 ti) := by rw [Lib.cell_of_heap k2]; rfl
          have c4 : w2.cell? ⟨wr.heap.size, 4, none⟩ = some (.bool en) := by rw [Lib.cell_of_heap k2]; rfl
          go_wp2_with (go_at_call 64; refine (HPL2.out _).mono ?_)
          first | rintro e w3 rfl hb4 | rintro e w3 ⟨rfl, hb4⟩
          go_wp2_with (go_at_call 56; refine (HPR.out _).mono ?_)
          first | rintro e w4 rfl hb5 | rintro e w4 ⟨rfl, hb5⟩
          have hb6 : Below w.heap.size w w4 := below_next (below_next hb3 hb4) hb5
          have hfb : b = false := HB0.out
          subst hfb
          go_wp2_with fail
          go_ret2
          exact ⟨⟨_, rfl, fun h => by cases h⟩, hb6⟩
        · rcases HPL.out with ⟨hk0, hpv⟩ | ⟨j, hk0, z, hz, hpv⟩
          · subst hpv
            have HB0 : Hid (Po.rightFrom (Po.prev ss (k + 1)) (ss.drop (k + 1)) = b) := HST.out.symm
            have hk0i : ¬ (0 : Int) < (k : Int) := by omega
            have hk0j : decide ((k : Int) > 0) = false := decide_eq_false (by omega)
            clear HST HPL hk0
            go_wp2_with (go_at_call 57; refine (HC.out _ (hls.alloc _)).mono ?_)
            first | rintro e w2 rfl hb2 | rintro e w2 ⟨rfl, hb2⟩
            have hb3 : Below w.heap.size w w2 := (hb.alloc hsz _).trans (hb2.mono (by first | omega | (simp; omega)))
            have k2 := below_kept hb2 (alloc_new wr _) (by simp)
            have c0 : w2.cell? ⟨wr.heap.size, 0, none⟩ = some (.string tj) := by rw [Lib.cell_of_heap k2]; rfl
            have c1 : w2.cell? ⟨wr.heap.size, 1, none⟩ = some (.slice tp tn tc) := by rw [Lib.cell_of_heap k2]; rfl
            have c2 : w2.cell? ⟨wr.heap.size, 2, none⟩ = some (.int .i64 ev) := by rw [Lib.cell_of_heap k2]; rfl
            have c3 : w2.cell? ⟨wr.heap.size, 3, none⟩ = some (.int .i64 ti) := by rw [Lib.cell_of_heap k2]; rfl
            have c4 : w2.cell? ⟨wr.heap.size, 4, none⟩ = some (.bool en) := by rw [Lib.cell_of_heap k2]; rfl
            go_wp2_with (go_at_call 64; refine (HPL2.out _).mono ?_)
            first | rintro e w3 rfl hb4 | rintro e w3 ⟨rfl, hb4⟩
            go_wp2_with (go_at_call 56; refine (HPR.out _).mono ?_)
            first | rintro e w4 rfl hb5 | rintro e w4 ⟨rfl, hb5⟩
            have hb6 : Below w.heap.size w w4 := below_next (below_next hb3 hb4) hb5
            have hOwn : OwnTexts w.heap.size (.slice q k c') l0 w4 := (((HO.out.alloc (.cells #[.string tj, .slice tp tn tc, .int .i64 ev, .int .i64 ti, .bool en] 33)).below hb2 (by simp)).below hb4 (Nat.le_refl _)).below hb5 (Nat.le_refl _)
            clear c0 c1 c2 c3 c4 k2 hb2 hb3 hb4 hb5
            go_wp2_with (at_builtin; refine wpList_pushT rfl _ _ rfl _ _ _ _ rfl hOwn [y] _ _ rfl _ rfl (by simp) ?cc1 ?cc2 ?_)
            case cc1 => simp only [List.length_cons, List.length_nil]; rw [HLK.out]; omega
            case cc2 => exact hb6.size
            intro v' w5 hown' hg
            have hb7 := below_push _ hb6 hOwn hg
            obtain ⟨q', c2', hv', hlc', _⟩ := hown'.shp
            rw [List.length_append, HLK.out] at hv' hlc'
            subst hv'
            have HOW := Lib.hid hown'
            clear hown' hg hOwn
            go_wp2_with fail
            go_roundw
            case rel => exact ⟨k + 1, c2', q', by omega, by go_num, rfl, hlc', HB0, (by show OwnTexts _ _ _ _; rw [HX.out]; exact HOW.out), hb7⟩
            case measure => simp [intOf]; omega
          · subst hpv
            subst hk0
            have hk0i : (0 : Int) < (j : Int) + 1 := by omega
            have hk0j : decide ((j : Int) + 1 > 0) = true := decide_eq_true (by omega)
            have j1 : (0 : Int) ≤ (j : Int) := by omega
            have j2 : (j : Int) < (j : Int) + 1 := by omega
            have j3 : IntKind.i64.wrap (j : Int) = (j : Int) := by rw [IntKind.wrap_i64]; omega
            obtain ⟨pr, hpr⟩ : ∃ pr, Op.bytesLess z.toList y.toList = pr := ⟨_, rfl⟩
            have HPP : Hid (Po.ltq (some z) y = pr) := by show decide _ = _; rw [← hpr, strLt_is]
            have HZ := Lib.hid hz
            rcases HO.out.open with ⟨_, hnil⟩ | ⟨g0, c0', hv0, hg0, _, _, hcl0⟩
            · rw [hnil] at hz; cases hz
            · have hlc0 := HLK.out
              rw [hlc0] at hv0
              simp only [Value.slice.injEq] at hv0
              obtain ⟨rfl, _, rfl⟩ := hv0
              have HCL := Lib.hid (hcl0 j z hz)
              clear hcl0 hz HPL hlc0
              have HST2 := HST.out
              rw [HPP.out] at HST2
              clear HST HPP
              cases pr
              · have HB0 : Hid (b = false) := HST2
                clear HST2 HX
                go_wp2_with (go_at_call 57; refine (HC.out _ (hls.alloc _)).mono ?_)
                first | rintro e w2 rfl hb2 | rintro e w2 ⟨rfl, hb2⟩
                have hb3 : Below w.heap.size w w2 := (hb.alloc hsz _).trans (hb2.mono (by first | omega | (simp; omega)))
                have k2 := below_kept hb2 (alloc_new wr _) (by simp)
                have c0 : w2.cell? ⟨wr.heap.size, 0, none⟩ = some (.string tj) := by rw [Lib.cell_of_heap k2]; rfl
                have c1 : w2.cell? ⟨wr.heap.size, 1, none⟩ = some (.slice tp tn tc) := by rw [Lib.cell_of_heap k2]; rfl
                have c2 : w2.cell? ⟨wr.heap.size, 2, none⟩ = some (.int .i64 ev) := by rw [Lib.cell_of_heap k2]; rfl
                have c3 : w2.cell? ⟨wr.heap.size, 3, none⟩ = some (.int .i64 ti) := by rw [Lib.cell_of_heap k2]; rfl
                have c4 : w2.cell? ⟨wr.heap.size, 4, none⟩ = some (.bool en) := by rw [Lib.cell_of_heap k2]; rfl
                go_wp2_with (go_at_call 64; refine (HPL2.out _).mono ?_)
                first | rintro e w3 rfl hb4 | rintro e w3 ⟨rfl, hb4⟩
                go_wp2_with (go_at_call 56; refine (HPR.out _).mono ?_)
                first | rintro e w4 rfl hb5 | rintro e w4 ⟨rfl, hb5⟩
                have hb6 : Below w.heap.size w w4 := below_next (below_next hb3 hb4) hb5
                have x0 := cell_later hb5 (cell_later hb4 (cell_later hb2 (Lib.cell?_alloc_some (.cells #[.string tj, .slice tp tn tc, .int .i64 ev, .int .i64 ti, .bool en] 33) HCL.out) (by simp)) (Nat.le_refl _)) (Nat.le_refl _)
                have hfb : b = false := HB0.out
                subst hfb
                go_wp2_with fail
                go_ret2
                exact ⟨⟨_, rfl, fun h => by cases h⟩, hb6⟩
              · have HB0 : Hid (Po.rightFrom (Po.prev ss (j + 1 + 1)) (ss.drop (j + 1 + 1)) = b) := HST2.symm
                clear HST2
                go_wp2_with (go_at_call 57; refine (HC.out _ (hls.alloc _)).mono ?_)
                first | rintro e w2 rfl hb2 | rintro e w2 ⟨rfl, hb2⟩
                have hb3 : Below w.heap.size w w2 := (hb.alloc hsz _).trans (hb2.mono (by first | omega | (simp; omega)))
                have k2 := below_kept hb2 (alloc_new wr _) (by simp)
                have c0 : w2.cell? ⟨wr.heap.size, 0, none⟩ = some (.string tj) := by rw [Lib.cell_of_heap k2]; rfl
                have c1 : w2.cell? ⟨wr.heap.size, 1, none⟩ = some (.slice tp tn tc) := by rw [Lib.cell_of_heap k2]; rfl
                have c2 : w2.cell? ⟨wr.heap.size, 2, none⟩ = some (.int .i64 ev) := by rw [Lib.cell_of_heap k2]; rfl
                have c3 : w2.cell? ⟨wr.heap.size, 3, none⟩ = some (.int .i64 ti) := by rw [Lib.cell_of_heap k2]; rfl
                have c4 : w2.cell? ⟨wr.heap.size, 4, none⟩ = some (.bool en) := by rw [Lib.cell_of_heap k2]; rfl
                go_wp2_with (go_at_call 64; refine (HPL2.out _).mono ?_)
                first | rintro e w3 rfl hb4 | rintro e w3 ⟨rfl, hb4⟩
                go_wp2_with (go_at_call 56; refine (HPR.out _).mono ?_)
                first | rintro e w4 rfl hb5 | rintro e w4 ⟨rfl, hb5⟩
                have hb6 : Below w.heap.size w w4 := below_next (below_next hb3 hb4) hb5
                have x0 := cell_later hb5 (cell_later hb4 (cell_later hb2 (Lib.cell?_alloc_some (.cells #[.string tj, .slice tp tn tc, .int .i64 ev, .int .i64 ti, .bool en] 33) HCL.out) (by simp)) (Nat.le_refl _)) (Nat.le_refl _)
                have hOwn : OwnTexts w.heap.size (.slice (some ⟨g0, 0, none⟩) (j + 1) c') l0 w4 := (((HO.out.alloc (.cells #[.string tj, .slice tp tn tc, .int .i64 ev, .int .i64 ti, .bool en] 33)).below hb2 (by simp)).below hb4 (Nat.le_refl _)).below hb5 (Nat.le_refl _)
                clear c0 c1 c2 c3 c4 k2 hb2 hb3 hb4 hb5
                go_wp2_with (at_builtin; refine wpList_pushT rfl _ _ rfl _ _ _ _ rfl hOwn [y] _ _ rfl _ rfl (by simp) ?cc1 ?cc2 ?_)
                case cc1 => simp only [List.length_cons, List.length_nil]; rw [HLK.out]; omega
                case cc2 => exact hb6.size
                intro v' w5 hown' hg
                have hb7 := below_push _ hb6 hOwn hg
                obtain ⟨q', c2', hv', hlc', _⟩ := hown'.shp
                rw [List.length_append, HLK.out] at hv' hlc'
                subst hv'
                have HOW := Lib.hid hown'
                clear hown' hg hOwn
                go_wp2_with fail
                go_roundw
                case rel => exact ⟨j + 1 + 1, c2', q', by omega, by go_num, rfl, hlc', HB0, (by show OwnTexts _ _ _ _; rw [HX.out]; exact HOW.out), hb7⟩
                case measure => simp [intOf]; omega
      · have q1 : (e0 != 0) = true := by simpa using h00
        have HB0 : Hid (b = false) := by
          show _ = _
          rw [HST.out, decide_eq_false h00]; rfl
        clear h00 HST HX HPL
        go_wp2_with (go_at_call 57; refine (HC.out _ (hls.alloc _)).mono ?_)
        first | rintro e w2 rfl hb2 | rintro e w2 ⟨rfl, hb2⟩
        have hb3 : Below w.heap.size w w2 := (hb.alloc hsz _).trans (hb2.mono (by first | omega | (simp; omega)))
        have hfb : b = false := HB0.out
        subst hfb
        go_wp2_with fail
        go_ret2
        exact ⟨⟨_, rfl, fun h => by cases h⟩, hb3⟩
    · obtain rfl : k = n := by omega
      have hk2 : ss.take k = ss := List.take_of_length_le (by rw [HN.out]; exact Nat.le_refl _)
      rw [hk2] at HO
      have HB0 : Hid (b = true) := by
        have := HD.out
        rw [List.drop_eq_nil_iff.2 (by rw [HN.out]; exact Nat.le_refl _)] at this
        exact this.symm
      have hbt : b = true := HB0.out
      subst hbt
      clear HD
      go_wp2_with fail
      go_ret2
      exact ⟨⟨_, rfl, by first | exact fun _ => HO.out | exact HO.out⟩, hb⟩
end Go.Proofs.Ytpnpgjjbincigaa
