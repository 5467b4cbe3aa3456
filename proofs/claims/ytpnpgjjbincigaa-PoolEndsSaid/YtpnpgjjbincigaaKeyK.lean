/- Contracts of canon: Key, KeyPrint, ReadKey. Contracts of canon: keys. (Printed by gen_keys.py.) -/
import Derived.Test.YtpnpgjjbincigaaAwkB
import Derived.Test.YtpnpgjjbincigaaCanS
import Derived.Lib.CutLaws
namespace Go.Proofs.Ytpnpgjjbincigaa
open Go.RowKit

/-- what Key gives -/
def Can.key (job : List UInt8) (ls : List Lab.L) : List UInt8 × Int :=
  if Can.job job = true then (if (Can.bytes ls).2 = 0 then (job ++ [254] ++ (Can.bytes ls).1, 0) else ([], (Can.bytes ls).2)) else ([], 51)

set_option maxHeartbeats 1600000 in
set_option maxRecDepth 100000 in
theorem ckey_is (job : ByteArray) (p : Option Addr) (ls : List Lab.L) (n c : Nat) (k : List UInt8) (er : Int) (h : Can.key (Lab.bs job) ls = (k, er)) (w : World) (hn : ls.length = n) (hA : Lab.At p ls w) (hF : Lab.Fit 1100 ls) (hl : n ≤ 70) (hjs : job.size ≤ 1000000) :
    Calls Try.prog 57 #[.agg #[.string job, .slice p n c]] w fun e w' => e = .returned (.tuple #[.string ⟨k.toArray⟩, .int .i64 er]) ∧ Below w.heap.size w w' := by
  unfold Can.key at h
  obtain ⟨⟨r, e0⟩, hr⟩ : ∃ q, Can.bytes ls = q := ⟨_, rfl⟩
  rw [hr] at h
  dsimp only at h
  obtain ⟨j0, hj⟩ : ∃ j0, Can.job (Lab.bs job) = j0 := ⟨_, rfl⟩
  rw [hj] at h
  have hj2 : Can.job job.data.toList = j0 := hj
  cases j0
  · rw [if_neg (by simp)] at h
    simp only [Prod.mk.injEq] at h
    obtain ⟨rfl, rfl⟩ := h
    have HJ := Lib.hid (fun w => cjob_is job false hj2 w (by unfold maxLen; omega))
    clear hj hj2 hr hn hA hF hl hjs
    go_enter Try.func57, Try.ntmps57
    go_wp2_with (go_at_call 83; refine (HJ.out _).mono ?_)
    try rintro e w1 ⟨rfl, rfl⟩
    go_wp2_with fail
    go_ret2
    exact ⟨rfl, (Below.refl _ _).alloc (Nat.le_refl _) _⟩
  · rw [if_pos rfl] at h
    by_cases h0 : e0 = 0
    · subst h0
      rw [if_pos rfl] at h
      simp only [Prod.mk.injEq] at h
      obtain ⟨hk, rfl⟩ := h
      exact ckey_ok job p ls n c r k hj2 hr hk w hn hA hF hl hjs
    · rw [if_neg h0] at h
      simp only [Prod.mk.injEq] at h
      obtain ⟨rfl, rfl⟩ := h
      have q1 : (e0 != 0) = true := by simpa using h0
      have HJ := Lib.hid (fun w => cjob_is job true hj2 w (by unfold maxLen; omega))
      have HB := Lib.hid (fun w hA => cbytes_is p ls n c r e0 hr w hn hA (fun x hx => by have := hF x hx; omega) (by unfold maxLen; omega))
      clear hj hj2 hr hn hF hl hjs h0
      go_enter Try.func57, Try.ntmps57
      go_wp2_with (go_at_call 83; refine (HJ.out _).mono ?_)
      try rintro e w1 ⟨rfl, rfl⟩
      go_wp2_with (go_at_call 84; refine (HB.out _ (hA.alloc _)).mono ?_)
      first | rintro e w2 rfl hb2 | rintro e w2 ⟨rfl, hb2⟩
      go_wp2_with fail
      go_ret2
      exact ⟨rfl, ((Below.refl _ _).alloc (Nat.le_refl _) _).trans (hb2.mono (by simp))⟩

def Can.badKey : ByteArray × List Lab.L × Int := (⟨#[]⟩, [], 50)
/-- a key parted at place k -/
def Can.keyAt (s : ByteArray) (k : Nat) : ByteArray × List Lab.L × Int :=
  if Can.job (s.data.toList.take k) = true ∧ (Can.read (s.data.toList.drop (k + 1))).2 = 0 then (⟨(s.data.toList.take k).toArray⟩, (Can.read (s.data.toList.drop (k + 1))).1, 0) else Can.badKey
def Can.readKeyL (s : ByteArray) : Nat → List UInt8 → ByteArray × List Lab.L × Int
  | _, [] => Can.badKey
  | k, c :: r => if c = 254 then Can.keyAt s k else Can.readKeyL s (k + 1) r
def Can.readKey (s : ByteArray) : ByteArray × List Lab.L × Int := Can.readKeyL s 0 s.data.toList
theorem Can.readKeyL_miss (s : ByteArray) (k : Nat) (l : List UInt8) (h : Lib.indexByte l 254 = -1) : Can.readKeyL s k l = Can.badKey := by
  induction l generalizing k with
  | nil => rfl
  | cons c r ih =>
    unfold Lib.indexByte at h
    by_cases hc : (c == 254) = true
    · rw [if_pos hc] at h; omega
    · rw [if_neg hc] at h
      have hg := Lib.indexByte_ge r 254
      by_cases hr : (Lib.indexByte r 254 == -1) = true
      · have hc2 : ¬ c = 254 := by simpa using hc
        show (if c = 254 then Can.keyAt s k else Can.readKeyL s (k + 1) r) = _
        rw [if_neg hc2, ih _ (beq_iff_eq.1 hr)]
      · rw [if_neg hr] at h
        have hr2 : Lib.indexByte r 254 ≠ -1 := fun e => hr (beq_iff_eq.2 e)
        omega
theorem Can.readKeyL_hit (s : ByteArray) (k : Nat) (l : List UInt8) (i : Nat) (h : Lib.indexByte l 254 = i) : Can.readKeyL s k l = Can.keyAt s (k + i) := by
  induction l generalizing k i with
  | nil => unfold Lib.indexByte at h; omega
  | cons c r ih =>
    unfold Lib.indexByte at h
    by_cases hc : (c == 254) = true
    · rw [if_pos hc] at h
      obtain rfl : i = 0 := by omega
      have hc2 : c = 254 := by simpa using hc
      show (if c = 254 then Can.keyAt s k else Can.readKeyL s (k + 1) r) = _
      rw [if_pos hc2]; rfl
    · rw [if_neg hc] at h
      have hg := Lib.indexByte_ge r 254
      by_cases hr : (Lib.indexByte r 254 == -1) = true
      · rw [if_pos hr] at h; omega
      · rw [if_neg hr] at h
        have hc2 : ¬ c = 254 := by simpa using hc
        have hr2 : Lib.indexByte r 254 ≠ -1 := fun e => hr (beq_iff_eq.2 e)
        obtain ⟨j, rfl⟩ : ∃ j, i = j + 1 := ⟨i - 1, by omega⟩
        show (if c = 254 then Can.keyAt s k else Can.readKeyL s (k + 1) r) = _
        rw [if_neg hc2, ih _ j (by omega)]
        congr 1; omega
theorem Can.read_err (l : List UInt8) : ((Can.read l).2 = 0 ∨ (Can.read l).2 = 50) := by
  unfold Can.read
  simp only []
  split
  · exact .inr rfl
  · split
    · exact .inl rfl
    · exact .inr rfl

/-- what was made stays while another block is written -/
theorem row_aside {B e k n : Nat} {v : Value} {xs : List Value} {w : World} (h : w.ownsRow B e k v n xs) {a : Addr} (ha : a.block < B) (u : Value) : (w.setCell a u).ownsRow B e k v n xs := by
  obtain ⟨h1, h2⟩ := h
  refine ⟨h1, ?_⟩
  rcases h2 with h2 | ⟨g, cap, cur, hv, hg, hh, r⟩
  · exact .inl h2
  · exact .inr ⟨g, cap, cur, hv, hg, (Below.heap_setCell w a u g (by omega)).trans hh, r⟩
end Go.Proofs.Ytpnpgjjbincigaa
namespace Go.Proofs.Ytpnpgjjbincigaa
open Go.RowKit

def Can.keyB (t : Can.T) : ByteArray := ⟨(Can.key (Lab.bs t.job) t.ls).1.toArray⟩
def Can.keyE (t : Can.T) : Int := (Can.key (Lab.bs t.job) t.ls).2
def Can.TFit (t : Can.T) : Prop := t.ls.length = t.n ∧ t.n ≤ 70 ∧ Lab.Fit 1100 t.ls ∧ t.job.size ≤ 1000000
/-- the first error of keys -/
def Can.err : List Can.T → Int
  | [] => 0
  | t :: r => if Can.keyE t = 0 then Can.err r else Can.keyE t
def Can.keysOf (ts : List Can.T) : List ByteArray := if Can.err ts = 0 then ts.map Can.keyB else []

end Go.Proofs.Ytpnpgjjbincigaa
