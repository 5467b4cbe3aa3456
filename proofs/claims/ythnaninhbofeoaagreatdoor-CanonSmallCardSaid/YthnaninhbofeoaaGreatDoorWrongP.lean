/- Plain laws: what is the bytes of no labels; the first wrong target of a list. Contracts of canon.First and canon.Sort, of targets of which one is wrong. -/
import Derived.Test.YthnaninhbofeoaaGreatDoorKeyK
import Derived.Test.YthnaninhbofeoaaGreatDoorOneP
namespace Go.Proofs.YthnaninhbofeoaaGreatDoor

theorem Can.split_tail (ls : List Lab.L) (t : List UInt8) (h : ∀ x ∈ ls, Lab.Calm x) : Can.split [] (Can.raw ls ++ t) = Can.parts ls ++ Can.split [] t := by
  induction ls with
  | nil => rfl
  | cons x r ih =>
    have hx := h x List.mem_cons_self
    rw [Can.raw_cons, List.append_assoc, List.cons_append, List.append_assoc, List.cons_append, Can.split_plain _ (fun c hc => Can.ne255 (hx.1 c hc)), Can.split_plain _ (fun c hc => Can.ne255 (hx.2 c hc)), ih fun y hy => h y (List.mem_cons_of_mem _ hy)]
    simp [Can.parts]
theorem Can.pairs_tail (ls : List Lab.L) (e : List (List UInt8)) : Can.pairs (Can.parts ls ++ e) = ls ++ Can.pairs e := by
  induction ls with
  | nil => rfl
  | cons x r ih =>
    have : Can.parts (x :: r) ++ e = Lab.bs x.n :: Lab.bs x.v :: (Can.parts r ++ e) := by simp [Can.parts]
    rw [this]
    show (⟨Can.mk (Lab.bs x.n), Can.mk (Lab.bs x.v)⟩ : Lab.L) :: Can.pairs (Can.parts r ++ e) = _
    rw [Can.mk_bs, Can.mk_bs, ih]
    rfl
theorem Lab.chk_full (ls : List Lab.L) : ∀ (k : Nat) (p : Option Lab.L), (Lab.chk k p ls).2 = 0 → ∀ x ∈ ls, Lab.bs x.v ≠ [] := by
  induction ls with
  | nil => intro k p _ x hx; simp at hx
  | cons y r ih =>
    intro k p h x hx
    unfold Lab.chk at h
    split at h
    · rename_i h1
      rw [List.mem_cons] at hx
      rcases hx with rfl | hx
      · intro hv
        have h2 := Lab.oneAt_one _ _ h1
        unfold Lab.oneAt at h1
        rw [if_pos h2, if_pos hv] at h1
        exact absurd h1 (by decide)
      · exact ih _ _ h x hx
    · rename_i h1
      exact absurd h h1
theorem Lab.right_full (ls : List Lab.L) (h : Lab.right ls = true) : ∀ x ∈ ls, Lab.bs x.v ≠ [] := by
  unfold Lab.right Lab.check at h
  split at h
  · simp at h
  · exact Lab.chk_full ls _ _ (by simpa using h)
/-- the seven strings -/
def Can.odd (b : List UInt8) : List (List UInt8) := [b ++ [255], b ++ [122, 122, 255], b ++ [122, 122, 255, 255], 255 :: b, b ++ [122, 122], b ++ [122, 122, 255, 49], b ++ [97, 45, 98, 255, 49, 255]]
theorem Can.read_even (l : List UInt8) (h : (Can.split [] l).length % 2 = 0) : Can.read l = ([], 50) := by
  unfold Can.read
  simp only []
  rw [if_pos (.inl h)]
theorem Can.read_last (l : List UInt8) (h : (Can.split [] l).getLast? ≠ some []) : Can.read l = ([], 50) := by
  unfold Can.read
  simp only []
  rw [if_pos (.inr (.inl h))]
theorem Can.read_wrong (l : List UInt8) (h : Lab.right (Can.pairs (Can.split [] l)) = false) : Can.read l = ([], 50) := by
  unfold Can.read
  simp only []
  split
  · rfl
  · rw [if_neg (by rw [h]; simp)]
theorem Can.odd_read (ls : List Lab.L) (h : Lab.right ls = true) : ∀ s ∈ Can.odd (Can.raw ls), Can.read s = ([], 50) := by
  have hc := Lab.right_calm ls h
  have hp := Can.parts_length ls
  have hs := fun t => Can.split_tail ls t hc
  have h0 : Can.split [] (255 :: Can.raw ls) = [] :: (Can.parts ls ++ [[]]) := by
    show (if (255 : UInt8) = 255 then [] :: Can.split [] (Can.raw ls) else _) = _
    rw [if_pos rfl, Can.split_raw ls hc]
  intro s hm
  unfold Can.odd at hm
  simp only [List.mem_cons, List.not_mem_nil, or_false] at hm
  rcases hm with rfl | rfl | rfl | rfl | rfl | rfl | rfl
  · refine Can.read_even _ ?_
    rw [hs, List.length_append, hp]
    show (ls.length * 2 + 2) % 2 = 0
    omega
  · refine Can.read_even _ ?_
    rw [hs, List.length_append, hp]
    show (ls.length * 2 + 2) % 2 = 0
    omega
  · refine Can.read_wrong _ ?_
    rw [hs, Can.pairs_tail]
    rcases hq : Lab.right (ls ++ Can.pairs (Can.split [] [122, 122, 255, 255])) with _ | _
    · rfl
    · have := Lab.right_full _ hq ⟨Can.mk [122, 122], Can.mk []⟩ (List.mem_append_right _ (by
        have : Can.pairs (Can.split [] [122, 122, 255, 255]) = [⟨Can.mk [122, 122], Can.mk []⟩] := rfl
        rw [this]; exact List.mem_singleton.2 rfl))
      exact absurd rfl this
  · refine Can.read_even _ ?_
    rw [h0, List.length_cons, List.length_append, hp]
    simp only [List.length_cons, List.length_nil]
    omega
  · refine Can.read_last _ ?_
    rw [hs]
    have : Can.split [] [122, 122] = [[122, 122]] := rfl
    rw [this]
    simp
  · refine Can.read_even _ ?_
    rw [hs, List.length_append, hp]
    show (ls.length * 2 + 2) % 2 = 0
    omega
  · refine Can.read_wrong _ ?_
    rw [hs, Can.pairs_tail]
    rcases hq : Lab.right (ls ++ Can.pairs (Can.split [] [97, 45, 98, 255, 49, 255])) with _ | _
    · rfl
    · have h1 := (Lab.right_parts _ hq).2 ⟨Can.mk [97, 45, 98], Can.mk [49]⟩ (List.mem_append_right _ (by
        have : Can.pairs (Can.split [] [97, 45, 98, 255, 49, 255]) = [⟨Can.mk [97, 45, 98], Can.mk [49]⟩] := rfl
        rw [this]; exact List.mem_singleton.2 rfl))
      exact absurd h1 (by decide)
theorem Can.odd_key (s u : ByteArray) (hu : Lab.bs u = 97 :: 254 :: Lab.bs s) (h : Can.read (Lab.bs s) = ([], 50)) : Can.readKey u = Can.badKey := by
  unfold Can.readKey
  have hu2 : u.data.toList = [97] ++ 254 :: Lab.bs s := hu
  rw [hu2, Can.readKeyL_first u _ [97] 0 (by decide)]
  unfold Can.keyAt
  rw [hu2]
  have e2 : ([97] ++ 254 :: Lab.bs s).drop (0 + [(97 : UInt8)].length + 1) = Lab.bs s := rfl
  rw [e2, h, if_neg (by simp)]
theorem Can.keyE_right (t : Can.T) (hj : Can.job (Lab.bs t.job) = true) (h : Lab.right t.ls = true) : Can.keyE t = 0 := by
  unfold Can.keyE
  rw [Can.key_right _ _ hj h]
theorem Can.keyE_job (t : Can.T) (hj : Can.job (Lab.bs t.job) = false) : Can.keyE t = 51 := by
  unfold Can.keyE Can.key
  rw [hj, if_neg (by simp)]
theorem Can.keyE_labels (t : Can.T) (hj : Can.job (Lab.bs t.job) = true) (h : Lab.right t.ls = false) : Can.keyE t = 44 := by
  unfold Can.keyE Can.key Can.bytes
  rw [if_pos hj, h, if_neg (by simp), if_neg (by decide)]
theorem Can.err_mid (t : Can.T) (r : List Can.T) (e : Int) (ht : Can.keyE t = e) (he : e ≠ 0) : ∀ a : List Can.T, (∀ x ∈ a, Can.keyE x = 0) → Can.err (a ++ t :: r) = e
  | [], _ => by
    show (if Can.keyE t = 0 then _ else Can.keyE t) = _
    rw [ht, if_neg he]
  | x :: a, h => by
    show (if Can.keyE x = 0 then Can.err (a ++ t :: r) else _) = _
    rw [if_pos (h x List.mem_cons_self)]
    exact Can.err_mid t r e ht he a fun y hy => h y (List.mem_cons_of_mem _ hy)
open Go.RowKit
set_option maxHeartbeats 800000 in
theorem first_err (b o c : Nat) (ts : List Can.T) (er : Int) (n : Nat) (w : World) (hb0 : b < w.heap.size) (hn : ts.length = n) (hT : Can.TAt b o ts w) (hF : ∀ t ∈ ts, Can.TFit t) (he : Can.err ts = er) (h0 : er ≠ 0) (hl : n ≤ 1000) :
    Calls Tryz.prog 23 #[.slice (some ⟨b, o, none⟩) n c] w fun e w' => e = .returned (.tuple #[.slice none 0 0, .int .i64 er]) ∧ Below w.heap.size w w' := by
  have HK := Lib.hid (ckeys_is b o c ts _ er n w hb0 hn hT hF he rfl hl)
  have q1 : (er != 0) = true := by simpa using h0
  clear hn hT hF he hl
  go_enter Tryz.func23, Tryz.ntmps23
  go_wp2_with (go_at_call 33; refine HK.out.mono ?_)
  first | rintro e w1 v rfl hv hb1 | rintro e w1 ⟨⟨v, rfl, hv⟩, hb1⟩
  clear hv HK
  go_wp2_with fail
  go_ret2
  exact ⟨rfl, hb1⟩
set_option maxHeartbeats 800000 in
theorem sort_err (b o c : Nat) (ts : List Can.T) (er : Int) (n : Nat) (w : World) (hb0 : b < w.heap.size) (hn : ts.length = n) (hT : Can.TAt b o ts w) (hF : ∀ t ∈ ts, Can.TFit t) (he : Can.err ts = er) (h0 : er ≠ 0) (hl : n ≤ 1000) :
    Calls Tryz.prog 10 #[.slice (some ⟨b, o, none⟩) n c] w fun e w' => e = .returned (.tuple #[.slice none 0 0, .int .i64 er]) ∧ Below w.heap.size w w' := by
  have HK := Lib.hid (ckeys_is b o c ts _ er n w hb0 hn hT hF he rfl hl)
  have q1 : (er != 0) = true := by simpa using h0
  clear hn hT hF he hl
  go_enter Tryz.func10, Tryz.ntmps10
  go_wp2_with (go_at_call 33; refine HK.out.mono ?_)
  first | rintro e w1 v rfl hv hb1 | rintro e w1 ⟨⟨v, rfl, hv⟩, hb1⟩
  have hs1 := hb1.size
  clear HK
  rcases hv.open with ⟨rfl, _⟩ | ⟨g, cc, rfl, _, _, _, _⟩
  all_goals
    clear hv
    go_wp2_with fail
    go_ret2
    exact ⟨rfl, hb1.alloc hs1 _⟩
end Go.Proofs.YthnaninhbofeoaaGreatDoor
