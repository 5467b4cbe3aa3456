/- Contract of the reader: value. (Printed by gen_val.py.) -/
import Derived.Test.YtmmijebekipdeaaDoorJsE
import Derived.Test.YtmmijebekipdeaaDoorJsN
namespace Go.Proofs.YtmmijebekipdeaaDoor
open Go.RowKit
set_option maxRecDepth 100000

theorem Js.num_ok (s : ByteArray) (k : Nat) (hk : k ≤ s.size) : k ≤ (Js.num s k).1 ∧ (Js.num s k).1 ≤ s.size := by
  have hx : ∀ a, a ≤ s.size → a ≤ (Js.numX s a).1 ∧ (Js.numX s a).1 ≤ s.size := fun a ha => by
    unfold Js.numX
    split
    case isTrue h =>
      have hlt : a < s.size := Nat.lt_of_not_le fun hh => by have := Js.nx_end s _ hh; omega
      dsimp only
      split
      case isTrue h2 =>
        have hlt2 : a + 1 < s.size := Nat.lt_of_not_le fun hh => by have := Js.nx_end s _ hh; omega
        have := Js.dg_ge s (a + 2); have := Js.dg_le s (a + 2) (by omega); omega
      · have := Js.dg_ge s (a + 1); have := Js.dg_le s (a + 1) (by omega); omega
    · exact ⟨Nat.le_refl _, ha⟩
  have hf : ∀ a, a ≤ s.size → a ≤ (Js.numF s a).1 ∧ (Js.numF s a).1 ≤ s.size := fun a ha => by
    unfold Js.numF
    split
    case isTrue h =>
      have hlt : a < s.size := Nat.lt_of_not_le fun hh => by have := Js.nx_end s _ hh; omega
      split
      · exact ⟨by show a ≤ a + 1; omega, hlt⟩
      · have h1 := Js.dg_ge s (a + 1); have h2 := Js.dg_le s (a + 1) hlt; have := hx (Js.dg s (a + 1)) h2; omega
    · exact hx a ha
  unfold Js.num
  obtain ⟨a, ha⟩ : ∃ a, a = (if Js.nx s k = 45 then k + 1 else k) := ⟨_, rfl⟩
  have hb : k ≤ a ∧ a ≤ s.size := by
    rw [ha]; split
    case isTrue h => exact ⟨by omega, Nat.lt_of_not_le fun hh => by rw [Js.nx_end s k hh] at h; omega⟩
    · exact ⟨by omega, hk⟩
  dsimp only
  rw [← ha]
  split
  case isTrue h =>
    have hlt : a < s.size := Nat.lt_of_not_le fun hh => by have := Js.nx_end s _ hh; omega
    have := hf (a + 1) hlt; omega
  · split
    · exact ⟨hb.1, hb.2⟩
    · have h1 := Js.dg_ge s a; have h2 := Js.dg_le s a hb.2; have := hf (Js.dg s a) h2; omega
theorem Js.wd_ok (s : ByteArray) : ∀ l k j, k ≤ s.size → (∀ c ∈ l, c ≠ 0) → Js.wd s l k = .ok j → k ≤ j ∧ j ≤ s.size
  | [], k, j, hk, _, h => by rw [Js.wd] at h; cases h; omega
  | c :: l, k, j, hk, hl, h => by
    rw [Js.wd] at h
    split at h
    case isTrue hc =>
      have hlt : k < s.size := Nat.lt_of_not_le fun hh => by have := Js.nx_end s _ hh; have := hl c List.mem_cons_self; omega
      have := Js.wd_ok s l (k + 1) j hlt (fun c hc => hl c (List.mem_cons_of_mem _ hc)) h
      omega
    · cases h
theorem Js.tail_ok (s : ByteArray) (obj : Bool) (more : Nat → Nat → List ByteArray → List Js.V → Js.R (Js.V × Nat × Nat)) (hm : ∀ k b ns xs x j b2, k ≤ s.size → b ≤ 4096 → more k b ns xs = .ok (x, j, b2) → k ≤ j ∧ j ≤ s.size ∧ b2 ≤ 4096)
    (ns : List ByteArray) (xs : List Js.V) (E : Js.R (Js.V × Nat × Nat)) (k : Nat) (hE : ∀ x j b2, E = .ok (x, j, b2) → k ≤ j ∧ j ≤ s.size ∧ b2 ≤ 4096) (x : Js.V) (j b2 : Nat) (h : Js.tail s obj more ns xs E = .ok (x, j, b2)) : k ≤ j ∧ j ≤ s.size ∧ b2 ≤ 4096 := by
  cases E with
  | error e => cases h
  | ok y =>
    obtain ⟨v, q, b⟩ := y
    obtain ⟨h1, h2, h3⟩ := hE v q b rfl
    have g1 := Js.sp_ge s q
    have g2 := Js.sp_le s q h2
    have hn : Js.nx s (Js.sp s q) ≠ 0 → Js.sp s q < s.size := fun h => Nat.lt_of_not_le fun hh => h (Js.nx_end s _ hh)
    unfold Js.tail at h
    dsimp only at h
    split at h
    case isTrue hc =>
      cases h
      have := hn (by rw [hc]; cases obj <;> decide)
      omega
    · split at h
      case isTrue hc =>
        have := hn (by omega)
        have := hm _ _ _ _ _ _ _ (by omega) h3 h
        omega
      · cases h
theorem Js.lsF_ok (s : ByteArray) (obj : Bool) (val : Nat → Nat → Js.R (Js.V × Nat × Nat)) (hv : ∀ k b x j b2, k ≤ s.size → b ≤ 4096 → val k b = .ok (x, j, b2) → k ≤ j ∧ j ≤ s.size ∧ b2 ≤ 4096) :
    ∀ f k b ns xs x j b2, k ≤ s.size → b ≤ 4096 → Js.lsF s obj val f k b ns xs = .ok (x, j, b2) → k ≤ j ∧ j ≤ s.size ∧ b2 ≤ 4096
  | 0, k, b, ns, xs, x, j, b2, _, _, h => by rw [Js.lsF] at h; cases h
  | f + 1, k, b, ns, xs, x, j, b2, hk, hb, h => by
    have hm := Js.lsF_ok s obj val hv f
    cases obj with
    | false =>
      have h' : Js.tail s false (Js.lsF s false val f) ns xs (val k b) = .ok (x, j, b2) := by
        rw [Js.lsF] at h
        cases hE : val k b with
        | error e => simp only [Bool.false_eq_true, if_false, hE] at h; cases h
        | ok y => simp only [Bool.false_eq_true, if_false, hE] at h; exact h
      exact Js.tail_ok s false _ hm ns xs _ k (fun x j b2 hE => hv k b x j b2 hk hb hE) x j b2 h'
    | true =>
      rw [Js.lsF_obj] at h
      have g1 := Js.sp_ge s k
      have g2 := Js.sp_le s k hk
      split at h
      case isFalse => cases h
      case isTrue h34 =>
        cases hT : Js.tx s (Js.sp s k) with
        | error e => rw [hT] at h; cases h
        | ok tc =>
          obtain ⟨t, c⟩ := tc
          rw [hT] at h
          dsimp only at h
          have h1 := Js.tx_ok s _ t c hT
          have g3 := Js.sp_ge s c
          have g4 := Js.sp_le s c h1.2
          split at h
          · cases h
          · split at h
            case isFalse => cases h
            case isTrue h58 =>
              have hlt : Js.sp s c < s.size := Nat.lt_of_not_le fun hh => by have := Js.nx_end s _ hh; omega
              have := Js.tail_ok s true _ hm _ xs _ (Js.sp s c + 1) (fun x j b2 hE => hv _ b x j b2 hlt hb hE) x j b2 h
              omega
theorem Js.val_ok_step (s : ByteArray) (d : Nat) (ih : ∀ d', d = d' + 1 → Js.ValOk s d') : Js.ValOk s d := by
  intro k b x j b2 hk hb h
  have g1 := Js.sp_ge s k
  have g2 := Js.sp_le s k hk
  have hn : Js.nx s (Js.sp s k) ≠ 0 → Js.sp s k < s.size := fun h => Nat.lt_of_not_le fun hh => h (Js.nx_end s _ hh)
  rw [Js.val.eq_def] at h
  dsimp only at h
  obtain ⟨a, ha⟩ : ∃ a, Js.sp s k = a := ⟨_, rfl⟩
  rw [ha] at h g1 g2 hn
  split at h
  case isTrue => cases h
  case isFalse hbg =>
  split at h
  case isTrue => cases h
  case isFalse hb4 =>
  have hlt : a < s.size := hn (fun e => by rw [e] at hbg; exact hbg rfl)
  split at h
  case isTrue hbr =>
    cases d with
    | zero => cases h
    | succ d =>
      dsimp only at h
      have hv := ih d rfl
      unfold Js.ls at h
      dsimp only at h
      have g3 := Js.sp_ge s (a + 1)
      have g4 := Js.sp_le s (a + 1) hlt
      split at h
      case isTrue he =>
        cases h
        have : Js.sp s (a + 1) < s.size := Nat.lt_of_not_le fun hh => by
          rw [Js.nx_end s _ hh] at he
          revert he
          unfold Js.ends
          split <;> intro he <;> cases he
        omega
      · have := Js.lsF_ok s _ (Js.val s d) hv _ _ _ _ _ x j b2 g4 (by omega) h
        omega
  · split at h
    case isTrue =>
      cases hT : Js.tx s a with
      | error e => rw [hT] at h; cases h
      | ok tc =>
        obtain ⟨t, c⟩ := tc
        rw [hT] at h
        cases h
        have := Js.tx_ok s _ t _ hT
        omega
    · have word : ∀ (l : List Nat) (v : Js.V), (∀ c ∈ l, c ≠ 0) → Except.map (fun j => (v, j, b + 1)) (Js.wd s l a) = .ok (x, j, b2) → k ≤ j ∧ j ≤ s.size ∧ b2 ≤ 4096 := fun l v hl h => by
        cases hW : Js.wd s l a with
        | error e => rw [hW] at h; cases h
        | ok q =>
          rw [hW] at h
          cases h
          have := Js.wd_ok s l a _ g2 hl hW
          omega
      split at h
      · exact word _ _ (by decide) h
      · split at h
        · exact word _ _ (by decide) h
        · split at h
          · exact word _ _ (by decide) h
          · split at h
            · cases h
              have := Js.num_ok s a g2
              omega
            · cases h
theorem Js.val_ok (s : ByteArray) : ∀ d, Js.ValOk s d := by
  intro d
  induction d with
  | zero =>
    intro k b x j b2 hk hb h
    exact Js.val_ok_step s 0 (fun o h => by cases h) k b x j b2 hk hb h
  | succ d ih =>
    intro k b x j b2 hk hb h
    exact Js.val_ok_step s (d + 1) (fun d' h => by cases h; exact ih) k b x j b2 hk hb h

end Go.Proofs.YtmmijebekipdeaaDoor
