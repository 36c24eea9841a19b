/-
  Part of the proof of DiffAppliesUptoCardSaid: what Diff.Changes says, Diff.Apply takes, up to the bulk that the card names.
  A proof for this seat's program alone; the parts of the words that it needs were printed by the kit, and cut to what is used.
-/
import Derived.Test.YtclamgljgnjkbaaGreatDoorKg3
import Derived.Test.YtclamgljgnjkbaaGreatDoorKq
set_option linter.all false
section
namespace Go.Proofs.YtclamgljgnjkbaaGreatDoor.PD
open Go.RowKit Go.Row Go.Proofs.YtclamgljgnjkbaaGreatDoorW.PrintWords
theorem apply_len (l : List S35) (c : List S56) : (apply l c).1.length ≤ l.length + c.length := by
  by_cases h : (apply l c).2 = 0
  · rw [apply_ok h]
    exact Nat.le_trans (List.length_filterMap_le _ _) (mg_length l c)
  · rw [apply_not h]; omega
theorem leaves_f (l : List S35) (hl : l.length ≤ 4194304) : eddylaw38_leaves.f l = some l := by
  unfold eddylaw38_leaves.f
  rw [if_pos (by simp; omega)]; simp
theorem spoilt_l (l : List S35) (hl : l.length ≤ 1048576) (d : Nat) : ∀ (k : Nat) (i : Int) (xs : List S35), 0 ≤ i → xs.length ≤ 2097152 → (xs.length : Int) - i = d → 4194305 + d < k → eddylaw38_DiffApplies.l0 k l l xs i = some true := by
  induction d with
  | zero =>
    intro k i xs h0 hx hd hk
    obtain ⟨k, rfl⟩ : ∃ m, k = m + 1 := ⟨k - 1, by omega⟩
    simp only [eddylaw38_DiffApplies.l0]
    rw [if_neg (by omega), sameLeaves_f l (by omega) k (by omega)]
    rfl
  | succ d ih =>
    intro k i xs h0 hx hd hk
    obtain ⟨k, rfl⟩ : ∃ m, k = m + 1 := ⟨k - 1, by omega⟩
    simp only [eddylaw38_DiffApplies.l0]
    rw [if_pos (by omega), if_pos h0, w1 h0 (by omega)]
    exact ih k (i + 1) _ (by omega) (by simpa using hx) (by rw [List.length_set]; omega) (by omega)
theorem DiffApplies_f (l : List S35) (c : List S56) (hl : SmL l) (hc : SmC c) (k : Nat) (hk : 30000000 ≤ k) : eddylaw38_DiffApplies.f k l c = some true := by
  have hl1 := hl.1
  have hc1 := hc.1
  have hj : ∀ k, 0 < k → eddylaw38_DiffApplies.j0 k l c true = some true := by
    intro k hk
    obtain ⟨k, rfl⟩ : ∃ m, k = m + 1 := ⟨k - 1, by omega⟩
    simp only [eddylaw38_DiffApplies.j0, if_true]
    rfl
  unfold eddylaw38_DiffApplies.f
  obtain ⟨b, hb, h⟩ := ref_Fit_f l hl k (by omega)
  rw [hb]; simp only [Option.bind_some]
  cases b with
  | false => rw [if_neg nft]; exact hj k (by omega)
  | true =>
  rw [if_pos rfl]
  obtain ⟨b2, hb2, h2⟩ := ref_Changes_f c hc k (by omega)
  rw [hb2]; simp only [Option.bind_some]
  cases b2 with
  | false => exact hj k (by omega)
  | true =>
  obtain ⟨gl, ul⟩ := h rfl
  obtain ⟨gc, uc⟩ := h2 rfl
  have hal := apply_len l c
  obtain ⟨k, rfl⟩ : ∃ m, k = m + 1 := ⟨k - 1, by omega⟩
  simp only [eddylaw38_DiffApplies.j0, Bool.not_true, Bool.false_eq_true, if_false]
  rw [leaves_f l (by omega)]
  simp only [Option.bind_some]
  have ha : diff_Apply.f l c = some (apply l c) := by unfold diff_Apply.f; rw [if_pos (by omega)]
  rw [ha, ref_Apply_f l c hl1 hc1 k (by omega)]
  simp only [Option.bind_some]
  rw [sameLeaves_f _ (by omega) k (by omega)]
  simp only [Option.bind_some, if_true]
  rw [diff_Fit_f _ (by omega) (apply_good gl gc) (apply_up ul uc) k (by omega)]
  simp only [Option.bind_some, Bool.not_true]
  obtain ⟨k, rfl⟩ : ∃ m, k = m + 1 := ⟨k - 1, by omega⟩
  simp only [eddylaw38_DiffApplies.j1, Bool.false_eq_true, if_false]
  exact spoilt_l l hl1 (apply l c).1.length k 0 _ (by omega) (by omega) (by omega) (by omega)
end Go.Proofs.YtclamgljgnjkbaaGreatDoor.PD
end
