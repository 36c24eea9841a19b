/-
  Part of the proof of DiffAppliesUptoCardSaid: what Diff.Changes says, Diff.Apply takes, up to the bulk that the card names.
  A proof for this seat's program alone; the parts of the words that it needs were printed by the kit, and cut to what is used.
-/
import Derived.Test.YtclamgljgnjkbaaGreatDoorKc10
import Derived.Test.YtclamgljgnjkbaaGreatDoorKg1
set_option linter.all false
section
namespace Go.Proofs.YtclamgljgnjkbaaGreatDoor.PD
open Go.RowKit Go.Row Go.Proofs.YtclamgljgnjkbaaGreatDoorW.PrintWords
theorem toList_nil {s : ByteArray} (h : s.toList = []) : s = PD.e0 := toList_inj (by rw [h, Lib.toList_data]; rfl)
theorem ref_one_f (c : S56) (h0 : c.f0.size ≤ 1048576) (h2 : c.f2.size ≤ 1048576) (h4 : c.f4.size ≤ 1048576) (k : Nat) (hk : 1048576 < k) :
    ∃ b, eddyref38_one.f k c.f0 c.f1 c.f2 c.f3 c.f4 = some b ∧ (b = true → GC PathP ValP c) := by
  obtain ⟨b1, hb1, g1⟩ := ref_path_f c.f0 h0 k hk
  obtain ⟨b2, hb2, g2⟩ := ref_value_f c.f2 h2 k hk
  obtain ⟨b3, hb3, g3⟩ := ref_value_f c.f4 h4 k hk
  unfold eddyref38_one.f
  rw [hb1]; simp only [Option.bind_some]
  cases b1 with
  | false => exact ⟨false, by simp, fun h => by cases h⟩
  | true =>
  rw [if_pos rfl, hb2]; simp only [Option.bind_some]
  cases b2 with
  | false => exact ⟨false, by simp, fun h => by cases h⟩
  | true =>
  rw [if_pos rfl, hb3]; simp only [Option.bind_some]
  cases b3 with
  | false => exact ⟨false, by simp, fun h => by cases h⟩
  | true =>
  rw [if_pos rfl]
  cases e1 : c.f1 with
  | true =>
    rw [if_pos rfl]
    cases e3 : c.f3 with
    | true =>
      rw [if_pos rfl]
      refine ⟨_, rfl, fun h => ⟨g1 rfl, g2 rfl, g3 rfl, .inl e1, (fun h => (by rw [e1] at h; cases h)), (fun h => (by rw [e3] at h; cases h)), fun _ _ e => ?_⟩⟩
      rw [e] at h; simp at h
    | false =>
      rw [if_neg (by simp)]
      by_cases hq : c.f4.toList = []
      · rw [if_pos hq]; exact ⟨true, rfl, fun _ => ⟨g1 rfl, g2 rfl, g3 rfl, .inl e1, (fun h => (by rw [e1] at h; cases h)), (fun _ => toList_nil hq), (fun _ h => (by rw [e3] at h; cases h))⟩⟩
      · rw [if_neg hq]; exact ⟨false, rfl, fun h => by cases h⟩
  | false =>
    rw [if_neg (by simp)]
    cases e3 : c.f3 with
    | true =>
      rw [if_pos rfl]
      by_cases hq : c.f2.toList = []
      · rw [if_pos hq]; exact ⟨true, rfl, fun _ => ⟨g1 rfl, g2 rfl, g3 rfl, .inr e3, (fun _ => toList_nil hq), (fun h => (by rw [e3] at h; cases h)), (fun h => (by rw [e1] at h; cases h))⟩⟩
      · rw [if_neg hq]; exact ⟨false, rfl, fun h => by cases h⟩
    | false => exact ⟨false, by simp, fun h => by cases h⟩
theorem ref_Changes_l (l : List S56) (hs : SmC l) (d : Nat) : ∀ (k : Nat) (i : Int), 0 ≤ i → (l.length : Int) - i = d → d + 1048577 < k →
    ∃ b, eddyref38_Changes.l0 k l i = some b ∧ (b = true → ∀ q : Int, i ≤ q → q < l.length → GC PathP ValP (rd_T56 l q) ∧ (0 < q → lt (rd_T56 l (q - 1)).f0 (rd_T56 l q).f0 = true)) := by
  have hlen := hs.1
  induction d with
  | zero =>
    intro k i h0 hd hk
    obtain ⟨k, rfl⟩ : ∃ m, k = m + 1 := ⟨k - 1, by omega⟩
    simp only [eddyref38_Changes.l0]
    rw [if_neg (by omega)]
    exact ⟨true, rfl, fun _ q _ _ => by omega⟩
  | succ d ih =>
    intro k i h0 hd hk
    obtain ⟨k, rfl⟩ : ∃ m, k = m + 1 := ⟨k - 1, by omega⟩
    simp only [eddyref38_Changes.l0]
    rw [if_pos (by omega), if_pos h0]
    have hm : rd_T56 l i ∈ l := by rw [rd56' h0 (by omega)]; exact List.getElem_mem _
    obtain ⟨b1, hb1, h1⟩ := ref_one_f (rd_T56 l i) (hs.2 _ hm).1 (hs.2 _ hm).2.1 (hs.2 _ hm).2.2 k (by omega)
    rw [hb1]; simp only [Option.bind_some]
    cases b1 with
    | false => exact ⟨false, by simp, fun h => by cases h⟩
    | true =>
        rw [if_pos rfl, w1 h0 (by omega)]
        obtain ⟨b, hb, h⟩ := ih k (i + 1) (by omega) (by omega) (by omega)
        by_cases hp : i > 0
        · rw [if_pos hp, w0 hp (by omega), if_pos (by omega), if_pos (by omega)]
          by_cases hl : Op.bytesLess (rd_T56 l (i - 1)).f0.toList (rd_T56 l i).f0.toList = true
          · rw [if_pos hl]
            refine ⟨b, hb, fun e q hq hq' => ?_⟩
            by_cases e' : q = i
            · rw [e']; exact ⟨h1 rfl, fun _ => hl⟩
            · exact h e q (by omega) hq'
          · rw [if_neg hl]; exact ⟨false, rfl, fun h => by cases h⟩
        · rw [if_neg hp]
          refine ⟨b, hb, fun e q hq hq' => ?_⟩
          by_cases e' : q = i
          · rw [e']; exact ⟨h1 rfl, fun h => by omega⟩
          · exact h e q (by omega) hq'
theorem ref_Changes_f (l : List S56) (hs : SmC l) (k : Nat) (hk : 2097160 < k) : ∃ b, eddyref38_Changes.f k l = some b ∧ (b = true → (∀ x ∈ l, GC PathP ValP x) ∧ Up S56.f0 l) := by
  have hlen := hs.1
  obtain ⟨b, hb, h⟩ := ref_Changes_l l hs l.length k 0 (by omega) (by omega) (by omega)
  refine ⟨b, hb, fun e => ⟨fun x hx => ?_, up_of_steps fun i hi => ?_⟩⟩
  · obtain ⟨i, hi, rfl⟩ := List.getElem_of_mem hx
    have := h e (i : Int) (by omega) (by omega)
    rw [rd56' (by omega) (by omega)] at this
    exact this.1
  · have := (h e ((i + 1 : Nat) : Int) (by omega) (by omega)).2 (by omega)
    rw [rd56' (by omega) (by omega), rd56' (by omega) (by omega)] at this
    have e1 : (((i + 1 : Nat) : Int) - 1).toNat = i := by omega
    simpa [e1] using this
theorem trim_f (s : ByteArray) (hp : PlainP s) (hs : s.size ≤ 1048576) (k : Nat) (hk : 0 < k) : strings_Trim.f k s ⟨#[32]⟩ = some s := by
  unfold strings_Trim.f
  rw [if_pos (by rw [Lib.toList_data])]
  by_cases he : s.toList = []
  · rw [if_pos he]
  · rw [if_neg he]
    have hz : 0 < s.size := by
      rcases Nat.eq_zero_or_pos s.size with h | h
      · exfalso; apply he
        rw [Lib.toList_data]
        have : s.data.size = 0 := h
        exact List.eq_nil_of_length_eq_zero (by simpa using this)
      · exact h
    obtain ⟨q1, q2⟩ := hp.2 hz
    obtain ⟨k, rfl⟩ : ∃ m, k = m + 1 := ⟨k - 1, by omega⟩
    unfold strings_trimRightByte.f strings_trimLeftByte.f
    simp only [strings_trimRightByte.l0]
    rw [if_pos (by omega), w0 (by omega) (by omega), if_pos (by omega), if_pos (by omega), if_neg q2]
    simp only [Option.bind_some, strings_trimLeftByte.l0]
    rw [if_pos (by omega), if_pos (by omega), if_neg q1]
theorem diff_plain_l (s : ByteArray) (hp : PlainP s) (hs : s.size ≤ 1048576) (d : Nat) : ∀ (k : Nat) (i : Int), 0 ≤ i → (s.size : Int) - i = d → d + 1 < k → diff_plain.l0 k s s.size i = some true := by
  induction d with
  | zero =>
    intro k i h0 hd hk
    obtain ⟨k, rfl⟩ : ∃ m, k = m + 1 := ⟨k - 1, by omega⟩
    simp only [diff_plain.l0]
    rw [if_neg (by omega), trim_f s hp hs k (by omega)]
    simp
  | succ d ih =>
    intro k i h0 hd hk
    obtain ⟨k, rfl⟩ : ∃ m, k = m + 1 := ⟨k - 1, by omega⟩
    obtain ⟨c1, c2, c3, c4⟩ := hp.1 i h0 (by omega)
    simp only [diff_plain.l0]
    rw [if_pos (by omega), if_pos h0, if_pos (by omega), if_neg c1, if_neg c2, if_neg c3, if_neg c4, w1 h0 (by omega)]
    exact ih k (i + 1) (by omega) (by omega) (by omega)
theorem diff_plain_f (s : ByteArray) (hp : PlainP s) (hs : s.size ≤ 1048576) (k : Nat) (hk : 1048580 < k) : diff_plain.f k s = some true := diff_plain_l s hp hs s.size k 0 (by omega) (by omega) (by omega)
theorem diff_path_f (s : ByteArray) (hp : PathP s) (k : Nat) (hk : 1048580 < k) : diff_path.f k s = some true := by
  have h1 := hp.2.1; have h2 := hp.2.2
  unfold diff_path.f
  rw [diff_plain_f s hp.1 (by omega) k hk]
  simp only [Option.bind_some, if_true]
  rw [if_neg ?_]
  · simp only [Option.some.injEq, decide_eq_true_eq]; omega
  · intro h
    have := toList_nil h
    rw [this] at h1
    exact absurd h1 (by decide)
theorem diff_value_f (s : ByteArray) (hp : ValP s) (k : Nat) (hk : 1048580 < k) : diff_value.f k s = some true := by
  have h2 := hp.2
  unfold diff_value.f
  rw [diff_plain_f s hp.1 (by omega) k hk]
  simp only [Option.bind_some, if_true, Option.some.injEq, decide_eq_true_eq]
  omega
theorem diff_Fit_l (l : List S35) (hl : l.length ≤ 4194304) (hg : ∀ x ∈ l, GL PathP ValP x) (hu : Up S35.f0 l) (d : Nat) : ∀ (k : Nat) (i : Int), 0 ≤ i → (l.length : Int) - i = d → d + 1048582 < k → diff_Fit.l0 k l l l.length i = some true := by
  induction d with
  | zero =>
    intro k i h0 hd hk
    obtain ⟨k, rfl⟩ : ∃ m, k = m + 1 := ⟨k - 1, by omega⟩
    simp only [diff_Fit.l0]
    rw [if_neg (by omega)]
  | succ d ih =>
    intro k i h0 hd hk
    obtain ⟨k, rfl⟩ : ∃ m, k = m + 1 := ⟨k - 1, by omega⟩
    have hm : rd_T35 l i ∈ l := by rw [rd35' h0 (by omega)]; exact List.getElem_mem _
    obtain ⟨g1, g2⟩ := hg _ hm
    simp only [diff_Fit.l0]
    rw [if_pos (by omega), if_pos h0, if_pos (by omega), diff_path_f _ g1 k (by omega)]
    simp only [Option.bind_some, if_true]
    rw [diff_value_f _ g2 k (by omega)]
    simp only [Option.bind_some, if_true]
    rw [w1 h0 (by omega), ih k (i + 1) (by omega) (by omega) (by omega)]
    by_cases hp : i > 0
    · rw [if_pos hp, w0 hp (by omega), if_pos (by omega), if_pos (by omega), if_pos]
      rw [rd35' (by omega) (by omega), rd35' (by omega) (by omega)]
      have e1 : i.toNat = (i - 1).toNat + 1 := by omega
      have := up_steps hu (i - 1).toNat (by omega)
      simp only [e1]
      exact this
    · rw [if_neg hp]
theorem diff_Fit_f (l : List S35) (hl : l.length ≤ 4194304) (hg : ∀ x ∈ l, GL PathP ValP x) (hu : Up S35.f0 l) (k : Nat) (hk : 5242890 < k) : diff_Fit.f k l = some true := diff_Fit_l l hl hg hu l.length k 0 (by omega) (by omega) (by omega)
theorem sameLeaves_l (l : List S35) (hl : l.length ≤ 4194304) (d : Nat) : ∀ (k : Nat) (i : Int), 0 ≤ i → (l.length : Int) - i = d → d < k → eddyref38_SameLeaves.l0 k l l i = some true := by
  induction d with
  | zero =>
    intro k i h0 hd hk
    obtain ⟨k, rfl⟩ : ∃ m, k = m + 1 := ⟨k - 1, by omega⟩
    simp only [eddyref38_SameLeaves.l0]
    rw [if_neg (by omega)]
  | succ d ih =>
    intro k i h0 hd hk
    obtain ⟨k, rfl⟩ : ∃ m, k = m + 1 := ⟨k - 1, by omega⟩
    simp only [eddyref38_SameLeaves.l0]
    rw [if_pos (by omega), if_pos h0, if_pos (by omega), if_neg (by simp), w1 h0 (by omega)]
    exact ih k (i + 1) (by omega) (by omega) (by omega)
theorem sameLeaves_f (l : List S35) (hl : l.length ≤ 4194304) (k : Nat) (hk : 4194304 < k) : eddyref38_SameLeaves.f k l l = some true := by
  unfold eddyref38_SameLeaves.f
  rw [if_pos rfl]
  exact sameLeaves_l l hl l.length k 0 (by omega) (by omega) (by omega)
end Go.Proofs.YtclamgljgnjkbaaGreatDoor.PD
end
