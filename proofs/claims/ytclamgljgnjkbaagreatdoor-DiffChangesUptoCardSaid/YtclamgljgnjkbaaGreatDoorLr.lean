/-
  Part of the proof of DiffChangesUptoCardSaid: what Diff.Between says of two rows of leaves, Back turns and Apply takes, up to the bulk that the card names.
  A proof for this seat's program alone; the parts of the words that it needs were printed by the kit, and cut to what is used.
-/
import Derived.Test.YtclamgljgnjkbaaGreatDoorLg1
import Derived.Test.YtclamgljgnjkbaaGreatDoorLq
set_option linter.all false
section
namespace Go.Proofs.YtclamgljgnjkbaaGreatDoor.PD
open Go.RowKit Go.Row Go.Proofs.YtclamgljgnjkbaaGreatDoorW.PrintWords
theorem between_len (a b : List S35) : (between a b).length ≤ a.length + b.length := Nat.le_trans (List.length_filterMap_le _ _) (mg_length a b)
theorem ref_Between_l (a b : List S35) (ha : a.length ≤ 1048576) (hb : b.length ≤ 1048576) (d : Nat) : ∀ (i j k : Nat) (out : List S56), i ≤ a.length → j ≤ b.length → (a.length - i) + (b.length - j) = d → out.length + d ≤ 2097152 → 4 * (d + 1) ≤ k →
  qrBetween.l0 k a b out i j = some (out ++ (mg S35.f0 S35.f0 (a.drop i) (b.drop j)).filterMap btw) := by
 induction d using Nat.strongRecOn with
 | _ d ih =>
 intro i j k out hi hj hd ho hk
 obtain ⟨k, rfl⟩ : ∃ m, k = m + 4 := ⟨k - 4, by omega⟩
 have left : ∀ (h : i < a.length), qrBetween.j2 (k + 2) a b out i j true = some (out ++ (⟨a[i].f0, true, a[i].f1, false, e0⟩ : S56) :: (mg S35.f0 S35.f0 (a.drop (i + 1)) (b.drop j)).filterMap btw) := by
  intro h
  simp only [qrBetween.j2]
  rw [if_pos trivial, if_pos (by omega), if_pos (by omega), if_pos (by omega), rd35n h, w1n (by omega)]
  rw [ih (d - 1) (by omega) (i + 1) j (k + 1) _ (by omega) (by omega) (by omega) (by simp; omega) (by omega)]
  simp [e0]
 have right : ∀ (h : j < b.length), qrBetween.j3 (k + 1) a b out i j true = some (out ++ (⟨b[j].f0, false, e0, true, b[j].f1⟩ : S56) :: (mg S35.f0 S35.f0 (a.drop i) (b.drop (j + 1))).filterMap btw) := by
  intro h
  simp only [qrBetween.j3]
  rw [if_pos trivial, if_pos (by omega), if_pos (by omega), if_pos (by omega), rd35n h, w1n (by omega)]
  rw [ih (d - 1) (by omega) i (j + 1) k _ (by omega) (by omega) (by omega) (by simp; omega) (by omega)]
  simp [e0]
 have main : i < a.length ∨ j < b.length → qrBetween.j1 (k + 3) a b out i j true = some (out ++ (mg S35.f0 S35.f0 (a.drop i) (b.drop j)).filterMap btw) := by
  intro hij
  simp only [qrBetween.j1]
  rw [if_pos trivial]
  by_cases hjl : j < b.length
  ·rw [if_neg (by omega)]
   by_cases hil : i < a.length
   ·rw [if_pos (by omega), if_pos (by omega), if_pos (by omega), if_pos (by omega), rd35n hil, rd35n hjl]
    rw [List.drop_eq_getElem_cons hil, List.drop_eq_getElem_cons hjl]
    cases h1 : lt a[i].f0 b[j].f0 with
    | true =>
     rw [show Op.bytesLess a[i].f0.toList b[j].f0.toList = true from h1, left hil, mg_lt _ _ h1, List.drop_eq_getElem_cons hjl]
     simp [btw]
    | false =>
     rw [show Op.bytesLess a[i].f0.toList b[j].f0.toList = false from h1]
     simp only [qrBetween.j2]
     rw [if_neg nft, if_neg (by omega), if_pos (by omega), if_pos (by omega), if_pos (by omega), if_pos (by omega), rd35n hil, rd35n hjl]
     cases h2 : lt b[j].f0 a[i].f0 with
     | true =>
      rw [show Op.bytesLess b[j].f0.toList a[i].f0.toList = true from h2, right hjl, mg_gt _ _ h1 h2, List.drop_eq_getElem_cons hil]
      simp [btw]
     | false =>
      rw [show Op.bytesLess b[j].f0.toList a[i].f0.toList = false from h2, mg_eq _ _ h1 h2]
      simp only [qrBetween.j3]
      rw [if_neg nft, if_pos (by omega), if_pos (by omega), if_pos (by omega), if_pos (by omega), rd35n hil, rd35n hjl, w1n (by omega), w1n (by omega)]
      by_cases hv : a[i].f1.toList = b[j].f1.toList
      ·have hv' := toList_inj hv
       rw [if_pos hv, ih (d - 2) (by omega) (i + 1) (j + 1) k _ (by omega) (by omega) (by omega) (by omega) (by omega)]
       simp [btw, hv']
      ·have hv' : ¬ a[i].f1 = b[j].f1 := fun h => hv (by rw [h])
       rw [if_neg hv, if_pos (by omega), ih (d - 2) (by omega) (i + 1) (j + 1) k _ (by omega) (by omega) (by omega) (by simp; omega) (by omega)]
       simp [btw, hv']
   ·rw [if_neg (by omega)]
    simp only [qrBetween.j2]
    rw [if_neg nft, if_pos (by omega), right hjl, List.drop_eq_nil_of_le (show a.length ≤ i by omega), List.drop_eq_getElem_cons hjl, mg_right]
    simp [btw]
  ·have hil : i < a.length := by omega
   rw [if_pos (by omega), left hil, List.drop_eq_nil_of_le (show b.length ≤ j by omega), List.drop_eq_getElem_cons hil, mg_left]
   simp [btw]
 simp only [qrBetween.l0]
 by_cases hil : i < a.length
 ·rw [if_pos (by omega)]
  exact main (.inl hil)
 ·rw [if_neg (by omega)]
  by_cases hjl : j < b.length
  ·rw [decide_eq_true (by omega)]
   exact main (.inr hjl)
  ·rw [decide_eq_false (by omega)]
   simp only [qrBetween.j1]
   rw [if_neg nft, List.drop_eq_nil_of_le (show a.length ≤ i by omega), List.drop_eq_nil_of_le (show b.length ≤ j by omega), mg_nil]
   simp
theorem ref_Between_f (a b : List S35) (ha : a.length ≤ 1048576) (hb : b.length ≤ 1048576) (k : Nat) (hk : 8388612 ≤ k) : qrBetween.f k a b = some (between a b) := by
 unfold qrBetween.f
 have := ref_Between_l a b ha hb (a.length + b.length) 0 0 k [] (by omega) (by omega) (by omega) (by simp; omega) (by omega)
 simpa [between] using this
theorem diff_Back_l (c : List S56) (hl : c.length ≤ 4194304) (d : Nat) : ∀ (k i : Nat) (out : List S56), i ≤ c.length → c.length - i = d → out.length + d ≤ 4194304 → d < k →
  diff_Back.l0 k out c c.length i = some (out ++ back (c.drop i)) := by
 induction d with
 | zero =>
  intro k i out h0 hd ho hk
  obtain ⟨k, rfl⟩ : ∃ m, k = m + 1 := ⟨k - 1, by omega⟩
  simp only [diff_Back.l0]
  rw [if_neg (by omega), List.drop_eq_nil_of_le (by omega)]
  simp [back]
 | succ d ih =>
  intro k i out h0 hd ho hk
  obtain ⟨k, rfl⟩ : ∃ m, k = m + 1 := ⟨k - 1, by omega⟩
  have hi : i < c.length := by omega
  simp only [diff_Back.l0]
  rw [if_pos (by omega), if_pos (by omega), if_pos (by omega), if_pos (by omega), rd56n hi, w1n (by omega), ih k (i + 1) _ (by omega) (by omega) (by simp; omega) (by omega)]
  rw [List.drop_eq_getElem_cons hi, show back (c[i] :: c.drop (i + 1)) = back1 c[i] :: back (c.drop (i + 1)) from rfl]
  simp [back1]
theorem diff_Back_f (c : List S56) (hl : c.length ≤ 4194304) (k : Nat) (hk : 4194304 < k) : diff_Back.f k c = some (back c) := by
 unfold diff_Back.f
 have := diff_Back_l c hl c.length k 0 [] (by omega) (by omega) (by simp; omega) (by omega)
 simpa using this
theorem ref_Back_l (c : List S56) (hl : c.length ≤ 4194304) (d : Nat) : ∀ (k i : Nat) (out : List S56), i ≤ c.length → c.length - i = d → out.length + d ≤ 4194304 → d < k →
  qrBack.l0 k c out i = some (out ++ back (c.drop i)) := by
 induction d with
 | zero =>
  intro k i out h0 hd ho hk
  obtain ⟨k, rfl⟩ : ∃ m, k = m + 1 := ⟨k - 1, by omega⟩
  simp only [qrBack.l0]
  rw [if_neg (by omega), List.drop_eq_nil_of_le (by omega)]
  simp [back]
 | succ d ih =>
  intro k i out h0 hd ho hk
  obtain ⟨k, rfl⟩ : ∃ m, k = m + 1 := ⟨k - 1, by omega⟩
  have hi : i < c.length := by omega
  simp only [qrBack.l0]
  rw [if_pos (by omega), if_pos (by omega), if_pos (by omega), rd56n hi, w1n (by omega), ih k (i + 1) _ (by omega) (by omega) (by simp; omega) (by omega)]
  rw [List.drop_eq_getElem_cons hi, show back (c[i] :: c.drop (i + 1)) = back1 c[i] :: back (c.drop (i + 1)) from rfl]
  simp [back1]
theorem ref_Back_f (c : List S56) (hl : c.length ≤ 4194304) (k : Nat) (hk : 4194304 < k) : qrBack.f k c = some (back c) := by
 unfold qrBack.f
 have := ref_Back_l c hl c.length k 0 [] (by omega) (by omega) (by simp; omega) (by omega)
 simpa using this
theorem ref_Same_l (l : List S56) (hl : l.length ≤ 4194304) (d : Nat) : ∀ (k : Nat) (i : Int), 0 ≤ i → (l.length : Int) - i = d → d < k → qrSame.l0 k l l i = some true := by
 induction d with
 | zero =>
  intro k i h0 hd hk
  obtain ⟨k, rfl⟩ : ∃ m, k = m + 1 := ⟨k - 1, by omega⟩
  simp only [qrSame.l0]
  rw [if_neg (by omega)]
 | succ d ih =>
  intro k i h0 hd hk
  obtain ⟨k, rfl⟩ : ∃ m, k = m + 1 := ⟨k - 1, by omega⟩
  simp only [qrSame.l0]
  rw [if_pos (by omega), if_pos h0, if_pos (by omega), if_neg (by simp), w1 h0 (by omega)]
  exact ih k (i + 1) (by omega) (by omega) (by omega)
theorem ref_Same_f (l : List S56) (hl : l.length ≤ 4194304) (k : Nat) (hk : 4194304 < k) : qrSame.f k l l = some true := by
 unfold qrSame.f
 rw [if_pos rfl]
 exact ref_Same_l l hl l.length k 0 (by omega) (by omega) (by omega)
theorem e0_nil : e0.toList = [] := by rw [Lib.toList_data]; rfl
theorem diff_fit_f (c : S56) (g : GC PathP ValP c) (k : Nat) (hk : 1048590 < k) : diff_fit.f k c.f0 c.f1 c.f2 c.f3 c.f4 = some true := by
 unfold diff_fit.f
 rw [diff_path_f _ g.path k (by omega)]
 simp only [Option.bind_some, if_true]
 rw [diff_value_f _ g.v2 k (by omega)]
 simp only [Option.bind_some, if_true]
 rw [diff_value_f _ g.v4 k (by omega)]
 simp only [Option.bind_some, Bool.not_true]
 obtain ⟨k, rfl⟩ : ∃ m, k = m + 3 := ⟨k - 3, by omega⟩
 have hs := g.some; have hw := g.w0; have hi := g.i0; have hn := g.ne
 cases h1 : c.f1 with
 | true =>
  cases h3 : c.f3 with
  | true =>
   have hne : ¬ c.f2.toList = c.f4.toList := fun h => hn h1 h3 (toList_inj h)
   simp [diff_fit.j0, diff_fit.j1, diff_fit.j2, hne]
  | false => rw [hi h3]; simp [diff_fit.j0, diff_fit.j1, diff_fit.j2, e0_nil]
 | false =>
  have h3 : c.f3 = true := by rw [h1] at hs; simpa using hs
  rw [h3, hw h1]
  simp [diff_fit.j0, diff_fit.j1, diff_fit.j2, e0_nil]
theorem diff_Changes_l (l : List S56) (hl : l.length ≤ 4194304) (hg : ∀ x ∈ l, GC PathP ValP x) (hu : Up S56.f0 l) (d : Nat) : ∀ (k : Nat) (i : Int), 0 ≤ i → (l.length : Int) - i = d → d + 1048592 < k → diff_Changes.l0 k l l l.length i = some true := by
 induction d with
 | zero =>
  intro k i h0 hd hk
  obtain ⟨k, rfl⟩ : ∃ m, k = m + 1 := ⟨k - 1, by omega⟩
  simp only [diff_Changes.l0]
  rw [if_neg (by omega)]
 | succ d ih =>
  intro k i h0 hd hk
  obtain ⟨k, rfl⟩ : ∃ m, k = m + 1 := ⟨k - 1, by omega⟩
  have hm : rd_T56 l i ∈ l := by rw [rd56' h0 (by omega)]; exact List.getElem_mem _
  simp only [diff_Changes.l0]
  rw [if_pos (by omega), if_pos h0, if_pos (by omega), diff_fit_f _ (hg _ hm) k (by omega)]
  simp only [Option.bind_some, if_true]
  rw [w1 h0 (by omega), ih k (i + 1) (by omega) (by omega) (by omega)]
  by_cases hp : i > 0
  ·rw [if_pos hp, w0 hp (by omega), if_pos (by omega), if_pos (by omega), if_pos]
   rw [rd56' (by omega) (by omega), rd56' (by omega) (by omega)]
   have e1 : i.toNat = (i - 1).toNat + 1 := by omega
   have := up_steps hu (i - 1).toNat (by omega)
   simp only [e1]
   exact this
  ·rw [if_neg hp]
theorem diff_Changes_f (l : List S56) (hl : l.length ≤ 4194304) (hg : ∀ x ∈ l, GC PathP ValP x) (hu : Up S56.f0 l) (k : Nat) (hk : 5242910 < k) : diff_Changes.f k l = some true := diff_Changes_l l hl hg hu l.length k 0 (by omega) (by omega) (by omega)
theorem valP_e0 : ValP e0 := ⟨⟨fun i h0 h1 => by have : (e0.size : Int) = 0 := rfl; omega, fun h => by have : e0.size = 0 := rfl; omega⟩, by have : e0.size = 0 := rfl; omega⟩
end Go.Proofs.YtclamgljgnjkbaaGreatDoor.PD
end
section
namespace Go.Proofs.YtclamgljgnjkbaaGreatDoor.PD
open Go.RowKit Go.Row Go.Proofs.YtclamgljgnjkbaaGreatDoorW.PrintWords
theorem DiffChanges_f (a b : List S35) (ha : SmL a) (hb : SmL b) (k : Nat) (hk : 30000000 ≤ k) : qlDiffChanges.f k a b = some true := by
 have la := ha.1
 have lb := hb.1
 have hj : ∀ k, 0 < k → qlDiffChanges.j0 k a b true = some true := by
  intro k hk
  obtain ⟨k, rfl⟩ : ∃ m, k = m + 1 := ⟨k - 1, by omega⟩
  simp only [qlDiffChanges.j0, if_true]
  rfl
 unfold qlDiffChanges.f
 obtain ⟨q, hq, h⟩ := ref_Fit_f a ha k (by omega)
 rw [hq]; simp only [Option.bind_some]
 cases q with
 | false => rw [if_neg nft]; exact hj k (by omega)
 | true =>
 rw [if_pos rfl]
 obtain ⟨q2, hq2, h2⟩ := ref_Fit_f b hb k (by omega)
 rw [hq2]; simp only [Option.bind_some]
 cases q2 with
 | false => exact hj k (by omega)
 | true =>
 obtain ⟨ga, ua⟩ := h rfl
 obtain ⟨gb, ub⟩ := h2 rfl
 have l1 := between_len a b
 have l2 := between_len b a
 have gab := between_good valP_e0 ga gb
 have uab := between_up ua ub
 have hbk := between_back valP_e0 ua ub ga gb
 have hB : ∀ x y : List S35, x.length ≤ 1048576 → y.length ≤ 1048576 → diff_Between.f x y = some (between x y) := by
  intro x y hx hy
  unfold diff_Between.f; rw [if_pos (by omega)]
 have hA : ∀ (x : List S35) (c : List S56), x.length ≤ 1048576 → c.length ≤ 2097152 → diff_Apply.f x c = some (apply x c) := by
  intro x c hx hc
  unfold diff_Apply.f; rw [if_pos (by omega)]
 obtain ⟨k, rfl⟩ : ∃ m, k = m + 1 := ⟨k - 1, by omega⟩
 simp only [qlDiffChanges.j0, Bool.not_true, Bool.false_eq_true, if_false]
 rw [leaves_f a (by omega), leaves_f b (by omega)]
 simp only [Option.bind_some]
 rw [hB a b la lb]
 simp only [Option.bind_some]
 rw [diff_Back_f _ (by omega) k (by omega), ref_Between_f a b la lb k (by omega)]
 simp only [Option.bind_some]
 rw [ref_Same_f _ (by omega) k (by omega)]
 simp only [Option.bind_some, if_true]
 rw [ref_Back_f _ (by omega) k (by omega)]
 simp only [Option.bind_some]
 rw [hbk, ref_Same_f _ (by omega) k (by omega)]
 simp only [Option.bind_some, if_true]
 rw [hB b a lb la]
 simp only [Option.bind_some]
 rw [ref_Same_f _ (by omega) k (by omega)]
 simp only [Option.bind_some, if_true]
 rw [diff_Changes_f _ (by omega) gab uab k (by omega)]
 simp only [Option.bind_some, Bool.not_true]
 obtain ⟨k, rfl⟩ : ∃ m, k = m + 1 := ⟨k - 1, by omega⟩
 simp only [qlDiffChanges.j1, Bool.false_eq_true, if_false]
 rw [hA a _ la (by omega), apply_between ua ub]
 simp only [Option.bind_some]
 rw [hA b _ lb (by omega), apply_between ub ua]
 simp only [Option.bind_some, if_true]
 rw [sameLeaves_f b (by omega) k (by omega), sameLeaves_f a (by omega) k (by omega)]
 simp only [Option.bind_some, if_true]
 rw [hB a a la la, between_self ua]
 simp only [Option.bind_some, List.length_nil]
 rfl
end Go.Proofs.YtclamgljgnjkbaaGreatDoor.PD
end
