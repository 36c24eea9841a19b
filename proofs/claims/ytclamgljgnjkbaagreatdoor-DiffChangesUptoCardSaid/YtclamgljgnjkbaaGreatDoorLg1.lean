/-
  Part of the proof of DiffChangesUptoCardSaid: what Diff.Between says of two rows of leaves, Back turns and Apply takes, up to the bulk that the card names.
  A proof for this seat's program alone; the parts of the words that it needs were printed by the kit, and cut to what is used.
-/
import Derived.Test.YtclamgljgnjkbaaGreatDoorLc6
import Derived.Test.YtclamgljgnjkbaaGreatDoorLe
import Derived.Test.YtclamgljgnjkbaaGreatDoorLm
import Derived.Test.YtclamgljgnjkbaaGreatDoorLp
set_option linter.all false
section
namespace Go.Proofs.YtclamgljgnjkbaaGreatDoor.PD
open Go.RowKit Go.Row Go.Proofs.YtclamgljgnjkbaaGreatDoorW.PrintWords
theorem w1 {i : Int} (h0 : 0 ≤ i) (h1 : i < 4611686018427387904) : wrap64 (i + 1) = i + 1 := by unfold wrap64; omega
theorem w0 {i : Int} (h0 : 0 < i) (h1 : i < 4611686018427387904) : wrap64 (i - 1) = i - 1 := by unfold wrap64; omega
def okc (c : Int) : Prop := ¬ c < 32 ∧ ¬ c > 126 ∧ ¬ c = 61 ∧ ¬ c = 62
def PlainP (s : ByteArray) : Prop := (∀ i : Int, 0 ≤ i → i < s.size → okc (bt s i)) ∧ (0 < s.size → bt s 0 ≠ 32 ∧ bt s ((s.size : Int) - 1) ≠ 32)
theorem ref_plain_l (s : ByteArray) (hs : s.size ≤ 1048576) (d : Nat) : ∀ (k : Nat) (i : Int), 0 ≤ i → (s.size : Int) - i = d → d < k →
  ∃ b, qrplain.l0 k s i = some b ∧ (b = true → (∀ q : Int, i ≤ q → q < s.size → okc (bt s q)) ∧ (0 < s.size → bt s 0 ≠ 32 ∧ bt s ((s.size : Int) - 1) ≠ 32)) := by
 induction d with
 | zero =>
  intro k i h0 hd hk
  obtain ⟨k, rfl⟩ : ∃ m, k = m + 1 := ⟨k - 1, by omega⟩
  simp only [qrplain.l0]
  rw [if_neg (by omega)]
  by_cases hz : (s.size : Int) = 0
  ·rw [if_pos hz]; exact ⟨true, rfl, fun _ => ⟨fun q _ _ => by omega, fun h => by omega⟩⟩
  ·rw [if_neg hz, if_pos (by omega)]
   by_cases h1 : bt s 0 = 32
   ·rw [if_pos h1]; exact ⟨false, rfl, fun h => by cases h⟩
   ·rw [if_neg h1, w0 (by omega) (by omega), if_pos (by omega), if_pos (by omega)]
    exact ⟨_, rfl, fun h => ⟨fun q _ _ => by omega, fun _ => ⟨h1, by simpa using h⟩⟩⟩
 | succ d ih =>
  intro k i h0 hd hk
  obtain ⟨k, rfl⟩ : ∃ m, k = m + 1 := ⟨k - 1, by omega⟩
  simp only [qrplain.l0]
  rw [if_pos (by omega), if_pos h0]
  by_cases c1 : bt s i < 32
  ·rw [if_pos c1]; exact ⟨false, rfl, fun h => by cases h⟩
  by_cases c2 : bt s i > 126
  ·rw [if_neg c1, if_pos c2]; exact ⟨false, rfl, fun h => by cases h⟩
  by_cases c3 : bt s i = 61
  ·rw [if_neg c1, if_neg c2, if_pos c3]; exact ⟨false, rfl, fun h => by cases h⟩
  by_cases c4 : bt s i = 62
  ·rw [if_neg c1, if_neg c2, if_neg c3, if_pos c4]; exact ⟨false, rfl, fun h => by cases h⟩
  rw [if_neg c1, if_neg c2, if_neg c3, if_neg c4, w1 h0 (by omega)]
  obtain ⟨b, hb, h⟩ := ih k (i + 1) (by omega) (by omega) (by omega)
  refine ⟨b, hb, fun e => ⟨fun q hq hq' => ?_, (h e).2⟩⟩
  by_cases e' : q = i
  ·rw [e']; exact ⟨c1, c2, c3, c4⟩
  ·exact (h e).1 q (by omega) hq'
theorem ref_plain_f (s : ByteArray) (hs : s.size ≤ 1048576) (k : Nat) (hk : 1048576 < k) : ∃ b, qrplain.f k s = some b ∧ (b = true → PlainP s) := by
 obtain ⟨b, hb, h⟩ := ref_plain_l s hs s.size k 0 (by omega) (by omega) (by omega)
 exact ⟨b, hb, fun e => ⟨fun i h0 h1 => (h e).1 i h0 h1, (h e).2⟩⟩
def PathP (s : ByteArray) : Prop := PlainP s ∧ 1 ≤ s.size ∧ s.size ≤ 256
def ValP (s : ByteArray) : Prop := PlainP s ∧ s.size ≤ 131072
theorem ref_path_f (s : ByteArray) (hs : s.size ≤ 1048576) (k : Nat) (hk : 1048576 < k) : ∃ b, qrpath.f k s = some b ∧ (b = true → PathP s) := by
 obtain ⟨b, hb, h⟩ := ref_plain_f s hs k hk
 unfold qrpath.f
 rw [hb]; simp only [Option.bind_some]
 cases b with
 | false => exact ⟨false, by simp, fun h => by cases h⟩
 | true =>
  rw [if_pos rfl]
  by_cases h1 : (s.size : Int) ≥ 1
  ·rw [if_pos h1]; exact ⟨_, rfl, fun e => ⟨h rfl, by omega, by have := of_decide_eq_true e; omega⟩⟩
  ·rw [if_neg h1]; exact ⟨false, rfl, fun h => by cases h⟩
theorem ref_value_f (s : ByteArray) (hs : s.size ≤ 1048576) (k : Nat) (hk : 1048576 < k) : ∃ b, qrvalue.f k s = some b ∧ (b = true → ValP s) := by
 obtain ⟨b, hb, h⟩ := ref_plain_f s hs k hk
 unfold qrvalue.f
 rw [hb]; simp only [Option.bind_some]
 cases b with
 | false => exact ⟨false, by simp, fun h => by cases h⟩
 | true => rw [if_pos rfl]; exact ⟨_, rfl, fun e => ⟨h rfl, by have := of_decide_eq_true e; omega⟩⟩
def SmL (l : List S35) : Prop := l.length ≤ 1048576 ∧ ∀ x ∈ l, x.f0.size ≤ 1048576 ∧ x.f1.size ≤ 1048576
theorem rd35' {L : List S35} {i : Int} (h0 : 0 ≤ i) (h : i < L.length) : rd_T35 L i = L[i.toNat]'(by omega) := by unfold rd_T35; simp [show i.toNat < L.length by omega]
theorem rd56' {L : List S56} {i : Int} (h0 : 0 ≤ i) (h : i < L.length) : rd_T56 L i = L[i.toNat]'(by omega) := by unfold rd_T56; simp [show i.toNat < L.length by omega]
theorem ref_Fit_l (l : List S35) (hs : SmL l) (d : Nat) : ∀ (k : Nat) (i : Int), 0 ≤ i → (l.length : Int) - i = d → d + 1048577 < k →
  ∃ b, qrFit.l0 k l i = some b ∧ (b = true → ∀ q : Int, i ≤ q → q < l.length → PathP (rd_T35 l q).f0 ∧ ValP (rd_T35 l q).f1 ∧ (0 < q → lt (rd_T35 l (q - 1)).f0 (rd_T35 l q).f0 = true)) := by
 have hlen := hs.1
 induction d with
 | zero =>
  intro k i h0 hd hk
  obtain ⟨k, rfl⟩ : ∃ m, k = m + 1 := ⟨k - 1, by omega⟩
  simp only [qrFit.l0]
  rw [if_neg (by omega)]
  exact ⟨true, rfl, fun _ q _ _ => by omega⟩
 | succ d ih =>
  intro k i h0 hd hk
  obtain ⟨k, rfl⟩ : ∃ m, k = m + 1 := ⟨k - 1, by omega⟩
  simp only [qrFit.l0]
  rw [if_pos (by omega), if_pos h0]
  have hm : rd_T35 l i ∈ l := by rw [rd35' h0 (by omega)]; exact List.getElem_mem _
  obtain ⟨b1, hb1, h1⟩ := ref_path_f (rd_T35 l i).f0 (hs.2 _ hm).1 k (by omega)
  rw [hb1]; simp only [Option.bind_some]
  cases b1 with
  | false => exact ⟨false, by simp, fun h => by cases h⟩
  | true =>
   rw [if_pos rfl]
   obtain ⟨b2, hb2, h2⟩ := ref_value_f (rd_T35 l i).f1 (hs.2 _ hm).2 k (by omega)
   rw [hb2]; simp only [Option.bind_some]
   cases b2 with
   | false => exact ⟨false, by simp, fun h => by cases h⟩
   | true =>
    rw [if_pos rfl, w1 h0 (by omega)]
    obtain ⟨b, hb, h⟩ := ih k (i + 1) (by omega) (by omega) (by omega)
    by_cases hp : i > 0
    ·rw [if_pos hp, w0 hp (by omega), if_pos (by omega), if_pos (by omega)]
     by_cases hl : Op.bytesLess (rd_T35 l (i - 1)).f0.toList (rd_T35 l i).f0.toList = true
     ·rw [if_pos hl]
      refine ⟨b, hb, fun e q hq hq' => ?_⟩
      by_cases e' : q = i
      ·rw [e']; exact ⟨h1 rfl, h2 rfl, fun _ => hl⟩
      ·exact h e q (by omega) hq'
     ·rw [if_neg hl]; exact ⟨false, rfl, fun h => by cases h⟩
    ·rw [if_neg hp]
     refine ⟨b, hb, fun e q hq hq' => ?_⟩
     by_cases e' : q = i
     ·rw [e']; exact ⟨h1 rfl, h2 rfl, fun h => by omega⟩
     ·exact h e q (by omega) hq'
theorem up_of_steps {α : Type} {k : α → K} {l : List α} (h : ∀ (i : Nat) (hi : i + 1 < l.length), lt (k l[i]) (k l[i + 1]) = true) : Up k l := by
 unfold Up
 rw [List.pairwise_iff_getElem]
 intro i j hi hj hij
 obtain ⟨d, rfl⟩ : ∃ d, j = i + 1 + d := ⟨j - i - 1, by omega⟩
 induction d with
 | zero => exact h i hj
 | succ d ih => exact lt_trans (ih (by omega) (by omega)) (h (i + 1 + d) hj)
theorem up_steps {α : Type} {k : α → K} {l : List α} (h : Up k l) (i : Nat) (hi : i + 1 < l.length) : lt (k l[i]) (k l[i + 1]) = true := by
 unfold Up at h
 rw [List.pairwise_iff_getElem] at h
 exact h i (i + 1) (by omega) hi (by omega)
theorem ref_Fit_f (l : List S35) (hs : SmL l) (k : Nat) (hk : 2097160 < k) : ∃ b, qrFit.f k l = some b ∧ (b = true → (∀ x ∈ l, GL PathP ValP x) ∧ Up S35.f0 l) := by
 have hlen := hs.1
 obtain ⟨b, hb, h⟩ := ref_Fit_l l hs l.length k 0 (by omega) (by omega) (by omega)
 refine ⟨b, hb, fun e => ⟨fun x hx => ?_, up_of_steps fun i hi => ?_⟩⟩
 ·obtain ⟨i, hi, rfl⟩ := List.getElem_of_mem hx
  have := h e (i : Int) (by omega) (by omega)
  rw [rd35' (by omega) (by omega)] at this
  exact ⟨this.1, this.2.1⟩
 ·have := (h e ((i + 1 : Nat) : Int) (by omega) (by omega)).2.2 (by omega)
  rw [rd35' (by omega) (by omega), rd35' (by omega) (by omega)] at this
  have e1 : (((i + 1 : Nat) : Int) - 1).toNat = i := by omega
  simpa [e1] using this
end Go.Proofs.YtclamgljgnjkbaaGreatDoor.PD
end
section
namespace Go.Proofs.YtclamgljgnjkbaaGreatDoor.PD
open Go.RowKit Go.Row Go.Proofs.YtclamgljgnjkbaaGreatDoorW.PrintWords
theorem toList_nil {s : ByteArray} (h : s.toList = []) : s = PD.e0 := toList_inj (by rw [h, Lib.toList_data]; rfl)
theorem trim_f (s : ByteArray) (hp : PlainP s) (hs : s.size ≤ 1048576) (k : Nat) (hk : 0 < k) : strings_Trim.f k s ⟨#[32]⟩ = some s := by
 unfold strings_Trim.f
 rw [if_pos (by rw [Lib.toList_data])]
 by_cases he : s.toList = []
 ·rw [if_pos he]
 ·rw [if_neg he]
  have hz : 0 < s.size := by
   rcases Nat.eq_zero_or_pos s.size with h | h
   ·exfalso; apply he
    rw [Lib.toList_data]
    have : s.data.size = 0 := h
    exact List.eq_nil_of_length_eq_zero (by simpa using this)
   ·exact h
  obtain ⟨q1, q2⟩ := hp.2 hz
  obtain ⟨k, rfl⟩ : ∃ m, k = m + 1 := ⟨k - 1, by omega⟩
  unfold strings_trimRightByte.f strings_trimLeftByte.f
  simp only [strings_trimRightByte.l0]
  rw [if_pos (by omega), w0 (by omega) (by omega), if_pos (by omega), if_pos (by omega), if_neg q2]
  simp only [Option.bind_some, strings_trimLeftByte.l0]
  rw [if_pos (by omega), if_pos (by omega), if_neg q1]
theorem diff_plain_l (s : ByteArray) (hp : PlainP s) (hs : s.size ≤ 1048576) (d : Nat) : ∀ (k : Nat) (i : Int), 0 ≤ i → (s.size : Int) - i = d → d + 1 < k → diff_plain.l0 k s s.size i = some true := by
 induction d with
 | zero =>
  intro k i h0 hd hk
  obtain ⟨k, rfl⟩ : ∃ m, k = m + 1 := ⟨k - 1, by omega⟩
  simp only [diff_plain.l0]
  rw [if_neg (by omega), trim_f s hp hs k (by omega)]
  simp
 | succ d ih =>
  intro k i h0 hd hk
  obtain ⟨k, rfl⟩ : ∃ m, k = m + 1 := ⟨k - 1, by omega⟩
  obtain ⟨c1, c2, c3, c4⟩ := hp.1 i h0 (by omega)
  simp only [diff_plain.l0]
  rw [if_pos (by omega), if_pos h0, if_pos (by omega), if_neg c1, if_neg c2, if_neg c3, if_neg c4, w1 h0 (by omega)]
  exact ih k (i + 1) (by omega) (by omega) (by omega)
theorem diff_plain_f (s : ByteArray) (hp : PlainP s) (hs : s.size ≤ 1048576) (k : Nat) (hk : 1048580 < k) : diff_plain.f k s = some true := diff_plain_l s hp hs s.size k 0 (by omega) (by omega) (by omega)
theorem diff_path_f (s : ByteArray) (hp : PathP s) (k : Nat) (hk : 1048580 < k) : diff_path.f k s = some true := by
 have h1 := hp.2.1; have h2 := hp.2.2
 unfold diff_path.f
 rw [diff_plain_f s hp.1 (by omega) k hk]
 simp only [Option.bind_some, if_true]
 rw [if_neg ?_]
 ·simp only [Option.some.injEq, decide_eq_true_eq]; omega
 ·intro h
  have := toList_nil h
  rw [this] at h1
  exact absurd h1 (by decide)
theorem diff_value_f (s : ByteArray) (hp : ValP s) (k : Nat) (hk : 1048580 < k) : diff_value.f k s = some true := by
 have h2 := hp.2
 unfold diff_value.f
 rw [diff_plain_f s hp.1 (by omega) k hk]
 simp only [Option.bind_some, if_true, Option.some.injEq, decide_eq_true_eq]
 omega
theorem sameLeaves_l (l : List S35) (hl : l.length ≤ 4194304) (d : Nat) : ∀ (k : Nat) (i : Int), 0 ≤ i → (l.length : Int) - i = d → d < k → qrSameLeaves.l0 k l l i = some true := by
 induction d with
 | zero =>
  intro k i h0 hd hk
  obtain ⟨k, rfl⟩ : ∃ m, k = m + 1 := ⟨k - 1, by omega⟩
  simp only [qrSameLeaves.l0]
  rw [if_neg (by omega)]
 | succ d ih =>
  intro k i h0 hd hk
  obtain ⟨k, rfl⟩ : ∃ m, k = m + 1 := ⟨k - 1, by omega⟩
  simp only [qrSameLeaves.l0]
  rw [if_pos (by omega), if_pos h0, if_pos (by omega), if_neg (by simp), w1 h0 (by omega)]
  exact ih k (i + 1) (by omega) (by omega) (by omega)
theorem sameLeaves_f (l : List S35) (hl : l.length ≤ 4194304) (k : Nat) (hk : 4194304 < k) : qrSameLeaves.f k l l = some true := by
 unfold qrSameLeaves.f
 rw [if_pos rfl]
 exact sameLeaves_l l hl l.length k 0 (by omega) (by omega) (by omega)
end Go.Proofs.YtclamgljgnjkbaaGreatDoor.PD
end
section
namespace Go.Proofs.YtclamgljgnjkbaaGreatDoor.PD
open Go.RowKit Go.Row Go.Proofs.YtclamgljgnjkbaaGreatDoorW.PrintWords
theorem nft : ¬ (false = true) := by simp
theorem rd35n {L : List S35} {i : Nat} (h : i < L.length) : rd_T35 L (i : Int) = L[i] := by unfold rd_T35; simp [h]
theorem rd56n {L : List S56} {i : Nat} (h : i < L.length) : rd_T56 L (i : Int) = L[i] := by unfold rd_T56; simp [h]
theorem w1n {i : Nat} (h : i < 4611686018427387904) : wrap64 ((i : Int) + 1) = ((i + 1 : Nat) : Int) := by unfold wrap64; omega
end Go.Proofs.YtclamgljgnjkbaaGreatDoor.PD
end
section
namespace Go.Proofs.YtclamgljgnjkbaaGreatDoor.PD
open Go.RowKit Go.Row Go.Proofs.YtclamgljgnjkbaaGreatDoorW.PrintWords
theorem leaves_f (l : List S35) (hl : l.length ≤ 4194304) : qlleaves.f l = some l := by
 unfold qlleaves.f
 rw [if_pos (by simp; omega)]; simp
end Go.Proofs.YtclamgljgnjkbaaGreatDoor.PD
end
