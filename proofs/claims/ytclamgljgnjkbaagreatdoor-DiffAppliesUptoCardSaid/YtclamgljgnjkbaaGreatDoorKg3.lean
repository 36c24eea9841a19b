/-
  Part of the proof of DiffAppliesUptoCardSaid: what Diff.Changes says, Diff.Apply takes, up to the bulk that the card names.
  A proof for this seat's program alone; the parts of the words that it needs were printed by the kit, and cut to what is used.
-/
import Derived.Test.YtclamgljgnjkbaaGreatDoorKg2
set_option linter.all false
section
namespace Go.Proofs.YtclamgljgnjkbaaGreatDoor.PD
open Go.RowKit Go.Row Go.Proofs.YtclamgljgnjkbaaGreatDoorW.PrintWords
theorem nft : ¬ (false = true) := by simp
theorem rd35n {L : List S35} {i : Nat} (h : i < L.length) : rd_T35 L (i : Int) = L[i] := by unfold rd_T35; simp [h]
theorem rd56n {L : List S56} {i : Nat} (h : i < L.length) : rd_T56 L (i : Int) = L[i] := by unfold rd_T56; simp [h]
abbrev Items := List (Option S35 × Option S56)
def fin2 (l : List S35) (items : Items) (out : List S35) : List S35 × Int :=
  match items.find? (fun x => !decide (wrong x = 0)) with
  | some x => (l, wrong x)
  | none => (out ++ items.filterMap put, 0)
theorem fin2_bad {l : List S35} {x : Option S35 × Option S56} {rest : Items} {out : List S35} (h : wrong x ≠ 0) : fin2 l (x :: rest) out = (l, wrong x) := by
  unfold fin2; simp [List.find?_cons, h]
theorem fin2_good {l : List S35} {x : Option S35 × Option S56} {rest : Items} {out : List S35} (h : wrong x = 0) : fin2 l (x :: rest) out = fin2 l rest (out ++ (put x).toList) := by
  unfold fin2
  rw [List.find?_cons_of_neg (by simp [h])]
  split
  · rfl
  · rw [List.filterMap_cons]
    cases put x <;> simp
theorem fin2_nil {l out : List S35} : fin2 l [] out = (out, 0) := by simp [fin2]
theorem mg_rights (L : List S35) : ∀ out l, fin2 l (mg S35.f0 S56.f0 L []) out = (out ++ L, 0) := by
  induction L with
  | nil => intro out l; rw [mg_nil, fin2_nil]; simp
  | cons a L ih => intro out l; rw [mg_left, fin2_good (by rfl), ih]; simp [put]
theorem apply_fin {l : List S35} {c : List S56} : fin2 l (mg S35.f0 S56.f0 l c) [] = apply l c := by
  unfold fin2 apply
  split
  next x hx => rw [hx]
  next hx => rw [hx]; simp
theorem w1n {i : Nat} (h : i < 4611686018427387904) : wrap64 ((i : Int) + 1) = ((i + 1 : Nat) : Int) := by unfold wrap64; omega
theorem ref_Apply_l (l : List S35) (c : List S56) (hl : l.length ≤ 1048576) (hc : c.length ≤ 1048576) (d : Nat) : ∀ (i j k : Nat) (out : List S35), i ≤ l.length → j ≤ c.length → (l.length - i) + (c.length - j) = d → out.length + d ≤ 2097152 → 10 * (d + 1) ≤ k →
    eddyref38_Apply.l0 k l c out i j = some (fin2 l (mg S35.f0 S56.f0 (l.drop i) (c.drop j)) out) ∧ (j < c.length → eddyref38_Apply.l1 k l c out i j = some (fin2 l (mg S35.f0 S56.f0 (l.drop i) (c.drop j)) out)) := by
  induction d using Nat.strongRecOn with
  | _ d ih =>
  intro i j k out hi hj hd ho hk
  have key : ∀ k, 10 * d + 8 ≤ k → j < c.length → eddyref38_Apply.l1 k l c out i j = some (fin2 l (mg S35.f0 S56.f0 (l.drop i) (c.drop j)) out) := by
    intro k hk hj
    obtain ⟨k, rfl⟩ : ∃ m, k = m + 7 := ⟨k - 7, by omega⟩
    have hrc : rd_T56 c (j : Int) = c[j] := rd56n hj
    have last : ∀ (b : Bool) (hb : b = true → i < l.length), (∀ (hb' : b = true), wrong (some (l[i]'(hb hb')), some c[j]) = 0) → (b = false → wrong (none, some c[j]) = 0) →
        eddyref38_Apply.j6 (k + 2) l c out i j b = some (fin2 l (mg S35.f0 S56.f0 (l.drop (if b = true then i + 1 else i)) (c.drop (j + 1))) (out ++ (put (none, some c[j])).toList)) := by
      intro b hb hw hw'
      simp only [eddyref38_Apply.j6, hrc]
      cases b with
      | true =>
        have hi' := hb rfl
        rw [if_pos rfl, if_pos (by omega), if_pos (by omega), w1n (by omega), w1n (by omega), if_pos rfl]
        cases h3 : c[j].f3 with
        | true =>
          rw [if_pos rfl, if_pos (by omega)]
          rw [(ih (d - 2) (by omega) (i + 1) (j + 1) (k + 1) (out ++ [(⟨c[j].f0, c[j].f4⟩ : S35)]) (by omega) (by omega) (by omega) (by simp; omega) (by omega)).1]
          simp [put, h3]
        | false =>
          rw [if_neg nft]
          rw [(ih (d - 2) (by omega) (i + 1) (j + 1) (k + 1) out (by omega) (by omega) (by omega) (by omega) (by omega)).1]
          simp [put, h3]
      | false =>
        rw [if_neg nft, if_pos (by omega), if_pos (by omega), w1n (by omega), if_neg nft]
        cases h3 : c[j].f3 with
        | true =>
          rw [if_pos rfl, if_pos (by omega)]
          rw [(ih (d - 1) (by omega) i (j + 1) (k + 1) (out ++ [(⟨c[j].f0, c[j].f4⟩ : S35)]) (by omega) (by omega) (by omega) (by simp; omega) (by omega)).1]
          simp [put, h3]
        | false =>
          rw [if_neg nft]
          rw [(ih (d - 1) (by omega) i (j + 1) (k + 1) out (by omega) (by omega) (by omega) (by omega) (by omega)).1]
          simp [put, h3]
    have alone : eddyref38_Apply.j3 (k + 5) l c out i j false = some (fin2 l ((none, some c[j]) :: mg S35.f0 S56.f0 (l.drop i) (c.drop (j + 1))) out) := by
      simp only [eddyref38_Apply.j3, List.length_nil, Nat.zero_add, List.nil_append]
      rw [if_pos (by omega)]
      simp only [Option.bind_some]
      rw [if_neg nft]
      simp only [eddyref38_Apply.j4]
      rw [if_neg nft, if_neg nft, if_pos (by omega), if_pos (by omega), hrc]
      simp only [eddyref38_Apply.j5]
      cases h1 : c[j].f1 with
      | true =>
        rw [if_pos rfl, fin2_bad (by simp [wrong, h1])]
        simp [wrong, h1]
      | false =>
        rw [if_neg nft, if_neg nft, last false (by simp) (by simp) (by intro _; simp [wrong, h1]), fin2_good (by simp [wrong, h1])]
        simp
    obtain ⟨k6, hk6⟩ : ∃ m, m = k + 6 := ⟨_, rfl⟩
    rw [show k + 7 = k6 + 1 by omega]
    simp only [eddyref38_Apply.l1]
    subst hk6
    by_cases hil : i < l.length
    · have hrl : rd_T35 l (i : Int) = l[i] := rd35n hil
      rw [if_pos (by omega), if_pos (by omega), if_pos (by omega), if_pos (by omega), hrl, hrc, w1n (by omega)]
      rw [List.drop_eq_getElem_cons hil, List.drop_eq_getElem_cons hj]
      cases hlt : lt l[i].f0 c[j].f0 with
      | true =>
        rw [if_pos (show Op.bytesLess l[i].f0.toList c[j].f0.toList = true from hlt), if_pos (by omega), mg_lt _ _ hlt, fin2_good (by rfl)]
        rw [(ih (d - 1) (by omega) (i + 1) j (k + 6) (out ++ [(⟨l[i].f0, l[i].f1⟩ : S35)]) (by omega) (by omega) (by omega) (by simp; omega) (by omega)).2 hj]
        rw [List.drop_eq_getElem_cons hj]
        rfl
      | false =>
        rw [if_neg (show ¬ Op.bytesLess l[i].f0.toList c[j].f0.toList = true by rw [show Op.bytesLess l[i].f0.toList c[j].f0.toList = false from hlt]; simp)]
        simp only [eddyref38_Apply.j2]
        rw [if_pos (by omega), if_pos (by omega), if_pos (by omega), if_pos (by omega), hrl, hrc]
        cases heq : (l[i].f0.toList == c[j].f0.toList) with
        | false =>
          have hgt : lt c[j].f0 l[i].f0 = true := by
            cases hgt : lt c[j].f0 l[i].f0 with
            | true => rfl
            | false => rw [lt_tri hlt hgt] at heq; simp at heq
          rw [alone, mg_gt _ _ hlt hgt, List.drop_eq_getElem_cons hil]
        | true =>
          have he : l[i].f0 = c[j].f0 := toList_inj (eq_of_beq heq)
          rw [mg_eq _ _ hlt (by rw [← he]; exact lt_irrefl _)]
          simp only [eddyref38_Apply.j3, List.length_nil, Nat.zero_add, List.nil_append]
          rw [if_pos (by omega)]
          simp only [Option.bind_some, if_true]
          rw [if_pos (by omega), if_pos (by omega), hrc]
          simp only [eddyref38_Apply.j4]
          cases h1 : c[j].f1 with
          | false =>
            rw [if_pos (by simp), fin2_bad (by simp [wrong, h1])]
            simp [wrong, h1]
          | true =>
            simp only [Bool.not_true, Bool.false_eq_true, if_false, if_true, eddyref38_Apply.j5]
            rw [if_pos (by omega), if_pos (by omega), if_pos (by omega), if_pos (by omega), hrl, hrc]
            by_cases hv : l[i].f1.toList = c[j].f2.toList
            · have hv' := toList_inj hv
              rw [if_pos hv, last true (fun _ => hil) (by intro _; simp [wrong, h1, hv']) (by simp), fin2_good (by simp [wrong, h1, hv'])]
              simp [put]
            · have hv' : ¬ l[i].f1 = c[j].f2 := fun h => hv (by rw [h])
              rw [if_neg hv, fin2_bad (by simp [wrong, h1, hv'])]
              simp [wrong, h1, hv']
    · rw [if_neg (by omega)]
      simp only [eddyref38_Apply.j2]
      rw [if_neg (by omega), alone, List.drop_eq_nil_of_le (show l.length ≤ i by omega), List.drop_eq_getElem_cons hj, mg_right]
  refine ⟨?_, fun hj' => key k (by omega) hj'⟩
  obtain ⟨k, rfl⟩ : ∃ m, k = m + 1 := ⟨k - 1, by omega⟩
  simp only [eddyref38_Apply.l0]
  by_cases hj' : j < c.length
  · rw [if_pos (by omega)]
    exact key k (by omega) hj'
  · rw [if_neg (by omega), if_pos (by omega), if_pos (by omega)]
    simp only [Option.bind_some, Int.toNat_natCast]
    rw [if_pos (by rw [List.length_drop]; omega), List.drop_eq_nil_of_le (show c.length ≤ j by omega), mg_rights]
theorem ref_Apply_f (l : List S35) (c : List S56) (hl : l.length ≤ 1048576) (hc : c.length ≤ 1048576) (k : Nat) (hk : 20971600 ≤ k) : eddyref38_Apply.f k l c = some (apply l c) := by
  unfold eddyref38_Apply.f
  have := (ref_Apply_l l c hl hc (l.length + c.length) 0 0 k [] (by omega) (by omega) (by omega) (by simp; omega) (by omega)).1
  simp only [List.drop_zero] at this
  rw [← apply_fin, ← this]
  rfl
end Go.Proofs.YtclamgljgnjkbaaGreatDoor.PD
end
