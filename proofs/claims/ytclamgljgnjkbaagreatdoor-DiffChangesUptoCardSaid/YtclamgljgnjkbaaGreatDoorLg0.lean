/-
  Part of the proof of DiffChangesUptoCardSaid: what Diff.Between says of two rows of leaves, Back turns and Apply takes, up to the bulk that the card names.
  A proof for this seat's program alone; the parts of the words that it needs were printed by the kit, and cut to what is used.
-/
import Derived.Clock
import Derived.Deep.DeepHandedRow
import Derived.Deep.Slices
import Derived.OpenShut
import Derived.Test.YtclamgljgnjkbaaGreatDoorCards
import Derived.Test.YtclamgljgnjkbaaGreatDoorLg1
import Derived.Test.YtclamgljgnjkbaaGreatDoorTie
set_option linter.all false
section
namespace Go.Proofs.YtclamgljgnjkbaaGreatDoor.PD
open Go.ChangeShapes Go.WideShapes Go.ChangeAt Go.RowKit Go.Proofs.YtclamgljgnjkbaaGreatDoorW.PrintWords
theorem bulk_part {H : Type} {d : DataW H} {l : List (DataW H)} (h : d ∈ l) : Rows.uptoBulk d ≤ Rows.uptoBulkAll l := by
 induction l with
 | nil => cases h
 | cons x r ih =>
  simp only [Rows.uptoBulkAll]
  rcases List.mem_cons.1 h with rfl | h
  ·omega
  ·have := ih h; omega
theorem bulk_one {H : Type} (d : DataW H) : 1 ≤ Rows.uptoBulk d := by
 cases d with
 | lit l => cases l <;> simp [Rows.uptoBulk]
 | _ => simp [Rows.uptoBulk]
theorem bulk_len {H : Type} (l : List (DataW H)) : l.length ≤ Rows.uptoBulkAll l := by
 induction l with
 | nil => simp
 | cons x r ih => have := bulk_one x; simp only [Rows.uptoBulkAll, List.length_cons]; omega
theorem open_rows {H : Type} {enc : TypeId × Value → H} {W : World} {α : Type} [Inhabited α] {t e : TypeId} {sz : Nat} (ht : Tryz.prog.underlying t = some (.slice e)) (hc : Tryz.prog.cellsOf e = sz) (en : α → List Value) (dat : α → DataW H)
  (helem : ∀ n cs y, DataW.trod enc Tryz.prog W 0 (fun _ => true) true n e cs = some y → ∃ x, cs = en x ∧ y.1 = dat x)
  {a : Option Addr} {len cap : Nat} {d : DataW H} {ps : List MemPlace} (h : DataW.Trod enc Tryz.prog W 0 (fun _ => true) true t (.slice a len cap) d ps) :
  ∃ L : List α, L.length = len ∧ len ≤ cap ∧ len ≤ maxLen ∧ (0 < len → ∃ ad, a = some ad ∧ ∀ (j : Nat) x, L[j]? = some x → (en x).length = sz ∧ ∀ (i : Nat) u, (en x)[i]? = some u → W.cell? (ad.add (j * sz + i)) = some u) ∧
   L.length ≤ Rows.uptoBulk d ∧ ∀ x ∈ L, Rows.uptoBulk (dat x) ≤ Rows.uptoBulk d := by
 obtain ⟨fuel, hf⟩ := h
 rcases Deep.open_slice ht hf with ⟨hcs, hx⟩ | ⟨ad, l, c, m, n, D, Pl, hcs, _, hl, hm, hmm, hx, hel⟩
 ·simp [Value.cells] at hcs
  obtain ⟨rfl, rfl, rfl⟩ := hcs
  exact ⟨[], rfl, Nat.le_refl _, by simp [maxLen], fun h => absurd h (Nat.lt_irrefl 0), Nat.zero_le _, fun x hx => by cases hx⟩
 ·simp [Value.cells] at hcs
  obtain ⟨rfl, rfl, rfl⟩ := hcs
  simp only [if_true] at hmm
  subst hmm
  have each : ∀ i, i < m → ∃ x : α, W.cells? 0 (ad.add (i * sz)) sz = some (en x) ∧ D i = dat x := by
   intro i hi
   obtain ⟨cs', h1, h2⟩ := hel i hi
   obtain ⟨x, rfl, hd⟩ := helem _ _ _ h2
   rw [hc] at h1
   exact ⟨x, h1, hd⟩
  obtain ⟨f, hf⟩ := Deep.choose_lt each
  obtain ⟨hd, _⟩ := Prod.mk.inj hx
  have hall : ∀ i, i < len → dat (f i) ∈ (List.range len).map D := fun i hi => List.mem_map.2 ⟨i, List.mem_range.2 hi, (hf i (by omega)).2⟩
  have hb : Rows.uptoBulkAll ((List.range len).map D) ≤ Rows.uptoBulk d := by rw [hd]; simp only [Rows.uptoBulk]; omega
  refine ⟨(List.range len).map f, by simp, hl, by omega, fun _ => ⟨ad, rfl, fun j x hj => ?_⟩, ?_, fun x hx => ?_⟩
  ·have hjl : j < len := by
    have := (List.getElem?_eq_some_iff.1 hj).1; simpa using this
   obtain rfl : f j = x := by simpa [hjl] using hj
   obtain ⟨_, hlen, hcell⟩ := World.cells?_some (hf j (by omega)).1
   refine ⟨hlen, fun i u hu => ?_⟩
   have hi : i < sz := by rw [← hlen]; exact (List.getElem?_eq_some_iff.1 hu).1
   have := hcell i hi
   rw [add_add] at this
   exact this.trans hu
  ·have := bulk_len ((List.range len).map D)
   simp only [List.length_map, List.length_range] at this ⊢
   omega
  ·obtain ⟨i, hi, rfl⟩ := List.mem_map.1 hx
   exact Nat.le_trans (bulk_part (hall i (List.mem_range.1 hi))) hb
instance : Inhabited S35 := ⟨z35⟩
instance : Inhabited S56 := ⟨z56⟩
theorem cells9 : Tryz.prog.cellsOf 9 = 1 := by kernel_rfl
theorem cells35 : Tryz.prog.cellsOf 35 = 2 := by kernel_rfl
def da (s : ByteArray) {H : Type} : DataW H := .lit (.string s.data.toList)
def enL (x : S35) : List Value := [.string x.f0, .string x.f1]
set_option maxRecDepth 100000 in
theorem elem35 {H : Type} {enc : TypeId × Value → H} {W : World} (n : Nat) (cs : List Value) (y : DataW H × List MemPlace) (h : DataW.trod enc Tryz.prog W 0 (fun _ => true) true n 35 cs = some y) :
  ∃ x : S35, cs = enL x ∧ y.1 = .agg [da x.f0, da x.f1] := by
 obtain ⟨xs, k, _, hy, hl, hxl, hf⟩ := DataW.trod_struct Tryz.underlying35 h
 rw [cells35] at hl
 match xs, hxl, cs, hl with
 | [y0, y1], _, [v0, v1], _ =>
  have g0 := hf 0 _ rfl
  have g1 := hf 1 _ rfl
  simp [cells9] at g0 g1
  obtain ⟨s0, e0, q0, _⟩ := DataW.trod_string Tryz.underlying9 g0
  obtain ⟨s1, e1, q1, _⟩ := DataW.trod_string Tryz.underlying9 g1
  simp at e0 e1
  refine ⟨⟨s0, s1⟩, by rw [e0, e1]; rfl, ?_⟩
  rw [hy, q0, q1]; rfl
theorem da_bulk {H : Type} (s : ByteArray) : Rows.uptoBulk (da s : DataW H) = s.size + 1 := by
 unfold da; simp only [Rows.uptoBulk]
 rw [Array.length_toList]; rfl
theorem open_leaves {H : Type} {enc : TypeId × Value → H} {W : World} {a : Option Addr} {len cap : Nat} {d : DataW H} {ps : List MemPlace} (h : DataW.Trod enc Tryz.prog W 0 (fun _ => true) true 22 (.slice a len cap) d ps) (hb : Rows.uptoBulk d ≤ 1048576) :
  ∃ L : List S35, L.length = len ∧ L.length ≤ cap ∧ Kd.C k35 W a L.length L ∧ SmL L := by
 obtain ⟨L, h1, h2, h3, h4, h5, h6⟩ := open_rows Tryz.underlying22 cells35 enL (fun x => .agg [da x.f0, da x.f1]) elem35 h
 refine ⟨L, h1, by omega, ⟨rfl, by simp only [maxLen] at h3; omega, fun hp => ?_⟩, by omega, fun x hx => ?_⟩
 ·obtain ⟨ad, ha, hc⟩ := h4 (by omega)
  exact ⟨ad, ha, fun j x hj => ⟨enL x, rfl, k35_mk W x, (hc j x hj).2⟩⟩
 ·have := h6 x hx
  simp only [Rows.uptoBulk, Rows.uptoBulkAll, da_bulk] at this
  omega
end Go.Proofs.YtclamgljgnjkbaaGreatDoor.PD
end
