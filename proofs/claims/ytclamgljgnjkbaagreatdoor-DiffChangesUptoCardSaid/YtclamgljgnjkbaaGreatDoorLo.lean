/-
  Part of the proof of DiffChangesUptoCardSaid: what Diff.Between says of two rows of leaves, Back turns and Apply takes, up to the bulk that the card names.
  A proof for this seat's program alone; the parts of the words that it needs were printed by the kit, and cut to what is used.
-/
import Derived.Shelf.Small.Utf8
import Derived.Shelf.Strings.AsciiSet
import Derived.Shelf.Strings.Runes
import Derived.Shelf.Strings.Shaped
import Derived.Shelf.Unicode.DecodeSlow
import Derived.Test.YtclamgljgnjkbaaGreatDoorLn12
import Derived.Test.YtclamgljgnjkbaaGreatDoorProg
set_option linter.all false
section
namespace Go.Proofs
open Go.Shelf
def Tryz.lays219_ren : Go.Shelf.Ren := ⟨fun | 219 => 88 | 217 => 133 | 225 => 134 | 224 => 135 | 267 => 136 | 266 => 171 | 314 => 172 | n => n, fun | 9 => 9 | 3 => 3 | 4 => 4 | 5 => 5 | 46 => 152 | 146 => 262 | 51 => 213 | n => n, fun | 1 => 0 | n => n⟩
theorem Tryz.lays219 : Go.Proofs.Lays.n219 Tryz.prog Tryz.lays219_ren := {
 mixed := by kernel_rfl
 f217 := Tryz.func133.trans (congrArg some (by kernel_rfl))
 f219 := Tryz.func88.trans (congrArg some (by kernel_rfl))
 f224 := Tryz.func135.trans (congrArg some (by kernel_rfl))
 f225 := Tryz.func134.trans (congrArg some (by kernel_rfl))
 f266 := Tryz.func171.trans (congrArg some (by kernel_rfl))
 f267 := Tryz.func136.trans (congrArg some (by kernel_rfl))
 f314 := Tryz.func172.trans (congrArg some (by kernel_rfl))
 t3 := Tryz.underlying3
 a3 := Tryz.isAgg3
 z3 := Tryz.sizeOf3
 v3 := Tryz.zeroValue3
 t4 := Tryz.underlying4
 a4 := Tryz.isAgg4
 z4 := Tryz.sizeOf4
 v4 := Tryz.zeroValue4
 t5 := Tryz.underlying5
 a5 := Tryz.isAgg5
 z5 := Tryz.sizeOf5
 v5 := Tryz.zeroValue5
 t9 := Tryz.underlying9
 a9 := Tryz.isAgg9
 z9 := Tryz.sizeOf9
 v9 := Tryz.zeroValue9
 t46 := Tryz.underlying152
 a46 := Tryz.isAgg152
 z46 := Tryz.sizeOf152
 v46 := Tryz.zeroValue152
 t51 := Tryz.underlying213
 a51 := Tryz.isAgg213
 z51 := Tryz.sizeOf213
 v51 := Tryz.zeroValue213
 t146 := Tryz.underlying262
 a146 := Tryz.isAgg262
 z146 := Tryz.sizeOf262
 v146 := Tryz.zeroValue262
 g1 := by kernel_rfl }
open Go.RowKit Go.Lib in
theorem Tryz.stringslite_Index (s sub : ByteArray) (m : Int) (w : World) (hs : s.size < 4294967281) (hm : w.cell? ⟨0, 0, none⟩ = some (.int .i64 m)) :
  Calls Tryz.prog 88 #[.string s, .string sub] w fun e w' => e = .returned (.int .i64 (Lib.index s.data.toList sub.data.toList)) ∧ w' = w := Any.stringslite_Index Tryz.lays219 s sub m w hs hm
end Go.Proofs
end
section
namespace Go.Ab
open Go Go.RowKit Go.Proofs
noncomputable section
def kIndex (a : Array Value) : Option Value :=
 match a.toList with
 | [.string s, .string t] => bif Nat.ble s.size 4000000000 then some (.int .i64 (Lib.index s.data.toList t.data.toList)) else none
 | _ => none
def known3 (g : FuncId) (a : Array Value) : Option Value := bif Nat.beq g 88 then kIndex a else none
def good3 (w : World) : Prop := ∃ m, w.cell? ⟨0, 0, none⟩ = some (.int .i64 m)
theorem good3_below (N : Nat) (w w' : World) (h : 1 ≤ N) (hg : good3 w) (hb : Below N w w') : good3 w' := by
 obtain ⟨m, hm⟩ := hg
 refine ⟨m, ?_⟩
 unfold World.cell? at hm ⊢
 rw [hb.block 0 (by omega)]
 exact hm
theorem known3_ok (g : FuncId) (a : Array Value) (v : Value) (h : known3 g a = some v) : a.all (scalar 3) = true ∧ scalar 4 v = true ∧ ∀ w, good3 w → Calls Tryz.prog g a w (fun e w' => e = .returned v ∧ Below w.heap.size w w') := by
 unfold known3 at h
 cases hg : Nat.beq g 88 with
 | false => rw [hg] at h; cases h
 | true =>
  rw [hg] at h
  have hg := Nat.eq_of_beq_eq_true hg
  subst hg
  simp only [cond_true] at h
  unfold kIndex at h
  split at h
  next s t ha =>
   cases hs : Nat.ble s.size 4000000000 with
   | false => rw [hs] at h; cases h
   | true =>
    rw [hs] at h
    simp only [cond_true, Option.some.injEq] at h
    subst h
    have hs := Nat.le_of_ble_eq_true hs
    obtain rfl : a = #[.string s, .string t] := by cases a; simp_all
    refine ⟨by simp [scalar], rfl, fun w ⟨m, hm⟩ => ?_⟩
    refine (Tryz.stringslite_Index s t m w (by omega) hm).mono ?_
    rintro e w' ⟨rfl, rfl⟩
    exact ⟨rfl, Below.refl _ _⟩
  next => cases h
def noEsc3 (g : FuncId) : Bool := Nat.beq g 89
def mk3 (g : FuncId) : Option TypeId := bif Nat.beq g 160 then some 5 else none
theorem noEsc3_ok (g : FuncId) (h : noEsc3 g = true) (v : Value) (w : World) : (callFunc g #[v]).run Tryz.prog w = .ok (.value v) w := by
 have hg := Nat.eq_of_beq_eq_true h
 subst hg
 rw [run_callFunc_extern Tryz.func89 (by kernel_rfl) (by kernel_rfl) (by kernel_rfl) (e := Extern.AbiNoEscape.same) (by kernel_rfl)]
 rfl
theorem mk3_ok (g : FuncId) (e : TypeId) (h : mk3 g = some e) : ∃ ps t, Tryz.prog.underlying t = some (.slice e) ∧ ∀ v w, (callFunc g #[v]).run Tryz.prog w = (do Pure.pure (Next.value (← Extern.BytealgMakeNoZero.makeNoZero ps #[t] #[v])) : Sem Next).run Tryz.prog w := by
 unfold mk3 at h
 cases hg : Nat.beq g 160 with
 | false => rw [hg] at h; cases h
 | true =>
  rw [hg] at h
  cases h
  have hg := Nat.eq_of_beq_eq_true hg
  subst hg
  refine ⟨#[3], 82, by kernel_rfl, fun v w => ?_⟩
  rw [run_callFunc_extern Tryz.func160 (by kernel_rfl) (by kernel_rfl) (by kernel_rfl) (e := Extern.BytealgMakeNoZero.makeNoZero #[3] #[82]) (by kernel_rfl), Sem.run_bind]
  rfl
def E3 : Env Tryz.prog := { good := good3, gN := 1, good_below := good3_below, known := known3, hKnown := known3_ok, noEsc := noEsc3, mkNoZero := mk3, hNoEsc := noEsc3_ok, hMk := mk3_ok }
end
end Go.Ab
end
