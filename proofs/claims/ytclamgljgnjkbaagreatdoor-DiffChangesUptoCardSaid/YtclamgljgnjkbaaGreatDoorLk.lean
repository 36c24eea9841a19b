/-
  Part of the proof of DiffChangesUptoCardSaid: what Diff.Between says of two rows of leaves, Back turns and Apply takes, up to the bulk that the card names.
  A proof for this seat's program alone; the parts of the words that it needs were printed by the kit, and cut to what is used.
-/
import Derived.Test.YtclamgljgnjkbaaGreatDoorLi
import Derived.Test.YtclamgljgnjkbaaGreatDoorLj
import Derived.Test.YtclamgljgnjkbaaGreatDoorLj8
set_option linter.all false
section
namespace Go.Proofs.YtclamgljgnjkbaaGreatDoor.PD
open Go.RowKit Go.Row Go.Shelf Go.Pv Go.Proofs.YtclamgljgnjkbaaGreatDoorW.PrintWords
theorem addr_zero (A : Option Addr) (z : Nat) : A = A.map (·.add (0 * z)) := by
 cases A with
 | none => rfl
 | some a => simp [Addr.add]
theorem Boxed.cell_of {W : World} {B : Nat} {t : TypeId} {v : Value} (h : W.heap[B]? = some (.cells #[v] t (0, 0))) : W.cell? ⟨B, 0, none⟩ = some v ∧ W.frozen? ⟨B, 0, none⟩ = false := ⟨Go.Boxed.cell h, Go.Boxed.frozen h⟩
theorem stops64 (n : Nat) (w0 w : World) (A0 A1 : Option Addr) (c0 c1 Bl : Nat) (L : List S35) (M : List S56) (hL : Kd.C k35 w0 A0 L.length L) (hc0 : L.length ≤ c0) (hM : Kd.C k56 w0 A1 M.length M) (hc1 : M.length ≤ c1)
  (hb0 : Below w0.heap.size w0 w) (hBl : w0.heap.size ≤ Bl) (x0 : w.heap[Bl]? = some (.cells #[.slice A0 L.length c0] 22 (0, 0))) (x1 : w.heap[Bl + 1]? = some (.cells #[.slice A1 M.length c1] 23 (0, 0)))
  (x2 : w.heap[Bl + 2]? = some (.cells #[.func (.func 33) #[] #[]] 72 (0, 0))) (x3 : w.heap[Bl + 3]? = some (.cells #[.func (.func 34) #[] #[]] 73 (0, 0))) :
  SeqStopsP Fence.wide n Tryz.prog 64 #[.pointer (some ⟨Bl, 0, none⟩), .pointer (some ⟨Bl + 1, 0, none⟩), .pointer (some ⟨Bl + 2, 0, none⟩), .pointer (some ⟨Bl + 3, 0, none⟩)]
   (fun x : It L M => #[.pointer (x.a.bind fun i => A0.map (·.add (i * 2))), .pointer (x.b.bind fun i => A1.map (·.add (i * 5)))]) (Kp w0.heap.size [Bl, Bl + 1, Bl + 2, Bl + 3]) (fun r => r = Bl ∨ r = Bl + 1)
   (fun xs => xs.map It.val = mg S35.f0 S56.f0 L M) (fun pre => pre.map It.val <+: mg S35.f0 S56.f0 L M) (L.length + M.length) w := by
 intro l J Jx W hW hJ hJx hY h0
 have hlt : ∀ {k : Nat} {o : Obj}, w.heap[k]? = some o → W.heap[k]? = some o := fun {k o} h => (hW.block k (Array.getElem?_eq_some_iff.1 h).1).trans h
 have hbW : Below w0.heap.size w0 W := hb0.trans (hW.mono hb0.size)
 obtain ⟨p0, q0⟩ := Boxed.cell_of (hlt x0)
 obtain ⟨p1, q1⟩ := Boxed.cell_of (hlt x1)
 refine pairs64 n l Bl (Bl + 1) (Bl + 2) (Bl + 3) w0.heap.size A0 A1 L M J Jx hY (fun s A B row hs hg hr => hJ s A B row hs hg hr) ⟨by omega, by omega, by omega, by omega, by omega, hBl, by omega⟩ W h0 hbW.size
  (fun wr hb => Kd.C_below hL (hbW.trans hb)) (fun wr hb => Kd.C_below hM (hbW.trans hb)) ⟨⟨A0, c0, p0, Nat.zero_le _, by omega, fun _ => addr_zero A0 2⟩, ⟨A1, c1, p1, Nat.zero_le _, by omega, fun _ => addr_zero A1 5⟩, (Boxed.cell_of (hlt x2)).1, (Boxed.cell_of (hlt x3)).1, Below.refl _ _, q0, q1⟩
theorem stops68 (n : Nat) (w0 w : World) (A0 A1 : Option Addr) (c0 c1 Bl : Nat) (L : List S35) (M : List S35) (hL : Kd.C k35 w0 A0 L.length L) (hc0 : L.length ≤ c0) (hM : Kd.C k35 w0 A1 M.length M) (hc1 : M.length ≤ c1)
  (hb0 : Below w0.heap.size w0 w) (hBl : w0.heap.size ≤ Bl) (x0 : w.heap[Bl]? = some (.cells #[.slice A0 L.length c0] 22 (0, 0))) (x1 : w.heap[Bl + 1]? = some (.cells #[.slice A1 M.length c1] 22 (0, 0)))
  (x2 : w.heap[Bl + 2]? = some (.cells #[.func (.func 33) #[] #[]] 72 (0, 0))) (x3 : w.heap[Bl + 3]? = some (.cells #[.func (.func 33) #[] #[]] 72 (0, 0))) :
  SeqStopsP Fence.wide n Tryz.prog 68 #[.pointer (some ⟨Bl, 0, none⟩), .pointer (some ⟨Bl + 1, 0, none⟩), .pointer (some ⟨Bl + 2, 0, none⟩), .pointer (some ⟨Bl + 3, 0, none⟩)]
   (fun x : It L M => #[.pointer (x.a.bind fun i => A0.map (·.add (i * 2))), .pointer (x.b.bind fun i => A1.map (·.add (i * 2)))]) (Kp w0.heap.size [Bl, Bl + 1, Bl + 2, Bl + 3]) (fun r => r = Bl ∨ r = Bl + 1)
   (fun xs => xs.map It.val = mg S35.f0 S35.f0 L M) (fun pre => pre.map It.val <+: mg S35.f0 S35.f0 L M) (L.length + M.length) w := by
 intro l J Jx W hW hJ hJx hY h0
 have hlt : ∀ {k : Nat} {o : Obj}, w.heap[k]? = some o → W.heap[k]? = some o := fun {k o} h => (hW.block k (Array.getElem?_eq_some_iff.1 h).1).trans h
 have hbW : Below w0.heap.size w0 W := hb0.trans (hW.mono hb0.size)
 obtain ⟨p0, q0⟩ := Boxed.cell_of (hlt x0)
 obtain ⟨p1, q1⟩ := Boxed.cell_of (hlt x1)
 refine pairs68 n l Bl (Bl + 1) (Bl + 2) (Bl + 3) w0.heap.size A0 A1 L M J Jx hY (fun s A B row hs hg hr => hJ s A B row hs hg hr) ⟨by omega, by omega, by omega, by omega, by omega, hBl, by omega⟩ W h0 hbW.size
  (fun wr hb => Kd.C_below hL (hbW.trans hb)) (fun wr hb => Kd.C_below hM (hbW.trans hb)) ⟨⟨A0, c0, p0, Nat.zero_le _, by omega, fun _ => addr_zero A0 2⟩, ⟨A1, c1, p1, Nat.zero_le _, by omega, fun _ => addr_zero A1 2⟩, (Boxed.cell_of (hlt x2)).1, (Boxed.cell_of (hlt x3)).1, Below.refl _ _, q0, q1⟩
end Go.Proofs.YtclamgljgnjkbaaGreatDoor.PD
end
section
namespace Go.Proofs.YtclamgljgnjkbaaGreatDoor.PD
open Go.RowKit Go.Row Go.Shelf Go.Pv Go.Proofs.YtclamgljgnjkbaaGreatDoorW.PrintWords
def OutI {α : Type} (T sz tb : Nat) (en : α → List Value) (n1 B : Nat) (w : World) (xs : List α) (W : World) : Prop :=
 (∃ v, Boxed W B tb v ∧ W.ownsRow n1 T sz v xs.length (xs.flatMap en)) ∧ Below w.heap.size w W ∧ n1 ≤ W.heap.size
theorem outI_own {α β : Type} {T sz tb : Nat} {en : α → List Value} {n1 B Bl : Nat} {w : World} (f : List β → List α) (h01 : w.heap.size ≤ n1) (hl : w.heap.size ≤ Bl) (hl1 : Bl + 1 < n1) (hB1 : B < n1) (hne : B ≠ Bl ∧ B ≠ Bl + 1) :
  OwnP n1 (fun r => r = Bl ∨ r = Bl + 1) (fun pre W => OutI T sz tb en n1 B w (f pre) W) := by
 rintro s W W' row ⟨⟨v, hv, hrow⟩, hb, hn1⟩ hg hr
 have hrow1 : ∀ r, row = some r → r ≠ B ∧ some r ≠ v.ownBlock ∧ w.heap.size ≤ r := by
  intro r e
  rcases hr r e with ⟨h1, o, ho, hc⟩ | h
  ·refine ⟨by omega, ?_, by omega⟩
   intro e'
   obtain ⟨cs, hcs⟩ := own_typed hrow r e'.symm
   rw [ho] at hcs; cases hcs; simp [Obj.isCells] at hc
  ·have : r < n1 := by omega
   refine ⟨by omega, ?_, by omega⟩
   intro e'
   have := own_base hrow r e'.symm
   omega
 refine ⟨⟨v, hv.kept hg ?_, hrow.kept hg ?_⟩, ?_, Nat.le_trans hn1 hg.size⟩
 ·intro e
  exact (hrow1 B e.symm).1 rfl
 ·cases hvb : v.ownBlock with
  | none => exact .inl rfl
  | some g =>
   refine .inr fun e => ?_
   exact (hrow1 g e.symm).2.1 hvb.symm
 ·exact hb.grown hg hb.size (fun k e => (hrow1 k e).2.2)
theorem outApp {W w1 : World} {n0 n1 B T sz tb k k' : Nat} {v v' : Value} {xs ys : List Value} {tmp : Obj} (hv : Boxed W B tb v) (hte : tb ≠ T) (hrow : W.ownsRow n1 T sz v k xs) (h01 : n0 ≤ B) (hB1 : B < n1) (h1 : n1 ≤ W.heap.size)
  (hown' : w1.ownsRow n1 T sz v' k' ys) (hgrow : (W.alloc tmp).grownBy w1 v.ownBlock) (Bs : List Nat) (hBs : ∀ k ∈ Bs, k < n1 ∧ k ≠ B) :
  Boxed w1 B tb v ∧ KeepsFrom n1 W (w1.setCell ⟨B, 0, none⟩ v') ∧ Kp n0 Bs W (w1.setCell ⟨B, 0, none⟩ v') ∧ Boxed (w1.setCell ⟨B, 0, none⟩ v') B tb v' ∧ (w1.setCell ⟨B, 0, none⟩ v').ownsRow n1 T sz v' k' ys := by
 obtain ⟨a1, a2, a3, a4, a5⟩ := hv.appended hte (own_weaken hrow (by omega : n0 ≤ n1)) (by omega) h01 (own_weaken hown' (by omega : n0 ≤ n1)) hgrow
 refine ⟨a1, a4.from _, ⟨a5, fun q hq => ?_⟩, a2, hown'.kept (grownBy_setCell' w1 B v') (.inr (a1.not_row hte hown').symm)⟩
 obtain ⟨q1, q2⟩ := hBs q hq
 refine (Below.heap_setCell _ _ _ _ q2).trans ((hgrow.block q (by rw [World.size_alloc]; omega) ?_).trans (Below.heap_alloc _ _ _ (by omega)))
 intro e
 have := own_base hrow q e.symm
 omega
theorem Kp_t {n0 : Nat} {Bs : List Nat} {A B C : World} (h : Kp n0 Bs A B) (k : Kp n0 Bs B C) : Kp n0 Bs A C := ⟨h.1.trans k.1, fun q hq => (k.2 q hq).trans (h.2 q hq)⟩
theorem Kp_b {n0 : Nat} {Bs : List Nat} {w : World} (hn : n0 ≤ w.heap.size) (hB : ∀ k ∈ Bs, k < w.heap.size) (W : World) (l : Nat) (o o' : Obj) (hl : w.heap.size ≤ l) (h : W.heap[l]? = some o) (h1 : o.isCells = false) (h2 : o.isWalk = false) : Kp n0 Bs W (W.putObj l o') :=
 ⟨belowK_b hn W l o o' hl h h1 h2, fun q hq => World.putObj_heap_other (by have := hB q hq; omega)⟩
theorem aL {W : World} {k : Nat} {x : Obj} (o : Obj) (h : W.heap[k]? = some x) : (W.alloc o).heap[k]? = some x := (Below.heap_alloc _ _ _ (Array.getElem?_eq_some_iff.1 h).1).trans h
theorem aN {W : World} {k : Nat} (o : Obj) (h : k = W.heap.size) : (W.alloc o).heap[k]? = some o := by subst h; exact World.alloc_heap_new W o
theorem alloc5 (w : World) (o0 o1 o2 o3 o4 : Obj) : (((((w.alloc o0).alloc o1).alloc o2).alloc o3).alloc o4).heap[w.heap.size]? = some o0 ∧ (((((w.alloc o0).alloc o1).alloc o2).alloc o3).alloc o4).heap[w.heap.size + 1]? = some o1 ∧ (((((w.alloc o0).alloc o1).alloc o2).alloc o3).alloc o4).heap[w.heap.size + 1 + 1]? = some o2 ∧ (((((w.alloc o0).alloc o1).alloc o2).alloc o3).alloc o4).heap[w.heap.size + 1 + 2]? = some o3 ∧ (((((w.alloc o0).alloc o1).alloc o2).alloc o3).alloc o4).heap[w.heap.size + 1 + 3]? = some o4 := by
 refine ⟨aL _ (aL _ (aL _ (aL _ (aN _ rfl)))), aL _ (aL _ (aL _ (aN _ ?_))), aL _ (aL _ (aN _ ?_)), aL _ (aN _ ?_), aN _ ?_⟩ <;> simp only [World.size_alloc]
theorem Kp_d {n0 : Nat} {Bs : List Nat} {W W' : World} (h : Kp n0 Bs W.drew W') : Kp n0 Bs W W' := Kp_t ⟨below_drew (Below.refl _ _), fun _ _ => rfl⟩ h
theorem Kf_d {B : Nat} {W W' : World} (h : KeepsFrom B W.drew W') : KeepsFrom B W W' := ((KeepsOthers.drew W).from _).trans h
theorem newCells (w : World) (cs : List Value) (t : TypeId) : ∀ (j : Nat) u, cs[j]? = some u → (w.alloc (.cells cs.toArray t)).cell? ((⟨w.heap.size, 0, none⟩ : Addr).add j) = some u := by
 intro j u h
 rw [add_plain]
 unfold World.cell?
 rw [World.alloc_heap_new]
 simpa using h
theorem cell_alloc {w : World} {a : Addr} {v : Value} (o : Obj) (h : w.cell? a = some v) : (w.alloc o).cell? a = some v := (World.cell?_alloc_lt _ _ _ (World.block_lt_of_cell? _ _ h)).trans h
end Go.Proofs.YtclamgljgnjkbaaGreatDoor.PD
end
