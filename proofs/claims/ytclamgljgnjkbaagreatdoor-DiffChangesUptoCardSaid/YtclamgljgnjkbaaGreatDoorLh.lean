/-
  Part of the proof of DiffChangesUptoCardSaid: what Diff.Between says of two rows of leaves, Back turns and Apply takes, up to the bulk that the card names.
  A proof for this seat's program alone; the parts of the words that it needs were printed by the kit, and cut to what is used.
-/
import Derived.LoopIn
import Derived.LoopNIn
import Derived.RangeFuncBound
import Derived.RangeFuncNested
import Derived.Shelf.RegionOpen
import Derived.Test.YtclamgljgnjkbaaGreatDoorLd
import Derived.Test.YtclamgljgnjkbaaGreatDoorLf
set_option linter.all false
section
namespace Go.Proofs.YtclamgljgnjkbaaGreatDoor.PD
open Go.RowKit Go.Shelf Go.Row Go.Proofs.YtclamgljgnjkbaaGreatDoorW.PrintWords Go.Proofs.YtclamgljgnjkbaaGreatDoorW.PrintLast Go.Proofs.YtclamgljgnjkbaaGreatDoorW.PrintMore
attribute [local go_sem] Oper.semAt_some
theorem ofLeaf_calls (p v : ByteArray) (w : World) : Calls Tryz.prog 33 #[.agg #[.string p, .string v]] w fun e w' => e = .returned (.string p) ∧ Below w.heap.size w w' := by
 go_enter Tryz.func33, Tryz.ntmps33
 go_wp2
 all_goals go_ret
 all_goals exact ⟨by first | rfl | (simp; done), by repeat (first | exact Below.refl _ _ | apply below_alloc)⟩
theorem ofChange_calls (p : ByteArray) (b : Bool) (x : ByteArray) (c : Bool) (y : ByteArray) (w : World) : Calls Tryz.prog 34 #[.agg #[.string p, .bool b, .string x, .bool c, .string y]] w fun e w' => e = .returned (.string p) ∧ Below w.heap.size w w' := by
 go_enter Tryz.func34, Tryz.ntmps34
 go_wp2
 all_goals go_ret
 all_goals exact ⟨by first | rfl | (simp; done), by repeat (first | exact Below.refl _ _ | apply below_alloc)⟩
def L4 : List (Nat × Bool) := [(0, true), (1, true), (2, true), (3, true), (4, true), (5, true), (6, true), (7, true), (8, true), (9, true), (10, true), (11, true), (13, true), (14, true), (15, true), (16, true), (12, false), (17, false), (18, true), (19, true), (20, true), (21, true)]
theorem plan64_4 : Oh.plan .any (opsOf Tryz.f64 4) L4 [] = true := by kernel_rfl
def L6 : List (Nat × Bool) := [(0, true), (1, true), (2, true), (3, true), (4, true), (5, true), (6, true), (7, true), (9, true), (10, true), (11, true), (12, true), (8, false), (13, false), (14, true), (15, true), (16, true)]
theorem plan64_6 : Oh.plan .any (opsOf Tryz.f64 6) L6 [] = true := by kernel_rfl
def L3 : List (Nat × Bool) := [(0, true), (1, true), (2, true), (3, true), (4, true), (5, true)]
theorem plan64_3 : Oh.plan .any (opsOf Tryz.f64 3) L3 [] = true := by kernel_rfl
end Go.Proofs.YtclamgljgnjkbaaGreatDoor.PD
end
section
namespace Go.Proofs.YtclamgljgnjkbaaGreatDoor.PD
open Go.RowKit Go.Row Go.Shelf Go.Proofs.YtclamgljgnjkbaaGreatDoorW.PrintWords
def Kp (n0 : Nat) (B : List Nat) (W W' : World) : Prop := Below n0 W W' ∧ ∀ k ∈ B, W'.heap[k]? = W.heap[k]?
def Lft (A0 A : Option Addr) (sz len i c : Nat) : Prop := i ≤ len ∧ len - i ≤ c ∧ (i < len → A = A0.map (·.add (i * sz)))
theorem Lft.next1 {ad : Addr} {z len i c : Nat} (h : Lft (some ad) (some (ad.add (i * z))) z len i c) (hi : i < len) (hz : 0 < z) : Lft (some ad) (some ⟨(ad.add (i * z)).block, (ad.add (i * z)).off + z, none⟩) z len (i + 1) (c - 1) :=
 ⟨hi, by have := h.2.1; omega, fun _ => by rw [Option.map_some, show (i + 1) * z = i * z + z by rw [Nat.add_mul, Nat.one_mul], add_field _ _ z hz]⟩
theorem Lft.next2 {A0 A X : Option Addr} {z len i c c' : Nat} (h : Lft A0 A z len i c) (hi : i < len) (hc : c ≤ 1) : Lft A0 X z len (i + 1) c' :=
 ⟨hi, by have := h.2.1; omega, fun h' => by have := h.2.1; omega⟩
def leftN (W : World) (B : Nat) : Nat := match W.cell? ⟨B, 0, none⟩ with | some (.slice _ n _) => n | _ => 0
theorem leftN_eq {W : World} {B : Nat} {A : Option Addr} {n c : Nat} (h : W.cell? ⟨B, 0, none⟩ = some (.slice A n c)) : leftN W B = n := by unfold leftN; rw [h]
def AbP {β : Type} (J : β → World → Prop) (Bl Bm : Nat) : Prop := ∀ s W W' row, J s W → W.grownBy W' row → (∀ r, row = some r → r = Bl ∨ r = Bm) → J s W'
theorem cell_same {W W' : World} {k o : Nat} (h : W'.heap[k]? = W.heap[k]?) : W'.cell? ⟨k, o, none⟩ = W.cell? ⟨k, o, none⟩ := by unfold World.cell?; simp only [h]
theorem frozen_same {W W' : World} {k o : Nat} (h : W'.heap[k]? = W.heap[k]?) : W'.frozen? ⟨k, o, none⟩ = W.frozen? ⟨k, o, none⟩ := by unfold World.frozen?; simp only [h]
structure StP (fa fb za zb : Nat) (W0 wr : World) (Bl Bm Ba Bb n0 : Nat) (A0 A1 : Option Addr) (nl nm i j : Nat) : Prop where
 l : ∃ A c, wr.cell? ⟨Bl, 0, none⟩ = some (.slice A (nl - i) c) ∧ Lft A0 A za nl i c
 m : ∃ A c, wr.cell? ⟨Bm, 0, none⟩ = some (.slice A (nm - j) c) ∧ Lft A1 A zb nm j c
 a : wr.cell? ⟨Ba, 0, none⟩ = some (.func (.func fa) #[] #[])
 b : wr.cell? ⟨Bb, 0, none⟩ = some (.func (.func fb) #[] #[])
 bel : Below n0 W0 wr
 fl : wr.frozen? ⟨Bl, 0, none⟩ = false
 fm : wr.frozen? ⟨Bm, 0, none⟩ = false
structure Sep (Bl Bm Ba Bb n0 : Nat) : Prop where
 lm : Bl ≠ Bm
 la : Ba ≠ Bl
 lb : Bb ≠ Bl
 ma : Ba ≠ Bm
 mb : Bb ≠ Bm
 nl : n0 ≤ Bl
 nm : n0 ≤ Bm
theorem lt_of_cell {w : World} {k o : Nat} {v : Value} (h : w.cell? ⟨k, o, none⟩ = some v) : k < w.heap.size := World.block_lt_of_cell? w ⟨k, o, none⟩ h
theorem grownBy_set {wr w1 W2 : World} {Bl : Nat} (hB : Below wr.heap.size wr w1) (v : Value) : wr.grownBy (w1.setCell ⟨Bl, 0, none⟩ v) (some Bl) :=
 ⟨hB.os, hB.tape, hB.output, by rw [World.size_setCell]; exact hB.size, fun i hi hne => (Below.heap_setCell _ _ _ _ (fun e => hne (by rw [e]))).trans (hB.block i hi)⟩
theorem grownBy_set1 (w1 : World) (Bl : Nat) (v : Value) : w1.grownBy (w1.setCell ⟨Bl, 0, none⟩ v) (some Bl) := grownBy_set (W2 := w1) (Below.refl _ _) v
theorem StP.next {fa fb za zb : Nat} {W0 wr w1 W2 W3 : World} {Bl Bm Ba Bb n0 : Nat} {A0 A1 : Option Addr} {nl nm i j i' j' : Nat} (hs : StP fa fb za zb W0 wr Bl Bm Ba Bb n0 A0 A1 nl nm i j) (sp : Sep Bl Bm Ba Bb n0) (hn0 : n0 ≤ wr.heap.size) (hB : Below wr.heap.size wr w1)
  (hl2 : ∃ A c, W2.cell? ⟨Bl, 0, none⟩ = some (.slice A (nl - i') c) ∧ Lft A0 A za nl i' c) (hm2 : ∃ A c, W2.cell? ⟨Bm, 0, none⟩ = some (.slice A (nm - j') c) ∧ Lft A1 A zb nm j' c)
  (ho : ∀ k, k ≠ Bl → k ≠ Bm → W2.heap[k]? = w1.heap[k]?) (hf : ∀ a, W2.frozen? a = w1.frozen? a) (h2 : Below n0 w1 W2) (hk : Kp n0 [Bl, Bm, Ba, Bb] W2 W3) : StP fa fb za zb W0 W3 Bl Bm Ba Bb n0 A0 A1 nl nm i' j' := by
 obtain ⟨hb3, hbl⟩ := hk
 obtain ⟨A, c, q1, q2⟩ := hl2
 obtain ⟨A', c', q3, q4⟩ := hm2
 obtain ⟨_, _, q5, _⟩ := hs.l
 obtain ⟨_, _, q6, _⟩ := hs.m
 refine ⟨⟨A, c, (cell_same (hbl Bl (by simp))).trans q1, q2⟩, ⟨A', c', (cell_same (hbl Bm (by simp))).trans q3, q4⟩, ?_, ?_, ?_, ?_, ?_⟩
 ·exact (cell_same (hbl Ba (by simp))).trans ((cell_same (ho Ba sp.la sp.ma)).trans (pw_cell_below hB hs.a))
 ·exact (cell_same (hbl Bb (by simp))).trans ((cell_same (ho Bb sp.lb sp.mb)).trans (pw_cell_below hB hs.b))
 ·exact ((hs.bel.trans (hB.mono hn0)).trans h2).trans hb3
 ·rw [frozen_same (hbl Bl (by simp)), hf, frozen_same (hB.block Bl (lt_of_cell q5))]; exact hs.fl
 ·rw [frozen_same (hbl Bm (by simp)), hf, frozen_same (hB.block Bm (lt_of_cell q6))]; exact hs.fm
section
variable {α β : Type} {pa : α → ByteArray} {pb : β → ByteArray} {L : List α} {M : List β} {T : List (Option α × Option β)} {i j : Nat} {pre : List (It L M)} {x : It L M}
theorem nextL (hx : x.a = some i ∧ x.b = none) (hi : i < L.length) (hmg : pre.map It.val ++ mg pa pb (L.drop i) (M.drop j) = T)
  (hc : M.length ≤ j ∨ ∃ hj : j < M.length, lt (pa L[i]) (pb M[j]) = true) : (pre ++ [x]).map It.val ++ mg pa pb (L.drop (i + 1)) (M.drop j) = T := by
 rw [← hmg, List.map_append, List.append_assoc]
 congr 1
 rw [List.drop_eq_getElem_cons hi]
 have hv : It.val x = (some L[i], none) := by unfold It.val; rw [hx.1, hx.2]; simp [hi]
 rcases hc with hc | ⟨hj, hc⟩
 ·rw [List.drop_eq_nil_of_le hc, mg_left]; simp [hv]
 ·rw [List.drop_eq_getElem_cons hj, mg_lt _ _ hc]; simp [hv]
theorem nextR (hx : x.a = none ∧ x.b = some j) (hj : j < M.length) (hmg : pre.map It.val ++ mg pa pb (L.drop i) (M.drop j) = T)
  (hc : L.length ≤ i ∨ ∃ hi : i < L.length, lt (pa L[i]) (pb M[j]) = false ∧ lt (pb M[j]) (pa L[i]) = true) : (pre ++ [x]).map It.val ++ mg pa pb (L.drop i) (M.drop (j + 1)) = T := by
 rw [← hmg, List.map_append, List.append_assoc]
 congr 1
 rw [List.drop_eq_getElem_cons hj]
 have hv : It.val x = (none, some M[j]) := by unfold It.val; rw [hx.1, hx.2]; simp [hj]
 rcases hc with hc | ⟨hi, hc, hc'⟩
 ·rw [List.drop_eq_nil_of_le hc, mg_right]; simp [hv]
 ·rw [List.drop_eq_getElem_cons hi, mg_gt _ _ hc hc']; simp [hv]
theorem nextB (hx : x.a = some i ∧ x.b = some j) (hi : i < L.length) (hj : j < M.length) (hmg : pre.map It.val ++ mg pa pb (L.drop i) (M.drop j) = T)
  (hc : lt (pa L[i]) (pb M[j]) = false) (hc' : lt (pb M[j]) (pa L[i]) = false) : (pre ++ [x]).map It.val ++ mg pa pb (L.drop (i + 1)) (M.drop (j + 1)) = T := by
 rw [← hmg, List.map_append, List.append_assoc]
 congr 1
 rw [List.drop_eq_getElem_cons hi, List.drop_eq_getElem_cons hj, mg_eq _ _ hc hc']
 have hv : It.val x = (some L[i], some M[j]) := by unfold It.val; rw [hx.1, hx.2]; simp [hi, hj]
 simp [hv]
end
theorem rd35 {L : List S35} {i : Nat} (h : i < L.length) : rd_T35 L (i : Int) = L[i] := by unfold rd_T35; simp [h]
theorem rd56 {L : List S56} {i : Nat} (h : i < L.length) : rd_T56 L (i : Int) = L[i] := by unfold rd_T56; simp [h]
theorem fin {n l : Nat} {args : Array Value} {W2 : World} {o : Oper} {N : Tmp} (ho : o.dst = some N) {act : Act} {K : Act → World → Prop} {Q : Exit → Act → World → Prop} {G X : World → Prop}
  (hY : YieldAt Fence.wide (n - 1) Tryz.prog l args W2 fun e W' => (e = .returned (.bool true) ∧ G W') ∨ (e = .returned (.bool false) ∧ X W'))
  (h1 : ∀ W3, G W3 → K (act.put (some N) (.bool true)) W3) (h0 : ∀ W3, X W3 → K (act.put (some N) (.bool false)) W3) :
  Oper.uponIn Fence.wide n Tryz.prog o act K Q (Sem.run Tryz.prog (Instr.yield l args) W2) := by
 obtain ⟨fn, tmps, assign, body, hy, hR⟩ := hY
 rw [hy, Oper.uponIn_round]
 refine ⟨fun h => (by cases h), hR.mono ?_⟩
 rintro e W3 (⟨rfl, hg⟩ | ⟨rfl, hx⟩)
 ·show K (act.put o.dst _) W3; rw [ho]; exact h1 W3 hg
 ·show K (act.put o.dst _) W3; rw [ho]; exact h0 W3 hx
section
variable {fa fb za zb n l N : Nat} {W0 wr w1 : World} {Bl Bm Ba Bb n0 : Nat} {A0 A1 Am Al X X' : Option Addr} {nl nm i j cl cm n1 n2 c1' c2' : Nat} {u u' : Value} {args : Array Value} {o : Oper} {act : Act} {K : Act → World → Prop} {Q : Exit → Act → World → Prop} {J : World → Prop} {G G' : World → Prop}
def Ab1 (J : World → Prop) (Bl Bm : Nat) : Prop := ∀ W W' row, J W → W.grownBy W' row → (∀ r, row = some r → r = Bl ∨ r = Bm) → J W'
theorem finL (sp : Sep Bl Bm Ba Bb n0) (hnwr : n0 ≤ wr.heap.size) (hSP : StP fa fb za zb W0 wr Bl Bm Ba Bb n0 A0 A1 nl nm i j) (hJ : Ab1 J Bl Bm) (hJs : J wr) (hi : i < nl)
  (hB : Below wr.heap.size wr w1) (hc1 : w1.cell? ⟨Bl, 0, none⟩ = some u) (hc2 : w1.cell? ⟨Bm, 0, none⟩ = some (.slice Am (nm - j) cm)) (hLm : Lft A1 Am zb nm j cm) (ho : o.dst = some N)
  (hY : ∀ W2, J W2 → YieldAt Fence.wide (n - 1) Tryz.prog l args W2 fun e W' => (e = .returned (.bool true) ∧ G W' ∧ Kp n0 [Bl, Bm, Ba, Bb] W2 W') ∨ (e = .returned (.bool false) ∧ G' W'))
  (hn1 : n1 = nl - (i + 1)) (hX : Lft A0 X za nl (i + 1) c1')
  (h1 : ∀ W3, StP fa fb za zb W0 W3 Bl Bm Ba Bb n0 A0 A1 nl nm (i + 1) j → G W3 → K (act.put (some N) (.bool true)) W3) (h0 : ∀ W3, G' W3 → K (act.put (some N) (.bool false)) W3) :
  Oper.uponIn Fence.wide n Tryz.prog o act K Q (Sem.run Tryz.prog (Instr.yield l args) (w1.setCell ⟨Bl, 0, none⟩ (.slice X n1 c1'))) := by
 refine fin (G := fun W3 => StP fa fb za zb W0 W3 Bl Bm Ba Bb n0 A0 A1 nl nm (i + 1) j ∧ G W3) (X := G') ho ?_ (fun W3 h => h1 W3 h.1 h.2) h0
 obtain ⟨fn, t, a, b, hy, hR⟩ := hY _ (hJ wr (w1.setCell ⟨Bl, 0, none⟩ (.slice X n1 c1')) (some Bl) hJs (grownBy_set (W2 := wr) hB _) (fun r hr => .inl (by cases hr; rfl)))
 refine ⟨fn, t, a, b, hy, hR.mono ?_⟩
 rintro e W3 (⟨rfl, hG, hk⟩ | ⟨rfl, hG⟩)
 ·refine .inl ⟨rfl, ?_, hG⟩
  exact hSP.next sp hnwr hB ⟨_, _, (by rw [← hn1]; exact World.cell?_setCell_same' _ _ _ (by rw [hc1]; rfl)), hX⟩ ⟨_, _, (World.cell?_setCell_far _ _ _ _ sp.lm).trans hc2, hLm⟩
   (fun k h1 _ => Below.heap_setCell _ _ _ _ h1) (fun a => by simp) ((Below.refl _ _).setCell sp.nl _) hk
 ·exact .inr ⟨rfl, hG⟩
theorem finR (sp : Sep Bl Bm Ba Bb n0) (hnwr : n0 ≤ wr.heap.size) (hSP : StP fa fb za zb W0 wr Bl Bm Ba Bb n0 A0 A1 nl nm i j) (hJ : Ab1 J Bl Bm) (hJs : J wr) (hj : j < nm)
  (hB : Below wr.heap.size wr w1) (hc1 : w1.cell? ⟨Bl, 0, none⟩ = some (.slice Al (nl - i) cl)) (hLl : Lft A0 Al za nl i cl) (hc2 : w1.cell? ⟨Bm, 0, none⟩ = some u) (ho : o.dst = some N)
  (hY : ∀ W2, J W2 → YieldAt Fence.wide (n - 1) Tryz.prog l args W2 fun e W' => (e = .returned (.bool true) ∧ G W' ∧ Kp n0 [Bl, Bm, Ba, Bb] W2 W') ∨ (e = .returned (.bool false) ∧ G' W'))
  (hn2 : n2 = nm - (j + 1)) (hX : Lft A1 X zb nm (j + 1) c2')
  (h1 : ∀ W3, StP fa fb za zb W0 W3 Bl Bm Ba Bb n0 A0 A1 nl nm i (j + 1) → G W3 → K (act.put (some N) (.bool true)) W3) (h0 : ∀ W3, G' W3 → K (act.put (some N) (.bool false)) W3) :
  Oper.uponIn Fence.wide n Tryz.prog o act K Q (Sem.run Tryz.prog (Instr.yield l args) (w1.setCell ⟨Bm, 0, none⟩ (.slice X n2 c2'))) := by
 refine fin (G := fun W3 => StP fa fb za zb W0 W3 Bl Bm Ba Bb n0 A0 A1 nl nm i (j + 1) ∧ G W3) (X := G') ho ?_ (fun W3 h => h1 W3 h.1 h.2) h0
 obtain ⟨fn, t, a, b, hy, hR⟩ := hY _ (hJ wr (w1.setCell ⟨Bm, 0, none⟩ (.slice X n2 c2')) (some Bm) hJs (grownBy_set (W2 := wr) hB _) (fun r hr => .inr (by cases hr; rfl)))
 refine ⟨fn, t, a, b, hy, hR.mono ?_⟩
 rintro e W3 (⟨rfl, hG, hk⟩ | ⟨rfl, hG⟩)
 ·refine .inl ⟨rfl, ?_, hG⟩
  exact hSP.next sp hnwr hB ⟨_, _, (World.cell?_setCell_far _ _ _ _ (Ne.symm sp.lm)).trans hc1, hLl⟩ ⟨_, _, (by rw [← hn2]; exact World.cell?_setCell_same' _ _ _ (by rw [hc2]; rfl)), hX⟩
   (fun k _ h1 => Below.heap_setCell _ _ _ _ h1) (fun a => by simp) ((Below.refl _ _).setCell sp.nm _) hk
 ·exact .inr ⟨rfl, hG⟩
theorem finB (sp : Sep Bl Bm Ba Bb n0) (hnwr : n0 ≤ wr.heap.size) (hSP : StP fa fb za zb W0 wr Bl Bm Ba Bb n0 A0 A1 nl nm i j) (hJ : Ab1 J Bl Bm) (hJs : J wr) (hi : i < nl) (hj : j < nm)
  (hB : Below wr.heap.size wr w1) (hc1 : w1.cell? ⟨Bl, 0, none⟩ = some u) (hc2 : w1.cell? ⟨Bm, 0, none⟩ = some u') (ho : o.dst = some N)
  (hY : ∀ W2, J W2 → YieldAt Fence.wide (n - 1) Tryz.prog l args W2 fun e W' => (e = .returned (.bool true) ∧ G W' ∧ Kp n0 [Bl, Bm, Ba, Bb] W2 W') ∨ (e = .returned (.bool false) ∧ G' W'))
  (hn1 : n1 = nl - (i + 1)) (hX : Lft A0 X za nl (i + 1) c1') (hn2 : n2 = nm - (j + 1)) (hX' : Lft A1 X' zb nm (j + 1) c2')
  (h1 : ∀ W3, StP fa fb za zb W0 W3 Bl Bm Ba Bb n0 A0 A1 nl nm (i + 1) (j + 1) → G W3 → K (act.put (some N) (.bool true)) W3) (h0 : ∀ W3, G' W3 → K (act.put (some N) (.bool false)) W3) :
  Oper.uponIn Fence.wide n Tryz.prog o act K Q (Sem.run Tryz.prog (Instr.yield l args) ((w1.setCell ⟨Bl, 0, none⟩ (.slice X n1 c1')).setCell ⟨Bm, 0, none⟩ (.slice X' n2 c2'))) := by
 refine fin (G := fun W3 => StP fa fb za zb W0 W3 Bl Bm Ba Bb n0 A0 A1 nl nm (i + 1) (j + 1) ∧ G W3) (X := G') ho ?_ (fun W3 h => h1 W3 h.1 h.2) h0
 obtain ⟨fn, t, a, b, hy, hR⟩ := hY _ (hJ _ ((w1.setCell ⟨Bl, 0, none⟩ (.slice X n1 c1')).setCell ⟨Bm, 0, none⟩ (.slice X' n2 c2')) (some Bm) (hJ wr _ (some Bl) hJs (grownBy_set (W2 := wr) hB _) (fun r hr => .inl (by cases hr; rfl))) (grownBy_set1 _ _ _) (fun r hr => .inr (by cases hr; rfl)))
 refine ⟨fn, t, a, b, hy, hR.mono ?_⟩
 rintro e W3 (⟨rfl, hG, hk⟩ | ⟨rfl, hG⟩)
 ·refine .inl ⟨rfl, ?_, hG⟩
  exact hSP.next sp hnwr hB ⟨_, _, (by rw [← hn1, World.cell?_setCell_far _ _ _ _ (Ne.symm sp.lm)]; exact World.cell?_setCell_same' _ _ _ (by rw [hc1]; rfl)), hX⟩
   ⟨_, _, (by rw [← hn2]; exact World.cell?_setCell_same' _ _ _ (by rw [World.cell?_setCell_far _ _ _ _ sp.lm, hc2]; rfl)), hX'⟩
   (fun k h1 h2 => (Below.heap_setCell _ _ _ _ h2).trans (Below.heap_setCell _ _ _ _ h1)) (fun a => by simp) (((Below.refl _ _).setCell sp.nl _).setCell sp.nm _) hk
 ·exact .inr ⟨rfl, hG⟩
end
end Go.Proofs.YtclamgljgnjkbaaGreatDoor.PD
end
