/-
  Part of the proof of DiffChangesUptoCardSaid: what Diff.Between says of two rows of leaves, Back turns and Apply takes, up to the bulk that the card names.
  A proof for this seat's program alone; the parts of the words that it needs were printed by the kit, and cut to what is used.
-/
import Derived.Test.YtclamgljgnjkbaaGreatDoorLl
set_option linter.all false
section
namespace Go.Proofs.YtclamgljgnjkbaaGreatDoor.PD
open Go.RowKit Go.Row Go.Shelf Go.Pv Go.Proofs.YtclamgljgnjkbaaGreatDoorW.PrintWords
theorem apply_none {L : List S35} {C : List S56} (h : ∀ x ∈ mg S35.f0 S56.f0 L C, wrong x = 0) : apply L C = ((mg S35.f0 S56.f0 L C).filterMap put, 0) := by
 unfold apply
 have : (mg S35.f0 S56.f0 L C).find? (fun x => !decide (wrong x = 0)) = none := List.find?_eq_none.2 fun x hx => by simp [h x hx]
 rw [this]
theorem apply_some {L : List S35} {C : List S56} {xs : List (Option S35 × Option S56)} {x : Option S35 × Option S56} (hp : xs ++ [x] <+: mg S35.f0 S56.f0 L C) (h : ∀ y ∈ xs, wrong y = 0) (hx : wrong x ≠ 0) : apply L C = (L, wrong x) := by
 obtain ⟨t, ht⟩ := hp
 unfold apply
 have : (mg S35.f0 S56.f0 L C).find? (fun x => !decide (wrong x = 0)) = some x := by
  rw [← ht, List.append_assoc, List.find?_append]
  have h1 : xs.find? (fun x => !decide (wrong x = 0)) = none := List.find?_eq_none.2 fun y hy => by simp [h y hy]
  rw [h1]
  simp [hx]
 rw [this]
theorem Kp_sub {n0 : Nat} {Bs Bs' : List Nat} {W W' : World} (h : Kp n0 Bs W W') (hs : ∀ k ∈ Bs', k ∈ Bs) : Kp n0 Bs' W W' := ⟨h.1, fun k hk => h.2 k (hs k hk)⟩
theorem Kp_below {n0 : Nat} {Bs : List Nat} {W W' : World} (h : Below W.heap.size W W') (hn : n0 ≤ W.heap.size) (hs : ∀ k ∈ Bs, k < W.heap.size) : Kp n0 Bs W W' := ⟨h.mono hn, fun k hk => h.block k (hs k hk)⟩
theorem Kf_below {B : Nat} {W W' : World} (h : Below W.heap.size W W') : KeepsFrom B W W' := ⟨h.size, fun k o _ hk ho => (h.block k (Array.getElem?_eq_some_iff.1 hk).1).trans hk⟩
theorem box_own {β : Type} {n1 Bl k : Nat} {t : TypeId} {v : Value} (hk : k < n1) (hne : k ≠ Bl ∧ k ≠ Bl + 1) : OwnP (β := β) n1 (fun r => r = Bl ∨ r = Bl + 1) (fun _ W => Boxed W k t v) := by
 rintro s W W' row hv hg hr
 refine hv.kept hg ?_
 intro e
 rcases hr k e.symm with ⟨h, _⟩ | h <;> omega
theorem pure_own {β : Type} {n1 Bl : Nat} (p : β → Prop) : OwnP (β := β) n1 (fun r => r = Bl ∨ r = Bl + 1) (fun s _ => p s) := fun s W W' row h _ _ => h
theorem alloc8 (w : World) (o0 o1 o2 o3 o4 o5 o6 o7 : Obj) : ∃ W0, W0 = ((((((((w.alloc o0).alloc o1).alloc o2).alloc o3).alloc o4).alloc o5).alloc o6).alloc o7) ∧ W0.heap.size = w.heap.size + 8 ∧ W0.heap[w.heap.size]? = some o0 ∧ W0.heap[w.heap.size + 1]? = some o1 ∧ W0.heap[w.heap.size + 2]? = some o2 ∧ W0.heap[w.heap.size + 3]? = some o3 ∧
  W0.heap[w.heap.size + 4]? = some o4 ∧ W0.heap[w.heap.size + 4 + 1]? = some o5 ∧ W0.heap[w.heap.size + 4 + 2]? = some o6 ∧ W0.heap[w.heap.size + 4 + 3]? = some o7 ∧ Below w.heap.size w W0 := by
 refine ⟨_, rfl, by simp only [World.size_alloc], aL _ (aL _ (aL _ (aL _ (aL _ (aL _ (aL _ (aN _ ?_))))))), aL _ (aL _ (aL _ (aL _ (aL _ (aL _ (aN _ ?_)))))), aL _ (aL _ (aL _ (aL _ (aL _ (aN _ ?_))))), aL _ (aL _ (aL _ (aL _ (aN _ ?_)))), aL _ (aL _ (aL _ (aN _ ?_))), aL _ (aL _ (aN _ ?_)), aL _ (aN _ ?_), aN _ ?_, ?_⟩
 rotate_right
 ·repeat (first | exact Below.refl _ _ | apply below_alloc)
 all_goals simp only [World.size_alloc]
theorem put_box {W : World} {k j : Nat} {t : TypeId} {v u : Value} (h : Boxed W k t v) (hne : k ≠ j) : Boxed (W.setCell ⟨j, 0, none⟩ u) k t v := h.kept (grownBy_setCell' W j u) (by simpa using hne)
theorem putObj_box {W : World} {k D : Nat} {t : TypeId} {v : Value} {o : Obj} (h : Boxed W k t v) (hne : k ≠ D) : Boxed (W.putObj D o) k t v := h.kept (grownBy_putObj' W D o) (by simpa using hne)
theorem put_own {W : World} {j : Nat} {t e : TypeId} {v' u : Value} {base sz n : Nat} {v : Value} {xs : List Value} (hb : Boxed W j t v') (hte : t ≠ e) (h : W.ownsRow base e sz v n xs) : (W.setCell ⟨j, 0, none⟩ u).ownsRow base e sz v n xs := h.kept (grownBy_setCell' W j u) (.inr (hb.not_row hte h).symm)
end Go.Proofs.YtclamgljgnjkbaaGreatDoor.PD
end
section
namespace Go.Proofs.YtclamgljgnjkbaaGreatDoor.PD
open Go.RowKit Go.Shelf Go.Row Go.Pv Go.Proofs.YtclamgljgnjkbaaGreatDoorW.PrintWords Go.Proofs.YtclamgljgnjkbaaGreatDoorW.PrintLast Go.Proofs.YtclamgljgnjkbaaGreatDoorW.PrintMore
attribute [local go_sem] Oper.semAt_some
def L11_9 : List (Nat × Bool) := [(0, true), (1, true), (2, true), (3, true), (4, false)]
theorem plan11_9 : Oh.plan .any (opsOf Tryz.f11 9) L11_9 [5, 6] = true := by kernel_rfl
def L11_11 : List (Nat × Bool) := [(0, true), (1, true), (2, true), (3, true), (4, true), (5, true), (6, true), (7, true), (8, true), (9, true), (10, false)]
theorem plan11_11 : Oh.plan .any (opsOf Tryz.f11 11) L11_11 [11, 12] = true := by kernel_rfl
set_option maxRecDepth 100000 in
set_option maxHeartbeats 16000000 in
theorem Apply_in (n : Nat) (hn : 5 ≤ n) (A0 A1 : Option Addr) (c0 c1 : Nat) (L : List S35) (M : List S56) (w : World) (hL : Kd.C k35 w A0 L.length L) (hc0 : L.length ≤ c0) (hM : Kd.C k56 w A1 M.length M) (hc1 : M.length ≤ c1) (hbd : L.length + M.length ≤ 1073741824) :
  CallsIn Fence.wide n Tryz.prog 11 #[.slice A0 L.length c0, .slice A1 M.length c1] w fun e W' => ∃ v, e = .returned (.tuple #[v, .int .i64 (apply L M).2]) ∧ W'.ownsRow w.heap.size 35 2 v (apply L M).1.length ((apply L M).1.flatMap en35) ∧ Below w.heap.size w W' := by
 have h1n : 1 ≤ n := by omega
 refine callsIn_of_wp_marks Tryz.func11 rfl trivial ?_ rfl
 simp only [Tryz.ntmps11, List.size_toArray, List.length_cons, List.length_nil, Nat.reduceAdd, Nat.reduceSub, Array.replicate_succ, Array.replicate_zero, List.push_toArray, List.append_toArray, List.nil_append, List.cons_append]
 gi_wp2
 refine ⟨trivial, (callsIn_wide.2 (mk32 _ _ _ _ _ _ _)).mono ?_⟩
 rintro e w' ⟨rfl, rfl⟩
 simp only [World.size_alloc, Nat.add_assoc, Nat.reduceAdd]
 obtain ⟨W0, hW0, hsz, xb0, xb1, xb2, xb3, x0, x1, x2, x3, hb0⟩ := alloc8 w (.cells #[.slice A0 L.length c0] 22) (.cells #[.slice none 0 0] 22) (.cells #[.int .i64 0] 28) (.cells #[.slice none 0 0] 22) (.cells #[.slice A0 L.length c0] 22) (.cells #[.slice A1 M.length c1] 23) (.cells #[.func (.func 33) #[] #[]] 72) (.cells #[.func (.func 34) #[] #[]] 73)
 rw [← hW0]
 gi_wp2
 refine wpIn_rangeFunc_ownP (n := n) rfl h1n (gf := 64) (lb := #[.pointer (some ⟨w.heap.size + 4, 0, none⟩), .pointer (some ⟨w.heap.size + 5, 0, none⟩), .pointer (some ⟨w.heap.size + 6, 0, none⟩), .pointer (some ⟨w.heap.size + 7, 0, none⟩)]) rfl trivial (enters_of Tryz.func64 (by kernel_rfl) rfl)
  (stops64 (n - 1) w W0 A0 A1 c0 c1 (w.heap.size + 4) L M hL hc0 hM hc1 hb0 (by omega) x0 x1 x2 x3) (fun r hr => by omega) (fun h k => Kp_t h k) (Kp_b (by omega) (by simp only [List.mem_cons, List.not_mem_nil, or_false]; omega)) (Below.refl _ _) (fun _ => rfl)
  (fun pre W => OutI 35 2 22 en35 W0.heap.size (w.heap.size + 3) w ((pre.map It.val).filterMap put) W ∧ (∀ x ∈ pre.map It.val, wrong x = 0) ∧ Boxed W w.heap.size 22 (.slice A0 L.length c0) ∧ Boxed W (w.heap.size + 1) 22 (.slice none 0 0) ∧ Boxed W (w.heap.size + 2) 28 (.int .i64 0))
  (fun c pre W => OutI 35 2 22 en35 W0.heap.size (w.heap.size + 1) w L W ∧ c = .ret ∧ ∃ xs x, pre.map It.val = xs ++ [x] ∧ (∀ y ∈ xs, wrong y = 0) ∧ wrong x ≠ 0 ∧ Boxed W (w.heap.size + 2) 28 (.int .i64 (wrong x)))
  ?hI ?hIx ⟨⟨⟨_, xb3, World.ownsRow_nil _ _ _ _⟩, hb0, Nat.le_refl _⟩, by simp, xb0, xb1, xb2⟩ ?a1 ?assign ?body ?done ?stop
 case assign =>
  intro l x W K hK
  gi_wp2
  exact hK
 case hI =>
  exact OwnP.and (outI_own (T := 35) (sz := 2) (tb := 22) (en := en35) (fun pre => (pre.map It.val).filterMap put) (by omega) (by omega) (by omega) (by omega) (by omega)) (OwnP.and (pure_own _) (OwnP.and (box_own (by omega) (by omega)) (OwnP.and (box_own (by omega) (by omega)) (box_own (by omega) (by omega)))))
 case hIx =>
  intro c
  refine OwnP.and (outI_own (T := 35) (sz := 2) (tb := 22) (en := en35) (fun _ => L) (by omega) (by omega) (by omega) (by omega) (by omega)) ?_
  rintro s W W' row ⟨hc, xs, x, h1, h2, h3, hb⟩ hg hr
  exact ⟨hc, xs, x, h1, h2, h3, box_own (Bl := w.heap.size + 4) (n1 := W0.heap.size) (by omega) (by omega) s W W' row hb hg hr⟩
 case stop =>
  rintro D c pre W hD hS ⟨⟨⟨v, hv, hrow⟩, hB, hn1⟩, rfl, xs, x, hp1, hp2, hp3, hbe⟩ hK
  rw [hp1] at hS
  have hap := apply_some hS hp2 hp3
  gi_wp2
  have hq1 := (putObj_box (o := .deferred none) (D := D) hv (by omega)).cell
  have hq2 := (putObj_box (o := .deferred none) (D := D) hbe (by omega)).cell
  refine ⟨by simp, .inl ⟨_, _, rfl, run_takeDeferred hK, ?_⟩⟩
  rw [hap]
  refine ⟨.tuple #[v, .int .i64 (wrong x)], ?_, v, rfl, ownsRow_putObj (own_weaken hrow (by omega)) _ hK rfl, hB.trans (belowK_b (w := w) (Nat.le_refl _) W D _ _ (by omega) hK rfl rfl)⟩
  simp [results, Tryz.f11, go_sem, hq1, hq2]
 case done =>
  rintro D ys W hD hS ⟨⟨⟨v, hv, hrow⟩, hB, hn1⟩, hz, b0, b1, b2⟩ hK
  rw [hS] at hrow hz
  obtain ⟨Av, cv, rfl⟩ := own_slice hrow
  obtain ⟨v, hvd⟩ : ∃ v, v = Value.slice Av ((mg S35.f0 S56.f0 L M).filterMap put).length cv := ⟨_, rfl⟩
  have hrow' := hrow
  rw [← hvd] at hrow'
  have hap := apply_none hz
  have hcv := hv.cell
  have hcb1 := b1.cell
  have hcb2 := b2.cell
  have hfb1 := b1.frozen
  have hfb2 := b2.frozen
  have hcs1 := fun u => (put_box (u := u) (j := w.heap.size + 1) b2 (by omega)).cell
  gi_wp2
  rw [← hvd] at *
  obtain ⟨W2, hW2⟩ : ∃ W2, W2 = (W.setCell ⟨w.heap.size + 1, 0, none⟩ v).setCell ⟨w.heap.size + 2, 0, none⟩ (.int .i64 0) := ⟨_, rfl⟩
  rw [← hW2]
  have p1 : Boxed W2 (w.heap.size + 1) 22 v := by rw [hW2]; exact put_box (b1.set v) (by omega)
  have p2 : Boxed W2 (w.heap.size + 2) 28 (.int .i64 0) := by rw [hW2]; exact (put_box b2 (by omega)).set _
  have p3 : W2.ownsRow W0.heap.size 35 2 v ((mg S35.f0 S56.f0 L M).filterMap put).length (((mg S35.f0 S56.f0 L M).filterMap put).flatMap en35) := by rw [hW2]; exact put_own (put_box b2 (by omega)) (by decide) (put_own b1 (by decide) hrow')
  have p4 : Below w.heap.size w W2 := by rw [hW2]; exact (hB.setCell (by show w.heap.size ≤ w.heap.size + 1; omega) _).setCell (by show w.heap.size ≤ w.heap.size + 2; omega) _
  have hK2 : W2.heap[D]? = some (.deferred (some [])) := by rw [hW2]; exact ((KeepsOthers.setCell _ _ _).trans (KeepsOthers.setCell _ _ _)).same D _ hK rfl
  have hq1 := (putObj_box (o := .deferred none) (D := D) p1 (by omega)).cell
  have hq2 := (putObj_box (o := .deferred none) (D := D) p2 (by omega)).cell
  refine ⟨by simp, .inl ⟨_, _, rfl, run_takeDeferred hK2, ?_⟩⟩
  rw [hap]
  refine ⟨.tuple #[v, .int .i64 0], ?_, v, rfl, ownsRow_putObj (own_weaken p3 (by omega)) _ hK2 rfl, p4.trans (belowK_b (w := w) (Nat.le_refl _) W2 D _ _ (by omega) hK2 rfl rfl)⟩
  simp [results, Tryz.f11, go_sem, hq1, hq2]
 case body =>
  rintro l pre x W ⟨⟨⟨v, hv, hrow⟩, hB, hnW⟩, hz, b0, b1, b2⟩ hlen
  obtain ⟨i0, hi0, hz0, hz1, hz2⟩ := info_parts info35
  have hk := List.length_filterMap_le put (pre.map It.val)
  rw [List.length_map] at hk
  obtain ⟨xs, hxs⟩ : ∃ xs, (pre.map It.val).filterMap put = xs := ⟨_, rfl⟩
  rw [hxs] at hrow hk
  obtain ⟨xa, xb, ha, hb, hab, hx⟩ : ∃ xa xb ha hb hab, x = ⟨xa, xb, ha, hb, hab⟩ := ⟨_, _, _, _, _, rfl⟩
  have hxa : x.a = xa := by rw [hx]
  have hxb : x.b = xb := by rw [hx]
  have hxv : x.val = (xa.bind (L[·]?), xb.bind (M[·]?)) := by rw [hx]; rfl
  rw [hxa, hxb]
  have hptL : PtL W (xa.bind fun i => A0.map (·.add (i * 2))) x.val.1 := by
   rw [hxv]
   cases xa with
   | none => rfl
   | some i =>
    have hi := ha i rfl
    obtain ⟨ad, rfl, e0, e1⟩ := at_T35 (Kd.C_below hL hB) (i : Int) (by omega) (by omega)
    rw [Int.toNat_natCast, rd35 hi] at e0 e1
    simp only [Option.bind_some, hi, List.getElem?_eq_getElem]
    exact ⟨_, rfl, e0, e1⟩
  have hptC : PtC W (xb.bind fun j => A1.map (·.add (j * 5))) x.val.2 := by
   rw [hxv]
   cases xb with
   | none => rfl
   | some j =>
    have hj := hb j rfl
    obtain ⟨bd, rfl, f0, f1, f2, f3, f4⟩ := at_T56 (Kd.C_below hM hB) (j : Int) (by omega) (by omega)
    rw [Int.toNat_natCast, rd56 hj] at f0 f1 f2 f3 f4
    simp only [Option.bind_some, hj, List.getElem?_eq_getElem]
    exact ⟨_, rfl, f0, f1, f2, f3, f4⟩
  have h2n : 1 ≤ n - 1 - 1 := by omega
  gi_wp2
  refine ⟨trivial, (CallsIn.inRound l (wrong_in _ _ _ x.val.1 x.val.2 W hptL hptC)).mono ?_⟩
  rintro e W1 ⟨rfl, hbW⟩
  have hkf1 : KeepsFrom W0.heap.size W W1 := Kf_below hbW
  have hkp1 : Kp w.heap.size [w.heap.size + 4, w.heap.size + 4 + 1, w.heap.size + 4 + 2, w.heap.size + 4 + 3] W W1 := Kp_below hbW (by omega) (by simp only [List.mem_cons, List.not_mem_nil, or_false]; omega)
  have hB1 : Below w.heap.size w W1 := hB.trans hkp1.1
  have hnW1 : W0.heap.size ≤ W1.heap.size := Nat.le_trans hnW hbW.size
  have hv1 : Boxed W1 (w.heap.size + 3) 22 v := (hbW.block _ (by omega)).trans hv
  have hrow1 : W1.ownsRow W0.heap.size 35 2 v xs.length (xs.flatMap en35) := pw_own_below hrow hbW
  have b01 : Boxed W1 w.heap.size 22 (.slice A0 L.length c0) := (hbW.block _ (by omega)).trans b0
  have b11 : Boxed W1 (w.heap.size + 1) 22 (.slice none 0 0) := (hbW.block _ (by omega)).trans b1
  have b21 : Boxed W1 (w.heap.size + 2) 28 (.int .i64 0) := (hbW.block _ (by omega)).trans b2
  have hco1 := hv1.cell
  rcases Decidable.em (wrong x.val = 0) with hw | hw
  ·have hzn : ∀ y ∈ (pre ++ [x]).map It.val, wrong y = 0 := by
    intro y hy
    rw [List.map_append, List.mem_append] at hy
    rcases hy with hy | hy
    ·exact hz y hy
    ·simp at hy; rw [hy]; exact hw
   rw [show wrong (x.val.1, x.val.2) = 0 from hw]
   rcases xb with _ | j
   ·rcases xa with _ | i
    ·rcases hab with h | h <;> cases h
    ·have hi := ha i rfl
     obtain ⟨ad, rfl, e0, e1⟩ := at_T35 (Kd.C_below hL hB1) (i : Int) (by omega) (by omega)
     rw [Int.toNat_natCast, rd35 hi] at e0 e1
     have x_val : x.val = (some L[i], none) := by rw [hxv]; simp [hi]
     have hval : ((pre ++ [x]).map It.val).filterMap put = xs ++ [L[i]] := by
      rw [List.map_append, List.filterMap_append, hxs]
      simp [x_val, put]
     simp only [Option.bind_some, Option.bind_none, Option.map_some]
     gi_wp2
     refine Oh.region (fun w' => w'.cell? ⟨w.heap.size + 3, 0, none⟩ = some v ∧ w'.cell? (ad.add (i * 2)) = some (.string (L[i]).f0) ∧ w'.cell? ⟨(ad.add (i * 2)).block, (ad.add (i * 2)).off + 1, none⟩ = some (.string (L[i]).f1)) L11_9 [5, 6] (by kernel_rfl) (fun _ => trivial) rfl (fun _ _ _ _ _ h => h) plan11_9 ⟨hco1, e0, e1⟩ ?_
     unfold L11_9
     apply Oh.St.pure 26 rfl rfl rfl
     ·rintro w' ⟨c0, c1, c2⟩
      go_simp
      with_reducible rfl
     ·simp only [Act.put, List.setIfInBounds_toArray, List.set_cons_zero, List.set_cons_succ]
      rfl
     apply Oh.St.pure 27 rfl rfl rfl
     ·rintro w' ⟨c0, c1, c2⟩
      go_simp
      with_reducible rfl
     ·simp only [Act.put, List.setIfInBounds_toArray, List.set_cons_zero, List.set_cons_succ]
      rfl
     apply Oh.St.pure 28 rfl rfl rfl
     ·rintro w' ⟨c0, c1, c2⟩
      go_simp
      with_reducible rfl
     ·simp only [Act.put, List.setIfInBounds_toArray, List.set_cons_zero, List.set_cons_succ]
      rfl
     apply Oh.St.pure 29 rfl rfl rfl
     ·rintro w' ⟨c0, c1, c2⟩
      go_simp
      with_reducible rfl
     ·simp only [Act.put, List.setIfInBounds_toArray, List.set_cons_zero, List.set_cons_succ]
      rfl
     apply Oh.St.make 30 rfl rfl rfl
     ·go_simp
      constructor <;> rfl
     ·simp only [Act.put, List.setIfInBounds_toArray, List.set_cons_zero, List.set_cons_succ]
      rfl
     ·exact ⟨cell_alloc _ hco1, cell_alloc _ e0, cell_alloc _ e1⟩
     refine Oh.St.done ?_
     refine wpListIn_append_own _ rfl (.tmp 26) (.tmp 30) 22 rfl W0.heap.size 35 i0 (.agg #[.string ⟨#[]⟩, .string ⟨#[]⟩]) 2 32 Tryz.underlying22 hi0 hz0 hz1 hz2 rfl (by decide) v _ _ rfl (World.ownsRow.alloc (w := W1.drew) hrow1 _) ⟨W1.heap.size, 0, none⟩ 1 1 [.string (L[i]).f0, .string (L[i]).f1] rfl rfl (newCells W1.drew _ 35) (by simp [Value.oneCell']) (by simp only [maxLen]; omega) (by omega) (by show W0.heap.size ≤ (W1.drew.alloc _).heap.size; rw [World.size_alloc]; show W0.heap.size ≤ W1.heap.size + 1; omega) ?_
     intro v' w1 hown' hgrow _
     obtain ⟨g', cap', rfl⟩ := ownsRow_succ hown'
     obtain ⟨r1, r2', r3', r4, r5⟩ := outApp (W := W1.drew) (n0 := w.heap.size) (T := 35) hv1 (by decide) hrow1 (by omega) (by omega) hnW1 hown' hgrow [w.heap.size + 4, w.heap.size + 4 + 1, w.heap.size + 4 + 2, w.heap.size + 4 + 3, w.heap.size, w.heap.size + 1, w.heap.size + 2] (by simp only [List.mem_cons, List.not_mem_nil, or_false]; omega)
     have r2 := Kf_d r2'
     have r3 := Kp_d r3'
     have hc1_ := r1.cell
     have hf1_ := r1.frozen
     gi_wp2
     refine ⟨hkf1.trans r2, Kp_t hkp1 (Kp_sub r3 (by simp only [List.mem_cons, List.not_mem_nil, or_false]; omega)), ⟨⟨_, r4, ?_⟩, hB1.trans r3.1, Nat.le_trans hnW1 r3.1.size⟩, hzn, (r3.2 _ (by simp)).trans b01, (r3.2 _ (by simp)).trans b11, (r3.2 _ (by simp)).trans b21⟩
     rw [hval]
     simpa [en56, en35, PD.e0] using r5
   ·have hj := hb j rfl
    obtain ⟨bd, rfl, f0, f1, f2, f3, f4⟩ := at_T56 (Kd.C_below hM hB1) (j : Int) (by omega) (by omega)
    rw [Int.toNat_natCast, rd56 hj] at f0 f1 f2 f3 f4
    have x_val : x.val.2 = some M[j] := by rw [hxv]; simp [hj]
    simp only [Option.bind_some, Option.bind_none, Option.map_some]
    cases hb3 : (M[j]).f3 with
    | true =>
     have hval : ((pre ++ [x]).map It.val).filterMap put = xs ++ [⟨(M[j]).f0, (M[j]).f4⟩] := by
      rw [List.map_append, List.filterMap_append, hxs]
      obtain ⟨q1, q2⟩ : ∃ q, x.val = (q, some M[j]) := ⟨x.val.1, by rw [← x_val]⟩
      simp [q2, put, hb3]
     rw [hb3] at f3
     gi_wp2
     refine Oh.region (fun w' => w'.cell? ⟨w.heap.size + 3, 0, none⟩ = some v ∧ w'.cell? (bd.add (j * 5)) = some (.string (M[j]).f0) ∧ w'.cell? ⟨(bd.add (j * 5)).block, (bd.add (j * 5)).off + 1, none⟩ = some (.bool (M[j]).f1) ∧ w'.cell? ⟨(bd.add (j * 5)).block, (bd.add (j * 5)).off + 2, none⟩ = some (.string (M[j]).f2) ∧ w'.cell? ⟨(bd.add (j * 5)).block, (bd.add (j * 5)).off + 3, none⟩ = some (.bool true) ∧ w'.cell? ⟨(bd.add (j * 5)).block, (bd.add (j * 5)).off + 4, none⟩ = some (.string (M[j]).f4)) L11_11 [11, 12] (by kernel_rfl) (fun _ => trivial) rfl (fun _ _ _ _ _ h => h) plan11_11 ⟨hco1, f0, f1, f2, f3, f4⟩ ?_
     unfold L11_11
     apply Oh.St.pure 37 rfl rfl rfl
     ·rintro w' ⟨c0, c1, c2, c3, c4, c5⟩
      go_simp
      with_reducible rfl
     ·simp only [Act.put, List.setIfInBounds_toArray, List.set_cons_zero, List.set_cons_succ]
      rfl
     apply Oh.St.pure 38 rfl rfl rfl
     ·rintro w' ⟨c0, c1, c2, c3, c4, c5⟩
      go_simp
      with_reducible rfl
     ·simp only [Act.put, List.setIfInBounds_toArray, List.set_cons_zero, List.set_cons_succ]
      rfl
     apply Oh.St.pure 39 rfl rfl rfl
     ·rintro w' ⟨c0, c1, c2, c3, c4, c5⟩
      go_simp
      with_reducible rfl
     ·simp only [Act.put, List.setIfInBounds_toArray, List.set_cons_zero, List.set_cons_succ]
      rfl
     apply Oh.St.pure 40 rfl rfl rfl
     ·rintro w' ⟨c0, c1, c2, c3, c4, c5⟩
      go_simp
      with_reducible rfl
     ·simp only [Act.put, List.setIfInBounds_toArray, List.set_cons_zero, List.set_cons_succ]
      rfl
     apply Oh.St.pure 41 rfl rfl rfl
     ·rintro w' ⟨c0, c1, c2, c3, c4, c5⟩
      go_simp
      with_reducible rfl
     ·simp only [Act.put, List.setIfInBounds_toArray, List.set_cons_zero, List.set_cons_succ]
      rfl
     apply Oh.St.pure 42 rfl rfl rfl
     ·rintro w' ⟨c0, c1, c2, c3, c4, c5⟩
      go_simp
      with_reducible rfl
     ·simp only [Act.put, List.setIfInBounds_toArray, List.set_cons_zero, List.set_cons_succ]
      rfl
     apply Oh.St.pure 43 rfl rfl rfl
     ·rintro w' ⟨c0, c1, c2, c3, c4, c5⟩
      go_simp
      with_reducible rfl
     ·simp only [Act.put, List.setIfInBounds_toArray, List.set_cons_zero, List.set_cons_succ]
      rfl
     apply Oh.St.pure 44 rfl rfl rfl
     ·rintro w' ⟨c0, c1, c2, c3, c4, c5⟩
      go_simp
      with_reducible rfl
     ·simp only [Act.put, List.setIfInBounds_toArray, List.set_cons_zero, List.set_cons_succ]
      rfl
     apply Oh.St.pure 45 rfl rfl rfl
     ·rintro w' ⟨c0, c1, c2, c3, c4, c5⟩
      go_simp
      with_reducible rfl
     ·simp only [Act.put, List.setIfInBounds_toArray, List.set_cons_zero, List.set_cons_succ]
      rfl
     apply Oh.St.pure 46 rfl rfl rfl
     ·rintro w' ⟨c0, c1, c2, c3, c4, c5⟩
      go_simp
      with_reducible rfl
     ·simp only [Act.put, List.setIfInBounds_toArray, List.set_cons_zero, List.set_cons_succ]
      rfl
     apply Oh.St.make 47 rfl rfl rfl
     ·go_simp
      constructor <;> rfl
     ·simp only [Act.put, List.setIfInBounds_toArray, List.set_cons_zero, List.set_cons_succ]
      rfl
     ·exact ⟨cell_alloc _ hco1, cell_alloc _ f0, cell_alloc _ f1, cell_alloc _ f2, cell_alloc _ f3, cell_alloc _ f4⟩
     refine Oh.St.done ?_
     refine wpListIn_append_own _ rfl (.tmp 37) (.tmp 47) 22 rfl W0.heap.size 35 i0 (.agg #[.string ⟨#[]⟩, .string ⟨#[]⟩]) 2 32 Tryz.underlying22 hi0 hz0 hz1 hz2 rfl (by decide) v _ _ rfl (World.ownsRow.alloc (w := W1.drew) hrow1 _) ⟨W1.heap.size, 0, none⟩ 1 1 [.string (M[j]).f0, .string (M[j]).f4] rfl rfl (newCells W1.drew _ 35) (by simp [Value.oneCell']) (by simp only [maxLen]; omega) (by omega) (by show W0.heap.size ≤ (W1.drew.alloc _).heap.size; rw [World.size_alloc]; show W0.heap.size ≤ W1.heap.size + 1; omega) ?_
     intro v' w1 hown' hgrow _
     obtain ⟨g', cap', rfl⟩ := ownsRow_succ hown'
     obtain ⟨r1, r2', r3', r4, r5⟩ := outApp (W := W1.drew) (n0 := w.heap.size) (T := 35) hv1 (by decide) hrow1 (by omega) (by omega) hnW1 hown' hgrow [w.heap.size + 4, w.heap.size + 4 + 1, w.heap.size + 4 + 2, w.heap.size + 4 + 3, w.heap.size, w.heap.size + 1, w.heap.size + 2] (by simp only [List.mem_cons, List.not_mem_nil, or_false]; omega)
     have r2 := Kf_d r2'
     have r3 := Kp_d r3'
     have hc1_ := r1.cell
     have hf1_ := r1.frozen
     gi_wp2
     refine ⟨hkf1.trans r2, Kp_t hkp1 (Kp_sub r3 (by simp only [List.mem_cons, List.not_mem_nil, or_false]; omega)), ⟨⟨_, r4, ?_⟩, hB1.trans r3.1, Nat.le_trans hnW1 r3.1.size⟩, hzn, (r3.2 _ (by simp)).trans b01, (r3.2 _ (by simp)).trans b11, (r3.2 _ (by simp)).trans b21⟩
     rw [hval]
     simpa [en56, en35, PD.e0] using r5
    | false =>
     have hval : ((pre ++ [x]).map It.val).filterMap put = xs := by
      rw [List.map_append, List.filterMap_append, hxs]
      obtain ⟨q1, q2⟩ : ∃ q, x.val = (q, some M[j]) := ⟨x.val.1, by rw [← x_val]⟩
      simp [q2, put, hb3]
     rw [hb3] at f3
     gi_wp2
     exact ⟨hkf1, hkp1, ⟨⟨v, hv1, by rw [hval]; exact hrow1⟩, hB1, hnW1⟩, hzn, b01, b11, b21⟩
  ·have hcl := b01.cell
   obtain ⟨q, hq⟩ : ∃ q, wrong (x.val.1, x.val.2) = q := ⟨_, rfl⟩
   have hwq : wrong x.val = q := hq
   rw [hwq] at hw
   rw [hq]
   have hqb : (q == 0) = false := by rw [beq_eq_false_iff_ne]; exact hw
   gi_wp2
   refine ⟨trivial, (CallsIn.inRound l (Clone_in _ A0 c0 L W1 (Kd.C_below hL hB1) (by omega))).mono ?_⟩
   rintro e W3 ⟨v3, rfl, hown3, hb3⟩
   obtain ⟨A3, c3, rfl⟩ := own_slice hown3
   obtain ⟨v3, hv3⟩ : ∃ v3, v3 = Value.slice A3 L.length c3 := ⟨_, rfl⟩
   have hown3' := hown3
   rw [← hv3] at hown3'
   have b13 : Boxed W3 (w.heap.size + 1) 22 (.slice none 0 0) := (hb3.block _ (by omega)).trans b11
   have b23 : Boxed W3 (w.heap.size + 2) 28 (.int .i64 0) := (hb3.block _ (by omega)).trans b21
   have hd1 := b13.cell
   have hd2 := b23.cell
   have hg1 := b13.frozen
   have hg2 := b23.frozen
   have hcs1 := fun u => (put_box (u := u) (j := w.heap.size + 1) b23 (by omega)).cell
   gi_wp2
   rw [← hv3] at *
   have p1 : Boxed ((W3.setCell ⟨w.heap.size + 1, 0, none⟩ v3).setCell ⟨w.heap.size + 2, 0, none⟩ (.int .i64 q)) (w.heap.size + 1) 22 v3 := put_box (b13.set v3) (by omega)
   have p2 : Boxed ((W3.setCell ⟨w.heap.size + 1, 0, none⟩ v3).setCell ⟨w.heap.size + 2, 0, none⟩ (.int .i64 q)) (w.heap.size + 2) 28 (.int .i64 q) := (put_box b23 (by omega)).set _
   have p3 := put_own (j := w.heap.size + 2) (u := .int .i64 q) (put_box (j := w.heap.size + 1) (u := v3) b23 (by omega)) (by decide : (28 : Nat) ≠ 35) (put_own (j := w.heap.size + 1) (u := v3) b13 (by decide : (22 : Nat) ≠ 35) hown3')
   have p4 : Below w.heap.size w ((W3.setCell ⟨w.heap.size + 1, 0, none⟩ v3).setCell ⟨w.heap.size + 2, 0, none⟩ (.int .i64 q)) := ((hB1.trans (hb3.mono (by omega))).setCell (by show w.heap.size ≤ w.heap.size + 1; omega) _).setCell (by show w.heap.size ≤ w.heap.size + 2; omega) _
   refine ⟨hkf1.trans ((Kf_below hb3).trans (((KeepsOthers.setCell _ _ _).trans (KeepsOthers.setCell _ _ _)).from _)), ⟨⟨v3, p1, own_weaken p3 hnW1⟩, p4, ?_⟩, rfl, pre.map It.val, x.val, by simp, hz, by rw [hwq]; exact hw, by rw [hwq]; exact p2⟩
   simp only [World.size_setCell]
   exact Nat.le_trans hnW1 hb3.size
end Go.Proofs.YtclamgljgnjkbaaGreatDoor.PD
end
section
namespace Go.Proofs.YtclamgljgnjkbaaGreatDoor.PD
open Go.RowKit Go.Proofs.YtclamgljgnjkbaaGreatDoorW.PrintWords Go.Proofs.YtclamgljgnjkbaaGreatDoorW.PrintLast Go.Proofs.YtclamgljgnjkbaaGreatDoorW.PrintMore
def diff_Apply.f (l0 : List S35) (l1 : List S56) : Option (List S35 × Int) := if l0.length + l1.length ≤ 1073741824 then some (apply l0 l1) else none
theorem diff_Apply.calls (A0 : Option Addr) (c0 : Nat) (l0 : List (S35)) (A1 : Option Addr) (c1 : Nat) (l1 : List (S56)) (r1 : List (S35)) (r2 : Int) (w : World) (hr0 : Kd.C k35 w A0 l0.length l0) (hc0 : l0.length ≤ c0) (hr1 : Kd.C k56 w A1 l1.length l1) (hc1 : l1.length ≤ c1) (h : diff_Apply.f l0 l1 = some (r1, r2)) :
  Calls Tryz.prog 11 #[.slice A0 l0.length c0, .slice A1 l1.length c1] w fun e w' => ∃ v0_ : Value, e = .returned (.tuple #[v0_, .int .i64 r2]) ∧ Kd.R k35 35 w' w.heap.size (fun _ => True) v0_ r1 ∧ Below w.heap.size w w' := by
 unfold diff_Apply.f at h
 split at h
 case isFalse => cases h
 case isTrue hb =>
 have he := Option.some.inj h
 have e1 : (apply l0 l1).1 = r1 := by rw [he]
 have e2 : (apply l0 l1).2 = r2 := by rw [he]
 refine ((callsIn_wide (n := 5)).1 (Apply_in 5 (Nat.le_refl _) A0 A1 c0 c1 l0 l1 w hr0 hc0 hr1 hc1 hb)).mono ?_
 rintro e w' ⟨v, rfl, hown, hbel⟩
 rw [e1] at hown
 exact ⟨v, by rw [e2], R35_of hown, hbel⟩
end Go.Proofs.YtclamgljgnjkbaaGreatDoor.PD
end
