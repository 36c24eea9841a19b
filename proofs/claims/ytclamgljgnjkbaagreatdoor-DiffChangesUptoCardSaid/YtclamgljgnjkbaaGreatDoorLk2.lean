/-
  Part of the proof of DiffChangesUptoCardSaid: what Diff.Between says of two rows of leaves, Back turns and Apply takes, up to the bulk that the card names.
  A proof for this seat's program alone; the parts of the words that it needs were printed by the kit, and cut to what is used.
-/
import Derived.Test.YtclamgljgnjkbaaGreatDoorLk
set_option linter.all false
section
namespace Go.Proofs.YtclamgljgnjkbaaGreatDoor.PD
open Go.RowKit Go.Shelf Go.Row Go.Pv Go.Proofs.YtclamgljgnjkbaaGreatDoorW.PrintWords Go.Proofs.YtclamgljgnjkbaaGreatDoorW.PrintLast Go.Proofs.YtclamgljgnjkbaaGreatDoorW.PrintMore
attribute [local go_sem] Oper.semAt_some
def L20_6 : List (Nat × Bool) := [(0, true), (1, true), (2, true), (3, true), (4, true), (5, true), (6, true), (7, true), (8, true), (9, true), (10, false)]
theorem plan20_6 : Oh.plan .any (opsOf Tryz.f20 6) L20_6 [11, 12] = true := by kernel_rfl
def L20_8 : List (Nat × Bool) := [(0, true), (1, true), (2, true), (3, true), (4, true), (5, true), (6, true), (7, true), (8, true), (9, true), (10, false)]
theorem plan20_8 : Oh.plan .any (opsOf Tryz.f20 8) L20_8 [11, 12] = true := by kernel_rfl
def L20_9 : List (Nat × Bool) := [(0, true), (1, true), (2, true), (3, true), (4, true), (5, true), (6, true), (7, true), (8, true), (9, true)]
theorem plan20_9 : Oh.plan .any (opsOf Tryz.f20 9) L20_9 [] = true := by kernel_rfl
def L20_10 : List (Nat × Bool) := [(0, true), (1, true), (2, true), (3, true), (4, true), (5, true), (6, true), (7, true), (8, true), (9, true), (10, true), (11, true), (12, true), (13, true), (14, false)]
theorem plan20_10 : Oh.plan .any (opsOf Tryz.f20 10) L20_10 [15, 16] = true := by kernel_rfl
set_option maxRecDepth 100000 in
set_option maxHeartbeats 8000000 in
theorem Between_in (n : Nat) (hn : 1 ≤ n) (A0 A1 : Option Addr) (c0 c1 : Nat) (L M : List S35) (w : World) (hL : Kd.C k35 w A0 L.length L) (hc0 : L.length ≤ c0) (hM : Kd.C k35 w A1 M.length M) (hc1 : M.length ≤ c1) (hbd : L.length + M.length ≤ 1073741824) :
  CallsIn Fence.wide n Tryz.prog 20 #[.slice A0 L.length c0, .slice A1 M.length c1] w fun e W' => ∃ v, e = .returned v ∧ W'.ownsRow w.heap.size 56 5 v (between L M).length ((between L M).flatMap en56) ∧ Below w.heap.size w W' := by
 refine callsIn_of_wp_marks Tryz.func20 rfl trivial ?_ rfl
 simp only [Tryz.ntmps20, List.size_toArray, List.length_cons, List.length_nil, Nat.reduceAdd, Nat.reduceSub, Array.replicate_succ, Array.replicate_zero, List.push_toArray, List.append_toArray, List.nil_append, List.cons_append]
 gi_wp2
 refine ⟨trivial, (callsIn_wide.2 (mk47 _ _ _ _ _ _ _)).mono ?_⟩
 rintro e w' ⟨rfl, rfl⟩
 simp only [World.size_alloc]
 obtain ⟨W0, hW0⟩ : ∃ W0, ((((w.alloc (.cells #[.slice none 0 0] 23)).alloc (.cells #[.slice A0 L.length c0] 22)).alloc (.cells #[.slice A1 M.length c1] 22)).alloc (.cells #[.func (.func 33) #[] #[]] 72)).alloc (.cells #[.func (.func 33) #[] #[]] 72) = W0 := ⟨_, rfl⟩
 rw [hW0]
 gi_wp2
 have hsz : W0.heap.size = w.heap.size + 5 := by rw [← hW0]; simp only [World.size_alloc]
 have x0 : W0.heap[w.heap.size + 1]? = some (.cells #[.slice A0 L.length c0] 22 (0, 0)) := by rw [← hW0]; exact (alloc5 w _ _ _ _ _).2.1
 have x1 : W0.heap[w.heap.size + 1 + 1]? = some (.cells #[.slice A1 M.length c1] 22 (0, 0)) := by rw [← hW0]; exact (alloc5 w _ _ _ _ _).2.2.1
 have x2 : W0.heap[w.heap.size + 1 + 2]? = some (.cells #[.func (.func 33) #[] #[]] 72 (0, 0)) := by rw [← hW0]; exact (alloc5 w _ _ _ _ _).2.2.2.1
 have x3 : W0.heap[w.heap.size + 1 + 3]? = some (.cells #[.func (.func 33) #[] #[]] 72 (0, 0)) := by rw [← hW0]; exact (alloc5 w _ _ _ _ _).2.2.2.2
 have xo : Boxed W0 w.heap.size 23 (.slice none 0 0) := by rw [← hW0]; exact (alloc5 w _ _ _ _ _).1
 have hb0 : Below w.heap.size w W0 := by rw [← hW0]; repeat (first | exact Below.refl _ _ | apply below_alloc)
 refine wpIn_rangeFunc_ownP (n := n) rfl hn (gf := 68) (lb := #[.pointer (some ⟨w.heap.size + 1, 0, none⟩), .pointer (some ⟨w.heap.size + 1 + 1, 0, none⟩), .pointer (some ⟨w.heap.size + 1 + 2, 0, none⟩), .pointer (some ⟨w.heap.size + 1 + 3, 0, none⟩)]) rfl trivial (enters_of Tryz.func68 (by kernel_rfl) rfl)
  (stops68 (n - 1) w W0 A0 A1 c0 c1 (w.heap.size + 1) L M hL hc0 hM hc1 hb0 (by omega) x0 x1 x2 x3) (fun r hr => by omega) (fun h k => Kp_t h k) (Kp_b (by omega) (by simp only [List.mem_cons, List.not_mem_nil, or_false]; omega)) (Below.refl _ _) (fun _ => rfl)
  (fun pre W => OutI 56 5 23 en56 W0.heap.size w.heap.size w ((pre.map It.val).filterMap btw) W)
  (fun _ _ _ => False) ?hI (fun _ _ _ _ _ hs _ _ => hs) ⟨⟨_, xo, World.ownsRow_nil _ _ _ _⟩, hb0, Nat.le_refl _⟩ ?a1 ?assign ?body ?done ?stop
 case assign =>
  intro l x W K hK
  gi_wp2
  exact hK
 case hI => exact outI_own (T := 56) (sz := 5) (tb := 23) (en := en56) (fun pre => (pre.map It.val).filterMap btw) (by omega) (by omega) (by omega) (by omega) (by omega)
 case stop => rintro D c pre W _ _ h _; exact h.elim
 case done =>
  rintro D ys W hD hS ⟨⟨v, hv, hrow⟩, hB, hn1⟩ hK
  have hc1 := hv.cell
  gi_wp2
  refine ⟨by simp, .inl ⟨_, _, rfl, run_takeDeferred hK, ?_⟩⟩
  refine ⟨_, results_tmp rfl _ _ _, v, rfl, ?_, hB.trans (belowK_b (w := w) (Nat.le_refl _) W D _ _ (by omega) hK rfl rfl)⟩
  rw [hS] at hrow
  exact ownsRow_putObj (own_weaken hrow (by omega)) _ hK rfl
 case body =>
  rintro l pre x W ⟨⟨v, hv, hrow⟩, hB, hnW⟩ hlen
  obtain ⟨i0, hi0, hz0, hz1, hz2⟩ := info_parts info56
  have hco := hv.cell
  have hk := List.length_filterMap_le btw (pre.map It.val)
  rw [List.length_map] at hk
  obtain ⟨xs, hxs⟩ : ∃ xs, (pre.map It.val).filterMap btw = xs := ⟨_, rfl⟩
  rw [hxs] at hrow hk
  obtain ⟨xa, xb, ha, hb, hab, hx⟩ : ∃ xa xb ha hb hab, x = ⟨xa, xb, ha, hb, hab⟩ := ⟨_, _, _, _, _, rfl⟩
  have hxa : x.a = xa := by rw [hx]
  have hxb : x.b = xb := by rw [hx]
  rw [hxa, hxb]
  rcases xa with _ | i <;> rcases xb with _ | j
  ·rcases hab with h | h <;> cases h
  ·have hj := hb j rfl
   obtain ⟨bd, rfl, f0, f1⟩ := at_T35 (Kd.C_below hM hB) (j : Int) (by omega) (by omega)
   rw [Int.toNat_natCast, rd35 hj] at f0 f1
   have x_val : x.val = (none, some M[j]) := by rw [hx]; simp [It.val, hj]
   have hve : True := trivial
   have hval : ((pre ++ [x]).map It.val).filterMap btw = xs ++ [⟨(M[j]).f0, false, PD.e0, true, (M[j]).f1⟩] := by
    rw [List.map_append, List.filterMap_append, hxs]
    simp [x_val, btw, hve]
   simp only [Option.bind_some, Option.bind_none, Option.map_some]
   gi_wp2
   refine Oh.region (fun w' => w'.cell? ⟨w.heap.size, 0, none⟩ = some v ∧ w'.cell? (bd.add (j * 2)) = some (.string (M[j]).f0) ∧ w'.cell? ⟨(bd.add (j * 2)).block, (bd.add (j * 2)).off + 1, none⟩ = some (.string (M[j]).f1)) L20_8 [11, 12] (by kernel_rfl) (fun _ => trivial) rfl (fun _ _ _ _ _ h => h) plan20_8 ⟨hco, f0, f1⟩ ?_
   unfold L20_8
   apply Oh.St.pure 31 rfl rfl rfl
   ·rintro w' ⟨c0, c1, c2⟩
    go_simp
    with_reducible rfl
   ·simp only [Act.put, List.setIfInBounds_toArray, List.set_cons_zero, List.set_cons_succ]
    rfl
   apply Oh.St.pure 32 rfl rfl rfl
   ·rintro w' ⟨c0, c1, c2⟩
    go_simp
    with_reducible rfl
   ·simp only [Act.put, List.setIfInBounds_toArray, List.set_cons_zero, List.set_cons_succ]
    rfl
   apply Oh.St.pure 33 rfl rfl rfl
   ·rintro w' ⟨c0, c1, c2⟩
    go_simp
    with_reducible rfl
   ·simp only [Act.put, List.setIfInBounds_toArray, List.set_cons_zero, List.set_cons_succ]
    rfl
   apply Oh.St.pure 34 rfl rfl rfl
   ·rintro w' ⟨c0, c1, c2⟩
    go_simp
    with_reducible rfl
   ·simp only [Act.put, List.setIfInBounds_toArray, List.set_cons_zero, List.set_cons_succ]
    rfl
   apply Oh.St.pure 35 rfl rfl rfl
   ·rintro w' ⟨c0, c1, c2⟩
    go_simp
    with_reducible rfl
   ·simp only [Act.put, List.setIfInBounds_toArray, List.set_cons_zero, List.set_cons_succ]
    rfl
   apply Oh.St.pure 36 rfl rfl rfl
   ·rintro w' ⟨c0, c1, c2⟩
    go_simp
    with_reducible rfl
   ·simp only [Act.put, List.setIfInBounds_toArray, List.set_cons_zero, List.set_cons_succ]
    rfl
   apply Oh.St.pure 37 rfl rfl rfl
   ·rintro w' ⟨c0, c1, c2⟩
    go_simp
    with_reducible rfl
   ·simp only [Act.put, List.setIfInBounds_toArray, List.set_cons_zero, List.set_cons_succ]
    rfl
   apply Oh.St.pure 38 rfl rfl rfl
   ·rintro w' ⟨c0, c1, c2⟩
    go_simp
    with_reducible rfl
   ·simp only [Act.put, List.setIfInBounds_toArray, List.set_cons_zero, List.set_cons_succ]
    rfl
   apply Oh.St.pure 39 rfl rfl rfl
   ·rintro w' ⟨c0, c1, c2⟩
    go_simp
    with_reducible rfl
   ·simp only [Act.put, List.setIfInBounds_toArray, List.set_cons_zero, List.set_cons_succ]
    rfl
   apply Oh.St.pure 40 rfl rfl rfl
   ·rintro w' ⟨c0, c1, c2⟩
    go_simp
    with_reducible rfl
   ·simp only [Act.put, List.setIfInBounds_toArray, List.set_cons_zero, List.set_cons_succ]
    rfl
   apply Oh.St.make 41 rfl rfl rfl
   ·go_simp
    constructor <;> rfl
   ·simp only [Act.put, List.setIfInBounds_toArray, List.set_cons_zero, List.set_cons_succ]
    rfl
   ·exact ⟨cell_alloc _ hco, cell_alloc _ f0, cell_alloc _ f1⟩
   refine Oh.St.done ?_
   refine wpListIn_append_own _ rfl (.tmp 31) (.tmp 41) 23 rfl W0.heap.size 56 i0 (.agg #[.string ⟨#[]⟩, .bool false, .string ⟨#[]⟩, .bool false, .string ⟨#[]⟩]) 5 64 Tryz.underlying23 hi0 hz0 hz1 hz2 rfl (by decide) v _ _ rfl (World.ownsRow.alloc (w := W.drew) hrow _) ⟨W.heap.size, 0, none⟩ 1 1 [.string (M[j]).f0, .bool false, .string ⟨#[]⟩, .bool true, .string (M[j]).f1] rfl rfl (newCells W.drew _ 56) (by simp [Value.oneCell']) (by simp only [maxLen]; omega) (by omega) (by show W0.heap.size ≤ (W.drew.alloc _).heap.size; rw [World.size_alloc]; show W0.heap.size ≤ W.heap.size + 1; omega) ?_
   intro v' w1 hown' hgrow _
   obtain ⟨g', cap', rfl⟩ := ownsRow_succ hown'
   obtain ⟨r1, r2', r3', r4, r5⟩ := outApp (W := W.drew) (n0 := w.heap.size) (T := 56) hv (by decide) hrow (Nat.le_refl _) (by omega) hnW hown' hgrow [w.heap.size + 1, w.heap.size + 1 + 1, w.heap.size + 1 + 2, w.heap.size + 1 + 3] (by simp only [List.mem_cons, List.not_mem_nil, or_false]; omega)
   have r2 := Kf_d r2'
   have r3 := Kp_d r3'
   have hc1 := r1.cell
   have hf1 := r1.frozen
   gi_wp2
   refine ⟨r2, r3, ⟨_, r4, ?_⟩, hB.trans r3.1, Nat.le_trans hnW r3.1.size⟩
   rw [hval]
   simpa [en56, en35, PD.e0] using r5
  ·have hi := ha i rfl
   obtain ⟨ad, rfl, e0, e1⟩ := at_T35 (Kd.C_below hL hB) (i : Int) (by omega) (by omega)
   rw [Int.toNat_natCast, rd35 hi] at e0 e1
   have x_val : x.val = (some L[i], none) := by rw [hx]; simp [It.val, hi]
   have hve : True := trivial
   have hval : ((pre ++ [x]).map It.val).filterMap btw = xs ++ [⟨(L[i]).f0, true, (L[i]).f1, false, PD.e0⟩] := by
    rw [List.map_append, List.filterMap_append, hxs]
    simp [x_val, btw, hve]
   simp only [Option.bind_some, Option.bind_none, Option.map_some]
   gi_wp2
   refine Oh.region (fun w' => w'.cell? ⟨w.heap.size, 0, none⟩ = some v ∧ w'.cell? (ad.add (i * 2)) = some (.string (L[i]).f0) ∧ w'.cell? ⟨(ad.add (i * 2)).block, (ad.add (i * 2)).off + 1, none⟩ = some (.string (L[i]).f1)) L20_6 [11, 12] (by kernel_rfl) (fun _ => trivial) rfl (fun _ _ _ _ _ h => h) plan20_6 ⟨hco, e0, e1⟩ ?_
   unfold L20_6
   apply Oh.St.pure 16 rfl rfl rfl
   ·rintro w' ⟨c0, c1, c2⟩
    go_simp
    with_reducible rfl
   ·simp only [Act.put, List.setIfInBounds_toArray, List.set_cons_zero, List.set_cons_succ]
    rfl
   apply Oh.St.pure 17 rfl rfl rfl
   ·rintro w' ⟨c0, c1, c2⟩
    go_simp
    with_reducible rfl
   ·simp only [Act.put, List.setIfInBounds_toArray, List.set_cons_zero, List.set_cons_succ]
    rfl
   apply Oh.St.pure 18 rfl rfl rfl
   ·rintro w' ⟨c0, c1, c2⟩
    go_simp
    with_reducible rfl
   ·simp only [Act.put, List.setIfInBounds_toArray, List.set_cons_zero, List.set_cons_succ]
    rfl
   apply Oh.St.pure 19 rfl rfl rfl
   ·rintro w' ⟨c0, c1, c2⟩
    go_simp
    with_reducible rfl
   ·simp only [Act.put, List.setIfInBounds_toArray, List.set_cons_zero, List.set_cons_succ]
    rfl
   apply Oh.St.pure 20 rfl rfl rfl
   ·rintro w' ⟨c0, c1, c2⟩
    go_simp
    with_reducible rfl
   ·simp only [Act.put, List.setIfInBounds_toArray, List.set_cons_zero, List.set_cons_succ]
    rfl
   apply Oh.St.pure 21 rfl rfl rfl
   ·rintro w' ⟨c0, c1, c2⟩
    go_simp
    with_reducible rfl
   ·simp only [Act.put, List.setIfInBounds_toArray, List.set_cons_zero, List.set_cons_succ]
    rfl
   apply Oh.St.pure 22 rfl rfl rfl
   ·rintro w' ⟨c0, c1, c2⟩
    go_simp
    with_reducible rfl
   ·simp only [Act.put, List.setIfInBounds_toArray, List.set_cons_zero, List.set_cons_succ]
    rfl
   apply Oh.St.pure 23 rfl rfl rfl
   ·rintro w' ⟨c0, c1, c2⟩
    go_simp
    with_reducible rfl
   ·simp only [Act.put, List.setIfInBounds_toArray, List.set_cons_zero, List.set_cons_succ]
    rfl
   apply Oh.St.pure 24 rfl rfl rfl
   ·rintro w' ⟨c0, c1, c2⟩
    go_simp
    with_reducible rfl
   ·simp only [Act.put, List.setIfInBounds_toArray, List.set_cons_zero, List.set_cons_succ]
    rfl
   apply Oh.St.pure 25 rfl rfl rfl
   ·rintro w' ⟨c0, c1, c2⟩
    go_simp
    with_reducible rfl
   ·simp only [Act.put, List.setIfInBounds_toArray, List.set_cons_zero, List.set_cons_succ]
    rfl
   apply Oh.St.make 26 rfl rfl rfl
   ·go_simp
    constructor <;> rfl
   ·simp only [Act.put, List.setIfInBounds_toArray, List.set_cons_zero, List.set_cons_succ]
    rfl
   ·exact ⟨cell_alloc _ hco, cell_alloc _ e0, cell_alloc _ e1⟩
   refine Oh.St.done ?_
   refine wpListIn_append_own _ rfl (.tmp 16) (.tmp 26) 23 rfl W0.heap.size 56 i0 (.agg #[.string ⟨#[]⟩, .bool false, .string ⟨#[]⟩, .bool false, .string ⟨#[]⟩]) 5 64 Tryz.underlying23 hi0 hz0 hz1 hz2 rfl (by decide) v _ _ rfl (World.ownsRow.alloc (w := W.drew) hrow _) ⟨W.heap.size, 0, none⟩ 1 1 [.string (L[i]).f0, .bool true, .string (L[i]).f1, .bool false, .string ⟨#[]⟩] rfl rfl (newCells W.drew _ 56) (by simp [Value.oneCell']) (by simp only [maxLen]; omega) (by omega) (by show W0.heap.size ≤ (W.drew.alloc _).heap.size; rw [World.size_alloc]; show W0.heap.size ≤ W.heap.size + 1; omega) ?_
   intro v' w1 hown' hgrow _
   obtain ⟨g', cap', rfl⟩ := ownsRow_succ hown'
   obtain ⟨r1, r2', r3', r4, r5⟩ := outApp (W := W.drew) (n0 := w.heap.size) (T := 56) hv (by decide) hrow (Nat.le_refl _) (by omega) hnW hown' hgrow [w.heap.size + 1, w.heap.size + 1 + 1, w.heap.size + 1 + 2, w.heap.size + 1 + 3] (by simp only [List.mem_cons, List.not_mem_nil, or_false]; omega)
   have r2 := Kf_d r2'
   have r3 := Kp_d r3'
   have hc1 := r1.cell
   have hf1 := r1.frozen
   gi_wp2
   refine ⟨r2, r3, ⟨_, r4, ?_⟩, hB.trans r3.1, Nat.le_trans hnW r3.1.size⟩
   rw [hval]
   simpa [en56, en35, PD.e0] using r5
  ·have hi := ha i rfl
   have hj := hb j rfl
   obtain ⟨ad, rfl, e0, e1⟩ := at_T35 (Kd.C_below hL hB) (i : Int) (by omega) (by omega)
   rw [Int.toNat_natCast, rd35 hi] at e0 e1
   obtain ⟨bd, rfl, f0, f1⟩ := at_T35 (Kd.C_below hM hB) (j : Int) (by omega) (by omega)
   rw [Int.toNat_natCast, rd35 hj] at f0 f1
   have x_val : x.val = (some L[i], some M[j]) := by rw [hx]; simp [It.val, hi, hj]
   simp only [Option.bind_some, Option.bind_none, Option.map_some]
   cases heq : ((L[i]).f1.toList == (M[j]).f1.toList) with
   | true =>
    have hve : (L[i]).f1 = (M[j]).f1 := toList_inj (eq_of_beq heq)
    have hval : ((pre ++ [x]).map It.val).filterMap btw = xs := by
     rw [List.map_append, List.filterMap_append, hxs]
     simp [x_val, btw, hve]
    skip
    gi_wp2
    refine Oh.region (fun w' => w'.cell? (ad.add (i * 2)) = some (.string (L[i]).f0) ∧ w'.cell? ⟨(ad.add (i * 2)).block, (ad.add (i * 2)).off + 1, none⟩ = some (.string (L[i]).f1) ∧ w'.cell? (bd.add (j * 2)) = some (.string (M[j]).f0) ∧ w'.cell? ⟨(bd.add (j * 2)).block, (bd.add (j * 2)).off + 1, none⟩ = some (.string (M[j]).f1)) L20_9 [] (by kernel_rfl) (fun _ => trivial) rfl (fun _ _ _ _ _ h => h) plan20_9 ⟨e0, e1, f0, f1⟩ ?_
    unfold L20_9
    apply Oh.St.pure 44 rfl rfl rfl
    ·rintro w' ⟨c0, c1, c2, c3⟩
     go_simp
     with_reducible rfl
    ·simp only [Act.put, List.setIfInBounds_toArray, List.set_cons_zero, List.set_cons_succ]
     rfl
    apply Oh.St.pure 45 rfl rfl rfl
    ·rintro w' ⟨c0, c1, c2, c3⟩
     go_simp
     with_reducible rfl
    ·simp only [Act.put, List.setIfInBounds_toArray, List.set_cons_zero, List.set_cons_succ]
     rfl
    apply Oh.St.pure 46 rfl rfl rfl
    ·rintro w' ⟨c0, c1, c2, c3⟩
     go_simp
     with_reducible rfl
    ·simp only [Act.put, List.setIfInBounds_toArray, List.set_cons_zero, List.set_cons_succ]
     rfl
    apply Oh.St.pure 47 rfl rfl rfl
    ·rintro w' ⟨c0, c1, c2, c3⟩
     go_simp
     with_reducible rfl
    ·simp only [Act.put, List.setIfInBounds_toArray, List.set_cons_zero, List.set_cons_succ]
     rfl
    apply Oh.St.pure 48 rfl rfl rfl
    ·rintro w' ⟨c0, c1, c2, c3⟩
     go_simp
     with_reducible rfl
    ·simp only [Act.put, List.setIfInBounds_toArray, List.set_cons_zero, List.set_cons_succ]
     rfl
    apply Oh.St.pure 49 rfl rfl rfl
    ·rintro w' ⟨c0, c1, c2, c3⟩
     go_simp
     with_reducible rfl
    ·simp only [Act.put, List.setIfInBounds_toArray, List.set_cons_zero, List.set_cons_succ]
     rfl
    apply Oh.St.pure 50 rfl rfl rfl
    ·rintro w' ⟨c0, c1, c2, c3⟩
     go_simp
     with_reducible rfl
    ·simp only [Act.put, List.setIfInBounds_toArray, List.set_cons_zero, List.set_cons_succ]
     rfl
    apply Oh.St.pure 51 rfl rfl rfl
    ·rintro w' ⟨c0, c1, c2, c3⟩
     go_simp
     with_reducible rfl
    ·simp only [Act.put, List.setIfInBounds_toArray, List.set_cons_zero, List.set_cons_succ]
     rfl
    apply Oh.St.pure 52 rfl rfl rfl
    ·rintro w' ⟨c0, c1, c2, c3⟩
     go_simp
     with_reducible rfl
    ·simp only [Act.put, List.setIfInBounds_toArray, List.set_cons_zero, List.set_cons_succ]
     rfl
    apply Oh.St.pure 43 rfl rfl rfl
    ·rintro w' ⟨c0, c1, c2, c3⟩
     go_simp
     with_reducible rfl
    ·simp only [Act.put, List.setIfInBounds_toArray, List.set_cons_zero, List.set_cons_succ]
     rfl
    refine Oh.St.done ?_
    refine wpListIn_nil ?_
    gi_wp2
    exact ⟨(KeepsOthers.drew W).from _, ⟨below_drew (Below.refl _ _), fun _ _ => rfl⟩, ⟨v, hv, by rw [hval]; exact hrow⟩, below_drew hB, hnW⟩
   | false =>
    have hve : ¬ ((L[i]).f1 = (M[j]).f1) := fun h => by rw [h] at heq; simp at heq
    have hval : ((pre ++ [x]).map It.val).filterMap btw = xs ++ [⟨(L[i]).f0, true, (L[i]).f1, true, (M[j]).f1⟩] := by
     rw [List.map_append, List.filterMap_append, hxs]
     simp [x_val, btw, hve]
    gi_wp2
    refine Oh.region (fun w' => w'.cell? (ad.add (i * 2)) = some (.string (L[i]).f0) ∧ w'.cell? ⟨(ad.add (i * 2)).block, (ad.add (i * 2)).off + 1, none⟩ = some (.string (L[i]).f1) ∧ w'.cell? (bd.add (j * 2)) = some (.string (M[j]).f0) ∧ w'.cell? ⟨(bd.add (j * 2)).block, (bd.add (j * 2)).off + 1, none⟩ = some (.string (M[j]).f1)) L20_9 [] (by kernel_rfl) (fun _ => trivial) rfl (fun _ _ _ _ _ h => h) plan20_9 ⟨e0, e1, f0, f1⟩ ?_
    unfold L20_9
    apply Oh.St.pure 44 rfl rfl rfl
    ·rintro w' ⟨c0, c1, c2, c3⟩
     go_simp
     with_reducible rfl
    ·simp only [Act.put, List.setIfInBounds_toArray, List.set_cons_zero, List.set_cons_succ]
     rfl
    apply Oh.St.pure 45 rfl rfl rfl
    ·rintro w' ⟨c0, c1, c2, c3⟩
     go_simp
     with_reducible rfl
    ·simp only [Act.put, List.setIfInBounds_toArray, List.set_cons_zero, List.set_cons_succ]
     rfl
    apply Oh.St.pure 46 rfl rfl rfl
    ·rintro w' ⟨c0, c1, c2, c3⟩
     go_simp
     with_reducible rfl
    ·simp only [Act.put, List.setIfInBounds_toArray, List.set_cons_zero, List.set_cons_succ]
     rfl
    apply Oh.St.pure 47 rfl rfl rfl
    ·rintro w' ⟨c0, c1, c2, c3⟩
     go_simp
     with_reducible rfl
    ·simp only [Act.put, List.setIfInBounds_toArray, List.set_cons_zero, List.set_cons_succ]
     rfl
    apply Oh.St.pure 48 rfl rfl rfl
    ·rintro w' ⟨c0, c1, c2, c3⟩
     go_simp
     with_reducible rfl
    ·simp only [Act.put, List.setIfInBounds_toArray, List.set_cons_zero, List.set_cons_succ]
     rfl
    apply Oh.St.pure 49 rfl rfl rfl
    ·rintro w' ⟨c0, c1, c2, c3⟩
     go_simp
     with_reducible rfl
    ·simp only [Act.put, List.setIfInBounds_toArray, List.set_cons_zero, List.set_cons_succ]
     rfl
    apply Oh.St.pure 50 rfl rfl rfl
    ·rintro w' ⟨c0, c1, c2, c3⟩
     go_simp
     with_reducible rfl
    ·simp only [Act.put, List.setIfInBounds_toArray, List.set_cons_zero, List.set_cons_succ]
     rfl
    apply Oh.St.pure 51 rfl rfl rfl
    ·rintro w' ⟨c0, c1, c2, c3⟩
     go_simp
     with_reducible rfl
    ·simp only [Act.put, List.setIfInBounds_toArray, List.set_cons_zero, List.set_cons_succ]
     rfl
    apply Oh.St.pure 52 rfl rfl rfl
    ·rintro w' ⟨c0, c1, c2, c3⟩
     go_simp
     with_reducible rfl
    ·simp only [Act.put, List.setIfInBounds_toArray, List.set_cons_zero, List.set_cons_succ]
     rfl
    apply Oh.St.pure 43 rfl rfl rfl
    ·rintro w' ⟨c0, c1, c2, c3⟩
     go_simp
     with_reducible rfl
    ·simp only [Act.put, List.setIfInBounds_toArray, List.set_cons_zero, List.set_cons_succ]
     rfl
    refine Oh.St.done ?_
    refine wpListIn_nil ?_
    gi_wp2
    refine Oh.region (fun w' => w'.cell? ⟨w.heap.size, 0, none⟩ = some v ∧ w'.cell? (ad.add (i * 2)) = some (.string (L[i]).f0) ∧ w'.cell? ⟨(ad.add (i * 2)).block, (ad.add (i * 2)).off + 1, none⟩ = some (.string (L[i]).f1) ∧ w'.cell? (bd.add (j * 2)) = some (.string (M[j]).f0) ∧ w'.cell? ⟨(bd.add (j * 2)).block, (bd.add (j * 2)).off + 1, none⟩ = some (.string (M[j]).f1)) L20_10 [15, 16] (by kernel_rfl) (fun _ => trivial) rfl (fun _ _ _ _ _ h => h) plan20_10 ⟨hco, e0, e1, f0, f1⟩ ?_
    unfold L20_10
    apply Oh.St.pure 53 rfl rfl rfl
    ·rintro w' ⟨c0, c1, c2, c3, c4⟩
     go_simp
     with_reducible rfl
    ·simp only [Act.put, List.setIfInBounds_toArray, List.set_cons_zero, List.set_cons_succ]
     rfl
    apply Oh.St.pure 54 rfl rfl rfl
    ·rintro w' ⟨c0, c1, c2, c3, c4⟩
     go_simp
     with_reducible rfl
    ·simp only [Act.put, List.setIfInBounds_toArray, List.set_cons_zero, List.set_cons_succ]
     rfl
    apply Oh.St.pure 55 rfl rfl rfl
    ·rintro w' ⟨c0, c1, c2, c3, c4⟩
     go_simp
     with_reducible rfl
    ·simp only [Act.put, List.setIfInBounds_toArray, List.set_cons_zero, List.set_cons_succ]
     rfl
    apply Oh.St.pure 56 rfl rfl rfl
    ·rintro w' ⟨c0, c1, c2, c3, c4⟩
     go_simp
     with_reducible rfl
    ·simp only [Act.put, List.setIfInBounds_toArray, List.set_cons_zero, List.set_cons_succ]
     rfl
    apply Oh.St.pure 57 rfl rfl rfl
    ·rintro w' ⟨c0, c1, c2, c3, c4⟩
     go_simp
     with_reducible rfl
    ·simp only [Act.put, List.setIfInBounds_toArray, List.set_cons_zero, List.set_cons_succ]
     rfl
    apply Oh.St.pure 58 rfl rfl rfl
    ·rintro w' ⟨c0, c1, c2, c3, c4⟩
     go_simp
     with_reducible rfl
    ·simp only [Act.put, List.setIfInBounds_toArray, List.set_cons_zero, List.set_cons_succ]
     rfl
    apply Oh.St.pure 59 rfl rfl rfl
    ·rintro w' ⟨c0, c1, c2, c3, c4⟩
     go_simp
     with_reducible rfl
    ·simp only [Act.put, List.setIfInBounds_toArray, List.set_cons_zero, List.set_cons_succ]
     rfl
    apply Oh.St.pure 60 rfl rfl rfl
    ·rintro w' ⟨c0, c1, c2, c3, c4⟩
     go_simp
     with_reducible rfl
    ·simp only [Act.put, List.setIfInBounds_toArray, List.set_cons_zero, List.set_cons_succ]
     rfl
    apply Oh.St.pure 61 rfl rfl rfl
    ·rintro w' ⟨c0, c1, c2, c3, c4⟩
     go_simp
     with_reducible rfl
    ·simp only [Act.put, List.setIfInBounds_toArray, List.set_cons_zero, List.set_cons_succ]
     rfl
    apply Oh.St.pure 62 rfl rfl rfl
    ·rintro w' ⟨c0, c1, c2, c3, c4⟩
     go_simp
     with_reducible rfl
    ·simp only [Act.put, List.setIfInBounds_toArray, List.set_cons_zero, List.set_cons_succ]
     rfl
    apply Oh.St.pure 63 rfl rfl rfl
    ·rintro w' ⟨c0, c1, c2, c3, c4⟩
     go_simp
     with_reducible rfl
    ·simp only [Act.put, List.setIfInBounds_toArray, List.set_cons_zero, List.set_cons_succ]
     rfl
    apply Oh.St.pure 64 rfl rfl rfl
    ·rintro w' ⟨c0, c1, c2, c3, c4⟩
     go_simp
     with_reducible rfl
    ·simp only [Act.put, List.setIfInBounds_toArray, List.set_cons_zero, List.set_cons_succ]
     rfl
    apply Oh.St.pure 65 rfl rfl rfl
    ·rintro w' ⟨c0, c1, c2, c3, c4⟩
     go_simp
     with_reducible rfl
    ·simp only [Act.put, List.setIfInBounds_toArray, List.set_cons_zero, List.set_cons_succ]
     rfl
    apply Oh.St.pure 66 rfl rfl rfl
    ·rintro w' ⟨c0, c1, c2, c3, c4⟩
     go_simp
     with_reducible rfl
    ·simp only [Act.put, List.setIfInBounds_toArray, List.set_cons_zero, List.set_cons_succ]
     rfl
    apply Oh.St.make 67 rfl rfl rfl
    ·go_simp
     constructor <;> rfl
    ·simp only [Act.put, List.setIfInBounds_toArray, List.set_cons_zero, List.set_cons_succ]
     rfl
    ·exact ⟨cell_alloc _ hco, cell_alloc _ e0, cell_alloc _ e1, cell_alloc _ f0, cell_alloc _ f1⟩
    refine Oh.St.done ?_
    refine wpListIn_append_own _ rfl (.tmp 53) (.tmp 67) 23 rfl W0.heap.size 56 i0 (.agg #[.string ⟨#[]⟩, .bool false, .string ⟨#[]⟩, .bool false, .string ⟨#[]⟩]) 5 64 Tryz.underlying23 hi0 hz0 hz1 hz2 rfl (by decide) v _ _ rfl (World.ownsRow.alloc (w := W.drew.drew) hrow _) ⟨W.heap.size, 0, none⟩ 1 1 [.string (L[i]).f0, .bool true, .string (L[i]).f1, .bool true, .string (M[j]).f1] rfl rfl (newCells W.drew.drew _ 56) (by simp [Value.oneCell']) (by simp only [maxLen]; omega) (by omega) (by show W0.heap.size ≤ (W.drew.drew.alloc _).heap.size; rw [World.size_alloc]; show W0.heap.size ≤ W.heap.size + 1; omega) ?_
    intro v' w1 hown' hgrow _
    obtain ⟨g', cap', rfl⟩ := ownsRow_succ hown'
    obtain ⟨r1, r2', r3', r4, r5⟩ := outApp (W := W.drew.drew) (n0 := w.heap.size) (T := 56) hv (by decide) hrow (Nat.le_refl _) (by omega) hnW hown' hgrow [w.heap.size + 1, w.heap.size + 1 + 1, w.heap.size + 1 + 2, w.heap.size + 1 + 3] (by simp only [List.mem_cons, List.not_mem_nil, or_false]; omega)
    have r2 := Kf_d (Kf_d r2')
    have r3 := Kp_d (Kp_d r3')
    have hc1 := r1.cell
    have hf1 := r1.frozen
    gi_wp2
    refine ⟨r2, r3, ⟨_, r4, ?_⟩, hB.trans r3.1, Nat.le_trans hnW r3.1.size⟩
    rw [hval]
    simpa [en56, en35, PD.e0] using r5
end Go.Proofs.YtclamgljgnjkbaaGreatDoor.PD
end
section
namespace Go.Proofs.YtclamgljgnjkbaaGreatDoor.PD
open Go.RowKit Go.Proofs.YtclamgljgnjkbaaGreatDoorW.PrintWords Go.Proofs.YtclamgljgnjkbaaGreatDoorW.PrintLast Go.Proofs.YtclamgljgnjkbaaGreatDoorW.PrintMore
def diff_Between.f (l0 : List S35) (l1 : List S35) : Option (List S56) := if l0.length + l1.length ≤ 1073741824 then some (between l0 l1) else none
theorem diff_Between.calls (A0 : Option Addr) (c0 : Nat) (l0 : List (S35)) (A1 : Option Addr) (c1 : Nat) (l1 : List (S35)) (r : List (S56)) (w : World) (hr0 : Kd.C k35 w A0 l0.length l0) (hc0 : l0.length ≤ c0) (hr1 : Kd.C k35 w A1 l1.length l1) (hc1 : l1.length ≤ c1) (h : diff_Between.f l0 l1 = some r) :
  Calls Tryz.prog 20 #[.slice A0 l0.length c0, .slice A1 l1.length c1] w fun e w' => ∃ v0_ : Value, e = .returned (v0_) ∧ Kd.R k56 56 w' w.heap.size (fun _ => True) v0_ r ∧ Below w.heap.size w w' := by
 unfold diff_Between.f at h
 split at h
 case isFalse => cases h
 case isTrue hb =>
 obtain rfl := Option.some.inj h
 refine ((callsIn_wide (n := 5)).1 (Between_in 5 (by omega) A0 A1 c0 c1 l0 l1 w hr0 hc0 hr1 hc1 hb)).mono ?_
 rintro e w' ⟨v, rfl, hown, hbel⟩
 exact ⟨v, rfl, R56_of hown, hbel⟩
end Go.Proofs.YtclamgljgnjkbaaGreatDoor.PD
end
