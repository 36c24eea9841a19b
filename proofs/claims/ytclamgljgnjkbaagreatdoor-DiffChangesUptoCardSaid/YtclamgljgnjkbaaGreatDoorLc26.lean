/-
  Part of the proof of DiffChangesUptoCardSaid: what Diff.Between says of two rows of leaves, Back turns and Apply takes, up to the bulk that the card names.
  A proof for this seat's program alone; the parts of the words that it needs were printed by the kit, and cut to what is used.
-/
import Derived.Test.YtclamgljgnjkbaaGreatDoorLe
set_option linter.all false
section
namespace Go.Proofs.YtclamgljgnjkbaaGreatDoor.PD
open Go.RowKit Go.Proofs.YtclamgljgnjkbaaGreatDoorW.PrintWords Go.Proofs.YtclamgljgnjkbaaGreatDoorW.PrintLast Go.Proofs.YtclamgljgnjkbaaGreatDoorW.PrintMore
attribute [local go_sem] max2_int min2_int max_two min_two max_three min_three max_four min_four
mutual
def diff_fit.j0 : Nat → Bool → ByteArray → Bool → ByteArray → Bool → ByteArray → Option (Bool)
 | 0, _, _, _, _, _, _ => none
 | k + 1, x3, x258000, x258001, x258002, x258003, x258004 => if x3 = true then (some false) else (if x258001 = true then (diff_fit.j1 k false x258000 x258001 x258002 x258003 x258004) else (diff_fit.j1 k (!x258003) x258000 x258001 x258002 x258003 x258004))
def diff_fit.j1 : Nat → Bool → ByteArray → Bool → ByteArray → Bool → ByteArray → Option (Bool)
 | 0, _, _, _, _, _, _ => none
 | k + 1, x3, x258000, x258001, x258002, x258003, x258004 => if x3 = true then (some false) else (if x258001 = true then (if x258003 = true then (diff_fit.j2 k false x258000 x258001 x258002 x258003 x258004) else (diff_fit.j2 k (x258004.toList != ([] : List UInt8)) x258000 x258001 x258002 x258003 x258004)) else (if x258002.toList = ([] : List UInt8) then (if x258003 = true then (diff_fit.j2 k false x258000 x258001 x258002 x258003 x258004) else (diff_fit.j2 k (x258004.toList != ([] : List UInt8)) x258000 x258001 x258002 x258003 x258004)) else (diff_fit.j2 k true x258000 x258001 x258002 x258003 x258004)))
def diff_fit.j2 : Nat → Bool → ByteArray → Bool → ByteArray → Bool → ByteArray → Option (Bool)
 | 0, _, _, _, _, _, _ => none
 | k + 1, x3, x258000, x258001, x258002, x258003, x258004 => if x3 = true then (some false) else (if x258001 = true then (if x258003 = true then (if x258002.toList = x258004.toList then (some false) else (some true)) else (some true)) else (some true))
end
def diff_fit.f (k : Nat) (a0_0 : ByteArray) (a0_1 : Bool) (a0_2 : ByteArray) (a0_3 : Bool) (a0_4 : ByteArray) : Option (Bool) := (diff_path.f k a0_0).bind fun t258 => (if t258 = true then ((diff_value.f k a0_2).bind fun t259 => (if t259 = true then ((diff_value.f k a0_4).bind fun t260 => (diff_fit.j0 k (!t260) a0_0 a0_1 a0_2 a0_3 a0_4)) else (diff_fit.j0 k true a0_0 a0_1 a0_2 a0_3 a0_4))) else (diff_fit.j0 k true a0_0 a0_1 a0_2 a0_3 a0_4))
set_option maxHeartbeats 8000000 in
set_option maxRecDepth 100000 in
theorem diff_fit.calls (k : Nat) (a0_0 : ByteArray) (a0_1 : Bool) (a0_2 : ByteArray) (a0_3 : Bool) (a0_4 : ByteArray) (r : Bool) (w : World) (h : diff_fit.f k a0_0 a0_1 a0_2 a0_3 a0_4 = some r) :
  Calls Tryz.prog 48 #[.agg #[.string a0_0, .bool a0_1, .string a0_2, .bool a0_3, .string a0_4]] w fun e w' => e = .returned (.bool r) ∧ Below w.heap.size w w' := by
 have hu56 := Tryz.underlying56
 have HB := Az.mk (Below.refl w.heap.size w)
 have H : ((diff_path.f k a0_0).bind fun t258 => (if t258 = true then ((diff_value.f k a0_2).bind fun t259 => (if t259 = true then ((diff_value.f k a0_4).bind fun t260 => (diff_fit.j0 k (!t260) a0_0 a0_1 a0_2 a0_3 a0_4)) else (diff_fit.j0 k true a0_0 a0_1 a0_2 a0_3 a0_4))) else (diff_fit.j0 k true a0_0 a0_1 a0_2 a0_3 a0_4))) = some r := h
 clear h
 have HC2 := Az.mk H
 clear H
 go_enter Tryz.func48, Tryz.ntmps48
 go_upto_region 1 with (first | ((with_reducible refine gate_dst (N := 1) rfl ?_); refine box_event ?hg (N := 1) ?hd (cs := #[.string a0_0, .bool a0_1, .string a0_2, .bool a0_3, .string a0_4]) (t := 56) ?hr ?_; (case hd => rfl); (case hg => rfl); (case hr => first | (go_simp; done) | (go_simp; rfl)); intro gb257 hg w3 hbox hb; have n0_ := Az.mk (below_step (by repeat (first | (with_reducible first | exact HB.out | apply below_alloc | apply pw_below_drewN | apply below_drew1) | exact HB.out)) hb); have n1_ := Az.mk (hbox); have n2_ := Az.mk ((by rw [hg]; exact (below_size (by repeat (first | (with_reducible first | exact HB.out | apply below_alloc | apply pw_below_drewN | apply below_drew1) | exact HB.out))) : w.heap.size ≤ gb257)); have n3_ := Az.mk ((by rw [hg]; exact (below_size (by repeat (first | (with_reducible first | exact HB.out | apply below_alloc | apply pw_below_drewN | apply below_drew1) | exact HB.out))) : w.heap.size ≤ gb257)); clear HB; have HB := n0_; have BK257 := n1_; have GW257 := n2_; have GE257 := n3_; clear n0_ n1_ n2_ n3_; clear hb hbox hg))
 (try simp only [Act.put, List.setIfInBounds_toArray, List.set_cons_zero, List.set_cons_succ])
 go_cut [3] (fun v3 wc => ∃ (kq : Nat) (x3_1 : Bool), v3 = .bool x3_1 ∧ Az (diff_fit.j0 kq x3_1 a0_0 a0_1 a0_2 a0_3 a0_4 = some r) ∧ Az (kq ≤ k) ∧ Az (wc.heap[gb257]? = some (.cells #[.string a0_0, .bool a0_1, .string a0_2, .bool a0_3, .string a0_4] 56 (0, 0))) ∧ Az (Below w.heap.size w wc))
 case first =>
  have H := HC2.out
  clear HC2
  replace H := Option.bind_eq_some_iff.mp H
  obtain ⟨t258, A40, H⟩ := H
  replace H : (if t258 = true then ((diff_value.f k a0_2).bind fun t259 => (if t259 = true then ((diff_value.f k a0_4).bind fun t260 => (diff_fit.j0 k (!t260) a0_0 a0_1 a0_2 a0_3 a0_4)) else (diff_fit.j0 k true a0_0 a0_1 a0_2 a0_3 a0_4))) else (diff_fit.j0 k true a0_0 a0_1 a0_2 a0_3 a0_4)) = some r := H
  have A4 := Az.mk A40
  clear A40
  by_cases c5 : t258 = true
  ·subst c5
   have H1 : ((diff_value.f k a0_2).bind fun t259 => (if t259 = true then ((diff_value.f k a0_4).bind fun t260 => (diff_fit.j0 k (!t260) a0_0 a0_1 a0_2 a0_3 a0_4)) else (diff_fit.j0 k true a0_0 a0_1 a0_2 a0_3 a0_4))) = some r := by rw [if_pos rfl] at H; exact H
   clear H
   have H := H1
   clear H1
   replace H := Option.bind_eq_some_iff.mp H
   obtain ⟨t259, A60, H⟩ := H
   replace H : (if t259 = true then ((diff_value.f k a0_4).bind fun t260 => (diff_fit.j0 k (!t260) a0_0 a0_1 a0_2 a0_3 a0_4)) else (diff_fit.j0 k true a0_0 a0_1 a0_2 a0_3 a0_4)) = some r := H
   have A6 := Az.mk A60
   clear A60
   by_cases c7 : t259 = true
   ·subst c7
    have H1 : ((diff_value.f k a0_4).bind fun t260 => (diff_fit.j0 k (!t260) a0_0 a0_1 a0_2 a0_3 a0_4)) = some r := by rw [if_pos rfl] at H; exact H
    clear H
    have H := H1
    clear H1
    replace H := Option.bind_eq_some_iff.mp H
    obtain ⟨t260, A80, H⟩ := H
    replace H : (diff_fit.j0 k (!t260) a0_0 a0_1 a0_2 a0_3 a0_4) = some r := H
    have A8 := Az.mk A80
    clear A80
    have H' := Az.mk H
    clear H
    have hcz9_0 : w3.cell? ⟨gb257, 0, none⟩ = some (.string a0_0) := (blk_cell BK257.out 0).trans rfl
    have hcz9_1 : w3.cell? ⟨gb257, 1, none⟩ = some (.bool a0_1) := (blk_cell BK257.out 1).trans rfl
    have hcz9_2 : w3.cell? ⟨gb257, 2, none⟩ = some (.string a0_2) := (blk_cell BK257.out 2).trans rfl
    have hcz9_3 : w3.cell? ⟨gb257, 3, none⟩ = some (.bool a0_3) := (blk_cell BK257.out 3).trans rfl
    have hcz9_4 : w3.cell? ⟨gb257, 4, none⟩ = some (.string a0_4) := (blk_cell BK257.out 4).trans rfl
    have hfz9_0 := blk_frozen BK257.out 0
    have hfz9_1 := blk_frozen BK257.out 1
    have hfz9_2 := blk_frozen BK257.out 2
    have hfz9_3 := blk_frozen BK257.out 3
    have hfz9_4 := blk_frozen BK257.out 4
    go_wp2_with (first | ((with_reducible refine gate_callee (f := 37) rfl ?_); refine goesL_ (some 6) rfl rfl Tryz.func37 (by kernel_rfl) rfl #[.string a0_0] rfl (by (try simp only [List.map_toArray, List.map_cons, List.map_nil]); first | done | rfl | (simp only [List.length_drop, List.length_take]; rfl)) ?_; (with_reducible refine (diff_path.calls k a0_0 true _ A4.out).mono ?_); rintro e w' ⟨rfl, ⟨nd, rfl⟩⟩; refine ⟨_, rfl, ?_⟩) | (go_at_call 38; (with_reducible refine (diff_value.calls k a0_2 true _ A6.out).mono ?_); rintro e w' ⟨rfl, ⟨nd, rfl⟩⟩) | (go_at_call 38; (with_reducible refine (diff_value.calls k a0_4 t260 _ A8.out).mono ?_); rintro e w' ⟨rfl, ⟨nd, rfl⟩⟩))
    go_meet
    case rel => exact ⟨_, (!t260), (by first | rfl | (simp; done) | (simp [*]; done)), H', ⟨by first | omega | exact Nat.le_refl _⟩, ⟨by (with_reducible repeat (first | refine blk_drewN ?_ _ | refine blk_drew ?_ | refine blk_alloc ?_ _)); exact BK257.out⟩, ⟨by repeat (first | (with_reducible first | exact HB.out | apply below_alloc | apply pw_below_drewN | apply below_drew1 | refine below_set ?_ GE257.out) | exact HB.out)⟩⟩
   ·replace c7 := Bool.eq_false_iff.mpr c7
    subst c7
    have H1 : (diff_fit.j0 k true a0_0 a0_1 a0_2 a0_3 a0_4) = some r := by rw [if_neg (show ¬ (false = true) by decide)] at H; exact H
    clear H
    have H := H1
    clear H1
    have H' := Az.mk H
    clear H
    have hcz10_0 : w3.cell? ⟨gb257, 0, none⟩ = some (.string a0_0) := (blk_cell BK257.out 0).trans rfl
    have hcz10_1 : w3.cell? ⟨gb257, 1, none⟩ = some (.bool a0_1) := (blk_cell BK257.out 1).trans rfl
    have hcz10_2 : w3.cell? ⟨gb257, 2, none⟩ = some (.string a0_2) := (blk_cell BK257.out 2).trans rfl
    have hcz10_3 : w3.cell? ⟨gb257, 3, none⟩ = some (.bool a0_3) := (blk_cell BK257.out 3).trans rfl
    have hcz10_4 : w3.cell? ⟨gb257, 4, none⟩ = some (.string a0_4) := (blk_cell BK257.out 4).trans rfl
    have hfz10_0 := blk_frozen BK257.out 0
    have hfz10_1 := blk_frozen BK257.out 1
    have hfz10_2 := blk_frozen BK257.out 2
    have hfz10_3 := blk_frozen BK257.out 3
    have hfz10_4 := blk_frozen BK257.out 4
    go_wp2_with (first | ((with_reducible refine gate_callee (f := 37) rfl ?_); refine goesL_ (some 6) rfl rfl Tryz.func37 (by kernel_rfl) rfl #[.string a0_0] rfl (by (try simp only [List.map_toArray, List.map_cons, List.map_nil]); first | done | rfl | (simp only [List.length_drop, List.length_take]; rfl)) ?_; (with_reducible refine (diff_path.calls k a0_0 true _ A4.out).mono ?_); rintro e w' ⟨rfl, ⟨nd, rfl⟩⟩; refine ⟨_, rfl, ?_⟩) | (go_at_call 38; (with_reducible refine (diff_value.calls k a0_2 false _ A6.out).mono ?_); rintro e w' ⟨rfl, ⟨nd, rfl⟩⟩))
    go_meet
    case rel => exact ⟨_, (true), (by first | rfl | (simp; done) | (simp [*]; done)), H', ⟨by first | omega | exact Nat.le_refl _⟩, ⟨by (with_reducible repeat (first | refine blk_drewN ?_ _ | refine blk_drew ?_ | refine blk_alloc ?_ _)); exact BK257.out⟩, ⟨by repeat (first | (with_reducible first | exact HB.out | apply below_alloc | apply pw_below_drewN | apply below_drew1 | refine below_set ?_ GE257.out) | exact HB.out)⟩⟩
  ·replace c5 := Bool.eq_false_iff.mpr c5
   subst c5
   have H1 : (diff_fit.j0 k true a0_0 a0_1 a0_2 a0_3 a0_4) = some r := by rw [if_neg (show ¬ (false = true) by decide)] at H; exact H
   clear H
   have H := H1
   clear H1
   have H' := Az.mk H
   clear H
   have hcz11_0 : w3.cell? ⟨gb257, 0, none⟩ = some (.string a0_0) := (blk_cell BK257.out 0).trans rfl
   have hcz11_1 : w3.cell? ⟨gb257, 1, none⟩ = some (.bool a0_1) := (blk_cell BK257.out 1).trans rfl
   have hcz11_2 : w3.cell? ⟨gb257, 2, none⟩ = some (.string a0_2) := (blk_cell BK257.out 2).trans rfl
   have hcz11_3 : w3.cell? ⟨gb257, 3, none⟩ = some (.bool a0_3) := (blk_cell BK257.out 3).trans rfl
   have hcz11_4 : w3.cell? ⟨gb257, 4, none⟩ = some (.string a0_4) := (blk_cell BK257.out 4).trans rfl
   have hfz11_0 := blk_frozen BK257.out 0
   have hfz11_1 := blk_frozen BK257.out 1
   have hfz11_2 := blk_frozen BK257.out 2
   have hfz11_3 := blk_frozen BK257.out 3
   have hfz11_4 := blk_frozen BK257.out 4
   go_wp2_with (first | ((with_reducible refine gate_callee (f := 37) rfl ?_); refine goesL_ (some 6) rfl rfl Tryz.func37 (by kernel_rfl) rfl #[.string a0_0] rfl (by (try simp only [List.map_toArray, List.map_cons, List.map_nil]); first | done | rfl | (simp only [List.length_drop, List.length_take]; rfl)) ?_; (with_reducible refine (diff_path.calls k a0_0 false _ A4.out).mono ?_); rintro e w' ⟨rfl, ⟨nd, rfl⟩⟩; refine ⟨_, rfl, ?_⟩))
   go_meet
   case rel => exact ⟨_, (true), (by first | rfl | (simp; done) | (simp [*]; done)), H', ⟨by first | omega | exact Nat.le_refl _⟩, ⟨by (with_reducible repeat (first | refine blk_drewN ?_ _ | refine blk_drew ?_ | refine blk_alloc ?_ _)); exact BK257.out⟩, ⟨by repeat (first | (with_reducible first | exact HB.out | apply below_alloc | apply pw_below_drewN | apply below_drew1 | refine below_set ?_ GE257.out) | exact HB.out)⟩⟩
 case rest =>
  clear HC2
  try clear p2
  try clear c3
  try clear c4
  try clear c5
  try clear c7
  try clear hcz10_0
  try clear hcz10_1
  try clear hcz10_2
  try clear hcz10_3
  try clear hcz10_4
  try clear hcz11_0
  try clear hcz11_1
  try clear hcz11_2
  try clear hcz11_3
  try clear hcz11_4
  try clear hcz9_0
  try clear hcz9_1
  try clear hcz9_2
  try clear hcz9_3
  try clear hcz9_4
  try clear hfz10_0
  try clear hfz10_1
  try clear hfz10_2
  try clear hfz10_3
  try clear hfz10_4
  try clear hfz11_0
  try clear hfz11_1
  try clear hfz11_2
  try clear hfz11_3
  try clear hfz11_4
  try clear hfz9_0
  try clear hfz9_1
  try clear hfz9_2
  try clear hfz9_3
  try clear hfz9_4
  obtain ⟨kq, x3_1, rfl, HA, HJ1, BK257, HB⟩ := hcut
  cases kq with
  | zero => exact absurd HA.out (by simp [diff_fit.j0])
  | succ kj1 =>
   have H := HA.out
   clear HA
   simp only [diff_fit.j0] at H
   by_cases c12 : x3_1 = true
   ·subst c12
    have H1 : (some false) = some r := by rw [if_pos rfl] at H; exact H
    clear H
    have H := H1
    clear H1
    obtain rfl := Option.some.inj H
    go_wp2
    go_ret
    exact ⟨by first | rfl | (simp [errW_none, errW_some] <;> rfl) | (simp [*, errW_none, errW_some] <;> rfl), by repeat (first | (with_reducible first | exact HB.out | apply below_alloc | apply pw_below_drewN | apply below_drew1 | refine below_set ?_ GE257.out) | exact HB.out)⟩
   ·replace c12 := Bool.eq_false_iff.mpr c12
    subst c12
    have H1 : (if a0_1 = true then (diff_fit.j1 kj1 false a0_0 a0_1 a0_2 a0_3 a0_4) else (diff_fit.j1 kj1 (!a0_3) a0_0 a0_1 a0_2 a0_3 a0_4)) = some r := by rw [if_neg (show ¬ (false = true) by decide)] at H; exact H
    clear H
    have H := H1
    clear H1
    have HC13 := Az.mk H
    clear H
    go_upto_region 2 with (fail)
    go_cut [3] (fun v3 wc => ∃ (kq : Nat) (x3_12 : Bool), v3 = .bool x3_12 ∧ Az (diff_fit.j1 kq x3_12 a0_0 a0_1 a0_2 a0_3 a0_4 = some r) ∧ Az (kq ≤ kj1) ∧ Az (wc.heap[gb257]? = some (.cells #[.string a0_0, .bool a0_1, .string a0_2, .bool a0_3, .string a0_4] 56 (0, 0))) ∧ Az (Below w.heap.size w wc))
    case first =>
     have H := HC13.out
     clear HC13
     by_cases c14 : a0_1 = true
     ·subst c14
      have H1 : (diff_fit.j1 kj1 false a0_0 true a0_2 a0_3 a0_4) = some r := by rw [if_pos rfl] at H; exact H
      clear H
      have H := H1
      clear H1
      have H' := Az.mk H
      clear H
      have hcz15_0 : wc.cell? ⟨gb257, 0, none⟩ = some (.string a0_0) := (blk_cell BK257.out 0).trans rfl
      have hcz15_1 : wc.cell? ⟨gb257, 1, none⟩ = some (.bool true) := (blk_cell BK257.out 1).trans rfl
      have hcz15_2 : wc.cell? ⟨gb257, 2, none⟩ = some (.string a0_2) := (blk_cell BK257.out 2).trans rfl
      have hcz15_3 : wc.cell? ⟨gb257, 3, none⟩ = some (.bool a0_3) := (blk_cell BK257.out 3).trans rfl
      have hcz15_4 : wc.cell? ⟨gb257, 4, none⟩ = some (.string a0_4) := (blk_cell BK257.out 4).trans rfl
      have hfz15_0 := blk_frozen BK257.out 0
      have hfz15_1 := blk_frozen BK257.out 1
      have hfz15_2 := blk_frozen BK257.out 2
      have hfz15_3 := blk_frozen BK257.out 3
      have hfz15_4 := blk_frozen BK257.out 4
      go_wp2
      go_meet
      case rel => exact ⟨_, (false), (by first | rfl | (simp; done) | (simp [*]; done)), H', ⟨by have := HJ1.out; first | omega | exact Nat.le_refl _⟩, ⟨by (with_reducible repeat (first | refine blk_drewN ?_ _ | refine blk_drew ?_ | refine blk_alloc ?_ _)); exact BK257.out⟩, ⟨by repeat (first | (with_reducible first | exact HB.out | apply below_alloc | apply pw_below_drewN | apply below_drew1 | refine below_set ?_ GE257.out) | exact HB.out)⟩⟩
     ·replace c14 := Bool.eq_false_iff.mpr c14
      subst c14
      have H1 : (diff_fit.j1 kj1 (!a0_3) a0_0 false a0_2 a0_3 a0_4) = some r := by rw [if_neg (show ¬ (false = true) by decide)] at H; exact H
      clear H
      have H := H1
      clear H1
      have H' := Az.mk H
      clear H
      have hcz16_0 : wc.cell? ⟨gb257, 0, none⟩ = some (.string a0_0) := (blk_cell BK257.out 0).trans rfl
      have hcz16_1 : wc.cell? ⟨gb257, 1, none⟩ = some (.bool false) := (blk_cell BK257.out 1).trans rfl
      have hcz16_2 : wc.cell? ⟨gb257, 2, none⟩ = some (.string a0_2) := (blk_cell BK257.out 2).trans rfl
      have hcz16_3 : wc.cell? ⟨gb257, 3, none⟩ = some (.bool a0_3) := (blk_cell BK257.out 3).trans rfl
      have hcz16_4 : wc.cell? ⟨gb257, 4, none⟩ = some (.string a0_4) := (blk_cell BK257.out 4).trans rfl
      have hfz16_0 := blk_frozen BK257.out 0
      have hfz16_1 := blk_frozen BK257.out 1
      have hfz16_2 := blk_frozen BK257.out 2
      have hfz16_3 := blk_frozen BK257.out 3
      have hfz16_4 := blk_frozen BK257.out 4
      go_wp2
      go_meet
      case rel => exact ⟨_, (!a0_3), (by first | rfl | (simp; done) | (simp [*]; done)), H', ⟨by have := HJ1.out; first | omega | exact Nat.le_refl _⟩, ⟨by (with_reducible repeat (first | refine blk_drewN ?_ _ | refine blk_drew ?_ | refine blk_alloc ?_ _)); exact BK257.out⟩, ⟨by repeat (first | (with_reducible first | exact HB.out | apply below_alloc | apply pw_below_drewN | apply below_drew1 | refine below_set ?_ GE257.out) | exact HB.out)⟩⟩
    case rest =>
     clear HC13
     try clear c1
     try clear p2
     try clear c3
     try clear c4
     try clear c5
     try clear c7
     try clear c12
     try clear c14
     try clear hcz10_0
     try clear hcz10_1
     try clear hcz10_2
     try clear hcz10_3
     try clear hcz10_4
     try clear hcz11_0
     try clear hcz11_1
     try clear hcz11_2
     try clear hcz11_3
     try clear hcz11_4
     try clear hcz15_0
     try clear hcz15_1
     try clear hcz15_2
     try clear hcz15_3
     try clear hcz15_4
     try clear hcz16_0
     try clear hcz16_1
     try clear hcz16_2
     try clear hcz16_3
     try clear hcz16_4
     try clear hcz9_0
     try clear hcz9_1
     try clear hcz9_2
     try clear hcz9_3
     try clear hcz9_4
     try clear hfz10_0
     try clear hfz10_1
     try clear hfz10_2
     try clear hfz10_3
     try clear hfz10_4
     try clear hfz11_0
     try clear hfz11_1
     try clear hfz11_2
     try clear hfz11_3
     try clear hfz11_4
     try clear hfz15_0
     try clear hfz15_1
     try clear hfz15_2
     try clear hfz15_3
     try clear hfz15_4
     try clear hfz16_0
     try clear hfz16_1
     try clear hfz16_2
     try clear hfz16_3
     try clear hfz16_4
     try clear hfz9_0
     try clear hfz9_1
     try clear hfz9_2
     try clear hfz9_3
     try clear hfz9_4
     try clear p2
     obtain ⟨kq, x3_12, rfl, HA, HJ12, BK257, HB⟩ := hcut
     cases kq with
     | zero => exact absurd HA.out (by simp [diff_fit.j1])
     | succ kj12 =>
      have H := HA.out
      clear HA
      simp only [diff_fit.j1] at H
      by_cases c17 : x3_12 = true
      ·subst c17
       have H1 : (some false) = some r := by rw [if_pos rfl] at H; exact H
       clear H
       have H := H1
       clear H1
       obtain rfl := Option.some.inj H
       go_wp2
       go_ret
       exact ⟨by first | rfl | (simp [errW_none, errW_some] <;> rfl) | (simp [*, errW_none, errW_some] <;> rfl), by repeat (first | (with_reducible first | exact HB.out | apply below_alloc | apply pw_below_drewN | apply below_drew1 | refine below_set ?_ GE257.out) | exact HB.out)⟩
      ·replace c17 := Bool.eq_false_iff.mpr c17
       subst c17
       have H1 : (if a0_1 = true then (if a0_3 = true then (diff_fit.j2 kj12 false a0_0 a0_1 a0_2 a0_3 a0_4) else (diff_fit.j2 kj12 (a0_4.toList != ([] : List UInt8)) a0_0 a0_1 a0_2 a0_3 a0_4)) else (if a0_2.toList = ([] : List UInt8) then (if a0_3 = true then (diff_fit.j2 kj12 false a0_0 a0_1 a0_2 a0_3 a0_4) else (diff_fit.j2 kj12 (a0_4.toList != ([] : List UInt8)) a0_0 a0_1 a0_2 a0_3 a0_4)) else (diff_fit.j2 kj12 true a0_0 a0_1 a0_2 a0_3 a0_4))) = some r := by rw [if_neg (show ¬ (false = true) by decide)] at H; exact H
       clear H
       have H := H1
       clear H1
       have HC18 := Az.mk H
       clear H
       go_upto_region 3 with (fail)
       go_cut [3] (fun v3 wc => ∃ (kq : Nat) (x3_17 : Bool), v3 = .bool x3_17 ∧ Az (diff_fit.j2 kq x3_17 a0_0 a0_1 a0_2 a0_3 a0_4 = some r) ∧ Az (kq ≤ kj12) ∧ Az (wc.heap[gb257]? = some (.cells #[.string a0_0, .bool a0_1, .string a0_2, .bool a0_3, .string a0_4] 56 (0, 0))) ∧ Az (Below w.heap.size w wc))
       case first =>
        have H := HC18.out
        clear HC18
        by_cases c19 : a0_1 = true
        ·subst c19
         have H1 : (if a0_3 = true then (diff_fit.j2 kj12 false a0_0 true a0_2 a0_3 a0_4) else (diff_fit.j2 kj12 (a0_4.toList != ([] : List UInt8)) a0_0 true a0_2 a0_3 a0_4)) = some r := by rw [if_pos rfl] at H; exact H
         clear H
         have H := H1
         clear H1
         by_cases c20 : a0_3 = true
         ·subst c20
          have H1 : (diff_fit.j2 kj12 false a0_0 true a0_2 true a0_4) = some r := by rw [if_pos rfl] at H; exact H
          clear H
          have H := H1
          clear H1
          have H' := Az.mk H
          clear H
          have hcz21_0 : wc.cell? ⟨gb257, 0, none⟩ = some (.string a0_0) := (blk_cell BK257.out 0).trans rfl
          have hcz21_1 : wc.cell? ⟨gb257, 1, none⟩ = some (.bool true) := (blk_cell BK257.out 1).trans rfl
          have hcz21_2 : wc.cell? ⟨gb257, 2, none⟩ = some (.string a0_2) := (blk_cell BK257.out 2).trans rfl
          have hcz21_3 : wc.cell? ⟨gb257, 3, none⟩ = some (.bool true) := (blk_cell BK257.out 3).trans rfl
          have hcz21_4 : wc.cell? ⟨gb257, 4, none⟩ = some (.string a0_4) := (blk_cell BK257.out 4).trans rfl
          have hfz21_0 := blk_frozen BK257.out 0
          have hfz21_1 := blk_frozen BK257.out 1
          have hfz21_2 := blk_frozen BK257.out 2
          have hfz21_3 := blk_frozen BK257.out 3
          have hfz21_4 := blk_frozen BK257.out 4
          go_wp2
          go_meet
          case rel => exact ⟨_, (false), (by first | rfl | (simp; done) | (simp [*]; done)), H', ⟨by have := HJ1.out; have := HJ12.out; first | omega | exact Nat.le_refl _⟩, ⟨by (with_reducible repeat (first | refine blk_drewN ?_ _ | refine blk_drew ?_ | refine blk_alloc ?_ _)); exact BK257.out⟩, ⟨by repeat (first | (with_reducible first | exact HB.out | apply below_alloc | apply pw_below_drewN | apply below_drew1 | refine below_set ?_ GE257.out) | exact HB.out)⟩⟩
         ·replace c20 := Bool.eq_false_iff.mpr c20
          subst c20
          have H1 : (diff_fit.j2 kj12 (a0_4.toList != ([] : List UInt8)) a0_0 true a0_2 false a0_4) = some r := by rw [if_neg (show ¬ (false = true) by decide)] at H; exact H
          clear H
          have H := H1
          clear H1
          have H' := Az.mk H
          clear H
          have hcz22_0 : wc.cell? ⟨gb257, 0, none⟩ = some (.string a0_0) := (blk_cell BK257.out 0).trans rfl
          have hcz22_1 : wc.cell? ⟨gb257, 1, none⟩ = some (.bool true) := (blk_cell BK257.out 1).trans rfl
          have hcz22_2 : wc.cell? ⟨gb257, 2, none⟩ = some (.string a0_2) := (blk_cell BK257.out 2).trans rfl
          have hcz22_3 : wc.cell? ⟨gb257, 3, none⟩ = some (.bool false) := (blk_cell BK257.out 3).trans rfl
          have hcz22_4 : wc.cell? ⟨gb257, 4, none⟩ = some (.string a0_4) := (blk_cell BK257.out 4).trans rfl
          have hfz22_0 := blk_frozen BK257.out 0
          have hfz22_1 := blk_frozen BK257.out 1
          have hfz22_2 := blk_frozen BK257.out 2
          have hfz22_3 := blk_frozen BK257.out 3
          have hfz22_4 := blk_frozen BK257.out 4
          go_wp2
          go_meet
          case rel => exact ⟨_, ((a0_4.toList != ([] : List UInt8))), (by first | rfl | (simp; done) | (simp [*]; done) | (simp <;> cases a0_4.toList <;> rfl)), H', ⟨by have := HJ1.out; have := HJ12.out; first | omega | exact Nat.le_refl _⟩, ⟨by (with_reducible repeat (first | refine blk_drewN ?_ _ | refine blk_drew ?_ | refine blk_alloc ?_ _)); exact BK257.out⟩, ⟨by repeat (first | (with_reducible first | exact HB.out | apply below_alloc | apply pw_below_drewN | apply below_drew1 | refine below_set ?_ GE257.out) | exact HB.out)⟩⟩
        ·replace c19 := Bool.eq_false_iff.mpr c19
         subst c19
         have H1 : (if a0_2.toList = ([] : List UInt8) then (if a0_3 = true then (diff_fit.j2 kj12 false a0_0 false a0_2 a0_3 a0_4) else (diff_fit.j2 kj12 (a0_4.toList != ([] : List UInt8)) a0_0 false a0_2 a0_3 a0_4)) else (diff_fit.j2 kj12 true a0_0 false a0_2 a0_3 a0_4)) = some r := by rw [if_neg (show ¬ (false = true) by decide)] at H; exact H
         clear H
         have H := H1
         clear H1
         by_cases c23 : a0_2.toList = ([] : List UInt8)
         ·rw [if_pos c23] at H
          have c23b0 : (a0_2.toList == ([] : List UInt8)) = true := beq_iff_eq.mpr c23
          have c23b1 : (a0_2.toList != ([] : List UInt8)) = false := bne_eq_false_iff_eq.mpr c23
          clear c23
          (first | rw [c23b0] | (simp only [i64_w, i32_w]; rw [c23b0]) | skip)
          by_cases c24 : a0_3 = true
          ·subst c24
           have H1 : (diff_fit.j2 kj12 false a0_0 false a0_2 true a0_4) = some r := by rw [if_pos rfl] at H; exact H
           clear H
           have H := H1
           clear H1
           have H' := Az.mk H
           clear H
           have hcz25_0 : wc.cell? ⟨gb257, 0, none⟩ = some (.string a0_0) := (blk_cell BK257.out 0).trans rfl
           have hcz25_1 : wc.cell? ⟨gb257, 1, none⟩ = some (.bool false) := (blk_cell BK257.out 1).trans rfl
           have hcz25_2 : wc.cell? ⟨gb257, 2, none⟩ = some (.string a0_2) := (blk_cell BK257.out 2).trans rfl
           have hcz25_3 : wc.cell? ⟨gb257, 3, none⟩ = some (.bool true) := (blk_cell BK257.out 3).trans rfl
           have hcz25_4 : wc.cell? ⟨gb257, 4, none⟩ = some (.string a0_4) := (blk_cell BK257.out 4).trans rfl
           have hfz25_0 := blk_frozen BK257.out 0
           have hfz25_1 := blk_frozen BK257.out 1
           have hfz25_2 := blk_frozen BK257.out 2
           have hfz25_3 := blk_frozen BK257.out 3
           have hfz25_4 := blk_frozen BK257.out 4
           go_wp2
           go_meet
           case rel => exact ⟨_, (false), (by first | rfl | (simp; done) | (simp [*]; done)), H', ⟨by have := HJ1.out; have := HJ12.out; first | omega | exact Nat.le_refl _⟩, ⟨by (with_reducible repeat (first | refine blk_drewN ?_ _ | refine blk_drew ?_ | refine blk_alloc ?_ _)); exact BK257.out⟩, ⟨by repeat (first | (with_reducible first | exact HB.out | apply below_alloc | apply pw_below_drewN | apply below_drew1 | refine below_set ?_ GE257.out) | exact HB.out)⟩⟩
          ·replace c24 := Bool.eq_false_iff.mpr c24
           subst c24
           have H1 : (diff_fit.j2 kj12 (a0_4.toList != ([] : List UInt8)) a0_0 false a0_2 false a0_4) = some r := by rw [if_neg (show ¬ (false = true) by decide)] at H; exact H
           clear H
           have H := H1
           clear H1
           have H' := Az.mk H
           clear H
           have hcz26_0 : wc.cell? ⟨gb257, 0, none⟩ = some (.string a0_0) := (blk_cell BK257.out 0).trans rfl
           have hcz26_1 : wc.cell? ⟨gb257, 1, none⟩ = some (.bool false) := (blk_cell BK257.out 1).trans rfl
           have hcz26_2 : wc.cell? ⟨gb257, 2, none⟩ = some (.string a0_2) := (blk_cell BK257.out 2).trans rfl
           have hcz26_3 : wc.cell? ⟨gb257, 3, none⟩ = some (.bool false) := (blk_cell BK257.out 3).trans rfl
           have hcz26_4 : wc.cell? ⟨gb257, 4, none⟩ = some (.string a0_4) := (blk_cell BK257.out 4).trans rfl
           have hfz26_0 := blk_frozen BK257.out 0
           have hfz26_1 := blk_frozen BK257.out 1
           have hfz26_2 := blk_frozen BK257.out 2
           have hfz26_3 := blk_frozen BK257.out 3
           have hfz26_4 := blk_frozen BK257.out 4
           go_wp2
           go_meet
           case rel => exact ⟨_, ((a0_4.toList != ([] : List UInt8))), (by first | rfl | (simp; done) | (simp [*]; done) | (simp <;> cases a0_4.toList <;> rfl)), H', ⟨by have := HJ1.out; have := HJ12.out; first | omega | exact Nat.le_refl _⟩, ⟨by (with_reducible repeat (first | refine blk_drewN ?_ _ | refine blk_drew ?_ | refine blk_alloc ?_ _)); exact BK257.out⟩, ⟨by repeat (first | (with_reducible first | exact HB.out | apply below_alloc | apply pw_below_drewN | apply below_drew1 | refine below_set ?_ GE257.out) | exact HB.out)⟩⟩
         ·rw [if_neg c23] at H
          have c23b0 : (a0_2.toList == ([] : List UInt8)) = false := beq_eq_false_iff_ne.mpr c23
          have c23b1 : (a0_2.toList != ([] : List UInt8)) = true := bne_iff_ne.mpr c23
          (first | rw [c23b0] | (simp only [i64_w, i32_w]; rw [c23b0]) | skip)
          have H' := Az.mk H
          clear H
          have hcz27_0 : wc.cell? ⟨gb257, 0, none⟩ = some (.string a0_0) := (blk_cell BK257.out 0).trans rfl
          have hcz27_1 : wc.cell? ⟨gb257, 1, none⟩ = some (.bool false) := (blk_cell BK257.out 1).trans rfl
          have hcz27_2 : wc.cell? ⟨gb257, 2, none⟩ = some (.string a0_2) := (blk_cell BK257.out 2).trans rfl
          have hcz27_3 : wc.cell? ⟨gb257, 3, none⟩ = some (.bool a0_3) := (blk_cell BK257.out 3).trans rfl
          have hcz27_4 : wc.cell? ⟨gb257, 4, none⟩ = some (.string a0_4) := (blk_cell BK257.out 4).trans rfl
          have hfz27_0 := blk_frozen BK257.out 0
          have hfz27_1 := blk_frozen BK257.out 1
          have hfz27_2 := blk_frozen BK257.out 2
          have hfz27_3 := blk_frozen BK257.out 3
          have hfz27_4 := blk_frozen BK257.out 4
          go_wp2
          go_meet
          case rel => exact ⟨_, (true), (by first | rfl | (simp; done) | (simp [*]; done)), H', ⟨by have := HJ1.out; have := HJ12.out; first | omega | exact Nat.le_refl _⟩, ⟨by (with_reducible repeat (first | refine blk_drewN ?_ _ | refine blk_drew ?_ | refine blk_alloc ?_ _)); exact BK257.out⟩, ⟨by repeat (first | (with_reducible first | exact HB.out | apply below_alloc | apply pw_below_drewN | apply below_drew1 | refine below_set ?_ GE257.out) | exact HB.out)⟩⟩
       case rest =>
        clear HC18
        try clear c1
        try clear c2
        try clear p2
        try clear c3
        try clear c4
        try clear c5
        try clear c7
        try clear c12
        try clear c14
        try clear c17
        try clear c19
        try clear c20
        try clear c23
        try clear c23b0
        try clear c23b1
        try clear c24
        try clear hcz10_0
        try clear hcz10_1
        try clear hcz10_2
        try clear hcz10_3
        try clear hcz10_4
        try clear hcz11_0
        try clear hcz11_1
        try clear hcz11_2
        try clear hcz11_3
        try clear hcz11_4
        try clear hcz15_0
        try clear hcz15_1
        try clear hcz15_2
        try clear hcz15_3
        try clear hcz15_4
        try clear hcz16_0
        try clear hcz16_1
        try clear hcz16_2
        try clear hcz16_3
        try clear hcz16_4
        try clear hcz21_0
        try clear hcz21_1
        try clear hcz21_2
        try clear hcz21_3
        try clear hcz21_4
        try clear hcz22_0
        try clear hcz22_1
        try clear hcz22_2
        try clear hcz22_3
        try clear hcz22_4
        try clear hcz25_0
        try clear hcz25_1
        try clear hcz25_2
        try clear hcz25_3
        try clear hcz25_4
        try clear hcz26_0
        try clear hcz26_1
        try clear hcz26_2
        try clear hcz26_3
        try clear hcz26_4
        try clear hcz27_0
        try clear hcz27_1
        try clear hcz27_2
        try clear hcz27_3
        try clear hcz27_4
        try clear hcz9_0
        try clear hcz9_1
        try clear hcz9_2
        try clear hcz9_3
        try clear hcz9_4
        try clear hfz10_0
        try clear hfz10_1
        try clear hfz10_2
        try clear hfz10_3
        try clear hfz10_4
        try clear hfz11_0
        try clear hfz11_1
        try clear hfz11_2
        try clear hfz11_3
        try clear hfz11_4
        try clear hfz15_0
        try clear hfz15_1
        try clear hfz15_2
        try clear hfz15_3
        try clear hfz15_4
        try clear hfz16_0
        try clear hfz16_1
        try clear hfz16_2
        try clear hfz16_3
        try clear hfz16_4
        try clear hfz21_0
        try clear hfz21_1
        try clear hfz21_2
        try clear hfz21_3
        try clear hfz21_4
        try clear hfz22_0
        try clear hfz22_1
        try clear hfz22_2
        try clear hfz22_3
        try clear hfz22_4
        try clear hfz25_0
        try clear hfz25_1
        try clear hfz25_2
        try clear hfz25_3
        try clear hfz25_4
        try clear hfz26_0
        try clear hfz26_1
        try clear hfz26_2
        try clear hfz26_3
        try clear hfz26_4
        try clear hfz27_0
        try clear hfz27_1
        try clear hfz27_2
        try clear hfz27_3
        try clear hfz27_4
        try clear hfz9_0
        try clear hfz9_1
        try clear hfz9_2
        try clear hfz9_3
        try clear hfz9_4
        try clear p2
        obtain ⟨kq, x3_17, rfl, HA, HJ17, BK257, HB⟩ := hcut
        cases kq with
        | zero => exact absurd HA.out (by simp [diff_fit.j2])
        | succ kj17 =>
         have H := HA.out
         clear HA
         simp only [diff_fit.j2] at H
         by_cases c28 : x3_17 = true
         ·subst c28
          have H1 : (some false) = some r := by rw [if_pos rfl] at H; exact H
          clear H
          have H := H1
          clear H1
          obtain rfl := Option.some.inj H
          go_wp2
          go_ret
          exact ⟨by first | rfl | (simp [errW_none, errW_some] <;> rfl) | (simp [*, errW_none, errW_some] <;> rfl), by repeat (first | (with_reducible first | exact HB.out | apply below_alloc | apply pw_below_drewN | apply below_drew1 | refine below_set ?_ GE257.out) | exact HB.out)⟩
         ·replace c28 := Bool.eq_false_iff.mpr c28
          subst c28
          have H1 : (if a0_1 = true then (if a0_3 = true then (if a0_2.toList = a0_4.toList then (some false) else (some true)) else (some true)) else (some true)) = some r := by rw [if_neg (show ¬ (false = true) by decide)] at H; exact H
          clear H
          have H := H1
          clear H1
          by_cases c29 : a0_1 = true
          ·subst c29
           have H1 : (if a0_3 = true then (if a0_2.toList = a0_4.toList then (some false) else (some true)) else (some true)) = some r := by rw [if_pos rfl] at H; exact H
           clear H
           have H := H1
           clear H1
           by_cases c30 : a0_3 = true
           ·subst c30
            have H1 : (if a0_2.toList = a0_4.toList then (some false) else (some true)) = some r := by rw [if_pos rfl] at H; exact H
            clear H
            have H := H1
            clear H1
            by_cases c31 : a0_2.toList = a0_4.toList
            ·rw [if_pos c31] at H
             have c31b0 : (a0_2.toList == a0_4.toList) = true := beq_iff_eq.mpr c31
             have c31b1 : (a0_2.toList != a0_4.toList) = false := bne_eq_false_iff_eq.mpr c31
             clear c31
             obtain rfl := Option.some.inj H
             have hcz32_0 : wc.cell? ⟨gb257, 0, none⟩ = some (.string a0_0) := (blk_cell BK257.out 0).trans rfl
             have hcz32_1 : wc.cell? ⟨gb257, 1, none⟩ = some (.bool true) := (blk_cell BK257.out 1).trans rfl
             have hcz32_2 : wc.cell? ⟨gb257, 2, none⟩ = some (.string a0_2) := (blk_cell BK257.out 2).trans rfl
             have hcz32_3 : wc.cell? ⟨gb257, 3, none⟩ = some (.bool true) := (blk_cell BK257.out 3).trans rfl
             have hcz32_4 : wc.cell? ⟨gb257, 4, none⟩ = some (.string a0_4) := (blk_cell BK257.out 4).trans rfl
             have hfz32_0 := blk_frozen BK257.out 0
             have hfz32_1 := blk_frozen BK257.out 1
             have hfz32_2 := blk_frozen BK257.out 2
             have hfz32_3 := blk_frozen BK257.out 3
             have hfz32_4 := blk_frozen BK257.out 4
             go_wp2
             go_ret
             exact ⟨by first | rfl | (simp [errW_none, errW_some] <;> rfl) | (simp [*, errW_none, errW_some] <;> rfl), by repeat (first | (with_reducible first | exact HB.out | apply below_alloc | apply pw_below_drewN | apply below_drew1 | refine below_set ?_ GE257.out) | exact HB.out)⟩
            ·rw [if_neg c31] at H
             have c31b0 : (a0_2.toList == a0_4.toList) = false := beq_eq_false_iff_ne.mpr c31
             have c31b1 : (a0_2.toList != a0_4.toList) = true := bne_iff_ne.mpr c31
             obtain rfl := Option.some.inj H
             have hcz33_0 : wc.cell? ⟨gb257, 0, none⟩ = some (.string a0_0) := (blk_cell BK257.out 0).trans rfl
             have hcz33_1 : wc.cell? ⟨gb257, 1, none⟩ = some (.bool true) := (blk_cell BK257.out 1).trans rfl
             have hcz33_2 : wc.cell? ⟨gb257, 2, none⟩ = some (.string a0_2) := (blk_cell BK257.out 2).trans rfl
             have hcz33_3 : wc.cell? ⟨gb257, 3, none⟩ = some (.bool true) := (blk_cell BK257.out 3).trans rfl
             have hcz33_4 : wc.cell? ⟨gb257, 4, none⟩ = some (.string a0_4) := (blk_cell BK257.out 4).trans rfl
             have hfz33_0 := blk_frozen BK257.out 0
             have hfz33_1 := blk_frozen BK257.out 1
             have hfz33_2 := blk_frozen BK257.out 2
             have hfz33_3 := blk_frozen BK257.out 3
             have hfz33_4 := blk_frozen BK257.out 4
             go_wp2
             go_ret
             exact ⟨by first | rfl | (simp [errW_none, errW_some] <;> rfl) | (simp [*, errW_none, errW_some] <;> rfl), by repeat (first | (with_reducible first | exact HB.out | apply below_alloc | apply pw_below_drewN | apply below_drew1 | refine below_set ?_ GE257.out) | exact HB.out)⟩
           ·replace c30 := Bool.eq_false_iff.mpr c30
            subst c30
            have H1 : (some true) = some r := by rw [if_neg (show ¬ (false = true) by decide)] at H; exact H
            clear H
            have H := H1
            clear H1
            obtain rfl := Option.some.inj H
            have hcz34_0 : wc.cell? ⟨gb257, 0, none⟩ = some (.string a0_0) := (blk_cell BK257.out 0).trans rfl
            have hcz34_1 : wc.cell? ⟨gb257, 1, none⟩ = some (.bool true) := (blk_cell BK257.out 1).trans rfl
            have hcz34_2 : wc.cell? ⟨gb257, 2, none⟩ = some (.string a0_2) := (blk_cell BK257.out 2).trans rfl
            have hcz34_3 : wc.cell? ⟨gb257, 3, none⟩ = some (.bool false) := (blk_cell BK257.out 3).trans rfl
            have hcz34_4 : wc.cell? ⟨gb257, 4, none⟩ = some (.string a0_4) := (blk_cell BK257.out 4).trans rfl
            have hfz34_0 := blk_frozen BK257.out 0
            have hfz34_1 := blk_frozen BK257.out 1
            have hfz34_2 := blk_frozen BK257.out 2
            have hfz34_3 := blk_frozen BK257.out 3
            have hfz34_4 := blk_frozen BK257.out 4
            go_wp2
            go_ret
            exact ⟨by first | rfl | (simp [errW_none, errW_some] <;> rfl) | (simp [*, errW_none, errW_some] <;> rfl), by repeat (first | (with_reducible first | exact HB.out | apply below_alloc | apply pw_below_drewN | apply below_drew1 | refine below_set ?_ GE257.out) | exact HB.out)⟩
          ·replace c29 := Bool.eq_false_iff.mpr c29
           subst c29
           have H1 : (some true) = some r := by rw [if_neg (show ¬ (false = true) by decide)] at H; exact H
           clear H
           have H := H1
           clear H1
           obtain rfl := Option.some.inj H
           have hcz35_0 : wc.cell? ⟨gb257, 0, none⟩ = some (.string a0_0) := (blk_cell BK257.out 0).trans rfl
           have hcz35_1 : wc.cell? ⟨gb257, 1, none⟩ = some (.bool false) := (blk_cell BK257.out 1).trans rfl
           have hcz35_2 : wc.cell? ⟨gb257, 2, none⟩ = some (.string a0_2) := (blk_cell BK257.out 2).trans rfl
           have hcz35_3 : wc.cell? ⟨gb257, 3, none⟩ = some (.bool a0_3) := (blk_cell BK257.out 3).trans rfl
           have hcz35_4 : wc.cell? ⟨gb257, 4, none⟩ = some (.string a0_4) := (blk_cell BK257.out 4).trans rfl
           have hfz35_0 := blk_frozen BK257.out 0
           have hfz35_1 := blk_frozen BK257.out 1
           have hfz35_2 := blk_frozen BK257.out 2
           have hfz35_3 := blk_frozen BK257.out 3
           have hfz35_4 := blk_frozen BK257.out 4
           go_wp2
           go_ret
           exact ⟨by first | rfl | (simp [errW_none, errW_some] <;> rfl) | (simp [*, errW_none, errW_some] <;> rfl), by repeat (first | (with_reducible first | exact HB.out | apply below_alloc | apply pw_below_drewN | apply below_drew1 | refine below_set ?_ GE257.out) | exact HB.out)⟩
end Go.Proofs.YtclamgljgnjkbaaGreatDoor.PD
end
