/-
  Part of the proof of DiffChangesUptoCardSaid: what Diff.Between says of two rows of leaves, Back turns and Apply takes, up to the bulk that the card names.
  A proof for this seat's program alone; the parts of the words that it needs were printed by the kit, and cut to what is used.
-/
import Derived.Lib.LazyBuf
import Derived.Test.YtclamgljgnjkbaaGreatDoorLk
set_option linter.all false
section
namespace Go.Proofs.YtclamgljgnjkbaaGreatDoor.PD
open Go.RowKit Go.Shelf Go.Row Go.Pv Go.Proofs.YtclamgljgnjkbaaGreatDoorW.PrintWords Go.Proofs.YtclamgljgnjkbaaGreatDoorW.PrintLast Go.Proofs.YtclamgljgnjkbaaGreatDoorW.PrintMore
attribute [local go_sem] Oper.semAt_some
theorem reps_flat {α : Type} {R : α → List Value → Prop} {sz : Nat} {en : α → List Value} (hR : ∀ x cs, R x cs → cs = en x) : ∀ (L : List α) (inner : List Value), Reps R sz L inner → inner = L.flatMap en
 | [], inner, h => by have := h.1; simp at this; simp [this]
 | x :: L, inner, h => by
  have h0 := hR _ _ (h.2 0 x rfl)
  have hd := Kd.reps_drop (m := 1) h
  simp only [List.drop_succ_cons, List.drop_zero, Nat.one_mul] at hd
  rw [List.flatMap_cons, ← reps_flat hR L _ hd, ← h0]
  simp
set_option maxRecDepth 100000 in
set_option maxHeartbeats 4000000 in
theorem Clone_in (n : Nat) (A0 : Option Addr) (c0 : Nat) (L : List S35) (w : World) (hL : Kd.C k35 w A0 L.length L) (hbd : L.length ≤ 1073741824) :
  CallsIn Fence.wide n Tryz.prog 36 #[.slice A0 L.length c0] w fun e W' => ∃ v, e = .returned v ∧ W'.ownsRow w.heap.size 35 2 v L.length (L.flatMap en35) ∧ Below w.heap.size w W' := by
 obtain ⟨i0, hi0, hz0, hz1, hz2⟩ := info_parts info35
 refine callsIn_of_wp Tryz.func36 rfl trivial ?_ rfl
 simp only [Tryz.ntmps36, List.size_toArray, List.length_cons, List.length_nil, Nat.reduceAdd, Nat.reduceSub, Array.replicate_succ, Array.replicate_zero, List.push_toArray, List.append_toArray, List.nil_append, List.cons_append]
 have hnil := fun (a : Option Addr) (l c : Nat) (w : World) => run_eql_slice_nil w 22 35 a l c Tryz.underlying22
 cases A0 with
 | none =>
  have h0 : L.length = 0 := by
   rcases Nat.eq_zero_or_pos L.length with h | h
   ·exact h
   ·obtain ⟨ad, c, he, _⟩ := Kd.C_get hL z35 0 (by omega) (by omega); cases he
  obtain rfl : L = [] := List.eq_nil_of_length_eq_zero h0
  gi_wp2
  go_ret
  exact ⟨_, rfl, World.ownsRow_nil _ _ _ _, by repeat (first | exact Below.refl _ _ | apply below_alloc)⟩
 | some ad =>
  obtain ⟨inner, hr, hcell⟩ := ReadsRow.inner_ hL
  have hin : inner = L.flatMap en35 := reps_flat (fun x cs h => k35_open h) L inner hr
  have hone : ∀ u ∈ inner, u.oneCell' = true := by
   subst hin; intro u hu; obtain ⟨x, _, hx⟩ := List.mem_flatMap.1 hu; simp [en35] at hx; rcases hx with rfl | rfl <;> rfl
  gi_wp2_with (gi_at_builtin; refine wpListIn_append_own _ rfl (.tmp 5) (.tmp 6) 22 rfl w.heap.size 35 i0 (.agg #[.string ⟨#[]⟩, .string ⟨#[]⟩]) 2 32 Tryz.underlying22 hi0 hz0 hz1 hz2 rfl (by decide) _ 0 [] rfl (World.ownsRow_lit (base := w.heap.size) (e := 35) (size := 2) w #[] 0 (Nat.le_refl _) (by simp [maxLen]) rfl) ad L.length c0 inner rfl hr.1 (fun j u h => cell_alloc _ (hcell j u h)) hone (by simp only [maxLen]; omega) (by omega) (by rw [World.size_alloc]; omega) ?_; intro v' w1 hown' hgrow _)
  have hbw : Below w.heap.size w w1 := (below_alloc (Below.refl _ _) _).grown hgrow (by rw [World.size_alloc]; omega) (fun k e => by first | (cases e; exact Nat.le_refl _) | (unfold Value.ownBlock at e; simp at e; omega))
  refine bodyPost_ret (results_tmp rfl _ _ _) rfl ?_
  exact ⟨_, rfl, by subst hin; simpa using hown', hbw⟩
end Go.Proofs.YtclamgljgnjkbaaGreatDoor.PD
end
section
namespace Go.Proofs.YtclamgljgnjkbaaGreatDoor.PD
open Go.RowKit Go.Shelf Go.Row Go.Pv Go.Proofs.YtclamgljgnjkbaaGreatDoorW.PrintWords Go.Proofs.YtclamgljgnjkbaaGreatDoorW.PrintLast Go.Proofs.YtclamgljgnjkbaaGreatDoorW.PrintMore
attribute [local go_sem] Oper.semAt_some
def L35_6 : List (Nat × Bool) := [(0, true), (1, true), (2, true), (3, true), (4, true), (5, true), (6, true), (7, true), (8, true), (9, true), (10, true), (11, true), (12, true), (13, true), (14, true), (15, true)]
theorem plan35_6 : Oh.plan .any (opsOf Tryz.f35 6) L35_6 [] = true := by kernel_rfl
def PtL (w : World) (p : Option Addr) : Option S35 → Prop
 | none => p = none
 | some x => ∃ xd, p = some xd ∧ w.cell? xd = some (.string x.f0) ∧ w.cell? ⟨xd.block, xd.off + 1, none⟩ = some (.string x.f1)
def PtC (w : World) (p : Option Addr) : Option S56 → Prop
 | none => p = none
 | some c => ∃ cd, p = some cd ∧ w.cell? cd = some (.string c.f0) ∧ w.cell? ⟨cd.block, cd.off + 1, none⟩ = some (.bool c.f1) ∧ w.cell? ⟨cd.block, cd.off + 2, none⟩ = some (.string c.f2) ∧ w.cell? ⟨cd.block, cd.off + 3, none⟩ = some (.bool c.f3) ∧ w.cell? ⟨cd.block, cd.off + 4, none⟩ = some (.string c.f4)
set_option maxRecDepth 100000 in
set_option maxHeartbeats 8000000 in
theorem wrong_in (n : Nat) (px pc : Option Addr) (xo : Option S35) (co : Option S56) (w : World) (hx : PtL w px xo) (hc : PtC w pc co) :
  CallsIn Fence.wide n Tryz.prog 35 #[.pointer px, .pointer pc] w fun e W' => e = .returned (.int .i64 (wrong (xo, co))) ∧ Below w.heap.size w W' := by
 refine callsIn_of_wp Tryz.func35 rfl trivial ?_ rfl
 simp only [Tryz.ntmps35, List.size_toArray, List.length_cons, List.length_nil, Nat.reduceAdd, Nat.reduceSub, Array.replicate_succ, Array.replicate_zero, List.push_toArray, List.append_toArray, List.nil_append, List.cons_append]
 cases co with
 | none =>
  obtain rfl : pc = none := hc
  gi_wp2
  refine bodyPost_ret (results_tmp rfl _ _ _) rfl ?_
  exact ⟨by simp [wrong], Below.refl _ _⟩
 | some c =>
  obtain ⟨cd, rfl, f0, f1, f2, f3, f4⟩ := hc
  cases xo with
  | none =>
   obtain rfl : px = none := hx
   cases hb : c.f1 with
   | true =>
    rw [hb] at f1
    gi_wp2
    refine bodyPost_ret (results_tmp rfl _ _ _) rfl ?_
    exact ⟨by simp [wrong, hb], Below.refl _ _⟩
   | false =>
    rw [hb] at f1
    gi_wp2
    refine Oh.region (fun w' => w'.cell? cd = some (.string c.f0) ∧ w'.cell? ⟨cd.block, cd.off + 1, none⟩ = some (.bool false) ∧ w'.cell? ⟨cd.block, cd.off + 2, none⟩ = some (.string c.f2) ∧ w'.cell? ⟨cd.block, cd.off + 3, none⟩ = some (.bool c.f3) ∧ w'.cell? ⟨cd.block, cd.off + 4, none⟩ = some (.string c.f4)) L35_6 [] (by kernel_rfl) (fun _ => trivial) rfl (fun _ _ _ _ _ h => h) plan35_6 ⟨f0, f1, f2, f3, f4⟩ ?_
    unfold L35_6
    apply Oh.St.pure 28 rfl rfl rfl
    ·rintro w' ⟨c0, c1, c2, c3, c4⟩
     go_simp
     with_reducible rfl
    ·simp only [Act.put, List.setIfInBounds_toArray, List.set_cons_zero, List.set_cons_succ]
     rfl
    apply Oh.St.pure 29 rfl rfl rfl
    ·rintro w' ⟨c0, c1, c2, c3, c4⟩
     go_simp
     with_reducible rfl
    ·simp only [Act.put, List.setIfInBounds_toArray, List.set_cons_zero, List.set_cons_succ]
     rfl
    apply Oh.St.pure 30 rfl rfl rfl
    ·rintro w' ⟨c0, c1, c2, c3, c4⟩
     go_simp
     with_reducible rfl
    ·simp only [Act.put, List.setIfInBounds_toArray, List.set_cons_zero, List.set_cons_succ]
     rfl
    apply Oh.St.pure 31 rfl rfl rfl
    ·rintro w' ⟨c0, c1, c2, c3, c4⟩
     go_simp
     with_reducible rfl
    ·simp only [Act.put, List.setIfInBounds_toArray, List.set_cons_zero, List.set_cons_succ]
     rfl
    apply Oh.St.pure 32 rfl rfl rfl
    ·rintro w' ⟨c0, c1, c2, c3, c4⟩
     go_simp
     with_reducible rfl
    ·simp only [Act.put, List.setIfInBounds_toArray, List.set_cons_zero, List.set_cons_succ]
     rfl
    apply Oh.St.skip 33 rfl rfl rfl
    ·simp only [Act.put, List.setIfInBounds_toArray, List.set_cons_zero, List.set_cons_succ]
     rfl
    apply Oh.St.skip 34 rfl rfl rfl
    ·simp only [Act.put, List.setIfInBounds_toArray, List.set_cons_zero, List.set_cons_succ]
     rfl
    apply Oh.St.skip 35 rfl rfl rfl
    ·simp only [Act.put, List.setIfInBounds_toArray, List.set_cons_zero, List.set_cons_succ]
     rfl
    apply Oh.St.skip 36 rfl rfl rfl
    ·simp only [Act.put, List.setIfInBounds_toArray, List.set_cons_zero, List.set_cons_succ]
     rfl
    apply Oh.St.skip 37 rfl rfl rfl
    ·simp only [Act.put, List.setIfInBounds_toArray, List.set_cons_zero, List.set_cons_succ]
     rfl
    apply Oh.St.skip 38 rfl rfl rfl
    ·simp only [Act.put, List.setIfInBounds_toArray, List.set_cons_zero, List.set_cons_succ]
     rfl
    apply Oh.St.skip 39 rfl rfl rfl
    ·simp only [Act.put, List.setIfInBounds_toArray, List.set_cons_zero, List.set_cons_succ]
     rfl
    apply Oh.St.skip 40 rfl rfl rfl
    ·simp only [Act.put, List.setIfInBounds_toArray, List.set_cons_zero, List.set_cons_succ]
     rfl
    apply Oh.St.skip 41 rfl rfl rfl
    ·simp only [Act.put, List.setIfInBounds_toArray, List.set_cons_zero, List.set_cons_succ]
     rfl
    apply Oh.St.pure 42 rfl rfl rfl
    ·rintro w' ⟨c0, c1, c2, c3, c4⟩
     go_simp
     with_reducible rfl
    ·simp only [Act.put, List.setIfInBounds_toArray, List.set_cons_zero, List.set_cons_succ]
     rfl
    apply Oh.St.pure 27 rfl rfl rfl
    ·rintro w' ⟨c0, c1, c2, c3, c4⟩
     go_simp
     with_reducible rfl
    ·simp only [Act.put, List.setIfInBounds_toArray, List.set_cons_zero, List.set_cons_succ]
     rfl
    refine Oh.St.done (wpListIn_nil ?_)
    gi_wp2
    refine bodyPost_ret (results_tmp rfl _ _ _) rfl ?_
    exact ⟨by simp [wrong, hb], by repeat (first | exact Below.refl _ _ | apply below_drew)⟩
  | some x =>
   obtain ⟨xd, rfl, e0, e1⟩ := hx
   cases hb : c.f1 with
   | false =>
    rw [hb] at f1
    gi_wp2
    refine bodyPost_ret (results_tmp rfl _ _ _) rfl ?_
    exact ⟨by simp [wrong, hb], Below.refl _ _⟩
   | true =>
    rw [hb] at f1
    cases hq : (x.f1.toList == c.f2.toList) with
    | true =>
     have hq' : x.f1 = c.f2 := toList_inj (eq_of_beq hq)
     clear hq'
     gi_wp2
     refine Oh.region (fun w' => w'.cell? xd = some (.string x.f0) ∧ w'.cell? ⟨xd.block, xd.off + 1, none⟩ = some (.string x.f1) ∧ w'.cell? cd = some (.string c.f0) ∧ w'.cell? ⟨cd.block, cd.off + 1, none⟩ = some (.bool true) ∧ w'.cell? ⟨cd.block, cd.off + 2, none⟩ = some (.string c.f2) ∧ w'.cell? ⟨cd.block, cd.off + 3, none⟩ = some (.bool c.f3) ∧ w'.cell? ⟨cd.block, cd.off + 4, none⟩ = some (.string c.f4)) L35_6 [] (by kernel_rfl) (fun _ => trivial) rfl (fun _ _ _ _ _ h => h) plan35_6 ⟨e0, e1, f0, f1, f2, f3, f4⟩ ?_
     unfold L35_6
     apply Oh.St.pure 28 rfl rfl rfl
     ·rintro w' ⟨c0, c1, c2, c3, c4, c5, c6⟩
      go_simp
      with_reducible rfl
     ·simp only [Act.put, List.setIfInBounds_toArray, List.set_cons_zero, List.set_cons_succ]
      rfl
     apply Oh.St.pure 29 rfl rfl rfl
     ·rintro w' ⟨c0, c1, c2, c3, c4, c5, c6⟩
      go_simp
      with_reducible rfl
     ·simp only [Act.put, List.setIfInBounds_toArray, List.set_cons_zero, List.set_cons_succ]
      rfl
     apply Oh.St.pure 30 rfl rfl rfl
     ·rintro w' ⟨c0, c1, c2, c3, c4, c5, c6⟩
      go_simp
      with_reducible rfl
     ·simp only [Act.put, List.setIfInBounds_toArray, List.set_cons_zero, List.set_cons_succ]
      rfl
     apply Oh.St.pure 31 rfl rfl rfl
     ·rintro w' ⟨c0, c1, c2, c3, c4, c5, c6⟩
      go_simp
      with_reducible rfl
     ·simp only [Act.put, List.setIfInBounds_toArray, List.set_cons_zero, List.set_cons_succ]
      rfl
     apply Oh.St.pure 32 rfl rfl rfl
     ·rintro w' ⟨c0, c1, c2, c3, c4, c5, c6⟩
      go_simp
      with_reducible rfl
     ·simp only [Act.put, List.setIfInBounds_toArray, List.set_cons_zero, List.set_cons_succ]
      rfl
     apply Oh.St.pure 33 rfl rfl rfl
     ·rintro w' ⟨c0, c1, c2, c3, c4, c5, c6⟩
      go_simp
      with_reducible rfl
     ·simp only [Act.put, List.setIfInBounds_toArray, List.set_cons_zero, List.set_cons_succ]
      rfl
     apply Oh.St.pure 34 rfl rfl rfl
     ·rintro w' ⟨c0, c1, c2, c3, c4, c5, c6⟩
      go_simp
      with_reducible rfl
     ·simp only [Act.put, List.setIfInBounds_toArray, List.set_cons_zero, List.set_cons_succ]
      rfl
     apply Oh.St.pure 35 rfl rfl rfl
     ·rintro w' ⟨c0, c1, c2, c3, c4, c5, c6⟩
      go_simp
      with_reducible rfl
     ·simp only [Act.put, List.setIfInBounds_toArray, List.set_cons_zero, List.set_cons_succ]
      rfl
     apply Oh.St.pure 36 rfl rfl rfl
     ·rintro w' ⟨c0, c1, c2, c3, c4, c5, c6⟩
      go_simp
      with_reducible rfl
     ·simp only [Act.put, List.setIfInBounds_toArray, List.set_cons_zero, List.set_cons_succ]
      rfl
     apply Oh.St.pure 37 rfl rfl rfl
     ·rintro w' ⟨c0, c1, c2, c3, c4, c5, c6⟩
      go_simp
      with_reducible rfl
     ·simp only [Act.put, List.setIfInBounds_toArray, List.set_cons_zero, List.set_cons_succ]
      rfl
     apply Oh.St.pure 38 rfl rfl rfl
     ·rintro w' ⟨c0, c1, c2, c3, c4, c5, c6⟩
      go_simp
      with_reducible rfl
     ·simp only [Act.put, List.setIfInBounds_toArray, List.set_cons_zero, List.set_cons_succ]
      rfl
     apply Oh.St.pure 39 rfl rfl rfl
     ·rintro w' ⟨c0, c1, c2, c3, c4, c5, c6⟩
      go_simp
      with_reducible rfl
     ·simp only [Act.put, List.setIfInBounds_toArray, List.set_cons_zero, List.set_cons_succ]
      rfl
     apply Oh.St.pure 40 rfl rfl rfl
     ·rintro w' ⟨c0, c1, c2, c3, c4, c5, c6⟩
      go_simp
      with_reducible rfl
     ·simp only [Act.put, List.setIfInBounds_toArray, List.set_cons_zero, List.set_cons_succ]
      rfl
     apply Oh.St.pure 41 rfl rfl rfl
     ·rintro w' ⟨c0, c1, c2, c3, c4, c5, c6⟩
      go_simp
      with_reducible rfl
     ·simp only [Act.put, List.setIfInBounds_toArray, List.set_cons_zero, List.set_cons_succ]
      rfl
     apply Oh.St.pure 42 rfl rfl rfl
     ·rintro w' ⟨c0, c1, c2, c3, c4, c5, c6⟩
      go_simp
      with_reducible rfl
     ·simp only [Act.put, List.setIfInBounds_toArray, List.set_cons_zero, List.set_cons_succ]
      rfl
     apply Oh.St.pure 27 rfl rfl rfl
     ·rintro w' ⟨c0, c1, c2, c3, c4, c5, c6⟩
      go_simp
      with_reducible rfl
     ·simp only [Act.put, List.setIfInBounds_toArray, List.set_cons_zero, List.set_cons_succ]
      rfl
     refine Oh.St.done (wpListIn_nil ?_)
     gi_wp2
     have hq' : x.f1 = c.f2 := toList_inj (eq_of_beq hq)
     refine bodyPost_ret (results_tmp rfl _ _ _) rfl ?_
     exact ⟨by simp [wrong, hb, hq'], by repeat (first | exact Below.refl _ _ | apply below_drew)⟩
    | false =>
     gi_wp2
     refine Oh.region (fun w' => w'.cell? xd = some (.string x.f0) ∧ w'.cell? ⟨xd.block, xd.off + 1, none⟩ = some (.string x.f1) ∧ w'.cell? cd = some (.string c.f0) ∧ w'.cell? ⟨cd.block, cd.off + 1, none⟩ = some (.bool true) ∧ w'.cell? ⟨cd.block, cd.off + 2, none⟩ = some (.string c.f2) ∧ w'.cell? ⟨cd.block, cd.off + 3, none⟩ = some (.bool c.f3) ∧ w'.cell? ⟨cd.block, cd.off + 4, none⟩ = some (.string c.f4)) L35_6 [] (by kernel_rfl) (fun _ => trivial) rfl (fun _ _ _ _ _ h => h) plan35_6 ⟨e0, e1, f0, f1, f2, f3, f4⟩ ?_
     unfold L35_6
     apply Oh.St.pure 28 rfl rfl rfl
     ·rintro w' ⟨c0, c1, c2, c3, c4, c5, c6⟩
      go_simp
      with_reducible rfl
     ·simp only [Act.put, List.setIfInBounds_toArray, List.set_cons_zero, List.set_cons_succ]
      rfl
     apply Oh.St.pure 29 rfl rfl rfl
     ·rintro w' ⟨c0, c1, c2, c3, c4, c5, c6⟩
      go_simp
      with_reducible rfl
     ·simp only [Act.put, List.setIfInBounds_toArray, List.set_cons_zero, List.set_cons_succ]
      rfl
     apply Oh.St.pure 30 rfl rfl rfl
     ·rintro w' ⟨c0, c1, c2, c3, c4, c5, c6⟩
      go_simp
      with_reducible rfl
     ·simp only [Act.put, List.setIfInBounds_toArray, List.set_cons_zero, List.set_cons_succ]
      rfl
     apply Oh.St.pure 31 rfl rfl rfl
     ·rintro w' ⟨c0, c1, c2, c3, c4, c5, c6⟩
      go_simp
      with_reducible rfl
     ·simp only [Act.put, List.setIfInBounds_toArray, List.set_cons_zero, List.set_cons_succ]
      rfl
     apply Oh.St.pure 32 rfl rfl rfl
     ·rintro w' ⟨c0, c1, c2, c3, c4, c5, c6⟩
      go_simp
      with_reducible rfl
     ·simp only [Act.put, List.setIfInBounds_toArray, List.set_cons_zero, List.set_cons_succ]
      rfl
     apply Oh.St.pure 33 rfl rfl rfl
     ·rintro w' ⟨c0, c1, c2, c3, c4, c5, c6⟩
      go_simp
      with_reducible rfl
     ·simp only [Act.put, List.setIfInBounds_toArray, List.set_cons_zero, List.set_cons_succ]
      rfl
     apply Oh.St.pure 34 rfl rfl rfl
     ·rintro w' ⟨c0, c1, c2, c3, c4, c5, c6⟩
      go_simp
      with_reducible rfl
     ·simp only [Act.put, List.setIfInBounds_toArray, List.set_cons_zero, List.set_cons_succ]
      rfl
     apply Oh.St.pure 35 rfl rfl rfl
     ·rintro w' ⟨c0, c1, c2, c3, c4, c5, c6⟩
      go_simp
      with_reducible rfl
     ·simp only [Act.put, List.setIfInBounds_toArray, List.set_cons_zero, List.set_cons_succ]
      rfl
     apply Oh.St.pure 36 rfl rfl rfl
     ·rintro w' ⟨c0, c1, c2, c3, c4, c5, c6⟩
      go_simp
      with_reducible rfl
     ·simp only [Act.put, List.setIfInBounds_toArray, List.set_cons_zero, List.set_cons_succ]
      rfl
     apply Oh.St.pure 37 rfl rfl rfl
     ·rintro w' ⟨c0, c1, c2, c3, c4, c5, c6⟩
      go_simp
      with_reducible rfl
     ·simp only [Act.put, List.setIfInBounds_toArray, List.set_cons_zero, List.set_cons_succ]
      rfl
     apply Oh.St.pure 38 rfl rfl rfl
     ·rintro w' ⟨c0, c1, c2, c3, c4, c5, c6⟩
      go_simp
      with_reducible rfl
     ·simp only [Act.put, List.setIfInBounds_toArray, List.set_cons_zero, List.set_cons_succ]
      rfl
     apply Oh.St.pure 39 rfl rfl rfl
     ·rintro w' ⟨c0, c1, c2, c3, c4, c5, c6⟩
      go_simp
      with_reducible rfl
     ·simp only [Act.put, List.setIfInBounds_toArray, List.set_cons_zero, List.set_cons_succ]
      rfl
     apply Oh.St.pure 40 rfl rfl rfl
     ·rintro w' ⟨c0, c1, c2, c3, c4, c5, c6⟩
      go_simp
      with_reducible rfl
     ·simp only [Act.put, List.setIfInBounds_toArray, List.set_cons_zero, List.set_cons_succ]
      rfl
     apply Oh.St.pure 41 rfl rfl rfl
     ·rintro w' ⟨c0, c1, c2, c3, c4, c5, c6⟩
      go_simp
      with_reducible rfl
     ·simp only [Act.put, List.setIfInBounds_toArray, List.set_cons_zero, List.set_cons_succ]
      rfl
     apply Oh.St.pure 42 rfl rfl rfl
     ·rintro w' ⟨c0, c1, c2, c3, c4, c5, c6⟩
      go_simp
      with_reducible rfl
     ·simp only [Act.put, List.setIfInBounds_toArray, List.set_cons_zero, List.set_cons_succ]
      rfl
     apply Oh.St.pure 27 rfl rfl rfl
     ·rintro w' ⟨c0, c1, c2, c3, c4, c5, c6⟩
      go_simp
      with_reducible rfl
     ·simp only [Act.put, List.setIfInBounds_toArray, List.set_cons_zero, List.set_cons_succ]
      rfl
     refine Oh.St.done (wpListIn_nil ?_)
     gi_wp2
     have hq' : ¬ (x.f1 = c.f2) := fun h => by rw [h] at hq; simp at hq
     refine bodyPost_ret (results_tmp rfl _ _ _) rfl ?_
     exact ⟨by simp [wrong, hb, hq'], by repeat (first | exact Below.refl _ _ | apply below_drew)⟩
end Go.Proofs.YtclamgljgnjkbaaGreatDoor.PD
end
