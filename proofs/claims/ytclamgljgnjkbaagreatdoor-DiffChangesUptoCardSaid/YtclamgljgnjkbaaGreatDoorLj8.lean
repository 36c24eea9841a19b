/-
  Part of the proof of DiffChangesUptoCardSaid: what Diff.Between says of two rows of leaves, Back turns and Apply takes, up to the bulk that the card names.
  A proof for this seat's program alone; the parts of the words that it needs were printed by the kit, and cut to what is used.
-/
import Derived.Test.YtclamgljgnjkbaaGreatDoorLh
set_option linter.all false
section
namespace Go.Proofs.YtclamgljgnjkbaaGreatDoor.PD
open Go.RowKit Go.Shelf Go.Row Go.Proofs.YtclamgljgnjkbaaGreatDoorW.PrintWords Go.Proofs.YtclamgljgnjkbaaGreatDoorW.PrintLast Go.Proofs.YtclamgljgnjkbaaGreatDoorW.PrintMore
attribute [local go_sem] Oper.semAt_some
theorem plan68_4 : Oh.plan .any (opsOf Tryz.f68 4) L4 [] = true := by kernel_rfl
theorem plan68_6 : Oh.plan .any (opsOf Tryz.f68 6) L6 [] = true := by kernel_rfl
theorem plan68_3 : Oh.plan .any (opsOf Tryz.f68 3) L3 [] = true := by kernel_rfl
set_option maxRecDepth 100000 in
set_option maxHeartbeats 40000000 in
theorem pairs68 (n : Nat) (l Bl Bm Ba Bb n0 : Nat) (A0 A1 : Option Addr) (L : List S35) (M : List S35) (J Jx : List (It L M) → World → Prop)
  (hY : ∀ pre (x : It L M) W, J pre W → pre.length < L.length + M.length → YieldAt Fence.wide (n - 1) Tryz.prog l #[.pointer (x.a.bind fun i => A0.map (·.add (i * 2))), .pointer (x.b.bind fun i => A1.map (·.add (i * 2)))] W fun e W' =>
   (e = .returned (.bool true) ∧ J (pre ++ [x]) W' ∧ Kp n0 [Bl, Bm, Ba, Bb] W W') ∨ (e = .returned (.bool false) ∧ Jx (pre ++ [x]) W'))
  (hJ : AbP J Bl Bm) (sp : Sep Bl Bm Ba Bb n0) (W : World) (h0 : J [] W) (hn0 : n0 ≤ W.heap.size) (hL : ∀ wr, Below n0 W wr → Kd.C k35 wr A0 L.length L) (hM : ∀ wr, Below n0 W wr → Kd.C k35 wr A1 M.length M) (hs : StP 33 33 2 2 W W Bl Bm Ba Bb n0 A0 A1 L.length M.length 0 0) :
  CallsIn Fence.wide n Tryz.prog 68 #[.func (.yield l) #[] #[], .pointer (some ⟨Bl, 0, none⟩), .pointer (some ⟨Bm, 0, none⟩), .pointer (some ⟨Ba, 0, none⟩), .pointer (some ⟨Bb, 0, none⟩)] W fun e W' => (∃ v, e = .returned v) ∧
   ((∃ ys, ys.map It.val = mg S35.f0 S35.f0 L M ∧ J ys W') ∨ (∃ pre, pre.map It.val <+: mg S35.f0 S35.f0 L M ∧ Jx pre W')) := by
 refine callsIn_of_wp Tryz.func68 rfl trivial ?_ rfl
 simp only [Tryz.ntmps68, List.size_toArray, List.length_cons, List.length_nil, Nat.reduceAdd, Nat.reduceSub, Array.replicate_succ, Array.replicate_zero, List.push_toArray, List.append_toArray, List.nil_append, List.cons_append]
 gi_wp2
 gi_loopw [] (fun wr => ∃ (i j : Nat) (pre : List (It L M)), StP 33 33 2 2 W wr Bl Bm Ba Bb n0 A0 A1 L.length M.length i j ∧ pre.map It.val ++ mg S35.f0 S35.f0 (L.drop i) (M.drop j) = mg S35.f0 S35.f0 L M ∧ pre.length ≤ i + j ∧ J pre wr)
  (fun wr => leftN wr Bl + leftN wr Bm)
 case atStart => exact ⟨0, 0, [], hs, by simp, by simp, h0⟩
 case round =>
  obtain ⟨i, j, pre, hS, hmg, hlen, hJs⟩ := hrel
  have hSP := hS
  obtain ⟨⟨Al, cl, hcl, hLl⟩, ⟨Am, cm, hcm, hLm⟩, ha, hb, hbel, hfl, hfm⟩ := hS
  have hil := hLl.1
  have hjm := hLm.1
  have hnwr : n0 ≤ wr.heap.size := Nat.le_trans hn0 hbel.size
  have hleft : leftN wr Bl + leftN wr Bm = (L.length - i) + (M.length - j) := by rw [leftN_eq hcl, leftN_eq hcm]
  rcases Nat.lt_or_ge i L.length with hi | hi
  ·obtain ⟨ad, rfl, e0, e1⟩ := at_T35 (hL wr hbel) (i : Int) (by omega) (by omega)
   rw [Int.toNat_natCast, rd35 hi] at e0 e1
   obtain rfl := hLl.2.2 hi
   simp only [Option.map_some] at hcl hLl
   have hpl : 0 < L.length - i := by omega
   have hpl0 : ¬ (L.length - i = 0) := by omega
   have hple : (((L.length - i : Nat) : Int) == 0) = false := by rw [beq_eq_false_iff_ne]; omega
   rcases Nat.lt_or_ge j M.length with hj | hj
   ·obtain ⟨bd, rfl, f0, f1⟩ := at_T35 (hM wr hbel) (j : Int) (by omega) (by omega)
    rw [Int.toNat_natCast, rd35 hj] at f0 f1
    obtain rfl := hLm.2.2 hj
    simp only [Option.map_some] at hcm hLm
    have hpm : 0 < M.length - j := by omega
    have hpm0 : ¬ (M.length - j = 0) := by omega
    have hpme : (((M.length - j : Nat) : Int) == 0) = false := by rw [beq_eq_false_iff_ne]; omega
    cases hlt : Op.bytesLess (L[i]).f0.toList (M[j]).f0.toList with
    | true =>
     have hcase : M.length ≤ j ∨ ∃ hj : j < M.length, lt (S35.f0 L[i]) (S35.f0 M[j]) = true := .inr ⟨hj, hlt⟩
     gi_wp2
     refine Oh.region (fun w' => Below wr.heap.size wr w' ∧ w'.cell? ⟨Bl, 0, none⟩ = some (.slice (some (ad.add (i * 2))) (L.length - i) cl) ∧ w'.cell? ⟨Bm, 0, none⟩ = some (.slice (some (bd.add (j * 2))) (M.length - j) cm) ∧ w'.cell? ⟨Ba, 0, none⟩ = some (.func (.func 33) #[] #[]) ∧ w'.cell? ⟨Bb, 0, none⟩ = some (.func (.func 33) #[] #[]) ∧ w'.cell? (ad.add (i * 2)) = some (.string (L[i]).f0) ∧ w'.cell? ⟨(ad.add (i * 2)).block, (ad.add (i * 2)).off + 1, none⟩ = some (.string (L[i]).f1) ∧ w'.cell? (bd.add (j * 2)) = some (.string (M[j]).f0) ∧ w'.cell? ⟨(bd.add (j * 2)).block, (bd.add (j * 2)).off + 1, none⟩ = some (.string (M[j]).f1)) L4 [] (by kernel_rfl) (fun _ => trivial) rfl (fun _ _ _ _ _ h => h) plan68_4 ⟨below_drew1 (Below.refl _ _), hcl, hcm, ha, hb, e0, e1, f0, f1⟩ ?_
     unfold L4
     apply Oh.St.pure 21 rfl rfl rfl
     ·rintro w' ⟨hB, c1, c2, c3, c4, c5, c6, c7, c8⟩
      go_simp
      with_reducible rfl
     ·simp only [Act.put, List.setIfInBounds_toArray, List.set_cons_zero, List.set_cons_succ]
      rfl
     apply Oh.St.pure 22 rfl rfl rfl
     ·rintro w' ⟨hB, c1, c2, c3, c4, c5, c6, c7, c8⟩
      go_simp
      with_reducible rfl
     ·simp only [Act.put, List.setIfInBounds_toArray, List.set_cons_zero, List.set_cons_succ]
      rfl
     apply Oh.St.pure 23 rfl rfl rfl
     ·rintro w' ⟨hB, c1, c2, c3, c4, c5, c6, c7, c8⟩
      go_simp
      with_reducible rfl
     ·simp only [Act.put, List.setIfInBounds_toArray, List.set_cons_zero, List.set_cons_succ]
      rfl
     apply Oh.St.pure 24 rfl rfl rfl
     ·rintro w' ⟨hB, c1, c2, c3, c4, c5, c6, c7, c8⟩
      go_simp
      with_reducible rfl
     ·simp only [Act.put, List.setIfInBounds_toArray, List.set_cons_zero, List.set_cons_succ]
      rfl
     apply Oh.St.pure 25 rfl rfl rfl
     ·rintro w' ⟨hB, c1, c2, c3, c4, c5, c6, c7, c8⟩
      go_simp
      with_reducible rfl
     ·simp only [Act.put, List.setIfInBounds_toArray, List.set_cons_zero, List.set_cons_succ]
      rfl
     apply Oh.St.pure 26 rfl rfl rfl
     ·rintro w' ⟨hB, c1, c2, c3, c4, c5, c6, c7, c8⟩
      go_simp
      with_reducible rfl
     ·simp only [Act.put, List.setIfInBounds_toArray, List.set_cons_zero, List.set_cons_succ]
      rfl
     apply Oh.St.pure 27 rfl rfl rfl
     ·rintro w' ⟨hB, c1, c2, c3, c4, c5, c6, c7, c8⟩
      go_simp
      with_reducible rfl
     ·simp only [Act.put, List.setIfInBounds_toArray, List.set_cons_zero, List.set_cons_succ]
      rfl
     apply Oh.St.pure 28 rfl rfl rfl
     ·rintro w' ⟨hB, c1, c2, c3, c4, c5, c6, c7, c8⟩
      go_simp
      with_reducible rfl
     ·simp only [Act.put, List.setIfInBounds_toArray, List.set_cons_zero, List.set_cons_succ]
      rfl
     apply Oh.St.pure 29 rfl rfl rfl
     ·rintro w' ⟨hB, c1, c2, c3, c4, c5, c6, c7, c8⟩
      go_simp
      with_reducible rfl
     ·simp only [Act.put, List.setIfInBounds_toArray, List.set_cons_zero, List.set_cons_succ]
      rfl
     apply Oh.St.pure 30 rfl rfl rfl
     ·rintro w' ⟨hB, c1, c2, c3, c4, c5, c6, c7, c8⟩
      go_simp
      with_reducible rfl
     ·simp only [Act.put, List.setIfInBounds_toArray, List.set_cons_zero, List.set_cons_succ]
      rfl
     apply Oh.St.pure 31 rfl rfl rfl
     ·rintro w' ⟨hB, c1, c2, c3, c4, c5, c6, c7, c8⟩
      go_simp
      with_reducible rfl
     ·simp only [Act.put, List.setIfInBounds_toArray, List.set_cons_zero, List.set_cons_succ]
      rfl
     apply Oh.St.pure 32 rfl rfl rfl
     ·rintro w' ⟨hB, c1, c2, c3, c4, c5, c6, c7, c8⟩
      go_simp
      with_reducible rfl
     ·simp only [Act.put, List.setIfInBounds_toArray, List.set_cons_zero, List.set_cons_succ]
      rfl
     apply Oh.St.pure 34 rfl rfl rfl
     ·rintro w' ⟨hB, c1, c2, c3, c4, c5, c6, c7, c8⟩
      go_simp
      with_reducible rfl
     ·simp only [Act.put, List.setIfInBounds_toArray, List.set_cons_zero, List.set_cons_succ]
      rfl
     apply Oh.St.pure 35 rfl rfl rfl
     ·rintro w' ⟨hB, c1, c2, c3, c4, c5, c6, c7, c8⟩
      go_simp
      with_reducible rfl
     ·simp only [Act.put, List.setIfInBounds_toArray, List.set_cons_zero, List.set_cons_succ]
      rfl
     apply Oh.St.pure 36 rfl rfl rfl
     ·rintro w' ⟨hB, c1, c2, c3, c4, c5, c6, c7, c8⟩
      go_simp
      with_reducible rfl
     ·simp only [Act.put, List.setIfInBounds_toArray, List.set_cons_zero, List.set_cons_succ]
      rfl
     apply Oh.St.pure 37 rfl rfl rfl
     ·rintro w' ⟨hB, c1, c2, c3, c4, c5, c6, c7, c8⟩
      go_simp
      with_reducible rfl
     ·simp only [Act.put, List.setIfInBounds_toArray, List.set_cons_zero, List.set_cons_succ]
      rfl
     have hB : Below wr.heap.size wr wr.drew := below_drew1 (Below.refl _ _)
     have c1 : wr.drew.cell? _ = _ := hcl
     have c2 : wr.drew.cell? _ = _ := hcm
     have c3 : wr.drew.cell? _ = _ := ha
     have c4 : wr.drew.cell? _ = _ := hb
     have c5 : wr.drew.cell? _ = _ := e0
     have c6 : wr.drew.cell? _ = _ := e1
     have c7 : wr.drew.cell? _ = _ := f0
     have c8 : wr.drew.cell? _ = _ := f1
     apply Oh.St.call 33 rfl rfl rfl
     ·go_simp
      exact ⟨rfl, rfl⟩
     ·refine (callsIn_wide.2 (ofLeaf_calls (L[i]).f0 (L[i]).f1 _)).mono ?_
      rintro e w2_ ⟨rfl, hb_⟩
      exact ⟨rfl, below_then hB hB.size hb_, pw_cell_below hb_ c1, pw_cell_below hb_ c2, pw_cell_below hb_ c3, pw_cell_below hb_ c4, pw_cell_below hb_ c5, pw_cell_below hb_ c6, pw_cell_below hb_ c7, pw_cell_below hb_ c8⟩
     ·simp only [Act.put, List.setIfInBounds_toArray, List.set_cons_zero, List.set_cons_succ]
      rfl
     clear hB c1 c2 c3 c4 c5 c6 c7 c8
     rintro w1 ⟨hB, c1, c2, c3, c4, c5, c6, c7, c8⟩
     apply Oh.St.call 38 rfl rfl rfl
     ·go_simp
      exact ⟨rfl, rfl⟩
     ·refine (callsIn_wide.2 (ofLeaf_calls (M[j]).f0 (M[j]).f1 _)).mono ?_
      rintro e w2_ ⟨rfl, hb_⟩
      exact ⟨rfl, below_then hB hB.size hb_, pw_cell_below hb_ c1, pw_cell_below hb_ c2, pw_cell_below hb_ c3, pw_cell_below hb_ c4, pw_cell_below hb_ c5, pw_cell_below hb_ c6, pw_cell_below hb_ c7, pw_cell_below hb_ c8⟩
     ·simp only [Act.put, List.setIfInBounds_toArray, List.set_cons_zero, List.set_cons_succ]
      rfl
     clear hB c1 c2 c3 c4 c5 c6 c7 c8
     rintro w1 ⟨hB, c1, c2, c3, c4, c5, c6, c7, c8⟩
     apply Oh.St.pure 39 rfl rfl rfl
     ·rintro w' ⟨hB, c1, c2, c3, c4, c5, c6, c7, c8⟩
      go_simp
      with_reducible rfl
     ·simp only [Act.put, List.setIfInBounds_toArray, List.set_cons_zero, List.set_cons_succ]
      rfl
     apply Oh.St.pure 40 rfl rfl rfl
     ·rintro w' ⟨hB, c1, c2, c3, c4, c5, c6, c7, c8⟩
      go_simp
      with_reducible rfl
     ·simp only [Act.put, List.setIfInBounds_toArray, List.set_cons_zero, List.set_cons_succ]
      rfl
     apply Oh.St.pure 41 rfl rfl rfl
     ·rintro w' ⟨hB, c1, c2, c3, c4, c5, c6, c7, c8⟩
      go_simp
      with_reducible rfl
     ·simp only [Act.put, List.setIfInBounds_toArray, List.set_cons_zero, List.set_cons_succ]
      rfl
     apply Oh.St.pure 20 rfl rfl rfl
     ·rintro w' ⟨hB, c1, c2, c3, c4, c5, c6, c7, c8⟩
      go_simp
      with_reducible rfl
     ·simp only [Act.put, List.setIfInBounds_toArray, List.set_cons_zero, List.set_cons_succ]
      rfl
     refine Oh.St.done (wpListIn_nil ?_)
     have hc1 := c1
     have hc2 := c2
     obtain ⟨x0, hx0⟩ : ∃ x0 : It L M, x0 = ⟨some i, none, (fun q hq => by cases hq; exact hi), (fun q hq => by cases hq), by simp⟩ := ⟨_, rfl⟩
     have hxa : x0.a = some i := by rw [hx0]
     have hxb : x0.b = none := by rw [hx0]
     have hmg3 := nextL (pa := S35.f0) (pb := S35.f0) (x := x0) ⟨hxa, hxb⟩ hi hmg hcase
     have hY := fun W2 hJ2 => hY pre x0 W2 hJ2 (by omega)
     simp only [hxa, hxb, Option.bind_some, Option.bind_none, Option.map_some] at hY
     have hF1 : w1.frozen? ⟨Bl, 0, none⟩ = false := (frozen_same (hB.block Bl (lt_of_cell hcl))).trans hfl
     have hF2 : w1.frozen? ⟨Bm, 0, none⟩ = false := (frozen_same (hB.block Bm (lt_of_cell hcm))).trans hfm
     gi_wp2
     all_goals (
      refine finL (J := J pre) sp hnwr hSP (fun W W' row => hJ pre W W' row) hJs hi hB hc1 hc2 hLm (N := 74) ?_ hY ?_ ?_ (fun W3 hS3 hJ3 => ?_) (fun W3 hX => ?_)
      ·rfl
      ·omega
      ·first | exact hLl.next1 hi (by omega) | exact hLl.next2 hi (by omega)
      ·gi_wp2
       go_roundw
       case rel => exact ⟨(i + 1), j, _, hS3, hmg3, (by simp only [List.length_append, List.length_singleton]; omega), hJ3⟩
       case measure =>
        obtain ⟨_, _, q1_, _⟩ := hS3.l
        obtain ⟨_, _, q2_, _⟩ := hS3.m
        rw [hleft, leftN_eq q1_, leftN_eq q2_]
        omega
      ·gi_wp2
       refine bodyPost_ret (results_none rfl _ _ _) rfl ?_
       exact ⟨⟨_, rfl⟩, .inr ⟨_, ⟨_, hmg3⟩, hX⟩⟩)
    | false =>
     have hlt2 : lt (S35.f0 L[i]) (S35.f0 M[j]) = false := hlt
     gi_wp2
     refine Oh.region (fun w' => Below wr.heap.size wr w' ∧ w'.cell? ⟨Bl, 0, none⟩ = some (.slice (some (ad.add (i * 2))) (L.length - i) cl) ∧ w'.cell? ⟨Bm, 0, none⟩ = some (.slice (some (bd.add (j * 2))) (M.length - j) cm) ∧ w'.cell? ⟨Ba, 0, none⟩ = some (.func (.func 33) #[] #[]) ∧ w'.cell? ⟨Bb, 0, none⟩ = some (.func (.func 33) #[] #[]) ∧ w'.cell? (ad.add (i * 2)) = some (.string (L[i]).f0) ∧ w'.cell? ⟨(ad.add (i * 2)).block, (ad.add (i * 2)).off + 1, none⟩ = some (.string (L[i]).f1) ∧ w'.cell? (bd.add (j * 2)) = some (.string (M[j]).f0) ∧ w'.cell? ⟨(bd.add (j * 2)).block, (bd.add (j * 2)).off + 1, none⟩ = some (.string (M[j]).f1)) L4 [] (by kernel_rfl) (fun _ => trivial) rfl (fun _ _ _ _ _ h => h) plan68_4 ⟨below_drew1 (Below.refl _ _), hcl, hcm, ha, hb, e0, e1, f0, f1⟩ ?_
     unfold L4
     apply Oh.St.pure 21 rfl rfl rfl
     ·rintro w' ⟨hB, c1, c2, c3, c4, c5, c6, c7, c8⟩
      go_simp
      with_reducible rfl
     ·simp only [Act.put, List.setIfInBounds_toArray, List.set_cons_zero, List.set_cons_succ]
      rfl
     apply Oh.St.pure 22 rfl rfl rfl
     ·rintro w' ⟨hB, c1, c2, c3, c4, c5, c6, c7, c8⟩
      go_simp
      with_reducible rfl
     ·simp only [Act.put, List.setIfInBounds_toArray, List.set_cons_zero, List.set_cons_succ]
      rfl
     apply Oh.St.pure 23 rfl rfl rfl
     ·rintro w' ⟨hB, c1, c2, c3, c4, c5, c6, c7, c8⟩
      go_simp
      with_reducible rfl
     ·simp only [Act.put, List.setIfInBounds_toArray, List.set_cons_zero, List.set_cons_succ]
      rfl
     apply Oh.St.pure 24 rfl rfl rfl
     ·rintro w' ⟨hB, c1, c2, c3, c4, c5, c6, c7, c8⟩
      go_simp
      with_reducible rfl
     ·simp only [Act.put, List.setIfInBounds_toArray, List.set_cons_zero, List.set_cons_succ]
      rfl
     apply Oh.St.pure 25 rfl rfl rfl
     ·rintro w' ⟨hB, c1, c2, c3, c4, c5, c6, c7, c8⟩
      go_simp
      with_reducible rfl
     ·simp only [Act.put, List.setIfInBounds_toArray, List.set_cons_zero, List.set_cons_succ]
      rfl
     apply Oh.St.pure 26 rfl rfl rfl
     ·rintro w' ⟨hB, c1, c2, c3, c4, c5, c6, c7, c8⟩
      go_simp
      with_reducible rfl
     ·simp only [Act.put, List.setIfInBounds_toArray, List.set_cons_zero, List.set_cons_succ]
      rfl
     apply Oh.St.pure 27 rfl rfl rfl
     ·rintro w' ⟨hB, c1, c2, c3, c4, c5, c6, c7, c8⟩
      go_simp
      with_reducible rfl
     ·simp only [Act.put, List.setIfInBounds_toArray, List.set_cons_zero, List.set_cons_succ]
      rfl
     apply Oh.St.pure 28 rfl rfl rfl
     ·rintro w' ⟨hB, c1, c2, c3, c4, c5, c6, c7, c8⟩
      go_simp
      with_reducible rfl
     ·simp only [Act.put, List.setIfInBounds_toArray, List.set_cons_zero, List.set_cons_succ]
      rfl
     apply Oh.St.pure 29 rfl rfl rfl
     ·rintro w' ⟨hB, c1, c2, c3, c4, c5, c6, c7, c8⟩
      go_simp
      with_reducible rfl
     ·simp only [Act.put, List.setIfInBounds_toArray, List.set_cons_zero, List.set_cons_succ]
      rfl
     apply Oh.St.pure 30 rfl rfl rfl
     ·rintro w' ⟨hB, c1, c2, c3, c4, c5, c6, c7, c8⟩
      go_simp
      with_reducible rfl
     ·simp only [Act.put, List.setIfInBounds_toArray, List.set_cons_zero, List.set_cons_succ]
      rfl
     apply Oh.St.pure 31 rfl rfl rfl
     ·rintro w' ⟨hB, c1, c2, c3, c4, c5, c6, c7, c8⟩
      go_simp
      with_reducible rfl
     ·simp only [Act.put, List.setIfInBounds_toArray, List.set_cons_zero, List.set_cons_succ]
      rfl
     apply Oh.St.pure 32 rfl rfl rfl
     ·rintro w' ⟨hB, c1, c2, c3, c4, c5, c6, c7, c8⟩
      go_simp
      with_reducible rfl
     ·simp only [Act.put, List.setIfInBounds_toArray, List.set_cons_zero, List.set_cons_succ]
      rfl
     apply Oh.St.pure 34 rfl rfl rfl
     ·rintro w' ⟨hB, c1, c2, c3, c4, c5, c6, c7, c8⟩
      go_simp
      with_reducible rfl
     ·simp only [Act.put, List.setIfInBounds_toArray, List.set_cons_zero, List.set_cons_succ]
      rfl
     apply Oh.St.pure 35 rfl rfl rfl
     ·rintro w' ⟨hB, c1, c2, c3, c4, c5, c6, c7, c8⟩
      go_simp
      with_reducible rfl
     ·simp only [Act.put, List.setIfInBounds_toArray, List.set_cons_zero, List.set_cons_succ]
      rfl
     apply Oh.St.pure 36 rfl rfl rfl
     ·rintro w' ⟨hB, c1, c2, c3, c4, c5, c6, c7, c8⟩
      go_simp
      with_reducible rfl
     ·simp only [Act.put, List.setIfInBounds_toArray, List.set_cons_zero, List.set_cons_succ]
      rfl
     apply Oh.St.pure 37 rfl rfl rfl
     ·rintro w' ⟨hB, c1, c2, c3, c4, c5, c6, c7, c8⟩
      go_simp
      with_reducible rfl
     ·simp only [Act.put, List.setIfInBounds_toArray, List.set_cons_zero, List.set_cons_succ]
      rfl
     have hB : Below wr.heap.size wr wr.drew := below_drew1 (Below.refl _ _)
     have c1 : wr.drew.cell? _ = _ := hcl
     have c2 : wr.drew.cell? _ = _ := hcm
     have c3 : wr.drew.cell? _ = _ := ha
     have c4 : wr.drew.cell? _ = _ := hb
     have c5 : wr.drew.cell? _ = _ := e0
     have c6 : wr.drew.cell? _ = _ := e1
     have c7 : wr.drew.cell? _ = _ := f0
     have c8 : wr.drew.cell? _ = _ := f1
     apply Oh.St.call 33 rfl rfl rfl
     ·go_simp
      exact ⟨rfl, rfl⟩
     ·refine (callsIn_wide.2 (ofLeaf_calls (L[i]).f0 (L[i]).f1 _)).mono ?_
      rintro e w2_ ⟨rfl, hb_⟩
      exact ⟨rfl, below_then hB hB.size hb_, pw_cell_below hb_ c1, pw_cell_below hb_ c2, pw_cell_below hb_ c3, pw_cell_below hb_ c4, pw_cell_below hb_ c5, pw_cell_below hb_ c6, pw_cell_below hb_ c7, pw_cell_below hb_ c8⟩
     ·simp only [Act.put, List.setIfInBounds_toArray, List.set_cons_zero, List.set_cons_succ]
      rfl
     clear hB c1 c2 c3 c4 c5 c6 c7 c8
     rintro w1 ⟨hB, c1, c2, c3, c4, c5, c6, c7, c8⟩
     apply Oh.St.call 38 rfl rfl rfl
     ·go_simp
      exact ⟨rfl, rfl⟩
     ·refine (callsIn_wide.2 (ofLeaf_calls (M[j]).f0 (M[j]).f1 _)).mono ?_
      rintro e w2_ ⟨rfl, hb_⟩
      exact ⟨rfl, below_then hB hB.size hb_, pw_cell_below hb_ c1, pw_cell_below hb_ c2, pw_cell_below hb_ c3, pw_cell_below hb_ c4, pw_cell_below hb_ c5, pw_cell_below hb_ c6, pw_cell_below hb_ c7, pw_cell_below hb_ c8⟩
     ·simp only [Act.put, List.setIfInBounds_toArray, List.set_cons_zero, List.set_cons_succ]
      rfl
     clear hB c1 c2 c3 c4 c5 c6 c7 c8
     rintro w1 ⟨hB, c1, c2, c3, c4, c5, c6, c7, c8⟩
     apply Oh.St.pure 39 rfl rfl rfl
     ·rintro w' ⟨hB, c1, c2, c3, c4, c5, c6, c7, c8⟩
      go_simp
      with_reducible rfl
     ·simp only [Act.put, List.setIfInBounds_toArray, List.set_cons_zero, List.set_cons_succ]
      rfl
     apply Oh.St.pure 40 rfl rfl rfl
     ·rintro w' ⟨hB, c1, c2, c3, c4, c5, c6, c7, c8⟩
      go_simp
      with_reducible rfl
     ·simp only [Act.put, List.setIfInBounds_toArray, List.set_cons_zero, List.set_cons_succ]
      rfl
     apply Oh.St.pure 41 rfl rfl rfl
     ·rintro w' ⟨hB, c1, c2, c3, c4, c5, c6, c7, c8⟩
      go_simp
      with_reducible rfl
     ·simp only [Act.put, List.setIfInBounds_toArray, List.set_cons_zero, List.set_cons_succ]
      rfl
     apply Oh.St.pure 20 rfl rfl rfl
     ·rintro w' ⟨hB, c1, c2, c3, c4, c5, c6, c7, c8⟩
      go_simp
      with_reducible rfl
     ·simp only [Act.put, List.setIfInBounds_toArray, List.set_cons_zero, List.set_cons_succ]
      rfl
     refine Oh.St.done (wpListIn_nil ?_)
     gi_wp2
     have hB0 := hB
     have hnw1 : n0 ≤ w1.heap.size := Nat.le_trans hnwr hB.size
     skip
     cases heq : ((L[i]).f0.toList == (M[j]).f0.toList) with
     | false =>
      have hcase : L.length ≤ i ∨ ∃ hi : i < L.length, lt (S35.f0 L[i]) (S35.f0 M[j]) = false ∧ lt (S35.f0 M[j]) (S35.f0 L[i]) = true := .inr ⟨hi, hlt2, by
       cases hgt : lt (S35.f0 M[j]) (S35.f0 L[i]) with
       | true => rfl
       | false =>
        have := lt_tri hlt2 hgt
        rw [this] at heq
        simp at heq⟩
      refine Oh.region (fun w' => Below w1.heap.size w1 w' ∧ w'.cell? ⟨Bl, 0, none⟩ = some (.slice (some (ad.add (i * 2))) (L.length - i) cl) ∧ w'.cell? ⟨Bm, 0, none⟩ = some (.slice (some (bd.add (j * 2))) (M.length - j) cm) ∧ w'.cell? ⟨Ba, 0, none⟩ = some (.func (.func 33) #[] #[]) ∧ w'.cell? ⟨Bb, 0, none⟩ = some (.func (.func 33) #[] #[]) ∧ w'.cell? (ad.add (i * 2)) = some (.string (L[i]).f0) ∧ w'.cell? ⟨(ad.add (i * 2)).block, (ad.add (i * 2)).off + 1, none⟩ = some (.string (L[i]).f1) ∧ w'.cell? (bd.add (j * 2)) = some (.string (M[j]).f0) ∧ w'.cell? ⟨(bd.add (j * 2)).block, (bd.add (j * 2)).off + 1, none⟩ = some (.string (M[j]).f1)) L6 [] (by kernel_rfl) (fun _ => trivial) rfl (fun _ _ _ _ _ h => h) plan68_6 ⟨below_drew1 (Below.refl _ _), c1, c2, c3, c4, c5, c6, c7, c8⟩ ?_
      unfold L6
      apply Oh.St.pure 45 rfl rfl rfl
      ·rintro w' ⟨hB, c1, c2, c3, c4, c5, c6, c7, c8⟩
       go_simp
       with_reducible rfl
      ·simp only [Act.put, List.setIfInBounds_toArray, List.set_cons_zero, List.set_cons_succ]
       rfl
      apply Oh.St.pure 46 rfl rfl rfl
      ·rintro w' ⟨hB, c1, c2, c3, c4, c5, c6, c7, c8⟩
       go_simp
       with_reducible rfl
      ·simp only [Act.put, List.setIfInBounds_toArray, List.set_cons_zero, List.set_cons_succ]
       rfl
      apply Oh.St.pure 47 rfl rfl rfl
      ·rintro w' ⟨hB, c1, c2, c3, c4, c5, c6, c7, c8⟩
       go_simp
       with_reducible rfl
      ·simp only [Act.put, List.setIfInBounds_toArray, List.set_cons_zero, List.set_cons_succ]
       rfl
      apply Oh.St.pure 48 rfl rfl rfl
      ·rintro w' ⟨hB, c1, c2, c3, c4, c5, c6, c7, c8⟩
       go_simp
       with_reducible rfl
      ·simp only [Act.put, List.setIfInBounds_toArray, List.set_cons_zero, List.set_cons_succ]
       rfl
      apply Oh.St.pure 49 rfl rfl rfl
      ·rintro w' ⟨hB, c1, c2, c3, c4, c5, c6, c7, c8⟩
       go_simp
       with_reducible rfl
      ·simp only [Act.put, List.setIfInBounds_toArray, List.set_cons_zero, List.set_cons_succ]
       rfl
      apply Oh.St.pure 50 rfl rfl rfl
      ·rintro w' ⟨hB, c1, c2, c3, c4, c5, c6, c7, c8⟩
       go_simp
       with_reducible rfl
      ·simp only [Act.put, List.setIfInBounds_toArray, List.set_cons_zero, List.set_cons_succ]
       rfl
      apply Oh.St.pure 51 rfl rfl rfl
      ·rintro w' ⟨hB, c1, c2, c3, c4, c5, c6, c7, c8⟩
       go_simp
       with_reducible rfl
      ·simp only [Act.put, List.setIfInBounds_toArray, List.set_cons_zero, List.set_cons_succ]
       rfl
      apply Oh.St.pure 52 rfl rfl rfl
      ·rintro w' ⟨hB, c1, c2, c3, c4, c5, c6, c7, c8⟩
       go_simp
       with_reducible rfl
      ·simp only [Act.put, List.setIfInBounds_toArray, List.set_cons_zero, List.set_cons_succ]
       rfl
      apply Oh.St.pure 54 rfl rfl rfl
      ·rintro w' ⟨hB, c1, c2, c3, c4, c5, c6, c7, c8⟩
       go_simp
       with_reducible rfl
      ·simp only [Act.put, List.setIfInBounds_toArray, List.set_cons_zero, List.set_cons_succ]
       rfl
      apply Oh.St.pure 55 rfl rfl rfl
      ·rintro w' ⟨hB, c1, c2, c3, c4, c5, c6, c7, c8⟩
       go_simp
       with_reducible rfl
      ·simp only [Act.put, List.setIfInBounds_toArray, List.set_cons_zero, List.set_cons_succ]
       rfl
      apply Oh.St.pure 56 rfl rfl rfl
      ·rintro w' ⟨hB, c1, c2, c3, c4, c5, c6, c7, c8⟩
       go_simp
       with_reducible rfl
      ·simp only [Act.put, List.setIfInBounds_toArray, List.set_cons_zero, List.set_cons_succ]
       rfl
      apply Oh.St.pure 57 rfl rfl rfl
      ·rintro w' ⟨hB, c1, c2, c3, c4, c5, c6, c7, c8⟩
       go_simp
       with_reducible rfl
      ·simp only [Act.put, List.setIfInBounds_toArray, List.set_cons_zero, List.set_cons_succ]
       rfl
      have hB : Below w1.heap.size w1 w1.drew := below_drew1 (Below.refl _ _)
      have c1 : w1.drew.cell? _ = _ := c1
      have c2 : w1.drew.cell? _ = _ := c2
      have c3 : w1.drew.cell? _ = _ := c3
      have c4 : w1.drew.cell? _ = _ := c4
      have c5 : w1.drew.cell? _ = _ := c5
      have c6 : w1.drew.cell? _ = _ := c6
      have c7 : w1.drew.cell? _ = _ := c7
      have c8 : w1.drew.cell? _ = _ := c8
      apply Oh.St.call 53 rfl rfl rfl
      ·go_simp
       exact ⟨rfl, rfl⟩
      ·refine (callsIn_wide.2 (ofLeaf_calls (L[i]).f0 (L[i]).f1 _)).mono ?_
       rintro e w2_ ⟨rfl, hb_⟩
       exact ⟨rfl, below_then hB hB.size hb_, pw_cell_below hb_ c1, pw_cell_below hb_ c2, pw_cell_below hb_ c3, pw_cell_below hb_ c4, pw_cell_below hb_ c5, pw_cell_below hb_ c6, pw_cell_below hb_ c7, pw_cell_below hb_ c8⟩
      ·simp only [Act.put, List.setIfInBounds_toArray, List.set_cons_zero, List.set_cons_succ]
       rfl
      clear hB c1 c2 c3 c4 c5 c6 c7 c8
      rintro w3 ⟨hB, c1, c2, c3, c4, c5, c6, c7, c8⟩
      apply Oh.St.call 58 rfl rfl rfl
      ·go_simp
       exact ⟨rfl, rfl⟩
      ·refine (callsIn_wide.2 (ofLeaf_calls (M[j]).f0 (M[j]).f1 _)).mono ?_
       rintro e w2_ ⟨rfl, hb_⟩
       exact ⟨rfl, below_then hB hB.size hb_, pw_cell_below hb_ c1, pw_cell_below hb_ c2, pw_cell_below hb_ c3, pw_cell_below hb_ c4, pw_cell_below hb_ c5, pw_cell_below hb_ c6, pw_cell_below hb_ c7, pw_cell_below hb_ c8⟩
      ·simp only [Act.put, List.setIfInBounds_toArray, List.set_cons_zero, List.set_cons_succ]
       rfl
      clear hB c1 c2 c3 c4 c5 c6 c7 c8
      rintro w3 ⟨hB, c1, c2, c3, c4, c5, c6, c7, c8⟩
      apply Oh.St.pure 59 rfl rfl rfl
      ·rintro w' ⟨hB, c1, c2, c3, c4, c5, c6, c7, c8⟩
       go_simp
       with_reducible rfl
      ·simp only [Act.put, List.setIfInBounds_toArray, List.set_cons_zero, List.set_cons_succ]
       rfl
      apply Oh.St.pure 60 rfl rfl rfl
      ·rintro w' ⟨hB, c1, c2, c3, c4, c5, c6, c7, c8⟩
       go_simp
       with_reducible rfl
      ·simp only [Act.put, List.setIfInBounds_toArray, List.set_cons_zero, List.set_cons_succ]
       rfl
      apply Oh.St.pure 44 rfl rfl rfl
      ·rintro w' ⟨hB, c1, c2, c3, c4, c5, c6, c7, c8⟩
       go_simp
       with_reducible rfl
      ·simp only [Act.put, List.setIfInBounds_toArray, List.set_cons_zero, List.set_cons_succ]
       rfl
      refine Oh.St.done (wpListIn_nil ?_)
      have hB := below_then hB0 hB0.size hB
      have hc1 := c1
      have hc2 := c2
      clear hB0
      skip
      obtain ⟨x0, hx0⟩ : ∃ x0 : It L M, x0 = ⟨none, some j, (fun q hq => by cases hq), (fun q hq => by cases hq; exact hj), by simp⟩ := ⟨_, rfl⟩
      have hxa : x0.a = none := by rw [hx0]
      have hxb : x0.b = some j := by rw [hx0]
      have hmg3 := nextR (pa := S35.f0) (pb := S35.f0) (x := x0) ⟨hxa, hxb⟩ hj hmg hcase
      have hY := fun W2 hJ2 => hY pre x0 W2 hJ2 (by omega)
      simp only [hxa, hxb, Option.bind_some, Option.bind_none, Option.map_some] at hY
      have hF1 : w3.frozen? ⟨Bl, 0, none⟩ = false := (frozen_same (hB.block Bl (lt_of_cell hcl))).trans hfl
      have hF2 : w3.frozen? ⟨Bm, 0, none⟩ = false := (frozen_same (hB.block Bm (lt_of_cell hcm))).trans hfm
      gi_wp2
      all_goals (
       refine finR (J := J pre) sp hnwr hSP (fun W W' row => hJ pre W W' row) hJs hj hB hc1 hLl hc2 (N := 74) ?_ hY ?_ ?_ (fun W3 hS3 hJ3 => ?_) (fun W3 hX => ?_)
       ·rfl
       ·omega
       ·first | exact hLm.next1 hj (by omega) | exact hLm.next2 hj (by omega)
       ·gi_wp2
        go_roundw
        case rel => exact ⟨i, (j + 1), _, hS3, hmg3, (by simp only [List.length_append, List.length_singleton]; omega), hJ3⟩
        case measure =>
         obtain ⟨_, _, q1_, _⟩ := hS3.l
         obtain ⟨_, _, q2_, _⟩ := hS3.m
         rw [hleft, leftN_eq q1_, leftN_eq q2_]
         omega
       ·gi_wp2
        refine bodyPost_ret (results_none rfl _ _ _) rfl ?_
        exact ⟨⟨_, rfl⟩, .inr ⟨_, ⟨_, hmg3⟩, hX⟩⟩)
     | true =>
      refine Oh.region (fun w' => Below w1.heap.size w1 w' ∧ w'.cell? ⟨Bl, 0, none⟩ = some (.slice (some (ad.add (i * 2))) (L.length - i) cl) ∧ w'.cell? ⟨Bm, 0, none⟩ = some (.slice (some (bd.add (j * 2))) (M.length - j) cm) ∧ w'.cell? ⟨Ba, 0, none⟩ = some (.func (.func 33) #[] #[]) ∧ w'.cell? ⟨Bb, 0, none⟩ = some (.func (.func 33) #[] #[]) ∧ w'.cell? (ad.add (i * 2)) = some (.string (L[i]).f0) ∧ w'.cell? ⟨(ad.add (i * 2)).block, (ad.add (i * 2)).off + 1, none⟩ = some (.string (L[i]).f1) ∧ w'.cell? (bd.add (j * 2)) = some (.string (M[j]).f0) ∧ w'.cell? ⟨(bd.add (j * 2)).block, (bd.add (j * 2)).off + 1, none⟩ = some (.string (M[j]).f1)) L6 [] (by kernel_rfl) (fun _ => trivial) rfl (fun _ _ _ _ _ h => h) plan68_6 ⟨below_drew1 (Below.refl _ _), c1, c2, c3, c4, c5, c6, c7, c8⟩ ?_
      unfold L6
      apply Oh.St.pure 45 rfl rfl rfl
      ·rintro w' ⟨hB, c1, c2, c3, c4, c5, c6, c7, c8⟩
       go_simp
       with_reducible rfl
      ·simp only [Act.put, List.setIfInBounds_toArray, List.set_cons_zero, List.set_cons_succ]
       rfl
      apply Oh.St.pure 46 rfl rfl rfl
      ·rintro w' ⟨hB, c1, c2, c3, c4, c5, c6, c7, c8⟩
       go_simp
       with_reducible rfl
      ·simp only [Act.put, List.setIfInBounds_toArray, List.set_cons_zero, List.set_cons_succ]
       rfl
      apply Oh.St.pure 47 rfl rfl rfl
      ·rintro w' ⟨hB, c1, c2, c3, c4, c5, c6, c7, c8⟩
       go_simp
       with_reducible rfl
      ·simp only [Act.put, List.setIfInBounds_toArray, List.set_cons_zero, List.set_cons_succ]
       rfl
      apply Oh.St.pure 48 rfl rfl rfl
      ·rintro w' ⟨hB, c1, c2, c3, c4, c5, c6, c7, c8⟩
       go_simp
       with_reducible rfl
      ·simp only [Act.put, List.setIfInBounds_toArray, List.set_cons_zero, List.set_cons_succ]
       rfl
      apply Oh.St.pure 49 rfl rfl rfl
      ·rintro w' ⟨hB, c1, c2, c3, c4, c5, c6, c7, c8⟩
       go_simp
       with_reducible rfl
      ·simp only [Act.put, List.setIfInBounds_toArray, List.set_cons_zero, List.set_cons_succ]
       rfl
      apply Oh.St.pure 50 rfl rfl rfl
      ·rintro w' ⟨hB, c1, c2, c3, c4, c5, c6, c7, c8⟩
       go_simp
       with_reducible rfl
      ·simp only [Act.put, List.setIfInBounds_toArray, List.set_cons_zero, List.set_cons_succ]
       rfl
      apply Oh.St.pure 51 rfl rfl rfl
      ·rintro w' ⟨hB, c1, c2, c3, c4, c5, c6, c7, c8⟩
       go_simp
       with_reducible rfl
      ·simp only [Act.put, List.setIfInBounds_toArray, List.set_cons_zero, List.set_cons_succ]
       rfl
      apply Oh.St.pure 52 rfl rfl rfl
      ·rintro w' ⟨hB, c1, c2, c3, c4, c5, c6, c7, c8⟩
       go_simp
       with_reducible rfl
      ·simp only [Act.put, List.setIfInBounds_toArray, List.set_cons_zero, List.set_cons_succ]
       rfl
      apply Oh.St.pure 54 rfl rfl rfl
      ·rintro w' ⟨hB, c1, c2, c3, c4, c5, c6, c7, c8⟩
       go_simp
       with_reducible rfl
      ·simp only [Act.put, List.setIfInBounds_toArray, List.set_cons_zero, List.set_cons_succ]
       rfl
      apply Oh.St.pure 55 rfl rfl rfl
      ·rintro w' ⟨hB, c1, c2, c3, c4, c5, c6, c7, c8⟩
       go_simp
       with_reducible rfl
      ·simp only [Act.put, List.setIfInBounds_toArray, List.set_cons_zero, List.set_cons_succ]
       rfl
      apply Oh.St.pure 56 rfl rfl rfl
      ·rintro w' ⟨hB, c1, c2, c3, c4, c5, c6, c7, c8⟩
       go_simp
       with_reducible rfl
      ·simp only [Act.put, List.setIfInBounds_toArray, List.set_cons_zero, List.set_cons_succ]
       rfl
      apply Oh.St.pure 57 rfl rfl rfl
      ·rintro w' ⟨hB, c1, c2, c3, c4, c5, c6, c7, c8⟩
       go_simp
       with_reducible rfl
      ·simp only [Act.put, List.setIfInBounds_toArray, List.set_cons_zero, List.set_cons_succ]
       rfl
      have hB : Below w1.heap.size w1 w1.drew := below_drew1 (Below.refl _ _)
      have c1 : w1.drew.cell? _ = _ := c1
      have c2 : w1.drew.cell? _ = _ := c2
      have c3 : w1.drew.cell? _ = _ := c3
      have c4 : w1.drew.cell? _ = _ := c4
      have c5 : w1.drew.cell? _ = _ := c5
      have c6 : w1.drew.cell? _ = _ := c6
      have c7 : w1.drew.cell? _ = _ := c7
      have c8 : w1.drew.cell? _ = _ := c8
      apply Oh.St.call 53 rfl rfl rfl
      ·go_simp
       exact ⟨rfl, rfl⟩
      ·refine (callsIn_wide.2 (ofLeaf_calls (L[i]).f0 (L[i]).f1 _)).mono ?_
       rintro e w2_ ⟨rfl, hb_⟩
       exact ⟨rfl, below_then hB hB.size hb_, pw_cell_below hb_ c1, pw_cell_below hb_ c2, pw_cell_below hb_ c3, pw_cell_below hb_ c4, pw_cell_below hb_ c5, pw_cell_below hb_ c6, pw_cell_below hb_ c7, pw_cell_below hb_ c8⟩
      ·simp only [Act.put, List.setIfInBounds_toArray, List.set_cons_zero, List.set_cons_succ]
       rfl
      clear hB c1 c2 c3 c4 c5 c6 c7 c8
      rintro w3 ⟨hB, c1, c2, c3, c4, c5, c6, c7, c8⟩
      apply Oh.St.call 58 rfl rfl rfl
      ·go_simp
       exact ⟨rfl, rfl⟩
      ·refine (callsIn_wide.2 (ofLeaf_calls (M[j]).f0 (M[j]).f1 _)).mono ?_
       rintro e w2_ ⟨rfl, hb_⟩
       exact ⟨rfl, below_then hB hB.size hb_, pw_cell_below hb_ c1, pw_cell_below hb_ c2, pw_cell_below hb_ c3, pw_cell_below hb_ c4, pw_cell_below hb_ c5, pw_cell_below hb_ c6, pw_cell_below hb_ c7, pw_cell_below hb_ c8⟩
      ·simp only [Act.put, List.setIfInBounds_toArray, List.set_cons_zero, List.set_cons_succ]
       rfl
      clear hB c1 c2 c3 c4 c5 c6 c7 c8
      rintro w3 ⟨hB, c1, c2, c3, c4, c5, c6, c7, c8⟩
      apply Oh.St.pure 59 rfl rfl rfl
      ·rintro w' ⟨hB, c1, c2, c3, c4, c5, c6, c7, c8⟩
       go_simp
       with_reducible rfl
      ·simp only [Act.put, List.setIfInBounds_toArray, List.set_cons_zero, List.set_cons_succ]
       rfl
      apply Oh.St.pure 60 rfl rfl rfl
      ·rintro w' ⟨hB, c1, c2, c3, c4, c5, c6, c7, c8⟩
       go_simp
       with_reducible rfl
      ·simp only [Act.put, List.setIfInBounds_toArray, List.set_cons_zero, List.set_cons_succ]
       rfl
      apply Oh.St.pure 44 rfl rfl rfl
      ·rintro w' ⟨hB, c1, c2, c3, c4, c5, c6, c7, c8⟩
       go_simp
       with_reducible rfl
      ·simp only [Act.put, List.setIfInBounds_toArray, List.set_cons_zero, List.set_cons_succ]
       rfl
      refine Oh.St.done (wpListIn_nil ?_)
      gi_wp2
      have hB := below_then hB0 hB0.size hB
      clear hB0
      refine Oh.region (fun w' => Below w3.heap.size w3 w' ∧ w'.cell? ⟨Bl, 0, none⟩ = some (.slice (some (ad.add (i * 2))) (L.length - i) cl) ∧ w'.cell? ⟨Bm, 0, none⟩ = some (.slice (some (bd.add (j * 2))) (M.length - j) cm) ∧ w'.cell? ⟨Ba, 0, none⟩ = some (.func (.func 33) #[] #[]) ∧ w'.cell? ⟨Bb, 0, none⟩ = some (.func (.func 33) #[] #[])) L3 [] (by kernel_rfl) (fun _ => trivial) rfl (fun _ _ _ _ _ h => h) plan68_3 ⟨below_drew1 (Below.refl _ _), c1, c2, c3, c4⟩ ?_
      unfold L3
      apply Oh.St.pure 16 rfl rfl rfl
      ·rintro w' ⟨hB, c1, c2, c3, c4⟩
       go_simp
       with_reducible rfl
      ·simp only [Act.put, List.setIfInBounds_toArray, List.set_cons_zero, List.set_cons_succ]
       rfl
      apply Oh.St.pure 17 rfl rfl rfl
      ·rintro w' ⟨hB, c1, c2, c3, c4⟩
       go_simp
       with_reducible rfl
      ·simp only [Act.put, List.setIfInBounds_toArray, List.set_cons_zero, List.set_cons_succ]
       rfl
      apply Oh.St.pure 18 rfl rfl rfl
      ·rintro w' ⟨hB, c1, c2, c3, c4⟩
       go_simp
       with_reducible rfl
      ·simp only [Act.put, List.setIfInBounds_toArray, List.set_cons_zero, List.set_cons_succ]
       rfl
      apply Oh.St.pure 19 rfl rfl rfl
      ·rintro w' ⟨hB, c1, c2, c3, c4⟩
       go_simp
       with_reducible rfl
      ·simp only [Act.put, List.setIfInBounds_toArray, List.set_cons_zero, List.set_cons_succ]
       rfl
      apply Oh.St.pure 6 rfl rfl rfl
      ·rintro w' ⟨hB, c1, c2, c3, c4⟩
       go_simp
       with_reducible rfl
      ·simp only [Act.put, List.setIfInBounds_toArray, List.set_cons_zero, List.set_cons_succ]
       rfl
      apply Oh.St.pure 7 rfl rfl rfl
      ·rintro w' ⟨hB, c1, c2, c3, c4⟩
       go_simp
       with_reducible rfl
      ·simp only [Act.put, List.setIfInBounds_toArray, List.set_cons_zero, List.set_cons_succ]
       rfl
      refine Oh.St.done (wpListIn_nil ?_)
      have hB := below_drew1 hB
      have hc1 : w3.drew.cell? _ = _ := c1
      have hc2 : w3.drew.cell? _ = _ := c2
      generalize w3.drew = w5 at hB hc1 hc2 ⊢
      have heq2 : S35.f0 L[i] = S35.f0 M[j] := toList_inj (by exact eq_of_beq heq)
      have hcase : lt (S35.f0 L[i]) (S35.f0 M[j]) = false ∧ lt (S35.f0 M[j]) (S35.f0 L[i]) = false := ⟨hlt2, by rw [← heq2]; exact lt_irrefl _⟩
      obtain ⟨x0, hx0⟩ : ∃ x0 : It L M, x0 = ⟨some i, some j, (fun q hq => by cases hq; exact hi), (fun q hq => by cases hq; exact hj), by simp⟩ := ⟨_, rfl⟩
      have hxa : x0.a = some i := by rw [hx0]
      have hxb : x0.b = some j := by rw [hx0]
      have hmg3 := nextB (pa := S35.f0) (pb := S35.f0) (x := x0) ⟨hxa, hxb⟩ hi hj hmg hcase.1 hcase.2
      have hY := fun W2 hJ2 => hY pre x0 W2 hJ2 (by omega)
      simp only [hxa, hxb, Option.bind_some, Option.bind_none, Option.map_some] at hY
      have hF1 : w5.frozen? ⟨Bl, 0, none⟩ = false := (frozen_same (hB.block Bl (lt_of_cell hcl))).trans hfl
      have hF2 : w5.frozen? ⟨Bm, 0, none⟩ = false := (frozen_same (hB.block Bm (lt_of_cell hcm))).trans hfm
      have hcs := fun v => (World.cell?_setCell_far w5 ⟨Bl, 0, none⟩ ⟨Bm, 0, none⟩ v sp.lm).trans hc2
      gi_wp2
      all_goals (
       refine finB (J := J pre) sp hnwr hSP (fun W W' row => hJ pre W W' row) hJs hi hj hB hc1 hc2 (N := 74) ?_ hY ?_ ?_ ?_ ?_ (fun W3 hS3 hJ3 => ?_) (fun W3 hX => ?_)
       ·rfl
       ·omega
       ·first | exact hLl.next1 hi (by omega) | exact hLl.next2 hi (by omega)
       ·omega
       ·first | exact hLm.next1 hj (by omega) | exact hLm.next2 hj (by omega)
       ·gi_wp2
        go_roundw
        case rel => exact ⟨(i + 1), (j + 1), _, hS3, hmg3, (by simp only [List.length_append, List.length_singleton]; omega), hJ3⟩
        case measure =>
         obtain ⟨_, _, q1_, _⟩ := hS3.l
         obtain ⟨_, _, q2_, _⟩ := hS3.m
         rw [hleft, leftN_eq q1_, leftN_eq q2_]
         omega
       ·gi_wp2
        refine bodyPost_ret (results_none rfl _ _ _) rfl ?_
        exact ⟨⟨_, rfl⟩, .inr ⟨_, ⟨_, hmg3⟩, hX⟩⟩)
   ·have hj0 : M.length - j = 0 := by omega
    rw [hj0] at hcm
    have hcase : M.length ≤ j ∨ ∃ hj : j < M.length, lt (S35.f0 L[i]) (S35.f0 M[j]) = true := .inl hj
    gi_wp2
    refine Oh.region (fun w' => Below wr.heap.size wr w' ∧ w'.cell? ⟨Bl, 0, none⟩ = some (.slice (some (ad.add (i * 2))) (L.length - i) cl) ∧ w'.cell? ⟨Bm, 0, none⟩ = some (.slice Am 0 cm) ∧ w'.cell? ⟨Ba, 0, none⟩ = some (.func (.func 33) #[] #[]) ∧ w'.cell? ⟨Bb, 0, none⟩ = some (.func (.func 33) #[] #[])) L4 [] (by kernel_rfl) (fun _ => trivial) rfl (fun _ _ _ _ _ h => h) plan68_4 ⟨below_drew1 (Below.refl _ _), hcl, hcm, ha, hb⟩ ?_
    unfold L4
    apply Oh.St.pure 21 rfl rfl rfl
    ·rintro w' ⟨hB, c1, c2, c3, c4⟩
     go_simp
     with_reducible rfl
    ·simp only [Act.put, List.setIfInBounds_toArray, List.set_cons_zero, List.set_cons_succ]
     rfl
    apply Oh.St.pure 22 rfl rfl rfl
    ·rintro w' ⟨hB, c1, c2, c3, c4⟩
     go_simp
     with_reducible rfl
    ·simp only [Act.put, List.setIfInBounds_toArray, List.set_cons_zero, List.set_cons_succ]
     rfl
    apply Oh.St.pure 23 rfl rfl rfl
    ·rintro w' ⟨hB, c1, c2, c3, c4⟩
     go_simp
     with_reducible rfl
    ·simp only [Act.put, List.setIfInBounds_toArray, List.set_cons_zero, List.set_cons_succ]
     rfl
    apply Oh.St.pure 24 rfl rfl rfl
    ·rintro w' ⟨hB, c1, c2, c3, c4⟩
     go_simp
     with_reducible rfl
    ·simp only [Act.put, List.setIfInBounds_toArray, List.set_cons_zero, List.set_cons_succ]
     rfl
    apply Oh.St.skip 25 rfl rfl rfl
    ·simp only [Act.put, List.setIfInBounds_toArray, List.set_cons_zero, List.set_cons_succ]
     rfl
    apply Oh.St.skip 26 rfl rfl rfl
    ·simp only [Act.put, List.setIfInBounds_toArray, List.set_cons_zero, List.set_cons_succ]
     rfl
    apply Oh.St.skip 27 rfl rfl rfl
    ·simp only [Act.put, List.setIfInBounds_toArray, List.set_cons_zero, List.set_cons_succ]
     rfl
    apply Oh.St.skip 28 rfl rfl rfl
    ·simp only [Act.put, List.setIfInBounds_toArray, List.set_cons_zero, List.set_cons_succ]
     rfl
    apply Oh.St.skip 29 rfl rfl rfl
    ·simp only [Act.put, List.setIfInBounds_toArray, List.set_cons_zero, List.set_cons_succ]
     rfl
    apply Oh.St.skip 30 rfl rfl rfl
    ·simp only [Act.put, List.setIfInBounds_toArray, List.set_cons_zero, List.set_cons_succ]
     rfl
    apply Oh.St.skip 31 rfl rfl rfl
    ·simp only [Act.put, List.setIfInBounds_toArray, List.set_cons_zero, List.set_cons_succ]
     rfl
    apply Oh.St.skip 32 rfl rfl rfl
    ·simp only [Act.put, List.setIfInBounds_toArray, List.set_cons_zero, List.set_cons_succ]
     rfl
    apply Oh.St.skip 34 rfl rfl rfl
    ·simp only [Act.put, List.setIfInBounds_toArray, List.set_cons_zero, List.set_cons_succ]
     rfl
    apply Oh.St.skip 35 rfl rfl rfl
    ·simp only [Act.put, List.setIfInBounds_toArray, List.set_cons_zero, List.set_cons_succ]
     rfl
    apply Oh.St.skip 36 rfl rfl rfl
    ·simp only [Act.put, List.setIfInBounds_toArray, List.set_cons_zero, List.set_cons_succ]
     rfl
    apply Oh.St.skip 37 rfl rfl rfl
    ·simp only [Act.put, List.setIfInBounds_toArray, List.set_cons_zero, List.set_cons_succ]
     rfl
    apply Oh.St.skip 33 rfl rfl rfl
    ·simp only [Act.put, List.setIfInBounds_toArray, List.set_cons_zero, List.set_cons_succ]
     rfl
    apply Oh.St.skip 38 rfl rfl rfl
    ·simp only [Act.put, List.setIfInBounds_toArray, List.set_cons_zero, List.set_cons_succ]
     rfl
    apply Oh.St.skip 39 rfl rfl rfl
    ·simp only [Act.put, List.setIfInBounds_toArray, List.set_cons_zero, List.set_cons_succ]
     rfl
    apply Oh.St.skip 40 rfl rfl rfl
    ·simp only [Act.put, List.setIfInBounds_toArray, List.set_cons_zero, List.set_cons_succ]
     rfl
    apply Oh.St.pure 41 rfl rfl rfl
    ·rintro w' ⟨hB, c1, c2, c3, c4⟩
     go_simp
     with_reducible rfl
    ·simp only [Act.put, List.setIfInBounds_toArray, List.set_cons_zero, List.set_cons_succ]
     rfl
    apply Oh.St.pure 20 rfl rfl rfl
    ·rintro w' ⟨hB, c1, c2, c3, c4⟩
     go_simp
     with_reducible rfl
    ·simp only [Act.put, List.setIfInBounds_toArray, List.set_cons_zero, List.set_cons_succ]
     rfl
    refine Oh.St.done (wpListIn_nil ?_)
    have hB : Below wr.heap.size wr wr.drew := below_drew1 (Below.refl _ _)
    have hc1 : wr.drew.cell? _ = _ := hcl
    have hc2 : wr.drew.cell? ⟨Bm, 0, none⟩ = some (.slice Am (M.length - j) cm) := by rw [hj0]; exact hcm
    generalize wr.drew = w1 at hB hc1 hc2 ⊢
    obtain ⟨x0, hx0⟩ : ∃ x0 : It L M, x0 = ⟨some i, none, (fun q hq => by cases hq; exact hi), (fun q hq => by cases hq), by simp⟩ := ⟨_, rfl⟩
    have hxa : x0.a = some i := by rw [hx0]
    have hxb : x0.b = none := by rw [hx0]
    have hmg3 := nextL (pa := S35.f0) (pb := S35.f0) (x := x0) ⟨hxa, hxb⟩ hi hmg hcase
    have hY := fun W2 hJ2 => hY pre x0 W2 hJ2 (by omega)
    simp only [hxa, hxb, Option.bind_some, Option.bind_none, Option.map_some] at hY
    have hF1 : w1.frozen? ⟨Bl, 0, none⟩ = false := (frozen_same (hB.block Bl (lt_of_cell hcl))).trans hfl
    have hF2 : w1.frozen? ⟨Bm, 0, none⟩ = false := (frozen_same (hB.block Bm (lt_of_cell hcm))).trans hfm
    gi_wp2
    all_goals (
     refine finL (J := J pre) sp hnwr hSP (fun W W' row => hJ pre W W' row) hJs hi hB hc1 hc2 hLm (N := 74) ?_ hY ?_ ?_ (fun W3 hS3 hJ3 => ?_) (fun W3 hX => ?_)
     ·rfl
     ·omega
     ·first | exact hLl.next1 hi (by omega) | exact hLl.next2 hi (by omega)
     ·gi_wp2
      go_roundw
      case rel => exact ⟨(i + 1), j, _, hS3, hmg3, (by simp only [List.length_append, List.length_singleton]; omega), hJ3⟩
      case measure =>
       obtain ⟨_, _, q1_, _⟩ := hS3.l
       obtain ⟨_, _, q2_, _⟩ := hS3.m
       rw [hleft, leftN_eq q1_, leftN_eq q2_]
       omega
     ·gi_wp2
      refine bodyPost_ret (results_none rfl _ _ _) rfl ?_
      exact ⟨⟨_, rfl⟩, .inr ⟨_, ⟨_, hmg3⟩, hX⟩⟩)
  ·have hi0 : L.length - i = 0 := by omega
   rcases Nat.lt_or_ge j M.length with hj | hj
   ·obtain ⟨bd, rfl, f0, f1⟩ := at_T35 (hM wr hbel) (j : Int) (by omega) (by omega)
    rw [Int.toNat_natCast, rd35 hj] at f0 f1
    obtain rfl := hLm.2.2 hj
    simp only [Option.map_some] at hcm hLm
    have hpm : 0 < M.length - j := by omega
    have hpm0 : ¬ (M.length - j = 0) := by omega
    have hpme : (((M.length - j : Nat) : Int) == 0) = false := by rw [beq_eq_false_iff_ne]; omega
    rw [hi0] at hcl
    have hcase : L.length ≤ i ∨ ∃ hi : i < L.length, lt (S35.f0 L[i]) (S35.f0 M[j]) = false ∧ lt (S35.f0 M[j]) (S35.f0 L[i]) = true := .inl hi
    gi_wp2
    refine Oh.region (fun w' => Below wr.heap.size wr w' ∧ w'.cell? ⟨Bl, 0, none⟩ = some (.slice Al 0 cl) ∧ w'.cell? ⟨Bm, 0, none⟩ = some (.slice (some (bd.add (j * 2))) (M.length - j) cm) ∧ w'.cell? ⟨Ba, 0, none⟩ = some (.func (.func 33) #[] #[]) ∧ w'.cell? ⟨Bb, 0, none⟩ = some (.func (.func 33) #[] #[])) L4 [] (by kernel_rfl) (fun _ => trivial) rfl (fun _ _ _ _ _ h => h) plan68_4 ⟨below_drew1 (Below.refl _ _), hcl, hcm, ha, hb⟩ ?_
    unfold L4
    apply Oh.St.pure 21 rfl rfl rfl
    ·rintro w' ⟨hB, c1, c2, c3, c4⟩
     go_simp
     with_reducible rfl
    ·simp only [Act.put, List.setIfInBounds_toArray, List.set_cons_zero, List.set_cons_succ]
     rfl
    apply Oh.St.pure 22 rfl rfl rfl
    ·rintro w' ⟨hB, c1, c2, c3, c4⟩
     go_simp
     with_reducible rfl
    ·simp only [Act.put, List.setIfInBounds_toArray, List.set_cons_zero, List.set_cons_succ]
     rfl
    apply Oh.St.pure 23 rfl rfl rfl
    ·rintro w' ⟨hB, c1, c2, c3, c4⟩
     go_simp
     with_reducible rfl
    ·simp only [Act.put, List.setIfInBounds_toArray, List.set_cons_zero, List.set_cons_succ]
     rfl
    apply Oh.St.pure 24 rfl rfl rfl
    ·rintro w' ⟨hB, c1, c2, c3, c4⟩
     go_simp
     with_reducible rfl
    ·simp only [Act.put, List.setIfInBounds_toArray, List.set_cons_zero, List.set_cons_succ]
     rfl
    apply Oh.St.pure 25 rfl rfl rfl
    ·rintro w' ⟨hB, c1, c2, c3, c4⟩
     go_simp
     with_reducible rfl
    ·simp only [Act.put, List.setIfInBounds_toArray, List.set_cons_zero, List.set_cons_succ]
     rfl
    apply Oh.St.pure 26 rfl rfl rfl
    ·rintro w' ⟨hB, c1, c2, c3, c4⟩
     go_simp
     with_reducible rfl
    ·simp only [Act.put, List.setIfInBounds_toArray, List.set_cons_zero, List.set_cons_succ]
     rfl
    apply Oh.St.pure 27 rfl rfl rfl
    ·rintro w' ⟨hB, c1, c2, c3, c4⟩
     go_simp
     with_reducible rfl
    ·simp only [Act.put, List.setIfInBounds_toArray, List.set_cons_zero, List.set_cons_succ]
     rfl
    apply Oh.St.pure 28 rfl rfl rfl
    ·rintro w' ⟨hB, c1, c2, c3, c4⟩
     go_simp
     with_reducible rfl
    ·simp only [Act.put, List.setIfInBounds_toArray, List.set_cons_zero, List.set_cons_succ]
     rfl
    apply Oh.St.skip 29 rfl rfl rfl
    ·simp only [Act.put, List.setIfInBounds_toArray, List.set_cons_zero, List.set_cons_succ]
     rfl
    apply Oh.St.skip 30 rfl rfl rfl
    ·simp only [Act.put, List.setIfInBounds_toArray, List.set_cons_zero, List.set_cons_succ]
     rfl
    apply Oh.St.skip 31 rfl rfl rfl
    ·simp only [Act.put, List.setIfInBounds_toArray, List.set_cons_zero, List.set_cons_succ]
     rfl
    apply Oh.St.skip 32 rfl rfl rfl
    ·simp only [Act.put, List.setIfInBounds_toArray, List.set_cons_zero, List.set_cons_succ]
     rfl
    apply Oh.St.skip 34 rfl rfl rfl
    ·simp only [Act.put, List.setIfInBounds_toArray, List.set_cons_zero, List.set_cons_succ]
     rfl
    apply Oh.St.skip 35 rfl rfl rfl
    ·simp only [Act.put, List.setIfInBounds_toArray, List.set_cons_zero, List.set_cons_succ]
     rfl
    apply Oh.St.skip 36 rfl rfl rfl
    ·simp only [Act.put, List.setIfInBounds_toArray, List.set_cons_zero, List.set_cons_succ]
     rfl
    apply Oh.St.skip 37 rfl rfl rfl
    ·simp only [Act.put, List.setIfInBounds_toArray, List.set_cons_zero, List.set_cons_succ]
     rfl
    apply Oh.St.skip 33 rfl rfl rfl
    ·simp only [Act.put, List.setIfInBounds_toArray, List.set_cons_zero, List.set_cons_succ]
     rfl
    apply Oh.St.skip 38 rfl rfl rfl
    ·simp only [Act.put, List.setIfInBounds_toArray, List.set_cons_zero, List.set_cons_succ]
     rfl
    apply Oh.St.skip 39 rfl rfl rfl
    ·simp only [Act.put, List.setIfInBounds_toArray, List.set_cons_zero, List.set_cons_succ]
     rfl
    apply Oh.St.pure 40 rfl rfl rfl
    ·rintro w' ⟨hB, c1, c2, c3, c4⟩
     go_simp
     with_reducible rfl
    ·simp only [Act.put, List.setIfInBounds_toArray, List.set_cons_zero, List.set_cons_succ]
     rfl
    apply Oh.St.pure 41 rfl rfl rfl
    ·rintro w' ⟨hB, c1, c2, c3, c4⟩
     go_simp
     with_reducible rfl
    ·simp only [Act.put, List.setIfInBounds_toArray, List.set_cons_zero, List.set_cons_succ]
     rfl
    apply Oh.St.pure 20 rfl rfl rfl
    ·rintro w' ⟨hB, c1, c2, c3, c4⟩
     go_simp
     with_reducible rfl
    ·simp only [Act.put, List.setIfInBounds_toArray, List.set_cons_zero, List.set_cons_succ]
     rfl
    refine Oh.St.done (wpListIn_nil ?_)
    gi_wp2
    refine Oh.region (fun w' => Below wr.drew.heap.size wr.drew w' ∧ w'.cell? ⟨Bl, 0, none⟩ = some (.slice Al 0 cl) ∧ w'.cell? ⟨Bm, 0, none⟩ = some (.slice (some (bd.add (j * 2))) (M.length - j) cm) ∧ w'.cell? ⟨Ba, 0, none⟩ = some (.func (.func 33) #[] #[]) ∧ w'.cell? ⟨Bb, 0, none⟩ = some (.func (.func 33) #[] #[])) L6 [] (by kernel_rfl) (fun _ => trivial) rfl (fun _ _ _ _ _ h => h) plan68_6 ⟨below_drew1 (Below.refl _ _), hcl, hcm, ha, hb⟩ ?_
    unfold L6
    apply Oh.St.pure 45 rfl rfl rfl
    ·rintro w' ⟨hB, c1, c2, c3, c4⟩
     go_simp
     with_reducible rfl
    ·simp only [Act.put, List.setIfInBounds_toArray, List.set_cons_zero, List.set_cons_succ]
     rfl
    apply Oh.St.pure 46 rfl rfl rfl
    ·rintro w' ⟨hB, c1, c2, c3, c4⟩
     go_simp
     with_reducible rfl
    ·simp only [Act.put, List.setIfInBounds_toArray, List.set_cons_zero, List.set_cons_succ]
     rfl
    apply Oh.St.pure 47 rfl rfl rfl
    ·rintro w' ⟨hB, c1, c2, c3, c4⟩
     go_simp
     with_reducible rfl
    ·simp only [Act.put, List.setIfInBounds_toArray, List.set_cons_zero, List.set_cons_succ]
     rfl
    apply Oh.St.pure 48 rfl rfl rfl
    ·rintro w' ⟨hB, c1, c2, c3, c4⟩
     go_simp
     with_reducible rfl
    ·simp only [Act.put, List.setIfInBounds_toArray, List.set_cons_zero, List.set_cons_succ]
     rfl
    apply Oh.St.skip 49 rfl rfl rfl
    ·simp only [Act.put, List.setIfInBounds_toArray, List.set_cons_zero, List.set_cons_succ]
     rfl
    apply Oh.St.skip 50 rfl rfl rfl
    ·simp only [Act.put, List.setIfInBounds_toArray, List.set_cons_zero, List.set_cons_succ]
     rfl
    apply Oh.St.skip 51 rfl rfl rfl
    ·simp only [Act.put, List.setIfInBounds_toArray, List.set_cons_zero, List.set_cons_succ]
     rfl
    apply Oh.St.skip 52 rfl rfl rfl
    ·simp only [Act.put, List.setIfInBounds_toArray, List.set_cons_zero, List.set_cons_succ]
     rfl
    apply Oh.St.skip 54 rfl rfl rfl
    ·simp only [Act.put, List.setIfInBounds_toArray, List.set_cons_zero, List.set_cons_succ]
     rfl
    apply Oh.St.skip 55 rfl rfl rfl
    ·simp only [Act.put, List.setIfInBounds_toArray, List.set_cons_zero, List.set_cons_succ]
     rfl
    apply Oh.St.skip 56 rfl rfl rfl
    ·simp only [Act.put, List.setIfInBounds_toArray, List.set_cons_zero, List.set_cons_succ]
     rfl
    apply Oh.St.skip 57 rfl rfl rfl
    ·simp only [Act.put, List.setIfInBounds_toArray, List.set_cons_zero, List.set_cons_succ]
     rfl
    apply Oh.St.skip 53 rfl rfl rfl
    ·simp only [Act.put, List.setIfInBounds_toArray, List.set_cons_zero, List.set_cons_succ]
     rfl
    apply Oh.St.skip 58 rfl rfl rfl
    ·simp only [Act.put, List.setIfInBounds_toArray, List.set_cons_zero, List.set_cons_succ]
     rfl
    apply Oh.St.skip 59 rfl rfl rfl
    ·simp only [Act.put, List.setIfInBounds_toArray, List.set_cons_zero, List.set_cons_succ]
     rfl
    apply Oh.St.pure 60 rfl rfl rfl
    ·rintro w' ⟨hB, c1, c2, c3, c4⟩
     go_simp
     with_reducible rfl
    ·simp only [Act.put, List.setIfInBounds_toArray, List.set_cons_zero, List.set_cons_succ]
     rfl
    apply Oh.St.pure 44 rfl rfl rfl
    ·rintro w' ⟨hB, c1, c2, c3, c4⟩
     go_simp
     with_reducible rfl
    ·simp only [Act.put, List.setIfInBounds_toArray, List.set_cons_zero, List.set_cons_succ]
     rfl
    refine Oh.St.done (wpListIn_nil ?_)
    have hB : Below wr.heap.size wr wr.drew.drew := below_drew1 (below_drew1 (Below.refl _ _))
    have hc1 : wr.drew.drew.cell? ⟨Bl, 0, none⟩ = some (.slice Al (L.length - i) cl) := by rw [hi0]; exact hcl
    have hc2 : wr.drew.drew.cell? _ = _ := hcm
    generalize wr.drew.drew = w1 at hB hc1 hc2 ⊢
    obtain ⟨x0, hx0⟩ : ∃ x0 : It L M, x0 = ⟨none, some j, (fun q hq => by cases hq), (fun q hq => by cases hq; exact hj), by simp⟩ := ⟨_, rfl⟩
    have hxa : x0.a = none := by rw [hx0]
    have hxb : x0.b = some j := by rw [hx0]
    have hmg3 := nextR (pa := S35.f0) (pb := S35.f0) (x := x0) ⟨hxa, hxb⟩ hj hmg hcase
    have hY := fun W2 hJ2 => hY pre x0 W2 hJ2 (by omega)
    simp only [hxa, hxb, Option.bind_some, Option.bind_none, Option.map_some] at hY
    have hF1 : w1.frozen? ⟨Bl, 0, none⟩ = false := (frozen_same (hB.block Bl (lt_of_cell hcl))).trans hfl
    have hF2 : w1.frozen? ⟨Bm, 0, none⟩ = false := (frozen_same (hB.block Bm (lt_of_cell hcm))).trans hfm
    gi_wp2
    all_goals (
     refine finR (J := J pre) sp hnwr hSP (fun W W' row => hJ pre W W' row) hJs hj hB hc1 hLl hc2 (N := 74) ?_ hY ?_ ?_ (fun W3 hS3 hJ3 => ?_) (fun W3 hX => ?_)
     ·rfl
     ·omega
     ·first | exact hLm.next1 hj (by omega) | exact hLm.next2 hj (by omega)
     ·gi_wp2
      go_roundw
      case rel => exact ⟨i, (j + 1), _, hS3, hmg3, (by simp only [List.length_append, List.length_singleton]; omega), hJ3⟩
      case measure =>
       obtain ⟨_, _, q1_, _⟩ := hS3.l
       obtain ⟨_, _, q2_, _⟩ := hS3.m
       rw [hleft, leftN_eq q1_, leftN_eq q2_]
       omega
     ·gi_wp2
      refine bodyPost_ret (results_none rfl _ _ _) rfl ?_
      exact ⟨⟨_, rfl⟩, .inr ⟨_, ⟨_, hmg3⟩, hX⟩⟩)
   ·have hj0 : M.length - j = 0 := by omega
    rw [hi0] at hcl
    rw [hj0] at hcm
    rw [List.drop_eq_nil_of_le hi, List.drop_eq_nil_of_le hj, mg_nil, List.append_nil] at hmg
    gi_wp2
    go_end0
    exact ⟨⟨_, rfl⟩, .inl ⟨pre, hmg, hJs⟩⟩
end Go.Proofs.YtclamgljgnjkbaaGreatDoor.PD
end
