/-
  Part of the proof of DiffChangesUptoCardSaid: what Diff.Between says of two rows of leaves, Back turns and Apply takes, up to the bulk that the card names.
  A proof for this seat's program alone; the parts of the words that it needs were printed by the kit, and cut to what is used.
-/
import Derived.Lib.Bytes
import Derived.Test.YtclamgljgnjkbaaGreatDoorLc11
import Derived.Test.YtclamgljgnjkbaaGreatDoorLd
set_option linter.all false
section
namespace Go.Proofs.YtclamgljgnjkbaaGreatDoor.PD
open Go.RowKit Go.Proofs.YtclamgljgnjkbaaGreatDoorW.PrintWords Go.Proofs.YtclamgljgnjkbaaGreatDoorW.PrintLast Go.Proofs.YtclamgljgnjkbaaGreatDoorW.PrintMore
def strings_Trim.f (k : Nat) (s c : ByteArray) : Option ByteArray := if c.toList = [32] then (if s.toList = [] then some s else (strings_trimRightByte.f k s 32).bind fun t => strings_trimLeftByte.f k t 32) else none
theorem Drawn0_trans {a b c : World} (h : Drawn0 a b) (k : Drawn0 b c) : Drawn0 a c := by
 obtain ⟨n, rfl⟩ := h
 obtain ⟨m, rfl⟩ := k
 exact ⟨⟨n + m, World.drewN_drewN ..⟩⟩
def L87_4 : List (Nat × Bool) := [(0, true), (1, true), (2, true), (4, true), (5, true), (3, false), (6, false), (7, true)]
theorem plan87_4 : Oh.plan .any (opsOf Tryz.f87 4) L87_4 [] = true := by kernel_rfl
set_option maxRecDepth 100000 in
set_option maxHeartbeats 8000000 in
theorem strings_Trim.calls (k : Nat) (a0 a1 : ByteArray) (r : ByteArray) (w : World) (h : strings_Trim.f k a0 a1 = some r) :
  Calls Tryz.prog 87 #[.string a0, .string a1] w fun e w' => e = .returned (.string r) ∧ Drawn0 w w' := by
 unfold strings_Trim.f at h
 split at h
 case isFalse => cases h
 case isTrue hc =>
 obtain rfl : a1 = ⟨#[32]⟩ := by
  have : a1.data.toList = [32] := by rw [← Lib.toList_data]; exact hc
  cases a1 with | mk d => cases d with | mk l => simp at this; rw [this]
 refine (callsIn_wide (n := 3)).1 ?_
 refine callsIn_of_wp Tryz.func87 rfl trivial ?_ rfl
 simp only [Tryz.ntmps87, List.size_toArray, List.length_cons, List.length_nil, Nat.reduceAdd, Nat.reduceSub, Array.replicate_succ, Array.replicate_zero, List.push_toArray, List.append_toArray, List.nil_append, List.cons_append]
 split at h
 case isTrue he =>
  obtain rfl := Option.some.inj h
  have hie : a0.toList.isEmpty = true := by rw [he]; rfl
  gi_wp2
  refine bodyPost_ret (results_tmp rfl _ _ _) rfl ?_
  exact ⟨rfl, Drawn0.refl _⟩
 case isFalse he =>
  obtain ⟨t, h1, h2⟩ := Option.bind_eq_some_iff.1 h
  have hie : a0.toList.isEmpty = false := by simpa using he
  gi_wp2
  refine Oh.region (fun w' => Drawn0 w w') L87_4 [] (by kernel_rfl) (fun _ => trivial) rfl (by exact fun _ _ _ _ _ h => h) plan87_4 (by exact (Drawn0.refl w).step 1) ?_
  unfold L87_4
  apply Oh.St.pure 22 rfl rfl rfl
  ·rintro w' _
   go_simp
   with_reducible rfl
  ·simp only [Act.put, List.setIfInBounds_toArray, List.set_cons_zero, List.set_cons_succ]
   rfl
  apply Oh.St.pure 23 rfl rfl rfl
  ·rintro w' _
   go_simp
   with_reducible rfl
  ·simp only [Act.put, List.setIfInBounds_toArray, List.set_cons_zero, List.set_cons_succ]
   rfl
  apply Oh.St.pure 24 rfl rfl rfl
  ·rintro w' _
   go_simp
   with_reducible rfl
  ·simp only [Act.put, List.setIfInBounds_toArray, List.set_cons_zero, List.set_cons_succ]
   rfl
  apply Oh.St.pure 26 rfl rfl rfl
  ·rintro w' _
   go_simp
   with_reducible rfl
  ·simp only [Act.put, List.setIfInBounds_toArray, List.set_cons_zero, List.set_cons_succ]
   rfl
  apply Oh.St.pure 27 rfl rfl rfl
  ·rintro w' _
   go_simp
   with_reducible rfl
  ·simp only [Act.put, List.setIfInBounds_toArray, List.set_cons_zero, List.set_cons_succ]
   rfl
  apply Oh.St.call 25 rfl rfl rfl
  ·go_simp
   exact ⟨rfl, rfl⟩
  ·refine (callsIn_wide.2 (strings_trimRightByte.calls k a0 32 t _ h1)).mono ?_
   rintro e w2_ ⟨rfl, hb_⟩
   exact ⟨rfl, Drawn0_trans ((Drawn0.refl w).step 1) hb_⟩
  ·simp only [Act.put, List.setIfInBounds_toArray, List.set_cons_zero, List.set_cons_succ]
   rfl
  intro w1 hS1
  apply Oh.St.call 28 rfl rfl rfl
  ·go_simp
   exact ⟨rfl, rfl⟩
  ·refine (callsIn_wide.2 (strings_trimLeftByte.calls k t 32 r _ h2)).mono ?_
   rintro e w2_ ⟨rfl, hb_⟩
   exact ⟨rfl, Drawn0_trans hS1 hb_⟩
  ·simp only [Act.put, List.setIfInBounds_toArray, List.set_cons_zero, List.set_cons_succ]
   rfl
  intro w3 hS3
  apply Oh.St.pure 4 rfl rfl rfl
  ·rintro w' _
   go_simp
   with_reducible rfl
  ·simp only [Act.put, List.setIfInBounds_toArray, List.set_cons_zero, List.set_cons_succ]
   rfl
  refine Oh.St.done (wpListIn_nil ?_)
  gi_wp2
  refine bodyPost_ret (results_tmp rfl _ _ _) rfl ?_
  exact ⟨rfl, hS3⟩
end Go.Proofs.YtclamgljgnjkbaaGreatDoor.PD
end
section
namespace Go.Proofs.YtclamgljgnjkbaaGreatDoor.PD
open Go.RowKit Go.Proofs.YtclamgljgnjkbaaGreatDoorW.PrintWords Go.Proofs.YtclamgljgnjkbaaGreatDoorW.PrintLast Go.Proofs.YtclamgljgnjkbaaGreatDoorW.PrintMore
attribute [local go_sem] max2_int min2_int max_two min_two max_three min_three max_four min_four
def diff_plain.l0 : Nat → ByteArray → Int → Int → Option (Bool)
 | 0, _, _, _ => none
 | k + 1, x0, x6, x7 => if x7 < x6 then (if 0 ≤ x7 then (if x7 < (x0.size : Int) then (if (bt x0 x7) < 32 then (some false) else (if (bt x0 x7) > 126 then (some false) else (if (bt x0 x7) = 61 then (some false) else (if (bt x0 x7) = 62 then (some false) else (diff_plain.l0 k x0 x6 (wrap64 (x7 + 1))))))) else (none)) else (none)) else ((strings_Trim.f k x0 (⟨#[32]⟩ : ByteArray)).bind fun t156 => (some (x0.toList == t156.toList)))
def diff_plain.f (k : Nat) (a0 : ByteArray) : Option (Bool) := diff_plain.l0 k a0 (a0.size : Int) 0
set_option maxHeartbeats 8000000 in
set_option maxRecDepth 100000 in
theorem diff_plain.calls (k : Nat) (a0 : ByteArray) (r : Bool) (w : World) (h : diff_plain.f k a0 = some r) :
  Calls Tryz.prog 65 #[.string a0] w fun e w' => e = .returned (.bool r) ∧ Drawn0 w w' := by
 have H : (diff_plain.l0 k a0 (a0.size : Int) 0) = some r := h
 clear h
 have H' := Az.mk H
 clear H
 go_enter Tryz.func65, Tryz.ntmps65
 go_wp2
 go_loopg [7] k (fun kq v7 w' => ∃ (x7_1 : Int), v7 = .int .i64 x7_1 ∧ Az (diff_plain.l0 kq a0 (a0.size : Int) x7_1 = some r) ∧ Az (kq ≤ k) ∧ Drawn0 w w')
 case atStart => exact ⟨(0), (by first | rfl | (simp; done) | (simp [*]; done)), H', ⟨Nat.le_refl _⟩, by repeat (first | exact Drawn0.refl _ | apply Drawn0.step)⟩
 case round =>
  clear H'
  obtain ⟨x7_1, rfl, HA, HK1, ⟨m1, rfl⟩⟩ := hrel
  cases gk with
  | zero => exact absurd HA.out (by simp [diff_plain.l0])
  | succ k1 =>
   have H := HA.out
   clear HA
   simp only [diff_plain.l0] at H
   by_cases c2 : x7_1 < (a0.size : Int)
   ·rw [if_pos c2] at H
    have c2b0 : decide (x7_1 < (a0.size : Int)) = true := decide_eq_true c2
    clear c2
    by_cases c3 : 0 ≤ x7_1
    ·rw [if_pos c3] at H
     have c3b0 : decide (0 ≤ x7_1) = true := decide_eq_true c3
     clear c3
     by_cases c4 : x7_1 < (a0.size : Int)
     ·rw [if_pos c4] at H
      have c4b0 : decide (x7_1 < (a0.size : Int)) = true := decide_eq_true c4
      clear c4
      by_cases c6 : (bt a0 x7_1) < 32
      ·rw [if_pos c6] at H
       have c6b0 : decide ((bt a0 x7_1) < 32) = true := decide_eq_true c6
       clear c6
       obtain rfl := Option.some.inj H
       have p5 : 0 ≤ (x7_1 : Int) := of_decide_eq_true (by first | (with_reducible assumption) | assumption)
       have q5 : x7_1 < (a0.size : Int) := of_decide_eq_true (by first | (with_reducible assumption) | assumption)
       have hx5 := bt_at a0 x7_1
       replace p5 := eq_true p5
       replace q5 := eq_true q5
       go_wp2
       go_ret
       exact ⟨by first | rfl | (simp; done) | (simp [*]; done), by repeat (first | exact Drawn0.refl _ | apply Drawn0.step)⟩
      ·rw [if_neg c6] at H
       have c6b0 : decide ((bt a0 x7_1) < 32) = false := decide_eq_false c6
       clear c6
       by_cases c7 : (bt a0 x7_1) > 126
       ·rw [if_pos c7] at H
        have c7b0 : decide (126 < (bt a0 x7_1)) = true := decide_eq_true c7
        clear c7
        obtain rfl := Option.some.inj H
        have p5 : 0 ≤ (x7_1 : Int) := of_decide_eq_true (by first | (with_reducible assumption) | assumption)
        have q5 : x7_1 < (a0.size : Int) := of_decide_eq_true (by first | (with_reducible assumption) | assumption)
        have hx5 := bt_at a0 x7_1
        replace p5 := eq_true p5
        replace q5 := eq_true q5
        go_wp2
        go_ret
        exact ⟨by first | rfl | (simp; done) | (simp [*]; done), by repeat (first | exact Drawn0.refl _ | apply Drawn0.step)⟩
       ·rw [if_neg c7] at H
        have c7b0 : decide (126 < (bt a0 x7_1)) = false := decide_eq_false c7
        clear c7
        by_cases c8 : (bt a0 x7_1) = 61
        ·rw [if_pos c8] at H
         have c8b0 : ((bt a0 x7_1) == 61) = true := beq_iff_eq.mpr c8
         have c8b1 : ((bt a0 x7_1) != 61) = false := bne_eq_false_iff_eq.mpr c8
         clear c8
         obtain rfl := Option.some.inj H
         have p5 : 0 ≤ (x7_1 : Int) := of_decide_eq_true (by first | (with_reducible assumption) | assumption)
         have q5 : x7_1 < (a0.size : Int) := of_decide_eq_true (by first | (with_reducible assumption) | assumption)
         have hx5 := bt_at a0 x7_1
         replace p5 := eq_true p5
         replace q5 := eq_true q5
         go_wp2
         go_ret
         exact ⟨by first | rfl | (simp; done) | (simp [*]; done), by repeat (first | exact Drawn0.refl _ | apply Drawn0.step)⟩
        ·rw [if_neg c8] at H
         have c8b0 : ((bt a0 x7_1) == 61) = false := beq_eq_false_iff_ne.mpr c8
         have c8b1 : ((bt a0 x7_1) != 61) = true := bne_iff_ne.mpr c8
         by_cases c9 : (bt a0 x7_1) = 62
         ·rw [if_pos c9] at H
          have c9b0 : ((bt a0 x7_1) == 62) = true := beq_iff_eq.mpr c9
          have c9b1 : ((bt a0 x7_1) != 62) = false := bne_eq_false_iff_eq.mpr c9
          clear c9
          obtain rfl := Option.some.inj H
          have p5 : 0 ≤ (x7_1 : Int) := of_decide_eq_true (by first | (with_reducible assumption) | assumption)
          have q5 : x7_1 < (a0.size : Int) := of_decide_eq_true (by first | (with_reducible assumption) | assumption)
          have hx5 := bt_at a0 x7_1
          replace p5 := eq_true p5
          replace q5 := eq_true q5
          go_wp2
          go_ret
          exact ⟨by first | rfl | (simp; done) | (simp [*]; done), by repeat (first | exact Drawn0.refl _ | apply Drawn0.step)⟩
         ·rw [if_neg c9] at H
          have c9b0 : ((bt a0 x7_1) == 62) = false := beq_eq_false_iff_ne.mpr c9
          have c9b1 : ((bt a0 x7_1) != 62) = true := bne_iff_ne.mpr c9
          have H' := Az.mk H
          clear H
          have p5 : 0 ≤ (x7_1 : Int) := of_decide_eq_true (by first | (with_reducible assumption) | assumption)
          have q5 : x7_1 < (a0.size : Int) := of_decide_eq_true (by first | (with_reducible assumption) | assumption)
          have hx5 := bt_at a0 x7_1
          replace p5 := eq_true p5
          replace q5 := eq_true q5
          go_wp2
          go_roundg k1
          case measure => have := HK1.out; omega
          case rel => exact ⟨(wrap64 (x7_1 + 1)), (by first | rfl | (simp; done) | (simp [*]; done)), H', ⟨by have := HK1.out; omega⟩, by repeat (first | exact Drawn0.refl _ | apply Drawn0.step)⟩
     ·rw [if_neg c4] at H
      exact absurd H (by simp)
    ·rw [if_neg c3] at H
     exact absurd H (by simp)
   ·rw [if_neg c2] at H
    have c2b0 : decide (x7_1 < (a0.size : Int)) = false := decide_eq_false c2
    clear c2
    replace H := Option.bind_eq_some_iff.mp H
    obtain ⟨t156, A100, H⟩ := H
    replace H : (some (a0.toList == t156.toList)) = some r := H
    have A10 := Az.mk A100
    clear A100
    obtain rfl := Option.some.inj H
    go_wp2_with (first | ((with_reducible refine gate_callee (f := 87) rfl ?_); refine goesL_ (some 30) rfl rfl Tryz.func87 (by kernel_rfl) rfl #[.string a0, .string (⟨#[32]⟩ : ByteArray)] rfl (by (try simp only [List.map_toArray, List.map_cons, List.map_nil]); first | done | rfl | (simp only [List.length_drop, List.length_take]; rfl)) ?_; (with_reducible refine (strings_Trim.calls k1 a0 (⟨#[32]⟩ : ByteArray) t156 _ A10.out).mono ?_); rintro e w' ⟨rfl, ⟨nd, rfl⟩⟩; refine ⟨_, rfl, ?_⟩))
    go_ret
    exact ⟨by first | rfl | (simp; done) | (simp [*]; done), by repeat (first | exact Drawn0.refl _ | apply Drawn0.step)⟩
end Go.Proofs.YtclamgljgnjkbaaGreatDoor.PD
end
section
namespace Go.Proofs.YtclamgljgnjkbaaGreatDoor.PD
open Go.RowKit Go.Proofs.YtclamgljgnjkbaaGreatDoorW.PrintWords Go.Proofs.YtclamgljgnjkbaaGreatDoorW.PrintLast Go.Proofs.YtclamgljgnjkbaaGreatDoorW.PrintMore
attribute [local go_sem] max2_int min2_int max_two min_two max_three min_three max_four min_four
def diff_path.f (k : Nat) (a0 : ByteArray) : Option (Bool) := (diff_plain.f k a0).bind fun t157 => (if t157 = true then (if a0.toList = ([] : List UInt8) then (some false) else (some (decide ((a0.size : Int) ≤ 256)))) else (some false))
set_option maxHeartbeats 8000000 in
set_option maxRecDepth 100000 in
theorem diff_path.calls (k : Nat) (a0 : ByteArray) (r : Bool) (w : World) (h : diff_path.f k a0 = some r) :
  Calls Tryz.prog 37 #[.string a0] w fun e w' => e = .returned (.bool r) ∧ Drawn0 w w' := by
 have H : ((diff_plain.f k a0).bind fun t157 => (if t157 = true then (if a0.toList = ([] : List UInt8) then (some false) else (some (decide ((a0.size : Int) ≤ 256)))) else (some false))) = some r := h
 clear h
 replace H := Option.bind_eq_some_iff.mp H
 obtain ⟨t157, A20, H⟩ := H
 replace H : (if t157 = true then (if a0.toList = ([] : List UInt8) then (some false) else (some (decide ((a0.size : Int) ≤ 256)))) else (some false)) = some r := H
 have A2 := Az.mk A20
 clear A20
 by_cases c3 : t157 = true
 ·subst c3
  have H1 : (if a0.toList = ([] : List UInt8) then (some false) else (some (decide ((a0.size : Int) ≤ 256)))) = some r := by rw [if_pos rfl] at H; exact H
  clear H
  have H := H1
  clear H1
  by_cases c4 : a0.toList = ([] : List UInt8)
  ·rw [if_pos c4] at H
   have c4b0 : (a0.toList == ([] : List UInt8)) = true := beq_iff_eq.mpr c4
   have c4b1 : (a0.toList != ([] : List UInt8)) = false := bne_eq_false_iff_eq.mpr c4
   clear c4
   obtain rfl := Option.some.inj H
   go_enter Tryz.func37, Tryz.ntmps37
   go_wp2_with (first | ((with_reducible refine gate_callee (f := 65) rfl ?_); refine goesL_ (some 4) rfl rfl Tryz.func65 (by kernel_rfl) rfl #[.string a0] rfl (by (try simp only [List.map_toArray, List.map_cons, List.map_nil]); first | done | rfl | (simp only [List.length_drop, List.length_take]; rfl)) ?_; (with_reducible refine (diff_plain.calls k a0 true _ A2.out).mono ?_); rintro e w' ⟨rfl, ⟨nd, rfl⟩⟩; refine ⟨_, rfl, ?_⟩))
   go_ret
   exact ⟨by first | rfl | (simp; done) | (simp [*]; done), by repeat (first | exact Drawn0.refl _ | apply Drawn0.step)⟩
  ·rw [if_neg c4] at H
   have c4b0 : (a0.toList == ([] : List UInt8)) = false := beq_eq_false_iff_ne.mpr c4
   have c4b1 : (a0.toList != ([] : List UInt8)) = true := bne_iff_ne.mpr c4
   obtain rfl := Option.some.inj H
   go_enter Tryz.func37, Tryz.ntmps37
   go_wp2_with (first | ((with_reducible refine gate_callee (f := 65) rfl ?_); refine goesL_ (some 4) rfl rfl Tryz.func65 (by kernel_rfl) rfl #[.string a0] rfl (by (try simp only [List.map_toArray, List.map_cons, List.map_nil]); first | done | rfl | (simp only [List.length_drop, List.length_take]; rfl)) ?_; (with_reducible refine (diff_plain.calls k a0 true _ A2.out).mono ?_); rintro e w' ⟨rfl, ⟨nd, rfl⟩⟩; refine ⟨_, rfl, ?_⟩))
   go_ret
   exact ⟨by first | rfl | (simp; done) | (simp [*]; done), by repeat (first | exact Drawn0.refl _ | apply Drawn0.step)⟩
 ·replace c3 := Bool.eq_false_iff.mpr c3
  subst c3
  have H1 : (some false) = some r := by rw [if_neg (show ¬ (false = true) by decide)] at H; exact H
  clear H
  have H := H1
  clear H1
  obtain rfl := Option.some.inj H
  go_enter Tryz.func37, Tryz.ntmps37
  go_wp2_with (first | ((with_reducible refine gate_callee (f := 65) rfl ?_); refine goesL_ (some 4) rfl rfl Tryz.func65 (by kernel_rfl) rfl #[.string a0] rfl (by (try simp only [List.map_toArray, List.map_cons, List.map_nil]); first | done | rfl | (simp only [List.length_drop, List.length_take]; rfl)) ?_; (with_reducible refine (diff_plain.calls k a0 false _ A2.out).mono ?_); rintro e w' ⟨rfl, ⟨nd, rfl⟩⟩; refine ⟨_, rfl, ?_⟩))
  go_ret
  exact ⟨by first | rfl | (simp; done) | (simp [*]; done), by repeat (first | exact Drawn0.refl _ | apply Drawn0.step)⟩
end Go.Proofs.YtclamgljgnjkbaaGreatDoor.PD
end
section
namespace Go.Proofs.YtclamgljgnjkbaaGreatDoor.PD
open Go.RowKit Go.Proofs.YtclamgljgnjkbaaGreatDoorW.PrintWords Go.Proofs.YtclamgljgnjkbaaGreatDoorW.PrintLast Go.Proofs.YtclamgljgnjkbaaGreatDoorW.PrintMore
attribute [local go_sem] max2_int min2_int max_two min_two max_three min_three max_four min_four
def diff_value.f (k : Nat) (a0 : ByteArray) : Option (Bool) := (diff_plain.f k a0).bind fun t158 => (if t158 = true then (some (decide ((a0.size : Int) ≤ 131072))) else (some false))
set_option maxHeartbeats 8000000 in
set_option maxRecDepth 100000 in
theorem diff_value.calls (k : Nat) (a0 : ByteArray) (r : Bool) (w : World) (h : diff_value.f k a0 = some r) :
  Calls Tryz.prog 38 #[.string a0] w fun e w' => e = .returned (.bool r) ∧ Drawn0 w w' := by
 have H : ((diff_plain.f k a0).bind fun t158 => (if t158 = true then (some (decide ((a0.size : Int) ≤ 131072))) else (some false))) = some r := h
 clear h
 replace H := Option.bind_eq_some_iff.mp H
 obtain ⟨t158, A20, H⟩ := H
 replace H : (if t158 = true then (some (decide ((a0.size : Int) ≤ 131072))) else (some false)) = some r := H
 have A2 := Az.mk A20
 clear A20
 by_cases c3 : t158 = true
 ·subst c3
  have H1 : (some (decide ((a0.size : Int) ≤ 131072))) = some r := by rw [if_pos rfl] at H; exact H
  clear H
  have H := H1
  clear H1
  obtain rfl := Option.some.inj H
  go_enter Tryz.func38, Tryz.ntmps38
  go_wp2_with (first | ((with_reducible refine gate_callee (f := 65) rfl ?_); refine goesL_ (some 4) rfl rfl Tryz.func65 (by kernel_rfl) rfl #[.string a0] rfl (by (try simp only [List.map_toArray, List.map_cons, List.map_nil]); first | done | rfl | (simp only [List.length_drop, List.length_take]; rfl)) ?_; (with_reducible refine (diff_plain.calls k a0 true _ A2.out).mono ?_); rintro e w' ⟨rfl, ⟨nd, rfl⟩⟩; refine ⟨_, rfl, ?_⟩))
  go_ret
  exact ⟨by first | rfl | (simp; done) | (simp [*]; done), by repeat (first | exact Drawn0.refl _ | apply Drawn0.step)⟩
 ·replace c3 := Bool.eq_false_iff.mpr c3
  subst c3
  have H1 : (some false) = some r := by rw [if_neg (show ¬ (false = true) by decide)] at H; exact H
  clear H
  have H := H1
  clear H1
  obtain rfl := Option.some.inj H
  go_enter Tryz.func38, Tryz.ntmps38
  go_wp2_with (first | ((with_reducible refine gate_callee (f := 65) rfl ?_); refine goesL_ (some 4) rfl rfl Tryz.func65 (by kernel_rfl) rfl #[.string a0] rfl (by (try simp only [List.map_toArray, List.map_cons, List.map_nil]); first | done | rfl | (simp only [List.length_drop, List.length_take]; rfl)) ?_; (with_reducible refine (diff_plain.calls k a0 false _ A2.out).mono ?_); rintro e w' ⟨rfl, ⟨nd, rfl⟩⟩; refine ⟨_, rfl, ?_⟩))
  go_ret
  exact ⟨by first | rfl | (simp; done) | (simp [*]; done), by repeat (first | exact Drawn0.refl _ | apply Drawn0.step)⟩
end Go.Proofs.YtclamgljgnjkbaaGreatDoor.PD
end
