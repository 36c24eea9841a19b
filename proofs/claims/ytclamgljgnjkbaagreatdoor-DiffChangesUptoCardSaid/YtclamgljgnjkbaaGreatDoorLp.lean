/-
  Part of the proof of DiffChangesUptoCardSaid: what Diff.Between says of two rows of leaves, Back turns and Apply takes, up to the bulk that the card names.
  A proof for this seat's program alone; the parts of the words that it needs were printed by the kit, and cut to what is used.
-/
import Derived.Test.YtclamgljgnjkbaaGreatDoorLb
import Derived.Test.YtclamgljgnjkbaaGreatDoorLo
set_option linter.all false
section
namespace Go.Ab
open Go Go.RowKit Go.Proofs
noncomputable section
def isB (b : Bool) (r : Option (TRes × St)) : Bool := match r with | some (.val (.bool c), _) => b == c | _ => false
theorem isB_true {r : Option (TRes × St)} (h : isB true r = true) : ∃ σ', r = some (.val (.bool true), σ') := by
 unfold isB at h
 split at h
 next c σ' => cases c with
  | true => exact ⟨σ', rfl⟩
  | false => cases h
 next => cases h
set_option maxRecDepth 1000000 in
set_option maxHeartbeats 0 in
theorem awake_ev : isB true (ev E3 1000 (.call 9 #[]) ⟨.e, 20, 0, 0⟩) = true := by kernel_rfl
theorem globals_le : Tryz.prog.globals.size ≤ 20 := by
 have : Nat.ble Tryz.prog.globals.size 20 = true := by kernel_rfl
 exact Nat.le_of_ble_eq_true this
theorem awake_calls {w : World} (hg : good3 w) (hN : 1 ≤ w.heap.size) : Calls Tryz.prog 9 #[] w (fun e w' => e = .returned (.bool true) ∧ Below w.heap.size w w') := by
 obtain ⟨σ', h⟩ := isB_true awake_ev
 exact ev_calls E3 h globals_le (by simp) rfl hg hN
end
end Go.Ab
end
section
namespace Go.Proofs.YtclamgljgnjkbaaGreatDoor.PD
open Go.RowKit Go.Proofs.YtclamgljgnjkbaaGreatDoorW.PrintWords Go.Proofs.YtclamgljgnjkbaaGreatDoorW.PrintLast Go.Proofs.YtclamgljgnjkbaaGreatDoorW.PrintMore
def qlawake.f : Option Bool := some true
theorem qlawake.calls (r : Bool) (w : World) (h : qlawake.f = some r) (hg : Go.Ab.good3 w) (hN : 1 ≤ w.heap.size) : Calls Tryz.prog 9 #[] w fun e w' => e = .returned (.bool r) ∧ Below w.heap.size w w' := by
 obtain rfl := Option.some.inj h
 exact Go.Ab.awake_calls hg hN
end Go.Proofs.YtclamgljgnjkbaaGreatDoor.PD
end
