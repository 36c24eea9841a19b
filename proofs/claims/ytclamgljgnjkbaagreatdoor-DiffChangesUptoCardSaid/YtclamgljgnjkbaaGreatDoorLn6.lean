/-
  Part of the proof of DiffChangesUptoCardSaid: what Diff.Between says of two rows of leaves, Back turns and Apply takes, up to the bulk that the card names.
  A proof for this seat's program alone; the parts of the words that it needs were printed by the kit, and cut to what is used.
-/
import Derived.Test.YtclamgljgnjkbaaGreatDoorLn5
set_option linter.all false
section
namespace Go.Ab
open Go Go.RowKit
noncomputable section
section
variable {P : Program} {N : Nat} {ρ : PMap}
def lenV' (x : Value) : Option Nat :=
  match x with
  | .slice _ n _ => some n
  | .string s => some s.size
  | _ => none
def firstM (size n : Nat) (x : Value) : M (Array Value) :=
  match x with
  | .slice (some a) _ _ => cellsM a (n * size)
  | .slice none _ _ => if n = 0 then M.pure #[] else M.fail
  | .string s => if size = 1 then M.pure ((s.extract 0 n).data.map fun b => .int .u8 b.toNat) else M.fail
  | _ => M.fail
theorem Loc.first (size n : Nat) (x : Value) : Loc (firstM size n x) := by
  unfold firstM; split
  · exact Loc.cells _ _
  · exact Loc.ite (Loc.pure _) Loc.fail
  · exact Loc.ite (Loc.pure _) Loc.fail
  · exact Loc.fail
theorem first_spec {size n : Nat} {x X : Value} (hx : R ρ x X) {m : Nat} (hl : lenV' x = some m) (hnm : n ≤ m) {σ σ' : St} {c : Array Value} {H : Array Obj} (hm : firstM size n x σ = some (c, σ')) (hr : Rep P N ρ σ.heap H) :
    (∀ i, σ'.heap.get i = σ.heap.get i) ∧ σ'.next = σ.next ∧ ∃ C, RA ρ c C ∧ (∀ w, (Builtin.lenOf X).run P w = .ok m w) ∧
      ∀ w : World, w.heap = H → (Builtin.firstCells size n X).run P w = .ok C w := by
  unfold firstM at hm
  split at hm
  next a k cap =>
    cases hl
    obtain ⟨A, c', rfl, hA, _⟩ := slice_addr hx
    have hA' : AddrR ρ a A ∨ n * size = 0 := by
      rcases hA with hA | hA
      · exact .inl hA
      · exact .inr (by rw [show n = 0 by omega, Nat.zero_mul])
    obtain ⟨e1, e2, C, e3, e4, e5⟩ := cellsM_spec hA' hm hr
    exact ⟨e1, e2, C, e3, fun w => rfl, fun w hw => by simp [Builtin.firstCells, e5 w hw]⟩
  next k cap =>
    cases hl
    split at hm
    next h0 =>
      subst h0
      cases hx
      obtain ⟨rfl, rfl⟩ := pureM_some hm
      exact ⟨fun _ => rfl, rfl, #[], RA.empty _, fun w => rfl, fun w hw => rfl⟩
    next => cases hm
  next s =>
    cases hl
    split at hm
    next h1 =>
      subst h1
      cases hx
      obtain ⟨rfl, rfl⟩ := pureM_some hm
      exact ⟨fun _ => rfl, rfl, _, RA.map _ (fun b _ => .int _ _), fun w => rfl, fun w hw => rfl⟩
    next => cases hm
  next => cases hm
def opCopy (P : Program) (ats : Array TypeId) (s x : Value) : M ORes :=
  match ats[0]? with
  | none => M.fail
  | some st =>
  match P.underlying st with
  | some (.slice elem) =>
    match sizeT P elem with
    | none => M.fail
    | some size =>
    match s with
    | .slice base n c =>
      match lenV' x with
      | none => M.fail
      | some m =>
        M.bind (firstM size (Nat.min m n) x) fun xs =>
          match base with
          | some a => if Nat.min m n = 0 then M.pure (.val (goInt 0)) else M.bind (writeCells a xs.toList) fun _ => M.pure (.val (goInt (Nat.min m n)))
          | none => M.pure (.val (goInt (Nat.min m n)))
    | _ => M.fail
  | _ => M.fail
theorem Loc.opCopy (ats : Array TypeId) (s x : Value) : Loc (opCopy P ats s x) := by
  unfold Ab.opCopy
  repeat' split
  all_goals first
    | exact Loc.fail
    | (refine Loc.bind (Loc.first _ _ _) fun xm => ?_
       repeat' split
       all_goals first
         | exact Loc.pure _
         | exact Loc.bind (Loc.writeCells _ _) fun _ => Loc.pure _)
theorem firstM_zero {size : Nat} {x : Value} {σ σ' : St} {c : Array Value} (h : firstM size 0 x σ = some (c, σ')) : c = #[] := by
  unfold firstM at h
  split at h
  · unfold cellsM at h
    split at h
    · cases h
    · obtain ⟨o, σ1, g1, g2⟩ := bindM_some h
      split at g2
      · split at g2
        · obtain ⟨rfl, _⟩ := pureM_some g2; apply Array.ext <;> simp <;> omega
        · cases g2
      · cases g2
  · split at h
    · exact (pureM_some h).1.symm
    · cases h
  · split at h
    · rw [← (pureM_some h).1]; simp
    · cases h
  · cases h
theorem sim_opCopy (ats : Array TypeId) (ty : TypeId) {s x S X : Value} (hs : R ρ s S) (hx : R ρ x X) :
    Sim P N ρ (opCopy P ats s x) (do Pure.pure (Next.value (← Builtin.copy_ ats ty #[S, X])) : Sem Next) ORel := by
  intro σ r σ' w hm hr hN hf
  unfold Ab.opCopy at hm
  cases h0 : ats[0]? with
  | none => rw [h0] at hm; cases hm
  | some st =>
  rw [h0] at hm
  dsimp only at hm
  cases hu : P.underlying st with
  | none => rw [hu] at hm; cases hm
  | some d =>
  rw [hu] at hm
  cases d with
  | slice elem =>
    dsimp only at hm
    cases hsz : sizeT P elem with
    | none => rw [hsz] at hm; cases hm
    | some size =>
    rw [hsz] at hm
    dsimp only at hm
    cases s with
    | slice base n c =>
      dsimp only at hm
      cases hl : lenV' x with
      | none => rw [hl] at hm; cases hm
      | some m =>
      rw [hl] at hm
      obtain ⟨xs, σ1, g1, g2⟩ := bindM_some hm
      obtain ⟨e1, e2, XS, e3, e4, e5⟩ := first_spec hx hl (Nat.min_le_left m n) g1 hr
      have hr1 : Rep P N ρ σ1.heap w.heap := hr.congr e1
      have shape : ∃ BASE c', S = .slice BASE n c' := by cases hs <;> exact ⟨_, _, rfl⟩
      obtain ⟨BASE, c', rfl⟩ := shape
      have key : ∀ w', (∀ A, BASE = some A → (storeCells A XS.toList).run P w = .ok () w') → (BASE = none → w' = w) →
          (do Pure.pure (Next.value (← Builtin.copy_ ats ty #[.slice BASE n c', X])) : Sem Next).run P w = .ok (.value (goInt (Nat.min m n))) w' := by
        intro w' h1 h2
        unfold Builtin.copy_
        simp only [h0, List.getElem?_toArray, List.getElem?_cons_zero, List.getElem?_cons_succ, Sem.run_bind, run_underlying' hu, Result.andThen_ok, run_sizeOf' hsz, e4, e5 w rfl]
        cases BASE with
        | none => rw [h2 rfl]; rfl
        | some A => simp only [h1 A rfl, Sem.run_bind, Result.andThen_ok, Sem.run_pure]
      cases base with
      | none =>
        dsimp only at g2
        obtain ⟨rfl, rfl⟩ := pureM_some g2
        cases hs
        exact ⟨ρ, _, w, key w (fun A h => by cases h) (fun _ => rfl), .val (.int _ _), PMap.le_refl _, fun _ _ e => .inl e, hr1, Below.refl _ _⟩
      | some a =>
        dsimp only at g2
        by_cases hz : Nat.min m n = 0
        · rw [if_pos hz] at g2
          obtain ⟨rfl, rfl⟩ := pureM_some g2
          rw [hz] at g1 key
          have hx0 := firstM_zero g1
          subst hx0
          have hXS : XS.toList = [] := by
            have := e3.size
            simpa using this.symm
          exact ⟨ρ, _, w, key w (fun A h => by rw [hXS]; rfl) (fun _ => rfl), .val (.int _ _), PMap.le_refl _, fun _ _ e => .inl e, hr1, Below.refl _ _⟩
        · rw [if_neg hz] at g2
          obtain ⟨u, σ2, g3, g4⟩ := bindM_some g2
          obtain ⟨rfl, rfl⟩ := pureM_some g4
          have hn : 0 < n := by
            rcases Nat.eq_zero_or_pos n with h | h
            · subst h; exact absurd (Nat.min_zero m) hz
            · exact h
          obtain ⟨A, c'', hS, hA, _⟩ := slice_pos hs hn
          cases hS
          obtain ⟨ρ2, u', w2, r2, _, st2⟩ := Sim.writeCells (P := P) hA e3.ls σ1 u σ2 w g3 hr1 hN (fun i a b => hf i (by omega) b)
          refine ⟨ρ2, _, w2, key w2 (fun A' h => by cases h; exact r2) (fun h => by cases h), .val (.int _ _), st2.le, fun j y e => ?_, st2.rep, st2.below⟩
          rcases st2.dom j y e with q | ⟨q1, q2⟩
          · exact .inl q
          · exact .inr ⟨by omega, q2⟩
    | _ => cases hm
  | _ => cases hm
def opStringToBytes (P : Program) (src dst : TypeId) (x : Value) : M ORes :=
  match P.underlying src with
  | some .string => match P.underlying dst with
    | some (.slice e) => match P.underlying e with
      | some (.int .u8) => match x with
        | .string s => if sizeT P e = some 1 then growM e (s.data.map fun b => .int .u8 b.toNat) (0, 0) true s.size else M.fail
        | _ => M.fail
      | _ => M.fail
    | _ => M.fail
  | _ => M.fail
theorem Loc.opStringToBytes (src dst : TypeId) (x : Value) : Loc (opStringToBytes P src dst x) := by
  unfold Ab.opStringToBytes
  repeat' split
  all_goals first | exact Loc.fail | exact Loc.grow _ _ _ _ _
theorem freeze_new {w : World} {c : Array Value} {e : TypeId} :
    ({ w with heap := w.heap.push (.cells c e) } : World).freeze ⟨w.heap.size, c.size, none⟩ 1 = { w with heap := w.heap.push (.cells c e (c.size, c.size + 1)) } := by
  unfold World.freeze
  simp only [Nat.one_ne_zero, if_false]
  congr 1
  apply Array.ext
  · simp
  · intro i h1 h2
    rw [Array.getElem_modify]
    simp only [Array.getElem_push]
    split
    · subst_vars; simp
    · split
      · rfl
      · simp at h2; omega
theorem sim_opStringToBytes (src dst : TypeId) {x X : Value} (hx : R ρ x X) : Sim P N ρ (opStringToBytes P src dst x) (do Pure.pure (Next.value (← Go.convert src dst X)) : Sem Next) ORel := by
  unfold Ab.opStringToBytes
  split
  next hs =>
    split
    next e hd =>
      split
      next he =>
        split
        next s =>
          split
          next h1 =>
            cases hx
            intro σ r σ' w hm hr hN hf
            unfold growM at hm
            obtain ⟨o, σ1, g1, g2⟩ := bindM_some hm
            obtain ⟨rfl, rfl⟩ := pureM_some g2
            obtain ⟨rfl, n1, n2, n3⟩ := newM_some g1
            have hρ : ρ σ.next = none := hf σ.next (Nat.le_refl _) (by omega)
            generalize hq : (Question.appendCap s.size 0 e).cut (w.tape w.drawn (.appendCap s.size 0 e)) = cap
            have hcap : s.size ≤ cap := by rw [← hq]; simp [Question.cut]
            have hcell : P.cellsOf e = 1 := by unfold Program.cellsOf; unfold sizeT at h1; rw [h1]; rfl
            have hle := PMap.le_set (ρ := ρ) (w.heap.size, cap) hρ
            have hds : s.data.size = s.size := rfl
            let C : Array Value := (s.data.map fun b => Value.int .u8 b.toNat) ++ Array.replicate (cap - s.size) (.int .u8 0)
            have hC : C.size = cap := by simp only [C, Array.size_append, Array.size_map, Array.size_replicate, hds]; omega
            refine ⟨ρ.set σ.next (w.heap.size, cap), .value (.slice (some ⟨w.heap.size, 0, none⟩) s.size cap),
              { w with drawn := w.drawn + 1, heap := w.heap.push (.cells C e (C.size, C.size + 1)) }, ?_, .val ?_, hle, fun j x e => ?_, ?_, ?_⟩
            · simp only [Go.convert, Sem.run_bind, run_underlying' hs, run_underlying' hd, run_underlying' he, Result.andThen_ok, Conv.stringToBytes, run_choose, Question.forced, Bool.false_eq_true, if_false, hq, newRow,
                run_newObj, Sem.run_pure]
              have := freeze_new (w := { w with drawn := w.drawn + 1 }) (c := C) (e := e)
              simp only at this
              simp only [markStringish, Sem.run_bind, run_shape, Result.andThen_ok, World.shape?, Array.getElem?_push_size, run_freeze]
              rw [← this]
            · exact .slice σ.next 0 w.heap.size cap _ bigCap 0 cap (PMap.set_same _ _ _) hcap (.inr ⟨by unfold halfCap bigCap; omega, by omega⟩) (.inl rfl)
            · by_cases hj : j = σ.next
              · subst hj; exact .inr ⟨Nat.le_refl _, by omega⟩
              · rw [PMap.set_ne _ (Ne.symm hj)] at e; exact .inl e
            · refine hr.alloc (o := .cells (s.data.map fun b => .int .u8 b.toNat) e (0, 0) true true false) (κ := cap) hN hρ ⟨C, _, rfl, ?_, fun e => (by cases e), fun _ => by rw [hC, hcell, Nat.mul_one], fun i v hv => ?_, fun k h h1 h2 => ?_, fun _ => Nat.le_succ _⟩ n2 n3
              · rw [hC]; simpa using hcap
              · refine ⟨v, ?_, ?_⟩
                · have hi : i < (s.data.map fun b => Value.int .u8 b.toNat).size := (Array.getElem?_eq_some_iff.1 hv).1
                  simp only [C]
                  rw [Array.getElem?_append, if_pos hi]; exact hv
                · simp only [Array.getElem?_map, Option.map_eq_some_iff] at hv
                  obtain ⟨b, _, rfl⟩ := hv
                  exact .int _ _
              · rcases h with h | h
                · exact absurd h1 (by simp only; omega)
                · cases h
            · refine ⟨rfl, rfl, rfl, by simp, fun k hk => ?_⟩
              simp only [Array.getElem?_push]
              rw [if_neg (by omega)]
          next => exact Sim.fail
        next => exact Sim.fail
      next => exact Sim.fail
    next => exact Sim.fail
  next => exact Sim.fail
end
end
end Go.Ab
end
section
namespace Go.Ab
open Go Go.RowKit
noncomputable section
structure Env (P : Program) where
  good : World → Prop
  gN : Nat
  good_below : ∀ N w w', gN ≤ N → good w → Below N w w' → good w'
  known : FuncId → Array Value → Option Value
  hKnown : ∀ g a v, known g a = some v → a.all (scalar 3) = true ∧ scalar 4 v = true ∧ ∀ w, good w → Calls P g a w (fun e w' => e = .returned v ∧ Below w.heap.size w w')
  noEsc : FuncId → Bool
  mkNoZero : FuncId → Option TypeId
  hNoEsc : ∀ g, noEsc g = true → ∀ v w, (callFunc g #[v]).run P w = .ok (.value v) w
  hMk : ∀ g e, mkNoZero g = some e → ∃ ps t, P.underlying t = some (.slice e) ∧ ∀ v w, (callFunc g #[v]).run P w = (do Pure.pure (Next.value (← Extern.BytealgMakeNoZero.makeNoZero ps #[t] #[v])) : Sem Next).run P w
section
variable {P : Program} {N : Nat} {ρ : PMap}
theorem RA.one {v : Value} {X : Array Value} (h : RA ρ #[v] X) : ∃ V, X = #[V] ∧ R ρ v V := by
  obtain ⟨V, h1, h2⟩ := h.get (i := 0) rfl
  refine ⟨V, ?_, h2⟩
  have hs := h.size
  obtain ⟨l⟩ := X
  cases l with
  | nil => simp at h1
  | cons a l => cases l with
    | nil => simp at h1; rw [h1]
    | cons b l => simp at hs
theorem RA.two {u v : Value} {X : Array Value} (h : RA ρ #[u, v] X) : ∃ U V, X = #[U, V] ∧ R ρ u U ∧ R ρ v V := by
  obtain ⟨U, h1, h2⟩ := h.get (i := 0) rfl
  obtain ⟨V, h3, h4⟩ := h.get (i := 1) rfl
  refine ⟨U, V, ?_, h2, h4⟩
  have hs := h.size
  obtain ⟨l⟩ := X
  match l with
  | [] => simp at h1
  | [a] => simp at h3
  | [a, b] => simp at h1 h3; rw [h1, h3]
  | a :: b :: c :: l => simp at hs
def opUnsafe (P : Program) (src dst : TypeId) (x : Value) : M ORes :=
  match x with
  | .pointer (some a) =>
    match P.underlying src with
    | some (.pointer t) => match P.underlying dst with
      | some .unsafePointer => if sizeT P t ≠ some 0 ∧ (sizeT P t).isSome = true ∧ a.spot = none then
          M.bind (getM a.block) fun o => match o with
            | .cells c .. => if a.off < c.size then M.pure (.val x) else M.fail
            | _ => M.fail
        else M.fail
      | _ => M.fail
    | some .unsafePointer => match P.underlying dst with
      | some (.pointer u) => if (sizeT P u).isSome = true ∧ a.spot = none then
          M.bind (getM a.block) fun o => match o with
            | .cells c e _ _ grow _ => if grow = false ∧ liesAt P P.depth e (c.size / P.cellsOf e) a.off u 1 = true then M.pure (.val x) else M.fail
            | _ => M.fail
        else M.fail
      | _ => M.fail
    | _ => M.fail
  | _ => M.fail
theorem Loc.opUnsafe (src dst : TypeId) (x : Value) : Loc (opUnsafe P src dst x) := by
  unfold Ab.opUnsafe
  repeat' split
  all_goals first
    | exact Loc.fail
    | (refine Loc.bind (Loc.get _) fun o => ?_
       repeat' split
       all_goals first | exact Loc.fail | exact Loc.pure _)
theorem seenAt_run {A : Addr} {w : World} {C : Array Value} {e : TypeId} {FZ : Nat × Nat} (h : w.heap[A.block]? = some (.cells C e FZ)) : (Conv.seenAt A).run P w = .ok A w := by
  have hv : (viewAt A.block).run P w = .ok none w := by simp [viewAt, World.shape?, h]
  unfold Conv.seenAt
  simp only [Sem.run_bind, hv, Result.andThen_ok]
  rfl
theorem sim_opUnsafe (src dst : TypeId) {x X : Value} (hx : R ρ x X) : Sim P N ρ (opUnsafe P src dst x) (do Pure.pure (Next.value (← Go.convert src dst X)) : Sem Next) ORel := by
  unfold Ab.opUnsafe
  split
  next a =>
    obtain ⟨A, rfl, hA⟩ := AddrR.of_R hx
    split
    next t hs =>
      split
      next hd =>
        split
        next hc =>
          obtain ⟨c1, c2, c3⟩ := hc
          obtain ⟨n, hn⟩ := Option.isSome_iff_exists.1 c2
          have hn0 : n ≠ 0 := fun e => c1 (by rw [hn, e])
          intro σ r σ' w hm hr hN hf
          obtain ⟨o, σ1, g1, g2⟩ := bindM_some hm
          obtain ⟨g3, g4, g5⟩ := getM_some g1
          cases o with
          | cells c e fz str grow ro =>
            dsimp only at g2
            by_cases hlt : a.off < c.size
            · rw [if_pos hlt] at g2
              obtain ⟨rfl, rfl⟩ := pureM_some g2
              obtain ⟨κ, hb⟩ := hA.block
              obtain ⟨C, FZ, k1, k2, k3, k4, k5, k6, k8⟩ := hr.cells g3 hb
              refine ⟨ρ, .value (.pointer (some A)), w, ?_, .val hx, PMap.le_refl _, fun _ _ e => .inl e, hr.congr (fun i => by rw [g4]), Below.refl _ _⟩
              have hsee := seenAt_run (P := P) (A := A) k1
              have hsp : A.spot = none := by rw [hA.spot, c3]
              have hoff : ¬ (A.off ≥ C.size) := by rw [hA.off]; omega
              simp [Go.convert, run_underlying' hs, run_underlying' hd, Conv.unsafePointer, hsee, cellsIn, World.shape?, k1, run_sizeOf' hn, hn0, hoff]
            · rw [if_neg hlt] at g2; cases g2
          | _ => cases g2
        next => exact Sim.fail
      next => exact Sim.fail
    next hs =>
      split
      next u hd =>
        split
        next hc =>
          obtain ⟨c2, c3⟩ := hc
          obtain ⟨n, hn⟩ := Option.isSome_iff_exists.1 c2
          intro σ r σ' w hm hr hN hf
          obtain ⟨o, σ1, g1, g2⟩ := bindM_some hm
          obtain ⟨g3, g4, g5⟩ := getM_some g1
          cases o with
          | cells c e fz str grow ro =>
            dsimp only at g2
            by_cases hlt : grow = false ∧ liesAt P P.depth e (c.size / P.cellsOf e) a.off u 1 = true
            · rw [if_pos hlt] at g2
              obtain ⟨rfl, rfl⟩ := pureM_some g2
              obtain ⟨κ, hb⟩ := hA.block
              obtain ⟨C, FZ, k1, k2, k3, k4, k5, k6, k8⟩ := hr.cells g3 hb
              refine ⟨ρ, .value (.pointer (some A)), w, ?_, .val hx, PMap.le_refl _, fun _ _ e => .inl e, hr.congr (fun i => by rw [g4]), Below.refl _ _⟩
              have hsee := seenAt_run (P := P) (A := A) k1
              have hl := hlt.2
              rw [← k3 hlt.1, ← hA.off] at hl
              simp [Go.convert, run_underlying' hs, run_underlying' hd, Conv.unsafePointer, hsee, variablesAt, World.shape?, k1, run_sizeOf' hn, hl]
            · rw [if_neg hlt] at g2; cases g2
          | _ => cases g2
        next => exact Sim.fail
      next => exact Sim.fail
    next => exact Sim.fail
  next => exact Sim.fail
theorem freeze_heap {w : World} {b off n : Nat} {C : Array Value} {e : TypeId} {FZ : Nat × Nat} (h : w.heap[b]? = some (.cells C e FZ)) (hn : n ≠ 0) :
    w.freeze ⟨b, off, none⟩ n = withHeap w (w.heap.setIfInBounds b (.cells C e (if FZ.1 == FZ.2 then (off, off + n) else (min FZ.1 off, max FZ.2 (off + n))))) := by
  unfold World.freeze withHeap
  rw [if_neg hn]
  congr 1
  apply Array.ext
  · simp
  · intro i h1 h2
    rw [Array.getElem_modify, Array.getElem_setIfInBounds]
    simp only [Array.getElem?_eq_some_iff] at h
    obtain ⟨hb, hh⟩ := h
    by_cases hi : b = i
    · subst hi; simp [hh]
    · rw [if_neg hi, if_neg hi]
def opMark (P : Program) (src dst : TypeId) (x : Value) : M ORes :=
  if src = dst then
  match P.underlying src with
  | some (.slice e) => match P.underlying e with
    | some (.int .u8) => match x with
      | .slice (some a) _ _ => M.bind (getM a.block) fun o => match o with
        | .cells c e fz str grow ro => if ro = false ∧ str = false ∧ fz.1 = fz.2 then M.bind (setM a.block (.cells c e fz true grow false)) fun _ => M.pure (.val x) else M.fail
        | _ => M.fail
      | _ => M.fail
    | _ => M.fail
  | _ => M.fail
  else M.fail
theorem Loc.opMark (src dst : TypeId) (x : Value) : Loc (opMark P src dst x) := by
  unfold Ab.opMark
  repeat' split
  all_goals first
    | exact Loc.fail
    | (refine Loc.bind (Loc.get _) fun o => ?_
       repeat' split
       all_goals first | exact Loc.fail | exact Loc.bind (Loc.set _ _) fun _ => Loc.pure _)
theorem sim_opMark (src dst : TypeId) {x X : Value} (hx : R ρ x X) : Sim P N ρ (opMark P src dst x) (do Pure.pure (Next.value (← Go.convert src dst X)) : Sem Next) ORel := by
  unfold Ab.opMark
  split
  next hsd =>
    subst hsd
    split
    next e hs =>
      split
      next he =>
        split
        next a n cap =>
          intro σ r σ' w hm hr hN hf
          obtain ⟨o, σ1, g1, g2⟩ := bindM_some hm
          obtain ⟨g3, g4, g5⟩ := getM_some g1
          cases o with
          | cells c e' fz str grow ro =>
            dsimp only at g2
            by_cases hc : ro = false ∧ str = false ∧ fz.1 = fz.2
            · rw [if_pos hc] at g2
              obtain ⟨rfl, rfl, hfz⟩ := hc
              obtain ⟨u', σ2, g6, g7⟩ := bindM_some g2
              obtain ⟨rfl, rfl⟩ := pureM_some g7
              obtain ⟨s1, s2, s3⟩ := setM_some g6
              obtain ⟨A, b, κ, c', hX, hb, hA⟩ : ∃ A b κ c', X = .slice (some A) n c' ∧ ρ a.block = some (b, κ) ∧ A.block = b := by
                cases hx with
                | slice i off b κ _ _ off' c' hb hn hcap ho => exact ⟨_, b, κ, c', rfl, hb, rfl⟩
              subst hX hA
              obtain ⟨C, FZ, j1, j2, j3, j4, j5, j6, j8⟩ := hr.cells g3 hb
              have hF : FZ.1 = FZ.2 := by
                have h1 := (j8 rfl).2
                rcases Nat.lt_or_ge FZ.1 FZ.2 with h | h
                · have := j6 FZ.1 (.inr rfl) (Nat.le_refl _) h; omega
                · omega
              refine ⟨ρ, .value (.slice (some A) n c'), withHeap w (w.heap.setIfInBounds A.block (.cells C e' (C.size, C.size + 1))), ?_, .val hx, PMap.le_refl _, fun _ _ e => .inl e, ?_, ?_⟩
              · have hfr := freeze_heap (w := w) (off := C.size) (n := 1) j1 (by omega)
                simp only [hF, beq_self_eq_true, if_true] at hfr
                rw [← hfr]
                simp [Go.convert, run_underlying' hs, run_underlying' he, markStringish, shape?_of j1]
              · rw [withHeap_heap]
                exact hr.put (o' := .cells c e' fz true grow false) g3 hb rfl rfl ⟨C, (C.size, C.size + 1), rfl, j2, j3, j4, j5, fun k h h1 h2 => absurd h1 (by rcases h with h | h; (simp only; omega); cases h), fun _ => Nat.le_succ _⟩ s2 (fun j hj => by rw [s3 j hj, g4])
              · have hN' := (j8 rfl).1
                refine ⟨rfl, rfl, rfl, by simp [withHeap], fun k hk => ?_⟩
                rw [withHeap_heap, Array.getElem?_setIfInBounds, if_neg (by omega)]
            · rw [if_neg hc] at g2; cases g2
          | _ => cases g2
        next => exact Sim.fail
      next => exact Sim.fail
    next => exact Sim.fail
  next => exact Sim.fail
def opSliceData (x : Value) : M ORes :=
  match x with
  | .slice (some a) n _ => if 0 < n then M.pure (.val (.pointer (some a))) else M.fail
  | _ => M.fail
theorem Loc.opSliceData (x : Value) : Loc (opSliceData x) := by
  unfold Ab.opSliceData; repeat' split
  all_goals first | exact Loc.fail | exact Loc.pure _
theorem sim_opSliceData (ats : Array TypeId) (ty : TypeId) {x X : Value} (hx : R ρ x X) : Sim P N ρ (opSliceData x) (do Pure.pure (Next.value (← Builtin.unsafeSliceData_ ats ty #[X])) : Sem Next) ORel := by
  unfold Ab.opSliceData
  split
  next a n c =>
    split
    next hn =>
      obtain ⟨A, c', rfl, hA, _, _, hc, _⟩ := slice_pos hx hn
      refine Sim.congr (Sim.pure (b := Next.value (.pointer (some A))) (.val hA.R)) fun w => ?_
      have : c' ≠ 0 := by omega
      have hd : Builtin.unsafeSliceData_ ats ty #[.slice (some A) n c'] = (if c' ≠ 0 then Pure.pure (.pointer (some A)) else do if (← viewAt A.block).isSome then Pure.pure (.pointer (some A)) else Pure.pure (.pointer (some ⟨← newObj (.view A (← elemOf ty)), 0, none⟩))) := rfl
      rw [hd, if_pos this]; rfl
    next => exact Sim.fail
  next => exact Sim.fail
def frz (fz : Nat × Nat) (off n : Nat) : Nat × Nat := if fz.1 == fz.2 then (off, off + n) else (min fz.1 off, max fz.2 (off + n))
def opUnsafeString (P : Program) (ats : Array TypeId) (p l : Value) : M ORes :=
  match p with
  | .pointer (some a) =>
    match l with
    | .int _ n =>
      match ats[0]? with
      | none => M.fail
      | some pt => match P.underlying pt with
        | some (.pointer u) =>
          if 0 < n ∧ n ≤ 1073741824 ∧ a.spot = none then
            M.bind (getM a.block) fun o => match o with
              | .cells c e fz str grow ro =>
                if str = false ∧ ro = false ∧ P.cellsOf e = 1 ∧ sameLayout P P.depth e u = true ∧ 0 < P.depth ∧ a.off + n.toNat ≤ c.size then
                  match bytesOf (c.extract a.off (a.off + n.toNat)).toList with
                  | some ns => M.bind (setM a.block (.cells c e (if fz.1 == fz.2 then (a.off, a.off + n.toNat) else (min fz.1 a.off, max fz.2 (a.off + n.toNat))) str grow false)) fun _ => M.pure (.val (.string (strOf ns)))
                  | none => M.fail
                else M.fail
              | _ => M.fail
          else M.fail
        | _ => M.fail
    | _ => M.fail
  | _ => M.fail
theorem Loc.opUnsafeString (ats : Array TypeId) (p l : Value) : Loc (opUnsafeString P ats p l) := by
  unfold Ab.opUnsafeString
  repeat' split
  all_goals first
    | exact Loc.fail
    | (refine Loc.bind (Loc.get _) fun o => ?_
       repeat' split
       all_goals first | exact Loc.fail | exact Loc.bind (Loc.set _ _) fun _ => Loc.pure _)
theorem run_loadBytes {w : World} {b : Nat} {C : Array Value} {e : TypeId} {FZ : Nat × Nat} (h : w.heap[b]? = some (.cells C e FZ)) : ∀ (ns : List Int) (off : Nat) (acc : ByteArray),
    (∀ (i : Nat) n, ns[i]? = some n → C[off + i]? = some (.int .u8 n)) → (loadBytes ⟨b, off, none⟩ acc ns.length).run P w = .ok (ns.foldl (fun r n => r.push (UInt8.ofNat n.toNat)) acc) w
  | [], off, acc, _ => rfl
  | n :: r, off, acc, hc => by
    have h0 := hc 0 n rfl
    have hadd : (⟨b, off, none⟩ : Addr).add 1 = ⟨b, off + 1, none⟩ := by unfold Addr.add; rfl
    simp only [Nat.add_zero] at h0
    simp only [List.length_cons, loadBytes, Sem.run_bind, run_load, cell?_of h, h0, Result.andThen_ok, hadd, List.foldl_cons]
    exact run_loadBytes h r (off + 1) _ (fun i m hm => by have := hc (i + 1) m (by simpa using hm); rwa [show off + (i + 1) = off + 1 + i by omega] at this)
theorem liesAt_bytes {e u : TypeId} {off n count : Nat} (h1 : P.cellsOf e = 1) (h2 : sameLayout P P.depth e u = true) (h3 : 0 < P.depth) (h4 : off + n ≤ count) :
    liesAt P P.depth e (count / P.cellsOf e) off u n = true := by
  have h2' := h2
  obtain ⟨d, hd⟩ : ∃ d, P.depth = d + 1 := ⟨P.depth - 1, by omega⟩
  unfold liesAt
  rw [hd] at h2' ⊢
  simp only [Bool.or_eq_true]
  left
  unfold rowAt
  simp only [h1, Nat.one_ne_zero, if_false, Nat.div_one, Nat.mod_one, beq_self_eq_true, Bool.true_and, Bool.or_eq_true, Bool.and_eq_true, decide_eq_true_eq]
  left
  exact ⟨h4, h2'⟩
theorem sim_opUnsafeString (ats : Array TypeId) (ty : TypeId) {p l X L : Value} (hp : R ρ p X) (hl : R ρ l L) :
    Sim P N ρ (opUnsafeString P ats p l) (do Pure.pure (Next.value (← Builtin.unsafeString_ ats ty #[X, L])) : Sem Next) ORel := by
  unfold Ab.opUnsafeString
  split
  next a =>
    obtain ⟨A, rfl, hA⟩ := AddrR.of_R hp
    split
    next k n =>
      cases hl
      split
      · exact Sim.fail
      next pt hpt =>
        split
        next u hu =>
          split
          next hc =>
            obtain ⟨q1, q2, q3⟩ := hc
            intro σ r σ' w hm hr hN hf
            obtain ⟨o, σ1, g1, g2⟩ := bindM_some hm
            obtain ⟨g3, g4, g5⟩ := getM_some g1
            cases o with
            | cells c e fz str grow ro =>
              dsimp only at g2
              by_cases hcond : str = false ∧ ro = false ∧ P.cellsOf e = 1 ∧ sameLayout P P.depth e u = true ∧ 0 < P.depth ∧ a.off + n.toNat ≤ c.size
              · rw [if_pos hcond] at g2
                obtain ⟨rfl, rfl, k1, k2, k3, k4⟩ := hcond
                cases hns : bytesOf (c.extract a.off (a.off + n.toNat)).toList with
                | none => rw [hns] at g2; cases g2
                | some ns =>
                  rw [hns] at g2
                  obtain ⟨u', σ2, g6, g7⟩ := bindM_some g2
                  obtain ⟨rfl, rfl⟩ := pureM_some g7
                  obtain ⟨s1, s2, s3⟩ := setM_some g6
                  obtain ⟨⟨κ, hb⟩, ho, hsp⟩ := hA
                  obtain ⟨b, off, spot⟩ := A
                  simp only at hb ho hsp
                  subst ho
                  rw [q3] at hsp
                  subst hsp
                  obtain ⟨C, FZ, j1, j2, j3, j4, j5, j6, j8⟩ := hr.cells g3 hb
                  have hlist := bytesOf_some hns
                  have hlen : ns.length = n.toNat := by
                    have := congrArg List.length hlist
                    simp at this
                    omega
                  have hbytes : ∀ (i : Nat) m, ns[i]? = some m → C[a.off + i]? = some (.int .u8 m) := by
                    intro i m hm
                    have hi : i < ns.length := (List.getElem?_eq_some_iff.1 hm).1
                    have e1 : (c.extract a.off (a.off + n.toNat)).toList[i]? = some (.int .u8 m) := by rw [hlist]; simp [hm]
                    rw [Array.getElem?_toList, Array.getElem?_extract, if_pos (by omega)] at e1
                    obtain ⟨V, e2, e3⟩ := j5 _ _ e1
                    rw [e2]
                    cases e3; rfl
                  have hload := run_loadBytes (P := P) j1 ns a.off ByteArray.empty hbytes
                  rw [hlen] at hload
                  have hlies := liesAt_bytes (P := P) (e := e) (u := u) (off := a.off) (n := n.toNat) (count := C.size) k1 k2 k3 (by omega)
                  have hn1 : ¬ (n < 0) := by omega
                  have hn2 : ¬ (n > IntKind.i64.max) := by rw [IntKind.max_i64]; omega
                  have hn3 : ¬ (n = 0) := by omega
                  refine ⟨ρ, .value (.string (strOf ns)), withHeap w (w.heap.setIfInBounds b (.cells C e (if FZ.1 == FZ.2 then (a.off, a.off + n.toNat) else (min FZ.1 a.off, max FZ.2 (a.off + n.toNat))))), ?_, .val (.string _), PMap.le_refl _, fun _ _ e => .inl e, ?_, ?_⟩
                  · rw [← freeze_heap j1 (by omega)]
                    have hd : Builtin.unsafeString_ ats ty #[.pointer (some ⟨b, a.off, none⟩), .int k n] = (do
                        let n ← asInt (.int k n)
                        let some pt := ats[0]? | stuck "unsafe.String: no argument types"
                        if n < 0 then runtimePanic (.error "unsafe.String: len out of range")
                        if n > IntKind.i64.max then unsupported (.unsafePointer "String: a length above the largest int")
                        if n = 0 then Pure.pure (.string .empty)
                        else if ← variablesAt ⟨b, a.off, none⟩ (← elemOf pt) n.toNat then do
                          let s ← loadBytes ⟨b, a.off, none⟩ .empty n.toNat
                          freeze ⟨b, a.off, none⟩ n.toNat
                          Pure.pure (.string s)
                        else unsupported (.unsafePointer "String: not so many bytes at ptr")) := rfl
                    rw [hd]
                    simp only [Sem.run_bind, asInt, asIntOf, Sem.run_pure, Result.andThen_ok, hpt, hn1, if_false, hn2, hn3, elemOf, run_underlying' hu, variablesAt, run_program, run_shape, shape?_of j1, hlies, if_true, hload, run_freeze]
                    rfl
                  · rw [withHeap_heap]
                    refine hr.put (o' := .cells c e _ false grow false) g3 hb rfl rfl ⟨C, _, rfl, j2, j3, j4, j5, ?_, ?_⟩ s2 (fun j hj => by rw [s3 j hj, g4])
                    rotate_left
                    · intro _; have := (j8 rfl).2; split <;> simp only <;> omega
                    intro k _ h1 h2
                    have hb6 := fun k => j6 k (.inr rfl)
                    by_cases hF : FZ.1 = FZ.2
                    · simp only [hF, beq_self_eq_true, if_true] at h1 h2
                      split
                      · simp only; omega
                      · simp only; omega
                    · have hF' : (FZ.1 == FZ.2) = false := by simp [hF]
                      simp only [hF', Bool.false_eq_true, if_false] at h1 h2
                      by_cases hF2 : FZ.1 < FZ.2
                      · have p1 := hb6 FZ.1 (Nat.le_refl _) hF2
                        have p2 := hb6 (FZ.2 - 1) (by omega) (by omega)
                        have hne : (fz.1 == fz.2) = false := by
                          rw [beq_eq_false_iff_ne]; omega
                        simp only [hne, Bool.false_eq_true, if_false]
                        omega
                      · have := (j8 rfl).2; omega
                  · have hN' := (j8 rfl).1
                    refine ⟨rfl, rfl, rfl, by simp [withHeap], fun k hk => ?_⟩
                    rw [withHeap_heap, Array.getElem?_setIfInBounds, if_neg (by omega)]
              · rw [if_neg hcond] at g2; cases g2
            | _ => cases g2
          next => exact Sim.fail
        next => exact Sim.fail
    next => exact Sim.fail
  next => exact Sim.fail
end
end
end Go.Ab
end
