/-
  Part of the proof of DiffChangesUptoCardSaid: what Diff.Between says of two rows of leaves, Back turns and Apply takes, up to the bulk that the card names.
  A proof for this seat's program alone; the parts of the words that it needs were printed by the kit, and cut to what is used.
-/
import Derived.IntWalk
import Derived.Laws.BytesString
import Derived.Lib.MakeNoZero
import Derived.Test.YtclamgljgnjkbaaGreatDoorLn3
set_option linter.all false
section
namespace Go.Ab
open Go Go.RowKit
noncomputable section
section
variable {P : Program} {N : Nat} {ρ : PMap}
theorem Sim.value {v : Option Value} {s : Sem Value} (h : ∀ u, v = some u → ∃ U, (∀ w, s.run P w = .ok U w) ∧ R ρ u U) :
    Sim P N ρ (valM (M.ofOption v)) (do Pure.pure (Next.value (← s)) : Sem Next) ORel := by
  cases v with
  | none => intro σ a σ' w hm; cases hm
  | some u =>
    obtain ⟨U, h1, h2⟩ := h u rfl
    refine Sim.congr (s := (Pure.pure (Next.value U) : Sem Next)) (m := valM (M.pure u)) ?_ fun w => ?_
    · exact Sim.bind (s := (Pure.pure U : Sem Value)) (g := fun U => Pure.pure (Next.value U)) (Sim.pure h2) (Loc.pure _) (fun _ => Loc.pure _) fun _ _ _ _ hb => Sim.pure (.val hb)
    · simp only [Sem.run_bind, h1, Result.andThen_ok]
theorem Loc.value (v : Option Value) : Loc (valM (M.ofOption v)) := Loc.val (Loc.ofOption _)
def partV (P : Program) (t : TypeId) (cs : Array Value) (off : Nat) : Option Value :=
  match isAggT P t with
  | some true => match sizeT P t with
    | some n => some (.agg (cs.extract off (off + n)))
    | none => none
  | some false => cs[off]?
  | none => none
theorem partV_run {t : TypeId} {cs CS : Array Value} {off : Nat} (h : RA ρ cs CS) {v : Value} (hv : partV P t cs off = some v) : ∃ V, (∀ w, (part t CS off).run P w = .ok V w) ∧ R ρ v V := by
  unfold partV at hv
  cases h1 : isAggT P t with
  | none => rw [h1] at hv; cases hv
  | some b =>
    rw [h1] at hv
    cases b with
    | true =>
      simp only at hv
      cases h2 : sizeT P t with
      | none => rw [h2] at hv; cases hv
      | some n =>
        rw [h2] at hv; cases hv
        exact ⟨_, fun w => by simp [part, run_isAgg' h1, run_sizeOf' h2], R.aggA (h.extract _ _)⟩
    | false =>
      simp only at hv
      obtain ⟨V, h3, h4⟩ := h.get hv
      exact ⟨V, fun w => by simp [part, run_isAgg' h1, h3], h4⟩
def fieldV (P : Program) (t : TypeId) (x : Value) (f : Nat) : Option Value :=
  match P.underlying t with
  | some (.struct fields) => match fields[f]? with
    | some fd => match x with
      | .agg cs => partV P fd.type cs fd.offset
      | _ => none
    | none => none
  | _ => none
theorem fieldV_run {t : TypeId} {x X : Value} {f : Nat} (h : R ρ x X) {v : Value} (hv : fieldV P t x f = some v) : ∃ V, (∀ w, (Instr.field t X f).run P w = .ok V w) ∧ R ρ v V := by
  unfold fieldV at hv
  split at hv
  next fields hu =>
    cases hf : fields[f]? with
    | none => rw [hf] at hv; cases hv
    | some fd =>
      rw [hf] at hv
      simp only at hv
      split at hv
      next cs =>
        cases h with
        | agg _ CS hx hx' =>
          obtain ⟨V, h1, h2⟩ := partV_run ⟨hx, hx'⟩ hv
          exact ⟨V, fun w => by simp [Instr.field, run_underlying' hu, hf, asAgg, h1], h2⟩
      next => cases hv
  next => cases hv
def extractV (x : Value) (i : Nat) : Option Value :=
  match x with
  | .tuple vs => vs[i]?
  | _ => none
theorem extractV_run {x X : Value} {i : Nat} (h : R ρ x X) {v : Value} (hv : extractV x i = some v) : ∃ V, (∀ w, (Instr.extract X i).run P w = .ok V w) ∧ R ρ v V := by
  unfold extractV at hv
  split at hv
  next vs =>
    cases h with
    | tuple _ VS hx hx' =>
      obtain ⟨V, h1, h2⟩ := RA.get ⟨hx, hx'⟩ hv
      exact ⟨V, fun w => by simp [Instr.extract, h1], h2⟩
  next => cases hv
def fieldAddrV (P : Program) (t : TypeId) (x : Value) (f : Nat) : Option Value :=
  match P.underlying t with
  | some (.struct fields) => match fields[f]? with
    | some fd => match sizeT P fd.type with
      | some n => if n = 0 then none else match x with
        | .pointer (some a) => some (.pointer (some (a.add fd.offset)))
        | _ => none
      | none => none
    | none => none
  | _ => none
theorem fieldAddrV_run {t : TypeId} {x X : Value} {f : Nat} (h : R ρ x X) {v : Value} (hv : fieldAddrV P t x f = some v) : ∃ V, (∀ w, (Instr.fieldAt t X f).run P w = .ok V w) ∧ R ρ v V := by
  unfold fieldAddrV at hv
  split at hv
  next fields hu =>
    cases hf : fields[f]? with
    | none => rw [hf] at hv; cases hv
    | some fd =>
      rw [hf] at hv
      simp only at hv
      cases hn : sizeT P fd.type with
      | none => rw [hn] at hv; cases hv
      | some n =>
        rw [hn] at hv
        simp only at hv
        split at hv
        · cases hv
        next h0 =>
          split at hv
          next a =>
            cases hv
            obtain ⟨A, rfl, hA⟩ := AddrR.of_R h
            exact ⟨_, fun w => by simp [Instr.fieldAt, run_underlying' hu, hf, Instr.sureAddr, fieldPlace, run_sizeOf' hn, h0], (hA.add _).R⟩
          next => cases hv
  next => cases hv
def indexAddrV (P : Program) (t : TypeId) (x ix : Value) : Option Value :=
  match ix with
  | .int _ i => match P.underlying t with
    | some (.slice elem) => match x with
      | .slice (some a) n _ => match sizeT P elem with
        | some s => if 0 ≤ i ∧ i < n then some (.pointer (some (a.add (i.toNat * s)))) else none
        | none => none
      | _ => none
    | some (.array n elem) => match x with
      | .pointer (some a) => match sizeT P elem with
        | some s => if 0 ≤ i ∧ i < n then some (.pointer (some (a.add (i.toNat * s)))) else none
        | none => none
      | _ => none
    | _ => none
  | _ => none
theorem slice_pos {a : Addr} {n c : Nat} {X : Value} (h : R ρ (.slice (some a) n c) X) (hn : 0 < n) : ∃ A c', X = .slice (some A) n c' ∧ AddrR ρ a A ∧ A.spot = none ∧ a.spot = none ∧ 0 < c' ∧ n ≤ c' := by
  cases h with
  | slice i off b κ n c off' c' h hn' hc ho =>
    obtain rfl : off' = off := by rcases ho with ho | ho <;> omega
    exact ⟨_, c', rfl, ⟨⟨κ, h⟩, rfl, rfl⟩, rfl, rfl, by omega, hn'⟩
theorem indexAddrV_run {t : TypeId} {x X ix IX : Value} (h : R ρ x X) (hi : R ρ ix IX) {v : Value} (hv : indexAddrV P t x ix = some v) : ∃ V, (∀ w, (Instr.indexAt t X IX).run P w = .ok V w) ∧ R ρ v V := by
  unfold indexAddrV at hv
  split at hv
  next k i =>
    cases hi
    split at hv
    next elem hu =>
      split at hv
      next a n c =>
        cases hs : sizeT P elem with
        | none => rw [hs] at hv; cases hv
        | some s =>
          rw [hs] at hv
          simp only at hv
          split at hv
          next hr =>
            cases hv
            obtain ⟨A, c', rfl, hA, _, _, _, _⟩ := slice_pos h (by omega)
            exact ⟨_, fun w => by simp [Instr.indexAt, asIntOf, run_underlying' hu, hr, run_sizeOf' hs], (hA.add _).R⟩
          next => cases hv
      next => cases hv
    next n elem hu =>
      split at hv
      next a =>
        cases hs : sizeT P elem with
        | none => rw [hs] at hv; cases hv
        | some s =>
          rw [hs] at hv
          simp only at hv
          split at hv
          next hr =>
            cases hv
            obtain ⟨A, rfl, hA⟩ := AddrR.of_R h
            exact ⟨_, fun w => by simp [Instr.indexAt, asIntOf, run_underlying' hu, hr, run_sizeOf' hs, Instr.sureAddr], (hA.add _).R⟩
          next => cases hv
      next => cases hv
    next => cases hv
  next => cases hv
def natOf : Option Value → Nat → Option Nat
  | none, d => some d
  | some (.int _ i), _ => if 0 ≤ i then some i.toNat else none
  | some _, _ => none
def sliceV (P : Program) (t : TypeId) (x : Value) (lo hi mx : Option Value) : Option Value :=
  if mx.isSome then none else
  match P.underlying t with
  | some (.slice elem) => match sizeT P elem with
    | some s => match x with
      | .slice a n c => match natOf hi n, natOf lo 0 with
        | some h, some l => if l ≤ h ∧ (h ≤ n ∨ (c < halfCap ∧ h ≤ c)) ∧ (c < halfCap ∨ halfCap + l ≤ c) ∧ (a.isSome = true ∨ h ≤ c) then some (.slice (if c = l then a else a.map (·.add (l * s))) (h - l) (c - l)) else none
        | _, _ => none
      | _ => none
    | none => none
  | some (.array m elem) => match sizeT P elem with
    | some s => match x with
      | .pointer (some a) => match natOf hi m, natOf lo 0 with
        | some h, some l => if l ≤ h ∧ h ≤ m ∧ m < halfCap ∧ a.spot = none then some (.slice (some (if m = l then a else a.add (l * s))) (h - l) (m - l)) else none
        | _, _ => none
      | _ => none
    | none => none
  | _ => none
def OptR (ρ : PMap) : Option Value → Option Value → Prop
  | none, none => True
  | some v, some V => R ρ v V
  | _, _ => False
theorem sliceBound_run {k : IntKind} {i : Int} {y : Nat} {code : BoundsCode} (h0 : 0 ≤ i) (h1 : i.toNat ≤ y) (w : World) : (Instr.sliceBound (.int k i) y code).run P w = .ok i.toNat w := by
  have : 0 ≤ i ∧ i ≤ (y : Int) := ⟨h0, by omega⟩
  simp [Instr.sliceBound, asIntOf, this]
theorem natOf_run {v V : Option Value} {d n y : Nat} {code : BoundsCode} (h : OptR ρ v V) (hn : natOf v d = some n) (hy : n ≤ y) (w : World) :
    (match V with | some v => Instr.sliceBound v y code | none => (Pure.pure d : Sem Nat)).run P w = .ok n w := by
  cases v with
  | none =>
    cases V with
    | none => simp only [natOf, Option.some.injEq] at hn; subst hn; rfl
    | some V => exact h.elim
  | some v =>
    cases V with
    | none => exact h.elim
    | some V =>
      have h' : R ρ v V := h
      cases h' <;> simp only [natOf] at hn <;> try (cases hn; done)
      split at hn
      · cases hn; exact sliceBound_run (by assumption) hy w
      · cases hn
theorem sliceBounds_run {isSlice : Bool} {len cap : Nat} {lo hi LO HI : Option Value} {h l : Nat} (h1 : OptR ρ lo LO) (h2 : OptR ρ hi HI) (e1 : natOf hi len = some h) (e2 : natOf lo 0 = some l)
    (hl : l ≤ h) (hh : h ≤ cap) (w : World) : (Instr.sliceBounds isSlice len cap LO HI none).run P w = .ok (l, h, cap) w := by
  unfold Instr.sliceBounds
  simp only [Sem.run_bind, Sem.run_pure, Result.andThen_ok]
  have q1 := natOf_run (P := P) (code := if isSlice then .sliceAcap else .sliceAlen) h2 e1 hh w
  have q2 := natOf_run (P := P) (code := .sliceB) h1 e2 hl w
  cases HI with
  | none =>
    simp only at q1 ⊢
    simp only [Sem.run_pure, Result.ok.injEq, and_true] at q1
    subst q1
    cases LO with
    | none => simp only at q2 ⊢; simp only [Sem.run_pure, Result.ok.injEq, and_true] at q2; subst q2; simp
    | some L => simp only at q2 ⊢; simp [q2]
  | some H =>
    simp only at q1 ⊢
    cases LO with
    | none => simp only at q2 ⊢; simp only [Sem.run_pure, Result.ok.injEq, and_true] at q2; subst q2; simp [q1]
    | some L => simp only at q2 ⊢; simp [q1, q2]
theorem sliceV_run {t : TypeId} {x X : Value} {lo hi mx LO HI MX : Option Value} (h : R ρ x X) (h1 : OptR ρ lo LO) (h2 : OptR ρ hi HI) (h3 : OptR ρ mx MX)
    {v : Value} (hv : sliceV P t x lo hi mx = some v) : ∃ V, (∀ w, (Instr.sliceAt t X LO HI MX).run P w = .ok V w) ∧ R ρ v V := by
  unfold sliceV at hv
  split at hv
  · cases hv
  next hmx =>
  have hmx' : MX = none := by
    cases mx with
    | none => cases MX with
      | none => rfl
      | some _ => exact h3.elim
    | some _ => simp at hmx
  subst hmx'
  split at hv
  next elem hu =>
    cases hs : sizeT P elem with
    | none => rw [hs] at hv; cases hv
    | some s =>
      rw [hs] at hv
      simp only at hv
      split at hv
      next a n c =>
        cases e1 : natOf hi n with
        | none => rw [e1] at hv; cases hv
        | some hh =>
        cases e2 : natOf lo 0 with
        | none => rw [e1, e2] at hv; cases hv
        | some l =>
          rw [e1, e2] at hv
          simp only at hv
          split at hv
          next hc =>
            cases hv
            obtain ⟨q1, q2, q3, q5⟩ := hc
            have key : ∀ (A : Option Addr) (c' : Nat), hh ≤ c' → ∀ w, (Instr.sliceAt t (.slice A n c') LO HI none).run P w = .ok (.slice (if c' = l then A else A.map (·.add (l * s))) (hh - l) (c' - l)) w := by
              intro A c' hle w
              simp only [Instr.sliceAt, Sem.run_bind, run_underlying' hu, Result.andThen_ok, Instr.slice]
              rw [sliceBounds_run h1 h2 e1 e2 q1 hle]
              simp only [Result.andThen_ok, run_sizeOf' hs, Sem.run_pure]
            cases h with
            | sliceNil =>
              have hle : hh ≤ c := by simpa using q5
              refine ⟨_, key none c hle, ?_⟩
              have : (if c = l then (none : Option Addr) else Option.map (fun x : Addr => x.add (l * s)) none) = none := by split <;> rfl
              rw [this]
              exact .sliceNil _ _
            | slice i off b κ _ _ off' c' hb hn hcap ho =>
              have hle : hh ≤ c' := by
                rcases q2 with q2 | ⟨q2, q4⟩
                · omega
                · rcases hcap with ⟨_, rfl⟩ | ⟨hbig, _⟩ <;> omega
              refine ⟨_, key _ c' hle, ?_⟩
              have hadd : ∀ (bb oo k : Nat), (⟨bb, oo, none⟩ : Addr).add k = ⟨bb, oo + k, none⟩ := by intro bb oo k; unfold Addr.add; split <;> simp_all
              simp only [Option.map_some, hadd]
              rcases hcap with ⟨hk, rfl⟩ | ⟨hbig, hrel⟩
              · by_cases hcl : c' = l
                · rw [if_pos hcl, if_pos hcl]
                  exact .slice i off b κ _ _ off' _ hb (by omega) (.inl ⟨by omega, rfl⟩) (by rcases ho with ho | ho <;> omega)
                · rw [if_neg hcl, if_neg hcl]
                  refine .slice i _ b κ _ _ _ _ hb (by omega) (.inl ⟨by omega, rfl⟩) ?_
                  rcases ho with ho | ho
                  · exact .inl (by omega)
                  · exact .inr (by omega)
              · have q3' : halfCap + l ≤ c := by rcases q3 with q3 | q3 <;> omega
                have hl0 : c ≠ l := by have : 0 < halfCap := by unfold halfCap; omega
                                       omega
                rw [if_neg hl0]
                by_cases hcl : c' = l
                · rw [if_pos hcl]
                  exact .slice i _ b κ _ _ off' _ hb (by omega) (.inr ⟨by omega, by omega⟩) (.inr (by omega))
                · rw [if_neg hcl]
                  refine .slice i _ b κ _ _ _ _ hb (by omega) (.inr ⟨by omega, by omega⟩) (.inl ?_)
                  rcases ho with ho | ho <;> omega
          next => cases hv
      next => cases hv
  next m elem hu =>
    cases hs : sizeT P elem with
    | none => rw [hs] at hv; cases hv
    | some s =>
      rw [hs] at hv
      simp only at hv
      split at hv
      next a =>
        cases e1 : natOf hi m with
        | none => rw [e1] at hv; cases hv
        | some hh =>
        cases e2 : natOf lo 0 with
        | none => rw [e1, e2] at hv; cases hv
        | some l =>
          rw [e1, e2] at hv
          simp only at hv
          split at hv
          next hc =>
            cases hv
            obtain ⟨q1, q2, q3, q4⟩ := hc
            obtain ⟨A, rfl, hA⟩ := AddrR.of_R h
            refine ⟨.slice (some (if m = l then A else A.add (l * s))) (hh - l) (m - l), fun w => ?_, ?_⟩
            · simp only [Instr.sliceAt, Sem.run_bind, run_underlying' hu, Result.andThen_ok, Instr.sureAddr, Sem.run_pure]
              rw [sliceBounds_run h1 h2 e1 e2 q1 q2]
              simp only [Result.andThen_ok, run_sizeOf' hs, Sem.run_pure]
            · have hA' : AddrR ρ (if m = l then a else a.add (l * s)) (if m = l then A else A.add (l * s)) := by split; exact hA; exact hA.add _
              have hsp : (if m = l then a else a.add (l * s)).spot = none := by split; exact q4; (unfold Addr.add; split; exact q4; rfl)
              revert hA' hsp
              generalize (if m = l then a else a.add (l * s)) = a'
              generalize (if m = l then A else A.add (l * s)) = A'
              intro hA' hsp
              obtain ⟨⟨κ, hb⟩, ho, hs'⟩ := hA'
              obtain ⟨i, off, sp⟩ := a'
              obtain ⟨b, off', sp'⟩ := A'
              simp only at hb ho hs' hsp
              subst hsp ho
              rw [hs']
              exact .slice i _ b κ _ _ _ _ hb (by omega) (.inl ⟨by omega, rfl⟩) (.inl rfl)
          next => cases hv
      next => cases hv
  next => cases hv
end
end
end Go.Ab
end
section
namespace Go.Ab
open Go Go.RowKit
noncomputable section
section
variable {P : Program} {N : Nat} {ρ : PMap}
theorem RA.mapO {f f' : Operand → Value} (l : Array Operand) (h : ∀ x ∈ l, R ρ (f x) (f' x)) : RA ρ (l.map f) (l.map f') := RA.map l h
def makeFuncV (fn : Fn) (first captured : Array Value) : Option Value :=
 match fn with
 | .yield _ => none
 | _ => some (.func fn first captured)
theorem makeFuncV_R {fn : Fn} {x X y Y : Array Value} (hx : RA ρ x X) (hy : RA ρ y Y) {v : Value} (h : makeFuncV fn x y = some v) : R ρ v (.func fn X Y) := by
 unfold makeFuncV at h
 split at h
 ·cases h
 next hn =>
  cases h
  refine .func _ _ _ _ _ _ ?_ hx.size hy.size hx.at_ hy.at_
  cases fn <;> first | rfl | exact absurd rfl (hn _)
def makeIfaceV (P : Program) (t : TypeId) (x : Value) : Option Value :=
 match P.underlying t with
 | some (.interface _) => none
 | some _ => some (.iface t x)
 | none => none
theorem makeIfaceV_run {t : TypeId} {x X : Value} (hx : R ρ x X) {v : Value} (h : makeIfaceV P t x = some v) : ∃ V, (∀ w, (Instr.makeInterface t X).run P w = .ok V w) ∧ R ρ v V := by
 unfold makeIfaceV at h
 split at h
 ·cases h
 next d hn hu =>
  cases h
  refine ⟨_, fun w => ?_, .iface t x X hx⟩
  simp only [Instr.makeInterface, Sem.run_bind, run_underlying' hu, Result.andThen_ok]
  cases d <;> first | rfl | exact absurd rfl (hn _)
 ·cases h
def opMakeSlice (P : Program) (t : TypeId) (l c : Value) : M ORes :=
 match P.underlying t with
 | some (.slice elem) => match P.info? elem with
  | some i => match zeroT P elem with
   | some z => match l, c with
    | .int _ l, .int _ c => if 0 ≤ l ∧ l ≤ c ∧ c ≤ 1048576 ∧ i.bytes ≤ 1048576 ∧ (0 < z.cells.size ∨ i.size = 0) then sliceM (newRowM elem (rowZ (if c.toNat * i.size = 0 then #[] else z.cells) (c.toNat * i.size))) l.toNat c.toNat else M.fail
    | _, _ => M.fail
   | none => M.fail
  | none => M.fail
 | _ => M.fail
theorem Loc.opMakeSlice (t : TypeId) (l c : Value) : Loc (opMakeSlice P t l c) := by
 unfold Ab.opMakeSlice
 repeat' split
 all_goals first | exact Loc.fail | exact Loc.slice (Loc.newRow _ _) _ _
theorem sim_opMakeSlice (t : TypeId) {l c L C : Value} (hl : R ρ l L) (hc : R ρ c C) : Sim P N ρ (opMakeSlice P t l c) (do Pure.pure (Next.value (← Instr.makeSlice t L C)) : Sem Next) ORel := by
 unfold Ab.opMakeSlice
 split
 next elem hu =>
  split
  next i hi =>
   split
   next z hz =>
    obtain ⟨h1, h2⟩ := zeroT_run hz
    split
    next kl l kc c =>
     cases hl
     cases hc
     split
     next hcond =>
      obtain ⟨q1, q2, q3, q4, q5⟩ := hcond
      have hsz : sizeT P elem = some i.size := by simp [sizeT, hi]
      have hrow : RA ρ (rowZ (if c.toNat * i.size = 0 then #[] else z.cells) (c.toNat * i.size)) (rowZ (if c.toNat * i.size = 0 then #[] else z.cells) (c.toNat * i.size)) := by
       by_cases h0 : c.toNat * i.size = 0
       ·rw [if_pos h0]; exact RA.rowZ (by simp) (.inr h0)
       ·rw [if_neg h0]
        refine RA.rowZ h2 (.inl ?_)
        rcases q5 with q5 | q5
        ·exact q5
        ·rw [q5, Nat.mul_zero] at h0; exact absurd rfl h0
      refine Sim.congr (s := (newRow elem (rowZ (if c.toNat * i.size = 0 then #[] else z.cells) (c.toNat * i.size)) >>= fun a => Pure.pure (Next.value (.slice (some a) l.toNat c.toNat)))) ?_ ?_
      ·exact Sim.bind (Sim.newRow hrow) (Loc.newRow _ _) (fun _ => Loc.pure _) fun _ _ _ _ h => Sim.pure (.val (sliceR h (by omega) (by unfold halfCap; omega)))
      ·intro w
       have wl : IntKind.i64.wrap l = l := IntWalk.i64_in _ (by omega)
       have wc : IntKind.i64.wrap c = c := IntWalk.i64_in _ (by omega)
       have hb : (i.bytes : Int) * c ≤ 1048576 * 1048576 := by
        have : (i.bytes : Int) ≤ 1048576 := by omega
        exact Int.mul_le_mul this q3 (by omega) (by omega)
       have hno : (decide (c < 0) || decide ((i.bytes : Int) * c > 2 ^ 48) || decide (l < 0) || decide (l > c)) = false := by
        simp only [Bool.or_eq_false_iff, decide_eq_false_iff_not]
        refine ⟨⟨⟨by omega, ?_⟩, by omega⟩, by omega⟩
        have : (2 : Int) ^ 48 = 281474976710656 := by decide
        omega
       simp only [Instr.makeSlice, Sem.run_bind, run_underlying' hu, Result.andThen_ok, asInt, asIntOf, Sem.run_pure, run_typeInfo' hi, wl, wc, hno, Bool.false_eq_true, if_false, run_askRoom, run_sizeOf' hsz]
       by_cases h0 : c.toNat * i.size = 0
       ·simp only [h0, if_true, Sem.run_pure, Result.andThen_ok, Sem.run_bind]
        unfold rowZ
        cases (newRow elem _).run P w <;> rfl
       ·simp only [h0, if_false, Sem.run_pure, Result.andThen_ok, Sem.run_bind, h1]
        unfold rowZ
        cases (newRow elem _).run P w <;> rfl
     next => exact Sim.fail
    next => exact Sim.fail
   next => exact Sim.fail
  next => exact Sim.fail
 next => exact Sim.fail
def opMakeMap (P : Program) (t : TypeId) (r : Option Value) : M ORes :=
 match P.underlying t with
 | some (.map _ _) => match r with
  | none | some (.int _ _) => M.bind (newM (.map #[] 0)) fun i => M.pure (.val (.map (some i)))
  | some _ => M.fail
 | _ => M.fail
theorem Loc.opMakeMap (t : TypeId) (r : Option Value) : Loc (opMakeMap P t r) := by
 unfold Ab.opMakeMap
 repeat' split
 all_goals first | exact Loc.fail | exact Loc.bind (Loc.new _) fun _ => Loc.pure _
theorem sim_opMakeMap (t : TypeId) {r R' : Option Value} (h : OptR ρ r R') : Sim P N ρ (opMakeMap P t r) (do Pure.pure (Next.value (← Instr.makeMap t R')) : Sem Next) ORel := by
 have main : Sim P N ρ (M.bind (newM (.map #[] 0)) fun i => M.pure (.val (.map (some i)))) (newObj (.map #[] 0) >>= fun b => Pure.pure (Next.value (.map (some b))) : Sem Next) ORel :=
  Sim.bind (Sim.new (κ := 0) ⟨#[], rfl, rfl, fun i e E h => by simp at h⟩) (Loc.new _) (fun _ => Loc.pure _) fun _ _ _ _ hb => Sim.pure (.val (.map _ _ _ hb))
 unfold Ab.opMakeMap
 split
 next k e hu =>
  split
  ·cases R' with
   | none => exact Sim.congr main fun w => by simp [Instr.makeMap]
   | some _ => exact h.elim
  ·cases R' with
   | none => exact h.elim
   | some V =>
    have h' : R ρ _ V := h
    cases h'
    exact Sim.congr main fun w => by simp [Instr.makeMap, run_underlying' hu, asInt, asIntOf]
  ·exact Sim.fail
 next => exact Sim.fail
def lenV (P : Program) (t : TypeId) (x : Value) : Option Value :=
 match P.underlying t with
 | some (.slice _) => match x with
  | .slice _ n _ => some (goInt n)
  | _ => none
 | _ => none
theorem lenV_run {t ty : TypeId} {x X : Value} (hx : R ρ x X) {v : Value} (h : lenV P t x = some v) : ∃ V, (∀ w, (Builtin.len_ #[t] ty #[X]).run P w = .ok V w) ∧ R ρ v V := by
 unfold lenV at h
 split at h
 next e hu =>
  split at h
  next a n c =>
   cases h
   cases hx <;> exact ⟨goInt n, fun w => by simp [Builtin.len_, run_underlying' hu], .int _ _⟩
  next => cases h
 next => cases h
def capV (P : Program) (t : TypeId) (x : Value) : Option Value :=
 match P.underlying t with
 | some (.slice _) => match x with
  | .slice _ _ c => if c < halfCap then some (goInt c) else none
  | _ => none
 | _ => none
theorem capV_run {t ty : TypeId} {x X : Value} (hx : R ρ x X) {v : Value} (h : capV P t x = some v) : ∃ V, (∀ w, (Builtin.cap_ #[t] ty #[X]).run P w = .ok V w) ∧ R ρ v V := by
 unfold capV at h
 split at h
 next e hu =>
  split at h
  next a n c =>
   split at h
   next hc =>
    cases h
    cases hx with
    | sliceNil => exact ⟨goInt c, fun w => by simp [Builtin.cap_, run_underlying' hu], .int _ _⟩
    | slice i off b κ _ _ off' c' hb hn hcap ho =>
     obtain rfl : c' = c := by rcases hcap with ⟨_, e⟩ | ⟨e, _⟩ <;> omega
     exact ⟨goInt c', fun w => by simp [Builtin.cap_, run_underlying' hu], .int _ _⟩
   next => cases h
  next => cases h
 next => cases h
def byteOf (v : Value) : Option Int :=
 match v with
 | .int .u8 n => some n
 | _ => none
def bytesOf : List Value → Option (List Int)
 | [] => some []
 | v :: r => match byteOf v, bytesOf r with
  | some n, some l => some (n :: l)
  | _, _ => none
theorem bytesOf_some : ∀ {l : List Value} {ns : List Int}, bytesOf l = some ns → l = ns.map (Value.int .u8)
 | [], ns, h => by simp only [bytesOf, Option.some.injEq] at h; subst h; rfl
 | v :: r, ns, h => by
  simp only [bytesOf] at h
  cases h1 : byteOf v with
  | none => rw [h1] at h; cases h
  | some n =>
   cases h2 : bytesOf r with
   | none => rw [h1, h2] at h; cases h
   | some l =>
    rw [h1, h2] at h
    cases h
    rw [bytesOf_some h2]
    unfold byteOf at h1
    split at h1
    ·cases h1; rfl
    ·cases h1
def strOf (ns : List Int) : ByteArray := ns.foldl (fun r n => r.push (UInt8.ofNat n.toNat)) ByteArray.empty
def cellsM (a : Addr) (n : Nat) : M (Array Value) :=
 if a.spot.isSome then M.fail else
 M.bind (getM a.block) fun o => match o with
  | .cells c .. => if a.off + n ≤ c.size then M.pure (c.extract a.off (a.off + n)) else M.fail
  | _ => M.fail
theorem Loc.cells (a : Addr) (n : Nat) : Loc (cellsM a n) := by
 unfold Ab.cellsM
 refine Loc.ite Loc.fail (Loc.bind (Loc.get _) fun o => ?_)
 split
 ·exact Loc.ite (Loc.pure _) Loc.fail
 ·exact Loc.fail
theorem sim_cells {a A : Addr} {n : Nat} (h : AddrR ρ a A ∨ (n = 0)) : Sim P N ρ (cellsM a n) (loadCells A n) (fun ρ x X => RA ρ x X ∧ x.size = n) := by
 refine Sim.quiet fun σ v σ' w hm hr => ?_
 unfold cellsM at hm
 split at hm
 ·cases hm
 next hsp =>
 obtain ⟨o, σ1, g1, g2⟩ := bindM_some hm
 obtain ⟨g3, g4, _⟩ := getM_some g1
 split at g2
 next c e fz str grow ro =>
  split at g2
  next hle =>
   obtain ⟨rfl, rfl⟩ := pureM_some g2
   refine ⟨fun i => by rw [g4], ?_⟩
   by_cases hn : n = 0
   ·subst hn
    refine ⟨#[], rfl, ?_⟩
    have he : c.extract a.off (a.off + 0) = #[] := by apply Array.ext <;> simp <;> omega
    rw [he]
    exact ⟨RA.empty _, rfl⟩
   ·rcases h with h | h
    ·obtain ⟨⟨κ, hb⟩, ho, hs⟩ := h
     obtain ⟨b, off, spot⟩ := A
     simp only at hb ho hs
     subst ho
     have hsp' : spot = none := by rw [hs]; simpa using hsp
     subst hsp'
     obtain ⟨C, FZ, c1, c2, c3, c4, c5, c6, c8⟩ := hr.cells g3 hb
     refine ⟨C.extract a.off (a.off + n), ?_, ⟨by simp; omega, fun i v v' e1 e2 => ?_⟩, by simp; omega⟩
     ·rw [run_loadCells w _ _ (fun j => C.getD (a.off + j) undef)]
      ·congr 1
       apply Array.ext
       ·simp; omega
       ·intro i h3 h4
        simp only [List.size_toArray, List.length_map, List.length_range] at h3
        have : a.off + i < C.size := by omega
        simp [this]
      ·intro j hj
       have : a.off + j < C.size := by omega
       have hadd : (⟨b, a.off, none⟩ : Addr).add j = ⟨b, a.off + j, none⟩ := by unfold Addr.add; split <;> simp_all
       rw [hadd, cell?_of c1]
       simp [this]
     ·rw [Array.getElem?_extract] at e1 e2
      split at e1
      ·split at e2
       ·obtain ⟨V, q1, q2⟩ := c5 _ _ e1
        rw [q1] at e2; cases e2; exact q2
       ·cases e2
      ·cases e1
    ·exact absurd h hn
  next => cases g2
 next => cases g2
def opBytesToString (P : Program) (src dst : TypeId) (x : Value) : M ORes :=
 match P.underlying src, P.underlying dst with
 | some (.slice e), some .string => match P.underlying e with
  | some (.int .u8) => match x with
   | .slice (some a) n _ => M.bind (cellsM a n) fun c => match bytesOf c.toList with
    | some ns => M.pure (.val (.string (strOf ns)))
    | none => M.fail
   | _ => M.fail
  | _ => M.fail
 | _, _ => M.fail
theorem Loc.opBytesToString (src dst : TypeId) (x : Value) : Loc (opBytesToString P src dst x) := by
 unfold Ab.opBytesToString
 repeat' split
 all_goals first
  | exact Loc.fail
  | (refine Loc.bind (Loc.cells _ _) fun c => ?_; split <;> first | exact Loc.fail | exact Loc.pure _)
theorem RA.bytes {x X : Array Value} (h : RA ρ x X) {ns : List Int} (hb : bytesOf x.toList = some ns) : X = (ns.map (Value.int .u8)).toArray := by
 have e := bytesOf_some hb
 apply Array.ext
 ·rw [← h.size, ← Array.length_toList, e]; simp
 ·intro i h1 h2
  have hi : i < ns.length := by simpa using h2
  have hx : x[i]? = some (.int .u8 ns[i]) := by rw [← Array.getElem?_toList, e]; simp [hi]
  have := h.at_ i _ X[i] hx (by simp [h1])
  have hh : ∀ Y, R ρ (.int .u8 ns[i]) Y → Y = .int .u8 ns[i] := fun Y hY => by cases hY; rfl
  rw [hh _ this]
  simp
theorem slice_addr {a : Addr} {n c : Nat} {X : Value} (h : R ρ (.slice (some a) n c) X) : ∃ A c', X = .slice (some A) n c' ∧ (AddrR ρ a A ∨ n = 0) ∧ a.spot = none := by
 cases h with
 | slice i off b κ n c off' c' h hn' hc ho =>
  rcases ho with ho | ho
  ·subst ho; exact ⟨_, c', rfl, .inl ⟨⟨κ, h⟩, rfl, rfl⟩, rfl⟩
  ·exact ⟨_, c', rfl, .inr (by omega), rfl⟩
theorem sim_opBytesToString (src dst : TypeId) {x X : Value} (hx : R ρ x X) : Sim P N ρ (opBytesToString P src dst x) (do Pure.pure (Next.value (← Go.convert src dst X)) : Sem Next) ORel := by
 unfold Ab.opBytesToString
 split
 next e hs hd =>
  split
  next he =>
   split
   next a n c =>
    obtain ⟨A, c', rfl, hA, _⟩ := slice_addr hx
    intro σ r σ' w hm hr hN hf
    obtain ⟨cs, σ1, m1, m2⟩ := bindM_some hm
    obtain ⟨ρ1, CS, w1, r1, ⟨hcs, _⟩, st⟩ := sim_cells (n := n) hA σ cs σ1 w m1 hr hN (by
     intro i h1 h2
     have : σ'.next = σ1.next := by
      cases hns : bytesOf cs.toList with
      | none => rw [hns] at m2; cases m2
      | some ns => rw [hns] at m2; obtain ⟨_, rfl⟩ := pureM_some m2; rfl
     exact hf i h1 (by omega))
    cases hns : bytesOf cs.toList with
    | none => rw [hns] at m2; cases m2
    | some ns =>
     rw [hns] at m2
     obtain ⟨rfl, rfl⟩ := pureM_some m2
     obtain rfl := hcs.bytes hns
     have hw : w1 = w := by
      have : ∀ (n : Nat) (i : Nat) (acc : Array Value) (w w1 : World) (X : Array Value), (loadCellsFrom A i n acc).run P w = .ok X w1 → w1 = w := by
       intro n
       induction n with
       | zero => intro i acc w w1 X h; simp only [loadCellsFrom, Sem.run_pure, Result.ok.injEq] at h; exact h.2.symm
       | succ n ih =>
        intro i acc w w1 X h
        simp only [loadCellsFrom, Sem.run_bind, run_load] at h
        cases hc : w.cell? (A.add i) with
        | some v => rw [hc] at h; exact ih _ _ _ _ _ h
        | none =>
         rw [hc] at h
         simp only at h
         cases hfl : w.farLoad P (A.add i) (Mode.plain == Mode.atomic) with
         | ok q => rw [hfl] at h; exact ih _ _ _ _ _ h
         | error q => rw [hfl] at h; simp at h
      exact this n 0 #[] w w1 _ r1
     subst hw
     refine ⟨ρ1, .value (.string (strOf ns)), w1, ?_, .val (.string _), st⟩
     have hrun := run_bytesToString (P := P) w1 A n c' ns r1
     simp only [Go.convert, Sem.run_bind, run_underlying' hs, run_underlying' hd, run_underlying' he, Result.andThen_ok, hrun, Sem.run_pure]
     rfl
   next => exact Sim.fail
  next => exact Sim.fail
 next => exact Sim.fail
end
end
end Go.Ab
end
