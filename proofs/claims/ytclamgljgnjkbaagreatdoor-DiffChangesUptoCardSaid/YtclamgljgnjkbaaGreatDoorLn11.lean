/-
  Part of the proof of DiffChangesUptoCardSaid: what Diff.Between says of two rows of leaves, Back turns and Apply takes, up to the bulk that the card names.
  A proof for this seat's program alone; the parts of the words that it needs were printed by the kit, and cut to what is used.
-/
import Derived.RangeFuncNested
import Derived.Test.YtclamgljgnjkbaaGreatDoorLn10
set_option linter.all false
section
namespace Go.Ab
open Go Go.RowKit
noncomputable section
section
variable {P : Program} {N : Nat}
theorem fat_atR (b : Frame) (T : Array Value) (D : List Deferred) (k : List Item) (h : b.kind = .normal) : fat b T D k = b.atR { tmps := T, defers := D } k := by
 cases b; simp only [fat, Frame.atR]
def CX (E : Env P) (N : Nat) (m : M TRes) (fn : FuncId) (ro : Option Nat) (ex : Ex) (t : Tm) (d : List Nat) (mid : List Item) : Prop :=
 ∀ σ r σ' ρ (b : Frame) T D w k cs m0, m σ = some (r, σ') → Pre E N ρ σ σ' w → b.fn = fn → RO ρ ro b.roundOf → RT ρ t T → DR ρ d D → Reach P m0 b (mid ++ k) cs ex T D w →
  ∃ ex' t' d' ρ' T' D' w', r = .code ex' t' d' ∧ RT ρ' t' T' ∧ DR ρ' d' D' ∧ Step P N ρ σ w ρ' σ' w' ∧ Reach P m0 b k cs ex' T' D' w'
section
variable {E : Env P} {fn : FuncId} {ro : Option Nat} {t : Tm} {d : List Nat}
theorem CX.code {m : M TRes} {c : Code} (h : SoundAt E N m (.code fn ro c t d)) : CX E N m fn ro .normal t d [.code c] := by
 intro σ r σ' ρ b T D w k cs m0 hm hp hb hr hT hD hs
 obtain ⟨ex, t', d', ρ', T', D', w', e, a1, a2, a3, a4⟩ := h σ r σ' ρ b T D w k cs hm hp hb hr hT hD
 exact ⟨ex, t', d', ρ', T', D', w', e, a1, a2, a3, Reach.of_steps hs a4⟩
theorem CX.again {m : M TRes} {c : Code} (h : SoundAt E N m (.again fn ro c t d)) : CX E N m fn ro .normal t d [.inLoop c] := by
 intro σ r σ' ρ b T D w k cs m0 hm hp hb hr hT hD hs
 obtain ⟨ex, t', d', ρ', T', D', w', e, a1, a2, a3, a4⟩ := h σ r σ' ρ b T D w k cs hm hp hb hr hT hD
 exact ⟨ex, t', d', ρ', T', D', w', e, a1, a2, a3, Reach.of_steps hs a4⟩
theorem CX.inScope {m : M TRes} {body c : Code} (h : SoundAt E N m (.inScope fn ro body c t d)) : CX E N m fn ro .normal t d [.code c, .inScope body] := by
 intro σ r σ' ρ b T D w k cs m0 hm hp hb hr hT hD hs
 obtain ⟨ex, t', d', ρ', T', D', w', e, a1, a2, a3, a4⟩ := h σ r σ' ρ b T D w k cs hm hp hb hr hT hD
 exact ⟨ex, t', d', ρ', T', D', w', e, a1, a2, a3, Reach.of_steps hs a4⟩
theorem CX.bind {m : M TRes} {f : TRes → M TRes} {ex : Ex} {pre mid : List Item} (hm : CX E N m fn ro ex t d pre) (lm : Loc m) (lf : ∀ r, Loc (f r))
  (hf : ∀ ex t1 d1, CX E N (f (.code ex t1 d1)) fn ro ex t1 d1 mid) : CX E N (M.bind m f) fn ro ex t d (pre ++ mid) := by
 intro σ r σ' ρ b T D w k cs m0 h hp hb hr hT hD hs
 obtain ⟨r1, σ1, m1, m2⟩ := bindM_some h
 obtain ⟨_, _, l1⟩ := lm _ _ _ m1
 obtain ⟨_, _, l2⟩ := lf _ _ _ _ m2
 rw [List.append_assoc] at hs
 obtain ⟨ex1, t1, d1, ρ1, T1, D1, w1, e, a1, a2, a3, a4⟩ := hm σ r1 σ1 ρ b T D w (mid ++ k) cs m0 m1 (hp.first l2.next_le) hb hr hT hD hs
 subst e
 obtain ⟨ex', t', d', ρ', T', D', w', e', c1, c2, c3, c4⟩ := hf ex1 t1 d1 σ1 r σ' ρ1 b T1 D1 w1 k cs m0 m2 (hp.next a3 l1.next_le l2.next_le) hb (hr.mono a3.le) a1 a2 a4
 exact ⟨ex', t', d', ρ', T', D', w', e', c1, c2, a3.trans c3 l1.next_le l2.next_le, c4⟩
theorem CX.move {m : M TRes} {pre pre' : List Item} (h : CX E N m fn ro .normal t d pre') (hs : ∀ (b : Frame) T D k cs w, step P (lone (fat b T D (pre ++ k)) cs w) = .next (lone (fat b T D (pre' ++ k)) cs w)) : CX E N m fn ro .normal t d pre := by
 intro σ r σ' ρ b T D w k cs m0 hm hp hb hr hT hD hs0
 exact h σ r σ' ρ b T D w k cs m0 hm hp hb hr hT hD (Steps.trans hs0 (.one (hs b T D k cs w)))
theorem CX.jump {m : M TRes} {c : Code} {pre pre' : List Item} (h : CX E N m fn ro .normal t d pre')
  (hj : ∀ k, jumpTo c (pre ++ k) = some (pre' ++ k)) (hs : ∀ (b : Frame) T D k k' cs w, jumpTo c k = some k' → step P (lone (fat b T D (.code c :: k)) cs w) = .next (lone (fat b T D k') cs w)) : CX E N m fn ro (.jump c) t d pre := by
 intro σ r σ' ρ b T D w k cs m0 hm hp hb hr hT hD hs0
 obtain ⟨_, k', e, s⟩ := hs0
 exact h σ r σ' ρ b T D w k cs m0 hm hp hb hr hT hD (Steps.trans s (.one (hs b T D k' _ cs w (by rw [e]; exact hj k))))
theorem CX.stay : CX E N (M.pure (.code .normal t d)) fn ro .normal t d [] := by
 intro σ r σ' ρ b T D w k cs m0 hm hp hb hr hT hD hs0
 obtain ⟨rfl, rfl⟩ := pureM_some hm
 exact ⟨_, _, _, ρ, T, D, w, rfl, hT, hD, Step.refl hp.rep, hs0⟩
theorem CX.fail {ex : Ex} {pre : List Item} : CX E N M.fail fn ro ex t d pre := by
 intro σ r σ' ρ b T D w k cs m0 hm
 cases hm
theorem CX.pass {c : Code} {mid : List Item} (h : ∀ k, jumpTo c (mid ++ k) = jumpTo c k) : CX E N (M.pure (.code (.jump c) t d)) fn ro (.jump c) t d mid := by
 intro σ r σ' ρ b T D w k cs m0 hm hp hb hr hT hD hs0
 obtain ⟨rfl, rfl⟩ := pureM_some hm
 obtain ⟨hj, k', e, s⟩ := hs0
 exact ⟨_, _, _, ρ, T, D, w, rfl, hT, hD, Step.refl hp.rep, hj, k', by rw [e, h], s⟩
theorem CX.leap {c : Code} (hj : isJump c = true) : CX E N (M.pure (.code (.jump c) t d)) fn ro .normal t d [.code c] := by
 intro σ r σ' ρ b T D w k cs m0 hm hp hb hr hT hD hs0
 obtain ⟨rfl, rfl⟩ := pureM_some hm
 exact ⟨_, _, _, ρ, T, D, w, rfl, hT, hD, Step.refl hp.rep, hj, k, rfl, hs0⟩
theorem jump_step {c : Code} (hc : isJump c = true) (b : Frame) (T : Array Value) (D : List Deferred) (k k' : List Item) (cs : List Frame) (w : World) (h : jumpTo c k = some k') : step P (lone (fat b T D (.code c :: k)) cs w) = .next (lone (fat b T D k') cs w) := by
 cases c with
 | exit id => exact st_exit h
 | goto l => exact st_goto h
 | _ => cases h
theorem CX.sound {m : M TRes} {c : Code} (h : CX E N m fn ro .normal t d [.code c]) : SoundAt E N m (.code fn ro c t d) := by
 intro σ r σ' ρ b T D w k cs hm hp hb hr hT hD
 exact h σ r σ' ρ b T D w k cs _ hm hp hb hr hT hD (Steps.refl _ _)
theorem CX.soundA {m : M TRes} {c : Code} (h : CX E N m fn ro .normal t d [.inLoop c]) : SoundAt E N m (.again fn ro c t d) := by
 intro σ r σ' ρ b T D w k cs hm hp hb hr hT hD
 exact h σ r σ' ρ b T D w k cs _ hm hp hb hr hT hD (Steps.refl _ _)
theorem CX.soundS {m : M TRes} {body c : Code} (h : CX E N m fn ro .normal t d [.code c, .inScope body]) : SoundAt E N m (.inScope fn ro body c t d) := by
 intro σ r σ' ρ b T D w k cs hm hp hb hr hT hD
 exact h σ r σ' ρ b T D w k cs _ hm hp hb hr hT hD (Steps.refl _ _)
end
section
variable {E : Env P} {rec : Task → M TRes} (hrec : ∀ x, SoundAt E N (rec x) x) (lrec : ∀ x, Loc (rec x)) {fn : FuncId} {ro : Option Nat} {t : Tm} {d : List Nat}
include hrec lrec
theorem thenSeq_sound {y : Code} (ex : Ex) (t : Tm) (d : List Nat) : CX E N (thenSeq rec fn ro y (.code ex t d)) fn ro ex t d [.code y] := by
 cases ex with
 | normal => exact CX.code (hrec _)
 | jump c => exact CX.pass fun k => by cases c <;> rfl
theorem thenAgain_sound {y : Code} (ex : Ex) (t : Tm) (d : List Nat) : CX E N (thenAgain rec fn ro y (.code ex t d)) fn ro ex t d [.inLoop y] := by
 cases ex with
 | normal => exact CX.again (hrec _)
 | jump c => exact CX.pass fun k => by cases c <;> rfl
theorem thenBlock_sound {id : Nat} (ex : Ex) (t : Tm) (d : List Nat) : CX E N (thenBlock id (.code ex t d)) fn ro ex t d [.inBlock id] := by
 cases ex with
 | normal => exact CX.move CX.stay fun b T D k cs w => st_inBlock
 | jump c =>
  cases c with
  | exit id' =>
   show CX E N (if id' = id then M.pure (.code .normal t d) else M.pure (.code (.jump (.exit id')) t d)) fn ro _ t d _
   split
   next h =>
    subst h
    exact CX.jump CX.stay (fun k => by show exitTo id' (.inBlock id' :: k) = _; simp [exitTo]) (fun b T D k k' cs w h => jump_step rfl b T D k k' cs w h)
   next h => exact CX.pass fun k => by show exitTo id' (.inBlock id :: k) = exitTo id' k; simp [exitTo, Ne.symm h]
  | _ => exact CX.pass fun k => rfl
theorem thenScope_sound {body : Code} (ex : Ex) (t : Tm) (d : List Nat) : CX E N (thenScope rec fn ro body (.code ex t d)) fn ro ex t d [.inScope body] := by
 cases ex with
 | normal => exact CX.move CX.stay fun b T D k cs w => st_inScope
 | jump c =>
  cases c with
  | goto l =>
   show CX E N (match findLabel body l with | some rest => rec (.inScope fn ro body rest t d) | none => M.pure (.code (.jump (.goto l)) t d)) fn ro _ t d _
   cases h : findLabel body l with
   | none => exact CX.pass fun k => by show gotoIn l (.inScope body :: k) = gotoIn l k; simp [gotoIn, h]
   | some rest =>
    exact CX.jump (CX.inScope (hrec _)) (fun k => by show gotoIn l (.inScope body :: k) = _; simp [gotoIn, h]) (fun b T D k k' cs w h => jump_step rfl b T D k k' cs w h)
  | _ => exact CX.pass fun k => rfl
theorem scope_sound {body c : Code} : CX E N (M.bind (rec (.code fn ro c t d)) (thenScope rec fn ro body)) fn ro .normal t d [.code c, .inScope body] := by
 refine CX.bind (pre := [.code c]) (mid := [.inScope body]) (CX.code (hrec _)) (lrec _) (fun r => ?_) (thenScope_sound hrec lrec)
 unfold thenScope; split
 ·split
  ·exact lrec _
  ·exact Loc.pure _
 ·exact Loc.pure _
theorem again_sound {c : Code} : CX E N (M.bind (rec (.code fn ro c t d)) (thenAgain rec fn ro c)) fn ro .normal t d [.code c, .inLoop c] := by
 refine CX.bind (pre := [.code c]) (mid := [.inLoop c]) (CX.code (hrec _)) (lrec _) (fun r => ?_) (thenAgain_sound hrec lrec)
 unfold thenAgain; split
 ·exact lrec _
 ·exact Loc.pure _
end
end
end
end Go.Ab
end
section
namespace Go.Ab
open Go Go.RowKit
noncomputable section
section
variable {P : Program} {N : Nat}
theorem fat_eq (b : Frame) (T : Array Value) (D : List Deferred) (k : List Item) : fat b T D k = b.atR { tmps := T, defers := D } k := by cases b; rfl
theorem setObj_run {w : World} {b : Nat} {o : Obj} (h : w.heap[b]? = some o) (hc : ∀ c e f, o ≠ .cells c e f) (o' : Obj) (hc' : ∀ c e f, o' ≠ .cells c e f) : (setObj b o').run P w = .ok () (w.putObj b o') := by
 simp [setObj, Sem.run, h, World.putObj]
theorem put_step {ρ : PMap} {σ σ' σ1 : St} {w : World} {l b κ : Nat} {o o' : AO} {O' : Obj} {u : Unit} (h1 : getM l σ = some (o, σ1)) (h2 : setM l o' σ1 = some (u, σ')) (hr : Rep P N ρ σ.heap w.heap)
  (hl : ρ l = some (b, κ)) (hro : o.ro = false) (hro' : o'.ro = false) (hm : AOM P ρ κ o' O') (hn : ¬ ∃ c e f, w.heap[b]? = some (.cells c e f)) : Step P N ρ σ w ρ σ' (w.putObj b O') ∧ σ'.next = σ.next := by
 obtain ⟨g1, g2, g3⟩ := getM_some h1
 obtain ⟨s1, s2, s3⟩ := setM_some h2
 have hN : N ≤ b := by
  obtain ⟨b', κ', O, e1, _, _, e4⟩ := hr.obj l o g1
  rw [hl] at e1; cases e1; exact e4 hro
 refine ⟨⟨PMap.le_refl _, fun _ _ e => .inl e, hr.put g1 hl hro hro' hm s2 (fun j hj => by rw [s3 j hj, g2]), rfl, rfl, rfl, by simp, fun k hk => World.putObj_heap_other (by omega)⟩, by rw [s1, g3]⟩
theorem loop_at {ρ : PMap} {h : T} {H : Array Obj} (hr : Rep P N ρ h H) {l b κ : Nat} {r : ALoop} (hg : h.get l = some (.loop r)) (hl : ρ l = some (b, κ)) : ∃ L, H[b]? = some (.loop L) ∧ RL ρ r L := by
 obtain ⟨b', κ', O, e1, e2, ⟨L, rfl, e3⟩, _⟩ := hr.obj l _ hg
 rw [hl] at e1; cases e1
 exact ⟨L, e2, e3⟩
def headSem (rb : Option Nat) : Sem (Nat × List Deferred) :=
 match rb with
 | some l => do Pure.pure ((← Instr.getLoop l).defers, [])
 | none => do Pure.pure ((fun r => (r, [{ target := .collected r, args := #[] }])) (← newObj (.deferred (some []))))
theorem enterLoop_run (fn : FuncId) (T : Array Value) (params : Array Tmp) (assign body : Code) (rb : Option Nat) (w : World) :
  (Instr.enterLoop fn T params assign body rb).run P w = (headSem rb >>= fun X => newObj (.loop { state := .ready, pending := none, fn, tmps := T, params, assign, body, defers := X.1 }) >>= fun l => Pure.pure (l, X.2)).run P w := by
 unfold Instr.enterLoop headSem
 cases rb <;> simp [Sem.run_bind, Sem.run_pure, Result.andThen_ok]
theorem sim_rangeHead {ρ : PMap} {ro rb : Option Nat} (hro : RO ρ ro rb) {d : List Nat} {D : List Deferred} (hD : DR ρ d D) :
  Sim P N ρ (rangeHead ro d) (headSem rb) (fun ρ' x X => (∃ κ, ρ' x.1 = some (X.1, κ)) ∧ DR ρ' x.2 (X.2 ++ D)) := by
 cases ro with
 | none =>
  cases rb with
  | some _ => exact hro.elim
  | none =>
   show Sim P N ρ (M.bind (newM (.deferred false)) fun r => M.pure (r, r :: d)) (newObj (.deferred (some [])) >>= fun r => (Pure.pure (r, [({ target := .collected r, args := #[] } : Deferred)]) : Sem (Nat × List Deferred))) _
   refine Sim.bind (Sim.new (κ := 0) (o := .deferred false) (O := .deferred (some [])) rfl) (Loc.new _) (fun _ => Loc.pure _) fun ρ' i b hle h => Sim.pure ?_
   exact ⟨⟨0, h⟩, ⟨⟨b, 0, h, rfl⟩, DR.mono hle hD⟩⟩
 | some l0 =>
  cases rb with
  | none => exact hro.elim
  | some b0 =>
   obtain ⟨κ, hl⟩ := hro
   refine Sim.quiet fun σ a σ' w hm hr => ?_
   unfold rangeHead at hm
   obtain ⟨o, σ1, g1, g2⟩ := bindM_some hm
   obtain ⟨g3, g4, _⟩ := getM_some g1
   cases o with
   | loop r0 =>
    obtain ⟨rfl, rfl⟩ := pureM_some g2
    obtain ⟨L, e1, e2⟩ := loop_at hr g3 hl
    obtain ⟨κ', e3⟩ := e2.defers
    exact ⟨fun i => by rw [g4], (L.defers, []), by simp only [headSem, Sem.run_bind, run_getLoop e1, Result.andThen_ok, Sem.run_pure], ⟨κ', e3⟩, hD⟩
   | _ => cases g2
theorem sim_enterLoop {ρ : PMap} {ro rb : Option Nat} (hro : RO ρ ro rb) {d : List Nat} {D : List Deferred} (hD : DR ρ d D) {fn : FuncId} {t : Tm} {T : Array Value} (hT : RT ρ t T) {params : Array Tmp} {assign body : Code} :
  Sim P N ρ (M.bind (rangeHead ro d) fun rd => M.bind (newM (.loop { state := .ready, pending := none, fn, tmps := t, params, assign, body, defers := rd.1 })) fun l => M.pure (l, rd.2)) (Instr.enterLoop fn T params assign body rb)
   (fun ρ' x X => (∃ κ, ρ' x.1 = some (X.1, κ)) ∧ DR ρ' x.2 (X.2 ++ D)) := by
 refine Sim.congr (Sim.bind (sim_rangeHead hro hD) (Loc.rangeHead _ _) (fun rd => Loc.bind (Loc.new _) fun _ => Loc.pure _) fun ρ' rd RD hle hh => ?_) (enterLoop_run _ _ _ _ _ _)
 obtain ⟨⟨κ, h1⟩, h2⟩ := hh
 refine Sim.bind (Sim.new (κ := 0) (O := .loop { state := .ready, pending := none, fn, tmps := T, params, assign, body, defers := RD.1 }) ⟨_, rfl, rfl, rfl, rfl, hT.mono hle, rfl, rfl, rfl, κ, h1⟩) (Loc.new _) (fun _ => Loc.pure _) fun ρ'' l L hle' h => ?_
 exact Sim.pure ⟨⟨0, h⟩, DR.mono hle' h2⟩
section
variable {E : Env P} {rec : Task → M TRes} (hrec : ∀ x, SoundAt E N (rec x) x) (lrec : ∀ x, Loc (rec x)) {fn : FuncId} {ro : Option Nat} {t : Tm} {d : List Nat}
include hrec lrec
theorem range_sound {f : Operand} {params : Array Tmp} {assign body : Code} : SoundAt E N (stRange P rec fn ro f params assign body t d) (.code fn ro (.rangeFunc f params assign body) t d) := by
 intro σ r σ' ρ b T D w k cs hm hp hb hro hT hD
 unfold stRange at hm
 cases hok : operandOk P f with
 | false => rw [hok] at hm; cases hm
 | true =>
 rw [hok] at hm
 simp only [cond_true] at hm
 obtain ⟨rd, σa, m1, m2⟩ := bindM_some hm
 obtain ⟨l, σ1, m3, m4⟩ := bindM_some m2
 have he : (M.bind (rangeHead ro d) fun rd => M.bind (newM (.loop { state := .ready, pending := none, fn, tmps := t, params, assign, body, defers := rd.1 })) fun l => M.pure (l, rd.2)) σ = some ((l, rd.2), σ1) := by
  unfold M.bind; rw [m1]; dsimp only; rw [m3]; rfl
 have le : Loc (M.bind (rangeHead ro d) fun rd => M.bind (newM (.loop { state := .ready, pending := none, fn, tmps := t, params, assign, body, defers := rd.1 })) fun l => M.pure (l, rd.2)) :=
  Loc.bind (Loc.rangeHead _ _) fun rd => Loc.bind (Loc.new _) fun _ => Loc.pure _
 obtain ⟨_, _, l1⟩ := le _ _ _ he
 obtain ⟨_, _, l2⟩ := Loc.rangeCall lrec _ _ _ _ _ _ _ m4
 obtain ⟨ρ1, X, w1, r1, ⟨⟨κ, hl⟩, hD1⟩, st1⟩ := sim_enterLoop hro hD (fn := fn) hT (params := params) (assign := assign) (body := body) σ _ σ1 w he hp.rep hp.size (hp.first l2.next_le).fresh
 obtain ⟨L, mark⟩ := X
 dsimp only at hl hD1
 have hp1 := hp.next st1 l1.next_le l2.next_le
 have hf : R ρ1 (evalT t f) (evalV T f) := evalT_R (hT.mono st1.le) st1.rep.glob hok
 unfold rangeCall at m4
 generalize hv : evalT t f = fv at m4 hf
 cases fv with
 | func fnv first captured =>
  cases fnv with
  | func g =>
   dsimp only at m4
   cases hg : P.funcs[g]? with
   | none => rw [hg] at m4; cases m4
   | some gf =>
   rw [hg] at m4
   dsimp only at m4
   by_cases hc : isNG gf = false ∧ gf.body.isSome = true
   ·rw [if_pos hc] at m4
    obtain ⟨rv, σ2, m5, m6⟩ := bindM_some m4
    obtain ⟨o, σ3, m7, m8⟩ := bindM_some m6
    obtain ⟨_, _, l3⟩ := lrec _ _ _ _ m5
    obtain ⟨_, _, l4⟩ := Loc.get l _ _ _ m7
    obtain ⟨_, _, l5⟩ := Loc.rangeTail _ _ _ _ _ _ _ m8
    generalize hFV : evalV T f = FV at hf
    cases hf with
    | func _ fn' _ x' _ y' hfn hx hy hx' hy' =>
    obtain rfl : fn' = .func g := hfn
    have hA : RA ρ1 (first ++ #[.func (.yield l) #[] #[]] ++ captured) (x' ++ #[.func (.yield L) #[] #[]] ++ y') :=
     (RA.append ⟨hx, hx'⟩ (RA.single (.func (.yield l) (.yield L) _ _ _ _ ⟨L, κ, hl, rfl⟩ rfl rfl (by simp) (by simp)))).append ⟨hy, hy'⟩
    obtain ⟨v, ρ2, V, w2, fr, e, hv2, st2, hs, _, hlv⟩ := hrec (.call g _) σ1 rv σ2 ρ1 _ w1 (b.atR { tmps := T, defers := mark ++ D } (.inRangeFunc L :: k) :: cs) m5 (hp1.first (Nat.le_trans l4.next_le l5.next_le)) hA
    have h1 : (gf.name == "runtime.NumGoroutine") = false := hc.1
    have h2 : gf.body.isNone = false := by rw [Option.isNone_eq_false_iff]; exact hc.2
    have hstep := stepR_rangeFunc (P := P) (b := b) (a := { tmps := T, defers := D }) (k := k) (cs := cs) (w := w) (g := f) (ps := params) (assign := assign) (body := body) (l := L) (mark := mark) (w₁ := w1) (w₁' := w1) (w₂ := w1)
     (d := { target := .fn (.func g) y', args := x' ++ #[.func (.yield L) #[] #[]] }) (f := g) (args := x' ++ #[.func (.yield L) #[] #[]] ++ y') (by rw [hb]; exact r1)
     (by
      have : Act.eval { tmps := T, defers := D } f = evalV T f := by cases f <;> rfl
      have h3 : ∀ q, Act.eval { tmps := T, defers := D } (.const q) = q := fun q => rfl
      simp [rangeCall, resolve, this, hFV, Deferred.ofValue, h3])
     (by simp only [invoke, callFunc, Sem.run_bind, run_program, Result.andThen_ok, hg, h1, h2, Bool.false_eq_true, if_false, Sem.run_pure])
    subst e
    obtain ⟨g3, g4, g5⟩ := getM_some m7
    unfold rangeTail at m8
    cases o with
    | loop r2 =>
     dsimp only at m8
     by_cases hbusy : r2.state = .busy
     ·rw [if_pos hbusy] at m8; cases m8
     ·rw [if_neg hbusy] at m8
      obtain ⟨u, σ4, m9, m10⟩ := bindM_some m8
      have hl2 := st2.le _ _ hl
      obtain ⟨L2, e1, e2⟩ := loop_at st2.rep g3 hl2
      obtain ⟨st3, n3⟩ := put_step (P := P) (N := N) (O' := .loop { L2 with state := .exhausted }) m7 m9 st2.rep hl2 rfl rfl
       ⟨_, rfl, rfl, e2.pending, e2.fn, e2.tmps, e2.params, e2.assign, e2.body, e2.defers⟩ (by rintro ⟨_, _, _, h⟩; rw [e1] at h; cases h)
      have hend := run_endLoop (P := P) e1 (by rw [e2.state]; exact hbusy)
      have s3 := stepR_endRangeFunc (P := P) (b := b) (a := { tmps := T, defers := mark ++ D }) (k := k) (cs := cs) hend
      have sall : Steps P (lone (fat b T D (.code (.rangeFunc f params assign body) :: k)) cs w) (lone (b.atR { tmps := T, defers := mark ++ D } ((L2.pending.map Item.code).toList ++ k)) cs (w2.putObj L (.loop { L2 with state := .exhausted }))) := by
       rw [fat_eq]
       refine .head hstep (hs.trans (.head (step_leave_returned hlv) ?_))
       rw [finish_atR_inRangeFunc]
       exact .one s3
      have stall := (st1.trans st2 l1.next_le l3.next_le).trans st3 (Nat.le_trans l1.next_le l3.next_le) (Nat.le_of_eq n3.symm)
      have hpe := e2.pending
      generalize hq : (w2.putObj L (.loop { L2 with state := .exhausted })) = w3 at sall stall
      rw [hpe] at sall
      cases hpend : r2.pending with
      | none =>
       rw [hpend] at m10 sall
       obtain ⟨rfl, rfl⟩ := pureM_some m10
       exact ⟨_, _, _, ρ2, T, mark ++ D, _, rfl, hT.mono (PMap.le_trans st1.le st2.le), hD1.mono st2.le, stall, by show Steps P _ _; rw [fat_eq b T (mark ++ D)]; exact sall⟩
      | some jc =>
       rw [hpend] at m10 sall
       dsimp only at m10
       cases hj : isJump jc with
       | false => rw [hj] at m10; cases m10
       | true =>
        rw [hj] at m10
        obtain ⟨rfl, rfl⟩ := pureM_some m10
        exact ⟨_, _, _, ρ2, T, mark ++ D, _, rfl, hT.mono (PMap.le_trans st1.le st2.le), hD1.mono st2.le, stall, hj, k, rfl, by rw [fat_eq b T (mark ++ D)]; exact sall⟩
    | _ => cases m8
   ·rw [if_neg hc] at m4; cases m4
  | _ => cases m4
 | _ => cases m4
end
end
end
end Go.Ab
end
