/-
  Part of the proof of DiffChangesUptoCardSaid: what Diff.Between says of two rows of leaves, Back turns and Apply takes, up to the bulk that the card names.
  A proof for this seat's program alone; the parts of the words that it needs were printed by the kit, and cut to what is used.
-/
import Derived.Test.YtclamgljgnjkbaaGreatDoorLn8
set_option linter.all false
section
namespace Go.Ab
open Go Go.RowKit
noncomputable section
section
variable {P : Program} {N : Nat} {ρ : PMap}
theorem evalT_R {t : Tm} {T : Array Value} (h : RT ρ t T) (hg : ∀ g, g < P.globals.size → ρ g = some (g, 0)) {x : Operand} (ho : operandOk P x = true) : R ρ (evalT t x) (evalV T x) := by
 cases x with
 | tmp i => exact h.at_ i
 | const v => exact scalar_R 4 ho
 | global g => exact .ptr ⟨g, 0, none⟩ g 0 (hg g (of_decide_eq_true ho))
 | func f => exact .func _ _ _ _ _ _ rfl rfl rfl (by simp) (by simp)
theorem boolOf_R {v V : Value} (h : R ρ v V) : boolOf V = boolOf v := by cases h <;> rfl
theorem yielded_eq {ops : Array Oper} {T : Array Value} (j : Nat) : yielded ops T j = match (ops[j]?).bind (·.dst) with | some d => boolOf (T.getD d undef) | none => none := by
 unfold yielded
 cases (ops[j]?).bind (·.dst) with
 | none => rfl
 | some d =>
  simp only [Option.bind_some, Array.getD_eq_getD_getElem?]
  cases hT : T[d]? with
  | none => rfl
  | some v => cases v <;> rfl
theorem yieldedT_R {ops : Array Oper} {t : Tm} {T : Array Value} (j : Nat) (h : ∀ d, (ops[j]?).bind (·.dst) = some d → R ρ (t.get d) (T.getD d undef)) : yieldedT ops t j = yielded ops T j := by
 rw [yielded_eq]
 unfold yieldedT
 cases hd : (ops[j]?).bind (·.dst) with
 | none => rfl
 | some d => exact (boolOf_R (h d hd)).symm
theorem sameB_eq (o : Option Bool) (b : Bool) : sameB o b = (o == some b) := by
 cases o with
 | none => rfl
 | some c => cases b <;> cases c <;> rfl
theorem wantedT_R {ops : Array Oper} {t : Tm} {T : Array Value} {o : Oper} (h : ∀ j p, o.guard = some (j, p) → ∀ d, (ops[j]?).bind (·.dst) = some d → R ρ (t.get d) (T.getD d undef)) :
  wantedT ops t o = Region.wanted o (yielded ops T) := by
 unfold wantedT Region.wanted
 cases hg : o.guard with
 | none => rfl
 | some p =>
  obtain ⟨j, want⟩ := p
  show sameB (yieldedT ops t j) want = _
  rw [sameB_eq, yieldedT_R j (h j want hg)]
theorem RT.put {t : Tm} {T : Array Value} (h : RT ρ t T) {dst : Option Tmp} {v V : Value} (hv : R ρ v V) (hd : ∀ d, dst = some d → d < 4000) : RT ρ (putM t dst v) (putT T dst V) := by
 cases dst with
 | none => exact h
 | some d => exact h.set d hv (.inl (hd d rfl))
def jumpTo : Code → List Item → Option (List Item)
 | .exit id, k => exitTo id k
 | .goto l, k => gotoIn l k
 | _, _ => none
def Reach (P : Program) (m : Machine) (b : Frame) (k : List Item) (cs : List Frame) (ex : Ex) (T : Array Value) (D : List Deferred) (w : World) : Prop :=
 match ex with
 | .normal => Steps P m (lone (fat b T D k) cs w)
 | .jump c => isJump c = true ∧ ∃ k', jumpTo c k' = jumpTo c k ∧ Steps P m (lone (fat b T D (.code c :: k')) cs w)
theorem Reach.of_steps {m m' : Machine} {b : Frame} {k : List Item} {cs : List Frame} {ex : Ex} {T : Array Value} {D : List Deferred} {w : World} (h : Steps P m m') (h' : Reach P m' b k cs ex T D w) : Reach P m b k cs ex T D w := by
 cases ex with
 | normal => exact h.trans h'
 | jump c => obtain ⟨a, k', e, s⟩ := h'; exact ⟨a, k', e, h.trans s⟩
def DR (ρ : PMap) : List Nat → List Deferred → Prop
 | [], [] => True
 | r :: d, x :: D => (∃ b κ, ρ r = some (b, κ) ∧ x = { target := .collected b, args := #[] }) ∧ DR ρ d D
 | _, _ => False
theorem DR.mono {ρ' : PMap} (hl : ρ.le ρ') : ∀ {d : List Nat} {D : List Deferred}, DR ρ d D → DR ρ' d D
 | [], [], _ => trivial
 | r :: d, x :: D, ⟨⟨b, κ, h1, h2⟩, h3⟩ => ⟨⟨b, κ, hl _ _ h1, h2⟩, DR.mono hl h3⟩
 | [], _ :: _, h => h.elim
 | _ :: _, [], h => h.elim
def RO (ρ : PMap) : Option Nat → Option Nat → Prop
 | none, none => True
 | some l, some b => ∃ κ, ρ l = some (b, κ)
 | _, _ => False
theorem RO.mono {ρ' : PMap} (hl : ρ.le ρ') {ro r : Option Nat} (h : RO ρ ro r) : RO ρ' ro r := by
 cases ro <;> cases r <;> first | exact h | (obtain ⟨κ, e⟩ := h; exact ⟨κ, hl _ _ e⟩)
structure Pre (E : Env P) (N : Nat) (ρ : PMap) (σ σ' : St) (w : World) : Prop where
 rep : Rep P N ρ σ.heap w.heap
 good : E.good w
 size : N ≤ w.heap.size
 fresh : ∀ i, σ.next ≤ i → i < σ'.next → ρ i = none
 gN : E.gN ≤ N
theorem Pre.next {E : Env P} {σ σ1 σ' : St} {w w1 : World} {ρ1 : PMap} (h : Pre E N ρ σ σ' w) (st : Step P N ρ σ w ρ1 σ1 w1) (n1 : σ.next ≤ σ1.next) (n2 : σ1.next ≤ σ'.next) : Pre E N ρ1 σ1 σ' w1 :=
 ⟨st.rep, E.good_below N w w1 h.gN h.good st.below, Nat.le_trans h.size st.below.size, fun i a b => by
  cases e : ρ1 i with
  | none => rfl
  | some x =>
   rcases st.dom i x e with q | ⟨_, q⟩
   ·rw [h.fresh i (by omega) b] at q; cases q
   ·omega, h.gN⟩
theorem Pre.first {E : Env P} {σ σ1 σ' : St} {w : World} (h : Pre E N ρ σ σ' w) (n2 : σ1.next ≤ σ'.next) : Pre E N ρ σ σ1 w :=
 ⟨h.rep, h.good, h.size, fun i a b => h.fresh i a (by omega), h.gN⟩
def SoundAt (E : Env P) (N : Nat) (m : M TRes) : Task → Prop
 | .call f args => ∀ σ r σ' ρ A w cs, m σ = some (r, σ') → Pre E N ρ σ σ' w → RA ρ args A →
   ∃ v ρ' V w' fr, r = .val v ∧ R ρ' v V ∧ Step P N ρ σ w ρ' σ' w' ∧ Steps P (lone (Frame.enter P f A .normal) cs w) (lone fr cs w') ∧ fr.fn = f ∧ fr.leaving P w' (.returned V)
 | .round l fn t assign body => ∀ σ r σ' ρ T w c cs b κ, m σ = some (r, σ') → Pre E N ρ σ σ' w → RT ρ t T → ρ l = some (b, κ) →
   ∃ v ρ' V w', r = .val v ∧ R ρ' v V ∧ Step P N ρ σ w ρ' σ' w' ∧ Steps P (lone (Frame.round b fn T assign body .normal) (c :: cs) w) (lone (c.finish V) cs w')
 | .code fn ro c t d => ∀ σ r σ' ρ (b : Frame) T D w k cs, m σ = some (r, σ') → Pre E N ρ σ σ' w → b.fn = fn → RO ρ ro b.roundOf → RT ρ t T → DR ρ d D →
   ∃ ex t' d' ρ' T' D' w', r = .code ex t' d' ∧ RT ρ' t' T' ∧ DR ρ' d' D' ∧ Step P N ρ σ w ρ' σ' w' ∧ Reach P (lone (fat b T D (.code c :: k)) cs w) b k cs ex T' D' w'
 | .again fn ro c t d => ∀ σ r σ' ρ (b : Frame) T D w k cs, m σ = some (r, σ') → Pre E N ρ σ σ' w → b.fn = fn → RO ρ ro b.roundOf → RT ρ t T → DR ρ d D →
   ∃ ex t' d' ρ' T' D' w', r = .code ex t' d' ∧ RT ρ' t' T' ∧ DR ρ' d' D' ∧ Step P N ρ σ w ρ' σ' w' ∧ Reach P (lone (fat b T D (.inLoop c :: k)) cs w) b k cs ex T' D' w'
 | .inScope fn ro body c t d => ∀ σ r σ' ρ (b : Frame) T D w k cs, m σ = some (r, σ') → Pre E N ρ σ σ' w → b.fn = fn → RO ρ ro b.roundOf → RT ρ t T → DR ρ d D →
   ∃ ex t' d' ρ' T' D' w', r = .code ex t' d' ∧ RT ρ' t' T' ∧ DR ρ' d' D' ∧ Step P N ρ σ w ρ' σ' w' ∧ Reach P (lone (fat b T D (.code c :: .inScope body :: k)) cs w) b k cs ex T' D' w'
theorem asVal_some {r : TRes} {σ σ' : St} {v : Value} (h : asVal r σ = some (v, σ')) : r = .val v ∧ σ = σ' := by
 cases r with
 | code => cases h
 | val u => obtain ⟨rfl, rfl⟩ := pureM_some h; exact ⟨rfl, rfl⟩
theorem doOp_sound {E : Env P} {rec : Task → M TRes} (hrec : ∀ x, SoundAt E N (rec x) x) (lrec : ∀ x, Loc (rec x)) {t : Tm} {T : Array Value} {ops : Array Oper} {i : Nat} {rest : List Nat} {o : Oper}
  {σ σ' : St} {v : Value} {w : World} {b : Frame} {D : List Deferred} {k : List Item} {cs : List Frame}
  (hm : doOp E rec t o σ = some (v, σ')) (hp : Pre E N ρ σ σ' w) (ho : ops[i]? = some o) (hw : Region.wanted o (yielded ops T) = true) (hR : ∀ x ∈ o.op.operands, R ρ (evalT t x) (evalV T x)) :
  ∃ ρ' V w', R ρ' v V ∧ Step P N ρ σ w ρ' σ' w' ∧ Steps P (lone (fat b T D (.inRegion ops (i :: rest) :: k)) cs w) (lone (fat b (putT T o.dst V) D (.inRegion ops rest :: k)) cs w') := by
 unfold doOp at hm
 obtain ⟨r, σ1, m1, m2⟩ := bindM_some hm
 obtain ⟨_, _, l1⟩ := Loc.evalOp E (evalT t) o _ _ _ m1
 have hd : ∀ c, o.op ≠ .defer c := by
  intro c e
  unfold evalOp at m1
  rw [e] at m1
  cases m1
 have n2 : σ1.next ≤ σ'.next := by
  cases r with
  | val u => obtain ⟨_, rfl⟩ := pureM_some m2; exact Nat.le_refl _
  | skip => obtain ⟨_, rfl⟩ := pureM_some m2; exact Nat.le_refl _
  | call f a =>
   obtain ⟨r2, σ2, m3, m4⟩ := bindM_some m2
   obtain ⟨_, rfl⟩ := asVal_some m4
   obtain ⟨_, _, l2⟩ := lrec _ _ _ _ m3
   exact l2.next_le
  | round l fn t a b =>
   obtain ⟨r2, σ2, m3, m4⟩ := bindM_some m2
   obtain ⟨_, rfl⟩ := asVal_some m4
   obtain ⟨_, _, l2⟩ := lrec _ _ _ _ m3
   exact l2.next_le
 obtain ⟨ρ1, nx, w1, r1, hrel, st1⟩ := sim_evalOp (P := P) (N := N) E hR σ r σ1 w m1 hp.rep hp.size (hp.first n2).fresh
 cases hrel with
 | val h =>
  obtain ⟨rfl, rfl⟩ := pureM_some m2
  exact ⟨ρ1, _, w1, h, st1, .one (st_val ho hw hd r1)⟩
 | skip =>
  obtain ⟨rfl, rfl⟩ := pureM_some m2
  exact ⟨ρ1, _, w1, R.undef _, st1, .one (st_skipOp ho hw hd r1)⟩
 | call h =>
  obtain ⟨r2, σ2, m3, m4⟩ := bindM_some m2
  obtain ⟨rfl, rfl⟩ := asVal_some m4
  obtain ⟨v', ρ2, V, w2, fr, e, hv, st2, hs, _, hl⟩ := hrec (.call _ _) _ _ _ _ _ _ (fat b T D (.inRegion ops (i :: rest) :: k) :: cs) m3 (hp.next st1 l1.next_le n2) h
  cases e
  refine ⟨ρ2, V, w2, hv, st1.trans st2 l1.next_le n2, .head (st_enter ho hw hd r1) (hs.trans (.one ?_))⟩
  rw [step_leave_returned hl, finish_fat, ho]
  rfl
 | round hl h =>
  obtain ⟨r2, σ2, m3, m4⟩ := bindM_some m2
  obtain ⟨rfl, rfl⟩ := asVal_some m4
  obtain ⟨v', ρ2, V, w2, e, hv, st2, hs⟩ := hrec (.round _ _ _ _ _) _ _ _ _ _ _ (fat b T D (.inRegion ops (i :: rest) :: k)) cs _ _ m3 (hp.next st1 l1.next_le n2) h hl
  cases e
  refine ⟨ρ2, V, w2, hv, st1.trans st2 l1.next_le n2, .head (st_round ho hw hd r1) ?_⟩
  rw [finish_fat, ho] at hs
  exact hs
theorem opsOk_at {ops : Array Oper} (h : opsOk P ops = true) {i : Nat} {o : Oper} (ho : ops[i]? = some o) : (∀ x ∈ o.op.operands, operandOk P x = true) ∧ ∀ d, o.dst = some d → d < 4000 := by
 unfold opsOk at h
 rw [Array.all_eq_true'] at h
 have := h o (Array.mem_of_getElem? ho)
 rw [Bool.and_eq_true] at this
 refine ⟨fun x hx => ?_, fun d hd => ?_⟩
 ·have h1 := this.1
  rw [Array.all_eq_true'] at h1
  exact h1 x hx
 ·have h2 := this.2
  rw [hd] at h2
  exact blt_lt h2
theorem evOps_sound {E : Env P} {rec : Task → M TRes} (hrec : ∀ x, SoundAt E N (rec x) x) (lrec : ∀ x, Loc (rec x)) {ops : Array Oper} (hok : opsOk P ops = true) {b : Frame} {D : List Deferred} {k : List Item} {cs : List Frame} :
  ∀ (l : List Nat) (t t' : Tm) (T : Array Value) (ρ : PMap) (σ σ' : St) (w : World), evOps E rec ops l t σ = some (t', σ') → Pre E N ρ σ σ' w → RT ρ t T →
   ∃ ρ' T' w', RT ρ' t' T' ∧ Step P N ρ σ w ρ' σ' w' ∧ Steps P (lone (fat b T D (.inRegion ops l :: k)) cs w) (lone (fat b T' D (.inRegion ops [] :: k)) cs w') := by
 intro l
 induction l with
 | nil =>
  intro t t' T ρ σ σ' w hm hp ht
  obtain ⟨rfl, rfl⟩ := pureM_some hm
  exact ⟨ρ, T, w, ht, Step.refl hp.rep, .refl _ _⟩
 | cons i rest ih =>
  intro t t' T ρ σ σ' w hm hp ht
  have hm' : (Option.rec (motive := fun _ => M Tm) M.fail (fun o => evOp1 E rec ops (evOps E rec ops rest) t o) (ops[i]?) : M Tm) σ = some (t', σ') := hm
  cases ho : ops[i]? with
  | none => rw [ho] at hm'; cases hm'
  | some o =>
   rw [ho] at hm'
   obtain ⟨ok1, ok2⟩ := opsOk_at hok ho
   have hwant := wantedT_R (ρ := ρ) (ops := ops) (t := t) (T := T) (o := o) (fun _ _ _ d _ => ht.at_ d)
   have hm2 : evOp1 E rec ops (evOps E rec ops rest) t o σ = some (t', σ') := hm'
   unfold evOp1 at hm2
   cases hw : wantedT ops t o with
   | false =>
    rw [hw] at hm2 hwant
    obtain ⟨ρ', T', w', h1, h2, h3⟩ := ih _ _ _ _ _ _ _ hm2 hp (ht.put (R.undef _) ok2)
    exact ⟨ρ', T', w', h1, h2, .head (st_opSkip ho hwant.symm) h3⟩
   | true =>
    rw [hw] at hm2 hwant
    obtain ⟨v, σ1, m1, m2⟩ := bindM_some hm2
    obtain ⟨_, _, l1⟩ := Loc.doOp E lrec t o _ _ _ m1
    obtain ⟨_, _, l2⟩ := Loc.evOps E lrec ops rest _ _ _ _ m2
    obtain ⟨ρ1, V, w1, hv, st1, s1⟩ := doOp_sound hrec lrec (T := T) (b := b) (D := D) (k := k) (cs := cs) (rest := rest) m1 (hp.first l2.next_le) ho hwant.symm (fun x hx => evalT_R ht hp.rep.glob (ok1 x hx))
    obtain ⟨ρ', T', w', h1, h2, h3⟩ := ih _ _ _ _ _ _ _ m2 (hp.next st1 l1.next_le l2.next_le) ((ht.mono st1.le).put hv ok2)
    exact ⟨ρ', T', w', h1, st1.trans h2 l1.next_le l2.next_le, s1.trans h3⟩
end
end
end Go.Ab
end
section
namespace Go.Ab
open Go Go.RowKit
noncomputable section
section
variable {P : Program} {N : Nat}
inductive Ahead (ops : Array Oper) : Nat → Nat → Prop
  | edge {i : Nat} {o : Oper} {e : Edge} (ho : ops[i]? = some o) (he : e ∈ o.after) (hb : Region.binds .any e = true) : Ahead ops i e.on
  | step {i j : Nat} {o : Oper} {e : Edge} (ho : ops[i]? = some o) (he : e ∈ o.after) (hb : Region.binds .any e = true) (h : Ahead ops e.on j) : Ahead ops i j
theorem maskOf_ahead {ops : Array Oper} {acc : Array Nat} (hacc : ∀ i j, i < acc.size → (acc.getD i 0).testBit j = true → Ahead ops i j) {i : Nat} {o : Oper} (ho : ops[i]? = some o) {j : Nat}
    (h : (maskOf acc o).testBit j = true) : Ahead ops i j := by
  unfold maskOf at h
  have key : ∀ (l : List Edge) (s : Nat), (∀ e ∈ l, e ∈ o.after) → (∀ j, s.testBit j = true → Ahead ops i j) →
      ∀ j, (l.foldl (fun s e => if Region.binds .any e then s ||| 2 ^ e.on ||| acc.getD e.on 0 else s) s).testBit j = true → Ahead ops i j := by
    intro l
    induction l with
    | nil => intro s _ hs j hj; exact hs j hj
    | cons e l ih =>
      intro s hl hs j hj
      simp only [List.foldl_cons] at hj
      refine ih _ (fun x hx => hl x (by simp [hx])) ?_ j hj
      intro j hj
      split at hj
      next hb =>
        rw [Nat.testBit_or, Nat.testBit_or, Bool.or_eq_true, Bool.or_eq_true] at hj
        rcases hj with (hj | hj) | hj
        · exact hs j hj
        · obtain rfl := pow_true hj
          exact .edge ho (hl e (by simp)) hb
        · refine .step ho (hl e (by simp)) hb ?_
          by_cases hlt : e.on < acc.size
          · exact hacc _ _ hlt hj
          · simp [hlt] at hj
      next => exact hs j hj
  exact key _ 0 (fun e he => by simpa using he) (fun j hj => by simp at hj) j h
theorem befGo_ahead {ops : Array Oper} : ∀ (l : List Oper) (acc : Array Nat), (∀ k o, l[k]? = some o → ops[acc.size + k]? = some o) → (∀ i j, i < acc.size → (acc.getD i 0).testBit j = true → Ahead ops i j) →
    ∀ i j, ((befGo l acc).getD i 0).testBit j = true → Ahead ops i j := by
  intro l
  induction l with
  | nil =>
    intro acc _ hacc i j h
    by_cases hi : i < acc.size
    · exact hacc i j hi h
    · simp [befGo, hi] at h
  | cons o l ih =>
    intro acc hl hacc i j h
    refine ih (acc.push (maskOf acc o)) (fun k o' hk => ?_) ?_ i j h
    · have := hl (k + 1) o' (by simpa using hk)
      rw [Array.size_push, show acc.size + 1 + k = acc.size + (k + 1) by omega]; exact this
    · intro i j hi hj
      rw [Array.size_push] at hi
      by_cases he : i = acc.size
      · subst he
        have : (acc.push (maskOf acc o)).getD acc.size 0 = maskOf acc o := by simp
        rw [this] at hj
        exact maskOf_ahead hacc (by have := hl 0 o rfl; simpa using this) hj
      · have hlt : i < acc.size := by omega
        have : (acc.push (maskOf acc o)).getD i 0 = acc.getD i 0 := by
          simp only [Array.getD_eq_getD_getElem?, Array.getElem?_push, if_neg he]
        rw [this] at hj
        exact hacc i j hlt hj
theorem befs_ahead {ops : Array Oper} {i j : Nat} (h : ((befs ops).getD i 0).testBit j = true) : Ahead ops i j :=
  befGo_ahead ops.toList #[] (fun k o hk => by simpa using hk) (fun i j hi => by simp at hi) i j h
def Down (ops : Array Oper) (listed : Array Bool) : Prop := ∀ j o, ops[j]? = some o → listed.getD j false = true → ∀ e ∈ o.after, Region.binds .any e = true → listed.getD e.on false = true
theorem Down.ahead {ops : Array Oper} {listed : Array Bool} (h : Down ops listed) {i j : Nat} (ha : Ahead ops i j) : listed.getD i false = true → listed.getD j false = true := by
  induction ha with
  | edge ho he hb => intro hi; exact h _ _ ho hi _ he hb
  | step ho he hb _ ih => intro hi; exact ih (h _ _ ho hi _ he hb)
theorem Ahead.of_ready {ops : Array Oper} {listed : Array Bool} (h : Down ops listed) {i j : Nat} {o : Oper} (ho : ops[i]? = some o) (hr : ∀ e ∈ o.after, Region.binds .any e = true → listed.getD e.on false = true)
    (ha : Ahead ops i j) : listed.getD j false = true := by
  cases ha with
  | edge ho' he hb => rw [ho] at ho'; cases ho'; exact hr _ he hb
  | step ho' he hb ha => rw [ho] at ho'; cases ho'; exact h.ahead ha (hr _ he hb)
def unl : Nat → Array Bool → Nat
  | 0, _ => 0
  | m + 1, L => unl m L + (if L.getD m true = true then 0 else 1)
theorem getD_set_ne' {L : Array Bool} {i j : Nat} (d : Bool) (h : i ≠ j) : (L.setIfInBounds i true).getD j d = L.getD j d := by
  simp only [Array.getD_eq_getD_getElem?, Array.getElem?_setIfInBounds, if_neg h]
theorem unl_set_ge : ∀ (m : Nat) (L : Array Bool) (j : Nat), m ≤ j → unl m (L.setIfInBounds j true) = unl m L
  | 0, _, _, _ => rfl
  | m + 1, L, j, h => by
    simp only [unl]
    rw [unl_set_ge m L j (by omega), getD_set_ne' _ (by omega)]
theorem unl_set : ∀ (m : Nat) (L : Array Bool) (j : Nat), j < m → L.getD j true = false → unl m (L.setIfInBounds j true) + 1 = unl m L
  | 0, _, _, h, _ => absurd h (by omega)
  | m + 1, L, j, h, hj => by
    simp only [unl]
    by_cases e : j = m
    · subst e
      have hlt : j < L.size := by
        rcases Nat.lt_or_ge j L.size with h' | h'
        · exact h'
        · simp [Nat.not_lt.2 h'] at hj
      rw [unl_set_ge j L j (Nat.le_refl _), hj]
      simp [hlt]
    · have := unl_set m L j (by omega) hj
      rw [getD_set_ne' _ e]
      omega
theorem unl_zero : ∀ (m : Nat) (L : Array Bool), unl m L = 0 → ∀ i, i < m → L.getD i true = true
  | 0, _, _, i, h => absurd h (by omega)
  | m + 1, L, h, i, hi => by
    simp only [unl] at h
    by_cases e : i = m
    · subst e
      cases hL : L.getD i true with
      | true => rfl
      | false => rw [hL] at h; simp at h
    · exact unl_zero m L (by omega) i (by omega)
theorem unl_pos : ∀ (m : Nat) (L : Array Bool), 0 < unl m L → ∃ i, i < m ∧ L.getD i true = false ∧ ∀ j, j < i → L.getD j true = true
  | 0, _, h => absurd h (by simp [unl])
  | m + 1, L, h => by
    by_cases h0 : 0 < unl m L
    · obtain ⟨i, h1, h2, h3⟩ := unl_pos m L h0
      exact ⟨i, by omega, h2, h3⟩
    · refine ⟨m, by omega, ?_, fun j hj => unl_zero m L (by omega) j hj⟩
      simp only [unl] at h
      cases hL : L.getD m true with
      | false => rfl
      | true => rw [hL] at h; simp at h; omega
theorem unl_all : ∀ (m : Nat), unl m (Array.replicate m false) = m := by
  intro m
  have : ∀ k, k ≤ m → unl k (Array.replicate m false) = k := by
    intro k
    induction k with
    | zero => intro _; rfl
    | succ k ih =>
      intro h
      have e : (Array.replicate m false).getD k true = false := by simp [show k < m by omega]
      simp only [unl]; rw [ih (by omega), e]; simp
  exact this m (Nat.le_refl _)
structure Txt (E : Env P) (rec : Task → M TRes) (ops : Array Oper) (ts : Nat → Tm) (ss : Nat → St) (ft : Nat → Nat × Nat) (a n : Nat) : Prop where
  at_ : ∀ k, a ≤ k → k < n → ∃ o, ops[k]? = some o ∧
    ((wantedT ops (ts k) o = true ∧ ∃ v, footM (doOp E rec (ts k) o) (ss k) = some ((v, ft k), ss (k + 1)) ∧ ts (k + 1) = putM (ts k) o.dst v) ∨
     (wantedT ops (ts k) o = false ∧ ss (k + 1) = ss k ∧ ft k = (0, 0) ∧ ts (k + 1) = putM (ts k) o.dst undef))
  apart : ∀ i k, a ≤ i → i < k → k < n → ((befs ops).getD k 0).testBit i = true ∨ clash (ft k) (ft i) = false
theorem clash_zero_left (b : Nat × Nat) : clash (0, 0) b = false := by simp [clash]
theorem clash_zero_right (a : Nat × Nat) : clash a (0, 0) = false := by simp [clash]
theorem evDraw_txt {E : Env P} {rec : Task → M TRes} {ops : Array Oper} : ∀ (m a : Nat) (prev : List (Nat × (Nat × Nat))) (t t' : Tm) (σ σ' : St),
    evDraw E rec ops (befs ops) (List.range' a m) prev t σ = some (t', σ') →
    ∃ ts ss ft, ts a = t ∧ ss a = σ ∧ ts (a + m) = t' ∧ ss (a + m) = σ' ∧ Txt E rec ops ts ss ft a (a + m) ∧
      ∀ p ∈ prev, ∀ k, a ≤ k → k < a + m → ((befs ops).getD k 0).testBit p.1 = true ∨ clash (ft k) p.2 = false := by
  intro m
  induction m with
  | zero =>
    intro a prev t t' σ σ' h
    obtain ⟨rfl, rfl⟩ := pureM_some h
    exact ⟨fun _ => t, fun _ => σ, fun _ => (0, 0), rfl, rfl, rfl, rfl, ⟨fun k h1 h2 => by omega, fun i k h1 h2 h3 => by omega⟩, fun p hp k h1 h2 => by omega⟩
  | succ m ih =>
    intro a prev t t' σ σ' h
    rw [List.range'_succ] at h
    unfold evDraw at h
    cases ho : ops[a]? with
    | none => rw [ho] at h; cases h
    | some o =>
      rw [ho] at h
      dsimp only at h
      have join : ∀ (t1 : Tm) (σ1 : St) (f : Nat × Nat) (prev' : List (Nat × (Nat × Nat))), evDraw E rec ops (befs ops) (List.range' (a + 1) m) prev' t1 σ1 = some (t', σ') →
          (∀ p ∈ prev, p ∈ prev') → ((a, f) ∈ prev' ∨ f = (0, 0)) →
          ((wantedT ops t o = true ∧ ∃ v, footM (doOp E rec t o) σ = some ((v, f), σ1) ∧ t1 = putM t o.dst v) ∨ (wantedT ops t o = false ∧ σ1 = σ ∧ f = (0, 0) ∧ t1 = putM t o.dst undef)) →
          (∀ p ∈ prev, ((befs ops).getD a 0).testBit p.1 = true ∨ clash f p.2 = false) →
          ∃ ts ss ft, ts a = t ∧ ss a = σ ∧ ts (a + (m + 1)) = t' ∧ ss (a + (m + 1)) = σ' ∧ Txt E rec ops ts ss ft a (a + (m + 1)) ∧
            ∀ p ∈ prev, ∀ k, a ≤ k → k < a + (m + 1) → ((befs ops).getD k 0).testBit p.1 = true ∨ clash (ft k) p.2 = false := by
        intro t1 σ1 f prev' h1 hsub hin hstep hpa
        obtain ⟨ts, ss, ft, e1, e2, e3, e4, htxt, hprev⟩ := ih (a + 1) prev' t1 t' σ1 σ' h1
        refine ⟨fun k => if k = a then t else ts k, fun k => if k = a then σ else ss k, fun k => if k = a then f else ft k, if_pos rfl, if_pos rfl, ?_, ?_, ⟨fun k k1 k2 => ?_, fun i k k1 k2 k3 => ?_⟩, fun p hp k k1 k2 => ?_⟩
        · simp only [if_neg (show ¬ (a + (m + 1) = a) by omega)]; rw [show a + (m + 1) = a + 1 + m by omega]; exact e3
        · simp only [if_neg (show ¬ (a + (m + 1) = a) by omega)]; rw [show a + (m + 1) = a + 1 + m by omega]; exact e4
        · by_cases hk : k = a
          · subst hk
            simp only [if_true, if_neg (Nat.succ_ne_self k)]
            rw [e1, e2]
            exact ⟨o, ho, hstep⟩
          · simp only [if_neg hk, if_neg (show k + 1 ≠ a by omega)]
            exact htxt.at_ k (by omega) (by omega)
        · by_cases hi : i = a
          · subst hi
            simp only [if_neg (show k ≠ i by omega), if_true]
            rcases hin with hin | rfl
            · exact hprev (i, f) hin k (by omega) (by omega)
            · exact .inr (clash_zero_right _)
          · simp only [if_neg hi, if_neg (show k ≠ a by omega)]
            exact htxt.apart i k (by omega) k2 (by omega)
        · by_cases hk : k = a
          · subst hk; simp only [if_true]; exact hpa p hp
          · simp only [if_neg hk]; exact hprev p (hsub p hp) k (by omega) (by omega)
      cases hw : wantedT ops t o with
      | false =>
        simp only [hw, cond_false] at h
        exact join _ σ (0, 0) prev h (fun p hp => hp) (.inr rfl) (.inr ⟨hw, rfl, rfl, rfl⟩) (fun p hp => .inr (clash_zero_left _))
      | true =>
        simp only [hw, cond_true] at h
        obtain ⟨⟨v, f⟩, σ1, m1, m2⟩ := bindM_some h
        cases hall : prev.all (fun p => ((befs ops).getD a 0).testBit p.1 || !clash f p.2) with
        | false => simp only [hall, cond_false] at m2; cases m2
        | true =>
          simp only [hall, cond_true] at m2
          refine join _ σ1 f ((a, f) :: prev) m2 (fun p hp => by simp [hp]) (.inl (by simp)) (.inl ⟨hw, v, m1, rfl⟩) (fun p hp => ?_)
          rw [List.all_eq_true] at hall
          have := hall p hp
          rw [Bool.or_eq_true] at this
          rcases this with h | h
          · exact .inl h
          · exact .inr (by simpa using h)
end
end
end Go.Ab
end
