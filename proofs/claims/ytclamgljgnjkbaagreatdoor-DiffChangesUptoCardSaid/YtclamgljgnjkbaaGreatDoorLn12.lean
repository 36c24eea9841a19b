/-
  Part of the proof of DiffChangesUptoCardSaid: what Diff.Between says of two rows of leaves, Back turns and Apply takes, up to the bulk that the card names.
  A proof for this seat's program alone; the parts of the words that it needs were printed by the kit, and cut to what is used.
-/
import Derived.Test.YtclamgljgnjkbaaGreatDoorLn11
set_option linter.all false
section
namespace Go.Ab
open Go Go.RowKit
noncomputable section
section
variable {P : Program} {N : Nat}
def gone (b : Frame) (T : Array Value) (D : List Deferred) (k : List Item) : Frame := { fat b T D k with mode := .returning }
theorem st_end {b : Frame} {T : Array Value} {D : List Deferred} {cs : List Frame} {w : World} (hb : b.roundOf = none) : step P (lone (fat b T D []) cs w) = .next (lone (gone b T D []) cs w) := by
 rw [fat_eq]; exact (stepR_end hb).trans (by unfold gone; rw [fat_eq])
theorem st_ret {b : Frame} {T : Array Value} {D : List Deferred} {k : List Item} {cs : List Frame} {w : World} (hb : b.roundOf = none) : step P (lone (fat b T D (.code .ret :: k)) cs w) = .next (lone (gone b T D (.code .ret :: k)) cs w) := by
 rw [fat_eq]; exact (stepR_ret hb).trans (by unfold gone; rw [fat_eq])
theorem st_take {b : Frame} {T : Array Value} {D : List Deferred} {k : List Item} {cs : List Frame} {w : World} {blk : Nat} (h : w.heap[blk]? = some (.deferred (some []))) :
  step P (lone (gone b T ({ target := .collected blk, args := #[] } :: D) k) cs w) = .next (lone (gone b T D k) cs (w.putObj blk (.deferred none))) :=
 step_lone_go (by simp [stepG, unwind, gone, fat, Sem.runT_eq, run_takeDeferred h, GStep.bare_after])
theorem drop_sound {ρ : PMap} {b : Frame} {T : Array Value} {k : List Item} {cs : List Frame} : ∀ (d : List Nat) (D : List Deferred) (σ σ' : St) (w : World) (u : Unit), dropDefers d σ = some (u, σ') → Rep P N ρ σ.heap w.heap → DR ρ d D →
  ∃ w', Step P N ρ σ w ρ σ' w' ∧ Steps P (lone (gone b T D k) cs w) (lone (gone b T [] k) cs w') := by
 intro d
 induction d with
 | nil =>
  intro D σ σ' w u hm hr hD
  cases D with
  | cons _ _ => exact hD.elim
  | nil =>
   obtain ⟨_, rfl⟩ := pureM_some hm
   exact ⟨w, Step.refl hr, .refl _ _⟩
 | cons r d ih =>
  intro D σ σ' w u hm hr hD
  cases D with
  | nil => exact hD.elim
  | cons x D =>
   obtain ⟨⟨blk, κ, hl, rfl⟩, hD⟩ := hD
   unfold dropDefers at hm
   obtain ⟨o, σ1, m1, m2⟩ := bindM_some hm
   obtain ⟨g1, g2, g3⟩ := getM_some m1
   cases o with
   | deferred tk =>
    cases tk with
    | true => cases m2
    | false =>
     obtain ⟨u2, σ2, m3, m4⟩ := bindM_some m2
     obtain ⟨b', κ', O, e1, e2, e3, _⟩ := hr.obj r _ g1
     rw [hl] at e1; cases e1
     have e3 : O = .deferred (some []) := e3
     subst e3
     obtain ⟨st, nx⟩ := put_step (P := P) (N := N) (κ := κ) (O' := .deferred none) m1 m3 hr hl rfl rfl rfl (by rintro ⟨_, _, _, h⟩; rw [e2] at h; cases h)
     obtain ⟨w', st', hs⟩ := ih D σ2 σ' _ u m4 st.rep hD
     obtain ⟨_, _, l2⟩ := Loc.dropDefers d _ _ _ m4
     exact ⟨w', st.trans st' (Nat.le_of_eq nx.symm) l2.next_le, .head (st_take e2) hs⟩
   | _ => cases m2
theorem results_sound {ρ : PMap} {t : Tm} {T : Array Value} (hT : RT ρ t T) {w : World} : ∀ (rs : List ResultVar) (σ σ' : St) (l : List Value), readResults P t rs σ = some (l, σ') → Rep P N ρ σ.heap w.heap →
  (∀ i, σ'.heap.get i = σ.heap.get i) ∧ ∃ L, (rs.mapM (fun | .tmp t => Pure.pure (T.getD t undef) | .cell a t => do loadVar t (← asAddr (T.getD a undef)) : ResultVar → Sem Value)).run P w = .ok L w ∧ RLs ρ l L := by
 intro rs
 induction rs with
 | nil =>
  intro σ σ' l hm hr
  obtain ⟨rfl, rfl⟩ := pureM_some hm
  exact ⟨fun _ => rfl, [], rfl, rfl, fun i v V h => by simp at h⟩
 | cons x rs ih =>
  intro σ σ' l hm hr
  have cons : ∀ {v V : Value} {l' L' : List Value}, R ρ v V → RLs ρ l' L' → RLs ρ (v :: l') (V :: L') := by
   intro v V l' L' h k
   refine ⟨by simp [k.1], fun i a A e1 e2 => ?_⟩
   cases i with
   | zero => simp at e1 e2; rw [← e1, ← e2]; exact h
   | succ i => simp at e1 e2; exact k.2 i a A e1 e2
  cases x with
  | tmp i =>
   unfold readResults at hm
   obtain ⟨l', σ1, m1, m2⟩ := bindM_some hm
   obtain ⟨rfl, rfl⟩ := pureM_some m2
   obtain ⟨e, L, r, h⟩ := ih σ _ l' m1 hr
   exact ⟨e, T.getD i undef :: L, by simp only [List.mapM_cons, Sem.run_bind, Sem.run_pure, Result.andThen_ok, r], cons (hT.at_ i) h⟩
  | cell a ty =>
   unfold readResults at hm
   have ha := hT.at_ a
   generalize hv : t.get a = v at hm ha
   split at hm
   next adr =>
    obtain ⟨v1, σ1, m1, m2⟩ := bindM_some hm
    obtain ⟨l', σ2, m3, m4⟩ := bindM_some m2
    obtain ⟨rfl, rfl⟩ := pureM_some m4
    obtain ⟨A, hA, hAR⟩ := AddrR.of_R ha
    obtain ⟨q1, V, q2, q3⟩ := readVar_quiet (P := P) (N := N) hAR _ _ _ w m1 hr
    obtain ⟨e, L, r, h⟩ := ih σ1 _ l' m3 (hr.congr q1)
    refine ⟨fun i => by rw [e, q1], V :: L, ?_, cons q3 h⟩
    have hadr : (asAddr (T.getD a undef)).run P w = .ok A w := by rw [hA]; rfl
    simp only [List.mapM_cons, Sem.run_bind, Sem.run_pure, Result.andThen_ok, hadr, q2, r]
   next => cases hm
theorem oneOf_R {ρ : PMap} {l L : List Value} (h : RLs ρ l L) : R ρ (oneOf l) (if h : L.toArray.size = 1 then L.toArray[0] else .tuple L.toArray) := by
 have hs := h.1
 match l, L, h with
 | [], [], _ => exact .tuple _ _ rfl (by simp)
 | [v], [V], h => exact h.2 0 v V rfl rfl
 | a :: b :: l, A :: B :: L, h =>
  have : ¬ ((A :: B :: L).toArray.size = 1) := by simp
  rw [dif_neg this]
  exact .tuple _ _ (by simpa using h.1) (fun i v V e1 e2 => h.2 i v V (by simpa using e1) (by simpa using e2))
theorem results_run {ρ : PMap} {t : Tm} {T : Array Value} (hT : RT ρ t T) {w : World} {fn : Func} {σ σ' : St} {l : List Value} (hm : readResults P t fn.results.toList σ = some (l, σ')) (hr : Rep P N ρ σ.heap w.heap) :
  (∀ i, σ'.heap.get i = σ.heap.get i) ∧ ∃ V, (results fn T).run P w = .ok V w ∧ R ρ (oneOf l) V := by
 obtain ⟨e, L, r, h⟩ := results_sound (P := P) (N := N) hT _ _ _ _ hm hr
 refine ⟨e, _, ?_, oneOf_R h⟩
 unfold results
 rw [Array.mapM_eq_mapM_toList]
 simp only [Sem.run_bind, Sem.run_map, Sem.run_pure]
 generalize hz : Sem.run P (List.mapM _ fn.results.toList) w = z
 have hz' : z = .ok L w := hz.symm.trans r
 rw [hz']
 rfl
end
end
end Go.Ab
end
section
namespace Go.Ab
open Go Go.RowKit
noncomputable section
section
variable {P : Program} {N : Nat}
theorem ofList_R {ρ : PMap} {n : Nat} : ∀ (l L : List Value) (i : Nat) (t : Tm) (T : Array Value), RT ρ t T → RLs ρ l L → i + l.length ≤ 4000 → RT ρ (Tm.ofList n i l t) (splice T i L) := by
 intro l
 induction l with
 | nil =>
  intro L i t T h hl _
  have : L = [] := List.length_eq_zero_iff.1 hl.1.symm
  subst this
  exact h
 | cons v l ih =>
  intro L i t T h hl hi
  cases L with
  | nil => exact absurd hl.1 (by simp)
  | cons V L =>
   refine ih L (i + 1) _ _ (h.set i (hl.2 0 v V rfl rfl) (.inl (by simp at hi; omega))) ⟨by simpa using hl.1, fun j a A e1 e2 => hl.2 (j + 1) a A (by simpa using e1) (by simpa using e2)⟩ (by simp at hi; omega)
theorem splice_all (A : Array Value) (n : Nat) (h : A.size ≤ n) : splice (Array.replicate n undef) 0 A.toList = A ++ Array.replicate (n - A.size) undef := by
 apply Array.ext_getElem?
 intro i
 rw [splice_get _ _ _ _ (by simpa using h), Array.getElem?_append]
 simp only [Nat.zero_le, true_and, Nat.zero_add, Array.length_toList, Nat.sub_zero]
 split
 ·simp
 ·rw [Array.getElem?_replicate, Array.getElem?_replicate]
  by_cases hn : i < n
  ·rw [if_pos hn, if_pos (by omega)]
  ·rw [if_neg hn, if_neg (by omega)]
theorem RT.blank (ρ : PMap) (n : Nat) : RT ρ ⟨n, .e⟩ (Array.replicate n undef) := ⟨by simp, fun i => by
 have : (Array.replicate n undef).getD i undef = undef := by by_cases h : i < n <;> simp [h]
 rw [this]; exact R.undef ρ⟩
theorem enter_R {ρ : PMap} {a A : Array Value} (h : RA ρ a A) {n : Nat} (h1 : a.size ≤ n) (h2 : a.size ≤ 4000) : RT ρ (Tm.ofList n 0 a.toList ⟨n, .e⟩) (A ++ Array.replicate (n - A.size) undef) := by
 rw [← splice_all A n (by rw [← h.size]; exact h1)]
 exact ofList_R _ _ 0 _ _ (RT.blank ρ n) h.ls (by simpa using h2)
theorem Rep.below {ρ : PMap} {h : T} {w w' : World} (r : Rep P N ρ h w.heap) (hb : Below w.heap.size w w') : Rep P N ρ h w'.heap := by
 refine ⟨fun i o hi => ?_, r.inj, r.glob⟩
 obtain ⟨b, κ, O, h1, h2, h3, h4⟩ := r.obj i o hi
 exact ⟨b, κ, O, h1, by rw [hb.block b (Array.getElem?_eq_some_iff.1 h2).1]; exact h2, h3, h4⟩
section
variable {E : Env P} {rec : Task → M TRes} (hrec : ∀ x, SoundAt E N (rec x) x) (lrec : ∀ x, Loc (rec x))
include hrec lrec
theorem call_sound {f : FuncId} {args : Array Value} : SoundAt E N (stCall E rec f args) (.call f args) := by
 intro σ r σ' ρ A w cs hm hp hA
 unfold stCall at hm
 cases hk : E.known f args with
 | some v =>
  rw [hk] at hm
  obtain ⟨rfl, rfl⟩ := pureM_some hm
  obtain ⟨h1, h2, h3⟩ := E.hKnown f args v hk
  have hAe : A = args := scalar_arr (fun hs h => scalar_eq 3 hs h) h1 hA.size hA.at_
  subst hAe
  obtain ⟨e, w', fr, ⟨rfl, hb⟩, hc, hfn, hl⟩ := h3 w hp.good cs
  exact ⟨v, ρ, v, w', fr, rfl, scalar_R 4 h2, ⟨PMap.le_refl _, fun _ _ e => .inl e, hp.rep.below hb, hb.mono hp.size⟩, hc, hfn, hl⟩
 | none =>
 rw [hk] at hm
 dsimp only at hm
 unfold stEnter at hm
 cases hf : P.funcs[f]? with
 | none => rw [hf] at hm; cases hm
 | some fn =>
 rw [hf] at hm
 dsimp only at hm
 cases hb : fn.body with
 | none => rw [hb] at hm; cases hm
 | some c =>
 rw [hb] at hm
 dsimp only at hm
 cases hs : Nat.ble args.size fn.ntmps && Nat.ble args.size 4000 with
 | false => rw [hs] at hm; cases hm
 | true =>
 rw [hs] at hm
 rw [Bool.and_eq_true] at hs
 obtain ⟨r1, σ1, m1, m2⟩ := bindM_some hm
 have lt : ∀ r, Loc (thenCall P fn.results.toList r) := by
  intro r; unfold thenCall; split
  ·exact Loc.callTail _ _ _
  ·exact Loc.callTail _ _ _
  ·exact Loc.fail
 obtain ⟨_, _, l1⟩ := lrec _ _ _ _ m1
 obtain ⟨_, _, l2⟩ := lt _ _ _ _ m2
 have hfr : Frame.enter P f A .normal = fat (Frame.enter P f A .normal) (A ++ Array.replicate (fn.ntmps - A.size) undef) [] [.code c] := by
  simp only [Frame.enter, fat, hf, hb, Option.map_some, Option.getD_some, Option.bind_some]
 obtain ⟨ex, t', d', ρ1, T', D', w1, e, hT, hD, st1, hr1⟩ := hrec (.code f none c _ []) σ r1 σ1 ρ (Frame.enter P f A .normal) _ [] w [] cs m1 (hp.first l2.next_le) rfl trivial
  (enter_R hA (Nat.le_of_ble_eq_true hs.1) (Nat.le_of_ble_eq_true hs.2)) trivial
 subst e
 rw [← hfr] at hr1
 have fin : ∀ k', Steps P (lone (Frame.enter P f A .normal) cs w) (lone (gone (Frame.enter P f A .normal) T' D' k') cs w1) → callTail P fn.results.toList t' d' σ1 = some (r, σ') →
   ∃ v ρ' V w' fr, r = .val v ∧ R ρ' v V ∧ Step P N ρ σ w ρ' σ' w' ∧ Steps P (lone (Frame.enter P f A .normal) cs w) (lone fr cs w') ∧ fr.fn = f ∧ fr.leaving P w' (.returned V) := by
  intro k' s1 hm'
  unfold callTail at hm'
  obtain ⟨u, σ2, m3, m4⟩ := bindM_some hm'
  obtain ⟨l, σ3, m5, m6⟩ := bindM_some m4
  obtain ⟨rfl, rfl⟩ := pureM_some m6
  obtain ⟨w2, st2, s2⟩ := drop_sound (P := P) (N := N) (b := Frame.enter P f A .normal) (T := T') (k := k') (cs := cs) d' D' σ1 σ2 w1 u m3 st1.rep hD
  obtain ⟨q1, V, q2, q3⟩ := results_run (P := P) (N := N) (w := w2) hT m5 st2.rep
  obtain ⟨_, _, l3⟩ := Loc.dropDefers _ _ _ _ m3
  obtain ⟨_, _, l4⟩ := Loc.readResults t' fn.results.toList _ _ _ m5
  have st12 := st1.trans st2 l1.next_le l3.next_le
  refine ⟨_, ρ1, V, w2, gone (Frame.enter P f A .normal) T' [] k', rfl, q3, ⟨st12.le, fun i x e => ?_, st12.rep.congr q1, st12.below⟩, s1.trans s2, rfl, rfl, rfl, rfl, fn, hf, q2⟩
  rcases st12.dom i x e with h | ⟨h1, h2⟩
  ·exact .inl h
  ·exact .inr ⟨h1, Nat.lt_of_lt_of_le h2 l4.next_le⟩
 cases ex with
 | normal => exact fin [] (hr1.trans (.one (st_end rfl))) m2
 | jump c =>
  cases c with
  | ret =>
   obtain ⟨_, k', _, s⟩ := hr1
   exact fin _ (s.trans (.one (st_ret rfl))) m2
  | _ => cases m2
theorem round_sound {l : Nat} {fn : FuncId} {t : Tm} {assign body : Code} : SoundAt E N (M.bind (rec (.code fn (some l) assign t [])) (thenAssign rec l fn body)) (.round l fn t assign body) := by
 intro σ r σ' ρ T w c0 cs b κ hm hp hT hl
 obtain ⟨r1, σ1, m1, m2⟩ := bindM_some hm
 have lb : ∀ r, Loc (thenBody l r) := by
  intro r; unfold thenBody; split
  ·exact Loc.bind (Loc.get _) fun o => Loc.endRound _ _ _ _ _
  ·exact Loc.bind (Loc.get _) fun o => Loc.endRound _ _ _ _ _
  ·exact Loc.fail
 have lg : ∀ t o, Loc (beginRound rec l fn t body o) := by
  intro t o; unfold beginRound; split
  ·exact Loc.ite (Loc.bind (Loc.set _ _) fun _ => Loc.bind (lrec _) fun r => lb r) Loc.fail
  ·exact Loc.fail
 have la : ∀ r, Loc (thenAssign rec l fn body r) := by
  intro r; unfold thenAssign; split
  ·exact Loc.bind (Loc.get _) fun o => lg _ _
  ·exact Loc.fail
 obtain ⟨_, _, l1⟩ := lrec _ _ _ _ m1
 obtain ⟨_, _, l2⟩ := la _ _ _ _ m2
 generalize hb0 : Frame.round b fn T assign body .normal = b0
 have hfr : b0 = fat b0 T [] [.code assign, .beginRound, .code body] := by subst hb0; rfl
 have hro : b0.roundOf = some b := by subst hb0; rfl
 have hkd : b0.kind = .normal := by subst hb0; rfl
 have key : ∃ v ρ' V w', r = .val v ∧ R ρ' v V ∧ Step P N ρ σ w ρ' σ' w' ∧ Steps P (lone b0 (c0 :: cs) w) (lone (c0.finish V) cs w') := by
  obtain ⟨ex, t1, d1, ρ1, T1, D1, w1, e, hT1, hD1, st1, hr1⟩ := hrec (.code fn (some l) assign t []) σ r1 σ1 ρ b0 T [] w [.beginRound, .code body] (c0 :: cs) m1 (hp.first l2.next_le) (by subst hb0; rfl) (by rw [hro]; exact ⟨κ, hl⟩) hT trivial
  subst e
  rw [← hfr] at hr1
  have hp1 := hp.next st1 l1.next_le l2.next_le
  cases ex with
  | jump c => cases m2
  | normal =>
  cases d1 with
  | cons _ _ => cases m2
  | nil =>
  cases D1 with
  | cons _ _ => exact hD1.elim
  | nil =>
  obtain ⟨o, σ2, m3, m4⟩ := bindM_some m2
  obtain ⟨g1, g2, g3⟩ := getM_some m3
  unfold beginRound at m4
  cases o with
  | loop r0 =>
   dsimp only at m4
   by_cases hrd : r0.state = .ready
   ·rw [if_pos hrd] at m4
    obtain ⟨u, σ3, m5, m6⟩ := bindM_some m4
    obtain ⟨r2, σ4, m7, m8⟩ := bindM_some m6
    have hl1 := st1.le _ _ hl
    obtain ⟨L0, e1, e2⟩ := loop_at st1.rep g1 hl1
    obtain ⟨st2, n2⟩ := put_step (P := P) (N := N) (O' := .loop { L0 with state := .busy }) (w := w1) (κ := κ) m3 m5 st1.rep hl1 rfl rfl
     ⟨_, rfl, rfl, e2.pending, e2.fn, e2.tmps, e2.params, e2.assign, e2.body, e2.defers⟩ (by rintro ⟨_, _, _, h⟩; rw [e1] at h; cases h)
    have hbeg := run_beginRound (P := P) e1 (by rw [e2.state]; exact hrd)
    have sbeg : step P (lone (fat b0 T1 [] [.beginRound, .code body]) (c0 :: cs) w1) = .next (lone (fat b0 T1 [] [.code body]) (c0 :: cs) (w1.putObj b (.loop { L0 with state := .busy }))) := by
     rw [fat_eq, fat_eq]; exact stepR_beginRound hro hbeg
    obtain ⟨_, _, l3⟩ := lrec _ _ _ _ m7
    obtain ⟨_, _, l4⟩ := lb _ _ _ _ m8
    have n12 : σ1.next ≤ σ3.next := Nat.le_of_eq n2.symm
    have n34 : σ3.next ≤ σ'.next := Nat.le_trans l3.next_le l4.next_le
    have hp2 := (hp1.next st2 n12 n34).first l4.next_le
    obtain ⟨ex, t2, d2, ρ2, T2, D2, w2, e, hT2, hD2, st3, hr2⟩ := hrec (.code fn (some l) body t1 []) σ3 r2 σ4 ρ1 b0 T1 [] (w1.putObj b (.loop { L0 with state := .busy })) [] (c0 :: cs) m7 hp2 (by subst hb0; rfl) (by rw [hro]; exact ⟨κ, hl1⟩) hT1 trivial
    subst e
    have st13 := (st1.trans st2 l1.next_le n12).trans st3 (Nat.le_trans l1.next_le n12) l3.next_le
    have fin : ∀ (s : LoopState) (p : Option Code) (vb : Bool) (fr : Frame), s = (if p.isNone then .ready else .done) → vb = p.isNone → Steps P (lone b0 (c0 :: cs) w) (lone fr (c0 :: cs) w2) →
      (∀ V w', (Instr.endRound b p).run P w2 = .ok V w' → step P (lone fr (c0 :: cs) w2) = .next (lone (c0.finish V) cs w')) →
      (M.bind (getM l) (endRound l s p vb)) σ4 = some (r, σ') →
      ∃ v ρ' V w', r = .val v ∧ R ρ' v V ∧ Step P N ρ σ w ρ' σ' w' ∧ Steps P (lone b0 (c0 :: cs) w) (lone (c0.finish V) cs w') := by
     intro s p vb fr hs hvb hst hlast hm'
     obtain ⟨o, σ5, m9, m10⟩ := bindM_some hm'
     obtain ⟨k1, k2, k3⟩ := getM_some m9
     unfold endRound at m10
     cases o with
     | loop r3 =>
      obtain ⟨u, σ6, m11, m12⟩ := bindM_some m10
      obtain ⟨rfl, rfl⟩ := pureM_some m12
      have hl2 := st3.le _ _ hl1
      obtain ⟨L3, f1, f2⟩ := loop_at st3.rep k1 hl2
      obtain ⟨st4, n4⟩ := put_step (P := P) (N := N) (O' := .loop { L3 with state := if p.isNone then .ready else .done, pending := p }) (w := w2) (κ := κ) m9 m11 st3.rep hl2 rfl rfl
       ⟨_, rfl, hs.symm, rfl, f2.fn, f2.tmps, f2.params, f2.assign, f2.body, f2.defers⟩ (by rintro ⟨_, _, _, h⟩; rw [f1] at h; cases h)
      have hend := run_endRound (P := P) p f1
      refine ⟨_, ρ2, _, _, rfl, ?_, st13.trans st4 (Nat.le_trans (Nat.le_trans l1.next_le n12) l3.next_le) (Nat.le_of_eq n4.symm), hst.trans (.one (hlast _ _ hend))⟩
      rw [hvb]; exact R.bool _
     | _ => cases m10
    cases ex with
    | normal =>
     exact fin .ready none true (fat b0 T2 D2 []) rfl rfl (hr1.trans (.head sbeg hr2)) (fun V w' h => by rw [fat_eq]; exact stepR_round_end hro hkd h) m8
    | jump c =>
     obtain ⟨hj, k', hk, s2⟩ := hr2
     refine fin .done (some c) false (fat b0 T2 D2 (.code c :: k')) rfl rfl (hr1.trans (.head sbeg s2)) (fun V w' h => ?_) m8
     rw [fat_eq]
     cases c with
     | ret => exact stepR_round_ret hro hkd h
     | exit id => exact stepR_round_exit hro hkd (by rw [show exitTo id k' = exitTo id [] from hk]; rfl) h
     | goto tt => exact stepR_round_goto hro hkd (by rw [show gotoIn tt k' = gotoIn tt [] from hk]; rfl) h
     | _ => cases hj
   ·rw [if_neg hrd] at m4; cases m4
  | _ => cases m4
 exact key
end
theorem step_sound {E : Env P} {rec : Task → M TRes} (hrec : ∀ x, SoundAt E N (rec x) x) (lrec : ∀ x, Loc (rec x)) (x : Task) : SoundAt E N (evStep E rec x) x := by
 cases x with
 | call f args => exact call_sound hrec lrec
 | round l fn t assign body => exact round_sound hrec lrec
 | again fn ro c t d => exact CX.soundA (CX.move (again_sound hrec lrec) fun b T D k cs w => st_inLoop)
 | inScope fn ro body c t d => exact CX.soundS (scope_sound hrec lrec)
 | code fn ro c t d =>
  cases c with
  | skip => exact CX.sound (CX.move CX.stay fun b T D k cs w => st_skip)
  | label l => exact CX.sound (CX.move CX.stay fun b T D k cs w => st_label)
  | refuse why => exact CX.sound CX.fail
  | exit id => exact CX.sound (CX.leap rfl)
  | goto l => exact CX.sound (CX.leap rfl)
  | ret => exact CX.sound (CX.leap rfl)
  | seq a b =>
   refine CX.sound (CX.move (pre' := [.code a, .code b]) (CX.bind (pre := [.code a]) (mid := [.code b]) (CX.code (hrec _)) (lrec _) (fun r => ?_) (thenSeq_sound hrec lrec)) fun b T D k cs w => st_seq)
   unfold thenSeq; split
   ·exact lrec _
   ·exact Loc.pure _
  | block id body =>
   refine CX.sound (CX.move (pre' := [.code body, .inBlock id]) (CX.bind (pre := [.code body]) (mid := [.inBlock id]) (CX.code (hrec _)) (lrec _) (fun r => ?_) (thenBlock_sound hrec lrec)) fun b T D k cs w => st_block)
   unfold thenBlock; split
   ·exact Loc.ite (Loc.pure _) (Loc.pure _)
   ·exact Loc.pure _
  | loop body => exact CX.sound (CX.move (again_sound hrec lrec) fun b T D k cs w => st_loop)
  | scope body => exact CX.sound (CX.move (CX.inScope (hrec _)) fun b T D k cs w => st_scope)
  | rangeFunc f params assign body => exact range_sound hrec lrec
  | region id ops draw =>
   intro σ r σ' ρ b T D w k cs hm hp hb hr hT hD
   change (M.bind (evRegion E rec ops draw t) fun t => M.pure (TRes.code .normal t d)) σ = _ at hm
   obtain ⟨t', σ1, m1, m2⟩ := bindM_some hm
   obtain ⟨rfl, rfl⟩ := pureM_some m2
   obtain ⟨ρ', T', w', h1, h2, h3⟩ := evRegion_sound hrec lrec (id := id) (b := b) (D := D) (k := k) (cs := cs) m1 hp hT
   exact ⟨_, _, _, ρ', T', D, w', rfl, h1, hD.mono h2.le, h2, h3⟩
  | cond x a b =>
   intro σ r σ' ρ bb T D w k cs hm hp hb hr hT hD
   change (bif operandOk P x then stCond rec fn ro a b t d (evalT t x) else M.fail) σ = _ at hm
   cases hok : operandOk P x with
   | false => rw [hok] at hm; cases hm
   | true =>
   rw [hok] at hm
   simp only [cond_true] at hm
   have hx := evalT_R hT hp.rep.glob hok
   generalize evalT t x = v at hm hx
   generalize hX : evalV T x = V at hx
   cases hx with
   | bool v =>
    have h := hrec (.code fn ro (bif v then a else b) t d) σ r σ' ρ bb T D w k cs hm hp hb hr hT hD
    obtain ⟨ex, t', d', ρ', T', D', w', e, a1, a2, a3, a4⟩ := h
    refine ⟨ex, t', d', ρ', T', D', w', e, a1, a2, a3, Reach.of_steps (.one ?_) a4⟩
    rw [st_cond hX]
    cases v <;> rfl
   | _ => cases hm
theorem ev_sound (E : Env P) : ∀ (n : Nat) (x : Task), SoundAt E N (ev E n x) x
 | 0, x => by
  rw [ev_zero]
  cases x with
  | call f a => intro σ r σ' ρ A w cs hm; cases hm
  | round l fn t a b => intro σ r σ' ρ T w c cs b κ hm; cases hm
  | code fn ro c t d => intro σ r σ' ρ b T D w k cs hm; cases hm
  | again fn ro c t d => intro σ r σ' ρ b T D w k cs hm; cases hm
  | inScope fn ro bo c t d => intro σ r σ' ρ b T D w k cs hm; cases hm
 | n + 1, x => by rw [ev_succ]; exact step_sound (ev_sound E n) (Loc.ev E n) x
theorem ev_calls (E : Env P) {n n0 : Nat} {f : FuncId} {args : Array Value} {v : Value} {σ' : St} (h : ev E n (.call f args) ⟨.e, n0, 0, 0⟩ = some (.val v, σ')) (h0 : P.globals.size ≤ n0)
  (ha : args.all (scalar 3) = true) (hv : scalar 4 v = true) {w : World} (hg : E.good w) (hN : E.gN ≤ w.heap.size) : Calls P f args w (fun e w' => e = .returned v ∧ Below w.heap.size w w') := by
 intro cs
 have hrep : Rep P w.heap.size (fun i => if i < P.globals.size then some (i, 0) else none) (.e : T) w.heap :=
  ⟨fun i o hi => (by cases hi), fun i j o o' hi => (by cases hi), fun g hg => if_pos hg⟩
 obtain ⟨v', ρ', V, w', fr, e, hR, st, hs, hfn, hl⟩ := ev_sound E n (.call f args) (N := w.heap.size) ⟨.e, n0, 0, 0⟩ _ σ' (fun i => if i < P.globals.size then some (i, 0) else none) args w cs h
  ⟨hrep, hg, Nat.le_refl _, fun i h1 h2 => if_neg (by dsimp only at h1; omega), hN⟩ (RA.of_scalar ha)
 cases e
 obtain rfl := scalar_eq 4 hv hR
 exact ⟨.returned _, w', fr, ⟨rfl, st.below⟩, hs, hfn, hl⟩
end
end
end Go.Ab
end
