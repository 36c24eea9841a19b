/-
  Part of the proof of DiffChangesUptoCardSaid: what Diff.Between says of two rows of leaves, Back turns and Apply takes, up to the bulk that the card names.
  A proof for this seat's program alone; the parts of the words that it needs were printed by the kit, and cut to what is used.
-/
import Derived.Test.YtclamgljgnjkbaaGreatDoorLn1
set_option linter.all false
section
namespace Go.Ab
open Go
noncomputable section
def AO.ro : AO → Bool
 | .cells _ _ _ _ _ ro => ro
 | _ => false
structure RT (ρ : PMap) (t : Tm) (A : Array Value) : Prop where
 size : t.size = A.size
 at_ : ∀ i, R ρ (t.get i) (A.getD i undef)
theorem RT.mono {ρ ρ' : PMap} (hl : ρ.le ρ') {t : Tm} {A : Array Value} (h : RT ρ t A) : RT ρ' t A := ⟨h.size, fun i => (h.at_ i).mono hl⟩
structure RL (ρ : PMap) (l : ALoop) (L : Loop) : Prop where
 state : L.state = l.state
 pending : L.pending = l.pending
 fn : L.fn = l.fn
 tmps : RT ρ l.tmps L.tmps
 params : L.params = l.params
 assign : L.assign = l.assign
 body : L.body = l.body
 defers : ∃ κ, ρ l.defers = some (L.defers, κ)
structure RE (ρ : PMap) (e E : MapEntry) : Prop where
 key : R ρ e.key E.key
 val : R ρ e.val E.val
 born : E.born = e.born
def AOM (P : Program) (ρ : PMap) (κ : Nat) : AO → Obj → Prop
 | .cells c e fz str grow ro, O => ∃ C FZ, O = .cells C e FZ ∧ c.size ≤ C.size ∧ (grow = false → C.size = c.size) ∧ (grow = true → C.size = κ * P.cellsOf e) ∧
   (∀ (i : Nat) v, c[i]? = some v → ∃ V, C[i]? = some V ∧ R ρ v V) ∧ (∀ k, (k < C.size ∨ str = false) → FZ.1 ≤ k → k < FZ.2 → fz.1 ≤ k ∧ k < fz.2) ∧ (ro = false → FZ.1 ≤ FZ.2)
 | .map es clock, O => ∃ ES, O = .map ES clock ∧ ES.size = es.size ∧ ∀ (i : Nat) e E, es[i]? = some e → ES[i]? = some E → RE ρ e E
 | .siter s pos, O => O = .stringIter s pos
 | .loop l, O => ∃ L, O = .loop L ∧ RL ρ l L
 | .deferred t, O => O = .deferred (if t then none else some [])
theorem RL.mono {ρ ρ' : PMap} (hl : ρ.le ρ') {l : ALoop} {L : Loop} (h : RL ρ l L) : RL ρ' l L :=
 ⟨h.state, h.pending, h.fn, h.tmps.mono hl, h.params, h.assign, h.body, let ⟨κ, e⟩ := h.defers; ⟨κ, hl _ _ e⟩⟩
theorem RE.mono {ρ ρ' : PMap} (hl : ρ.le ρ') {e E : MapEntry} (h : RE ρ e E) : RE ρ' e E := ⟨h.key.mono hl, h.val.mono hl, h.born⟩
theorem AOM.mono {P : Program} {ρ ρ' : PMap} (hl : ρ.le ρ') {κ : Nat} {o : AO} {O : Obj} (h : AOM P ρ κ o O) : AOM P ρ' κ o O := by
 cases o with
 | cells c e fz str grow ro =>
  obtain ⟨C, FZ, h1, h2, h3, h4, h5, h6⟩ := h
  exact ⟨C, FZ, h1, h2, h3, h4, fun i v hv => let ⟨V, a, b⟩ := h5 i v hv; ⟨V, a, b.mono hl⟩, h6⟩
 | map es clock =>
  obtain ⟨ES, h1, h2, h3⟩ := h
  exact ⟨ES, h1, h2, fun i e E a b => (h3 i e E a b).mono hl⟩
 | siter s pos => exact h
 | loop l => obtain ⟨L, h1, h2⟩ := h; exact ⟨L, h1, h2.mono hl⟩
 | deferred t => exact h
structure Rep (P : Program) (N : Nat) (ρ : PMap) (h : T) (H : Array Obj) : Prop where
 obj : ∀ i o, h.get i = some o → ∃ b κ O, ρ i = some (b, κ) ∧ H[b]? = some O ∧ AOM P ρ κ o O ∧ (o.ro = false → N ≤ b)
 inj : ∀ i j o o', h.get i = some o → h.get j = some o' → o.ro = false → i ≠ j → ∀ b κ κ', ρ i = some (b, κ) → ρ j ≠ some (b, κ')
 glob : ∀ g, g < P.globals.size → ρ g = some (g, 0)
theorem Rep.congr {P : Program} {N : Nat} {ρ : PMap} {h h' : T} {H : Array Obj} (r : Rep P N ρ h H) (e : ∀ i, h'.get i = h.get i) : Rep P N ρ h' H :=
 ⟨fun i o x => r.obj i o (by rw [← e]; exact x), fun i j o o' x y => r.inj i j o o' (by rw [← e]; exact x) (by rw [← e]; exact y), r.glob⟩
theorem Rep.put {P : Program} {N : Nat} {ρ : PMap} {h h' : T} {H : Array Obj} (r : Rep P N ρ h H) {i b κ : Nat} {o o' : AO} {O' : Obj}
  (hi : h.get i = some o) (hρ : ρ i = some (b, κ)) (hro : o.ro = false) (hro' : o'.ro = false) (hm : AOM P ρ κ o' O')
  (h1 : h'.get i = some o') (h2 : ∀ j, i ≠ j → h'.get j = h.get j) : Rep P N ρ h' (H.setIfInBounds b O') := by
 obtain ⟨b0, κ0, O0, hρ0, hb, _, hN⟩ := r.obj i o hi
 rw [hρ] at hρ0; cases hρ0
 have hlt : b < H.size := (Array.getElem?_eq_some_iff.1 hb).1
 refine ⟨fun j oj hj => ?_, fun j k oj ok hj hk hr hne => ?_, r.glob⟩
 ·by_cases hij : i = j
  ·subst hij
   rw [h1] at hj; cases hj
   exact ⟨b, κ, O', hρ, by simp [hlt], hm, fun _ => hN hro⟩
  ·rw [h2 j hij] at hj
   obtain ⟨bj, κj, Oj, hρj, hbj, hmj, hNj⟩ := r.obj j oj hj
   refine ⟨bj, κj, Oj, hρj, ?_, hmj, hNj⟩
   rw [Array.getElem?_setIfInBounds, if_neg]
   ·exact hbj
   ·intro e; subst e; exact r.inj i j o oj hi hj hro hij b κ κj hρ hρj
 ·have get' : ∀ x ox, h'.get x = some ox → ∃ oy, h.get x = some oy ∧ oy.ro = ox.ro := by
   intro x ox hx
   by_cases hix : i = x
   ·subst hix; rw [h1] at hx; cases hx; exact ⟨o, hi, by rw [hro, hro']⟩
   ·rw [h2 x hix] at hx; exact ⟨ox, hx, rfl⟩
  obtain ⟨a, ha, har⟩ := get' j oj hj
  obtain ⟨c, hc, _⟩ := get' k ok hk
  exact r.inj j k a c ha hc (by rw [har]; exact hr) hne
def PMap.set (ρ : PMap) (i : Nat) (x : Nat × Nat) : PMap := fun j => if j = i then some x else ρ j
theorem PMap.le_set {ρ : PMap} {i : Nat} (x : Nat × Nat) (h : ρ i = none) : ρ.le (ρ.set i x) := by
 intro j y hj
 unfold PMap.set
 split
 ·subst_vars; rw [h] at hj; cases hj
 ·exact hj
theorem PMap.set_ne {ρ : PMap} {i j : Nat} (x : Nat × Nat) (h : i ≠ j) : ρ.set i x j = ρ j := by
 unfold PMap.set; rw [if_neg (Ne.symm h)]
theorem PMap.set_same (ρ : PMap) (i : Nat) (x : Nat × Nat) : ρ.set i x i = some x := by simp [PMap.set]
theorem Rep.alloc {P : Program} {N : Nat} {ρ : PMap} {h h' : T} {H : Array Obj} (r : Rep P N ρ h H) (hN : N ≤ H.size) {i κ : Nat} {o : AO} {O : Obj}
  (hρ : ρ i = none) (hm : AOM P (ρ.set i (H.size, κ)) κ o O) (h1 : h'.get i = some o) (h2 : ∀ j, i ≠ j → h'.get j = h.get j) :
  Rep P N (ρ.set i (H.size, κ)) h' (H.push O) := by
 have hle := PMap.le_set (ρ := ρ) (H.size, κ) hρ
 have size_of : ∀ j oj, h.get j = some oj → ∀ b κ', ρ j = some (b, κ') → b < H.size := by
  intro j oj hj b κ' hb
  obtain ⟨b0, κ0, O0, hρ0, hb0, _⟩ := r.obj j oj hj
  rw [hb] at hρ0; cases hρ0
  exact (Array.getElem?_eq_some_iff.1 hb0).1
 refine ⟨fun j oj hj => ?_, fun j k oj ok hj hk hr hne b κ1 κ2 hb1 hb2 => ?_, fun g hg => hle _ _ (r.glob g hg)⟩
 ·by_cases hij : i = j
  ·subst hij
   rw [h1] at hj; cases hj
   exact ⟨H.size, κ, O, PMap.set_same _ _ _, by simp, hm, fun _ => hN⟩
  ·rw [h2 j hij] at hj
   obtain ⟨bj, κj, Oj, hρj, hbj, hmj, hNj⟩ := r.obj j oj hj
   have hlt : bj < H.size := (Array.getElem?_eq_some_iff.1 hbj).1
   exact ⟨bj, κj, Oj, hle _ _ hρj, by rw [Array.getElem?_push, if_neg (by omega)]; exact hbj, hmj.mono hle, hNj⟩
 ·have old : ∀ x, i ≠ x → (ρ.set i (H.size, κ)) x = ρ x := fun x hx => PMap.set_ne _ hx
  by_cases hij : i = j
  ·subst hij
   rw [PMap.set_same] at hb1; cases hb1
   rw [old k hne] at hb2
   rw [h2 k hne] at hk
   have := size_of k ok hk _ _ hb2
   omega
  ·rw [old j hij] at hb1
   rw [h2 j hij] at hj
   by_cases hik : i = k
   ·subst hik
    rw [PMap.set_same] at hb2; cases hb2
    have := size_of j oj hj _ _ hb1
    omega
   ·rw [old k hik] at hb2
    rw [h2 k hik] at hk
    exact r.inj j k oj ok hj hk hr hne b κ1 κ2 hb1 hb2
theorem Rep.del {P : Program} {N : Nat} {ρ : PMap} {h h' : T} {H : Array Obj} (r : Rep P N ρ h H) {i : Nat} (h1 : h'.get i = none) (h2 : ∀ j, i ≠ j → h'.get j = h.get j) : Rep P N ρ h' H := by
 have get' : ∀ x ox, h'.get x = some ox → h.get x = some ox := by
  intro x ox hx
  by_cases hix : i = x
  ·subst hix; rw [h1] at hx; cases hx
  ·rw [h2 x hix] at hx; exact hx
 exact ⟨fun j oj hj => r.obj j oj (get' j oj hj), fun j k oj ok hj hk => r.inj j k oj ok (get' j oj hj) (get' k ok hk), r.glob⟩
theorem Rep.push {P : Program} {N : Nat} {ρ : PMap} {h : T} {H : Array Obj} (r : Rep P N ρ h H) (O : Obj) : Rep P N ρ h (H.push O) := by
 refine ⟨fun j oj hj => ?_, r.inj, r.glob⟩
 obtain ⟨bj, κj, Oj, hρj, hbj, hmj, hNj⟩ := r.obj j oj hj
 have hlt : bj < H.size := (Array.getElem?_eq_some_iff.1 hbj).1
 exact ⟨bj, κj, Oj, hρj, by rw [Array.getElem?_push, if_neg (by omega)]; exact hbj, hmj, hNj⟩
theorem Rep.move {P : Program} {N : Nat} {ρ : PMap} {h h' : T} {H : Array Obj} (r : Rep P N ρ h H) {i j b κ : Nat} {o o' : AO} {O' : Obj}
  (hi : h.get i = some o) (hρ : ρ i = some (b, κ)) (hro : o.ro = false) (hj : ρ j = none) (hm : AOM P (ρ.set j (b, κ)) κ o' O') (hro' : o'.ro = false)
  (h0 : h'.get i = none) (h1 : h'.get j = some o') (h2 : ∀ k, i ≠ k → j ≠ k → h'.get k = h.get k) : Rep P N (ρ.set j (b, κ)) h' (H.setIfInBounds b O') := by
 obtain ⟨b0, κ0, O0, hρ0, hb, _, hN⟩ := r.obj i o hi
 rw [hρ] at hρ0; cases hρ0
 have hlt : b < H.size := (Array.getElem?_eq_some_iff.1 hb).1
 have hle := PMap.le_set (ρ := ρ) (b, κ) hj
 have hij : i ≠ j := fun e => by rw [e, hj] at hρ; cases hρ
 have old : ∀ x, j ≠ x → (ρ.set j (b, κ)) x = ρ x := fun x hx => PMap.set_ne _ hx
 refine ⟨fun k ok hk => ?_, fun k m ok om hk hm' hr hne c κ1 κ2 hb1 hb2 => ?_, fun g hg => hle _ _ (r.glob g hg)⟩
 ·by_cases hjk : j = k
  ·subst hjk
   rw [h1] at hk; cases hk
   exact ⟨b, κ, O', PMap.set_same _ _ _, by simp [hlt], hm, fun _ => hN hro⟩
  ·have hik : i ≠ k := fun e => by rw [← e, h0] at hk; cases hk
   rw [h2 k hik hjk] at hk
   obtain ⟨bk, κk, Ok, hρk, hbk, hmk, hNk⟩ := r.obj k ok hk
   refine ⟨bk, κk, Ok, hle _ _ hρk, ?_, hmk.mono hle, hNk⟩
   rw [Array.getElem?_setIfInBounds, if_neg]
   ·exact hbk
   ·intro e; subst e; exact r.inj i k o ok hi hk hro hik b κ κk hρ hρk
 ·have hik : i ≠ k := fun e => by rw [← e, h0] at hk; cases hk
  have him : i ≠ m := fun e => by rw [← e, h0] at hm'; cases hm'
  by_cases hjk : j = k
  ·subst hjk
   rw [PMap.set_same] at hb1; cases hb1
   rw [old m hne] at hb2
   rw [h2 m him hne] at hm'
   exact r.inj i m o om hi hm' hro him b κ κ2 hρ hb2
  ·rw [old k hjk] at hb1
   rw [h2 k hik hjk] at hk
   by_cases hjm : j = m
   ·subst hjm
    rw [PMap.set_same] at hb2; cases hb2
    exact r.inj k i ok o hk hi hr (Ne.symm hik) b κ1 κ hb1 hρ
   ·rw [old m hjm] at hb2
    rw [h2 m him hjm] at hm'
    exact r.inj k m ok om hk hm' hr hne c κ1 κ2 hb1 hb2
end
end Go.Ab
end
section
namespace Go.Ab
open Go Go.RowKit
noncomputable section
structure Step (P : Program) (N : Nat) (ρ : PMap) (σ : St) (w : World) (ρ' : PMap) (σ' : St) (w' : World) : Prop where
 le : ρ.le ρ'
 dom : ∀ i x, ρ' i = some x → ρ i = some x ∨ (σ.next ≤ i ∧ i < σ'.next)
 rep : Rep P N ρ' σ'.heap w'.heap
 below : Below N w w'
theorem Step.trans {P : Program} {N : Nat} {ρ ρ' ρ'' : PMap} {σ σ' σ'' : St} {w w' w'' : World} (h : Step P N ρ σ w ρ' σ' w') (k : Step P N ρ' σ' w' ρ'' σ'' w'')
  (n1 : σ.next ≤ σ'.next) (n2 : σ'.next ≤ σ''.next) : Step P N ρ σ w ρ'' σ'' w'' :=
 ⟨PMap.le_trans h.le k.le, fun i x e => by
  rcases k.dom i x e with e | ⟨a, b⟩
  ·rcases h.dom i x e with e | ⟨a, b⟩
   ·exact .inl e
   ·exact .inr ⟨a, by omega⟩
  ·exact .inr ⟨by omega, b⟩, k.rep, h.below.trans k.below⟩
def Sim {α β : Type} (P : Program) (N : Nat) (ρ : PMap) (m : M α) (s : Sem β) (rel : PMap → α → β → Prop) : Prop :=
 ∀ σ a σ' w, m σ = some (a, σ') → Rep P N ρ σ.heap w.heap → N ≤ w.heap.size → (∀ i, σ.next ≤ i → i < σ'.next → ρ i = none) →
  ∃ ρ' b w', s.run P w = .ok b w' ∧ rel ρ' a b ∧ Step P N ρ σ w ρ' σ' w'
section
variable {P : Program} {N : Nat} {ρ : PMap}
theorem Step.refl {σ : St} {w : World} (h : Rep P N ρ σ.heap w.heap) : Step P N ρ σ w ρ σ w := ⟨PMap.le_refl _, fun _ _ e => .inl e, h, Below.refl _ _⟩
theorem Sim.pure {α β : Type} {a : α} {b : β} {rel : PMap → α → β → Prop} (h : rel ρ a b) : Sim P N ρ (M.pure a) (Pure.pure b : Sem β) rel := by
 intro σ a' σ' w hm hr hN hf
 simp only [M.pure, Option.some.injEq, Prod.mk.injEq] at hm
 obtain ⟨rfl, rfl⟩ := hm
 exact ⟨ρ, b, w, rfl, h, Step.refl hr⟩
theorem Sim.fail {α β : Type} {s : Sem β} {rel : PMap → α → β → Prop} : Sim P N ρ (M.fail : M α) s rel := by intro σ a σ' w hm; cases hm
theorem Sim.bind {α β γ δ : Type} {m : M α} {f : α → M γ} {s : Sem β} {g : β → Sem δ} {rel : PMap → α → β → Prop} {rel' : PMap → γ → δ → Prop}
  (h : Sim P N ρ m s rel) (lm : Loc m) (lf : ∀ a, Loc (f a)) (k : ∀ ρ' a b, ρ.le ρ' → rel ρ' a b → Sim P N ρ' (f a) (g b) rel') : Sim P N ρ (M.bind m f) (s >>= g) rel' := by
 intro σ c σ'' w hm hr hN hf
 unfold M.bind at hm
 cases h1 : m σ with
 | none => rw [h1] at hm; cases hm
 | some p =>
  obtain ⟨a, σ'⟩ := p
  rw [h1] at hm
  obtain ⟨_, _, l1⟩ := lm _ _ _ h1
  obtain ⟨_, _, l2⟩ := lf a _ _ _ hm
  obtain ⟨ρ', b, w', r1, hrel, st⟩ := h σ a σ' w h1 hr hN (fun i x y => hf i x (Nat.lt_of_lt_of_le y l2.next_le))
  obtain ⟨ρ'', d, w'', r2, hrel', st'⟩ := k ρ' a b st.le hrel σ' c σ'' w' hm st.rep (Nat.le_trans hN st.below.size) (fun i x y => by
   cases e : ρ' i with
   | none => rfl
   | some z =>
    rcases st.dom i z e with e' | ⟨_, q⟩
    ·rw [hf i (Nat.le_trans l1.next_le x) y] at e'; cases e'
    ·omega)
  exact ⟨ρ'', d, w'', by rw [Sem.run_bind, r1]; exact r2, hrel', st.trans st' l1.next_le l2.next_le⟩
theorem Sim.mono {α β : Type} {m : M α} {s : Sem β} {rel rel' : PMap → α → β → Prop} (h : Sim P N ρ m s rel) (k : ∀ ρ' a b, ρ.le ρ' → rel ρ' a b → rel' ρ' a b) : Sim P N ρ m s rel' := by
 intro σ a σ' w hm hr hN hf
 obtain ⟨ρ', b, w', r, hrel, st⟩ := h σ a σ' w hm hr hN hf
 exact ⟨ρ', b, w', r, k _ _ _ st.le hrel, st⟩
theorem Sim.congr {α β : Type} {m : M α} {s s' : Sem β} {rel : PMap → α → β → Prop} (h : Sim P N ρ m s rel) (k : ∀ w, s'.run P w = s.run P w) : Sim P N ρ m s' rel := by
 intro σ a σ' w hm hr hN hf
 obtain ⟨ρ', b, w', r, hrel, st⟩ := h σ a σ' w hm hr hN hf
 exact ⟨ρ', b, w', by rw [k]; exact r, hrel, st⟩
theorem Sim.quiet {α β : Type} {m : M α} {s : Sem β} {rel : PMap → α → β → Prop}
  (h : ∀ σ a σ' w, m σ = some (a, σ') → Rep P N ρ σ.heap w.heap → (∀ i, σ'.heap.get i = σ.heap.get i) ∧ ∃ b, s.run P w = .ok b w ∧ rel ρ a b) : Sim P N ρ m s rel := by
 intro σ a σ' w hm hr hN hf
 obtain ⟨e, b, r, hrel⟩ := h σ a σ' w hm hr
 exact ⟨ρ, b, w, r, hrel, PMap.le_refl _, fun _ _ e => .inl e, hr.congr e, Below.refl _ _⟩
theorem Rep.cells {h : T} {H : Array Obj} (r : Rep P N ρ h H) {i : Nat} {c : Array Value} {e : TypeId} {fz : Nat × Nat} {str grow ro : Bool}
  (hi : h.get i = some (.cells c e fz str grow ro)) {b κ : Nat} (hb : ρ i = some (b, κ)) :
  ∃ C FZ, H[b]? = some (.cells C e FZ) ∧ c.size ≤ C.size ∧ (grow = false → C.size = c.size) ∧ (grow = true → C.size = κ * P.cellsOf e) ∧
   (∀ (i : Nat) v, c[i]? = some v → ∃ V, C[i]? = some V ∧ R ρ v V) ∧ (∀ k, (k < C.size ∨ str = false) → FZ.1 ≤ k → k < FZ.2 → fz.1 ≤ k ∧ k < fz.2) ∧ (ro = false → N ≤ b ∧ FZ.1 ≤ FZ.2) := by
 obtain ⟨b', κ', O, hρ, hH, ⟨C, FZ, rfl, a1, a2, a3, a4, a5⟩, hN⟩ := r.obj i _ hi
 rw [hb] at hρ; cases hρ
 exact ⟨C, FZ, hH, a1, a2, a3, a4, a5.1, fun h => ⟨hN h, a5.2 h⟩⟩
theorem cell?_of {w : World} {b k : Nat} {C : Array Value} {e : TypeId} {FZ : Nat × Nat} (h : w.heap[b]? = some (.cells C e FZ)) : w.cell? ⟨b, k, none⟩ = C[k]? := by
 simp [World.cell?, h]
theorem frozen?_of {w : World} {b k : Nat} {C : Array Value} {e : TypeId} {FZ : Nat × Nat} (h : w.heap[b]? = some (.cells C e FZ)) : w.frozen? ⟨b, k, none⟩ = (decide (FZ.1 ≤ k) && decide (k < FZ.2)) := by
 simp [World.frozen?, h]
theorem shape?_of {w : World} {b : Nat} {C : Array Value} {e : TypeId} {FZ : Nat × Nat} (h : w.heap[b]? = some (.cells C e FZ)) : w.shape? b = some (e, C.size) := by
 simp [World.shape?, h]
def sizeT (P : Program) (t : TypeId) : Option Nat := (P.info? t).map (·.size)
def isAggT (P : Program) (t : TypeId) : Option Bool :=
 match P.underlying t with
 | none => none
 | some (.struct _) | some (.array _ _) => some true
 | some _ => some false
theorem run_typeInfo' {t : TypeId} {i : TypeInfo} (h : P.info? t = some i) (w : World) : (typeInfo t).run P w = .ok i w := by
 simp [typeInfo, h]
theorem run_sizeOf' {t : TypeId} {n : Nat} (h : sizeT P t = some n) (w : World) : (sizeOf t).run P w = .ok n w := by
 unfold sizeT at h
 cases hi : P.info? t with
 | none => rw [hi] at h; cases h
 | some i => rw [hi] at h; simp at h; simp [sizeOf, run_typeInfo' hi, h]
theorem run_underlying' {t : TypeId} {d : TypeDesc} (h : P.underlying t = some d) (w : World) : (underlying t).run P w = .ok d w := by
 simp [underlying, h]
theorem run_isAgg' {t : TypeId} {b : Bool} (h : isAggT P t = some b) (w : World) : (isAgg t).run P w = .ok b w := by
 unfold isAggT at h
 cases hi : P.underlying t with
 | none => rw [hi] at h; cases h
 | some d => rw [hi] at h; cases d <;> simp_all [isAgg, run_underlying' hi]
structure AddrR (ρ : PMap) (a A : Addr) : Prop where
 block : ∃ κ, ρ a.block = some (A.block, κ)
 off : A.off = a.off
 spot : A.spot = a.spot
theorem AddrR.mono {ρ' : PMap} (hl : ρ.le ρ') {a A : Addr} (h : AddrR ρ a A) : AddrR ρ' a A := ⟨let ⟨κ, e⟩ := h.block; ⟨κ, hl _ _ e⟩, h.off, h.spot⟩
theorem AddrR.R {a A : Addr} (h : AddrR ρ a A) : R ρ (.pointer (some a)) (.pointer (some A)) := by
 obtain ⟨⟨κ, e⟩, ho, hs⟩ := h
 obtain ⟨b, o, s⟩ := A
 simp only at e ho hs
 subst ho hs
 exact .ptr a b κ e
theorem AddrR.of_R {a : Addr} {V : Value} (h : Ab.R ρ (.pointer (some a)) V) : ∃ A, V = .pointer (some A) ∧ AddrR ρ a A := by
 cases h with
 | ptr a b κ h => exact ⟨_, rfl, ⟨κ, h⟩, rfl, rfl⟩
theorem AddrR.add {a A : Addr} (h : AddrR ρ a A) (n : Nat) : AddrR ρ (a.add n) (A.add n) := by
 unfold Addr.add
 split
 ·exact h
 ·exact ⟨h.block, by simp [h.off], rfl⟩
def readVar (P : Program) (t : TypeId) (a : Addr) : M Value :=
 if a.spot.isSome then M.fail else
 match isAggT P t with
 | some true => match sizeT P t with
  | some n => M.bind (getM a.block) fun o => match o with
   | .cells c .. => if a.off + n ≤ c.size then M.pure (.agg (c.extract a.off (a.off + n))) else M.fail
   | _ => M.fail
  | none => M.fail
 | some false => M.bind (getM a.block) fun o => match o with
   | .cells c .. => M.ofOption c[a.off]?
   | _ => M.fail
 | none => M.fail
theorem Loc.readVar (t : TypeId) (a : Addr) : Loc (readVar P t a) := by
 unfold Ab.readVar
 refine Loc.ite Loc.fail ?_
 split
 ·split
  ·refine Loc.bind (Loc.get _) fun o => ?_
   split
   ·exact Loc.ite (Loc.pure _) Loc.fail
   ·exact Loc.fail
  ·exact Loc.fail
 ·refine Loc.bind (Loc.get _) fun o => ?_
  split
  ·exact Loc.ofOption _
  ·exact Loc.fail
 ·exact Loc.fail
theorem getM_some {i : Nat} {σ σ' : St} {o : AO} (h : getM i σ = some (o, σ')) : σ.heap.get i = some o ∧ σ'.heap = σ.heap ∧ σ'.next = σ.next := by
 rw [getM_eq] at h
 unfold getM0 at h
 cases hg : σ.heap.get i with
 | none => rw [hg] at h; cases h
 | some o' => rw [hg] at h; simp only [Option.some.injEq, Prod.mk.injEq] at h; obtain ⟨rfl, rfl⟩ := h; exact ⟨rfl, rfl, rfl⟩
theorem bindM_some {α β : Type} {m : M α} {f : α → M β} {σ σ'' : St} {b : β} (h : M.bind m f σ = some (b, σ'')) : ∃ a σ', m σ = some (a, σ') ∧ f a σ' = some (b, σ'') := by
 unfold M.bind at h
 cases h1 : m σ with
 | none => rw [h1] at h; cases h
 | some p => obtain ⟨a, σ'⟩ := p; rw [h1] at h; exact ⟨a, σ', rfl, h⟩
theorem pureM_some {α : Type} {a b : α} {σ σ' : St} (h : M.pure a σ = some (b, σ')) : a = b ∧ σ = σ' := by
 simpa [M.pure] using h
theorem readVar_quiet {t : TypeId} {a A : Addr} (h : AddrR ρ a A) : ∀ σ v σ' w, Ab.readVar P t a σ = some (v, σ') → Rep P N ρ σ.heap w.heap → (∀ i, σ'.heap.get i = σ.heap.get i) ∧ ∃ b, (loadVar t A).run P w = .ok b w ∧ R ρ v b := by
 intro σ v σ' w hm hr
 obtain ⟨⟨κ, hb⟩, ho, hs⟩ := h
 obtain ⟨b, off, spot⟩ := A
 simp only at hb ho hs
 subst ho
 unfold Ab.readVar at hm
 split at hm
 ·cases hm
 next hsp =>
 have hsp' : spot = none := by rw [hs]; simpa using hsp
 subst hsp'
 cases h1 : isAggT P t with
 | none => rw [h1] at hm; cases hm
 | some ag =>
 rw [h1] at hm
 cases ag with
 | true =>
  simp only at hm
  cases h2 : sizeT P t with
  | none => rw [h2] at hm; cases hm
  | some n =>
  rw [h2] at hm
  obtain ⟨o, σ1, g1, g2⟩ := bindM_some hm
  obtain ⟨g3, g4, _⟩ := getM_some g1
  split at g2
  next c e fz str grow ro =>
   split at g2
   next hle =>
    obtain ⟨rfl, rfl⟩ := pureM_some g2
    obtain ⟨C, FZ, c1, c2, c3, c4, c5, c6, c8⟩ := hr.cells g3 hb
    refine ⟨fun i => by rw [g4], .agg (C.extract a.off (a.off + n)), ?_, ?_⟩
    ·simp only [loadVar, Sem.run_bind, run_isAgg' h1, Result.andThen_ok, if_true, run_sizeOf' h2]
     rw [run_loadCells w _ _ (fun j => C.getD (a.off + j) undef)]
     ·simp only [Result.andThen_ok, Sem.run_pure]
      congr 2
      apply Array.ext
      ·simp; omega
      ·intro i h3 h4
       simp only [List.size_toArray, List.length_map, List.length_range] at h3
       have : a.off + i < C.size := by omega
       simp [this]
     ·intro j hj
      have : a.off + j < C.size := by omega
      have hadd : (⟨b, a.off, none⟩ : Addr).add j = ⟨b, a.off + j, none⟩ := by unfold Addr.add; split <;> simp_all
      rw [hadd, cell?_of c1]
      simp [this]
    ·refine .agg _ _ (by simp; omega) fun i v v' e1 e2 => ?_
     rw [Array.getElem?_extract] at e1 e2
     split at e1
     ·split at e2
      ·obtain ⟨V, q1, q2⟩ := c5 _ _ e1
       rw [q1] at e2; cases e2; exact q2
      ·cases e2
     ·cases e1
   next => cases g2
  next => cases g2
 | false =>
  obtain ⟨o, σ1, g1, g2⟩ := bindM_some hm
  obtain ⟨g3, g4, _⟩ := getM_some g1
  split at g2
  next c e fz str grow ro =>
   obtain ⟨C, FZ, c1, c2, c3, c4, c5, c6, c8⟩ := hr.cells g3 hb
   cases hv : c[a.off]? with
   | none => rw [hv] at g2; cases g2
   | some u =>
    rw [hv] at g2
    obtain ⟨rfl, rfl⟩ := pureM_some g2
    obtain ⟨V, q1, q2⟩ := c5 _ _ hv
    refine ⟨fun i => by rw [g4], V, ?_, q2⟩
    simp only [loadVar, Sem.run_bind, run_isAgg' h1, Result.andThen_ok, Bool.false_eq_true, if_false, run_load, cell?_of c1, q1]
  next => cases g2
theorem Sim.readVar {t : TypeId} {a A : Addr} (h : AddrR ρ a A) : Sim P N ρ (readVar P t a) (loadVar t A) (fun ρ v V => R ρ v V) := Sim.quiet (readVar_quiet h)
end
end
end Go.Ab
end
section
namespace Go.Ab
open Go Go.RowKit
noncomputable section
def splice (c : Array Value) (off : Nat) : List Value → Array Value
 | [] => c
 | v :: r => splice (c.setIfInBounds off v) (off + 1) r
theorem splice_size (vs : List Value) : ∀ (c : Array Value) (off : Nat), (splice c off vs).size = c.size := by
 induction vs with
 | nil => intro c off; rfl
 | cons v r ih => intro c off; rw [splice, ih]; simp
def leaf : Value → Bool
 | .agg _ | .tuple _ => false
 | _ => true
theorem R.leaf {ρ : PMap} {v V : Value} (h : R ρ v V) (hl : leaf v = true) : V.oneCell' = true := by
 cases h <;> first | rfl | simp [Ab.leaf] at hl
theorem World.ext' {w w' : World} (h1 : w.heap = w'.heap) (h2 : w.tape = w'.tape) (h3 : w.drawn = w'.drawn) (h4 : w.os = w'.os) (h5 : w.output = w'.output) : w = w' := by
 cases w; cases w'; simp_all
def withHeap (w : World) (H : Array Obj) : World := { w with heap := H }
theorem setIfInBounds_self {α : Type} {H : Array α} {b : Nat} {o : α} (h : H[b]? = some o) : H.setIfInBounds b o = H := by
 apply Array.ext
 ·simp
 ·intro i h1 h2
  rw [Array.getElem_setIfInBounds]
  split
  ·subst_vars
   simp only [Array.getElem?_eq_some_iff] at h
   exact h.2.symm
  ·rfl
theorem setCell_heap {w : World} {b k : Nat} {C : Array Value} {e : TypeId} {FZ : Nat × Nat} (h : w.heap[b]? = some (.cells C e FZ)) (v : Value) :
  w.setCell ⟨b, k, none⟩ v = withHeap w (w.heap.setIfInBounds b (.cells (C.setIfInBounds k v) e FZ)) := by
 unfold World.setCell withHeap
 congr 1
 apply Array.ext
 ·simp
 ·intro i h1 h2
  rw [Array.getElem_modify, Array.getElem_setIfInBounds]
  simp only [Array.getElem?_eq_some_iff] at h
  obtain ⟨hb, hh⟩ := h
  by_cases hi : b = i
  ·subst hi; simp [hh]
  ·rw [if_neg hi, if_neg hi]
theorem withHeap_heap (w : World) (H : Array Obj) : (withHeap w H).heap = H := rfl
theorem withHeap_withHeap (w : World) (H H' : Array Obj) : withHeap (withHeap w H) H' = withHeap w H' := rfl
theorem withHeap_self (w : World) : withHeap w w.heap = w := rfl
theorem set_set {α : Type} (H : Array α) (b : Nat) (x y : α) : (H.setIfInBounds b x).setIfInBounds b y = H.setIfInBounds b y := by
 apply Array.ext
 ·simp
 ·intro i h1 h2
  rw [Array.getElem_setIfInBounds, Array.getElem_setIfInBounds, Array.getElem_setIfInBounds]
  ·split <;> rfl
  all_goals simp at h1 h2 ⊢; omega
theorem run_storeCells' {P : Program} {b off : Nat} {e : TypeId} {FZ : Nat × Nat} : ∀ (vs : List Value) (i : Nat) (C : Array Value) (w : World), w.heap[b]? = some (.cells C e FZ) →
  off + i + vs.length ≤ C.size → (∀ v ∈ vs, v.oneCell' = true) → (∀ j, j < vs.length → (decide (FZ.1 ≤ off + i + j) && decide (off + i + j < FZ.2)) = false) →
  (storeCells ⟨b, off, none⟩ vs i).run P w = .ok () (withHeap w (w.heap.setIfInBounds b (.cells (splice C (off + i) vs) e FZ)))
 | [], i, C, w, h, _, _, _ => by
  simp only [storeCells, Sem.run_pure, splice, setIfInBounds_self h, withHeap_self]
 | v :: r, i, C, w, h, hl, h1, hf => by
  have hadd : (⟨b, off, none⟩ : Addr).add i = ⟨b, off + i, none⟩ := by unfold Addr.add; split <;> simp_all
  have hlt : off + i < C.size := by simp at hl; omega
  have hb : b < w.heap.size := (Array.getElem?_eq_some_iff.1 h).1
  simp only [storeCells, Sem.run_bind, hadd]
  rw [run_store P w _ v .plain (h1 v (by simp)), cell?_of h, frozen?_of h]
  have hf0 := hf 0 (by simp)
  simp only [Nat.add_zero] at hf0
  simp only [hlt, getElem?_pos, hf0, Bool.false_eq_true, if_false, Result.andThen_ok]
  rw [setCell_heap h]
  have h' : (withHeap w (w.heap.setIfInBounds b (.cells (C.setIfInBounds (off + i) v) e FZ))).heap[b]? = some (.cells (C.setIfInBounds (off + i) v) e FZ) := by
   simp [withHeap, hb]
  have ih := run_storeCells' (P := P) (off := off) r (i + 1) (C.setIfInBounds (off + i) v) _ h' (by simp at hl ⊢; omega) (fun u hu => h1 u (by simp [hu])) (fun j hj => by
   have := hf (j + 1) (by simp; omega)
   rwa [show off + i + (j + 1) = off + (i + 1) + j by omega] at this)
  rw [ih, withHeap_heap, withHeap_withHeap, set_set]
  rfl
theorem splice_get (vs : List Value) : ∀ (c : Array Value) (off i : Nat), off + vs.length ≤ c.size → (splice c off vs)[i]? = if off ≤ i ∧ i < off + vs.length then vs[i - off]? else c[i]? := by
 induction vs with
 | nil => intro c off i _; simp [splice]; omega
 | cons v r ih =>
  intro c off i h
  simp only [List.length_cons] at h
  rw [splice, ih _ _ _ (by simp; omega), Array.getElem?_setIfInBounds]
  by_cases h1 : off + 1 ≤ i ∧ i < off + 1 + r.length
  ·rw [if_pos h1, if_pos (by simp; omega), show i - off = (i - (off + 1)) + 1 by omega]; simp
  ·rw [if_neg h1]
   by_cases h2 : off = i
   ·subst h2; rw [if_pos rfl, if_pos (by omega), if_pos (by simp)]; simp
   ·rw [if_neg h2, if_neg (by simp; omega)]
def writeCells (a : Addr) (vs : List Value) : M Unit :=
 if a.spot.isSome then M.fail else
 M.bind (getM a.block) fun o => match o with
  | .cells c e fz str grow ro =>
   if ro = false ∧ a.off + vs.length ≤ c.size ∧ (a.off + vs.length ≤ fz.1 ∨ fz.2 ≤ a.off) ∧ vs.all leaf = true then setM a.block (.cells (splice c a.off vs) e fz str grow false)
   else M.fail
  | _ => M.fail
theorem Loc.writeCells (a : Addr) (vs : List Value) : Loc (writeCells a vs) := by
 unfold Ab.writeCells
 refine Loc.ite Loc.fail (Loc.bind (Loc.get _) fun o => ?_)
 split
 ·exact Loc.ite (Loc.set _ _) Loc.fail
 ·exact Loc.fail
theorem setM_some {i : Nat} {o : AO} {σ σ' : St} {u : Unit} (h : setM i o σ = some (u, σ')) :
  σ'.next = σ.next ∧ σ'.heap.get i = some o ∧ (∀ j, i ≠ j → σ'.heap.get j = σ.heap.get j) := by
 rw [setM_eq] at h
 unfold setM0 at h
 split at h
 next hi =>
  cases hg : σ.heap.get i with
  | none => rw [hg] at h; cases h
  | some o' =>
   rw [hg] at h; simp only [Option.some.injEq, Prod.mk.injEq] at h
   obtain ⟨_, rfl⟩ := h
   exact ⟨rfl, get_put hi, fun j hj => get_put_ne hj⟩
 next => cases h
def RLs (ρ : PMap) (vs VS : List Value) : Prop := vs.length = VS.length ∧ ∀ (i : Nat) v V, vs[i]? = some v → VS[i]? = some V → R ρ v V
theorem RLs.all_leaf {ρ : PMap} {vs VS : List Value} (h : RLs ρ vs VS) (hl : vs.all leaf = true) : ∀ V ∈ VS, V.oneCell' = true := by
 intro V hV
 obtain ⟨i, hi, rfl⟩ := List.mem_iff_getElem.1 hV
 have hi' : i < vs.length := by rw [h.1]; exact hi
 refine (h.2 i vs[i] VS[i] (by simp [hi']) (by simp [hi])).leaf ?_
 rw [List.all_eq_true] at hl
 exact hl _ (List.getElem_mem hi')
section
variable {P : Program} {N : Nat} {ρ : PMap}
theorem frozen_no {C : Nat} {fz FZ : Nat × Nat} {str : Bool} (h6 : ∀ k, (k < C ∨ str = false) → FZ.1 ≤ k → k < FZ.2 → fz.1 ≤ k ∧ k < fz.2) {off n : Nat} (hc : off + n ≤ C)
  (hf : off + n ≤ fz.1 ∨ fz.2 ≤ off) : ∀ j, j < n → (decide (FZ.1 ≤ off + j) && decide (off + j < FZ.2)) = false := by
 intro j hj
 cases h : (decide (FZ.1 ≤ off + j) && decide (off + j < FZ.2)) with
 | false => rfl
 | true =>
  simp only [Bool.and_eq_true, decide_eq_true_eq] at h
  have := h6 (off + j) (.inl (by omega)) h.1 h.2
  omega
theorem Sim.writeCells {a A : Addr} {vs VS : List Value} (h : AddrR ρ a A) (hv : RLs ρ vs VS) : Sim P N ρ (writeCells a vs) (storeCells A VS) (fun _ _ _ => True) := by
 intro σ u σ' w hm hr hN hfresh
 obtain ⟨⟨κ, hb⟩, ho, hs⟩ := h
 obtain ⟨b, off, spot⟩ := A
 simp only at hb ho hs
 subst ho
 unfold Ab.writeCells at hm
 split at hm
 ·cases hm
 next hsp =>
 have hsp' : spot = none := by rw [hs]; simpa using hsp
 subst hsp'
 obtain ⟨o, σ1, g1, g2⟩ := bindM_some hm
 obtain ⟨g3, g4, g5⟩ := getM_some g1
 split at g2
 next c e fz str grow ro =>
  split at g2
  next hc =>
   obtain ⟨q1, q2, q3, q4⟩ := hc
   subst q1
   obtain ⟨s1, s2, s3⟩ := setM_some g2
   obtain ⟨C, FZ, c1, c2, c3, c4, c5, c6, c8⟩ := hr.cells g3 hb
   have hrun := run_storeCells' (P := P) (off := a.off) VS 0 C w c1 (by rw [← hv.1]; omega) (hv.all_leaf q4) (by
    simp only [Nat.add_zero]
    rw [← hv.1]
    exact frozen_no c6 (Nat.le_trans q2 c2) q3)
   refine ⟨ρ, (), _, hrun, trivial, PMap.le_refl _, fun _ _ e => .inl e, ?_, ?_⟩
   ·rw [withHeap_heap]
    refine hr.put (o' := .cells (splice c a.off vs) e fz str grow false) g3 hb rfl rfl ⟨splice C (a.off + 0) VS, FZ, rfl, by rw [splice_size, splice_size]; exact c2, by rw [splice_size, splice_size]; exact c3,
     by rw [splice_size]; exact c4, ?_, by rw [splice_size]; exact c6, fun _ => (c8 rfl).2⟩ s2 (fun j hj => by rw [s3 j hj, g4])
    intro i v hiv
    rw [splice_get vs _ _ _ q2] at hiv
    rw [Nat.add_zero, splice_get VS _ _ _ (by rw [← hv.1]; omega), ← hv.1]
    split at hiv
    ·rw [if_pos (by assumption)]
     have hlt : i - a.off < VS.length := by rw [← hv.1]; omega
     exact ⟨VS[i - a.off], by simp [hlt], hv.2 _ _ _ hiv (by simp [hlt])⟩
    ·rw [if_neg (by assumption)]; exact c5 i v hiv
   ·have hN' := (c8 rfl).1
    refine ⟨rfl, rfl, rfl, by simp [withHeap], fun k hk => ?_⟩
    rw [withHeap_heap, Array.getElem?_setIfInBounds, if_neg (by omega)]
  next => cases g2
 next => cases g2
theorem newM_some {o : AO} {i : Nat} {σ σ' : St} (h : newM o σ = some (i, σ')) :
  i = σ.next ∧ σ'.next = σ.next + 1 ∧ σ'.heap.get i = some o ∧ (∀ j, i ≠ j → σ'.heap.get j = σ.heap.get j) := by
 rw [newM_eq] at h
 unfold newM0 at h
 split at h
 next hi =>
  cases hg : σ.heap.get σ.next with
  | some o' => rw [hg] at h; cases h
  | none =>
   rw [hg] at h; simp only [Option.some.injEq, Prod.mk.injEq] at h
   obtain ⟨rfl, rfl⟩ := h
   exact ⟨rfl, rfl, get_put hi, fun j hj => get_put_ne hj⟩
 next => cases h
theorem Sim.new {o : AO} {O : Obj} {κ : Nat} (h : AOM P ρ κ o O) : Sim P N ρ (newM o) (newObj O) (fun ρ' i b => ρ' i = some (b, κ)) := by
 intro σ i σ' w hm hr hN hf
 obtain ⟨rfl, h1, h2, h3⟩ := newM_some hm
 have hρ : ρ σ.next = none := hf σ.next (Nat.le_refl _) (by omega)
 refine ⟨ρ.set σ.next (w.heap.size, κ), w.heap.size, { w with heap := w.heap.push O }, by simp, PMap.set_same _ _ _, PMap.le_set _ hρ, fun j x e => ?_, ?_, ?_⟩
 ·by_cases hj : j = σ.next
  ·subst hj; exact .inr ⟨Nat.le_refl _, by omega⟩
  ·rw [PMap.set_ne _ (Ne.symm hj)] at e; exact .inl e
 ·exact hr.alloc hN hρ (h.mono (PMap.le_set _ hρ)) h2 h3
 ·refine ⟨rfl, rfl, rfl, by simp, fun k hk => ?_⟩
  rw [Array.getElem?_push, if_neg (by omega)]
theorem AOM.cells_of {c C : Array Value} {e : TypeId} {κ : Nat} (h : RA ρ c C) : AOM P ρ κ (.cells c e (0, 0) false false false) (.cells C e) :=
 ⟨C, (0, 0), rfl, Nat.le_of_eq h.size, fun _ => h.size.symm, fun e => (by cases e), fun i v hv => h.get hv, fun k _ h1 h2 => (by simp at h2), fun _ => Nat.le_refl _⟩
def newRowM (e : TypeId) (c : Array Value) : M Addr := M.bind (newM (.cells c e (0, 0) false false false)) fun i => M.pure ⟨i, 0, none⟩
theorem Loc.newRow (e : TypeId) (c : Array Value) : Loc (newRowM e c) := Loc.bind (Loc.new _) fun _ => Loc.pure _
theorem Sim.newRow {e : TypeId} {c C : Array Value} (h : RA ρ c C) : Sim P N ρ (newRowM e c) (newRow e C) (fun ρ' a A => AddrR ρ' a A ∧ a.off = 0 ∧ a.spot = none) :=
 Sim.bind (Sim.new (κ := 0) (AOM.cells_of h)) (Loc.new _) (fun _ => Loc.pure _) fun _ _ _ _ hb => Sim.pure ⟨⟨⟨0, hb⟩, rfl, rfl⟩, rfl, rfl⟩
end
end
end Go.Ab
end
