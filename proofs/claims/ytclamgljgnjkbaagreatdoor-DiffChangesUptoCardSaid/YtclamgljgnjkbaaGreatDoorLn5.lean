/-
  Part of the proof of DiffChangesUptoCardSaid: what Diff.Between says of two rows of leaves, Back turns and Apply takes, up to the bulk that the card names.
  A proof for this seat's program alone; the parts of the words that it needs were printed by the kit, and cut to what is used.
-/
import Derived.Test.YtclamgljgnjkbaaGreatDoorLn4
set_option linter.all false
section
namespace Go.Ab
open Go Go.RowKit
noncomputable section
section
variable {P : Program} {N : Nat} {ρ : PMap}
def elemsM (size : Nat) (x : Value) : M (Array Value × Nat) :=
 match x with
 | .slice (some a) m _ => M.bind (cellsM a (m * size)) fun c => M.pure (c, m)
 | .slice none m _ => if m = 0 then M.pure (#[], 0) else M.fail
 | .string s => if size = 1 then M.pure ((s.extract 0 s.size).data.map fun b => .int .u8 b.toNat, s.size) else M.fail
 | _ => M.fail
theorem Loc.elems (size : Nat) (x : Value) : Loc (elemsM size x) := by
 unfold elemsM
 split
 ·exact Loc.bind (Loc.cells _ _) fun _ => Loc.pure _
 ·exact Loc.ite (Loc.pure _) Loc.fail
 ·exact Loc.ite (Loc.pure _) Loc.fail
 ·exact Loc.fail
theorem cellsM_spec {a A : Addr} {n : Nat} (h : AddrR ρ a A ∨ n = 0) {σ σ' : St} {c : Array Value} {H : Array Obj} (hm : cellsM a n σ = some (c, σ')) (hr : Rep P N ρ σ.heap H) :
  (∀ i, σ'.heap.get i = σ.heap.get i) ∧ σ'.next = σ.next ∧ ∃ C, RA ρ c C ∧ c.size = n ∧ ∀ w : World, w.heap = H → (loadCells A n).run P w = .ok C w := by
 unfold cellsM at hm
 split at hm
 ·cases hm
 next hsp =>
 obtain ⟨o, σ1, g1, g2⟩ := bindM_some hm
 obtain ⟨g3, g4, g5⟩ := getM_some g1
 split at g2
 next c e fz str grow ro =>
  split at g2
  next hle =>
   obtain ⟨rfl, rfl⟩ := pureM_some g2
   refine ⟨fun i => by rw [g4], g5, ?_⟩
   by_cases hn : n = 0
   ·subst hn
    have he : c.extract a.off (a.off + 0) = #[] := by apply Array.ext <;> simp <;> omega
    rw [he]
    exact ⟨#[], RA.empty _, rfl, fun w _ => rfl⟩
   ·rcases h with h | h
    ·obtain ⟨⟨κ, hb⟩, ho, hs⟩ := h
     obtain ⟨b, off, spot⟩ := A
     simp only at hb ho hs
     subst ho
     have hsp' : spot = none := by rw [hs]; simpa using hsp
     subst hsp'
     obtain ⟨C, FZ, c1, c2, c3, c4, c5, c6, c8⟩ := hr.cells g3 hb
     refine ⟨C.extract a.off (a.off + n), ⟨by simp; omega, fun i v v' e1 e2 => ?_⟩, by simp; omega, fun w hw => ?_⟩
     ·rw [Array.getElem?_extract] at e1 e2
      split at e1
      ·split at e2
       ·obtain ⟨V, q1, q2⟩ := c5 _ _ e1
        rw [q1] at e2; cases e2; exact q2
       ·cases e2
      ·cases e1
     ·rw [run_loadCells w _ _ (fun j => C.getD (a.off + j) undef)]
      ·congr 1
       apply Array.ext
       ·simp; omega
       ·intro i h3 h4
        simp only [List.size_toArray, List.length_map, List.length_range] at h3
        have : a.off + i < C.size := by omega
        simp [this]
      ·intro j hj
       have : a.off + j < C.size := by omega
       have hadd : (⟨b, a.off, none⟩ : Addr).add j = ⟨b, a.off + j, none⟩ := by unfold Addr.add; split <;> simp_all
       rw [hadd, cell?_of (by rw [hw]; exact c1)]
       simp [this]
    ·exact absurd h hn
  next => cases g2
 next => cases g2
theorem elems_spec {size : Nat} {x X : Value} (hx : R ρ x X) {σ σ' : St} {c : Array Value} {m : Nat} {H : Array Obj} (hm : elemsM size x σ = some ((c, m), σ')) (hr : Rep P N ρ σ.heap H) :
  (∀ i, σ'.heap.get i = σ.heap.get i) ∧ σ'.next = σ.next ∧ ∃ C, RA ρ c C ∧ c.size = m * size ∧ (∀ w, (Builtin.lenOf X).run P w = .ok m w) ∧
   ∀ w : World, w.heap = H → (Builtin.firstCells size m X).run P w = .ok C w := by
 unfold elemsM at hm
 split at hm
 next a n cap =>
  obtain ⟨A, c', rfl, hA, _⟩ := slice_addr hx
  obtain ⟨cs, σ1, g1, g2⟩ := bindM_some hm
  obtain ⟨g3, rfl⟩ := pureM_some g2
  cases g3
  have hA' : AddrR ρ a A ∨ m * size = 0 := by
   rcases hA with hA | hA
   ·exact .inl hA
   ·exact .inr (by rw [hA, Nat.zero_mul])
  obtain ⟨e1, e2, C, e3, e4, e5⟩ := cellsM_spec hA' g1 hr
  exact ⟨e1, e2, C, e3, e4, fun w => rfl, fun w hw => by simp [Builtin.firstCells, e5 w hw]⟩
 next n cap =>
  split at hm
  next h0 =>
   subst h0
   cases hx
   obtain ⟨g3, rfl⟩ := pureM_some hm
   cases g3
   exact ⟨fun _ => rfl, rfl, #[], RA.empty _, by simp, fun w => rfl, fun w hw => rfl⟩
  next => cases hm
 next s =>
  split at hm
  next h1 =>
   subst h1
   cases hx
   obtain ⟨g3, rfl⟩ := pureM_some hm
   cases g3
   refine ⟨fun _ => rfl, rfl, _, RA.map _ (fun b _ => .int _ _), ?_, fun w => rfl, fun w hw => rfl⟩
   rw [Array.size_map, Nat.mul_one]
   simp
  next => cases hm
 next => cases hm
theorem append_stays {ats : Array TypeId} {st xt ty elem : TypeId} {dx : TypeDesc} {size : Nat} {base : Option Addr} {sLen sCap m : Nat} {X : Value} {NEW : Array Value} {w w' : World}
  (h0 : ats[0]? = some st) (h1 : ats[1]? = some xt) (hu : P.underlying st = some (.slice elem)) (hxt : P.underlying xt = some dx) (hdx : ∀ k, dx ≠ .int k) (hs : sizeT P elem = some size)
  (hlen : ∀ w, (Builtin.lenOf X).run P w = .ok m w) (hnew : (Builtin.firstCells size m X).run P w = .ok NEW w) (hcap : sLen + m ≤ sCap)
  (hst : ∀ a, base = some a → (storeCells (a.add (sLen * size)) NEW.toList).run P w = .ok () w') (hb : base = none → w' = w) :
  (Builtin.append_ ats ty #[.slice base sLen sCap, X]).run P w = .ok (.slice base (sLen + m) sCap) w' := by
 have hm : ((dx : TypeDesc) matches .int _) = false := by cases dx <;> first | rfl | exact absurd rfl (hdx _)
 unfold Builtin.append_
 simp only [h0, h1, List.getElem?_toArray, List.getElem?_cons_zero, List.getElem?_cons_succ, Sem.run_bind, run_underlying' hu, Result.andThen_ok, run_sizeOf' hs, run_underlying' hxt, Sem.run_pure, hm, hlen,
  Bool.false_eq_true, if_false, Bool.not_false, if_true, hcap, hnew]
 cases base with
 | none => rw [hb rfl]; rfl
 | some a => simp only [hst a rfl, Sem.run_bind, Result.andThen_ok, Sem.run_pure]
theorem append_moves {ats : Array TypeId} {st xt ty elem : TypeId} {dx : TypeDesc} {i : TypeInfo} {z : Value} {base : Option Addr} {sLen sCap m : Nat} {X : Value} {OLD NEW : Array Value} {w : World}
  (h0 : ats[0]? = some st) (h1 : ats[1]? = some xt) (hu : P.underlying st = some (.slice elem)) (hxt : P.underlying xt = some dx) (hdx : ∀ k, dx ≠ .int k) (hi : P.info? elem = some i)
  (hz : ∀ w, (zeroValue elem).run P w = .ok z w)
  (hlen : ∀ w, (Builtin.lenOf X).run P w = .ok m w) (hnew : ∀ w' : World, w'.heap = w.heap → (Builtin.firstCells i.size m X).run P w' = .ok NEW w')
  (hold : ∀ w' : World, w'.heap = w.heap → (Builtin.firstCells i.size sLen (.slice base sLen sCap)).run P w' = .ok OLD w')
  (hcap : ¬ (sLen + m ≤ sCap)) (hb : i.bytes ≠ 0) (hfit : Builtin.nextslicecap (sLen + m) sCap * i.bytes ≤ 281474976710656) :
  ∃ newCap, sLen + m ≤ newCap ∧ (Builtin.append_ ats ty #[.slice base sLen sCap, X]).run P w =
   .ok (.slice (some ⟨w.heap.size, 0, none⟩) (sLen + m) newCap) { w with drawn := w.drawn + 1, heap := w.heap.push (.cells (OLD ++ NEW ++ Builtin.zeroCells z.cells (newCap - (sLen + m))) elem) } := by
 have hm : ((dx : TypeDesc) matches .int _) = false := by cases dx <;> first | rfl | exact absurd rfl (hdx _)
 have hs : sizeT P elem = some i.size := by simp [sizeT, hi]
 have hno : ¬ (Builtin.nextslicecap (sLen + m) sCap * i.bytes > 2 ^ 48) := by
  have : (2 : Nat) ^ 48 = 281474976710656 := by decide
  omega
 refine ⟨(Question.appendCap (sLen + m) sCap elem).cut (w.tape w.drawn (.appendCap (sLen + m) sCap elem)), by simp [Question.cut], ?_⟩
 generalize hq : (Question.appendCap (sLen + m) sCap elem).cut (w.tape w.drawn (.appendCap (sLen + m) sCap elem)) = newCap
 have hold' := hold { w with drawn := w.drawn + 1 } rfl
 have hnew' := hnew { w with drawn := w.drawn + 1 } rfl
 unfold Builtin.append_
 simp only [h0, h1, List.getElem?_toArray, List.getElem?_cons_zero, List.getElem?_cons_succ, Sem.run_bind, run_underlying' hu, Result.andThen_ok, run_sizeOf' hs, run_underlying' hxt, Sem.run_pure, hm, hlen,
  Bool.false_eq_true, if_false, Bool.not_false, if_true, hcap, run_typeInfo' hi, hb, false_or, and_false, hno, run_choose, Question.forced, run_askRoom, hq, hold', hnew', hz]
 rfl
end
end
end Go.Ab
end
section
namespace Go.Ab
open Go Go.RowKit
noncomputable section
section
variable {P : Program} {N : Nat} {ρ : PMap}
def notInt : TypeDesc → Bool
  | .int _ => false
  | _ => true
theorem notInt_ne {d : TypeDesc} (h : notInt d = true) : ∀ k, d ≠ .int k := by intro k e; subst e; simp [notInt] at h
def growM (elem : TypeId) (c : Array Value) (fz : Nat × Nat) (str : Bool) (need : Nat) : M ORes :=
  M.bind (newM (.cells c elem fz str true false)) fun o => M.pure (.val (.slice (some ⟨o, 0, none⟩) need bigCap))
theorem Loc.grow (elem : TypeId) (c : Array Value) (fz : Nat × Nat) (str : Bool) (need : Nat) : Loc (growM elem c fz str need) := Loc.bind (Loc.new _) fun _ => Loc.pure _
def opAppend (P : Program) (ats : Array TypeId) (s x : Value) : M ORes :=
  match ats[0]? with
  | none => M.fail
  | some st =>
  match ats[1]? with
  | none => M.fail
  | some xt =>
  match P.underlying st with
  | some (.slice elem) =>
    match P.underlying xt with
    | none => M.fail
    | some dx =>
    if notInt dx = false then M.fail else
    match P.info? elem with
    | none => M.fail
    | some i =>
    match zeroT P elem with
    | none => M.fail
    | some z =>
    match s with
    | .slice base n c =>
      M.bind (elemsM i.size x) fun xm =>
        if xm.2 = 0 then (if n ≤ c ∧ (c < halfCap ∨ base.isSome = true) then M.pure (.val (.slice base n c)) else M.fail) else
        if c < halfCap ∧ n + xm.2 ≤ c then
          match base with
          | some a => M.bind (writeCells (a.add (n * i.size)) xm.1.toList) fun _ => M.pure (.val (.slice base (n + xm.2) c))
          | none => M.fail
        else
        if n + xm.2 ≤ 1073741824 ∧ i.bytes ≤ 65536 ∧ i.bytes ≠ 0 ∧ z.cells.size = i.size then
          if c < halfCap then
            match base with
            | some a => M.bind (cellsM a (n * i.size)) fun old => growM elem (old ++ xm.1) (0, 0) false (n + xm.2)
            | none => if n = 0 then growM elem xm.1 (0, 0) false xm.2 else M.fail
          else
            match base with
            | some a =>
              if a.off = 0 ∧ c = bigCap then
                M.bind (getM a.block) fun ob => match ob with
                  | .cells cc e fz str grow ro =>
                    if grow = true ∧ ro = false ∧ e = elem ∧ cc.size = n * i.size ∧ fz.2 ≤ cc.size ∧ xm.1.toList.all leaf = true ∧ 0 < i.size then
                      M.bind (delM a.block) fun _ => growM elem (cc ++ xm.1) fz str (n + xm.2)
                    else M.fail
                  | _ => M.fail
              else M.fail
            | none => M.fail
        else M.fail
    | _ => M.fail
  | _ => M.fail
theorem Loc.opAppend (ats : Array TypeId) (s x : Value) : Loc (opAppend P ats s x) := by
  unfold Ab.opAppend
  repeat' split
  all_goals first
    | exact Loc.fail
    | (refine Loc.bind (Loc.elems _ _) fun xm => ?_
       repeat' split
       all_goals first
         | exact Loc.fail
         | exact Loc.pure _
         | exact Loc.bind (Loc.writeCells _ _) fun _ => Loc.pure _
         | exact Loc.bind (Loc.cells _ _) fun _ => Loc.grow _ _ _ _ _
         | exact Loc.grow _ _ _ _ _
         | (refine Loc.bind (Loc.get _) fun ob => ?_
            repeat' split
            all_goals first
              | exact Loc.fail
              | exact Loc.bind (Loc.del _) fun _ => Loc.grow _ _ _ _ _))
theorem delM_some {i : Nat} {σ σ' : St} {u : Unit} (h : delM i σ = some (u, σ')) :
    σ'.next = σ.next ∧ σ'.heap.get i = none ∧ (∀ j, i ≠ j → σ'.heap.get j = σ.heap.get j) := by
  rw [delM_eq] at h
  unfold delM0 at h
  split at h
  next hi =>
    cases hg : σ.heap.get i with
    | none => rw [hg] at h; cases h
    | some o' =>
      rw [hg] at h; simp only [Option.some.injEq, Prod.mk.injEq] at h
      obtain ⟨_, rfl⟩ := h
      exact ⟨rfl, get_put hi, fun j hj => get_put_ne hj⟩
  next => cases h
theorem zeroCells_size (z : Array Value) (n : Nat) : (Builtin.zeroCells z n).size = n * z.size := by simp [Builtin.zeroCells]
theorem moved {σ σ' : St} {w : World} {elem : TypeId} {c OLDNEW : Array Value} {fz : Nat × Nat} {str : Bool} {need newCap size : Nat} {z : Array Value} {r : ORes}
    (hm : growM elem c fz str need σ = some (r, σ')) (hr : Rep P N ρ σ.heap w.heap) (hN : N ≤ w.heap.size) (hf : ∀ i, σ.next ≤ i → i < σ'.next → ρ i = none)
    (hc : RA ρ c OLDNEW) (hsz : c.size = need * size) (hcap : need ≤ newCap) (hz : z.size = size) (hse : sizeT P elem = some size) :
    ∃ ρ' V, ORel ρ' r (.value V) ∧ V = .slice (some ⟨w.heap.size, 0, none⟩) need newCap ∧
      Step P N ρ σ w ρ' σ' { w with drawn := w.drawn + 1, heap := w.heap.push (.cells (OLDNEW ++ Builtin.zeroCells z (newCap - need)) elem) } := by
  unfold growM at hm
  obtain ⟨o, σ1, g1, g2⟩ := bindM_some hm
  obtain ⟨rfl, rfl⟩ := pureM_some g2
  obtain ⟨rfl, h1, h2, h3⟩ := newM_some g1
  have hρ : ρ σ.next = none := hf σ.next (Nat.le_refl _) (by omega)
  have hle := PMap.le_set (ρ := ρ) (w.heap.size, newCap) hρ
  refine ⟨ρ.set σ.next (w.heap.size, newCap), _, .val ?_, rfl, hle, fun j x e => ?_, ?_, ?_⟩
  · exact .slice σ.next 0 w.heap.size newCap need bigCap 0 newCap (PMap.set_same _ _ _) hcap (.inr ⟨by unfold halfCap bigCap; omega, by omega⟩) (.inl rfl)
  · by_cases hj : j = σ.next
    · subst hj; exact .inr ⟨Nat.le_refl _, by omega⟩
    · rw [PMap.set_ne _ (Ne.symm hj)] at e; exact .inl e
  · refine hr.alloc (o := .cells c elem fz str true false) (κ := newCap) hN hρ ⟨_, (0, 0), rfl, ?_, fun e => (by cases e), fun _ => ?_, fun i v hv => ?_, fun k _ h1 h2 => (by simp at h2), fun _ => Nat.le_refl _⟩ h2 h3
    · rw [Array.size_append, ← hc.size]; omega
    · have hcell : P.cellsOf elem = size := by unfold Program.cellsOf; unfold sizeT at hse; rw [hse]; rfl
      rw [Array.size_append, ← hc.size, zeroCells_size, hz, hsz, hcell, ← Nat.add_mul]
      congr 1; omega
    · obtain ⟨V, e1, e2⟩ := hc.get hv
      refine ⟨V, ?_, e2.mono hle⟩
      have : i < OLDNEW.size := (Array.getElem?_eq_some_iff.1 e1).1
      rw [Array.getElem?_append, if_pos this]; exact e1
  · refine ⟨rfl, rfl, rfl, by simp, fun k hk => ?_⟩
    simp only [Array.getElem?_push]
    rw [if_neg (by omega)]
theorem fits {need c bytes : Nat} (h : c < need) (h1 : need ≤ 1073741824) (h2 : bytes ≤ 65536) : Builtin.nextslicecap need c * bytes ≤ 281474976710656 := by
  refine growslice_fits h ?_
  calc need * bytes ≤ 1073741824 * 65536 := Nat.mul_le_mul h1 h2
    _ ≤ 140737488355328 := by decide
theorem size_of_info {t : TypeId} {i : TypeInfo} (h : P.info? t = some i) : sizeT P t = some i.size := by simp [sizeT, h]
set_option maxHeartbeats 1000000 in
theorem sim_opAppend (ats : Array TypeId) (ty : TypeId) {s x S X : Value} (hs : R ρ s S) (hx : R ρ x X) :
    Sim P N ρ (opAppend P ats s x) (do Pure.pure (Next.value (← Builtin.append_ ats ty #[S, X])) : Sem Next) ORel := by
  intro σ r σ' w hm hr hN hf
  unfold Ab.opAppend at hm
  cases h0 : ats[0]? with
  | none => rw [h0] at hm; cases hm
  | some st =>
  rw [h0] at hm
  cases h1 : ats[1]? with
  | none => rw [h1] at hm; cases hm
  | some xt =>
  rw [h1] at hm
  dsimp only at hm
  cases hu : P.underlying st with
  | none => rw [hu] at hm; cases hm
  | some d =>
  rw [hu] at hm
  cases d with
  | slice elem =>
    dsimp only at hm
    cases hxt : P.underlying xt with
    | none => rw [hxt] at hm; cases hm
    | some dx =>
    rw [hxt] at hm
    dsimp only at hm
    by_cases hni : notInt dx = false
    · rw [if_pos hni] at hm; cases hm
    rw [if_neg hni] at hm
    have hdx : ∀ k, dx ≠ .int k := notInt_ne (by simpa using hni)
    cases hi : P.info? elem with
    | none => rw [hi] at hm; cases hm
    | some i =>
    rw [hi] at hm
    dsimp only at hm
    have hsz := size_of_info hi
    cases hz : zeroT P elem with
    | none => rw [hz] at hm; cases hm
    | some z =>
    rw [hz] at hm
    dsimp only at hm
    obtain ⟨hz1, hz2⟩ := zeroT_run hz
    cases s with
    | slice base n c =>
      dsimp only at hm
      obtain ⟨⟨xs, m⟩, σ1, g1, g2⟩ := bindM_some hm
      obtain ⟨e1, e2, XS, e3, e4, e5, e6⟩ := elems_spec hx g1 hr
      have hr1 : Rep P N ρ σ1.heap w.heap := hr.congr e1
      have hf1 : ∀ i, σ1.next ≤ i → i < σ'.next → ρ i = none := fun i a b => hf i (by omega) b
      dsimp only at g2
      by_cases hm0 : m = 0
      · rw [if_pos hm0] at g2
        subst hm0
        by_cases hc : n ≤ c ∧ (c < halfCap ∨ base.isSome = true)
        · rw [if_pos hc] at g2
          obtain ⟨rfl, rfl⟩ := pureM_some g2
          have hXS : XS.toList = [] := by
            have : XS.size = 0 := by rw [← e3.size, e4, Nat.zero_mul]
            simpa using this
          have : ∃ BASE c', S = .slice BASE n c' ∧ n ≤ c' := by
            cases hs with
            | sliceNil => exact ⟨none, c, rfl, hc.1⟩
            | slice i off b κ _ _ off' c' hb hn hcap ho => exact ⟨_, c', rfl, hn⟩
          obtain ⟨BASE, c', rfl, hn⟩ := this
          refine ⟨ρ, .value (.slice BASE n c'), w, ?_, .val hs, PMap.le_refl _, fun _ _ e => .inl e, hr1, Below.refl _ _⟩
          have hrun := append_stays (P := P) (ty := ty) (base := BASE) (sLen := n) (sCap := c') (m := 0) (w' := w) h0 h1 hu hxt hdx hsz e5 (e6 w rfl) (by omega) (fun a _ => by rw [hXS]; rfl) (fun _ => rfl)
          simp only [Sem.run_bind, hrun, Result.andThen_ok]; rfl
        · rw [if_neg hc] at g2; cases g2
      rw [if_neg hm0] at g2
      by_cases hk : c < halfCap ∧ n + m ≤ c
      · 
        rw [if_pos hk] at g2
        cases base with
        | none => cases g2
        | some a =>
          dsimp only at g2
          obtain ⟨u, σ2, g3, g4⟩ := bindM_some g2
          obtain ⟨rfl, rfl⟩ := pureM_some g4
          obtain ⟨A, rfl, hA⟩ : ∃ A, S = .slice (some A) n c ∧ AddrR ρ a A := by
            cases hs with
            | slice i off b κ _ _ off' c' hb hn hcap ho =>
              obtain rfl : c' = c := by rcases hcap with ⟨_, e⟩ | ⟨e, _⟩ <;> omega
              obtain rfl : off' = off := by rcases ho with ho | ho <;> omega
              exact ⟨_, rfl, ⟨κ, hb⟩, rfl, rfl⟩
          obtain ⟨ρ2, u', w2, r2, _, st2⟩ := Sim.writeCells (P := P) (hA.add (n * i.size)) e3.ls σ1 u σ2 w g3 hr1 hN hf1
          obtain ⟨_, _, l1⟩ := Loc.writeCells (a.add (n * i.size)) xs.toList _ _ _ g3
          refine ⟨ρ2, .value (.slice (some A) (n + m) c), w2, ?_, .val ?_, st2.le, fun j y e => ?_, st2.rep, st2.below⟩
          · have hrun := append_stays (P := P) (ty := ty) (base := some A) (sLen := n) (sCap := c) (m := m) (w' := w2) h0 h1 hu hxt hdx hsz e5 (e6 w rfl) hk.2 (fun a' ha' => by cases ha'; exact r2) (fun h => by cases h)
            simp only [Sem.run_bind, hrun, Result.andThen_ok]; rfl
          · cases hs with
            | slice i off b κ _ _ off' c' hb hn hcap ho => exact .slice i off b κ _ _ _ _ (st2.le _ _ hb) hk.2 hcap ho
          · rcases st2.dom j y e with q | ⟨q1, q2⟩
            · exact .inl q
            · exact .inr ⟨by omega, q2⟩
      rw [if_neg hk] at g2
      by_cases hfit : n + m ≤ 1073741824 ∧ i.bytes ≤ 65536 ∧ i.bytes ≠ 0 ∧ z.cells.size = i.size
      · rw [if_pos hfit] at g2
        obtain ⟨f1, f2, f3, f4⟩ := hfit
        by_cases hck : c < halfCap
        · rw [if_pos hck] at g2
          have hnk : ¬ (n + m ≤ c) := fun h => hk ⟨hck, h⟩
          cases base with
          | none =>
            dsimp only at g2
            by_cases hn0 : n = 0
            · rw [if_pos hn0] at g2
              subst hn0
              cases hs
              obtain ⟨newCap, q1, q2⟩ := append_moves (P := P) (ty := ty) (OLD := #[]) (base := none) (sLen := 0) (sCap := c) h0 h1 hu hxt hdx hi hz1 e5 e6 (fun w' _ => rfl) hnk f3 (fits (by omega) f1 f2)
              obtain ⟨ρ', V, v1, rfl, v3⟩ := moved (newCap := newCap) (z := z.cells) (need := m) g2 hr1 hN hf1 e3 e4 (by omega) f4 hsz
              rw [Nat.zero_add] at q2
              refine ⟨ρ', _, _, ?_, v1, v3.le, fun j y e => ?_, v3.rep, v3.below⟩
              · simp only [Sem.run_bind, q2, Result.andThen_ok, Array.empty_append]; rfl
              · rcases v3.dom j y e with q | ⟨q1, q2⟩
                · exact .inl q
                · exact .inr ⟨by omega, q2⟩
            · rw [if_neg hn0] at g2; cases g2
          | some a =>
            dsimp only at g2
            obtain ⟨old, σ2, g3, g4⟩ := bindM_some g2
            obtain ⟨A, rfl, hA⟩ : ∃ A, S = .slice (some A) n c ∧ (AddrR ρ a A ∨ n * i.size = 0) := by
              cases hs with
              | slice ii off b κ _ _ off' c' hb hn hcap ho =>
                obtain rfl : c' = c := by rcases hcap with ⟨_, e⟩ | ⟨e, _⟩ <;> omega
                refine ⟨_, rfl, ?_⟩
                rcases ho with ho | ho
                · subst ho; exact .inl ⟨⟨κ, hb⟩, rfl, rfl⟩
                · exact .inr (by rw [show n = 0 by omega, Nat.zero_mul])
            obtain ⟨o1, o2, OLD, o3, o4, o5⟩ := cellsM_spec hA g3 hr1
            obtain ⟨newCap, q1, q2⟩ := append_moves (P := P) (ty := ty) (OLD := OLD) h0 h1 hu hxt hdx hi hz1 e5 e6 (base := some A) (sLen := n) (sCap := c) (fun w' hw' => by simp [Builtin.firstCells, o5 w' hw']) hnk f3 (fits (by omega) f1 f2)
            obtain ⟨ρ', V, v1, rfl, v3⟩ := moved (newCap := newCap) (z := z.cells) (need := n + m) g4 (hr1.congr o1) hN (fun i a b => hf1 i (by omega) b) (o3.append e3) (by rw [Array.size_append, o4, e4, Nat.add_mul]) (by omega) f4 hsz
            refine ⟨ρ', _, _, ?_, v1, v3.le, fun j y e => ?_, v3.rep, v3.below⟩
            · simp only [Sem.run_bind, q2, Result.andThen_ok]; rfl
            · rcases v3.dom j y e with q | ⟨q1, q2⟩
              · exact .inl q
              · exact .inr ⟨by omega, q2⟩
        · rw [if_neg hck] at g2
          cases base with
          | none => cases g2
          | some a =>
            dsimp only at g2
            by_cases ha0 : a.off = 0 ∧ c = bigCap
            · rw [if_pos ha0] at g2
              obtain ⟨ob, σ2, g3, g4⟩ := bindM_some g2
              obtain ⟨b1, b2, b3⟩ := getM_some g3
              cases ob with
              | cells cc e fz str grow ro =>
                dsimp only at g4
                by_cases hcond : grow = true ∧ ro = false ∧ e = elem ∧ cc.size = n * i.size ∧ fz.2 ≤ cc.size ∧ xs.toList.all leaf = true ∧ 0 < i.size
                · rw [if_pos hcond] at g4
                  obtain ⟨rfl, rfl, rfl, k4, k5, k6, k7⟩ := hcond
                  obtain ⟨u, σ3, g5, g6⟩ := bindM_some g4
                  obtain ⟨d1, d2, d3⟩ := delM_some g5
                  obtain ⟨hao, rfl⟩ := ha0
                  cases hs with
                  | slice ii off b κ _ _ off' c' hb hn hcap ho =>
                  simp only at hao b1 d2 d3
                  subst hao
                  obtain rfl : c' = κ := by
                    rcases hcap with ⟨e, _⟩ | ⟨_, e⟩
                    · unfold halfCap bigCap at e; omega
                    · omega
                  obtain ⟨C, FZ, c1, c2, c3, c4, c5, c6, c8⟩ := hr1.cells b1 hb
                  have hcell : P.cellsOf e = i.size := by unfold Program.cellsOf; unfold sizeT at hsz; rw [hsz]; rfl
                  have hCs : C.size = c' * i.size := by rw [c4 rfl, hcell]
                  by_cases hroom : n + m ≤ c'
                  · 
                    have hoff : off' = 0 := by rcases ho with ho | ho <;> omega
                    subst hoff
                    unfold growM at g6
                    obtain ⟨o, σ4, g7, g8⟩ := bindM_some g6
                    obtain ⟨rfl, rfl⟩ := pureM_some g8
                    obtain ⟨rfl, n1, n2, n3⟩ := newM_some g7
                    have hnew : ρ σ3.next = none := hf1 _ (by omega) (by omega)
                    have hle : n * i.size + XS.toList.length ≤ C.size := by
                      rw [Array.length_toList, ← e3.size, e4, hCs, ← Nat.add_mul]; exact Nat.mul_le_mul_right _ hroom
                    have hst := run_storeCells' (P := P) (off := n * i.size) XS.toList 0 C w c1 (by omega) (e3.ls.all_leaf k6) (by
                      simp only [Nat.add_zero]
                      exact frozen_no c6 hle (.inr (by omega)))
                    have hadd : (⟨b, 0, none⟩ : Addr).add (n * i.size) = ⟨b, n * i.size, none⟩ := by unfold Addr.add; split <;> simp_all
                    have hrun := append_stays (P := P) (ty := ty) (base := some ⟨b, 0, none⟩) (sLen := n) (sCap := c') (m := m) h0 h1 hu hxt hdx hsz e5 (e6 w rfl) hroom (fun a' ha' => by cases ha'; rw [hadd]; exact hst) (fun h => by cases h)
                    have hls := PMap.le_set (ρ := ρ) (b, c') hnew
                    refine ⟨ρ.set σ3.next (b, c'), _, _, by simp only [Sem.run_bind, hrun, Result.andThen_ok]; rfl, .val ?_, hls, fun j y e => ?_, ?_, ?_⟩
                    · exact .slice σ3.next 0 b c' _ bigCap 0 c' (PMap.set_same _ _ _) hroom hcap (.inl rfl)
                    · by_cases hj : j = σ3.next
                      · subst hj; exact .inr ⟨by omega, by omega⟩
                      · rw [PMap.set_ne _ (Ne.symm hj)] at e; exact .inl e
                    · rw [withHeap_heap]
                      refine hr1.move (j := σ3.next) (o' := .cells (cc ++ xs) e fz str true false) b1 hb rfl hnew ?_ rfl ?_ n2 ?_
                      · refine ⟨splice C (n * i.size + 0) XS.toList, FZ, rfl, ?_, fun e => (by cases e), fun _ => by rw [splice_size]; exact c4 rfl, fun k v hv => ?_, by rw [splice_size]; exact c6, fun _ => (c8 rfl).2⟩
                        · rw [splice_size, Array.size_append, k4, e3.size]; rw [Array.length_toList] at hle; exact hle
                        · rw [Nat.add_zero, splice_get _ _ _ _ hle]
                          rw [Array.getElem?_append] at hv
                          split at hv
                          next hlt =>
                            rw [if_neg (by omega)]
                            obtain ⟨V, q1, q2⟩ := c5 k v hv
                            exact ⟨V, q1, q2.mono hls⟩
                          next hge =>
                            obtain ⟨V, q1, q2⟩ := e3.get hv
                            have hk : k - cc.size < xs.size := (Array.getElem?_eq_some_iff.1 hv).1
                            rw [if_pos (by rw [Array.length_toList, ← e3.size]; omega)]
                            exact ⟨V, by rw [← k4]; simpa using q1, q2.mono hls⟩
                      · have hne : σ3.next ≠ ii := fun e => by rw [← e, hnew] at hb; cases hb
                        rw [n3 ii hne]; exact d2
                      · intro k hk1 hk2
                        rw [n3 k hk2, d3 k hk1, b2]
                    · have hN' := (c8 rfl).1
                      refine ⟨rfl, rfl, rfl, by simp [withHeap], fun k hk => ?_⟩
                      rw [withHeap_heap, Array.getElem?_setIfInBounds, if_neg (by omega)]
                  · 
                    have hr3 : Rep P N ρ σ3.heap w.heap := hr1.del d2 (fun j hj => by rw [d3 j hj, b2])
                    have hOLD : RA ρ cc (C.extract 0 (n * i.size)) := by
                      refine ⟨by simp; omega, fun k v v' a1 a2 => ?_⟩
                      obtain ⟨V, q1, q2⟩ := c5 k v a1
                      have hk : k < cc.size := (Array.getElem?_eq_some_iff.1 a1).1
                      rw [Array.getElem?_extract, Nat.zero_add, if_pos (by omega)] at a2
                      rw [q1] at a2; cases a2; exact q2
                    obtain ⟨newCap, q1, q2⟩ := append_moves (P := P) (ty := ty) (OLD := C.extract 0 (n * i.size)) h0 h1 hu hxt hdx hi hz1 e5 e6 (base := some ⟨b, off', none⟩) (sLen := n) (sCap := c') (fun w' hw' => by
                      have hadd : ∀ k, (⟨b, off', none⟩ : Addr).add k = ⟨b, off' + k, none⟩ := by intro k; unfold Addr.add; split <;> simp_all
                      by_cases hn0 : n = 0
                      · subst hn0
                        have : C.extract 0 0 = #[] := by apply Array.ext <;> simp
                        simp only [Builtin.firstCells, Nat.zero_mul, loadCells, loadCellsFrom, this]; rfl
                      · have hoff : off' = 0 := by rcases ho with ho | ho <;> omega
                        subst hoff
                        have hlen : n * i.size ≤ C.size := by omega
                        simp only [Builtin.firstCells]
                        rw [run_loadCells w' _ _ (fun j => C.getD j undef)]
                        · congr 1
                          apply Array.ext
                          · simp; omega
                          · intro k h3 h4
                            simp only [List.size_toArray, List.length_map, List.length_range] at h3
                            have : k < C.size := by omega
                            simp [this]
                        · intro j hj
                          have : j < C.size := by omega
                          rw [hadd, Nat.zero_add, cell?_of (by rw [hw']; exact c1)]
                          simp [this]) hroom f3 (fits (by omega) f1 f2)
                    obtain ⟨ρ', V, v1, rfl, v3⟩ := moved (newCap := newCap) (z := z.cells) (need := n + m) g6 hr3 hN (fun i a b => hf1 i (by omega) b) (hOLD.append e3) (by rw [Array.size_append, k4, e4, Nat.add_mul]) (by omega) f4 hsz
                    refine ⟨ρ', _, _, ?_, v1, v3.le, fun j y e => ?_, v3.rep, v3.below⟩
                    · simp only [Sem.run_bind, q2, Result.andThen_ok]; rfl
                    · rcases v3.dom j y e with q | ⟨q1, q2⟩
                      · exact .inl q
                      · exact .inr ⟨by omega, q2⟩
                · rw [if_neg hcond] at g4; cases g4
              | _ => cases g4
            · rw [if_neg ha0] at g2; cases g2
      · rw [if_neg hfit] at g2; cases g2
    | _ => cases hm
  | _ => cases hm
end
end
end Go.Ab
end
