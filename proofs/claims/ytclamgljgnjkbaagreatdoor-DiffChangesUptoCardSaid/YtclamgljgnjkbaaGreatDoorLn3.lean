/-
  Part of the proof of DiffChangesUptoCardSaid: what Diff.Between says of two rows of leaves, Back turns and Apply takes, up to the bulk that the card names.
  A proof for this seat's program alone; the parts of the words that it needs were printed by the kit, and cut to what is used.
-/
import Derived.Test.YtclamgljgnjkbaaGreatDoorLn2
set_option linter.all false
section
namespace Go.Ab
open Go Go.RowKit
noncomputable section
inductive ORes where
 | val (v : Value)
 | skip
 | call (f : FuncId) (args : Array Value)
 | round (l : Nat) (fn : FuncId) (tmps : Tm) (assign body : Code)
inductive ORel (ρ : PMap) : ORes → Next → Prop
 | val {v V : Value} (h : R ρ v V) : ORel ρ (.val v) (.value V)
 | skip : ORel ρ .skip .skip
 | call {f : FuncId} {a A : Array Value} (h : RA ρ a A) : ORel ρ (.call f a) (.enter f A)
 | round {l b κ : Nat} {fn : FuncId} {t : Tm} {T : Array Value} {assign body : Code} (hl : ρ l = some (b, κ)) (h : RT ρ t T) : ORel ρ (.round l fn t assign body) (.round b fn T assign body)
def pureRun (P : Program) {α : Type} : Nat → Sem α → Option α
 | _, .pure a => some a
 | n + 1, .program k => pureRun P n (k P)
 | n + 1, .mark _ k => pureRun P n k
 | _, _ => none
theorem pureRun_run {P : Program} {α : Type} : ∀ (n : Nat) {s : Sem α} {a : α}, pureRun P n s = some a → ∀ w, s.run P w = .ok a w := by
 intro n
 induction n with
 | zero => intro s a h w; cases s <;> simp_all [pureRun, Sem.run]
 | succ n ih =>
  intro s a h w
  cases s with
  | pure b => simp_all [pureRun, Sem.run]
  | program k => simp only [pureRun] at h; simp only [Sem.run]; exact ih h w
  | mark m k => simp only [pureRun] at h; simp only [Sem.run]; exact ih h w
  | _ => simp [pureRun] at h
section
variable {P : Program} {N : Nat} {ρ : PMap}
theorem R.cells {v V : Value} (h : R ρ v V) : RA ρ v.cells V.cells := by
 cases h with
 | agg x x' hx hx' => exact ⟨hx, hx'⟩
 | bool b => exact RA.single (.bool b)
 | int k n => exact RA.single (.int k n)
 | string s => exact RA.single (.string s)
 | ptrNil => exact RA.single .ptrNil
 | ptr a b κ h => exact RA.single (.ptr a b κ h)
 | sliceNil n c => exact RA.single (.sliceNil n c)
 | slice i off b κ n c off' c' h hn hc ho => exact RA.single (.slice i off b κ n c off' c' h hn hc ho)
 | mapNil => exact RA.single .mapNil
 | map i b κ h => exact RA.single (.map i b κ h)
 | func fn fn' x x' y y' hf hx hy hx' hy' => exact RA.single (.func fn fn' x x' y y' hf hx hy hx' hy')
 | nilFunc => exact RA.single .nilFunc
 | iface t v v' h => exact RA.single (.iface t v v' h)
 | nilIface => exact RA.single .nilIface
 | tuple x x' hx hx' => exact RA.single (.tuple x x' hx hx')
theorem RA.ls {x X : Array Value} (h : RA ρ x X) : RLs ρ x.toList X.toList := by
 refine ⟨by simpa using h.size, fun i v V a b => h.at_ i v V (by simpa using a) (by simpa using b)⟩
theorem RA.of_scalar {x : Array Value} {d : Nat} (h : x.all (scalar d) = true) : RA ρ x x := by
 refine ⟨rfl, fun i v v' a b => ?_⟩
 rw [a] at b; cases b
 rw [Array.all_eq_true] at h
 obtain ⟨hi, rfl⟩ := Array.getElem?_eq_some_iff.1 a
 exact scalar_R d (h i hi)
def zeroT (P : Program) (t : TypeId) : Option Value :=
 match P.info? t with
 | some i => match i.zero with
  | some v => if v.cells.all (scalar 3) then some v else none
  | none => none
 | none => none
theorem zeroT_run {t : TypeId} {v : Value} (h : zeroT P t = some v) : (∀ w, (zeroValue t).run P w = .ok v w) ∧ v.cells.all (scalar 3) = true := by
 unfold zeroT at h
 cases hi : P.info? t with
 | none => rw [hi] at h; cases h
 | some i =>
  rw [hi] at h
  simp only at h
  cases hz : i.zero with
  | none => rw [hz] at h; cases h
  | some u =>
   rw [hz] at h
   simp only at h
   split at h
   ·cases h
    exact ⟨fun w => by simp [zeroValue, run_typeInfo' hi, hz], by assumption⟩
   ·cases h
def ptrM (m : M Addr) : M ORes := M.bind m fun a => M.pure (.val (.pointer (some a)))
def valM (m : M Value) : M ORes := M.bind m fun a => M.pure (.val a)
theorem Loc.ptr {m : M Addr} (h : Loc m) : Loc (ptrM m) := Loc.bind h fun _ => Loc.pure _
theorem Loc.val {m : M Value} (h : Loc m) : Loc (valM m) := Loc.bind h fun _ => Loc.pure _
theorem Sim.val {m : M Value} {s : Sem Value} (h : Sim P N ρ m s (fun ρ v V => R ρ v V)) (l : Loc m) : Sim P N ρ (valM m) (do Pure.pure (Next.value (← s)) : Sem Next) ORel :=
 Sim.bind h l (fun _ => Loc.pure _) fun _ _ _ _ hb => Sim.pure (.val hb)
def opAlloc (P : Program) (elem : TypeId) : M ORes :=
 match zeroT P elem with
 | some z => ptrM (newRowM elem z.cells)
 | none => M.fail
theorem Loc.opAlloc (elem : TypeId) : Loc (opAlloc P elem) := by
 unfold Ab.opAlloc; split
 ·exact Loc.ptr (Loc.newRow _ _)
 ·exact Loc.fail
theorem Sim.opAlloc (elem : TypeId) : Sim P N ρ (opAlloc P elem) (do Pure.pure (Next.value (← Instr.alloc elem true (.tuple #[]))) : Sem Next) ORel := by
 unfold Ab.opAlloc
 split
 next z hz =>
  obtain ⟨h1, h2⟩ := zeroT_run hz
  refine Sim.congr (s := (Go.newRow elem z.cells >>= fun a => Pure.pure (Next.value (.pointer (some a))))) ?_ ?_
  ·exact Sim.bind (Sim.newRow (RA.of_scalar h2)) (Loc.newRow _ _) (fun _ => Loc.pure _) fun _ _ _ _ h => Sim.pure (ORel.val h.1.R)
  ·intro w
   simp only [Instr.alloc, newVar, Sem.run_bind, h1, Result.andThen_ok]
   cases (Go.newRow elem z.cells).run P w <;> rfl
 next => exact Sim.fail
def opBox (elem : TypeId) (v : Value) : M ORes := ptrM (newRowM elem v.cells)
theorem Loc.opBox (elem : TypeId) (v : Value) : Loc (opBox elem v) := Loc.ptr (Loc.newRow _ _)
theorem Sim.opBox (elem : TypeId) {v V : Value} (h : R ρ v V) : Sim P N ρ (opBox elem v) (do Pure.pure (Next.value (← Instr.box elem V)) : Sem Next) ORel := by
 refine Sim.congr (s := (Go.newRow elem V.cells >>= fun a => Pure.pure (Next.value (.pointer (some a))))) ?_ ?_
 ·exact Sim.bind (Sim.newRow h.cells) (Loc.newRow _ _) (fun _ => Loc.pure _) fun _ _ _ _ h => Sim.pure (ORel.val h.1.R)
 ·intro w
  simp only [Instr.box, newVar, Sem.run_bind]
  cases (Go.newRow elem V.cells).run P w <;> rfl
theorem fill_R {place : Nat → Option (Nat × Nat)} : ∀ (l L : List (Nat × Value)) (c C r : Array Value), RA ρ c C →
  l.length = L.length → (∀ (i : Nat) p q, l[i]? = some p → L[i]? = some q → q.1 = p.1 ∧ R ρ p.2 q.2) → Instr.fill place c l = some r → ∃ r', Instr.fill place C L = some r' ∧ RA ρ r r' := by
 intro l
 induction l with
 | nil =>
  intro L c C r hc hl _ h
  cases L with
  | nil => simp only [Instr.fill, Option.some.injEq] at h; subst h; exact ⟨C, rfl, hc⟩
  | cons => simp at hl
 | cons p l ih =>
  intro L c C r hc hl hp h
  cases L with
  | nil => simp at hl
  | cons q L =>
   obtain ⟨i, v⟩ := p
   obtain ⟨j, V⟩ := q
   obtain ⟨h1, h2⟩ := hp 0 (i, v) (j, V) rfl rfl
   simp only at h1 h2
   subst h1
   simp only [Instr.fill] at h ⊢
   cases hpl : place j with
   | none => rw [hpl] at h; cases h
   | some pl =>
    obtain ⟨off, size⟩ := pl
    rw [hpl] at h
    simp only at h ⊢
    have hcs := h2.cells
    have e1 : V.cells.size = v.cells.size := hcs.size.symm
    have e2 : C.size = c.size := hc.size.symm
    rw [e1, e2]
    split at h
    ·cases h
    ·rename_i hcond
     rw [if_neg hcond]
     refine ih L _ _ r ?_ (by simpa using hl) (fun i p q a b => hp (i + 1) p q (by simpa using a) (by simpa using b)) h
     have key : ∀ (xs XS : List (Value × Nat)) (c C : Array Value), RA ρ c C → xs.length = XS.length → (∀ (i : Nat) p q, xs[i]? = some p → XS[i]? = some q → q.2 = p.2 ∧ R ρ p.1 q.1) →
       RA ρ (xs.foldl (fun cs (x : Value × Nat) => cs.setIfInBounds (off + x.2) x.1) c) (XS.foldl (fun cs (x : Value × Nat) => cs.setIfInBounds (off + x.2) x.1) C) := by
      intro xs
      induction xs with
      | nil => intro XS c C hc hl _; cases XS with
       | nil => exact hc
       | cons => simp at hl
      | cons x xs ih => intro XS c C hc hl hx; cases XS with
       | nil => simp at hl
       | cons y XS =>
        obtain ⟨a1, a2⟩ := hx 0 x y rfl rfl
        simp only [List.foldl_cons]
        rw [a1]
        exact ih XS _ _ (hc.set _ a2) (by simpa using hl) (fun i p q a b => hx (i + 1) p q (by simpa using a) (by simpa using b))
     have hz : ∀ (x : Array Value) (f : Array Value → Value × Nat → Array Value) (c : Array Value), x.zipIdx.foldl f c = (x.toList.zipIdx).foldl f c := by
      intro x f c
      rw [← Array.foldl_toList, Array.toList_zipIdx]
     rw [hz, hz]
     refine key _ _ c C hc (by simp [hcs.size]) fun i p q a b => ?_
     simp only [List.getElem?_zipIdx, Option.map_eq_some_iff] at a b
     obtain ⟨u, hu, rfl⟩ := a
     obtain ⟨u', hu', rfl⟩ := b
     exact ⟨rfl, hcs.at_ i u u' (by simpa using hu) (by simpa using hu')⟩
def placesOf (P : Program) (t : TypeId) : Option (Nat → Option (Nat × Nat)) :=
 match P.underlying t with
 | some (.struct fields) =>
  if fields.all (fun f => (sizeT P f.type).isSome) then some (fun i => (fields[i]?).map fun f => (f.offset, (sizeT P f.type).getD 0)) else none
 | some (.array _ elem) => match sizeT P elem with
  | some n => some (fun i => some (i * n, n))
  | none => none
 | _ => none
theorem mapM_places (fields : List Field) (h : fields.all (fun f => (sizeT P f.type).isSome) = true) (w : World) :
  (fields.mapM fun f => (do Pure.pure (f.offset, ← sizeOf f.type) : Sem (Nat × Nat))).run P w = .ok (fields.map fun f => (f.offset, (sizeT P f.type).getD 0)) w := by
 induction fields with
 | nil => rfl
 | cons f r ih =>
  simp only [List.all_cons, Bool.and_eq_true] at h
  obtain ⟨n, hn⟩ := Option.isSome_iff_exists.1 h.1
  simp only [List.mapM_cons, Sem.run_bind, run_sizeOf' hn, Result.andThen_ok, Sem.run_pure, ih h.2, List.map_cons, hn, Option.getD_some]
def opBuild (P : Program) (t : TypeId) (parts : List (Nat × Value)) : M ORes :=
 match zeroT P t with
 | some z => match placesOf P t with
  | some pl => match Instr.fill pl z.cells parts with
   | some c => M.pure (.val (.agg c))
   | none => M.fail
  | none => M.fail
 | none => M.fail
theorem Loc.opBuild (t : TypeId) (parts : List (Nat × Value)) : Loc (opBuild P t parts) := by
 unfold Ab.opBuild
 repeat' split
 all_goals first | exact Loc.fail | exact Loc.pure _
theorem R.aggA {x X : Array Value} (h : RA ρ x X) : R ρ (.agg x) (.agg X) := .agg x X h.size h.at_
theorem Sim.opBuild (t : TypeId) {parts PARTS : Array (Nat × Value)} (hl : parts.toList.length = PARTS.toList.length)
  (hp : ∀ (i : Nat) p q, parts.toList[i]? = some p → PARTS.toList[i]? = some q → q.1 = p.1 ∧ R ρ p.2 q.2) :
  Sim P N ρ (opBuild P t parts.toList) (do Pure.pure (Next.value (← Instr.build t PARTS)) : Sem Next) ORel := by
 unfold Ab.opBuild
 split
 next z hz =>
  obtain ⟨h1, h2⟩ := zeroT_run hz
  split
  next pl hpl =>
   split
   next c hc =>
    obtain ⟨c', h3, h4⟩ := fill_R _ _ _ _ _ (RA.of_scalar h2) hl hp hc
    refine Sim.congr (s := (Pure.pure (Next.value (.agg c')) : Sem Next)) (Sim.pure (.val (R.aggA h4))) fun w => ?_
    unfold placesOf at hpl
    split at hpl
    next fields hu =>
     split at hpl
     next hf =>
      cases hpl
      have hf' : fields.toList.all (fun f => (sizeT P f.type).isSome) = true := by simpa using hf
      simp only [Instr.build, Sem.run_bind, h1, Result.andThen_ok, run_underlying' hu]
      have hm : (fields.mapM fun f => (do Pure.pure (f.offset, ← sizeOf f.type) : Sem (Nat × Nat))).run P w = .ok (fields.map fun f => (f.offset, (sizeT P f.type).getD 0)) w := by
       rw [Array.mapM_eq_mapM_toList, Sem.run_map, mapM_places _ hf']
       simp only [Result.andThen_ok]
       congr 1
       rw [← Array.toList_map]
      rw [hm]
      simp only [Result.andThen_ok, Array.getElem?_map]
      rw [h3]
      rfl
     next => cases hpl
    next n elem hu =>
     split at hpl
     next n hn =>
      cases hpl
      simp only [Instr.build, Sem.run_bind, h1, Result.andThen_ok, run_underlying' hu, run_sizeOf' hn]
      rw [h3]
      rfl
     next => cases hpl
    next => cases hpl
   next => exact Sim.fail
  next => exact Sim.fail
 next => exact Sim.fail
end
end
end Go.Ab
end
section
namespace Go.Ab
open Go Go.RowKit
noncomputable section
section
variable {P : Program} {N : Nat} {ρ : PMap}
def rowZ (z : Array Value) (n : Nat) : Array Value := (Array.range n).map fun i => z[i % z.size]!
theorem RA.rowZ {z : Array Value} {n : Nat} (h : z.all (scalar 3) = true) (h0 : 0 < z.size ∨ n = 0) : RA ρ (rowZ z n) (rowZ z n) := by
 refine RA.map _ fun i hi => ?_
 have hn : 0 < n := by
  rcases Nat.eq_zero_or_pos n with h' | h'
  ·subst h'; simp at hi
  ·exact h'
 have hz : 0 < z.size := by omega
 have hm : i % z.size < z.size := Nat.mod_lt _ hz
 rw [getElem!_pos z _ hm]
 rw [Array.all_eq_true] at h
 exact scalar_R 3 (h _ hm)
theorem halfCap_lt {n : Nat} (h : n ≤ 16777216) : n < halfCap := by unfold halfCap; omega
def sliceM (m : M Addr) (n c : Nat) : M ORes := M.bind m fun a => M.pure (.val (.slice (some a) n c))
theorem Loc.slice {m : M Addr} (h : Loc m) (n c : Nat) : Loc (sliceM m n c) := Loc.bind h fun _ => Loc.pure _
theorem sliceR {a A : Addr} {n c : Nat} (h : AddrR ρ a A ∧ a.off = 0 ∧ a.spot = none) (hn : n ≤ c) (hc : c < halfCap) : R ρ (.slice (some a) n c) (.slice (some A) n c) := by
 obtain ⟨⟨⟨κ, hb⟩, ho, hs⟩, h0, h1⟩ := h
 obtain ⟨i, off, spot⟩ := a
 obtain ⟨b, off', spot'⟩ := A
 simp only at hb ho hs h0 h1
 subst ho hs h0 h1
 exact .slice i 0 b κ n c 0 c hb hn (.inl ⟨hc, rfl⟩) (.inl rfl)
def opBuildSlice (P : Program) (t : TypeId) (len : Nat) (parts : List (Nat × Value)) : M ORes :=
 match P.underlying t with
 | some (.slice elem) => match sizeT P elem with
  | some size => match zeroT P elem with
   | some z =>
    if len * size ≤ 16777216 ∧ len ≤ 16777216 ∧ (0 < z.cells.size ∨ len * size = 0) then
     match Instr.fill (fun i => some (i * size, size)) (rowZ (if len * size = 0 then #[] else z.cells) (len * size)) parts with
     | some c => sliceM (newRowM elem c) len len
     | none => M.fail
    else M.fail
   | none => M.fail
  | none => M.fail
 | _ => M.fail
theorem Loc.opBuildSlice (t : TypeId) (len : Nat) (parts : List (Nat × Value)) : Loc (opBuildSlice P t len parts) := by
 unfold Ab.opBuildSlice
 repeat' split
 all_goals first | exact Loc.fail | exact Loc.slice (Loc.newRow _ _) _ _
theorem sim_opBuildSlice (t : TypeId) (len : Nat) {parts PARTS : Array (Nat × Value)} (hl : parts.toList.length = PARTS.toList.length)
  (hp : ∀ (i : Nat) p q, parts.toList[i]? = some p → PARTS.toList[i]? = some q → q.1 = p.1 ∧ R ρ p.2 q.2) :
  Sim P N ρ (opBuildSlice P t len parts.toList) (do Pure.pure (Next.value (← Instr.buildSlice t len PARTS)) : Sem Next) ORel := by
 unfold Ab.opBuildSlice
 split
 next elem hu =>
  split
  next size hsz =>
   split
   next z hz =>
    obtain ⟨h1, h2⟩ := zeroT_run hz
    split
    next hc =>
     split
     next c hfill =>
      have hz0 : RA ρ (rowZ (if len * size = 0 then #[] else z.cells) (len * size)) (rowZ (if len * size = 0 then #[] else z.cells) (len * size)) := by
       by_cases h0 : len * size = 0
       ·rw [if_pos h0]; exact RA.rowZ (by simp) (.inr h0)
       ·rw [if_neg h0]; exact RA.rowZ h2 (.inl (by omega))
      obtain ⟨c', h3, h4⟩ := fill_R _ _ _ _ _ hz0 hl hp hfill
      refine Sim.congr (s := (newRow elem c' >>= fun a => Pure.pure (Next.value (.slice (some a) len len)))) ?_ ?_
      ·exact Sim.bind (Sim.newRow h4) (Loc.newRow _ _) (fun _ => Loc.pure _) fun _ _ _ _ h => Sim.pure (.val (sliceR h (Nat.le_refl _) (halfCap_lt hc.2.1)))
      ·intro w
       have hno : ¬ (len * size > 2 ^ 24) := by omega
       simp only [Instr.buildSlice, Sem.run_bind, run_underlying' hu, Result.andThen_ok, run_sizeOf' hsz, hno, if_false]
       have h3' := h3
       unfold rowZ at h3'
       by_cases h0 : len * size = 0
       ·rw [if_pos h0] at h3' ⊢
        simp only [Sem.run_bind, Sem.run_pure, Result.andThen_ok]
        rw [h3']
        simp only [Sem.run_bind]
        cases (newRow elem c').run P w <;> rfl
       ·rw [if_neg h0] at h3' ⊢
        simp only [Sem.run_bind, Sem.run_pure, Result.andThen_ok, h1]
        rw [h3']
        simp only [Sem.run_bind]
        cases (newRow elem c').run P w <;> rfl
     next => exact Sim.fail
    next => exact Sim.fail
   next => exact Sim.fail
  next => exact Sim.fail
 next => exact Sim.fail
def opLoad (P : Program) (t : TypeId) : Value → M ORes
 | .pointer (some a) => valM (readVar P t a)
 | _ => M.fail
theorem Loc.opLoad (t : TypeId) (v : Value) : Loc (opLoad P t v) := by
 unfold Ab.opLoad; split
 ·exact Loc.val (Loc.readVar _ _)
 ·exact Loc.fail
theorem sim_opLoad (t : TypeId) {v V : Value} (h : R ρ v V) : Sim P N ρ (opLoad P t v) (do Pure.pure (Next.value (← Instr.loadAt t V)) : Sem Next) ORel := by
 unfold Ab.opLoad
 split
 next a =>
  obtain ⟨A, rfl, hA⟩ := AddrR.of_R h
  refine Sim.congr (Sim.val (Sim.readVar (t := t) hA) (Loc.readVar _ _)) fun w => ?_
  simp [Instr.loadAt, Instr.sureAddr]
 next => exact Sim.fail
def opStore (P : Program) (t : TypeId) (a v : Value) : M ORes :=
 match a with
 | .pointer (some a) => if sizeT P t = some v.cells.size then M.bind (writeCells a v.cells.toList) fun _ => M.pure .skip else M.fail
 | _ => M.fail
theorem Loc.opStore (t : TypeId) (a v : Value) : Loc (opStore P t a v) := by
 unfold Ab.opStore; split
 ·exact Loc.ite (Loc.bind (Loc.writeCells _ _) fun _ => Loc.pure _) Loc.fail
 ·exact Loc.fail
theorem sim_opStore (t : TypeId) {a A v V : Value} (ha : R ρ a A) (hv : R ρ v V) : Sim P N ρ (opStore P t a v) (do Instr.storeAt t A V; Pure.pure Next.skip : Sem Next) ORel := by
 unfold Ab.opStore
 split
 next a =>
  obtain ⟨A, rfl, hA⟩ := AddrR.of_R ha
  split
  next hs =>
   have e : V.cells.size = v.cells.size := hv.cells.size.symm
   refine Sim.congr (Sim.bind (Sim.writeCells hA hv.cells.ls) (Loc.writeCells _ _) (fun _ => Loc.pure _) fun _ _ _ _ _ => Sim.pure .skip) fun w => ?_
   simp [Instr.storeAt, Instr.sureAddr, storeVar, run_sizeOf' hs, e]
  next => exact Sim.fail
 next => exact Sim.fail
def opScalar (P : Program) (e : Operand → Value) (o : Oper) : M ORes :=
 match o.op with
 | .select _ _ => M.fail
 | _ => bif o.op.operands.toList.all (fun x => scalar 3 (e x)) then
   match pureRun P 1000 (execOp e o) with
   | some (.value v) => bif scalar 4 v then M.pure (.val v) else M.fail
   | _ => M.fail
  else M.fail
theorem Loc.opScalar (e : Operand → Value) (o : Oper) : Loc (opScalar P e o) := by
 unfold Ab.opScalar; split
 ·exact Loc.fail
 ·refine Loc.cond ?_ Loc.fail
  split
  ·exact Loc.cond (Loc.pure _) Loc.fail
  ·exact Loc.fail
theorem sim_opScalar {e e' : Operand → Value} {o : Oper} (h : ∀ x ∈ o.op.operands, R ρ (e x) (e' x)) : Sim P N ρ (opScalar P e o) (execOp e' o) ORel := by
 unfold Ab.opScalar
 split
 ·exact Sim.fail
 next hsel =>
  cases hall : o.op.operands.toList.all (fun x => scalar 3 (e x)) with
  | false => exact Sim.fail
  | true =>
   have heq : ∀ x ∈ o.op.operands, e' x = e x := fun x hx => by
    rw [List.all_eq_true] at hall
    exact scalar_eq 3 (hall x (by simpa using hx)) (h x hx)
   have hx : execOp e' o = execOp e o := execOp_congr o (fun cs b hc => hsel _ _ hc) heq
   dsimp only [cond]
   split
   next v hv =>
    cases hs : scalar 4 v with
    | false => exact Sim.fail
    | true =>
     rw [hx]
     exact Sim.congr (Sim.pure (b := Next.value v) (.val (scalar_R 4 hs))) fun w => pureRun_run _ hv w
   next => exact Sim.fail
def cmpNil (P : Program) (d : TypeDesc) (x y : Value) : Option Bool :=
 match d, x, y with
 | .pointer _, .pointer (some _), .pointer none => some false
 | .pointer _, .pointer none, .pointer (some _) => some false
 | .slice _, .slice (some _) _ _, .slice none _ _ => some false
 | .slice _, .slice none _ _, .slice (some _) _ _ => some false
 | .map _ _, .map (some _), .map none => some false
 | .map _ _, .map none, .map (some _) => some false
 | .func _ _ _, .func _ _ _, .nilFunc => some false
 | .func _ _ _, .nilFunc, .func _ _ _ => some false
 | .interface _, .iface _ _, .nilIface => some false
 | .interface _, .nilIface, .iface _ _ => some false
 | .pointer elem, .pointer (some a), .pointer (some b) => if a.block = b.block ∧ sizeT P elem ≠ some 0 ∧ (sizeT P elem).isSome then some (a == b) else none
 | _, _, _ => none
theorem cmpPtr_run {t elem : TypeId} (hu : P.underlying t = some (.pointer elem)) {a c : Addr} {X Y : Value} {b : Bool} (hx : R ρ (.pointer (some a)) X) (hy : R ρ (.pointer (some c)) Y)
  (h : (if a.block = c.block ∧ sizeT P elem ≠ some 0 ∧ (sizeT P elem).isSome then some (a == c) else none) = some b) (op : BinOp) (u v : Operand) (w : World) :
  (eqGuard op t u v X Y).run P w = .ok () w ∧ ∀ n : Nat, (Op.equalIn (n + 1) t X Y).run P w = .ok b w := by
 split at h
 ·rename_i hc
  obtain ⟨h1, h2, h3⟩ := hc
  cases h
  obtain ⟨n, hn⟩ := Option.isSome_iff_exists.1 h3
  obtain ⟨A, rfl, hA⟩ := AddrR.of_R hx
  obtain ⟨C, rfl, hC⟩ := AddrR.of_R hy
  have hn0 : n ≠ 0 := fun e => h2 (by rw [hn, e])
  have hbl : A.block = C.block := by
   obtain ⟨κ, e1⟩ := hA.block
   obtain ⟨κ', e2⟩ := hC.block
   rw [h1] at e1
   rw [e1] at e2
   exact congrArg Prod.fst (Option.some.inj e2)
  refine ⟨by simp only [eqGuard_at_pointer, Sem.run_pure], ?_⟩
  have hAC : (A == C) = (a == c) := by
   rw [Bool.eq_iff_iff, beq_iff_eq, beq_iff_eq]
   constructor
   ·intro e; subst e
    have e1 := hA.off; have e2 := hC.off; have e3 := hA.spot; have e4 := hC.spot
    cases a; cases c; simp_all
   ·intro e; subst e
    have e1 := hA.off; have e2 := hC.off; have e3 := hA.spot; have e4 := hC.spot
    cases A; cases C; simp_all
  intro k
  simp only [Op.equalIn, Sem.run_bind, run_underlying' hu, Result.andThen_ok, run_sizeOf' hn, ne_eq, hn0, not_false_eq_true, if_true, sameAddr, hbl, beq_self_eq_true, Sem.run_pure, hAC]
 ·cases h
theorem cmpNil_run {t : TypeId} {d : TypeDesc} (hu : P.underlying t = some d) {x y X Y : Value} {b : Bool} (hx : R ρ x X) (hy : R ρ y Y) (h : cmpNil P d x y = some b)
  (op : BinOp) (u v : Operand) (w : World) :
  (eqGuard op t u v X Y).run P w = .ok () w ∧ (Op.equal t X Y).run P w = .ok b w := by
 suffices hh : (eqGuard op t u v X Y).run P w = .ok () w ∧ ∀ n : Nat, (Op.equalIn (n + 1) t X Y).run P w = .ok b w from ⟨hh.1, hh.2 9999⟩
 unfold cmpNil at h
 split at h
 case h_12 => cases h
 case h_11 elem a c =>
  exact cmpPtr_run hu hx hy h op u v w
 all_goals
  cases h
  cases hx
  cases hy
  refine ⟨?_, ?_⟩
  ·simp only [eqGuard_at_pointer, eqGuard_at_slice, eqGuard_at_map, eqGuard_at_func, eqGuard_at_nilFunc, eqGuard_at_iface, eqGuard_nil_iface, Sem.run_pure]
  ·intro n; simp only [Op.equalIn, Sem.run_bind, run_underlying' hu, Result.andThen_ok, Sem.run_pure, Option.isNone]
def opCmp (P : Program) (op : BinOp) (t : TypeId) (x y : Value) : M ORes :=
 match P.underlying t with
 | some d => match cmpNil P d x y with
  | some b => match op with
   | .eql => M.pure (.val (.bool b))
   | .neq => M.pure (.val (.bool !b))
   | _ => M.fail
  | none => M.fail
 | none => M.fail
theorem Loc.opCmp (op : BinOp) (t : TypeId) (x y : Value) : Loc (opCmp P op t x y) := by
 unfold Ab.opCmp; repeat' split
 all_goals first | exact Loc.fail | exact Loc.pure _
theorem binOp_eql_eq {t : TypeId} {d : TypeDesc} {x y X Y : Value} {b : Bool} (hx : R ρ x X) (hy : R ρ y Y) (h : cmpNil P d x y = some b) :
  Go.binOp .eql t X Y = (do Pure.pure (Value.bool (← Op.equal t X Y))) ∧ Go.binOp .neq t X Y = (do Pure.pure (Value.bool (!(← Op.equal t X Y)))) := by
 unfold cmpNil at h
 split at h
 case h_12 => cases h
 all_goals
  cases hx
  cases hy
  exact ⟨rfl, rfl⟩
theorem sim_opCmp (op : BinOp) (t : TypeId) (u v : Operand) {x y X Y : Value} (hx : R ρ x X) (hy : R ρ y Y) :
  Sim P N ρ (opCmp P op t x y) (do Pure.pure (Next.value (← do eqGuard op t u v X Y; Go.binOp op t X Y)) : Sem Next) ORel := by
 unfold Ab.opCmp
 split
 next d hu =>
  split
  next b hb =>
   obtain ⟨e1, e2⟩ := binOp_eql_eq (t := t) hx hy hb
   split
   ·refine Sim.congr (Sim.pure (b := Next.value (.bool b)) (.val (.bool b))) fun w => ?_
    obtain ⟨r1, r2⟩ := cmpNil_run hu hx hy hb .eql u v w
    simp [r1, r2, e1]
   ·refine Sim.congr (Sim.pure (b := Next.value (.bool !b)) (.val (.bool !b))) fun w => ?_
    obtain ⟨r1, r2⟩ := cmpNil_run hu hx hy hb .neq u v w
    simp [r1, r2, e2]
   ·exact Sim.fail
  next => exact Sim.fail
 next => exact Sim.fail
end
end
end Go.Ab
end
