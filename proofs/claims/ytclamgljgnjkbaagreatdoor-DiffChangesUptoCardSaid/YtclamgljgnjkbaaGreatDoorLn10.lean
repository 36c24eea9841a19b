/-
  Part of the proof of DiffChangesUptoCardSaid: what Diff.Between says of two rows of leaves, Back turns and Apply takes, up to the bulk that the card names.
  A proof for this seat's program alone; the parts of the words that it needs were printed by the kit, and cut to what is used.
-/
import Derived.Test.YtclamgljgnjkbaaGreatDoorLn9
set_option linter.all false
section
namespace Go.Ab
open Go Go.RowKit
noncomputable section
section
variable {P : Program} {N : Nat}
theorem const_between {α : Type} {f : Nat → α} : ∀ (d a : Nat), (∀ k, a ≤ k → k < a + d → f (k + 1) = f k) → f (a + d) = f a
 | 0, a, _ => rfl
 | d + 1, a, h => by
  rw [show a + (d + 1) = (a + d) + 1 by omega, h (a + d) (by omega) (by omega)]
  exact const_between d a fun k h1 h2 => h k h1 (by omega)
def Cut (n : Nat) (L : Nat → Prop) (W : Nat → Prop) (p : Nat) : Prop := p ≤ n ∧ (∀ k, k < p → W k → L k) ∧ (∀ k, p ≤ k → k < n → W k → ¬ L k)
theorem Cut.val {α : Type} {n : Nat} {L W : Nat → Prop} {f : Nat → α} {p j : Nat} (hc : Cut n L W p) (hf : ∀ k, k < n → ¬ W k → f (k + 1) = f k) (hj : j < n)
  (h1 : ∀ k, k < j → W k → L k) (h2 : ∀ k, j ≤ k → k < n → W k → ¬ L k) : f p = f j := by
 obtain ⟨hp, c1, c2⟩ := hc
 rcases Nat.le_total p j with h | h
 ·obtain ⟨d, rfl⟩ : ∃ d, j = p + d := ⟨j - p, by omega⟩
  exact (const_between d p fun k k1 k2 => hf k (by omega) fun hw => c2 k k1 (by omega) hw (h1 k k2 hw)).symm
 ·obtain ⟨d, rfl⟩ : ∃ d, p = j + d := ⟨p - j, by omega⟩
  exact const_between d j fun k k1 k2 => hf k (by omega) fun hw => h2 k k1 (by omega) hw (c1 k k2 hw)
theorem Cut.same {n : Nat} {L L' W : Nat → Prop} {p j : Nat} (hc : Cut n L W p) (hL : ∀ k, L' k ↔ L k ∨ k = j) (hj : ¬ W j) : Cut n L' W p :=
 ⟨hc.1, fun k h1 h2 => (hL k).2 (.inl (hc.2.1 k h1 h2)), fun k h1 h2 h3 h4 => by
  rcases (hL k).1 h4 with h | h
  ·exact hc.2.2 k h1 h2 h3 h
  ·subst h; exact hj h3⟩
theorem Cut.here {n : Nat} {L L' W : Nat → Prop} {j : Nat} (hj : j < n) (hL : ∀ k, L' k ↔ L k ∨ k = j) (h1 : ∀ k, k < j → W k → L k) (h2 : ∀ k, j ≤ k → k < n → W k → ¬ L k) : Cut n L' W (j + 1) :=
 ⟨hj, fun k a b => by
  by_cases e : k = j
  ·exact (hL k).2 (.inr e)
  ·exact (hL k).2 (.inl (h1 k (by omega) b)), fun k a b c d => by
  rcases (hL k).1 d with h | h
  ·exact h2 k (by omega) b c h
  ·omega⟩
theorem set_one {ρ : PMap} {t : Tm} {A : Array Value} {x i : Nat} {v V : Value} (hs : t.size = A.size) (hx : R ρ (t.get x) (A.getD x undef)) (hv : R ρ v V) (hi : i < 4000) : R ρ ((t.set i v).get x) ((A.setIfInBounds i V).getD x undef) := by
 rw [Tm.set_eq]
 split
 next hc =>
  obtain ⟨hlt, h4⟩ := hc
  rw [hs] at hlt
  show R ρ (Tr.get undef (Tr.set undef 12 t.t i v) x) _
  by_cases hij : i = x
  ·subst hij
   rw [Tr.get_set_same _ _ _ _ _ (by omega)]
   simpa [hlt] using hv
  ·rw [Tr.get_set_ne _ _ _ _ _ _ hij]
   unfold Tm.get at hx
   rw [Array.getD_eq_getD_getElem?] at hx ⊢
   rw [Array.getElem?_setIfInBounds, if_neg hij]
   exact hx
 next hc =>
  have hge : A.size ≤ i := by
   rw [← hs]
   rcases Nat.lt_or_ge i t.size with h2 | h2
   ·exact absurd ⟨h2, hi⟩ hc
   ·exact h2
  have : A.setIfInBounds i V = A := by
   apply Array.ext
   ·simp
   ·intro k h1 h2; rw [Array.getElem_setIfInBounds, if_neg (by omega)]
  rw [this]; exact hx
theorem get_put_other {t : Tm} {dst : Option Tmp} {v : Value} {x : Nat} (h : dst ≠ some x) : (putM t dst v).get x = t.get x := by
 cases dst with
 | none => rfl
 | some d =>
  show (t.set d v).get x = _
  rw [Tm.set_eq]
  split
  ·show Tr.get undef (Tr.set undef 12 t.t d v) x = Tr.get undef t.t x
   exact Tr.get_set_ne _ _ _ _ _ _ (fun e => h (congrArg some e))
  ·rfl
theorem getD_put_other {T : Array Value} {dst : Option Tmp} {v : Value} {x : Nat} (h : dst ≠ some x) : (putT T dst v).getD x undef = T.getD x undef := by
 cases dst with
 | none => rfl
 | some d =>
  show (T.setIfInBounds d v).getD x undef = _
  have hne : d ≠ x := fun e => h (congrArg some e)
  simp only [Array.getD_eq_getD_getElem?, Array.getElem?_setIfInBounds, if_neg hne]
theorem size_putM {t : Tm} {dst : Option Tmp} {v : Value} : (putM t dst v).size = t.size := by
 cases dst with
 | none => rfl
 | some d => exact Tm.set_size t d v
theorem size_putT {T : Array Value} {dst : Option Tmp} {v : Value} : (putT T dst v).size = T.size := by
 cases dst with
 | none => rfl
 | some d => simp [putT]
theorem drawOk_edges {ops : Array Oper} (h : drawOk ops = true) {i : Nat} {o : Oper} (ho : ops[i]? = some o) : (∀ e ∈ o.after, Region.binds .any e = true → e.on < i) := by
 unfold drawOk at h
 rw [Bool.and_eq_true] at h
 have h1 := h.1
 rw [Array.all_eq_true'] at h1
 have := h1 (o, i) (by rw [Array.mem_zipIdx_iff_getElem?]; simpa using ho)
 dsimp only at this
 rw [Bool.and_eq_true] at this
 have h2 := this.1
 rw [Array.all_eq_true'] at h2
 intro e he hb
 have := h2 e he
 rw [hb] at this
 simpa using this
theorem drawOk_tmps {ops : Array Oper} (h : drawOk ops = true) {j : Nat} {o : Oper} (ho : ops[j]? = some o) {x : Tmp} (hx : x ∈ tmpsOf ops o) {i : Nat} {p : Oper} (hp : ops[i]? = some p) (hd : p.dst = some x) (hij : i ≠ j) :
  ((befs ops).getD (max i j) 0).testBit (min i j) = true := by
 unfold drawOk at h
 rw [Bool.and_eq_true] at h
 have h1 := h.2
 rw [Array.all_eq_true'] at h1
 have := h1 (o, j) (by rw [Array.mem_zipIdx_iff_getElem?]; simpa using ho)
 dsimp only at this
 rw [List.all_eq_true] at this
 have := this x hx
 rw [Array.all_eq_true'] at this
 have := this (p, i) (by rw [Array.mem_zipIdx_iff_getElem?]; simpa using hp)
 dsimp only at this
 rw [hd] at this
 simpa [hij] using this
theorem clash_bits {a b : Nat × Nat} (h : clash a b = false) {i : Nat} (hb : b.2.testBit i = true) : a.1.testBit i = false ∧ a.2.testBit i = false := by
 unfold clash at h
 simp only [Bool.not_eq_false', Bool.and_eq_true, beq_iff_eq] at h
 obtain ⟨h1, h2⟩ := h
 have e1 := congrArg (fun n => Nat.testBit n i) h1
 have e2 := congrArg (fun n => Nat.testBit n i) h2
 simp only [Nat.testBit_and, Nat.testBit_or, hb, Bool.or_true, Bool.and_true, Nat.zero_testBit] at e1 e2
 exact ⟨e2, e1⟩
theorem clash_bits' {a b : Nat × Nat} (h : clash a b = false) {i : Nat} (ha : a.2.testBit i = true) : b.1.testBit i = false ∧ b.2.testBit i = false := by
 unfold clash at h
 simp only [Bool.not_eq_false', Bool.and_eq_true, beq_iff_eq] at h
 obtain ⟨h1, h2⟩ := h
 have e1 := congrArg (fun n => Nat.testBit n i) h1
 simp only [Nat.testBit_and, Nat.testBit_or, ha, Bool.true_and, Nat.zero_testBit, Bool.or_eq_false_iff] at e1
 exact e1
structure Inv (E : Env P) (N : Nat) (ops : Array Oper) (ts : Nat → Tm) (ss : Nat → St) (ft : Nat → Nat × Nat) (ρ0 : PMap) (w0 : World) (listed : Array Bool) (T : Array Value) (τ : Ab.T) (ρ : PMap) (w : World) : Prop where
 lsize : listed.size = ops.size
 down : Down ops listed
 tsize : ∀ k, k ≤ ops.size → (ts k).size = T.size
 tmp : ∀ x, ∃ p, Cut ops.size (fun k => listed.getD k false = true) (fun k => ∃ o, ops[k]? = some o ∧ o.dst = some x) p ∧ R ρ ((ts p).get x) (T.getD x undef)
 mem : ∀ i, ∃ p, Cut ops.size (fun k => listed.getD k false = true) (fun k => (ft k).2.testBit i = true) p ∧ Ab.T.get τ i = Ab.T.get (ss p).heap i
 rep : Rep P N ρ τ w.heap
 dom : ∀ i x, ρ i = some x → ρ0 i = some x ∨ ∃ k, k < ops.size ∧ listed.getD k false = true ∧ (ss k).next ≤ i ∧ i < (ss (k + 1)).next
 le : ρ0.le ρ
 below : Below N w0 w
theorem evalT_R1 {ρ : PMap} {t : Tm} {T : Array Value} (hg : ∀ g, g < P.globals.size → ρ g = some (g, 0)) {x : Operand} (hx : ∀ i, x = .tmp i → R ρ (t.get i) (T.getD i undef)) (ho : operandOk P x = true) : R ρ (evalT t x) (evalV T x) := by
 cases x with
 | tmp i => exact hx i rfl
 | const v => exact scalar_R 4 ho
 | global g => exact .ptr ⟨g, 0, none⟩ g 0 (hg g (of_decide_eq_true ho))
 | func f => exact .func _ _ _ _ _ _ rfl rfl rfl (by simp) (by simp)
theorem tmps_dst {ops : Array Oper} {o : Oper} {d : Tmp} (h : o.dst = some d) : d ∈ tmpsOf ops o := by simp [tmpsOf, h]
theorem tmps_operand {ops : Array Oper} {o : Oper} {i : Tmp} (h : Operand.tmp i ∈ o.op.operands) : i ∈ tmpsOf ops o := by
 unfold tmpsOf
 rw [List.mem_append, List.mem_append]
 refine .inl (.inr ?_)
 rw [List.mem_filterMap]
 exact ⟨.tmp i, by simpa using h, rfl⟩
theorem tmps_guard {ops : Array Oper} {o : Oper} {j : Nat} {p : Bool} (h : o.guard = some (j, p)) {d : Tmp} (hd : (ops[j]?).bind (·.dst) = some d) : d ∈ tmpsOf ops o := by
 unfold tmpsOf
 rw [List.mem_append]
 refine .inr ?_
 rw [h]
 dsimp only
 rw [hd]
 simp
section
variable {E : Env P} {rec : Task → M TRes} {ops : Array Oper} {ts : Nat → Tm} {ss : Nat → St} {ft : Nat → Nat × Nat} {ρ0 : PMap} {w0 : World}
theorem Txt.dst_keeps (ht : Txt E rec ops ts ss ft 0 ops.size) {x : Nat} : ∀ k, k < ops.size → ¬ (∃ o, ops[k]? = some o ∧ o.dst = some x) → (ts (k + 1)).get x = (ts k).get x := by
 intro k hk hn
 obtain ⟨o, ho, h⟩ := ht.at_ k (Nat.zero_le _) hk
 have hd : o.dst ≠ some x := fun e => hn ⟨o, ho, e⟩
 rcases h with ⟨_, v, _, e⟩ | ⟨_, _, _, e⟩
 ·rw [e, get_put_other hd]
 ·rw [e, get_put_other hd]
theorem Txt.loc (ht : Txt E rec ops ts ss ft 0 ops.size) (lrec : ∀ x, Loc (rec x)) : ∀ k, k < ops.size → (ss k).next ≤ (ss (k + 1)).next ∧ ∀ i, (ft k).2.testBit i = false → (ss (k + 1)).heap.get i = (ss k).heap.get i := by
 intro k hk
 obtain ⟨o, ho, h⟩ := ht.at_ k (Nat.zero_le _) hk
 rcases h with ⟨_, v, m, e⟩ | ⟨_, e, _, _⟩
 ·obtain ⟨σ1, m1, e1, l⟩ := foot_at (rd := (ft k).1) (wr := (ft k).2) (Loc.doOp E lrec (ts k) o) m
  rw [e1]
  exact ⟨l.next_le, l.other⟩
 ·rw [e]; exact ⟨Nat.le_refl _, fun _ _ => rfl⟩
theorem Txt.mono (ht : Txt E rec ops ts ss ft 0 ops.size) (lrec : ∀ x, Loc (rec x)) : ∀ (d k : Nat), k + d ≤ ops.size → (ss k).next ≤ (ss (k + d)).next
 | 0, k, _ => Nat.le_refl _
 | d + 1, k, h => Nat.le_trans (ht.mono lrec d k (by omega)) (ht.loc lrec (k + d) (by omega)).1
theorem Txt.mono' (ht : Txt E rec ops ts ss ft 0 ops.size) (lrec : ∀ x, Loc (rec x)) {a b : Nat} (h : a ≤ b) (hb : b ≤ ops.size) : (ss a).next ≤ (ss b).next := by
 obtain ⟨d, rfl⟩ : ∃ d, b = a + d := ⟨b - a, by omega⟩
 exact ht.mono lrec d a hb
theorem Txt.msize (ht : Txt E rec ops ts ss ft 0 ops.size) : ∀ k, k ≤ ops.size → (ts k).size = (ts 0).size
 | 0, _ => rfl
 | k + 1, h => by
  obtain ⟨o, ho, h1⟩ := ht.at_ k (Nat.zero_le _) (by omega)
  rcases h1 with ⟨_, v, _, e⟩ | ⟨_, _, _, e⟩
  ·rw [e, size_putM]; exact ht.msize k (by omega)
  ·rw [e, size_putM]; exact ht.msize k (by omega)
variable {listed : Array Bool} {T : Array Value} {τ : Ab.T} {ρ : PMap} {w : World} {j : Nat} {o : Oper}
theorem listed_iff (hl : j < listed.size) (k : Nat) : (listed.setIfInBounds j true).getD k false = true ↔ listed.getD k false = true ∨ k = j := by
 by_cases e : j = k
 ·subst e; simp [hl]
 ·rw [getD_set_ne' _ e]
  exact ⟨.inl, fun h => h.resolve_right (fun x => e x.symm)⟩
theorem Inv.tmps_cut (hi : Inv E N ops ts ss ft ρ0 w0 listed T τ ρ w) (hdr : drawOk ops = true) (ho : ops[j]? = some o) (hun : listed.getD j false = false)
  (hr : ∀ e ∈ o.after, Region.binds .any e = true → listed.getD e.on false = true) {x : Nat} (hx : x ∈ tmpsOf ops o) :
  (∀ k, k < j → (∃ o, ops[k]? = some o ∧ o.dst = some x) → listed.getD k false = true) ∧ (∀ k, j ≤ k → k < ops.size → (∃ o, ops[k]? = some o ∧ o.dst = some x) → ¬ listed.getD k false = true) := by
 refine ⟨fun k hk ⟨p, hp, hd⟩ => ?_, fun k hk hn ⟨p, hp, hd⟩ hl => ?_⟩
 ·have := drawOk_tmps hdr ho hx hp hd (by omega)
  rw [show max k j = j by omega, show min k j = k by omega] at this
  exact Ahead.of_ready hi.down ho hr (befs_ahead this)
 ·by_cases e : k = j
  ·subst e; rw [hun] at hl; cases hl
  ·have := drawOk_tmps hdr ho hx hp hd e
   rw [show max k j = k by omega, show min k j = j by omega] at this
   have := hi.down.ahead (befs_ahead this) hl
   rw [hun] at this; cases this
theorem Inv.tmps_at (hi : Inv E N ops ts ss ft ρ0 w0 listed T τ ρ w) (ht : Txt E rec ops ts ss ft 0 ops.size) (hdr : drawOk ops = true) (hj : j < ops.size) (ho : ops[j]? = some o) (hun : listed.getD j false = false)
  (hr : ∀ e ∈ o.after, Region.binds .any e = true → listed.getD e.on false = true) {x : Nat} (hx : x ∈ tmpsOf ops o) : R ρ ((ts j).get x) (T.getD x undef) := by
 obtain ⟨p, hc, hR⟩ := hi.tmp x
 obtain ⟨h1, h2⟩ := hi.tmps_cut hdr ho hun hr hx
 have := hc.val (f := fun k => (ts k).get x) (fun k hk hn => ht.dst_keeps k hk hn) hj h1 h2
 rw [← this]; exact hR
theorem Inv.mem_cut (hi : Inv E N ops ts ss ft ρ0 w0 listed T τ ρ w) (ht : Txt E rec ops ts ss ft 0 ops.size) (hj : j < ops.size) (ho : ops[j]? = some o) (hun : listed.getD j false = false)
  (hr : ∀ e ∈ o.after, Region.binds .any e = true → listed.getD e.on false = true) {i : Nat} (hx : (ft j).1.testBit i = true ∨ (ft j).2.testBit i = true) :
  (∀ k, k < j → (ft k).2.testBit i = true → listed.getD k false = true) ∧ (∀ k, j ≤ k → k < ops.size → (ft k).2.testBit i = true → ¬ listed.getD k false = true) := by
 refine ⟨fun k hk hb => ?_, fun k hk hn hb hl => ?_⟩
 ·rcases ht.apart k j (Nat.zero_le _) hk hj with h | h
  ·exact Ahead.of_ready hi.down ho hr (befs_ahead h)
  ·obtain ⟨a, b⟩ := clash_bits h hb
   rcases hx with hx | hx
   ·rw [a] at hx; cases hx
   ·rw [b] at hx; cases hx
 ·by_cases e : k = j
  ·subst e; rw [hun] at hl; cases hl
  ·rcases ht.apart j k (Nat.zero_le _) (by omega) hn with h | h
   ·have := hi.down.ahead (befs_ahead h) hl
    rw [hun] at this; cases this
   ·obtain ⟨a, b⟩ := clash_bits' h hb
    rcases hx with hx | hx
    ·rw [a] at hx; cases hx
    ·rw [b] at hx; cases hx
theorem Inv.mem_at (hi : Inv E N ops ts ss ft ρ0 w0 listed T τ ρ w) (ht : Txt E rec ops ts ss ft 0 ops.size) (lrec : ∀ x, Loc (rec x)) (hj : j < ops.size) (ho : ops[j]? = some o) (hun : listed.getD j false = false)
  (hr : ∀ e ∈ o.after, Region.binds .any e = true → listed.getD e.on false = true) {i : Nat} (hx : (ft j).1.testBit i = true ∨ (ft j).2.testBit i = true) : Ab.T.get τ i = Ab.T.get (ss j).heap i := by
 obtain ⟨p, hc, hR⟩ := hi.mem i
 obtain ⟨h1, h2⟩ := hi.mem_cut ht hj ho hun hr hx
 have := hc.val (f := fun k => Ab.T.get (ss k).heap i) (fun k hk hn => (ht.loc lrec k hk).2 i (by simpa using hn)) hj h1 h2
 rw [← this]; exact hR
theorem Inv.down' (hi : Inv E N ops ts ss ft ρ0 w0 listed T τ ρ w) (hl : j < listed.size) (ho : ops[j]? = some o) (hr : ∀ e ∈ o.after, Region.binds .any e = true → listed.getD e.on false = true) : Down ops (listed.setIfInBounds j true) := by
 intro k p hp hk e he hb
 rw [listed_iff hl] at hk ⊢
 rcases hk with hk | rfl
 ·exact .inl (hi.down k p hp hk e he hb)
 ·rw [ho] at hp; cases hp; exact .inl (hr e he hb)
theorem Inv.tmp' (hi : Inv E N ops ts ss ft ρ0 w0 listed T τ ρ w) (ht : Txt E rec ops ts ss ft 0 ops.size) (hdr : drawOk ops = true) (hj : j < ops.size) (ho : ops[j]? = some o) (hun : listed.getD j false = false)
  (hr : ∀ e ∈ o.after, Region.binds .any e = true → listed.getD e.on false = true) {ρ' : PMap} (hle : ρ.le ρ') {v V : Value} (hv : R ρ' v V) (hts : ts (j + 1) = putM (ts j) o.dst v) (h4 : ∀ d, o.dst = some d → d < 4000) (x : Nat) :
  ∃ p, Cut ops.size (fun k => (listed.setIfInBounds j true).getD k false = true) (fun k => ∃ o, ops[k]? = some o ∧ o.dst = some x) p ∧ R ρ' ((ts p).get x) ((putT T o.dst V).getD x undef) := by
 have hl : j < listed.size := by rw [hi.lsize]; exact hj
 by_cases hd : o.dst = some x
 ·obtain ⟨h1, h2⟩ := hi.tmps_cut hdr ho hun hr (tmps_dst hd)
  refine ⟨j + 1, Cut.here hj (fun k => listed_iff hl k) h1 h2, ?_⟩
  rw [hts, hd]
  exact set_one (hi.tsize j (Nat.le_of_lt hj)) ((hi.tmps_at ht hdr hj ho hun hr (tmps_dst hd)).mono hle) hv (h4 x hd)
 ·obtain ⟨p, hc, hR⟩ := hi.tmp x
  refine ⟨p, Cut.same hc (fun k => listed_iff hl k) (fun ⟨o', ho', hd'⟩ => ?_), ?_⟩
  ·rw [ho] at ho'; cases ho'; exact hd hd'
  ·rw [getD_put_other hd]; exact hR.mono hle
theorem Inv.step (hrec : ∀ x, SoundAt E N (rec x) x) (lrec : ∀ x, Loc (rec x)) (hok : opsOk P ops = true) (hdr : drawOk ops = true) (ht : Txt E rec ops ts ss ft 0 ops.size) (hp : Pre E N ρ0 (ss 0) (ss ops.size) w0)
  (hi : Inv E N ops ts ss ft ρ0 w0 listed T τ ρ w) (ho : ops[j]? = some o) (hun : listed.getD j false = false) (hr : ∀ e ∈ o.after, Region.binds .any e = true → listed.getD e.on false = true)
  {b : Frame} {D : List Deferred} {k : List Item} {cs : List Frame} {rest : List Nat} :
  ∃ T' τ' ρ' w', Inv E N ops ts ss ft ρ0 w0 (listed.setIfInBounds j true) T' τ' ρ' w' ∧ Steps P (lone (fat b T D (.inRegion ops (j :: rest) :: k)) cs w) (lone (fat b T' D (.inRegion ops rest :: k)) cs w') := by
 have hj : j < ops.size := (Array.getElem?_eq_some_iff.1 ho).1
 have hl : j < listed.size := by rw [hi.lsize]; exact hj
 obtain ⟨ok1, ok2⟩ := opsOk_at hok ho
 have hR : ∀ x ∈ tmpsOf ops o, R ρ ((ts j).get x) (T.getD x undef) := fun x hx => hi.tmps_at ht hdr hj ho hun hr hx
 have hwant := wantedT_R (ρ := ρ) (ops := ops) (t := ts j) (T := T) (o := o) (fun j' p hg d hd => hR d (tmps_guard hg hd))
 obtain ⟨o', ho', hstep⟩ := ht.at_ j (Nat.zero_le _) hj
 rw [ho] at ho'; cases ho'
 rcases hstep with ⟨hw, v, hm, hts⟩ | ⟨hw, hss, hft, hts⟩
 ·obtain ⟨σ1, m1, e1, l⟩ := foot_at (rd := (ft j).1) (wr := (ft j).2) (Loc.doOp E lrec (ts j) o) hm
  obtain ⟨τ', a1, a2, a3, a4, a5, a6⟩ := l.at_ ⟨τ, (ss j).next, 0, 0⟩ rfl (fun i hx => hi.mem_at ht lrec hj ho hun hr hx)
  have hn1 : τ'.next = (ss (j + 1)).next := by rw [a2, e1]
  have hpre : Pre E N ρ ⟨τ, (ss j).next, 0, 0⟩ τ' w := by
   refine ⟨hi.rep, E.good_below N w0 w hp.gN hp.good hi.below, Nat.le_trans hp.size hi.below.size, fun i h1 h2 => ?_, hp.gN⟩
   cases e : ρ i with
   | none => rfl
   | some x =>
    exfalso
    dsimp only at h1
    rw [hn1] at h2
    rcases hi.dom i x e with q | ⟨k, hk, hlk, q1, q2⟩
    ·have q3 := ht.mono' lrec (Nat.zero_le j) (Nat.le_of_lt hj)
     have q4 := ht.mono' lrec (show j + 1 ≤ ops.size from hj) (Nat.le_refl _)
     rw [hp.fresh i (by omega) (by omega)] at q; cases q
    ·rcases Nat.lt_trichotomy k j with h | h | h
     ·have := ht.mono' lrec (show k + 1 ≤ j from h) (Nat.le_of_lt hj); omega
     ·subst h; rw [hun] at hlk; cases hlk
     ·have := ht.mono' lrec (show j + 1 ≤ k from h) (Nat.le_of_lt hk); omega
  obtain ⟨ρ', V, w', hv, st, hs⟩ := doOp_sound hrec lrec (T := T) (b := b) (D := D) (k := k) (cs := cs) (rest := rest) a1 hpre ho (by rw [← hwant]; exact hw)
   (fun x hx => evalT_R1 hi.rep.glob (fun i e => hR i (tmps_operand (by rw [← e]; exact hx))) (ok1 x hx))
  refine ⟨putT T o.dst V, τ'.heap, ρ', w', ⟨by rw [Array.size_setIfInBounds]; exact hi.lsize, hi.down' hl ho hr, fun k hk => by rw [size_putT]; exact hi.tsize k hk,
   fun x => hi.tmp' ht hdr hj ho hun hr st.le hv hts ok2 x, fun i => ?_, st.rep, fun i x e => ?_, PMap.le_trans hi.le st.le, hi.below.trans st.below⟩, hs⟩
  ·cases hb : (ft j).2.testBit i with
   | true =>
    obtain ⟨h1, h2⟩ := hi.mem_cut ht hj ho hun hr (.inr hb)
    refine ⟨j + 1, Cut.here hj (fun k => listed_iff hl k) h1 h2, ?_⟩
    rw [a5 i hb, e1]
   | false =>
    obtain ⟨p, hc, hm'⟩ := hi.mem i
    refine ⟨p, Cut.same hc (fun k => listed_iff hl k) (by rw [hb]; simp), ?_⟩
    rw [a6 i hb]; exact hm'
  ·rcases st.dom i x e with q | ⟨q1, q2⟩
   ·rcases hi.dom i x q with q | ⟨k, hk, hlk, q1, q2⟩
    ·exact .inl q
    ·exact .inr ⟨k, hk, (listed_iff hl k).2 (.inl hlk), q1, q2⟩
   ·exact .inr ⟨j, hj, (listed_iff hl j).2 (.inr rfl), q1, by rw [← hn1]; exact q2⟩
 ·refine ⟨putT T o.dst undef, τ, ρ, w, ⟨by rw [Array.size_setIfInBounds]; exact hi.lsize, hi.down' hl ho hr, fun k hk => by rw [size_putT]; exact hi.tsize k hk,
   fun x => hi.tmp' ht hdr hj ho hun hr (PMap.le_refl _) (R.undef _) hts ok2 x, fun i => ?_, hi.rep, fun i x e => ?_, hi.le, hi.below⟩, .one (st_opSkip ho (by rw [← hwant]; exact hw))⟩
  ·obtain ⟨p, hc, hm'⟩ := hi.mem i
   exact ⟨p, Cut.same hc (fun k => listed_iff hl k) (by rw [hft]; simp), hm'⟩
  ·rcases hi.dom i x e with q | ⟨k, hk, hlk, q1, q2⟩
   ·exact .inl q
   ·exact .inr ⟨k, hk, (listed_iff hl k).2 (.inl hlk), q1, q2⟩
theorem getD_tf {L : Array Bool} {i : Nat} (h : i < L.size) : L.getD i true = L.getD i false := by simp [h]
theorem Inv.all (hrec : ∀ x, SoundAt E N (rec x) x) (lrec : ∀ x, Loc (rec x)) (hok : opsOk P ops = true) (hdr : drawOk ops = true) (ht : Txt E rec ops ts ss ft 0 ops.size) (hp : Pre E N ρ0 (ss 0) (ss ops.size) w0)
  {b : Frame} {D : List Deferred} {k : List Item} {cs : List Frame} : ∀ (fuel t : Nat) (listed : Array Bool) (T : Array Value) (τ : Ab.T) (ρ : PMap) (w : World),
  Inv E N ops ts ss ft ρ0 w0 listed T τ ρ w → unl ops.size listed = fuel →
  ∃ listed' T' τ' ρ' w', Inv E N ops ts ss ft ρ0 w0 listed' T' τ' ρ' w' ∧ unl ops.size listed' = 0 ∧
   Steps P (lone (fat b T D (.inRegion ops (Region.linearise.go .any ops fuel t listed []) :: k)) cs w) (lone (fat b T' D (.inRegion ops [] :: k)) cs w') := by
 intro fuel
 induction fuel with
 | zero => intro t listed T τ ρ w hi hu; exact ⟨listed, T, τ, ρ, w, hi, hu, .refl _ _⟩
 | succ fuel ih =>
  intro t listed T τ ρ w hi hu
  simp only [Region.linearise.go]
  change ∃ listed' T' τ' ρ' w', _ ∧ _ ∧ Steps P (lone (fat b T D (.inRegion ops (match (Region.ready .any ops listed)[t % (Region.ready .any ops listed).length]? with
   | some i => Region.linearise.go .any ops fuel (t / (Region.ready .any ops listed).length) (listed.setIfInBounds i true) [i]
   | none => [].reverse) :: k)) cs w) _
  have hne : Region.ready .any ops listed ≠ [] := by
   obtain ⟨i, h1, h2, h3⟩ := unl_pos ops.size listed (by omega)
   have ho : ops[i]? = some ops[i] := by simp [h1]
   have : i ∈ Region.ready .any ops listed := by
    rw [mem_ready]
    refine ⟨h2, ops[i], ho, fun e he hb => ?_⟩
    have hlt := drawOk_edges hdr ho e he hb
    have := h3 e.on hlt
    rwa [getD_tf (by rw [hi.lsize]; omega)] at this
   intro e; rw [e] at this; cases this
  cases hx : (Region.ready .any ops listed)[t % (Region.ready .any ops listed).length]? with
  | none =>
   exfalso
   have hlt : t % (Region.ready .any ops listed).length < (Region.ready .any ops listed).length := Nat.mod_lt _ (List.length_pos_iff.2 hne)
   rw [List.getElem?_eq_none_iff] at hx
   omega
  | some j =>
   simp only []
   rw [linearise_go_acc, List.reverse_singleton, List.singleton_append]
   obtain ⟨hun, o, ho, hr⟩ := mem_ready.1 (List.mem_of_getElem? hx)
   have hj : j < ops.size := (Array.getElem?_eq_some_iff.1 ho).1
   obtain ⟨T1, τ1, ρ1, w1, hi1, hs1⟩ := hi.step hrec lrec hok hdr ht hp ho (by rw [← getD_tf (by rw [hi.lsize]; exact hj)]; exact hun) hr (b := b) (D := D) (k := k) (cs := cs)
    (rest := Region.linearise.go .any ops fuel (t / (Region.ready .any ops listed).length) (listed.setIfInBounds j true) [])
   obtain ⟨L', T', τ', ρ', w', hi', hu', hs'⟩ := ih (t / (Region.ready .any ops listed).length) _ T1 τ1 ρ1 w1 hi1 (by have := unl_set ops.size listed j hj hun; omega)
   exact ⟨L', T', τ', ρ', w', hi', hu', hs1.trans hs'⟩
end
theorem evDraw_sound {E : Env P} {rec : Task → M TRes} (hrec : ∀ x, SoundAt E N (rec x) x) (lrec : ∀ x, Loc (rec x)) {ops : Array Oper} (hok : opsOk P ops = true) (hdr : drawOk ops = true) {b : Frame} {D : List Deferred} {k : List Item} {cs : List Frame}
  {t t' : Tm} {T : Array Value} {ρ : PMap} {σ σ' : St} {w : World} (q : Nat) (hm : evDraw E rec ops (befs ops) (List.range ops.size) [] t σ = some (t', σ')) (hp : Pre E N ρ σ σ' w) (hT : RT ρ t T) :
  ∃ ρ' T' w', RT ρ' t' T' ∧ Step P N ρ σ w ρ' σ' w' ∧ Steps P (lone (fat b T D (.inRegion ops (Region.linearise .any ops q) :: k)) cs w) (lone (fat b T' D (.inRegion ops [] :: k)) cs w') := by
 rw [List.range_eq_range'] at hm
 obtain ⟨ts, ss, ft, e1, e2, e3, e4, htxt, _⟩ := evDraw_txt _ _ _ _ _ _ _ hm
 rw [Nat.zero_add] at e3 e4 htxt
 subst e1 e2 e3 e4
 have hi : Inv E N ops ts ss ft ρ w (Array.replicate ops.size false) T (ss 0).heap ρ w := by
  have hf : ∀ k, (Array.replicate ops.size false).getD k false = false := fun k => by
   by_cases h : k < ops.size <;> simp [h]
  refine ⟨by simp, (fun j o _ h => by rw [hf] at h; cases h), fun k hk => by rw [htxt.msize k hk]; exact hT.size, fun x => ⟨0, ⟨Nat.zero_le _, fun k h => absurd h (Nat.not_lt_zero _), (fun k _ _ _ h => by dsimp only at h; rw [hf] at h; cases h)⟩, hT.at_ x⟩,
   fun i => ⟨0, ⟨Nat.zero_le _, fun k h => absurd h (Nat.not_lt_zero _), (fun k _ _ _ h => by dsimp only at h; rw [hf] at h; cases h)⟩, rfl⟩, hp.rep, fun i x e => .inl e, PMap.le_refl _, Below.refl _ _⟩
 obtain ⟨L, T', τ', ρ', w', hi', hu, hs⟩ := Inv.all hrec lrec hok hdr htxt hp (b := b) (D := D) (k := k) (cs := cs) ops.size q _ T _ ρ w hi (unl_all _)
 have hall : ∀ k, k < ops.size → L.getD k false = true := fun k hk => by
  rw [← getD_tf (by rw [hi'.lsize]; exact hk)]; exact unl_zero _ _ hu k hk
 refine ⟨ρ', T', w', ⟨hi'.tsize _ (Nat.le_refl _), fun x => ?_⟩, ⟨hi'.le, fun i x e => ?_, hi'.rep.congr fun i => ?_, hi'.below⟩, hs⟩
 ·obtain ⟨p, ⟨hp1, _, hp3⟩, hR⟩ := hi'.tmp x
  obtain ⟨d, hd⟩ : ∃ d, ops.size = p + d := ⟨ops.size - p, by omega⟩
  have := const_between (f := fun k => (ts k).get x) d p (fun k h1 h2 => htxt.dst_keeps k (by omega) fun hw => hp3 k h1 (by omega) hw (hall k (by omega)))
  rw [hd, this]; exact hR
 ·rcases hi'.dom i x e with q | ⟨k, hk, _, q1, q2⟩
  ·exact .inl q
  ·have := htxt.mono' lrec (Nat.zero_le k) (Nat.le_of_lt hk)
   have := htxt.mono' lrec (show k + 1 ≤ ops.size from hk) (Nat.le_refl _)
   exact .inr ⟨by omega, by omega⟩
 ·obtain ⟨p, ⟨hp1, _, hp3⟩, hm'⟩ := hi'.mem i
  obtain ⟨d, hd⟩ : ∃ d, ops.size = p + d := ⟨ops.size - p, by omega⟩
  have := const_between (f := fun k => Ab.T.get (ss k).heap i) d p (fun k h1 h2 => (htxt.loc lrec k (by omega)).2 i (by
   cases hb : (ft k).2.testBit i with
   | false => rfl
   | true => exact absurd (hall k (by omega)) (hp3 k h1 (by omega) hb)))
  rw [hd, this]; exact hm'.symm
theorem evRegion_sound {E : Env P} {rec : Task → M TRes} (hrec : ∀ x, SoundAt E N (rec x) x) (lrec : ∀ x, Loc (rec x)) {ops : Array Oper} {draw : Bool} {id : Nat} {b : Frame} {D : List Deferred} {k : List Item} {cs : List Frame}
  {t t' : Tm} {T : Array Value} {ρ : PMap} {σ σ' : St} {w : World} (hm : evRegion E rec ops draw t σ = some (t', σ')) (hp : Pre E N ρ σ σ' w) (hT : RT ρ t T) :
  ∃ ρ' T' w', RT ρ' t' T' ∧ Step P N ρ σ w ρ' σ' w' ∧ Steps P (lone (fat b T D (.code (.region id ops draw) :: k)) cs w) (lone (fat b T' D k) cs w') := by
 unfold evRegion at hm
 cases hok : opsOk P ops with
 | false => rw [hok] at hm; cases hm
 | true =>
  rw [hok] at hm
  cases draw with
  | false =>
   obtain ⟨ρ', T', w', h1, h2, h3⟩ := evOps_sound hrec lrec hok (b := b) (D := D) (k := k) (cs := cs) _ _ _ _ _ _ _ _ hm hp hT
   exact ⟨ρ', T', w', h1, h2, .head st_region (h3.trans (.one st_regionEnd))⟩
  | true =>
   simp only [cond_true] at hm
   cases hd : drawOk ops && P.follows .mixedOrders with
   | false => rw [hd] at hm; cases hm
   | true =>
    rw [hd] at hm
    rw [Bool.and_eq_true] at hd
    have hp' : Pre E N ρ σ σ' w.drew := ⟨hp.rep, E.good_below N w _ hp.gN hp.good (Below.refl _ _).drew, hp.size, hp.fresh, hp.gN⟩
    obtain ⟨ρ', T', w', h1, h2, h3⟩ := evDraw_sound hrec lrec hok hd.1 (b := b) (D := D) (k := k) (cs := cs) (w.tape w.drawn (.order b.fn id)) hm hp' hT
    refine ⟨ρ', T', w', h1, ⟨h2.le, h2.dom, h2.rep, (Below.refl _ _).drew.trans h2.below⟩, .head st_draw ?_⟩
    have e : Region.schedule (P.follows .mixedOrders) ops (w.tape w.drawn (.order b.fn id)) = Region.linearise .any ops (w.tape w.drawn (.order b.fn id)) := by
     unfold Region.schedule; rw [hd.2]; simp
    rw [e]
    exact h3.trans (.one st_regionEnd)
end
end
end Go.Ab
end
