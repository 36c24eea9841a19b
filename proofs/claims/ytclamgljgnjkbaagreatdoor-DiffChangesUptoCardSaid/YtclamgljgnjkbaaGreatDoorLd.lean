/-
  Part of the proof of DiffChangesUptoCardSaid: what Diff.Between says of two rows of leaves, Back turns and Apply takes, up to the bulk that the card names.
  A proof for this seat's program alone; the parts of the words that it needs were printed by the kit, and cut to what is used.
-/
import Derived.OwnWalkIn
set_option linter.all false
section
namespace Go.Oh
open Go
section
variable {F : Fence} {n : Nat} {P : Program} {ops : Array Oper} {Q : Exit → Act → World → Prop} {md : Region.Mode} {S : World → Prop}
def YieldsG (F : Fence) (n : Nat) (P : Program) (ops : Array Oper) (S : World → Prop) (o : Oper) (v : Value) (a : Act) : Prop :=
  (Region.wanted o (yielded ops a.tmps) = true ∧ ∀ w, S w → ((execOp a.eval o).run P w = .ok (.value v) w ∨ ∃ f args, (execOp a.eval o).run P w = .ok (.enter f args) w ∧ CallsIn F (n - 1) P f args w (fun e w' => e = .returned v ∧ w' = w))) ∨
  (Region.wanted o (yielded ops a.tmps) = false ∧ v = undef)
theorem YieldsG.of_same {o : Oper} {v : Value} {a a' : Act} (hy : YieldsG F n P ops S o v a) (he : execOp a'.eval o = execOp a.eval o)
    (hw : Region.wanted o (yielded ops a'.tmps) = Region.wanted o (yielded ops a.tmps)) : YieldsG F n P ops S o v a' := by
  unfold YieldsG at *
  rw [he, hw]
  exact hy
theorem YieldsG.wpOpIn (hfn : ∀ f, F.fn f) (hdep : F.depth = none) {i : Nat} {o : Oper} {v : Value} {a : Act} (hd : ∀ c, o.op ≠ .defer c) (hi : ops[i]? = some o) (hy : YieldsG F n P ops S o v a)
    {K : Act → World → Prop} {w : World} (hS : S w) (h : K (a.put o.dst v) w) : wpOpIn F n P ops Q i K a w := by
  unfold Go.wpOpIn
  simp only [hi]
  rcases hy with ⟨hw, hv⟩ | ⟨hw, rfl⟩
  · simp only [hw, if_true, Oper.wpIn, Oper.semAt_plain F _ _ hd]
    refine ⟨fun f _ => hfn f, ?_⟩
    rcases hv w hS with hv | ⟨f, args, hv, hc⟩
    · rw [hv]; exact h
    · rw [hv, Oper.uponIn_enter]
      refine ⟨fun h => (by rw [hdep] at h; cases h), hc.mono ?_⟩
      rintro e w' ⟨rfl, rfl⟩
      exact h
  · simp only [hw, Bool.false_eq_true, if_false]; exact ⟨fun f _ => hfn f, h⟩
theorem wpOpIn_putG (hfn : ∀ f, F.fn f) {j : Nat} {oi oj : Oper} {v : Value} (hj : ops[j]? = some oj) (hap : oi.apart ops oj = true)
    (hsi : ∀ cs b, oi.op ≠ .select cs b) (hsj : ∀ cs b, oj.op ≠ .select cs b) (hdj : ∀ c, oj.op ≠ .defer c)
    (hQ : ∀ c (a : Act) w t v, Q (.panic c) (a.put (some t) v) w → Q (.panic c) a w) {K : Act → World → Prop} {a : Act} {w : World}
    (hy : YieldsG F n P ops S oi v a) (h : wpOpIn F n P ops Q j K (a.put oi.dst v) w) :
    wpOpIn F n P ops Q j (fun a' w' => YieldsG F n P ops S oi v a' ∧ K (a'.put oi.dst v) w') a w := by
  have hQ' : ∀ c (a : Act) w x v, Q (.panic c) (a.put x v) w → Q (.panic c) a w := fun c a w x v h => by cases x with | none => exact h | some t => exact hQ c a w t v h
  obtain ⟨h1, h2, h3⟩ := Oper.apart_spec hap
  have keep : ∀ (a : Act), YieldsG F n P ops S oi v a → ∀ u, YieldsG F n P ops S oi v (a.put oj.dst u) := fun a hy u =>
    hy.of_same (execOp_put oi hsi a oj.dst u h3) (wanted_put oi a oj.dst u h3)
  have keepD : ∀ d, YieldsG F n P ops S oi v { a with defers := d :: a.defers } := fun d => hy.of_same rfl rfl
  unfold wpOpIn at *
  simp only [hj] at *
  rw [wanted_put oj a oi.dst v h1] at h
  split
  · rename_i hw
    simp only [hw, if_true] at h
    unfold Oper.wpIn at *
    refine ⟨fun f _ => hfn f, ?_⟩
    have h := h.2
    rw [Oper.semAt_plain F _ _ hdj, execOp_put oj hsj a oi.dst v h1] at h
    rw [Oper.semAt_plain F _ _ hdj]
    generalize (execOp a.eval oj).run P w = r at *
    cases r with
    | ok x w' =>
      cases x <;> simp only [Oper.uponIn] at h ⊢
      case value u => exact ⟨keep a hy u, by rw [← Act.put_comm a v u h2]; exact h⟩
      case skip => exact ⟨keep a hy _, by rw [← Act.put_comm a v undef h2]; exact h⟩
      case defer d =>
        refine ⟨keep _ (keepD d) _, ?_⟩
        rw [← Act.put_comm _ v undef h2, ← Act.put_defers]
        exact h
      case enter f args =>
        refine ⟨h.1, CallsIn.mono h.2 fun e w'' he => ?_⟩
        cases e with
        | returned u => exact ⟨keep a hy u, by rw [← Act.put_comm a v u h2]; exact he⟩
        | panicked c => exact hQ' _ _ _ _ _ he
        | outgrown => exact he
      case row row args => exact ⟨h.1, RowsIn.mono h.2 fun u w'' he => ⟨keep a hy u, by rw [← Act.put_comm a v u h2]; exact he⟩⟩
      case round l f tmps assign body =>
        refine ⟨h.1, RoundIn.mono h.2 fun e w'' he => ?_⟩
        cases e with
        | returned u => exact ⟨keep a hy u, by rw [← Act.put_comm a v u h2]; exact he⟩
        | panicked c => exact hQ' _ _ _ _ _ he
        | outgrown => exact he
    | halt x w' =>
      cases x <;> simp only [Oper.uponIn] at h ⊢
      case panic u => exact hQ' _ _ _ _ _ h
  · rename_i hw
    simp only [hw] at h
    exact ⟨fun f _ => hfn f, keep a hy _, by rw [← Act.put_comm a v undef h2]; exact h.2⟩
def Cl (md : Region.Mode) (ops : Array Oper) (listed : Array Bool) : Prop :=
  ∀ (j : Nat) (o : Oper), ops[j]? = some o → listed.getD j false = true → ∀ e ∈ o.after, Region.binds md e = true → listed.getD e.on false = true
theorem Cl.set {listed : Array Bool} {i : Nat} (h : Cl md ops listed) (hr : i ∈ Region.ready md ops listed) : Cl md ops (listed.setIfInBounds i true) := by
  intro j o ho hl e he hb
  by_cases hij : i = j
  · subst hij
    obtain ⟨_, o', ho', hall⟩ := mem_ready.1 hr
    rw [ho] at ho'; cases ho'
    exact getD_set_true (hall e he hb)
  · rw [getD_set_ne false hij] at hl
    exact getD_set_true (h j o ho hl e he hb)
def ancB (md : Region.Mode) (ops : Array Oper) : Nat → Nat → Nat → Bool
  | 0, _, _ => false
  | k + 1, j, i => match ops[j]? with
    | none => false
    | some o => o.after.any fun e => Region.binds md e && (e.on == i || ancB md ops k e.on i)
theorem ancB_listed {listed : Array Bool} (h : Cl md ops listed) {i : Nat} : ∀ k j, ancB md ops k j i = true → listed.getD j false = true → listed.getD i false = true
  | 0, j, hb, _ => by cases hb
  | k + 1, j, hb, hl => by
    unfold ancB at hb
    cases ho : ops[j]? with
    | none => rw [ho] at hb; cases hb
    | some o =>
      rw [ho] at hb
      obtain ⟨e, he, hx⟩ := Array.any_eq_true'.1 hb
      simp only [Bool.and_eq_true, Bool.or_eq_true, beq_iff_eq] at hx
      have hon := h j o ho hl e he hx.1
      rcases hx.2 with rfl | hx
      · exact hon
      · exact ancB_listed h k _ hx hon
theorem ancB_ready {listed : Array Bool} (h : Cl md ops listed) {i j k : Nat} (hb : ancB md ops k j i = true) (hr : j ∈ Region.ready md ops listed) : listed.getD i false = true := by
  cases k with
  | zero => cases hb
  | succ k =>
    unfold ancB at hb
    obtain ⟨_, o, ho, hall⟩ := mem_ready.1 hr
    rw [ho] at hb
    obtain ⟨e, he, hx⟩ := Array.any_eq_true'.1 hb
    simp only [Bool.and_eq_true, Bool.or_eq_true, beq_iff_eq] at hx
    have hon := hall e he hx.1
    rcases hx.2 with rfl | hx
    · exact hon
    · exact ancB_listed h k _ hx hon
def wpAnyG (F : Fence) (n : Nat) (P : Program) (md : Region.Mode) (ops : Array Oper) (Q : Exit → Act → World → Prop) (S : World → Prop) (ex : Nat → Bool) : Nat → Array Bool → Act → World → Prop
  | 0, listed, a, w => Region.ready md ops listed = [] ∧ Q .normal a w
  | fuel + 1, listed, a, w =>
    (Region.ready md ops listed = [] → Q .normal a w) ∧
    ∀ i ∈ Region.ready md ops listed, wpOpIn F n P ops Q i (fun a' w' => (ex i = false → S w') ∧ wpAnyG F n P md ops Q S ex fuel (listed.setIfInBounds i true) a' w') a w
theorem wpAnyIn_of_G {ex : Nat → Bool} : ∀ (fuel : Nat) (listed : Array Bool) (a : Act) (w : World), wpAnyG F n P md ops Q S ex fuel listed a w → wpAnyIn F n P md ops Q fuel listed a w
  | 0, _, _, _, h => h
  | fuel + 1, _, _, _, h => ⟨h.1, fun i hi => wpOpIn_mono (fun a' w' h' => wpAnyIn_of_G fuel _ a' w' h'.2) (h.2 i hi)⟩
theorem wpAnyG_first (hfn : ∀ f, F.fn f) (hdep : F.depth = none) {ex : Nat → Bool} {i : Nat} {oi : Oper} {v : Value} (hi : ops[i]? = some oi) (hsel : ∀ (j : Nat) (o : Oper) cs b, ops[j]? = some o → o.op ≠ .select cs b)
    (hdef : ∀ (j : Nat) (o : Oper) c, ops[j]? = some o → o.op ≠ .defer c) (hex : ∀ j, ex j = true → ∃ k, ancB md ops k j i = true)
    (hQ : ∀ c (a : Act) w t v, Q (.panic c) (a.put (some t) v) w → Q (.panic c) a w) :
    ∀ (fuel : Nat) (listed : Array Bool) (a : Act) (w : World), Cl md ops listed →
      (∀ j oj, ops[j]? = some oj → j ≠ i → listed.getD j true = false → (∀ e ∈ oj.after, Region.binds md e = true → e.on ≠ i) → oi.apart ops oj = true) →
      i ∈ Region.ready md ops listed → YieldsG F n P ops S oi v a → S w →
      wpAnyG F n P md ops Q S ex fuel (listed.setIfInBounds i true) (a.put oi.dst v) w → wpAnyG F n P md ops Q S ex (fuel + 1) listed a w := by
  intro fuel
  induction fuel with
  | zero =>
    intro listed a w _ _ hr hy hS H
    refine ⟨fun h => (by rw [h] at hr; cases hr), fun j hj => ?_⟩
    by_cases hji : j = i
    · subst hji; exact hy.wpOpIn hfn hdep (hdef _ _ · hi) hi hS ⟨fun _ => hS, H⟩
    · have := ready_mono hj hji
      rw [H.1] at this
      cases this
  | succ fuel ih =>
    intro listed a w hcl hfree hr hy hS H
    refine ⟨fun h => (by rw [h] at hr; cases hr), fun j hj => ?_⟩
    by_cases hji : j = i
    · subst hji; exact hy.wpOpIn hfn hdep (hdef _ _ · hi) hi hS ⟨fun _ => hS, H⟩
    · have h1 := H.2 j (ready_mono hj hji)
      obtain ⟨hjun, oj, hoj, hall⟩ := mem_ready.1 hj
      have hiun : listed.getD i false = false := by
        have h0 := (mem_ready.1 hr).1
        rcases Nat.lt_or_ge i listed.size with h' | h'
        · simp [h'] at h0 ⊢; exact h0
        · simp [Array.getElem?_eq_none h']
      have hnot : ∀ e ∈ oj.after, Region.binds md e = true → e.on ≠ i := fun e he hb heq => by
        have h1 := hall e he hb
        rw [heq, hiun] at h1
        cases h1
      have hnex : ex j = false := by
        cases hx : ex j with
        | false => rfl
        | true =>
          obtain ⟨k, hk⟩ := hex j hx
          have := ancB_ready hcl hk hj
          rw [hiun] at this
          cases this
      have h2 := wpOpIn_putG hfn hoj (hfree j oj hoj hji hjun hnot) (fun cs b => hsel i oi cs b hi) (fun cs b => hsel j oj cs b hoj) (fun c => hdef j oj c hoj) hQ hy h1
      have hfree' : ∀ k ok, ops[k]? = some ok → k ≠ i → (listed.setIfInBounds j true).getD k true = false →
          (∀ e ∈ ok.after, Region.binds md e = true → e.on ≠ i) → oi.apart ops ok = true := fun k ok hk hki hun hno => by
        refine hfree k ok hk hki ?_ hno
        by_cases hjk : j = k
        · subst hjk; exact hjun
        · rw [getD_set_ne true hjk] at hun; exact hun
      refine wpOpIn_mono (fun a' w' h3 => ⟨fun _ => h3.2.1 hnex, ih (listed.setIfInBounds j true) a' w' (hcl.set hj) hfree' (ready_mono hr (Ne.symm hji)) h3.1 (h3.2.1 hnex) ?_⟩) h2
      rw [Array.setIfInBounds_comm _ _ hji]
      exact h3.2.2
def St (F : Fence) (n : Nat) (P : Program) (ops : Array Oper) (S : World → Prop) : List (Nat × Bool) → Act → World → (Act → World → Prop) → Prop
  | [], a, w, K => K a w
  | (i, true) :: L, a, w, K => ∃ o v, ops[i]? = some o ∧ YieldsG F n P ops S o v a ∧ St F n P ops S L (a.put o.dst v) w K
  | (i, false) :: L, a, w, K => ∃ o, ops[i]? = some o ∧
      ((Region.wanted o (yielded ops a.tmps) = false ∧ St F n P ops S L (a.put o.dst undef) w K) ∨
       (Region.wanted o (yielded ops a.tmps) = true ∧ ∃ v w', (execOp a.eval o).run P w = .ok (.value v) w' ∧ S w' ∧ St F n P ops S L (a.put o.dst v) w' K) ∨
       (Region.wanted o (yielded ops a.tmps) = true ∧ ∃ f args v, (execOp a.eval o).run P w = .ok (.enter f args) w ∧ CallsIn F (n - 1) P f args w (fun e w' => e = .returned v ∧ S w') ∧ ∀ w', S w' → St F n P ops S L (a.put o.dst v) w' K))
def restOps (ops : Array Oper) : List Nat → List Oper
  | [] => []
  | r :: R => match ops[r]? with | none => restOps ops R | some o => o :: restOps ops R
def exB (md : Region.Mode) (ops : Array Oper) (L : List (Nat × Bool)) (j : Nat) : Bool := L.all fun x => !x.2 || ancB md ops ops.size j x.1
def plainKinds (ops : Array Oper) : Bool := ops.all fun o => match o.op with | .select .. => false | .defer .. => false | _ => true
def planR (md : Region.Mode) (ops : Array Oper) (ex : Nat → Bool) : List Nat → Array Bool → Bool
  | [], listed => (Region.ready md ops listed) == []
  | r :: R, listed => (Region.ready md ops listed) == [r] && ex r && planR md ops ex R (listed.setIfInBounds r true)
def planL (md : Region.Mode) (ops : Array Oper) (ex : Nat → Bool) (R : List Nat) : List (Nat × Bool) → Array Bool → Bool
  | [], listed => planR md ops ex R listed
  | (i, true) :: L, listed => Region.free md ops listed i && (Region.ready md ops listed).contains i && planL md ops ex R L (listed.setIfInBounds i true)
  | (i, false) :: L, listed => (Region.ready md ops listed) == [i] && planL md ops ex R L (listed.setIfInBounds i true)
def plan (md : Region.Mode) (ops : Array Oper) (L : List (Nat × Bool)) (R : List Nat) : Bool :=
  plainKinds ops && Nat.beq (L.length + R.length) ops.size && planL md ops (exB md ops L) R L (Array.replicate ops.size false)
theorem plainKinds_sel (h : plainKinds ops = true) (j : Nat) (o : Oper) (cs : Array SelectCase) (b : Bool) (ho : ops[j]? = some o) : o.op ≠ .select cs b := by
  intro heq
  have := Array.all_eq_true_iff_forall_mem.1 h o (Array.mem_of_getElem? ho)
  simp [heq] at this
theorem plainKinds_def (h : plainKinds ops = true) (j : Nat) (o : Oper) (c : Call) (ho : ops[j]? = some o) : o.op ≠ .defer c := by
  intro heq
  have := Array.all_eq_true_iff_forall_mem.1 h o (Array.mem_of_getElem? ho)
  simp [heq] at this
theorem walkR (hfn : ∀ f, F.fn f) {ex : Nat → Bool} : ∀ (R : List Nat) (listed : Array Bool) (a : Act) (w : World), planR md ops ex R listed = true →
    wpListIn F n P ops Q (restOps ops R) a w → wpAnyG F n P md ops Q S ex R.length listed a w
  | [], listed, a, w, hp, h => ⟨by simpa [planR] using hp, h⟩
  | r :: R, listed, a, w, hp, h => by
    simp only [planR, Bool.and_eq_true, beq_iff_eq] at hp
    obtain ⟨⟨hr, hx⟩, hp⟩ := hp
    refine ⟨fun h0 => (by rw [hr] at h0; cases h0), fun j hj => ?_⟩
    rw [hr] at hj
    obtain rfl : j = r := by simpa using hj
    have hmem : j ∈ Region.ready md ops listed := by rw [hr]; simp
    obtain ⟨_, o, ho, _⟩ := mem_ready.1 hmem
    simp only [restOps, ho] at h
    unfold wpOpIn
    simp only [ho]
    unfold wpListIn at h
    split
    · rename_i hw
      rw [if_pos hw] at h
      exact Oper.wpIn_mono (fun a' w' h' => ⟨fun hf => (by rw [hx] at hf; cases hf), walkR hfn R _ a' w' hp h'⟩) h
    · rename_i hw
      rw [if_neg hw] at h
      exact ⟨h.1, fun hf => (by rw [hx] at hf; cases hf), walkR hfn R _ _ _ hp h.2⟩
theorem walkL (hfn : ∀ f, F.fn f) (hdep : F.depth = none) {ex : Nat → Bool} (hk : plainKinds ops = true) (hQ : ∀ c (a : Act) w t v, Q (.panic c) (a.put (some t) v) w → Q (.panic c) a w) {R : List Nat} :
    ∀ (L : List (Nat × Bool)) (listed : Array Bool) (a : Act) (w : World), (∀ x ∈ L, x.2 = true → ∀ j, ex j = true → ∃ k, ancB md ops k j x.1 = true) → Cl md ops listed → S w → planL md ops ex R L listed = true →
    St F n P ops S L a w (wpListIn F n P ops Q (restOps ops R)) → wpAnyG F n P md ops Q S ex (L.length + R.length) listed a w
  | [], listed, a, w, _, _, _, hp, h => by rw [List.length_nil, Nat.zero_add]; exact walkR hfn R listed a w hp h
  | (i, true) :: L, listed, a, w, hex, hcl, hS, hp, h => by
    simp only [planL, Bool.and_eq_true] at hp
    obtain ⟨⟨hf, hr⟩, hp⟩ := hp
    obtain ⟨o, v, ho, hy, h⟩ := h
    have hmem : i ∈ Region.ready md ops listed := by simpa using hr
    rw [show (((i, true) :: L).length + R.length) = (L.length + R.length) + 1 by simp only [List.length_cons]; omega]
    exact wpAnyG_first hfn hdep ho (plainKinds_sel hk) (plainKinds_def hk) (fun j hj => hex (i, true) (by simp) rfl j hj) hQ _ listed a w hcl (Region.free_spec ho hf) hmem hy hS
      (walkL hfn hdep hk hQ L _ _ _ (fun x hx => hex x (by simp [hx])) (hcl.set hmem) hS hp h)
  | (i, false) :: L, listed, a, w, hex, hcl, hS, hp, h => by
    simp only [planL, Bool.and_eq_true, beq_iff_eq] at hp
    obtain ⟨hr, hp⟩ := hp
    obtain ⟨o, ho, h⟩ := h
    have hmem : i ∈ Region.ready md ops listed := by rw [hr]; simp
    rw [show (((i, false) :: L).length + R.length) = (L.length + R.length) + 1 by simp only [List.length_cons]; omega]
    refine ⟨fun h0 => (by rw [hr] at h0; cases h0), fun j hj => ?_⟩
    rw [hr] at hj
    obtain rfl : j = i := by simpa using hj
    unfold wpOpIn
    simp only [ho]
    rcases h with ⟨hw, h⟩ | ⟨hw, v, w', hrun, hS', h⟩ | ⟨hw, f, args, v, hrun, hc, h⟩
    · rw [if_neg (by rw [hw]; simp)]
      exact ⟨fun f _ => hfn f, fun _ => hS, walkL hfn hdep hk hQ L _ _ _ (fun x hx => hex x (by simp [hx])) (hcl.set hmem) hS hp h⟩
    · rw [if_pos hw]
      unfold Oper.wpIn
      rw [Oper.semAt_plain F _ _ (fun c => plainKinds_def hk _ _ c ho), hrun]
      exact ⟨fun f _ => hfn f, fun _ => hS', walkL hfn hdep hk hQ L _ _ _ (fun x hx => hex x (by simp [hx])) (hcl.set hmem) hS' hp h⟩
    · rw [if_pos hw]
      unfold Oper.wpIn
      rw [Oper.semAt_plain F _ _ (fun c => plainKinds_def hk _ _ c ho), hrun, Oper.uponIn_enter]
      refine ⟨fun f _ => hfn f, fun h => (by rw [hdep] at h; cases h), hc.mono ?_⟩
      rintro e w' ⟨rfl, hS'⟩
      exact ⟨fun _ => hS', walkL hfn hdep hk hQ L _ _ _ (fun x hx => hex x (by simp [hx])) (hcl.set hmem) hS' hp (h w' hS')⟩
theorem region {id : Nat} {a : Act} {w : World} (S : World → Prop) (L : List (Nat × Bool)) (R : List Nat) (hm : P.follows .mixedOrders = true) (hfn : ∀ f, F.fn f) (hdep : F.depth = none)
    (hQ : ∀ c (a : Act) w t v, Q (.panic c) (a.put (some t) v) w → Q (.panic c) a w) (hp : plan .any ops L R = true) (hS : S w.drew)
    (h : St F n P ops S L a w.drew (wpListIn F n P ops Q (restOps ops R))) : (Code.region id ops true).wpIn F n P Q a w := by
  simp only [plan, Bool.and_eq_true] at hp
  obtain ⟨⟨hk, hn⟩, hp⟩ := hp
  have hn := Nat.eq_of_beq_eq_true hn
  refine wpIn_region_any hm (wpAnyIn_of_G (S := S) (ex := exB .any ops L) _ _ _ _ ?_)
  rw [← hn]
  rw [← hn] at hp
  refine walkL hfn hdep hk hQ L _ a _ ?_ ?_ hS hp h
  · intro x hx h2 j hj
    unfold exB at hj
    have := List.all_eq_true.1 hj x hx
    rw [h2] at this
    exact ⟨ops.size, by simpa using this⟩
  · intro j o _ hl e _ _
    exfalso
    by_cases hj : j < L.length + R.length <;> simp [hj] at hl
end
end Go.Oh
end
section
namespace Go.Oh
open Go
section
variable {F : Fence} {n : Nat} {P : Program} {ops : Array Oper} {S : World → Prop} {i : Nat} {b : Bool} {L : List (Nat × Bool)} {a : Act} {w : World} {K : Act → World → Prop}
theorem St.pure (N : Tmp) {o : Oper} {v : Value} {a' : Act} (ho : ops[i]? = some o) (hN : o.dst = some N) (hw : Region.wanted o (yielded ops a.tmps) = true) (hr : ∀ w', S w' → (execOp a.eval o).run P w' = .ok (.value v) w') (ha : a.put (some N) v = a')
  (h : St F n P ops S L a' w K) : St F n P ops S ((i, true) :: L) a w K := by
 subst ha
 rw [← hN] at h
 exact ⟨o, v, ho, .inl ⟨hw, fun w' hS => .inl (hr w' hS)⟩, h⟩
theorem St.skip (N : Tmp) {o : Oper} {a' : Act} (ho : ops[i]? = some o) (hN : o.dst = some N) (hw : Region.wanted o (yielded ops a.tmps) = false) (ha : a.put (some N) undef = a')
  (h : St F n P ops S L a' w K) : St F n P ops S ((i, b) :: L) a w K := by
 subst ha
 rw [← hN] at h
 cases b with
 | true => exact ⟨o, undef, ho, .inr ⟨hw, rfl⟩, h⟩
 | false => exact ⟨o, ho, .inl ⟨hw, h⟩⟩
theorem St.make (N : Tmp) {o : Oper} {v : Value} {a' : Act} {w' : World} (ho : ops[i]? = some o) (hN : o.dst = some N) (hw : Region.wanted o (yielded ops a.tmps) = true) (hr : (execOp a.eval o).run P w = .ok (.value v) w') (ha : a.put (some N) v = a') (hS : S w')
  (h : St F n P ops S L a' w' K) : St F n P ops S ((i, false) :: L) a w K := by
 subst ha
 rw [← hN] at h
 exact ⟨o, ho, .inr (.inl ⟨hw, v, w', hr, hS, h⟩)⟩
theorem St.call (N : Tmp) {o : Oper} {v : Value} {a' : Act} {f : FuncId} {args : Array Value} (ho : ops[i]? = some o) (hN : o.dst = some N) (hw : Region.wanted o (yielded ops a.tmps) = true) (hr : (execOp a.eval o).run P w = .ok (.enter f args) w) (hc : CallsIn F (n - 1) P f args w (fun e w' => e = .returned v ∧ S w')) (ha : a.put (some N) v = a')
  (h : ∀ w', S w' → St F n P ops S L a' w' K) : St F n P ops S ((i, false) :: L) a w K := by
 subst ha
 rw [← hN] at h
 exact ⟨o, ho, .inr (.inr ⟨hw, f, args, v, hr, hc, h⟩)⟩
theorem St.done (h : K a w) : St F n P ops S [] a w K := h
end
end Go.Oh
end
