/-
  Part of the proof of DiffChangesUptoCardSaid: what Diff.Between says of two rows of leaves, Back turns and Apply takes, up to the bulk that the card names.
  A proof for this seat's program alone; the parts of the words that it needs were printed by the kit, and cut to what is used.
-/
import Derived.Below
import Derived.Orders
set_option linter.all false
section
namespace Go.Ab
open Go
abbrev PMap := Nat → Option (Nat × Nat)
def PMap.le (ρ ρ' : PMap) : Prop := ∀ i x, ρ i = some x → ρ' i = some x
theorem PMap.le_refl (ρ : PMap) : ρ.le ρ := fun _ _ h => h
theorem PMap.le_trans {a b c : PMap} (h : a.le b) (k : b.le c) : a.le c := fun i x e => k i x (h i x e)
def halfCap : Nat := 4611686018427387904
def bigCap : Nat := 9223372036854775808
def CapRel (κ c c' : Nat) : Prop := (c < halfCap ∧ c' = c) ∨ (halfCap ≤ c ∧ c' + bigCap = c + κ)
def FnR (ρ : PMap) : Fn → Fn → Prop
 | .yield l, g => ∃ b κ, ρ l = some (b, κ) ∧ g = .yield b
 | f, g => g = f
inductive R (ρ : PMap) : Value → Value → Prop
 | bool (b : Bool) : R ρ (.bool b) (.bool b)
 | int (k : IntKind) (n : Int) : R ρ (.int k n) (.int k n)
 | string (s : ByteArray) : R ρ (.string s) (.string s)
 | ptrNil : R ρ (.pointer none) (.pointer none)
 | ptr (a : Addr) (b κ : Nat) (h : ρ a.block = some (b, κ)) : R ρ (.pointer (some a)) (.pointer (some ⟨b, a.off, a.spot⟩))
 | sliceNil (n c : Nat) : R ρ (.slice none n c) (.slice none n c)
 | slice (i off b κ n c off' c' : Nat) (h : ρ i = some (b, κ)) (hn : n ≤ c') (hc : CapRel κ c c') (ho : off' = off ∨ c' = 0) :
   R ρ (.slice (some ⟨i, off, none⟩) n c) (.slice (some ⟨b, off', none⟩) n c')
 | mapNil : R ρ (.map none) (.map none)
 | map (i b κ : Nat) (h : ρ i = some (b, κ)) : R ρ (.map (some i)) (.map (some b))
 | func (fn fn' : Fn) (x x' y y' : Array Value) (hf : FnR ρ fn fn') (hx : x.size = x'.size) (hy : y.size = y'.size)
   (hx' : ∀ (i : Nat) v v', x[i]? = some v → x'[i]? = some v' → R ρ v v') (hy' : ∀ (i : Nat) v v', y[i]? = some v → y'[i]? = some v' → R ρ v v') :
   R ρ (.func fn x y) (.func fn' x' y')
 | nilFunc : R ρ .nilFunc .nilFunc
 | iface (t : TypeId) (v v' : Value) (h : R ρ v v') : R ρ (.iface t v) (.iface t v')
 | nilIface : R ρ .nilIface .nilIface
 | agg (x x' : Array Value) (hx : x.size = x'.size) (hx' : ∀ (i : Nat) v v', x[i]? = some v → x'[i]? = some v' → R ρ v v') : R ρ (.agg x) (.agg x')
 | tuple (x x' : Array Value) (hx : x.size = x'.size) (hx' : ∀ (i : Nat) v v', x[i]? = some v → x'[i]? = some v' → R ρ v v') : R ρ (.tuple x) (.tuple x')
theorem FnR.mono {ρ ρ' : PMap} (hl : ρ.le ρ') {f g : Fn} (h : FnR ρ f g) : FnR ρ' f g := by
 cases f <;> first | exact h | (obtain ⟨b, κ, h1, h2⟩ := h; exact ⟨b, κ, hl _ _ h1, h2⟩)
theorem R.mono {ρ ρ' : PMap} (hl : ρ.le ρ') {v V : Value} (h : R ρ v V) : R ρ' v V := by
 induction h with
 | bool b => exact .bool b
 | int k n => exact .int k n
 | string s => exact .string s
 | ptrNil => exact .ptrNil
 | ptr a b κ h => exact .ptr a b κ (hl _ _ h)
 | sliceNil n c => exact .sliceNil n c
 | slice i off b κ n c off' c' h hn hc ho => exact .slice i off b κ n c off' c' (hl _ _ h) hn hc ho
 | mapNil => exact .mapNil
 | map i b κ h => exact .map i b κ (hl _ _ h)
 | func fn fn' x x' y y' hf hx hy _ _ ih1 ih2 => exact .func fn fn' x x' y y' (hf.mono hl) hx hy ih1 ih2
 | nilFunc => exact .nilFunc
 | iface t v v' _ ih => exact .iface t v v' ih
 | nilIface => exact .nilIface
 | agg x x' hx _ ih => exact .agg x x' hx ih
 | tuple x x' hx _ ih => exact .tuple x x' hx ih
structure RA (ρ : PMap) (x x' : Array Value) : Prop where
 size : x.size = x'.size
 at_ : ∀ (i : Nat) v v', x[i]? = some v → x'[i]? = some v' → R ρ v v'
theorem RA.mono {ρ ρ' : PMap} (hl : ρ.le ρ') {x x' : Array Value} (h : RA ρ x x') : RA ρ' x x' :=
 ⟨h.size, fun i v v' a b => (h.at_ i v v' a b).mono hl⟩
theorem R.undef (ρ : PMap) : R ρ undef undef := .tuple _ _ rfl (by simp)
theorem RA.get {ρ : PMap} {x x' : Array Value} (h : RA ρ x x') {i : Nat} {v : Value} (hv : x[i]? = some v) : ∃ v', x'[i]? = some v' ∧ R ρ v v' := by
 have hi : i < x.size := (Array.getElem?_eq_some_iff.1 hv).1
 have hi' : i < x'.size := h.size ▸ hi
 exact ⟨x'[i], by simp [hi'], h.at_ i v _ hv (by simp [hi'])⟩
theorem RA.get_none {ρ : PMap} {x x' : Array Value} (h : RA ρ x x') {i : Nat} (hv : x[i]? = none) : x'[i]? = none := by
 have := h.size; simp at hv ⊢; omega
theorem RA.getD {ρ : PMap} {x x' : Array Value} (h : RA ρ x x') (i : Nat) {d d' : Value} (hd : R ρ d d') : R ρ (x.getD i d) (x'.getD i d') := by
 cases hv : x[i]? with
 | none => simp [Array.getD_eq_getD_getElem?, hv, h.get_none hv, hd]
 | some v => obtain ⟨v', h1, h2⟩ := h.get hv; simp [Array.getD_eq_getD_getElem?, hv, h1, h2]
theorem RA.set {ρ : PMap} {x x' : Array Value} (h : RA ρ x x') (i : Nat) {v v' : Value} (hv : R ρ v v') : RA ρ (x.setIfInBounds i v) (x'.setIfInBounds i v') := by
 refine ⟨by simp [h.size], fun j a a' h1 h2 => ?_⟩
 rw [Array.getElem?_setIfInBounds] at h1 h2
 by_cases hij : i = j
 ·subst hij
  simp only [if_true] at h1 h2
  split at h1
  ·split at h2
   ·cases h1; cases h2; exact hv
   ·cases h2
  ·cases h1
 ·rw [if_neg hij] at h1 h2; exact h.at_ j a a' h1 h2
theorem RA.append {ρ : PMap} {x x' y y' : Array Value} (h : RA ρ x x') (k : RA ρ y y') : RA ρ (x ++ y) (x' ++ y') := by
 refine ⟨by simp [h.size, k.size], fun i a a' h1 h2 => ?_⟩
 rw [Array.getElem?_append] at h1 h2
 rw [← h.size] at h2
 split at h1
 ·exact h.at_ i a a' h1 (by simpa [*] using h2)
 ·exact k.at_ _ a a' h1 (by simpa [*] using h2)
theorem RA.push {ρ : PMap} {x x' : Array Value} (h : RA ρ x x') {v v' : Value} (hv : R ρ v v') : RA ρ (x.push v) (x'.push v') := by
 refine ⟨by simp [h.size], fun i a a' h1 h2 => ?_⟩
 rw [Array.getElem?_push] at h1 h2
 rw [← h.size] at h2
 split at h1
 ·cases h1; rw [if_pos (by assumption)] at h2; cases h2; exact hv
 ·rw [if_neg (by assumption)] at h2; exact h.at_ i a a' h1 h2
theorem RA.empty (ρ : PMap) : RA ρ #[] #[] := ⟨rfl, by simp⟩
theorem RA.single {ρ : PMap} {v v' : Value} (hv : R ρ v v') : RA ρ #[v] #[v'] := (RA.empty ρ).push hv
theorem RA.replicate (ρ : PMap) (n : Nat) {v v' : Value} (hv : R ρ v v') : RA ρ (Array.replicate n v) (Array.replicate n v') := by
 refine ⟨by simp, fun i a a' h1 h2 => ?_⟩
 simp only [Array.getElem?_replicate] at h1 h2
 split at h1
 ·rw [if_pos (by assumption)] at h2; cases h1; cases h2; exact hv
 ·cases h1
theorem RA.extract {ρ : PMap} {x x' : Array Value} (h : RA ρ x x') (a b : Nat) : RA ρ (x.extract a b) (x'.extract a b) := by
 refine ⟨by simp [h.size], fun i v v' h1 h2 => ?_⟩
 rw [Array.getElem?_extract] at h1 h2
 rw [← h.size] at h2
 split at h1
 ·rw [if_pos (by assumption)] at h2; exact h.at_ _ v v' h1 h2
 ·cases h1
theorem RA.map {ρ : PMap} {α : Type} {f f' : α → Value} (l : Array α) (h : ∀ x ∈ l, R ρ (f x) (f' x)) : RA ρ (l.map f) (l.map f') := by
 refine ⟨by simp, fun i v v' h1 h2 => ?_⟩
 simp only [Array.getElem?_map, Option.map_eq_some_iff] at h1 h2
 obtain ⟨a, ha, rfl⟩ := h1
 obtain ⟨a', ha', rfl⟩ := h2
 rw [ha] at ha'; cases ha'
 exact h a (Array.mem_of_getElem? ha)
def scalar : Nat → Value → Bool
 | _, .bool _ | _, .int _ _ | _, .string _ | _, .pointer none | _, .slice none _ _ | _, .map none | _, .nilFunc | _, .nilIface => true
 | d + 1, .iface _ v => scalar d v
 | d + 1, .agg x | d + 1, .tuple x => x.all (scalar d)
 | d + 1, .func fn x y => (match fn with | .yield _ => false | _ => true) && x.all (scalar d) && y.all (scalar d)
 | _, _ => false
theorem scalar_arr {ρ : PMap} {d : Nat} (ih : ∀ {v V : Value}, scalar d v = true → R ρ v V → V = v) {x x' : Array Value} (hs : x.all (scalar d) = true) (hx : x.size = x'.size)
  (hx' : ∀ (i : Nat) v v', x[i]? = some v → x'[i]? = some v' → R ρ v v') : x' = x := by
 apply Array.ext hx.symm
 intro i h1 h2
 exact ih (by rw [Array.all_eq_true] at hs; exact hs i h2) (hx' i x[i] x'[i] (by simp [h2]) (by simp [h1]))
theorem scalar_eq {ρ : PMap} : ∀ (d : Nat) {v V : Value}, scalar d v = true → R ρ v V → V = v := by
 intro d
 induction d with
 | zero => intro v V hs h; cases h <;> first | rfl | (simp [scalar] at hs; done)
 | succ d ih =>
  intro v V hs h
  cases h with
  | iface t v v' h => rw [ih (by simpa [scalar] using hs) h]
  | agg x x' hx hx' => rw [scalar_arr ih (by simpa [scalar] using hs) hx hx']
  | tuple x x' hx hx' => rw [scalar_arr ih (by simpa [scalar] using hs) hx hx']
  | func fn fn' x x' y y' hf hx hy hx' hy' =>
   simp only [scalar, Bool.and_eq_true] at hs
   obtain ⟨⟨h0, h1⟩, h2⟩ := hs
   rw [scalar_arr ih h1 hx hx', scalar_arr ih h2 hy hy']
   cases fn <;> first | (cases hf; rfl) | simp at h0
  | _ => first | rfl | simp [scalar] at hs
theorem scalar_R {ρ : PMap} : ∀ (d : Nat) {v : Value}, scalar d v = true → R ρ v v := by
 intro d
 induction d with
 | zero =>
  intro v hs
  cases v with
  | bool b => exact .bool b
  | int k n => exact .int k n
  | string s => exact .string s
  | pointer a => cases a <;> first | exact .ptrNil | simp [scalar] at hs
  | slice a n c => cases a <;> first | exact .sliceNil n c | simp [scalar] at hs
  | map a => cases a <;> first | exact .mapNil | simp [scalar] at hs
  | nilFunc => exact .nilFunc
  | nilIface => exact .nilIface
  | _ => simp [scalar] at hs
 | succ d ih =>
  intro v hs
  have arr : ∀ {x : Array Value}, x.all (scalar d) = true → ∀ (i : Nat) v v', x[i]? = some v → x[i]? = some v' → R ρ v v' := by
   intro x hx i v v' h1 h2
   rw [h1] at h2; cases h2
   rw [Array.all_eq_true] at hx
   obtain ⟨hi, rfl⟩ := Array.getElem?_eq_some_iff.1 h1
   exact ih (hx i hi)
  cases v with
  | iface t v => exact .iface t v v (ih (by simpa [scalar] using hs))
  | agg x => exact .agg x x rfl (arr (by simpa [scalar] using hs))
  | tuple x => exact .tuple x x rfl (arr (by simpa [scalar] using hs))
  | func fn x y =>
   simp only [scalar, Bool.and_eq_true] at hs
   obtain ⟨⟨h0, h1⟩, h2⟩ := hs
   exact .func fn fn x x y y (by cases fn <;> first | rfl | simp at h0) rfl rfl (arr h1) (arr h2)
  | bool b => exact .bool b
  | int k n => exact .int k n
  | string s => exact .string s
  | pointer a => cases a <;> first | exact .ptrNil | simp [scalar] at hs
  | slice a n c => cases a <;> first | exact .sliceNil n c | simp [scalar] at hs
  | map a => cases a <;> first | exact .mapNil | simp [scalar] at hs
  | nilFunc => exact .nilFunc
  | nilIface => exact .nilIface
  | _ => simp [scalar] at hs
end Go.Ab
end
section
namespace Go.Ab
open Go
noncomputable section
inductive Tr (α : Type) where
 | e
 | n (l : Tr α) (v : α) (r : Tr α)
def Tr.get {α : Type} (d : α) (t : Tr α) (i : Nat) : α :=
 Tr.rec (motive := fun _ => Nat → α) (fun _ => d)
  (fun _ v _ gl gr i => Bool.rec (motive := fun _ => α) (Bool.rec (motive := fun _ => α) (gr (Nat.sub (Nat.div i 2) 1)) (gl (Nat.div i 2)) (Nat.beq (Nat.mod i 2) 1)) v (Nat.beq i 0)) t i
def Tr.set {α : Type} (d : α) (f : Nat) (t : Tr α) (i : Nat) (o : α) : Tr α :=
 Nat.rec (motive := fun _ => Tr α → Nat → Tr α) (fun t _ => t)
  (fun _ put t i => Tr.rec (motive := fun _ => Tr α)
   (Bool.rec (motive := fun _ => Tr α) (Bool.rec (motive := fun _ => Tr α) (.n .e d (put .e (Nat.sub (Nat.div i 2) 1))) (.n (put .e (Nat.div i 2)) d .e) (Nat.beq (Nat.mod i 2) 1)) (.n .e o .e) (Nat.beq i 0))
   (fun l v r _ _ => Bool.rec (motive := fun _ => Tr α) (Bool.rec (motive := fun _ => Tr α) (.n l v (put r (Nat.sub (Nat.div i 2) 1))) (.n (put l (Nat.div i 2)) v r) (Nat.beq (Nat.mod i 2) 1)) (.n l o r) (Nat.beq i 0)) t) f t i
theorem beq_rec {α : Type} (a b : Nat) (x y : α) : (Bool.rec (motive := fun _ => α) y x (Nat.beq a b)) = if a = b then x else y := by
 by_cases h : a = b
 ·subst h
  have : Nat.beq a a = true := by simp
  rw [this, if_pos rfl]
 ·rw [if_neg h]
  have : Nat.beq a b = false := by
   cases hb : Nat.beq a b with
   | false => rfl
   | true => exact absurd (Nat.eq_of_beq_eq_true hb) h
  rw [this]
theorem Tr.get_e {α : Type} (d : α) (i : Nat) : (Tr.e : Tr α).get d i = d := rfl
theorem Tr.get_n {α : Type} (d : α) (l : Tr α) (v : α) (r : Tr α) (i : Nat) : (Tr.n l v r).get d i = if i = 0 then v else if i % 2 = 1 then l.get d (i / 2) else r.get d (i / 2 - 1) := by
 show (Bool.rec (motive := fun _ => α) (Bool.rec (motive := fun _ => α) (r.get d (i / 2 - 1)) (l.get d (i / 2)) (Nat.beq (i % 2) 1)) v (Nat.beq i 0)) = _
 rw [beq_rec, beq_rec]
theorem Tr.set_e {α : Type} (d : α) (f i : Nat) (o : α) : Tr.set d (f + 1) .e i o = if i = 0 then .n .e o .e else if i % 2 = 1 then .n (Tr.set d f .e (i / 2) o) d .e else .n .e d (Tr.set d f .e (i / 2 - 1) o) := by
 show (Bool.rec (motive := fun _ => Tr α) (Bool.rec (motive := fun _ => Tr α) (.n .e d (Tr.set d f .e (i / 2 - 1) o)) (.n (Tr.set d f .e (i / 2) o) d .e) (Nat.beq (i % 2) 1)) (.n .e o .e) (Nat.beq i 0)) = _
 rw [beq_rec, beq_rec]
theorem Tr.set_n {α : Type} (d : α) (f : Nat) (l : Tr α) (v : α) (r : Tr α) (i : Nat) (o : α) :
  Tr.set d (f + 1) (.n l v r) i o = if i = 0 then .n l o r else if i % 2 = 1 then .n (Tr.set d f l (i / 2) o) v r else .n l v (Tr.set d f r (i / 2 - 1) o) := by
 show (Bool.rec (motive := fun _ => Tr α) (Bool.rec (motive := fun _ => Tr α) (.n l v (Tr.set d f r (i / 2 - 1) o)) (.n (Tr.set d f l (i / 2) o) v r) (Nat.beq (i % 2) 1)) (.n l o r) (Nat.beq i 0)) = _
 rw [beq_rec, beq_rec]
theorem Tr.get_set_same {α : Type} (d : α) : ∀ (f : Nat) (t : Tr α) (i : Nat) (o : α), i + 1 < 2 ^ f → (Tr.set d f t i o).get d i = o := by
 intro f
 induction f with
 | zero => intro t i o h; simp at h
 | succ f ih =>
  intro t i o h
  have hp : 2 ^ (f + 1) = 2 * 2 ^ f := by rw [Nat.pow_succ]; omega
  cases t with
  | e =>
   rw [Tr.set_e]
   split
   ·rw [Tr.get_n, if_pos (by assumption)]
   ·split
    ·rw [Tr.get_n, if_neg (by assumption), if_pos (by assumption)]; exact ih _ _ _ (by omega)
    ·rw [Tr.get_n, if_neg (by assumption), if_neg (by assumption)]; exact ih _ _ _ (by omega)
  | n l v r =>
   rw [Tr.set_n]
   split
   ·rw [Tr.get_n, if_pos (by assumption)]
   ·split
    ·rw [Tr.get_n, if_neg (by assumption), if_pos (by assumption)]; exact ih _ _ _ (by omega)
    ·rw [Tr.get_n, if_neg (by assumption), if_neg (by assumption)]; exact ih _ _ _ (by omega)
theorem Tr.get_set_ne {α : Type} (d : α) : ∀ (f : Nat) (t : Tr α) (i j : Nat) (o : α), i ≠ j → (Tr.set d f t i o).get d j = t.get d j := by
 intro f
 induction f with
 | zero => intro t i j o _; rfl
 | succ f ih =>
  intro t i j o h
  cases t with
  | e =>
   rw [Tr.set_e]
   split
   ·rw [Tr.get_n, if_neg (by omega)]; split <;> rfl
   ·split
    ·rw [Tr.get_n]; split
     ·rfl
     ·split
      ·rw [ih _ _ _ _ (by omega)]; rfl
      ·rfl
    ·rw [Tr.get_n]; split
     ·rfl
     ·split
      ·rfl
      ·rw [ih _ _ _ _ (by omega)]; rfl
  | n l v r =>
   rw [Tr.set_n]
   split
   ·have hj : ¬ j = 0 := by omega
    rw [Tr.get_n, Tr.get_n]; simp only [hj, if_false]
   ·split
    ·rw [Tr.get_n, Tr.get_n]; split
     ·rfl
     ·split
      ·rw [ih _ _ _ _ (by omega)]
      ·rfl
    ·rw [Tr.get_n, Tr.get_n]; split
     ·rfl
     ·split
      ·rfl
      ·rw [ih _ _ _ _ (by omega)]
structure Tm where
 size : Nat
 t : Tr Value
def Tm.get (t : Tm) (i : Nat) : Value := Tr.get undef t.t i
def Tm.set (t : Tm) (i : Nat) (v : Value) : Tm :=
 Tm.rec (motive := fun _ => Tm) (fun n r => Bool.rec (motive := fun _ => Tm) ⟨n, r⟩ (Bool.rec (motive := fun _ => Tm) ⟨n, r⟩ ⟨n, Tr.set undef 12 r i v⟩ (Nat.ble i 3999)) (Nat.ble (Nat.succ i) n)) t
theorem Tm.set_eq (t : Tm) (i : Nat) (v : Value) : t.set i v = if i < t.size ∧ i < 4000 then { t with t := Tr.set undef 12 t.t i v } else t := by
 obtain ⟨n, r⟩ := t
 show (Bool.rec (motive := fun _ => Tm) ⟨n, r⟩ (Bool.rec (motive := fun _ => Tm) ⟨n, r⟩ ⟨n, Tr.set undef 12 r i v⟩ (Nat.ble i 3999)) (Nat.ble (i + 1) n)) = _
 by_cases h1 : i < n
 ·have e1 : Nat.ble (i + 1) n = true := Nat.ble_eq.mpr h1
  by_cases h2 : i < 4000
  ·have e2 : Nat.ble i 3999 = true := Nat.ble_eq.mpr (by omega)
   rw [e1, e2, if_pos ⟨h1, h2⟩]
  ·have e2 : Nat.ble i 3999 = false := by
    cases hb : Nat.ble i 3999 with
    | false => rfl
    | true => exact absurd (Nat.le_of_ble_eq_true hb) (by omega)
   rw [e1, e2, if_neg (fun h => h2 h.2)]
 ·have e1 : Nat.ble (i + 1) n = false := by
   cases hb : Nat.ble (i + 1) n with
   | false => rfl
   | true => exact absurd (Nat.le_of_ble_eq_true hb) (by omega)
  rw [e1, if_neg (fun h => h1 h.1)]
theorem Tm.set_size (t : Tm) (i : Nat) (v : Value) : (t.set i v).size = t.size := by rw [Tm.set_eq]; split <;> rfl
def Tm.ofList (n : Nat) : Nat → List Value → Tm → Tm
 | _, [], t => t
 | i, v :: r, t => Tm.ofList n (i + 1) r (t.set i v)
structure ALoop where
 state : LoopState
 pending : Option Code
 fn : FuncId
 tmps : Tm
 params : Array Tmp
 assign : Code
 body : Code
 defers : Nat
inductive AO where
 | cells (c : Array Value) (elem : TypeId) (fz : Nat × Nat) (str grow ro : Bool)
 | map (es : Array MapEntry) (clock : Nat)
 | siter (s : ByteArray) (pos : Nat)
 | loop (l : ALoop)
 | deferred (taken : Bool)
abbrev T := Tr (Option AO)
def T.get (t : T) (i : Nat) : Option AO := Tr.get none t i
def T.set (f : Nat) (t : T) (i : Nat) (o : Option AO) : T := Tr.set none f t i o
theorem T.get_set_same (f : Nat) (t : T) (i : Nat) (o : Option AO) (h : i + 1 < 2 ^ f) : (T.set f t i o).get i = o := Tr.get_set_same none f t i o h
theorem T.get_set_ne (f : Nat) (t : T) (i j : Nat) (o : Option AO) (h : i ≠ j) : (T.set f t i o).get j = t.get j := Tr.get_set_ne none f t i j o h
structure St where
 heap : T
 next : Nat
 rd : Nat
 wr : Nat
def M (α : Type) := St → Option (α × St)
def M.pure {α : Type} (a : α) : M α := fun σ => some (a, σ)
def M.bind {α β : Type} (m : M α) (f : α → M β) : M β := fun σ =>
 Option.rec (motive := fun _ => Option (β × St)) none (fun p => Prod.rec (motive := fun _ => Option (β × St)) (fun a σ' => f a σ') p) (m σ)
instance : Monad M where
 pure := M.pure
 bind := M.bind
def M.fail {α : Type} : M α := fun _ => none
def M.ofOption {α : Type} : Option α → M α
 | some a => M.pure a
 | none => M.fail
def fuelT : Nat := 24
def topT : Nat := 16777214
def getM0 (i : Nat) : M AO := fun σ =>
 match σ.heap.get i with
 | some o => some (o, { σ with rd := σ.rd ||| 2 ^ i })
 | none => none
def setM0 (i : Nat) (o : AO) : M Unit := fun σ =>
 if i < topT then
  match σ.heap.get i with
  | some _ => some ((), { σ with heap := T.set fuelT σ.heap i (some o), wr := σ.wr ||| 2 ^ i })
  | none => none
 else none
def delM0 (i : Nat) : M Unit := fun σ =>
 if i < topT then
  match σ.heap.get i with
  | some _ => some ((), { σ with heap := T.set fuelT σ.heap i none, wr := σ.wr ||| 2 ^ i })
  | none => none
 else none
def newM0 (o : AO) : M Nat := fun σ =>
 if σ.next < topT then
  match σ.heap.get σ.next with
  | none => some (σ.next, { σ with heap := T.set fuelT σ.heap σ.next (some o), next := σ.next + 1, wr := σ.wr ||| 2 ^ σ.next })
  | some _ => none
 else none
def work {α : Type} (n : Nat) (k : α) : α := Bool.rec (motive := fun _ => α) k k (Nat.beq n n)
theorem work_eq {α : Type} (n : Nat) (k : α) : work n k = k := by unfold work; cases Nat.beq n n <;> rfl
def getM (i : Nat) : M AO := fun σ =>
 St.rec (motive := fun _ => Option (AO × St)) (fun h n rd wr => Option.rec (motive := fun _ => Option (AO × St)) none (fun o => work (Nat.lor rd (Nat.pow 2 i)) (some (o, ⟨h, n, Nat.lor rd (Nat.pow 2 i), wr⟩))) (T.get h i)) σ
def setM (i : Nat) (o : AO) : M Unit := fun σ =>
 St.rec (motive := fun _ => Option (Unit × St)) (fun h n rd wr => Bool.rec (motive := fun _ => Option (Unit × St)) none
  (Option.rec (motive := fun _ => Option (Unit × St)) none (fun _ => work (Nat.lor wr (Nat.pow 2 i)) (some ((), ⟨T.set fuelT h i (some o), n, rd, Nat.lor wr (Nat.pow 2 i)⟩))) (T.get h i)) (Nat.ble (Nat.succ i) topT)) σ
def delM (i : Nat) : M Unit := fun σ =>
 St.rec (motive := fun _ => Option (Unit × St)) (fun h n rd wr => Bool.rec (motive := fun _ => Option (Unit × St)) none
  (Option.rec (motive := fun _ => Option (Unit × St)) none (fun _ => work (Nat.lor wr (Nat.pow 2 i)) (some ((), ⟨T.set fuelT h i none, n, rd, Nat.lor wr (Nat.pow 2 i)⟩))) (T.get h i)) (Nat.ble (Nat.succ i) topT)) σ
def newM (o : AO) : M Nat := fun σ =>
 St.rec (motive := fun _ => Option (Nat × St)) (fun h n rd wr => Bool.rec (motive := fun _ => Option (Nat × St)) none
  (Option.rec (motive := fun _ => Option (Nat × St)) (work (Nat.lor wr (Nat.pow 2 n)) (work (Nat.succ n) (some (n, ⟨T.set fuelT h n (some o), Nat.succ n, rd, Nat.lor wr (Nat.pow 2 n)⟩)))) (fun _ => none) (T.get h n)) (Nat.ble (Nat.succ n) topT)) σ
theorem ble_rec {α : Type} (a b : Nat) (x y : α) : (Bool.rec (motive := fun _ => α) y x (Nat.ble (Nat.succ a) b)) = if a < b then x else y := by
 by_cases h : a < b
 ·rw [if_pos h, show Nat.ble (Nat.succ a) b = true from Nat.ble_eq.mpr h]
 ·rw [if_neg h]
  have : Nat.ble (Nat.succ a) b = false := by
   cases hb : Nat.ble (Nat.succ a) b with
   | false => rfl
   | true => exact absurd (Nat.le_of_ble_eq_true hb) (by omega)
  rw [this]
theorem getM_eq (i : Nat) : getM i = getM0 i := by
 funext σ; obtain ⟨h, n, rd, wr⟩ := σ; unfold getM getM0; dsimp only
 cases T.get h i <;> simp only [work_eq] <;> rfl
theorem setM_eq (i : Nat) (o : AO) : setM i o = setM0 i o := by
 funext σ; obtain ⟨h, n, rd, wr⟩ := σ; unfold setM setM0; dsimp only; rw [ble_rec]
 cases T.get h i <;> simp only [work_eq] <;> rfl
theorem delM_eq (i : Nat) : delM i = delM0 i := by
 funext σ; obtain ⟨h, n, rd, wr⟩ := σ; unfold delM delM0; dsimp only; rw [ble_rec]
 cases T.get h i <;> simp only [work_eq] <;> rfl
theorem newM_eq (o : AO) : newM o = newM0 o := by
 funext σ; obtain ⟨h, n, rd, wr⟩ := σ; unfold newM newM0; dsimp only; rw [ble_rec]
 cases T.get h n <;> simp only [work_eq] <;> rfl
structure LocAt {α : Type} (m : M α) (σ : St) (r : α) (σ' : St) (rd wr : Nat) : Prop where
 rd_eq : σ'.rd = σ.rd ||| rd
 wr_eq : σ'.wr = σ.wr ||| wr
 next_le : σ.next ≤ σ'.next
 other : ∀ i, wr.testBit i = false → σ'.heap.get i = σ.heap.get i
 fresh : ∀ i, σ.next ≤ i → i < σ'.next → wr.testBit i = true
 at_ : ∀ τ : St, τ.next = σ.next → (∀ i, rd.testBit i = true ∨ wr.testBit i = true → τ.heap.get i = σ.heap.get i) →
  ∃ τ', m τ = some (r, τ') ∧ τ'.next = σ'.next ∧ τ'.rd = τ.rd ||| rd ∧ τ'.wr = τ.wr ||| wr ∧
   (∀ i, wr.testBit i = true → τ'.heap.get i = σ'.heap.get i) ∧ (∀ i, wr.testBit i = false → τ'.heap.get i = τ.heap.get i)
def Loc {α : Type} (m : M α) : Prop := ∀ σ r σ', m σ = some (r, σ') → ∃ rd wr, LocAt m σ r σ' rd wr
theorem Loc.pure {α : Type} (a : α) : Loc (M.pure a) := by
 intro σ r σ' h
 simp only [M.pure, Option.some.injEq, Prod.mk.injEq] at h
 obtain ⟨rfl, rfl⟩ := h
 refine ⟨0, 0, by simp, by simp, Nat.le_refl _, fun _ _ => rfl, fun i h1 h2 => by omega, fun τ h1 _ => ⟨τ, rfl, h1, by simp, by simp, by simp, by simp⟩⟩
theorem Loc.fail {α : Type} : Loc (M.fail : M α) := by intro σ r σ' h; cases h
theorem Loc.ofOption {α : Type} (o : Option α) : Loc (M.ofOption o) := by
 cases o with
 | none => exact Loc.fail
 | some a => exact Loc.pure a
theorem Loc.bind {α β : Type} {m : M α} {f : α → M β} (hm : Loc m) (hf : ∀ a, Loc (f a)) : Loc (M.bind m f) := by
 intro σ r σ'' h
 unfold M.bind at h
 cases h1 : m σ with
 | none => rw [h1] at h; cases h
 | some p =>
  obtain ⟨a, σ'⟩ := p
  rw [h1] at h
  obtain ⟨rd1, wr1, l1⟩ := hm σ a σ' h1
  obtain ⟨rd2, wr2, l2⟩ := hf a σ' r σ'' h
  refine ⟨rd1 ||| rd2, wr1 ||| wr2, ?_, ?_, Nat.le_trans l1.next_le l2.next_le, ?_, ?_, ?_⟩
  ·rw [l2.rd_eq, l1.rd_eq, Nat.or_assoc]
  ·rw [l2.wr_eq, l1.wr_eq, Nat.or_assoc]
  ·intro i hi
   rw [Nat.testBit_or, Bool.or_eq_false_iff] at hi
   rw [l2.other i hi.2, l1.other i hi.1]
  ·intro i h1 h2
   rw [Nat.testBit_or]
   by_cases hi : i < σ'.next
   ·simp [l1.fresh i h1 hi]
   ·simp [l2.fresh i (by omega) h2]
  ·intro τ hn hag
   obtain ⟨τ', e1, n1, r1, w1, s1, o1⟩ := l1.at_ τ hn (fun i hi => hag i (by
    rw [Nat.testBit_or, Nat.testBit_or]; rcases hi with hi | hi <;> simp [hi]))
   obtain ⟨τ'', e2, n2, r2, w2, s2, o2⟩ := l2.at_ τ' n1 (fun i hi => by
    cases hw : wr1.testBit i with
    | true => exact s1 i hw
    | false =>
     rw [o1 i hw, l1.other i hw]
     exact hag i (by rw [Nat.testBit_or, Nat.testBit_or]; rcases hi with hi | hi <;> simp [hi]))
   refine ⟨τ'', by unfold M.bind; rw [e1]; exact e2, n2, by rw [r2, r1, Nat.or_assoc], by rw [w2, w1, Nat.or_assoc], fun i hi => ?_, fun i hi => ?_⟩
   ·cases hw : wr2.testBit i with
    | true => exact s2 i hw
    | false =>
     rw [Nat.testBit_or, hw, Bool.or_false] at hi
     rw [o2 i hw, s1 i hi, l2.other i hw]
   ·rw [Nat.testBit_or, Bool.or_eq_false_iff] at hi
    rw [o2 i hi.2, o1 i hi.1]
theorem testBit_pow (i j : Nat) : (2 ^ i).testBit j = decide (i = j) := by rw [Nat.testBit_two_pow]
theorem Loc.get (i : Nat) : Loc (getM i) := by
 rw [getM_eq]
 intro σ r σ' h
 unfold getM0 at h
 cases hg : σ.heap.get i with
 | none => rw [hg] at h; cases h
 | some o =>
  rw [hg] at h
  simp only [Option.some.injEq, Prod.mk.injEq] at h
  obtain ⟨rfl, rfl⟩ := h
  refine ⟨2 ^ i, 0, rfl, by simp, Nat.le_refl _, fun _ _ => rfl, fun j h1 h2 => by simp at h2; omega, fun τ hn hag => ?_⟩
  have := hag i (.inl (by simp))
  refine ⟨{ τ with rd := τ.rd ||| 2 ^ i }, by unfold getM0; rw [this, hg], hn, rfl, by simp, by simp, by simp⟩
theorem lt_fuelT {i : Nat} (h : i < topT) : i + 1 < 2 ^ fuelT := by unfold topT at h; unfold fuelT; omega
theorem get_put {h : T} {i : Nat} {o : Option AO} (hi : i < topT) : (T.set fuelT h i o).get i = o := T.get_set_same _ _ _ _ (lt_fuelT hi)
theorem get_put_ne {h : T} {i j : Nat} {o : Option AO} (hi : i ≠ j) : (T.set fuelT h i o).get j = h.get j := T.get_set_ne _ _ _ _ _ hi
theorem pow_false {i j : Nat} (h : (2 ^ i).testBit j = false) : i ≠ j := by intro e; subst e; simp at h
theorem pow_true {i j : Nat} (h : (2 ^ i).testBit j = true) : i = j := by simpa [testBit_pow] using h
theorem Loc.putM (i : Nat) (o : Option AO) : Loc (fun σ : St => if i < topT then match σ.heap.get i with
  | some _ => some ((), { σ with heap := T.set fuelT σ.heap i o, wr := σ.wr ||| 2 ^ i })
  | none => none
 else none) := by
 intro σ r σ' h
 simp only at h
 split at h
 next hi =>
  cases hg : σ.heap.get i with
  | none => rw [hg] at h; cases h
  | some o' =>
   rw [hg] at h
   simp only [Option.some.injEq, Prod.mk.injEq] at h
   obtain ⟨_, rfl⟩ := h
   refine ⟨0, 2 ^ i, by simp, rfl, Nat.le_refl _, fun j hj => get_put_ne (pow_false hj), fun j h1 h2 => by simp at h2; omega, fun τ hn hag => ?_⟩
   have := hag i (.inr (by simp))
   refine ⟨{ τ with heap := T.set fuelT τ.heap i o, wr := τ.wr ||| 2 ^ i }, by simp only [hi, if_true, this, hg], hn, by simp, rfl, fun j hj => ?_, fun j hj => get_put_ne (pow_false hj)⟩
   obtain rfl := pow_true hj
   simp only [get_put hi]
 next => cases h
theorem Loc.set (i : Nat) (o : AO) : Loc (setM i o) := by rw [setM_eq]; exact Loc.putM i (some o)
theorem Loc.del (i : Nat) : Loc (delM i) := by rw [delM_eq]; exact Loc.putM i none
theorem Loc.new (o : AO) : Loc (newM o) := by
 rw [newM_eq]
 intro σ r σ' h
 unfold newM0 at h
 split at h
 next hi =>
  cases hg : σ.heap.get σ.next with
  | some o' => rw [hg] at h; cases h
  | none =>
   rw [hg] at h
   simp only [Option.some.injEq, Prod.mk.injEq] at h
   obtain ⟨rfl, rfl⟩ := h
   refine ⟨0, 2 ^ σ.next, by simp, rfl, by simp, fun j hj => get_put_ne (pow_false hj), fun j h1 h2 => ?_, fun τ hn hag => ?_⟩
   ·obtain rfl : σ.next = j := by simp at h2; omega
    simp
   ·have := hag σ.next (.inr (by simp))
    refine ⟨{ τ with heap := T.set fuelT τ.heap τ.next (some o), next := τ.next + 1, wr := τ.wr ||| 2 ^ τ.next }, ?_, by simp [hn], by simp, by simp [hn], fun j hj => ?_, fun j hj => ?_⟩
    ·unfold newM0; rw [hn, if_pos hi, this, hg]
    ·obtain rfl := pow_true hj
     simp only [hn, get_put hi]
    ·simp only [hn]; exact get_put_ne (pow_false hj)
 next => cases h
theorem Loc.cond {α : Type} {c : Bool} {m n : M α} (hm : Loc m) (hn : Loc n) : Loc (bif c then m else n) := by cases c <;> assumption
theorem Loc.ite {α : Type} {c : Prop} [Decidable c] {m n : M α} (hm : Loc m) (hn : Loc n) : Loc (if c then m else n) := by split <;> assumption
def footM {α : Type} (m : M α) : M (α × Nat × Nat) := fun σ =>
 match m { σ with rd := 0, wr := 0 } with
 | none => none
 | some (a, σ') => some ((a, σ'.rd, σ'.wr), { σ' with rd := σ.rd ||| σ'.rd, wr := σ.wr ||| σ'.wr })
theorem Loc.foot {α : Type} {m : M α} (hm : Loc m) : Loc (footM m) := by
 intro σ r σ' h
 unfold footM at h
 cases h1 : m { σ with rd := 0, wr := 0 } with
 | none => rw [h1] at h; cases h
 | some p =>
  obtain ⟨a, σ1⟩ := p
  rw [h1] at h
  simp only [Option.some.injEq, Prod.mk.injEq] at h
  obtain ⟨rfl, rfl⟩ := h
  obtain ⟨rd, wr, l⟩ := hm _ _ _ h1
  have e1 : σ1.rd = rd := by simpa using l.rd_eq
  have e2 : σ1.wr = wr := by simpa using l.wr_eq
  refine ⟨rd, wr, by simp [e1], by simp [e2], l.next_le, l.other, l.fresh, fun τ hn hag => ?_⟩
  obtain ⟨τ', a1, a2, a3, a4, a5, a6⟩ := l.at_ { τ with rd := 0, wr := 0 } hn hag
  have e3 : τ'.rd = rd := by simpa using a3
  have e4 : τ'.wr = wr := by simpa using a4
  refine ⟨{ τ' with rd := τ.rd ||| τ'.rd, wr := τ.wr ||| τ'.wr }, ?_, a2, by simp [e3], by simp [e4], a5, a6⟩
  unfold footM
  rw [a1]
  simp [e1, e2, e3, e4]
theorem foot_at {α : Type} {m : M α} {σ σ' : St} {a : α} {rd wr : Nat} (hm : Loc m) (h : footM m σ = some ((a, rd, wr), σ')) :
  ∃ σ1, m { σ with rd := 0, wr := 0 } = some (a, σ1) ∧ σ' = { σ1 with rd := σ.rd ||| rd, wr := σ.wr ||| wr } ∧ LocAt m { σ with rd := 0, wr := 0 } a σ1 rd wr := by
 unfold footM at h
 cases h1 : m { σ with rd := 0, wr := 0 } with
 | none => rw [h1] at h; cases h
 | some p =>
  obtain ⟨a', σ1⟩ := p
  rw [h1] at h
  simp only [Option.some.injEq, Prod.mk.injEq] at h
  obtain ⟨⟨rfl, rfl, rfl⟩, rfl⟩ := h
  obtain ⟨rd, wr, l⟩ := hm _ _ _ h1
  obtain rfl : σ1.rd = rd := by simpa using l.rd_eq
  obtain rfl : σ1.wr = wr := by simpa using l.wr_eq
  exact ⟨σ1, rfl, rfl, l⟩
end
end Go.Ab
end
