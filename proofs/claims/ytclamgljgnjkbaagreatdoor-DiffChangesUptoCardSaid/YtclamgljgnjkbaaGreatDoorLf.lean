/-
  Part of the proof of DiffChangesUptoCardSaid: what Diff.Between says of two rows of leaves, Back turns and Apply takes, up to the bulk that the card names.
  A proof for this seat's program alone; the parts of the words that it needs were printed by the kit, and cut to what is used.
-/
import Derived.Lib.Bytes
import Derived.Test.YtclamgljgnjkbaaGreatDoorLb
set_option linter.all false
section
namespace Go.Row
open Go
abbrev K := ByteArray
def lt (a b : K) : Bool := Op.bytesLess a.toList b.toList
theorem bl_irrefl : ∀ x : List UInt8, Op.bytesLess x x = false
 | [] => rfl
 | a :: x => by simp [Op.bytesLess, bl_irrefl x]
theorem bl_trans : ∀ x y z : List UInt8, Op.bytesLess x y = true → Op.bytesLess y z = true → Op.bytesLess x z = true
 | [], _, [], _, h => by cases ‹List UInt8› <;> simp [Op.bytesLess] at h
 | [], _, _ :: _, _, _ => by simp [Op.bytesLess]
 | a :: x, [], z, h, _ => by simp [Op.bytesLess] at h
 | a :: x, b :: y, [], _, h => by simp [Op.bytesLess] at h
 | a :: x, b :: y, c :: z, h, k => by
  simp only [Op.bytesLess, Bool.or_eq_true, decide_eq_true_eq, Bool.and_eq_true, beq_iff_eq] at h k ⊢
  rcases h with h | ⟨rfl, h⟩
  ·rcases k with k | ⟨rfl, k⟩
   ·exact .inl (UInt8.lt_trans h k)
   ·exact .inl h
  ·rcases k with k | ⟨rfl, k⟩
   ·exact .inl k
   ·exact .inr ⟨rfl, bl_trans x y z h k⟩
theorem bl_tri : ∀ x y : List UInt8, Op.bytesLess x y = false → Op.bytesLess y x = false → x = y
 | [], [], _, _ => rfl
 | [], _ :: _, h, _ => by simp [Op.bytesLess] at h
 | _ :: _, [], _, h => by simp [Op.bytesLess] at h
 | a :: x, b :: y, h, k => by
  simp only [Op.bytesLess, Bool.or_eq_false_iff, decide_eq_false_iff_not, Bool.and_eq_false_iff, beq_eq_false_iff_ne] at h k
  have e : a = b := UInt8.le_antisymm (UInt8.not_lt.1 k.1) (UInt8.not_lt.1 h.1)
  subst e
  rw [bl_tri x y (h.2.resolve_left (by simp)) (k.2.resolve_left (by simp))]
theorem toList_inj {a b : K} (h : a.toList = b.toList) : a = b := by
 rw [Lib.toList_data, Lib.toList_data] at h
 cases a; cases b
 simpa [Array.toList_inj] using h
theorem lt_irrefl (a : K) : lt a a = false := bl_irrefl _
theorem lt_trans {a b c : K} (h : lt a b = true) (k : lt b c = true) : lt a c = true := bl_trans _ _ _ h k
theorem lt_tri {a b : K} (h : lt a b = false) (k : lt b a = false) : a = b := toList_inj (bl_tri _ _ h k)
theorem lt_asymm {a b : K} (h : lt a b = true) : lt b a = false := by
 cases e : lt b a with
 | false => rfl
 | true => have := lt_trans h e; rw [lt_irrefl] at this; cases this
theorem lt_ne {a b : K} (h : lt a b = true) : a ≠ b := by rintro rfl; rw [lt_irrefl] at h; cases h
section
variable {α : Type} (k : α → K)
def Up (l : List α) : Prop := l.Pairwise (fun a b => lt (k a) (k b) = true)
def look (p : K) : List α → Option α
 | [] => none
 | a :: l => if k a = p then some a else look p l
variable {k}
theorem Up.tail {a : α} {l : List α} (h : Up k (a :: l)) : Up k l := (List.pairwise_cons.1 h).2
theorem Up.head {a : α} {l : List α} (h : Up k (a :: l)) : ∀ b ∈ l, lt (k a) (k b) = true := (List.pairwise_cons.1 h).1
theorem look_key {p : K} : ∀ {l : List α} {a : α}, look k p l = some a → k a = p ∧ a ∈ l
 | [], _, h => by cases h
 | b :: l, a, h => by
  unfold look at h
  split at h
  ·cases h; exact ⟨‹_›, by simp⟩
  ·have := look_key h; exact ⟨this.1, by simp [this.2]⟩
theorem look_none {p : K} : ∀ {l : List α}, (∀ a ∈ l, k a ≠ p) → look k p l = none
 | [], _ => rfl
 | b :: l, h => by unfold look; rw [if_neg (h b (by simp))]; exact look_none fun a ha => h a (by simp [ha])
theorem look_none_of {p : K} : ∀ {l : List α}, look k p l = none → ∀ a ∈ l, k a ≠ p
 | [], _, _, h => by cases h
 | b :: l, h, a, ha => by
  unfold look at h
  split at h
  ·cases h
  ·rcases List.mem_cons.1 ha with rfl | ha
   ·assumption
   ·exact look_none_of h a ha
theorem look_mem {l : List α} (h : Up k l) {a : α} (ha : a ∈ l) : look k (k a) l = some a := by
 induction l with
 | nil => cases ha
 | cons b l ih =>
  unfold look
  rcases List.mem_cons.1 ha with rfl | ha
  ·rw [if_pos rfl]
  ·rw [if_neg (lt_ne (h.head a ha)), ih h.tail ha]
theorem look_lt {a : α} {l : List α} (h : Up k (a :: l)) {p : K} (hp : lt p (k a) = true) : look k p (a :: l) = none := by
 refine look_none fun b hb => ?_
 rcases List.mem_cons.1 hb with rfl | hb
 ·exact (lt_ne hp).symm
 ·exact (lt_ne (lt_trans hp (h.head b hb))).symm
theorem look_cons_ne {a : α} {l : List α} {p : K} (h : k a ≠ p) : look k p (a :: l) = look k p l := by rw [look, if_neg h]
theorem look_cons_eq {a : α} {l : List α} {p : K} (h : k a = p) : look k p (a :: l) = some a := by rw [look, if_pos h]
theorem look_tail_head {a : α} {l : List α} (h : Up k (a :: l)) : look k (k a) l = none := look_none fun b hb => (lt_ne (h.head b hb)).symm
theorem Up.ext {l m : List α} (hl : Up k l) (hm : Up k m) (h : ∀ p, look k p l = look k p m) : l = m := by
 induction l generalizing m with
 | nil =>
  cases m with
  | nil => rfl
  | cons b m => have := h (k b); rw [look_cons_eq rfl] at this; cases this
 | cons a l ih =>
  cases m with
  | nil => have := h (k a); rw [look_cons_eq rfl] at this; cases this
  | cons b m =>
   have hk : k a = k b := by
    refine lt_tri ?_ ?_
    ·cases e : lt (k a) (k b) with
     | false => rfl
     | true => have := h (k a); rw [look_cons_eq rfl, look_lt hm e] at this; cases this
    ·cases e : lt (k b) (k a) with
     | false => rfl
     | true => have := h (k b); rw [look_cons_eq (k := k) (a := b) rfl, look_lt hl e] at this; cases this
   have hab : a = b := by have := h (k a); rw [look_cons_eq rfl, look_cons_eq hk.symm] at this; exact Option.some.inj this
   subst hab
   rw [ih hl.tail hm.tail fun p => ?_]
   by_cases e : k a = p
   ·subst e; rw [look_tail_head hl, look_tail_head hm]
   ·have := h p; rwa [look_cons_ne e, look_cons_ne e] at this
theorem Up.filterMap {β : Type} {kb : β → K} {f : α → Option β} (hf : ∀ a b, f a = some b → kb b = k a) {l : List α} (h : Up k l) : Up kb (l.filterMap f) := by
 refine List.Pairwise.filterMap f (fun a a' haa b hb b' hb' => ?_) h
 rw [hf _ _ hb, hf _ _ hb']; exact haa
theorem look_filterMap {β : Type} {kb : β → K} {f : α → Option β} (hf : ∀ a b, f a = some b → kb b = k a) {l : List α} (h : Up k l) (p : K) : look kb p (l.filterMap f) = (look k p l).bind f := by
 induction l with
 | nil => rfl
 | cons a l ih =>
  by_cases e : k a = p
  ·rw [look_cons_eq e]
   cases hb : f a with
   | none =>
    rw [List.filterMap_cons, hb]; simp only [Option.bind_some, hb]
    subst e
    rw [ih h.tail, look_tail_head h]; rfl
   | some b => rw [List.filterMap_cons, hb]; simp only [Option.bind_some, hb]; exact look_cons_eq ((hf _ _ hb).trans e)
  ·rw [look_cons_ne e]
   cases hb : f a with
   | none => rw [List.filterMap_cons, hb]; simp only; exact ih h.tail
   | some b => rw [List.filterMap_cons, hb]; simp only; rw [look_cons_ne (by rw [hf _ _ hb]; exact e)]; exact ih h.tail
end
end Go.Row
end
section
namespace Go.Row
open Go
section
variable {α β : Type}
def mg (pa : α → ByteArray) (pb : β → ByteArray) : List α → List β → List (Option α × Option β)
 | [], [] => []
 | a :: l, [] => (some a, none) :: mg pa pb l []
 | [], b :: m => (none, some b) :: mg pa pb [] m
 | a :: l, b :: m =>
  if lt (pa a) (pb b) = true then (some a, none) :: mg pa pb l (b :: m)
  else if lt (pb b) (pa a) = true then (none, some b) :: mg pa pb (a :: l) m
  else (some a, some b) :: mg pa pb l m
termination_by l m => l.length + m.length
variable {pa : α → ByteArray} {pb : β → ByteArray}
theorem mg_nil : mg pa pb [] [] = [] := by rw [mg]
theorem mg_left (a : α) (l : List α) : mg pa pb (a :: l) [] = (some a, none) :: mg pa pb l [] := by rw [mg]
theorem mg_right (b : β) (m : List β) : mg pa pb [] (b :: m) = (none, some b) :: mg pa pb [] m := by rw [mg]
theorem mg_lt {a : α} {b : β} (l : List α) (m : List β) (h : lt (pa a) (pb b) = true) : mg pa pb (a :: l) (b :: m) = (some a, none) :: mg pa pb l (b :: m) := by rw [mg, if_pos h]
theorem mg_gt {a : α} {b : β} (l : List α) (m : List β) (h0 : lt (pa a) (pb b) = false) (h : lt (pb b) (pa a) = true) : mg pa pb (a :: l) (b :: m) = (none, some b) :: mg pa pb (a :: l) m := by rw [mg, if_neg (by simp [h0]), if_pos h]
theorem mg_eq {a : α} {b : β} (l : List α) (m : List β) (h0 : lt (pa a) (pb b) = false) (h : lt (pb b) (pa a) = false) : mg pa pb (a :: l) (b :: m) = (some a, some b) :: mg pa pb l m := by rw [mg, if_neg (by simp [h0]), if_neg (by simp [h])]
theorem mg_length (l : List α) (m : List β) : (mg pa pb l m).length ≤ l.length + m.length := by
 induction l, m using mg.induct (pa := pa) (pb := pb) with
 | case1 => simp [mg_nil]
 | case2 a l ih => rw [mg_left]; simp at ih ⊢; omega
 | case3 b m ih => rw [mg_right]; simp at ih ⊢; omega
 | case4 a l b m h ih => rw [mg_lt l m h]; simp at ih ⊢; omega
 | case5 a l b m h0 h ih => rw [mg_gt l m (by simpa using h0) h]; simp at ih ⊢; omega
 | case6 a l b m h0 h ih => rw [mg_eq l m (by simpa using h0) (by simpa using h)]; simp at ih ⊢; omega
def ik (pa : α → ByteArray) (pb : β → ByteArray) : Option α × Option β → ByteArray
 | (some a, _) => pa a
 | (none, some b) => pb b
 | (none, none) => ⟨#[]⟩
def both : Option α → Option β → Option (Option α × Option β)
 | none, none => none
 | x, y => some (x, y)
@[simp] theorem both_none : both (none : Option α) (none : Option β) = none := rfl
@[simp] theorem both_l (a : α) (y : Option β) : both (some a) y = some (some a, y) := by cases y <;> rfl
@[simp] theorem both_r (x : Option α) (b : β) : both x (some b) = some (x, some b) := by cases x <;> rfl
theorem mg_mem (l : List α) (m : List β) : ∀ x ∈ mg pa pb l m, (∃ a ∈ l, ik pa pb x = pa a) ∨ (∃ b ∈ m, ik pa pb x = pb b) := by
 induction l, m using mg.induct (pa := pa) (pb := pb) with
 | case1 => simp [mg_nil]
 | case2 a l ih =>
  rw [mg_left]; intro x hx
  rcases List.mem_cons.1 hx with rfl | hx
  ·exact .inl ⟨a, by simp, rfl⟩
  ·rcases ih x hx with ⟨c, hc, e⟩ | ⟨c, hc, e⟩
   ·exact .inl ⟨c, by simp [hc], e⟩
   ·exact .inr ⟨c, hc, e⟩
 | case3 b m ih =>
  rw [mg_right]; intro x hx
  rcases List.mem_cons.1 hx with rfl | hx
  ·exact .inr ⟨b, by simp, rfl⟩
  ·rcases ih x hx with ⟨c, hc, e⟩ | ⟨c, hc, e⟩
   ·exact .inl ⟨c, hc, e⟩
   ·exact .inr ⟨c, by simp [hc], e⟩
 | case4 a l b m h ih =>
  rw [mg_lt l m h]; intro x hx
  rcases List.mem_cons.1 hx with rfl | hx
  ·exact .inl ⟨a, by simp, rfl⟩
  ·rcases ih x hx with ⟨c, hc, e⟩ | ⟨c, hc, e⟩
   ·exact .inl ⟨c, by simp [hc], e⟩
   ·exact .inr ⟨c, hc, e⟩
 | case5 a l b m h0 h ih =>
  rw [mg_gt l m (by simpa using h0) h]; intro x hx
  rcases List.mem_cons.1 hx with rfl | hx
  ·exact .inr ⟨b, by simp, rfl⟩
  ·rcases ih x hx with ⟨c, hc, e⟩ | ⟨c, hc, e⟩
   ·exact .inl ⟨c, hc, e⟩
   ·exact .inr ⟨c, by simp [hc], e⟩
 | case6 a l b m h0 h ih =>
  rw [mg_eq l m (by simpa using h0) (by simpa using h)]; intro x hx
  rcases List.mem_cons.1 hx with rfl | hx
  ·exact .inl ⟨a, by simp, rfl⟩
  ·rcases ih x hx with ⟨c, hc, e⟩ | ⟨c, hc, e⟩
   ·exact .inl ⟨c, by simp [hc], e⟩
   ·exact .inr ⟨c, by simp [hc], e⟩
theorem mg_up {l : List α} {m : List β} : Up pa l → Up pb m → Up (ik pa pb) (mg pa pb l m) := by
 induction l, m using mg.induct (pa := pa) (pb := pb) with
 | case1 => intro _ _; rw [mg_nil]; exact List.Pairwise.nil
 | case2 a l ih =>
  intro hl hm; rw [mg_left]
  refine List.pairwise_cons.2 ⟨fun x hx => ?_, ih hl.tail hm⟩
  rcases mg_mem _ _ x hx with ⟨c, hc, e⟩ | ⟨c, hc, e⟩
  ·rw [e]; exact hl.head c hc
  ·cases hc
 | case3 b m ih =>
  intro hl hm; rw [mg_right]
  refine List.pairwise_cons.2 ⟨fun x hx => ?_, ih hl hm.tail⟩
  rcases mg_mem _ _ x hx with ⟨c, hc, e⟩ | ⟨c, hc, e⟩
  ·cases hc
  ·rw [e]; exact hm.head c hc
 | case4 a l b m h ih =>
  intro hl hm; rw [mg_lt l m h]
  refine List.pairwise_cons.2 ⟨fun x hx => ?_, ih hl.tail hm⟩
  rcases mg_mem _ _ x hx with ⟨c, hc, e⟩ | ⟨c, hc, e⟩
  ·rw [e]; exact hl.head c hc
  ·rw [e]
   rcases List.mem_cons.1 hc with rfl | hc
   ·exact h
   ·exact lt_trans h (hm.head c hc)
 | case5 a l b m h0 h ih =>
  intro hl hm; rw [mg_gt l m (by simpa using h0) h]
  refine List.pairwise_cons.2 ⟨fun x hx => ?_, ih hl hm.tail⟩
  rcases mg_mem _ _ x hx with ⟨c, hc, e⟩ | ⟨c, hc, e⟩
  ·rw [e]
   rcases List.mem_cons.1 hc with rfl | hc
   ·exact h
   ·exact lt_trans h (hl.head c hc)
  ·rw [e]; exact hm.head c hc
 | case6 a l b m h0 h ih =>
  intro hl hm; rw [mg_eq l m (by simpa using h0) (by simpa using h)]
  have e0 : pa a = pb b := lt_tri (by simpa using h0) (by simpa using h)
  refine List.pairwise_cons.2 ⟨fun x hx => ?_, ih hl.tail hm.tail⟩
  rcases mg_mem _ _ x hx with ⟨c, hc, e⟩ | ⟨c, hc, e⟩
  ·rw [e]; exact hl.head c hc
  ·rw [e]; show lt (pa a) (pb c) = true; rw [e0]; exact hm.head c hc
theorem look_nil (k : α → ByteArray) (p : ByteArray) : look k p ([] : List α) = none := rfl
theorem mg_look (p : ByteArray) {l : List α} {m : List β} : Up pa l → Up pb m → look (ik pa pb) p (mg pa pb l m) = both (look pa p l) (look pb p m) := by
 induction l, m using mg.induct (pa := pa) (pb := pb) with
 | case1 => intro _ _; rw [mg_nil]; rfl
 | case2 a l ih =>
  intro hl hm; rw [mg_left]
  by_cases e : pa a = p
  ·rw [look_cons_eq (k := ik pa pb) (a := (some a, none)) e, look_cons_eq e]; rfl
  ·rw [look_cons_ne (k := ik pa pb) (a := (some a, none)) e, look_cons_ne e]; exact ih hl.tail hm
 | case3 b m ih =>
  intro hl hm; rw [mg_right]
  by_cases e : pb b = p
  ·rw [look_cons_eq (k := ik pa pb) (a := (none, some b)) e, look_cons_eq e]; rfl
  ·rw [look_cons_ne (k := ik pa pb) (a := (none, some b)) e, look_cons_ne e]; exact ih hl hm.tail
 | case4 a l b m h ih =>
  intro hl hm; rw [mg_lt l m h]
  by_cases e : pa a = p
  ·rw [look_cons_eq (k := ik pa pb) (a := (some a, none)) e, look_cons_eq e]
   subst e; rw [look_lt hm h]; rfl
  ·rw [look_cons_ne (k := ik pa pb) (a := (some a, none)) e, look_cons_ne e]; exact ih hl.tail hm
 | case5 a l b m h0 h ih =>
  intro hl hm; rw [mg_gt l m (by simpa using h0) h]
  by_cases e : pb b = p
  ·rw [look_cons_eq (k := ik pa pb) (a := (none, some b)) e, look_cons_eq (a := b) e]
   subst e; rw [look_lt hl h]; rfl
  ·rw [look_cons_ne (k := ik pa pb) (a := (none, some b)) e, look_cons_ne (a := b) e]; exact ih hl hm.tail
 | case6 a l b m h0 h ih =>
  intro hl hm; rw [mg_eq l m (by simpa using h0) (by simpa using h)]
  have e0 : pa a = pb b := lt_tri (by simpa using h0) (by simpa using h)
  by_cases e : pa a = p
  ·rw [look_cons_eq (k := ik pa pb) (a := (some a, some b)) e, look_cons_eq e, look_cons_eq (a := b) (e0.symm.trans e)]; rfl
  ·rw [look_cons_ne (k := ik pa pb) (a := (some a, some b)) e, look_cons_ne e, look_cons_ne (a := b) (fun h => e (e0.trans h))]; exact ih hl.tail hm.tail
structure It (l : List α) (m : List β) where
 a : Option Nat
 b : Option Nat
 ha : ∀ i, a = some i → i < l.length
 hb : ∀ i, b = some i → i < m.length
 hab : a.isSome = true ∨ b.isSome = true
def It.val {l : List α} {m : List β} (x : It l m) : Option α × Option β := (x.a.bind (l[·]?), x.b.bind (m[·]?))
end
end Go.Row
end
section
namespace Go.Proofs.YtclamgljgnjkbaaGreatDoor.PD
open Go Go.Row
def e0 : ByteArray := ⟨#[]⟩
theorem S35.eta {a b : S35} (h0 : a.f0 = b.f0) (h1 : a.f1 = b.f1) : a = b := by cases a; cases b; cases h0; cases h1; rfl
def S56.was (c : S56) : Option K := bif c.f1 then some c.f2 else none
def S56.is (c : S56) : Option K := bif c.f3 then some c.f4 else none
def S56.dif (c : S56) : Option K × Option K := (c.was, c.is)
def GL (P V : K → Prop) (a : S35) : Prop := P a.f0 ∧ V a.f1
structure GC (P V : K → Prop) (c : S56) : Prop where
 path : P c.f0
 v2 : V c.f2
 v4 : V c.f4
 some : c.f1 = true ∨ c.f3 = true
 w0 : c.f1 = false → c.f2 = e0
 i0 : c.f3 = false → c.f4 = e0
 ne : c.f1 = true → c.f3 = true → c.f2 ≠ c.f4
variable {P V : K → Prop}
theorem GC.eta {c d : S56} (hc : GC P V c) (hd : GC P V d) (h0 : c.f0 = d.f0) (h : c.dif = d.dif) : c = d := by
 obtain ⟨p, a, x, b, y⟩ := c
 obtain ⟨p', a', x', b', y'⟩ := d
 have h1 := hc.w0; have h2 := hc.i0; have h3 := hd.w0; have h4 := hd.i0
 simp only [S56.dif, S56.was, S56.is, Prod.mk.injEq] at h
 cases a <;> cases b <;> cases a' <;> cases b' <;> simp_all
def val (l : List S35) (p : K) : Option K := (Row.look S35.f0 p l).map S35.f1
def dif (c : List S56) (p : K) : Option (Option K × Option K) := (Row.look S56.f0 p c).map S56.dif
theorem rows_ext {l m : List S35} (hl : Up S35.f0 l) (hm : Up S35.f0 m) (h : ∀ p, val l p = val m p) : l = m := by
 refine hl.ext hm fun p => ?_
 have := h p
 unfold val at this
 cases e1 : Row.look S35.f0 p l with
 | none => rw [e1] at this; cases e2 : Row.look S35.f0 p m with
  | none => rfl
  | some b => rw [e2] at this; cases this
 | some a => rw [e1] at this; cases e2 : Row.look S35.f0 p m with
  | none => rw [e2] at this; cases this
  | some b =>
   rw [e2] at this
   rw [S35.eta ((look_key e1).1.trans (look_key e2).1.symm) (Option.some.inj this)]
theorem chg_ext {l m : List S56} (hl : Up S56.f0 l) (hm : Up S56.f0 m) (gl : ∀ c ∈ l, GC P V c) (gm : ∀ c ∈ m, GC P V c) (h : ∀ p, dif l p = dif m p) : l = m := by
 refine hl.ext hm fun p => ?_
 have := h p
 unfold dif at this
 cases e1 : Row.look S56.f0 p l with
 | none => rw [e1] at this; cases e2 : Row.look S56.f0 p m with
  | none => rfl
  | some b => rw [e2] at this; cases this
 | some a => rw [e1] at this; cases e2 : Row.look S56.f0 p m with
  | none => rw [e2] at this; cases this
  | some b =>
   rw [e2] at this
   rw [GC.eta (gl a (look_key e1).2) (gm b (look_key e2).2) ((look_key e1).1.trans (look_key e2).1.symm) (Option.some.inj this)]
def btw : Option S35 × Option S35 → Option S56
 | (some a, none) => some ⟨a.f0, true, a.f1, false, e0⟩
 | (none, some b) => some ⟨b.f0, false, e0, true, b.f1⟩
 | (some a, some b) => if a.f1 = b.f1 then none else some ⟨a.f0, true, a.f1, true, b.f1⟩
 | (none, none) => none
def between (a b : List S35) : List S56 := (mg S35.f0 S35.f0 a b).filterMap btw
def D (x y : Option K) : Option (Option K × Option K) := if x = y then none else some (x, y)
theorem btw_key (x : Option S35 × Option S35) (c : S56) (h : btw x = some c) : c.f0 = ik S35.f0 S35.f0 x := by
 obtain ⟨a | a, b | b⟩ := x <;> simp only [btw] at h
 ·cases h
 ·cases h; rfl
 ·cases h; rfl
 ·split at h
  ·cases h
  ·cases h; rfl
theorem between_up {a b : List S35} (ha : Up S35.f0 a) (hb : Up S35.f0 b) : Up S56.f0 (between a b) := (mg_up ha hb).filterMap btw_key
theorem between_dif {a b : List S35} (ha : Up S35.f0 a) (hb : Up S35.f0 b) (p : K) : dif (between a b) p = D (val a p) (val b p) := by
 unfold dif between val
 rw [look_filterMap btw_key (mg_up ha hb), mg_look p ha hb]
 cases e1 : Row.look S35.f0 p a with
 | none => cases e2 : Row.look S35.f0 p b with
  | none => rfl
  | some y => simp [btw, D, S56.dif, S56.was, S56.is]
 | some x => cases e2 : Row.look S35.f0 p b with
  | none => simp [btw, D, S56.dif, S56.was, S56.is]
  | some y =>
   simp only [both_l, Option.bind_some, btw, Option.map_some, D, Option.some.injEq]
   split <;> simp [S56.dif, S56.was, S56.is]
theorem mg_vals {α β : Type} {pa : α → K} {pb : β → K} (l : List α) (m : List β) : ∀ x ∈ mg pa pb l m, (∀ a, x.1 = some a → a ∈ l) ∧ (∀ b, x.2 = some b → b ∈ m) := by
 induction l, m using mg.induct (pa := pa) (pb := pb) with
 | case1 => simp [mg_nil]
 | case2 a l ih =>
  rw [mg_left]; intro x hx
  rcases List.mem_cons.1 hx with rfl | hx
  ·simp
  ·exact ⟨fun c h => by simp [(ih x hx).1 c h], (ih x hx).2⟩
 | case3 b m ih =>
  rw [mg_right]; intro x hx
  rcases List.mem_cons.1 hx with rfl | hx
  ·simp
  ·exact ⟨(ih x hx).1, fun c h => by simp [(ih x hx).2 c h]⟩
 | case4 a l b m h ih =>
  rw [mg_lt l m h]; intro x hx
  rcases List.mem_cons.1 hx with rfl | hx
  ·simp
  ·exact ⟨fun c h => by simp [(ih x hx).1 c h], (ih x hx).2⟩
 | case5 a l b m h0 h ih =>
  rw [mg_gt l m (by simpa using h0) h]; intro x hx
  rcases List.mem_cons.1 hx with rfl | hx
  ·simp
  ·exact ⟨(ih x hx).1, fun c h => by simp [(ih x hx).2 c h]⟩
 | case6 a l b m h0 h ih =>
  rw [mg_eq l m (by simpa using h0) (by simpa using h)]; intro x hx
  rcases List.mem_cons.1 hx with rfl | hx
  ·simp
  ·exact ⟨fun c h => by simp [(ih x hx).1 c h], fun c h => by simp [(ih x hx).2 c h]⟩
theorem between_good (hV : V e0) {a b : List S35} (ga : ∀ x ∈ a, GL P V x) (gb : ∀ x ∈ b, GL P V x) : ∀ c ∈ between a b, GC P V c := by
 intro c hc
 obtain ⟨x, hx, h⟩ := List.mem_filterMap.1 hc
 have hm := mg_vals a b x hx
 obtain ⟨u | u, v | v⟩ := x <;> simp only [btw] at h
 ·cases h
 ·cases h; have := gb v (hm.2 v rfl); exact ⟨this.1, hV, this.2, .inr rfl, (fun _ => rfl), (fun h => by cases h), fun h => by cases h⟩
 ·cases h; have := ga u (hm.1 u rfl); exact ⟨this.1, this.2, hV, .inl rfl, (fun h => by cases h), (fun _ => rfl), fun _ h => by cases h⟩
 ·split at h
  ·cases h
  ·cases h; have hu := ga u (hm.1 u rfl); have hv := gb v (hm.2 v rfl); exact ⟨hu.1, hu.2, hv.2, .inl rfl, (fun h => by cases h), (fun h => by cases h), fun _ _ => by assumption⟩
theorem between_self {a : List S35} (ha : Up S35.f0 a) : between a a = [] := by
 cases e : between a a with
 | nil => rfl
 | cons c l =>
  have := between_dif ha ha c.f0
  rw [e] at this
  unfold dif at this
  rw [look_cons_eq rfl] at this
  simp [D] at this
def back1 (c : S56) : S56 := ⟨c.f0, c.f3, c.f4, c.f1, c.f2⟩
def back (c : List S56) : List S56 := c.map back1
theorem back_eq (c : List S56) : back c = c.filterMap (fun x => some (back1 x)) := by
 unfold back; rw [List.filterMap_eq_map']
theorem back_up {c : List S56} (h : Up S56.f0 c) : Up S56.f0 (back c) := by rw [back_eq]; exact h.filterMap (fun a b e => by cases e; rfl)
theorem back_dif {c : List S56} (h : Up S56.f0 c) (p : K) : dif (back c) p = (dif c p).map Prod.swap := by
 unfold dif
 rw [back_eq, look_filterMap (fun a b e => by cases e; rfl) h]
 cases Row.look S56.f0 p c <;> rfl
theorem back_good {c : List S56} (g : ∀ x ∈ c, GC P V x) : ∀ x ∈ back c, GC P V x := by
 intro x hx
 obtain ⟨y, hy, rfl⟩ := List.mem_map.1 hx
 have h := g y hy
 exact ⟨h.path, h.v4, h.v2, h.some.symm, h.i0, h.w0, fun h1 h2 e => h.ne h2 h1 e.symm⟩
theorem between_back (hV : V e0) {a b : List S35} (ha : Up S35.f0 a) (hb : Up S35.f0 b) (ga : ∀ x ∈ a, GL P V x) (gb : ∀ x ∈ b, GL P V x) : back (between a b) = between b a := by
 refine chg_ext (P := P) (V := V) (back_up (between_up ha hb)) (between_up hb ha) (back_good (between_good hV ga gb)) (between_good hV gb ga) fun p => ?_
 rw [back_dif (between_up ha hb), between_dif ha hb, between_dif hb ha]
 unfold D
 by_cases e : val a p = val b p
 ·rw [if_pos e, if_pos e.symm]; rfl
 ·rw [if_neg e, if_neg (fun h => e h.symm)]; rfl
def wrong : Option S35 × Option S56 → Int
 | (_, none) => 0
 | (none, some c) => if c.f1 then 44 else 0
 | (some x, some c) => if c.f1 then (if x.f1 = c.f2 then 0 else 54) else 42
def put : Option S35 × Option S56 → Option S35
 | (x, none) => x
 | (_, some c) => if c.f3 then some ⟨c.f0, c.f4⟩ else none
def apply (l : List S35) (c : List S56) : List S35 × Int :=
 match (mg S35.f0 S56.f0 l c).find? (fun x => !decide (wrong x = 0)) with
 | some x => (l, wrong x)
 | none => ((mg S35.f0 S56.f0 l c).filterMap put, 0)
def fits (l : List S35) (c : List S56) : Prop := ∀ p x y, dif c p = some (x, y) → val l p = x
def after (l : List S35) (c : List S56) (p : K) : Option K := match dif c p with | none => val l p | some (_, y) => y
theorem wrong_zero (x : Option S35) (c : S56) : wrong (x, some c) = 0 ↔ x.map S35.f1 = c.was := by
 obtain ⟨p, a, u, b, v⟩ := c
 cases x with
 | none => cases a <;> simp [wrong, S56.was]
 | some x => cases a <;> simp [wrong, S56.was]
theorem wrong_ne {x : Option S35 × Option S56} : (!decide (wrong x = 0)) = true ↔ wrong x ≠ 0 := by simp
theorem mem_mg {l : List S35} {c : List S56} (hl : Up S35.f0 l) (hc : Up S56.f0 c) {x : Option S35 × Option S56} (hx : x ∈ mg S35.f0 S56.f0 l c) : both (Row.look S35.f0 (ik S35.f0 S56.f0 x) l) (Row.look S56.f0 (ik S35.f0 S56.f0 x) c) = some x := by
 rw [← mg_look _ hl hc]; exact look_mem (mg_up hl hc) hx
theorem both_some {α β : Type} {x : Option α} {y : Option β} {z : Option α × Option β} (h : both x y = some z) : z = (x, y) := by
 cases x <;> cases y <;> simp_all [both]
theorem apply_fits {l : List S35} {c : List S56} (hl : Up S35.f0 l) (hc : Up S56.f0 c) : (apply l c).2 = 0 ↔ fits l c := by
 unfold apply
 split
 next x hx =>
  have hw : wrong x ≠ 0 := wrong_ne.1 (List.find?_some (p := fun x => !decide (wrong x = 0)) hx)
  have hm := List.mem_of_find?_eq_some hx
  simp only [hw, false_iff]
  intro hf
  have hb := both_some (mem_mg hl hc hm)
  obtain ⟨u, v⟩ := x
  cases v with
  | none => exact hw (by cases u <;> rfl)
  | some d =>
   have h2 : Row.look S56.f0 (ik S35.f0 S56.f0 (u, some d)) c = some d := (congrArg Prod.snd hb).symm
   have h1 : Row.look S35.f0 (ik S35.f0 S56.f0 (u, some d)) l = u := (congrArg Prod.fst hb).symm
   refine hw ((wrong_zero u d).2 ?_)
   have := hf (ik S35.f0 S56.f0 (u, some d)) d.was d.is (by unfold dif; rw [h2]; rfl)
   unfold val at this; rw [h1] at this; exact this
 next hn =>
  simp only [true_iff]
  intro p x y h
  unfold dif at h
  cases e : Row.look S56.f0 p c with
  | none => rw [e] at h; cases h
  | some d =>
   rw [e] at h
   obtain ⟨rfl, rfl⟩ : d.was = x ∧ d.is = y := by simpa [S56.dif] using h
   have hm : Row.look (ik S35.f0 S56.f0) p (mg S35.f0 S56.f0 l c) = some (Row.look S35.f0 p l, some d) := by rw [mg_look p hl hc, e, both_r]
   have := List.find?_eq_none.1 hn _ (look_key hm).2
   unfold val
   exact (wrong_zero _ _).1 (by simpa using this)
theorem put_key' {l : List S35} {c : List S56} (hl : Up S35.f0 l) (hc : Up S56.f0 c) : ∀ x ∈ mg S35.f0 S56.f0 l c, ∀ a, put x = some a → a.f0 = ik S35.f0 S56.f0 x := by
 intro x hx a h
 obtain ⟨u | u, v | v⟩ := x <;> simp only [put] at h
 ·cases h
 ·split at h
  ·cases h; rfl
  ·cases h
 ·cases h; rfl
 ·split at h
  ·cases h
   have hb := both_some (mem_mg hl hc hx)
   exact (look_key (congrArg Prod.snd hb).symm).1
  ·cases h
def put' (x : Option S35 × Option S56) : Option S35 := (put x).map fun a => ⟨ik S35.f0 S56.f0 x, a.f1⟩
theorem put_eq {l : List S35} {c : List S56} (hl : Up S35.f0 l) (hc : Up S56.f0 c) : (mg S35.f0 S56.f0 l c).filterMap put = (mg S35.f0 S56.f0 l c).filterMap put' := by
 have gen : ∀ (xs : List (Option S35 × Option S56)), (∀ x ∈ xs, put x = put' x) → xs.filterMap put = xs.filterMap put' := by
  intro xs
  induction xs with
  | nil => intro _; rfl
  | cons y ys ih =>
   intro h
   rw [List.filterMap_cons, List.filterMap_cons, h y (by simp), ih fun x hx => h x (by simp [hx])]
 refine gen _ fun x hx => ?_
 unfold put'
 cases e : put x with
 | none => rfl
 | some a => rw [Option.map_some, ← put_key' hl hc x hx a e]
theorem put'_key (x : Option S35 × Option S56) (a : S35) (h : put' x = some a) : a.f0 = ik S35.f0 S56.f0 x := by
 unfold put' at h
 cases e : put x with
 | none => rw [e] at h; cases h
 | some b => rw [e] at h; cases h; rfl
theorem apply_ok {l : List S35} {c : List S56} (h : (apply l c).2 = 0) : (apply l c).1 = (mg S35.f0 S56.f0 l c).filterMap put := by
 unfold apply at h ⊢
 split at h
 next x hx => exact absurd h (wrong_ne.1 (List.find?_some (p := fun x => !decide (wrong x = 0)) hx))
 next hn => simp
theorem apply_not {l : List S35} {c : List S56} (h : (apply l c).2 ≠ 0) : (apply l c).1 = l := by
 unfold apply at h ⊢
 split at h
 next x hx => simp
 next hn => exact absurd rfl h
theorem apply_up {l : List S35} {c : List S56} (hl : Up S35.f0 l) (hc : Up S56.f0 c) : Up S35.f0 (apply l c).1 := by
 by_cases h : (apply l c).2 = 0
 ·rw [apply_ok h, put_eq hl hc]; exact (mg_up hl hc).filterMap put'_key
 ·rw [apply_not h]; exact hl
theorem apply_val {l : List S35} {c : List S56} (hl : Up S35.f0 l) (hc : Up S56.f0 c) (h : (apply l c).2 = 0) (p : K) : val (apply l c).1 p = after l c p := by
 rw [apply_ok h, put_eq hl hc]
 unfold val after dif
 rw [look_filterMap put'_key (mg_up hl hc), mg_look p hl hc]
 cases e1 : Row.look S35.f0 p l with
 | none => cases e2 : Row.look S56.f0 p c with
  | none => simp [val, e1]
  | some y => simp only [both_r, Option.bind_some, put', put, Option.map_some, S56.dif, S56.is]; cases y.f3 <;> rfl
 | some x => cases e2 : Row.look S56.f0 p c with
  | none => simp [put', put, val, e1]
  | some y => simp only [both_r, Option.bind_some, put', put, Option.map_some, S56.dif, S56.is]; cases y.f3 <;> rfl
theorem apply_between {a b : List S35} (ha : Up S35.f0 a) (hb : Up S35.f0 b) : apply a (between a b) = (b, 0) := by
 have hc := between_up ha hb
 have h0 : (apply a (between a b)).2 = 0 := (apply_fits ha hc).2 fun p x y h => by
  rw [between_dif ha hb] at h
  unfold D at h
  split at h
  ·cases h
  ·cases h; rfl
 refine Prod.ext (rows_ext (apply_up ha hc) hb fun p => ?_) h0
 rw [apply_val ha hc h0]
 unfold after
 rw [between_dif ha hb]
 unfold D
 by_cases e : val a p = val b p
 ·rw [if_pos e]; exact e
 ·rw [if_neg e]
def clash : Option S56 × Option S56 → Bool
 | (some x, some y) => !(x.f3 == y.f1) || !decide (x.f4 = y.f2)
 | _ => false
def jn : Option S56 × Option S56 → Option S56
 | (some x, none) => some x
 | (none, some y) => some y
 | (some x, some y) => if x.f1 = y.f3 ∧ x.f2 = y.f4 then none else some ⟨x.f0, x.f1, x.f2, y.f3, y.f4⟩
 | (none, none) => none
def join (c d : List S56) : List S56 × Int := if (mg S56.f0 S56.f0 c d).any clash = true then ([], 54) else ((mg S56.f0 S56.f0 c d).filterMap jn, 0)
def J : Option (Option K × Option K) → Option (Option K × Option K) → Option (Option K × Option K)
 | none, y => y
 | x, none => x
 | some (a, _), some (_, c) => if a = c then none else some (a, c)
end Go.Proofs.YtclamgljgnjkbaaGreatDoor.PD
end
